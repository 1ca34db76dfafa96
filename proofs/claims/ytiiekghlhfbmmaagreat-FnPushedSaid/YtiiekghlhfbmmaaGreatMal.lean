import Derived.Test.YtiiekghlhfbmmaaGreatMak
import Derived.Test.YtiiekghlhfbmmaaGreatMab
import Derived.IntWalk
import Derived.Laws.StructEq
set_option linter.all false
namespace Go.Proofs.YtiiekghlhfbmmaaGreat.Vf
open Go
open List (length getD)
open Int (toNat)
open Go.IntKind (wrap)
open BitVec (ofInt)
def Vd:=@Int.toNat_natCast
def Vw:=@Bool.true_and
def Wh:=@List.drop_length
def Wj:=@Bool.not_eq_false'
def Wp:=@List.drop_of_length_le
def Xs:=@List.mem_or_eq_of_mem_set
def Ys:=@Bool.false_and
def Zd:=@List.mem_iff_getElem
def Zt:=@List.not_mem_nil
def Zx:=@List.pairwise_iff_getElem
def Ixb:=@Nat.pow_succ
def Iyb:=@Int.tmod_eq_emod_of_nonneg
def Izb:=@Int.fdiv_eq_ediv_of_nonneg
def Jbb:=@Int.tdiv_eq_ediv_of_nonneg
def Jfb:=@Option.bind_none
def Jmb:=@List.find?_cons
def Jrb:=@Sum.elim_inr
def Jwb:=@Option.some.inj
def K2b:=@BitVec.toNat_and
def K4b:=@List.getElem_of_mem
def Kdb:=@BitVec.toNat_ofInt
def Keb:=@IntKind.wrap_u8
def Kfb:=@List.findIdx?_cons
def Kgb:=@List.findIdx?_eq_some_iff_getElem
def Kqb:=@List.Pairwise.sublist
def Krb:=@Nat.and_two_pow_sub_one_eq_mod
def Lgb:=@List.mem_of_find?_eq_some
def Lhb:=@Nat.mul_le_mul
def Llb:=@List.take_sublist
def Lqb:=@List.getElem_set
def Lub:=@Bool.and_eq_false_iff
def M4b:=@Nat.mul_comm

def Tot {α:Type} (f:Nat→Option α) (Q:α→Prop):Prop:=∃ r K,(∀ k,K≤k→f k=some r)∧Q r
section
variable {α β:Type} {f g:Nat→Option α} {Q Q':α→Prop}
def Tot.mono (h:Tot f Q) (hq:∀ a,Q a→Q' a):Tot f Q':=by
 obtain⟨r,K,h1,h2⟩:=h
 exact⟨r,K,h1,hq r h2⟩
def Igb {a:α} (h:Q a):Tot (λ _=>some a) Q:=⟨a,0,λ _ _=>rfl,h⟩
def Itb {o:Option α} {a:α} (e:o=some a) (h:Q a):Tot (λ _=>o) Q:=⟨a,0,λ _ _=>e,h⟩
def Ihb {h:Nat→α→Option β} {R:β→Prop} (hf:Tot f Q) (hh:∀ a,Q a→Tot (λ k=>h k a) R):Tot (λ k=>(f k).bind (h k)) R:=by
 obtain⟨a,K,h1,h2⟩:=hf
 obtain⟨b,L,h3,h4⟩:=hh a h2
 exact⟨b,max K L,λ k hk=>by show (f k).bind (h k)=_;rw[h1 k (by omega)];exact h3 k (by omega),h4⟩
def Ijb {c:Bool} (hc:c=true) (h:Tot f Q):Tot (λ k=>cond c (f k) (g k)) Q:=by subst hc;exact h
def Iib {c:Bool} (hc:c=false) (h:Tot g Q):Tot (λ k=>cond c (f k) (g k)) Q:=by subst hc;exact h
def Imb {c:Bool} (h1:c=true→Tot f Q) (h2:c=false→Tot g Q):Tot (λ k=>cond c (f k) (g k)) Q:=by
 cases hc:c with
 |true=>exact h1 hc
 |false=>exact h2 hc
def Ikb {p:Prop} [Decidable p] (hp:p) (h:Tot f Q):Tot (λ k=>cond (decide p) (f k) (g k)) Q:=Ijb (decide_eq_true hp) h
def Ilb {p:Prop} [Decidable p] (hp:¬ p) (h:Tot g Q):Tot (λ k=>cond (decide p) (f k) (g k)) Q:=Iib (decide_eq_false hp) h
def Inb {p:Prop} [Decidable p] (h1:p→Tot f Q) (h2:¬ p→Tot g Q):Tot (λ k=>cond (decide p) (f k) (g k)) Q:=
 Imb (λ h=>h1 (of_decide_eq_true h)) (λ h=>h2 (of_decide_eq_false h))
def Iob {m n:Nat} (hp:m≤n) (h:Tot f Q):Tot (λ k=>cond (Nat.ble m n) (f k) (g k)) Q:=Ijb (Zn hp) h
def Isb {v:α} {h:Nat→α→Option β} {R:β→Prop} (hf:Tot f (λ r=>r=v)) (hh:Tot (λ k=>h k v) R):Tot (λ k=>(f k).bind (h k)) R:=
 Ihb hf (by rintro r rfl;exact hh)
def Tot.succ (h:Tot (λ k=>f (k+1)) Q):Tot f Q:=by
 obtain⟨r,K,h1,h2⟩:=h
 exact⟨r,K+1,λ k hk=>by obtain⟨m,rfl⟩:∃ m,k=m+1:=⟨k-1,by omega⟩;exact h1 m (by omega),h2⟩
def Tot.and (h:Tot f Q) (h':Tot f Q'):Tot f (λ a=>Q a∧Q' a):=by
 obtain⟨r,K,h1,h2⟩:=h
 obtain⟨r',K',h1',h2'⟩:=h'
 have e:r=r':=by
  have a1:=h1 (max K K') (by omega)
  have a2:=h1' (max K K') (by omega)
  rw[a1]at a2
  exact Jwb a2
 subst e
 exact⟨r,K,h1,h2,h2'⟩
def Tot.law {f:Nat→Option Bool} (h:Tot f (λ b=>b=true)):∃ k,f k=some true:=by
 obtain⟨r,K,h1,h2⟩:=h
 subst h2
 exact⟨K,h1 K (Vv _)⟩
end
def w64 {n:Int} (h1 : -9223372036854775808≤n) (h2:n≤9223372036854775807):wrap .i64 n=n:=Go.IntWalk.i64_in n ⟨h1,h2⟩
def D0a (n:Int) : -9223372036854775808≤wrap .i64 n∧wrap .i64 n≤9223372036854775807:=by
 rw[IntKind.wrap_i64]
 omega
def H8a (n:Int):0≤wrap .u8 n∧wrap .u8 n≤255:=by
 simp only[wrap,IntKind.signed,IntKind.bits]
 simp
 omega
def Mua (x m:Int) (h0:0≤m) (h1:m<9223372036854775808):0≤wrap .i64 ((ofInt (IntKind.bits .i64) x &&& ofInt (IntKind.bits .i64) m).toNat)∧wrap .i64 ((ofInt (IntKind.bits .i64) x &&& ofInt (IntKind.bits .i64) m).toNat)≤m:=by
 have hm:(ofInt (IntKind.bits .i64) m).toNat=m.toNat:=by
  rw[Kdb]
  show (m % ((2 ^ 64:Nat):Int)).toNat=m.toNat
  rw[Int.emod_eq_of_lt h0 (by omega)]
 have hle:(ofInt (IntKind.bits .i64) x &&& ofInt (IntKind.bits .i64) m).toNat≤m.toNat:=by
  rw[K2b,hm]
  exact Nat.and_le_right
 rw[w64 (by omega) (by omega)]
 omega
def Taa {x n:Int} (hx:0≤x) (hn:0<n):0≤Int.tmod x n∧Int.tmod x n<n:=by
 rw[Iyb hx]
 exact⟨Int.emod_nonneg _ (by omega),Int.emod_lt_of_pos _ hn⟩

abbrev Cur:=List Int×Int×Int
def Bj (c:Cur):Prop:=(c.1.length:Int)≤1048576∧0≤c.2.1∧c.2.1≤1048576
def Pha (b:List Int) (hb:(b.length:Int)≤1048576):∀ (n:Nat) (h i:Int),0≤i→i+n=4001→Tot (λ k=>Hu k b h i) (λ r=>r.1=b):=by
 intro n
 induction n with
 |zero=>
  intro h i h0 hi
  refine Tot.succ ?_
  simp only[Hu]
  refine Inb (λ h1=>?_) (λ h1=>Igb rfl)
  exact Ilb (by omega) (Igb rfl)
 |succ n ih=>
  intro h i h0 hi
  refine Tot.succ ?_
  simp only[Hu]
  refine Inb (λ h1=>?_) (λ h1=>Igb rfl)
  refine Inb (λ h2=>?_) (λ h2=>Igb rfl)
  refine Ikb h0 (Ikb h1 ?_)
  rw[w64 (n:=i+1) (by omega) (by omega)]
  exact ih _ _ (by omega) (by omega)
def Tba (b:List Int) (hb:(b.length:Int)≤1048576):Tot (λ k=>Kl k b) Bj:=by
 unfold Kl
 refine Ihb (Pha b hb 4001 _ 0 (by omega) (by omega)) (λ r hr=>?_)
 exact Igb ⟨by rw[hr];exact hb,J3b 0,by show (0:Int)≤1048576;omega⟩
def Rk (c:Cur) (hc:Bj c):∃ x c',Fg c=some (x,c')∧0≤x∧x≤255∧Bj c':=by
 obtain⟨h1,h2,h3⟩:=hc
 unfold Fg
 by_cases hlt:c.2.1<(c.1.length:Int)
 ·simp only[hlt,h2,decide_true,cond_true]
  obtain⟨a1,a2⟩:=Mua (wrap .i64 ((wrap .i64 ((ofInt (IntKind.bits .i64) (wrap .i64 ((ofInt (IntKind.bits .i64) (Int.fdiv (wrap .i64 ((wrap .i64 (c.2.2*6364136223846793005))+1442695040888963407)) (2 ^ (min (toNat 33) (IntKind.bits .i64)))) ^^^ ofInt (IntKind.bits .i64) (Int.fdiv (wrap .i64 ((wrap .i64 (c.2.2*6364136223846793005))+1442695040888963407)) (2 ^ (min (toNat 47) (IntKind.bits .i64))))).toNat)) &&& ofInt (IntKind.bits .i64) 255).toNat))+(wrap .i64 (getD c.1 (toNat c.2.1) (0:Int))))) 255 (by omega) (by omega)
  refine⟨_,_,rfl,a1,a2,h1,?_,?_⟩
  ·show 0≤wrap .i64 (c.2.1+1)
   rw[w64 (by omega) (by omega)]
   omega
  ·show wrap .i64 (c.2.1+1)≤1048576
   rw[w64 (by omega) (by omega)]
   omega
 ·simp only[hlt,decide_false,cond_false]
  obtain⟨a1,a2⟩:=Mua (wrap .i64 ((ofInt (IntKind.bits .i64) (Int.fdiv (wrap .i64 ((wrap .i64 (c.2.2*6364136223846793005))+1442695040888963407)) (2 ^ (min (toNat 33) (IntKind.bits .i64)))) ^^^ ofInt (IntKind.bits .i64) (Int.fdiv (wrap .i64 ((wrap .i64 (c.2.2*6364136223846793005))+1442695040888963407)) (2 ^ (min (toNat 47) (IntKind.bits .i64))))).toNat)) 255 (by omega) (by omega)
  exact⟨_,_,rfl,a1,a2,h1,h2,h3⟩
def Ad (c:Cur) (hc:Bj c) (n:Int) (hn:n≤1000000000):∃ x c',A3 c n=some (x,c')∧0≤x∧(0<n→x<n)∧(n≤0→x=0)∧Bj c':=by
 unfold A3
 by_cases h0:n≤0
 ·exact⟨0,c,by simp only[h0,decide_true,cond_true],by omega,by omega,λ _=>rfl,hc⟩
 ·by_cases h1:n≤256
  ·obtain⟨x,c',e,b0,b1,k⟩:=Rk c hc
   have hz:¬ n=0:=by omega
   have:=Taa b0 (show 0<n by omega)
   exact⟨Int.tmod x n,c',by simp only[h0,h1,hz,decide_true,decide_false,cond_true,cond_false,e,Vm],this.1,λ _=>this.2,λ h=>by omega,k⟩
  ·obtain⟨x,c1,e1,b0,b1,k1⟩:=Rk c hc
   obtain⟨y,c2,e2,b2,b3,k2⟩:=Rk c1 k1
   obtain⟨z,c3,e3,b4,b5,k3⟩:=Rk c2 k2
   have hz:¬ n=0:=by omega
   have:=Taa (show 0≤x*65536+y*256+z by omega) (show 0<n by omega)
   refine⟨Int.tmod (x*65536+y*256+z) n,c3,?_,this.1,λ _=>this.2,λ h=>by omega,k3⟩
   simp only[h0,h1,hz,decide_false,cond_false,e1,e2,e3,Vm]
   rw[w64 (n:=x*65536) (by omega) (by omega),w64 (n:=y*256) (by omega) (by omega),w64 (n:=x*65536+y*256) (by omega) (by omega),w64 (n:=x*65536+y*256+z) (by omega) (by omega)]
def Mva {α:Type} {l:List α} {i:Int} {d:α} (h0:0≤i) (h1:i<(l.length:Int)):l.getD i.toNat d∈l:=by
 have h:i.toNat<l.length:=by omega
 rw[Vb,Vk h]
 exact Ktb h
def Jh (c:Cur) (hc:Bj c) (l:List Int) (hl:0<l.length) (hm:l.length≤2000000):∃ x c',Aa c l=some (x,c')∧x∈l∧Bj c':=by
 obtain⟨i,c',e,b0,b1,_,k⟩:=Ad c hc (l.length:Int) (by omega)
 have b1:=b1 (by omega)
 refine⟨l.getD i.toNat 0,c',?_,Mva b0 b1,k⟩
 unfold Aa
 simp only[e,Vm,b0,b1,decide_true,cond_true]
def Mwa (c:Cur) (hc:Bj c) (l:List ByteArray) (hl:0<l.length) (hm:l.length≤2000000):∃ x c',Jf c l=some (x,c')∧x∈l∧Bj c':=by
 obtain⟨i,c',e,b0,b1,_,k⟩:=Ad c hc (l.length:Int) (by omega)
 have b1:=b1 (by omega)
 refine⟨l.getD i.toNat (⟨#[]⟩:ByteArray),c',?_,Mva b0 b1,k⟩
 unfold Jf
 simp only[e,Vm,b0,b1,decide_true,cond_true]
def Ai (l:List Int):Prop:=∀ x∈l,0≤x∧x≤255
def H9a (m:Int) (hm:m≤1000):∀ (n:Nat) (l:List Int) (i:Int) (c:Cur),Bj c→0≤i→i≤max m 0→(max m 0)-i=n→(l.length:Int)=i→Ai l→
  Tot (λ k=>Fm k m l i c.1 c.2.1 c.2.2) (λ r=>Bj r.2∧Ai r.1∧(r.1.length:Int)=max m 0):=by
 intro n
 induction n with
 |zero=>
  intro l i c hc h0 h1 hn hl hb
  refine Tot.succ ?_
  simp only[Fm]
  refine Ilb (by omega) (Igb ⟨hc,hb,by show (l.length:Int)=_;omega⟩)
 |succ n ih=>
  intro l i c hc h0 h1 hn hl hb
  refine Tot.succ ?_
  simp only[Fm]
  refine Ikb (by omega) ?_
  obtain⟨x,c',e,b0,b1,k⟩:=Rk c hc
  refine Isb (Itb (Q:=λ r=>r=(x,c')) e rfl) ?_
  refine Iob (by simp only[Vc,Vi];omega) ?_
  rw[w64 (n:=i+1) (by omega) (by omega)]
  refine ih _ _ c' k (by omega) (by omega) (by omega) (by simp only[Ve,Vc,Vi];omega) ?_
  intro y hy
  rcases Vo.1 hy with hy|hy
  ·exact hb y hy
  ·simp only[Vt]at hy
   subst hy
   exact H8a _
def D1a (c:Cur) (hc:Bj c):Tot (λ k=>Dn k c) (λ r=>Bj r.2∧Ai r.1∧(r.1.length:Int)≤9):=by
 unfold Dn
 obtain⟨x,c',e,hx,k⟩:=Jh c hc [0,1,2,5,9] (by decide) (by decide)
 have hx':0≤x∧x≤9:=by
  simp only[Vl,Zt,or_false]at hx
  omega
 refine Isb (Itb (Q:=λ r=>r=(x,c')) e rfl) ?_
 refine Ihb (Q:=λ r=>Bj r.2∧Ai r.1∧(r.1.length:Int)≤9) ?_ (λ r hr=>Igb hr)
 unfold Fn
 refine Ihb (H9a x (by omega) (max x 0-0).toNat [] 0 c' k (by omega) (by omega) (by omega) rfl (by intro y hy;simp at hy)) (λ r hr=>Igb ?_)
 exact⟨hr.1,hr.2.1,by show (r.1.length:Int)≤9;rw[hr.2.2];omega⟩
def Ks (c:Cur) (hc:Bj c) (n:Int) (hn:n≤1000000000):∃ x c',B7 c n=some (x,c')∧Bj c':=by
 obtain⟨x,c',e,_,_,_,k⟩:=Ad c hc n hn
 exact⟨x==0,c',by unfold B7;simp only[e,Vm],k⟩
abbrev Stp:=Int×Int×Int
abbrev Row:=ByteArray×Stp×Bool×Int
abbrev Fil:=Stp×Bool×List Int
def Kba (s:Stp):Prop:=0≤s.1∧s.1≤1000000000∧0≤s.2.1∧s.2.1≤1000000∧0≤s.2.2∧s.2.2≤20
def Ld:List ByteArray:=[(⟨#[97]⟩:ByteArray),(⟨#[98]⟩:ByteArray),(⟨#[99,97,116,47,49]⟩:ByteArray),(⟨#[99,97,116,47,50]⟩:ByteArray),(⟨#[100,111,103]⟩:ByteArray),(⟨#[120,45,49]⟩:ByteArray)]
def M5 (c:Cur) (hc:Bj c):∃ x c',B2 c=some (x,c')∧x∈Ld∧Bj c':=by
 obtain⟨x,c',e,hx,k⟩:=Mwa c hc Ld (by decide) (by decide)
 exact⟨x,c',by unfold B2;unfold Ld at e;simp only[e,Vm],hx,k⟩
def Haa (c:Cur) (hc:Bj c):∃ x c',I2 c=some (x,c')∧Kba x∧Bj c':=by
 obtain⟨x,c1,e1,hx,k1⟩:=Jh c hc [0,1,2,3,1000000000] (by decide) (by decide)
 obtain⟨y,c2,e2,y0,y1,_,k2⟩:=Ad c1 k1 3 (by decide)
 obtain⟨z,c3,e3,z0,z1,_,k3⟩:=Ad c2 k2 3 (by decide)
 have y1:=y1 (by decide)
 have z1:=z1 (by decide)
 simp only[Vl,Zt,or_false]at hx
 exact⟨(x,y,z),c3,by unfold I2;simp only[e1,e2,e3,Vm],⟨by show 0≤x;omega,by show x≤_;omega,y0,by show y≤_;omega,z0,by show z≤_;omega⟩,k3⟩
def A7b (f:Fil):Prop:=Kba f.1∧Ai f.2.2∧(f.2.2.length:Int)≤9∧(f.2.1=true→f.2.2=[])
def No (c:Cur) (hc:Bj c):Tot (λ k=>C4 k c) (λ r=>A7b r.1∧Bj r.2):=by
 unfold C4
 obtain⟨s,c1,e1,hs,k1⟩:=Haa c hc
 obtain⟨b,c2,e2,k2⟩:=Ks c1 k1 4 (by decide)
 refine Isb (Itb (Q:=λ r=>r=(s,c1)) e1 rfl) ?_
 refine Isb (Itb (Q:=λ r=>r=(b,c2)) e2 rfl) ?_
 refine Imb (λ hb=>?_) (λ hb=>Igb ⟨⟨hs,by intro y hy;simp at hy,by show ((([]:List Int).length:Nat):Int)≤9;decide,λ _=>rfl⟩,k2⟩)
 refine Ihb (D1a c2 k2) (λ r hr=>Igb ⟨⟨hs,hr.2.1,hr.2.2,λ h=>?_⟩,hr.1⟩)
 simp only[Vx]at hb
 have h':b=true:=h
 rw[hb]at h'
 cases h'
def Ckb (x:Row):Prop:=x.1∈Ld∧Kba x.2.1∧0≤x.2.2.2∧x.2.2.2≤9∧(x.2.2.1=true→x.2.2.2=0)
def D2a (c:Cur) (hc:Bj c):Tot (λ k=>I4 k c) (λ r=>Ckb r.1∧Bj r.2):=by
 unfold I4
 obtain⟨s,c1,e1,hs,k1⟩:=M5 c hc
 refine Isb (Itb (Q:=λ r=>r=(s,c1)) e1 rfl) ?_
 refine Ihb (No c1 k1) (λ r hr=>?_)
 obtain⟨⟨h1,h2,h3,h4⟩,k2⟩:=hr
 unfold Ie
 refine Isb (Igb (Q:=λ y=>y=(s,r.1.1,r.1.2.1,(r.1.2.2.length:Int))) rfl) ?_
 refine Igb ⟨⟨hs,h1,by show (0:Int)≤(r.1.2.2.length:Int);omega,h3,λ h=>?_⟩,k2⟩
 show (r.1.2.2.length:Int)=0
 rw[h4 h]
 rfl

def Hba:∀ (a:List UInt8),Op.bytesLess a a=false
 |[]=>rfl
 |a::l=>by simp[Op.bytesLess,Hba l]
def Mxa:∀ (a b c:List UInt8),Op.bytesLess a b=true→Op.bytesLess b c=true→Op.bytesLess a c=true
 |_,[],_,h,_=>by simp[Op.bytesLess]at h
 |_,_::_,[],_,h=>by simp[Op.bytesLess]at h
 |[],_::_,_::_,_,_=>rfl
 |a::x,b::y,c::z,h1,h2=>by
  simp only[Op.bytesLess,J2b,Va,decide_eq_true_eq,beq_iff_eq]at h1 h2 ⊢
  rcases h1 with h1|⟨rfl,h1⟩
  ·rcases h2 with h2|⟨rfl,h2⟩
   ·exact .inl (UInt8.lt_trans h1 h2)
   ·exact .inl h1
  ·rcases h2 with h2|⟨rfl,h2⟩
   ·exact .inl h2
   ·exact .inr ⟨rfl,Mxa x y z h1 h2⟩
def A8b:∀ (a b:List UInt8),Op.bytesLess a b=false→Op.bytesLess b a=false→a=b
 |[],[],_,_=>rfl
 |[],_::_,h,_=>by simp[Op.bytesLess]at h
 |_::_,[],_,h=>by simp[Op.bytesLess]at h
 |a::x,b::y,h1,h2=>by
  simp only[Op.bytesLess,Bool.or_eq_false_iff,Lub,decide_eq_false_iff_not]at h1 h2
  have hab:a=b:=by
   have h3:=UInt8.not_lt.1 h1.1
   have h4:=UInt8.not_lt.1 h2.1
   exact UInt8.le_antisymm h4 h3
  subst hab
  rw[A8b x y (h1.2.resolve_left (by simp)) (h2.2.resolve_left (by simp))]
def tlt (a b:ByteArray):Bool:=Op.bytesLess a.toList b.toList
def teq (a b:ByteArray):Bool:=a.toList==b.toList
def D3a {a b:ByteArray} (h:a.toList=b.toList):a=b:=by
 rw[ByteArray.toList_eq,ByteArray.toList_eq]at h
 obtain⟨⟨x⟩⟩:=a
 obtain⟨⟨y⟩⟩:=b
 simp only at h
 rw[h]
def Cy {a b:ByteArray}:teq a b=true↔a=b:=by
 unfold teq
 rw[beq_iff_eq]
 exact⟨D3a,λ h=>by rw[h]⟩
def G8 (a:ByteArray):tlt a a=false:=Hba _
def Mv {a b c:ByteArray} (h:tlt a b=true) (h':tlt b c=true):tlt a c=true:=Mxa _ _ _ h h'
def Aqa {a b:ByteArray} (h:tlt a b=false) (h':tlt b a=false):a=b:=D3a (A8b _ _ h h')
def Ud {a b:ByteArray} (h:tlt a b=true):tlt b a=false:=by
 cases hb:tlt b a
 ·rfl
 have:=Mv h hb
 rw[G8]at this
 cases this
def Mya (a b:ByteArray):(!(Op.bytesLess a.toList b.toList||a.toList==b.toList))=tlt b a:=by
 show (!(tlt a b||teq a b))=tlt b a
 cases h1:tlt a b
 case true=>rw[Ud h1];rfl
 cases h2:teq a b
 case true=>rw[Cy.1 h2,G8];rfl
 cases h3:tlt b a
 case true=>rfl
 exfalso
 have:=Aqa h1 h3
 rw[Cy.2 this]at h2
 cases h2
def sle (a b:Stp):Bool:=cond (a.1 != b.1) (decide (a.1<b.1)) (cond (a.2.1 != b.2.1) (decide (a.2.1<b.2.1)) (decide (a.2.2<b.2.2)))
def Ena (a b:Stp):C7 a b=some (sle a b):=by
 unfold C7 sle
 cases a.1 != b.1<;>cases a.2.1 != b.2.1<;>rfl
def Mza (a b:Stp):Dx a b=some (sle a b):=by
 unfold Dx sle
 cases a.1 != b.1<;>cases a.2.1 != b.2.1<;>rfl
def Om {a b:Stp}:sle a b=true↔a.1<b.1∨(a.1=b.1∧(a.2.1<b.2.1∨(a.2.1=b.2.1∧a.2.2<b.2.2))):=by
 unfold sle
 by_cases h1:a.1=b.1
 ·by_cases h2:a.2.1=b.2.1
  ·simp[h1,h2]
  ·have:(a.2.1 != b.2.1)=true:=by simpa using h2
   simp[h1,this,h2]
 ·have:(a.1 != b.1)=true:=by simpa using h1
  simp[this,h1]
def M0 (a b:Row):Bool:=cond (!((a.2.1.1==b.2.1.1)&&((a.2.1.2.1==b.2.1.2.1)&&(a.2.1.2.2==b.2.1.2.2)))) (sle a.2.1 b.2.1) (cond (!(a.2.2.1==b.2.2.1)) b.2.2.1 (decide (a.2.2.2<b.2.2.2)))
def Kca (a b:Row):J7 a b=some (M0 a b):=by
 unfold J7 M0
 rw[Ena]
 cases (!((a.2.1.1==b.2.1.1)&&((a.2.1.2.1==b.2.1.2.1)&&(a.2.1.2.2==b.2.1.2.2))))<;>cases (!(a.2.2.1==b.2.2.1))<;>rfl
def Mq:Row:=((⟨#[]⟩:ByteArray),(((0:Int),((0:Int),(0:Int))),(false,(0:Int))))
def Ara (s:ByteArray):List Row→Nat→Option Nat
 |[],_=>none
 |r::l,i=>bif teq r.1 s then some i else Ara s l (i+1)
def C1a (l:List Row) (s:ByteArray):Nat→Nat
 |0=>0
 |k+1=>bif tlt s (l.getD k Mq).1 then C1a l s k else k+1
def mrg (l:List Row) (x:Row):List Row:=match Ara x.1 l 0 with
 |some i=>bif M0 (l.getD i Mq) x then l.set i x else l
 |none=>l.take (C1a l x.1 l.length)++x::l.drop (C1a l x.1 l.length)
def Eoa (l:List Row) (s:ByteArray):∀ k,C1a l s k≤k
 |0=>Vv _
 |k+1=>by
  unfold C1a
  cases tlt s (l.getD k Mq).1 with
  |true=>have:=Eoa l s k;simp only[cond_true];omega
  |false=>simp only[cond_false];omega
def Sh {s:ByteArray}:∀ (l:List Row) (i j:Nat),Ara s l i=some j→i≤j∧j<i+l.length∧teq (l.getD (j-i) Mq).1 s=true
 |[],i,j,h=>by simp[Ara]at h
 |r::l,i,j,h=>by
  unfold Ara at h
  cases ht:teq r.1 s with
  |true=>
   rw[ht]at h
   simp only[cond_true,Vg]at h
   subst h
   refine⟨Vv _,by simp,?_⟩
   rw[Jqb]
   exact ht
  |false=>
   rw[ht]at h
   simp only[cond_false]at h
   obtain⟨h1,h2,h3⟩:=Sh l (i+1) j h
   refine⟨by omega,by simp only[Vc];omega,?_⟩
   rw[show j-i=(j-(i+1))+1 by omega]
   exact h3
def Au {α:Type} {l:List α} {i:Nat} {d:α} (h:i<l.length):l.drop i=l.getD i d::l.drop (i+1):=by
 rw[Ze h,Vb,Vk h]
 rfl
def Few (l:List Row):Prop:=l.length≤1000000000000
def Hca (x:Row):∀ (n:Nat) (l:List Row) (i:Nat),l.length-i=n→i≤l.length→Few l→
  Tot (λ k=>Ei k l (i:Int) x.1 x.2.1.1 x.2.1.2.1 x.2.1.2.2 x.2.2.1 x.2.2.2) (λ r=>r=match Ara x.1 (l.drop i) i with
   |some j => .inl (bif M0 (l.getD j Mq) x then l.set j x else l)
   |none => .inr (l,x.1,x.2.1.1,x.2.1.2.1,x.2.1.2.2,x.2.2.1,x.2.2.2)):=by
 intro n
 induction n with
 |zero=>
  intro l i hn hi hf
  unfold Few at hf
  refine Tot.succ ?_
  simp only[Ei]
  refine Ilb (by omega) (Igb ?_)
  rw[Wp (by omega)]
  rfl
 |succ n ih=>
  intro l i hn hi hf
  have hf':=hf
  unfold Few at hf
  have hlt:i<l.length:=by omega
  refine Tot.succ ?_
  simp only[Ei]
  refine Ikb (by omega) (Ikb (by omega) (Ikb (by omega) ?_))
  have e0:toNat (i:Int)=i:=Vd i
  rw[e0,Au (d:=Mq) hlt]
  refine Imb (λ ht=>?_) (λ ht=>?_)
  ·have ht':teq (l.getD i Mq).1 x.1=true:=ht
   refine Ikb (by omega) (Ikb (by omega) ?_)
   refine Isb (Itb (Q:=λ r=>r=M0 (l.getD i Mq) x) (Kca _ _) rfl) ?_
   simp only[Ara,ht',cond_true]
   cases hb:M0 (l.getD i Mq) x with
   |true=>exact Ijb rfl (Ikb (by omega) (Ikb (by omega) (Igb rfl)))
   |false=>exact Iib rfl (Igb rfl)
  ·have ht':teq (l.getD i Mq).1 x.1=false:=ht
   simp only[Ara,ht',cond_false]
   rw[w64 (n:=(i:Int)+1) (by omega) (by omega)]
   exact ih l (i+1) (by omega) (by omega) hf'
def N0a (l:List Row) (hf:Few l):He l=some l:=by
 unfold Few at hf
 unfold He
 rw[Zn (by simp only[Vi];omega)]
 rfl
def Epa (x:Row) (l:List Row) (hf:Few l):∀ (i:Nat) (y:Row),i≤l.length→
  Tot (λ k=>Dl k (l.take i++y::l.drop i) (i:Int) x.1 x.2.1.1 x.2.1.2.1 x.2.1.2.2 x.2.2.1 x.2.2.2)
   (λ r=>∃ y',r=(l.take (C1a l x.1 i)++y'::l.drop (C1a l x.1 i),(C1a l x.1 i:Int),x.1,x.2.1.1,x.2.1.2.1,x.2.1.2.2,x.2.2.1,x.2.2.2)):=by
 unfold Few at hf
 intro i
 induction i with
 |zero=>
  intro y hi
  refine Tot.succ ?_
  simp only[Dl]
  exact Ilb (by omega) (Igb ⟨y,rfl⟩)
 |succ i ih=>
  intro y hi
  refine Tot.succ ?_
  simp only[Dl]
  have hlen:(l.take (i+1)++y::l.drop (i+1)).length=l.length+1:=by simp only[Ve,Vu,Vc,We];omega
  have hget:∀ z,(l.take (i+1)++y::l.drop (i+1)).getD i z=l.getD i z:=by
   intro z
   rw[Vb,Vb,Ye (by rw[Vu];omega),List.getElem?_take_of_lt (by omega)]
  rw[w64 (n:=((i+1:Nat):Int)-1) (by omega) (by omega),show ((i+1:Nat):Int)-1=(i:Int) by omega,show toNat (i:Int)=i from Vd i,show toNat ((i+1:Nat):Int)=i+1 from Vd _,hget,hlen]
  refine Ikb (by omega) (Ikb (by omega) (Ikb (by omega) ?_))
  have e:∀ z,(!(Op.bytesLess (l.getD i z).1.toList x.1.toList||(l.getD i z).1.toList==x.1.toList))=tlt x.1 (l.getD i z).1:=λ z=>Mya _ _
  rw[e]
  have hc:C1a l x.1 (i+1)=bif tlt x.1 (l.getD i Mq).1 then C1a l x.1 i else i+1:=rfl
  refine Imb (λ ht=>?_) (λ ht=>?_)
  ·have ht':tlt x.1 (l.getD i Mq).1=true:=ht
   rw[hc,ht',cond_true]
   refine Ikb (by omega) (Ikb (by omega) (Ikb (by omega) (Ikb (by omega) ?_)))
   have hset:(l.take (i+1)++y::l.drop (i+1)).set (i+1) (l.getD i ((⟨#[]⟩:ByteArray),(((0:Int),((0:Int),(0:Int))),(false,(0:Int)))))=l.take i++l.getD i Mq::l.drop i:=by
    rw[List.set_append,if_neg (by rw[Vu];omega),Vu,Zw hi,Jqb,L9b,Au (d:=Mq) (show i<l.length by omega)]
    rw[List.take_add_one,Vk (show i<l.length by omega)]
    simp only[Lcb,Vp,Yk]
    rw[Vb,Vb,Vk (show i<l.length by omega)]
    rfl
   rw[hset]
   exact ih _ (by omega)
  ·have ht':tlt x.1 (l.getD i Mq).1=false:=ht
   rw[hc,ht',cond_false]
   exact Igb ⟨y,rfl⟩
def Hda (l:List Row) (x:Row) (hf:Few l):Tot (λ k=>Bs k l x) (λ r=>r=mrg l x):=by
 have hf':=hf
 unfold Few at hf
 unfold Bs
 refine Iob (by simp only[Vi];omega) ?_
 rw[Vz]
 refine Isb (Hca x _ l 0 rfl (Vs _) hf') ?_
 rw[Ya]
 unfold mrg
 cases hfi:Ara x.1 l 0 with
 |some j=>exact Igb rfl
 |none=>
  simp only[Jrb]
  refine Iob (by simp only[Vc,Vi];omega) ?_
  have h0:=Epa x l hf' l.length x (Vv _)
  rw[Yi,Wh]at h0
  refine Ihb h0 ?_
  rintro z ⟨y',rfl⟩
  have hc:=Eoa l x.1 l.length
  have hlen:(l.take (C1a l x.1 l.length)++y'::l.drop (C1a l x.1 l.length)).length=l.length+1:=by simp only[Ve,Vu,Vc,We];omega
  simp only
  rw[show toNat ((C1a l x.1 l.length:Nat):Int)=C1a l x.1 l.length from Vd _,hlen]
  refine Ikb (by omega) (Ikb (by omega) (Igb ?_))
  rw[List.set_append,if_neg (by rw[Vu];omega),Vu,Zw hc,Jqb,L9b]

def Y7 (a b:ByteArray):(a==b)=teq a b:=beq_toListBytes a b
def W6 {s:ByteArray}:∀ (l:List Row) (i:Nat),Ara s l i=none→∀ r∈l,r.1≠s
 |[],_,_,r,hr=>by simp at hr
 |a::l,i,h,r,hr=>by
  unfold Ara at h
  cases ht:teq a.1 s
  case true=>rw[ht]at h;simp at h
  rw[ht]at h
  rcases Vl.1 hr with rfl|hr
  ·intro e
   rw[Cy.2 e]at ht
   cases ht
  ·exact W6 l (i+1) h r hr
def Kda (l:List Row) (x:Row):l.length≤(mrg l x).length∧(mrg l x).length≤l.length+1:=by
 unfold mrg
 have hc:=Eoa l x.1 l.length
 split
 ·cases M0 (l.getD _ Mq) x<;>simp
 ·simp only[Ve,Vu,Vc,We]
  omega
def Kea {l:List Row} {x r:Row} (h:r∈mrg l x):r=x∨r∈l:=by
 unfold mrg at h
 split at h
 ·rename_i j hj
  cases hb:M0 (l.getD j Mq) x
  ·rw[hb]at h;exact .inr h
  rw[hb,cond_true]at h
  rcases Xs h with h|h
  ·exact .inr h
  ·exact .inl h
 ·rcases Vo.1 h with h|h
  ·exact .inr (J4b h)
  ·rcases Vl.1 h with h|h
   ·exact .inl h
   ·exact .inr (Zo h)
def Jt (a:Stp):sle a a=false:=by
 cases h:sle a a with
 |false=>rfl
 |true=>rw[Om]at h;omega
def Bo (l:List Row):Prop:=l.Pairwise (λ a b=>tlt a.1 b.1=true)
def Hea {l:List Row} {s:ByteArray} (hs:Bo l) (hn:∀ r∈l,r.1≠s):∀ k,k≤l.length→(∀ i,i<C1a l s k→tlt (l.getD i Mq).1 s=true)∧(∀ i,C1a l s k≤i→i<k→tlt s (l.getD i Mq).1=true)
 |0,_=>⟨λ i hi=>by simp[C1a]at hi,λ i _ hi=>by omega⟩
 |k+1,hk=>by
  unfold C1a
  cases ht:tlt s (l.getD k Mq).1 with
  |true=>
   simp only[cond_true]
   obtain⟨h1,h2⟩:=Hea hs hn k (by omega)
   refine⟨h1,λ i hi hik=>?_⟩
   by_cases e:i=k
   ·subst e;exact ht
   ·exact h2 i hi (by omega)
  |false=>
   simp only[cond_false]
   refine⟨λ i hi=>?_,λ i hi hik=>by omega⟩
   have hget:∀ j (hj:j<l.length),l.getD j Mq=l[j]:=λ j hj=>by rw[Vb,Vk hj];rfl
   have hkl:k<l.length:=by omega
   have hks:tlt (l.getD k Mq).1 s=true:=by
    cases h:tlt (l.getD k Mq).1 s
    case true=>rfl
    exfalso
    exact hn (l.getD k Mq) (by rw[hget k hkl];exact Ktb hkl) (Aqa h ht)
   by_cases e:i=k
   ·subst e;exact hks
   ·have h3:=(Zx.1 hs) i k (by omega) hkl (by omega)
    rw[hget i (by omega)]
    rw[hget k hkl]at hks
    exact Mv h3 hks
def Pt {l:List Row} {x:Row} (hs:Bo l):Bo (mrg l x):=by
 have hget:∀ j (hj:j<l.length),l.getD j Mq=l[j]:=λ j hj=>by rw[Vb,Vk hj];rfl
 unfold mrg
 split
 ·rename_i j hj
  obtain⟨_,h2,h3⟩:=Sh l 0 j hj
  rw[K8b]at h3
  have hjl:j<l.length:=by omega
  have hname:l[j].1=x.1:=by rw[← hget j hjl];exact Cy.1 h3
  cases hb:M0 (l.getD j Mq) x
  ·exact hs
  rw[cond_true]
  unfold Bo
  rw[Zx]
  intro a b ha hb hab
  rw[Vy]at ha hb
  have:=(Zx.1 hs) a b ha hb hab
  rw[Lqb,Lqb]
  by_cases e1:j=a
  ·subst e1
   rw[if_pos rfl,if_neg (by omega),← hname]
   exact this
  ·rw[if_neg e1]
   by_cases e2:j=b
   ·subst e2
    rw[if_pos rfl,← hname]
    exact this
   ·rw[if_neg e2]
    exact this
 ·rename_i hj
  have hn:=W6 l 0 hj
  obtain⟨c1,c2⟩:=Hea hs hn l.length (Vv _)
  have hc:=Eoa l x.1 l.length
  unfold Bo
  rw[Zj,Wg]
  refine⟨Kqb (Llb _ _) hs,⟨λ r hr=>?_,Kqb (List.drop_sublist _ _) hs⟩,λ r hr q hq=>?_⟩
  ·obtain⟨i,hi,rfl⟩:=K4b hr
   rw[We]at hi
   rw[List.getElem_drop,← hget _ (by omega)]
   exact c2 _ (by omega) (by omega)
  ·obtain⟨i,hi,rfl⟩:=K4b hr
   rw[Vu]at hi
   have h1:tlt (List.take (C1a l x.1 l.length) l)[i].1 x.1=true:=by
    rw[List.getElem_take,← hget _ (by omega)]
    exact c1 i (by omega)
   rcases Vl.1 hq with rfl|hq
   ·exact h1
   ·refine Mv h1 ?_
    obtain⟨m,hm,rfl⟩:=K4b hq
    rw[We]at hm
    rw[List.getElem_drop,← hget _ (by omega)]
    exact c2 _ (by omega) (by omega)
def N1a (l:List Row):Prop:=Bo l∧(∀ r∈l,Ckb r)
def Hfa:∀ (n:Nat) (l:List Row) (i:Int) (c:Cur),Bj c→0≤i→i=n→N1a l→l.length+n≤5→
  Tot (λ k=>Fs k l i c.1 c.2.1 c.2.2) (λ r=>Bj r.2∧N1a r.1∧r.1.length≤5):=by
 intro n
 induction n with
 |zero=>
  intro l i c hc h0 hi hr hl
  refine Tot.succ ?_
  simp only[Fs]
  exact Ilb (by omega) (Igb ⟨hc,hr,by show l.length≤5;omega⟩)
 |succ n ih=>
  intro l i c hc h0 hi hr hl
  refine Tot.succ ?_
  simp only[Fs]
  refine Ikb (by omega) ?_
  refine Ihb (D2a c hc) (λ r h=>?_)
  refine Isb (Hda l r.1 (by unfold Few;omega)) ?_
  rw[w64 (n:=i-1) (by omega) (by omega)]
  refine ih _ _ r.2 h.2 (by omega) (by omega) ⟨Pt hr.1,λ y hy=>?_⟩ (by have:=(Kda l r.1).2;omega)
  rcases Kea hy with rfl|hy
  ·exact h.1
  ·exact hr.2 y hy
def Tb (c:Cur) (hc:Bj c):Tot (λ k=>Cv k c) (λ r=>Bj r.2∧N1a r.1∧r.1.length≤5):=by
 unfold Cv
 obtain⟨x,c',e,x0,x1,_,k⟩:=Ad c hc 6 (by decide)
 have x1:=x1 (by decide)
 refine Isb (Itb (Q:=λ r=>r=(x,c')) e rfl) ?_
 refine Ihb (Hfa x.toNat [] x c' k x0 (by omega) ⟨List.Pairwise.nil,by simp⟩ (by simp only[Vi];omega)) (λ r hr=>Igb hr)

def inR (n lo hi:Int):Bool:=decide (n≥lo)&&decide (n≤hi)
def Ue (n lo hi:Int):Ee n lo hi=some (inR n lo hi):=by
 unfold Ee inR
 cases decide (n≥lo)<;>rfl
def Nj (n lo hi:Int):A6 n lo hi=some (inR n lo hi):=by
 unfold A6 inR
 cases decide (n≥lo)<;>rfl
def Co {n lo hi:Int}:inR n lo hi=true↔lo≤n∧n≤hi:=by
 unfold inR
 simp
def Uf (c:Int):Bool:=inR c 97 122||(inR c 48 57||(!(c != 45)||(!(c != 95)||!(c != 47))))
def Kf (s:ByteArray):Prop:=s.size≤4611686018427387904
def Qg (s:ByteArray):s.data.toList.length=s.size:=Zb
def Asa (s:ByteArray) (i:Int):0≤bt s i∧bt s i≤255:=by
 unfold bt
 have:=(s.data.toList.getD i.toNat 0).toNat_lt
 omega
def Fpb (s:ByteArray) (i:Nat) (h:i<s.size):bt s (i:Int)=((s.data.toList[i]'(by rw[Qg];exact h)).toNat:Int):=by
 unfold bt
 rw[Vd,Vb,Vk (by rw[Qg];exact h)]
 rfl
def bOk (b:UInt8):Bool:=Uf (b.toNat:Int)
def Kfa (s:ByteArray) (hs:Kf s):∀ (n i:Nat),s.size-i=n→i≤s.size→
  Tot (λ k=>Aq k s (i:Int)) (λ r=>r=bif (s.data.toList.drop i).all bOk then .inr s else .inl false):=by
 unfold Kf at hs
 have hsz:=Qg s
 intro n
 induction n with
 |zero=>
  intro i hn hi
  refine Tot.succ ?_
  simp only[Aq]
  refine Ilb (by omega) (Igb ?_)
  rw[Wp (by omega)]
  rfl
 |succ n ih=>
  intro i hn hi
  have hlt:i<s.size:=by omega
  refine Tot.succ ?_
  simp only[Aq]
  refine Ikb (by omega) (Ikb (by omega) (Ikb (by omega) ?_))
  rw[w64 (n:=(i:Int)+1) (by omega) (by omega)]
  have hb:bOk (s.data.toList[i]'(by omega))=Uf (bt s (i:Int)):=by rw[Fpb s i hlt];rfl
  rw[Ze (by omega),J1b,hb]
  generalize bt s (i:Int)=c
  have h1:=ih (i+1) (by omega) (by omega)
  have e:(((i+1:Nat)):Int)=(i:Int)+1:=by omega
  rw[e]at h1
  cases hc:Uf c with
  |true=>
   rw[Vw]
   refine h1.mono (λ r hr=>hr) |> λ h=>?_
   obtain⟨r,K,h2,h3⟩:=h
   refine⟨r,K,λ k hk=>?_,h3⟩
   rw[← h2 k hk]
   unfold Uf inR at hc
   revert hc
   cases decide (c≥97)<;>cases decide (c≤122)<;>cases decide (c≥48)<;>cases decide (c≤57)<;>cases (c != 45)<;>cases (c != 95)<;>cases (c != 47)<;>first|(intro _;rfl)|(intro hc;cases hc)
  |false=>
   rw[Ys]
   refine⟨.inl false,0,λ k _=>?_,rfl⟩
   unfold Uf inR at hc
   revert hc
   cases decide (c≥97)<;>cases decide (c≤122)<;>cases decide (c≥48)<;>cases decide (c≤57)<;>cases (c != 45)<;>cases (c != 95)<;>cases (c != 47)<;>first|(intro _;rfl)|(intro hc;cases hc)
def Kga (s:ByteArray) (hs:Kf s):∀ (n i:Nat),s.size-i=n→i≤s.size→
  Tot (λ k=>Cz k s (i:Int)) (λ r=>r=bif (s.data.toList.drop i).all bOk then .inr s else .inl false):=by
 unfold Kf at hs
 have hsz:=Qg s
 intro n
 induction n with
 |zero=>
  intro i hn hi
  refine Tot.succ ?_
  simp only[Cz]
  refine Ilb (by omega) (Igb ?_)
  rw[Wp (by omega)]
  rfl
 |succ n ih=>
  intro i hn hi
  have hlt:i<s.size:=by omega
  have hbb:=Asa s (i:Int)
  refine Tot.succ ?_
  simp only[Cz]
  refine Ikb (by omega) (Ikb (by omega) (Ikb (by omega) ?_))
  rw[w64 (n:=(i:Int)+1) (by omega) (by omega),w64 (n:=bt s (i:Int)) (by omega) (by omega)]
  have hb:bOk (s.data.toList[i]'(by omega))=Uf (bt s (i:Int)):=by rw[Fpb s i hlt];rfl
  rw[Ze (by omega),J1b,hb]
  generalize bt s (i:Int)=c
  have h1:=ih (i+1) (by omega) (by omega)
  have e:(((i+1:Nat)):Int)=(i:Int)+1:=by omega
  rw[e]at h1
  simp only[Nj,Vm]
  cases hc:Uf c with
  |true=>
   rw[Vw]
   obtain⟨r,K,h2,h3⟩:=h1
   refine⟨r,K,λ k hk=>?_,h3⟩
   rw[← h2 k hk]
   unfold Uf at hc
   revert hc
   cases inR c 97 122<;>cases inR c 48 57<;>cases (c != 45)<;>cases (c != 95)<;>cases (c != 47)<;>first|(intro _;rfl)|(intro hc;cases hc)
  |false=>
   rw[Ys]
   refine⟨.inl false,0,λ k _=>?_,rfl⟩
   unfold Uf at hc
   revert hc
   cases inR c 97 122<;>cases inR c 48 57<;>cases (c != 45)<;>cases (c != 95)<;>cases (c != 47)<;>first|(intro _;rfl)|(intro hc;cases hc)
def As (s:ByteArray):Bool:=s.data.toList.all bOk&&inR (s.size:Int) 1 20
def Qh (s:ByteArray) (hs:Kf s):Tot (λ k=>Ar k s) (λ r=>r=As s):=by
 unfold Ar As
 refine Isb (Kfa s hs _ 0 rfl (Vs _)) ?_
 rw[Ya]
 cases s.data.toList.all bOk with
 |true=>exact Itb (a:=inR (s.size:Int) 1 20) (by simp only[cond_true,Jrb,Ue,Vm]) (by rw[Vw])
 |false=>exact Igb rfl
def P6 (s:ByteArray) (hs:Kf s):Tot (λ k=>Ap k s) (λ r=>r=As s):=by
 unfold Ap As
 refine Isb (Kga s hs _ 0 rfl (Vs _)) ?_
 rw[Ya]
 cases s.data.toList.all bOk with
 |true=>exact Itb (a:=inR (s.size:Int) 1 20) (by simp only[cond_true,Jrb,Nj,Vm]) (by rw[Vw])
 |false=>exact Igb rfl
def G9 (s:Stp):Bool:=inR s.1 0 1000000000&&(inR s.2.1 0 1000000&&inR s.2.2 0 20)
def Ata (s:Stp):E3 s=some (G9 s):=by
 unfold E3 G9
 simp only[Ue,Vm]
 cases inR s.1 0 1000000000<;>cases inR s.2.1 0 1000000<;>rfl
def Rl (s:Stp):C6 s=some (G9 s):=by
 unfold C6 G9
 simp only[Nj,Vm]
 cases inR s.1 0 1000000000<;>cases inR s.2.1 0 1000000<;>rfl
def Na (x:Row):Bool:=As x.1&&(G9 x.2.1&&(inR x.2.2.2 0 200&&(!x.2.2.1||x.2.2.2==0)))
def Tca (x:Row) (hs:Kf x.1):Tot (λ k=>Jg k x) (λ r=>r=Na x):=by
 unfold Jg Na
 refine Isb (Qh x.1 hs) ?_
 cases As x.1
 ·exact Igb rfl
 refine Itb (a:=G9 x.2.1&&(inR x.2.2.2 0 200&&(!x.2.2.1||x.2.2.2==0))) ?_ (by rw[Vw])
 simp only[cond_true,Ata,Ue,Vm]
 cases G9 x.2.1<;>cases inR x.2.2.2 0 200<;>cases x.2.2.1<;>rfl
def Tda (x:Row) (hs:Kf x.1):Tot (λ k=>I1 k x) (λ r=>r=Na x):=by
 unfold I1 Na
 refine Isb (P6 x.1 hs) ?_
 cases As x.1
 ·exact Igb rfl
 refine Itb (a:=G9 x.2.1&&(inR x.2.2.2 0 200&&(!x.2.2.1||x.2.2.2==0))) ?_ (by rw[Vw])
 simp only[cond_true,Rl,Nj,Vm]
 cases G9 x.2.1<;>cases inR x.2.2.2 0 200<;>cases x.2.2.1<;>rfl
def chk:Option ByteArray→List Row→Bool
 |_,[]=>true
 |none,r::l=>Na r&&chk (some r.1) l
 |some q,r::l=>Na r&&(tlt q r.1&&chk (some r.1) l)
def Jq (l:List Row):Bool:=chk none l&&decide ((l.length:Int)≤60)
def Qi (l:List Row):Prop:=∀ r∈l,Kf r.1
def Xq (l:List Row):Nat→Option ByteArray
 |0=>none
 |i+1=>some (l.getD i Mq).1
def N2a (l:List Row) (i:Nat) (h:i<l.length):chk (Xq l i) (l.drop i)=(Na (l.getD i Mq)&&(bif decide (0<i) then tlt (l.getD (i-1) Mq).1 (l.getD i Mq).1 else true)&&chk (Xq l (i+1)) (l.drop (i+1))):=by
 rw[Au (d:=Mq) h]
 cases i with
 |zero=>simp[Xq,chk]
 |succ i=>simp[Xq,chk,M2b]
def A4 {α:Type} {l:List α} {i:Nat} {d:α} (h1:i<l.length):l.getD i d∈l:=by
 rw[Vb,Vk h1]
 exact Ktb h1
def Kha (l:List Row) (hf:Few l) (hs:Qi l):∀ (n i:Nat),l.length-i=n→i≤l.length→
  Tot (λ k=>G6 k l l (l.length:Int) (i:Int)) (λ r=>r=bif chk (Xq l i) (l.drop i) then .inr l else .inl false):=by
 unfold Few at hf
 intro n
 induction n with
 |zero=>
  intro i hn hi
  refine Tot.succ ?_
  simp only[G6]
  refine Ilb (by omega) (Igb ?_)
  rw[Wp (by omega)]
  cases Xq l i<;>rfl
 |succ n ih=>
  intro i hn hi
  have hlt:i<l.length:=by omega
  refine Tot.succ ?_
  simp only[G6]
  refine Ikb (by omega) (Ikb (by omega) (Ikb (by omega) ?_))
  rw[show toNat (i:Int)=i from Vd i,w64 (n:=(i:Int)+1) (by omega) (by omega),N2a l i hlt]
  have h1:=ih (i+1) (by omega) (by omega)
  have e:(((i+1:Nat)):Int)=(i:Int)+1:=by omega
  rw[e]at h1
  refine Isb (Tca (l.getD i Mq) (hs _ (A4 hlt))) ?_
  cases hb:Na (l.getD i Mq)
  ·exact Ijb rfl (Igb (by simp))
  refine Iib rfl ?_
  rw[Vw]
  refine Inb (λ h0=>?_) (λ h0=>?_)
  ·rw[w64 (n:=(i:Int)-1) (by omega) (by omega)]
   refine Ikb (by omega) (Ikb (by omega) ?_)
   rw[show toNat ((i:Int)-1)=i-1 by omega,decide_eq_true (show 0<i by omega),cond_true]
   have et:(!(Op.bytesLess (l.getD (i-1) Mq).1.toList (l.getD i Mq).1.toList)) = !(tlt (l.getD (i-1) Mq).1 (l.getD i Mq).1):=rfl
   refine Imb (λ ht=>?_) (λ ht=>?_)
   ·have ht':(!(tlt (l.getD (i-1) Mq).1 (l.getD i Mq).1))=true:=ht
    rw[Vx]at ht'
    exact Igb (by rw[ht'];rfl)
   ·have ht':(!(tlt (l.getD (i-1) Mq).1 (l.getD i Mq).1))=false:=ht
    rw[Wj]at ht'
    rw[ht',Vw]
    exact h1
  ·rw[decide_eq_false (show ¬ 0<i by omega),cond_false,Vw]
   exact h1
def Kia (l:List Row) (hf:Few l) (hs:Qi l):∀ (n i:Nat),l.length-i=n→i≤l.length→
  Tot (λ k=>G3 k l (i:Int)) (λ r=>r=bif chk (Xq l i) (l.drop i) then .inr l else .inl false):=by
 unfold Few at hf
 intro n
 induction n with
 |zero=>
  intro i hn hi
  refine Tot.succ ?_
  simp only[G3]
  refine Ilb (by omega) (Igb ?_)
  rw[Wp (by omega)]
  cases Xq l i<;>rfl
 |succ n ih=>
  intro i hn hi
  have hlt:i<l.length:=by omega
  refine Tot.succ ?_
  simp only[G3]
  refine Ikb (by omega) (Ikb (by omega) (Ikb (by omega) ?_))
  rw[show toNat (i:Int)=i from Vd i,w64 (n:=(i:Int)+1) (by omega) (by omega),N2a l i hlt]
  have h1:=ih (i+1) (by omega) (by omega)
  have e:(((i+1:Nat)):Int)=(i:Int)+1:=by omega
  rw[e]at h1
  refine Isb (Tda (l.getD i Mq) (hs _ (A4 hlt))) ?_
  cases hb:Na (l.getD i Mq)
  ·exact Ijb rfl (Igb (by simp))
  refine Iib rfl ?_
  rw[Vw]
  refine Inb (λ h0=>?_) (λ h0=>?_)
  ·rw[w64 (n:=(i:Int)-1) (by omega) (by omega)]
   refine Ikb (by omega) (Ikb (by omega) (Ikb (by omega) (Ikb (by omega) ?_)))
   rw[show toNat ((i:Int)-1)=i-1 by omega,decide_eq_true (show 0<i by omega),cond_true]
   refine Imb (λ ht=>?_) (λ ht=>?_)
   ·have ht':(!(tlt (l.getD (i-1) Mq).1 (l.getD i Mq).1))=true:=ht
    rw[Vx]at ht'
    exact Igb (by rw[ht'];rfl)
   ·have ht':(!(tlt (l.getD (i-1) Mq).1 (l.getD i Mq).1))=false:=ht
    rw[Wj]at ht'
    rw[ht',Vw]
    exact h1
  ·rw[decide_eq_false (show ¬ 0<i by omega),cond_false,Vw]
   exact h1
def Xua (l:List Row) (hf:Few l) (hs:Qi l):Tot (λ k=>Gd k l) (λ r=>r=Jq l):=by
 unfold Gd Jq
 refine Isb (Kha l hf hs _ 0 rfl (Vs _)) ?_
 rw[Ya]
 show Tot _ (λ r=>r=(chk none l&&_))
 cases hc:chk none l with
 |true=>rw[show chk (Xq l 0) l=true from hc];exact Igb (by rw[Vw])
 |false=>rw[show chk (Xq l 0) l=false from hc];exact Igb rfl
def N3a (l:List Row) (hf:Few l) (hs:Qi l):Tot (λ k=>E9 k l) (λ r=>r=Jq l):=by
 unfold E9 Jq
 refine Isb (Kia l hf hs _ 0 rfl (Vs _)) ?_
 rw[Ya]
 cases hc:chk none l with
 |true=>rw[show chk (Xq l 0) l=true from hc];exact Igb (by rw[Vw])
 |false=>rw[show chk (Xq l 0) l=false from hc];exact Igb rfl
def Kja:∀ (p:Option ByteArray) (l:List Row),chk p l=true↔Bo l∧(∀ r∈l,Na r=true)∧(∀ q,p=some q→∀ r∈l,tlt q r.1=true)
 |p,[]=>by
  have:chk p []=true:=by cases p<;>rfl
  simp[this,Bo]
 |none,r::l=>by
  simp only[chk,Va,Kja (some r.1) l,Bo,Wg]
  constructor
  ·rintro⟨h1,h2,h3,h4⟩
   exact⟨⟨λ a ha=>h4 _ rfl a ha,h2⟩,λ a ha=>by rcases Vl.1 ha with rfl|ha;exact h1;exact h3 a ha,λ q hq=>by cases hq⟩
  ·rintro⟨⟨h1,h2⟩,h3,_⟩
   exact⟨h3 r (by simp),h2,λ a ha=>h3 a (Vh _ ha),λ q hq a ha=>by cases hq;exact h1 a ha⟩
 |some q,r::l=>by
  simp only[chk,Va,Kja (some r.1) l,Bo,Wg]
  constructor
  ·rintro⟨h1,h0,h2,h3,h4⟩
   refine⟨⟨λ a ha=>h4 _ rfl a ha,h2⟩,λ a ha=>by rcases Vl.1 ha with rfl|ha;exact h1;exact h3 a ha,λ q' hq a ha=>?_⟩
   cases hq
   rcases Vl.1 ha with rfl|ha
   ·exact h0
   ·exact Mv h0 (h4 _ rfl a ha)
  ·rintro⟨⟨h1,h2⟩,h3,h4⟩
   exact⟨h3 r (by simp),h4 q rfl r (by simp),h2,λ a ha=>h3 a (Vh _ ha),λ q' hq a ha=>by cases hq;exact h1 a ha⟩
def Lv {l:List Row}:Jq l=true↔Bo l∧(∀ r∈l,Na r=true)∧l.length≤60:=by
 unfold Jq
 simp only[Va,Kja,decide_eq_true_eq]
 constructor
 ·rintro⟨⟨h1,h2,_⟩,h3⟩
  exact⟨h1,h2,by omega⟩
 ·rintro⟨h1,h2,h3⟩
  exact⟨⟨h1,h2,λ q hq=>by cases hq⟩,by omega⟩
def O9 (a b:List Row):List Row:=b.foldl mrg a
def Xva (a b:List Row):a.length≤(O9 a b).length∧(O9 a b).length≤a.length+b.length:=by
 induction b generalizing a with
 |nil=>simp[O9]
 |cons x b ih=>
  have h1:=ih (mrg a x)
  have h2:=Kda a x
  show _≤(O9 (mrg a x) b).length∧(O9 (mrg a x) b).length≤_
  simp only[Vc]
  omega
def Eqa {a b:List Row} {r:Row} (h:r∈O9 a b):r∈a∨r∈b:=by
 induction b generalizing a with
 |nil=>exact .inl h
 |cons x b ih=>
  rcases ih (a:=mrg a x) h with h|h
  ·rcases Kea h with rfl|h
   ·exact .inr (by simp)
   ·exact .inl h
  ·exact .inr (Vh _ h)
def Np {a b:List Row} (h:Bo a):Bo (O9 a b):=by
 induction b generalizing a with
 |nil=>exact h
 |cons x b ih=>exact ih (Pt h)
def Iv (l:List Row) (s:ByteArray):Option Row:=l.find? (λ r=>teq r.1 s)
def mx (a b:Row):Row:=bif M0 a b then b else a
def Ug (a b:Row):M0 a b=true↔a.2.1.1<b.2.1.1∨(a.2.1.1=b.2.1.1∧(a.2.1.2.1<b.2.1.2.1∨(a.2.1.2.1=b.2.1.2.1∧(a.2.1.2.2<b.2.1.2.2∨(a.2.1.2.2=b.2.1.2.2∧((a.2.2.1=false∧b.2.2.1=true)∨(a.2.2.1=b.2.2.1∧a.2.2.2<b.2.2.2))))))):=by
 unfold M0
 cases hs:(!((a.2.1.1==b.2.1.1)&&((a.2.1.2.1==b.2.1.2.1)&&(a.2.1.2.2==b.2.1.2.2)))) with
 |true=>
  rw[cond_true,Om]
  have hne:¬ (a.2.1.1=b.2.1.1∧a.2.1.2.1=b.2.1.2.1∧a.2.1.2.2=b.2.1.2.2):=by
   intro ⟨h1,h2,h3⟩
   rw[h1,h2,h3]at hs
   simp at hs
  omega
 |false=>
  rw[cond_false]
  simp only[Wj,Va,beq_iff_eq]at hs
  obtain⟨h1,h2,h3⟩:=hs
  cases ha:a.2.2.1<;>cases hb:b.2.2.1<;>simp[h1,h2,h3]
def Tc {a b:Row} (h:M0 a b=true):M0 b a=false:=by
 cases hb:M0 b a
 ·rfl
 rw[Ug]at h hb
 cases ha:a.2.2.1<;>cases hb':b.2.2.1<;>simp only[ha,hb']at h hb<;>simp at h hb<;>omega
def Tea {a b:Row} (hn:a.1=b.1) (h:M0 a b=false) (h':M0 b a=false):a=b:=by
 have h1:¬ M0 a b=true:=by rw[h];decide
 have h2:¬ M0 b a=true:=by rw[h'];decide
 rw[Ug]at h1 h2
 obtain⟨n,⟨t,s,d⟩,e,z⟩:=a
 obtain⟨n',⟨t',s',d'⟩,e',z'⟩:=b
 simp only at hn h1 h2
 subst hn
 have hd:e=e'∧t=t'∧s=s'∧d=d'∧z=z':=by
  cases e<;>cases e'<;>simp at h1 h2 ⊢ <;> omega
 obtain⟨rfl,rfl,rfl,rfl,rfl⟩:=hd
 rfl
def Clb (a b:Row):mx (mx a b) b=mx a b:=by
 unfold mx
 cases h:M0 a b with
 |true=>
  have:M0 b b=false:=by
   cases hb:M0 b b with
   |false=>rfl
   |true=>have:=Tc hb;rw[hb]at this;cases this
  rw[cond_true,this]
  rfl
 |false=>rw[cond_false,h];rfl
def Me {l:List Row} {s:ByteArray} {r:Row} (h:Iv l s=some r):r∈l∧r.1=s:=by
 unfold Iv at h
 exact⟨Lgb h,Cy.1 (List.find?_some (p:=λ r:Row=>teq r.1 s) h)⟩
def M6 {l:List Row} (hs:Bo l) {r:Row} (h:r∈l):Iv l r.1=some r:=by
 induction l with
 |nil=>simp at h
 |cons a l ih=>
  unfold Bo at hs
  rw[Wg]at hs
  unfold Iv
  rw[Jmb]
  rcases Vl.1 h with rfl|h
  ·rw[Cy.2 rfl]
  ·have:teq a.1 r.1=false:=by
    cases ht:teq a.1 r.1
    ·rfl
    have h1:=hs.1 r h
    rw[Cy.1 ht,G8]at h1
    cases h1
   rw[this]
   exact ih hs.2 h
def Aua:∀ {l m:List Row},Bo l→Bo m→(∀ s,Iv l s=Iv m s)→l=m
 |[],[],_,_,_=>rfl
 |[],b::m,_,hm,h=>by
  have:=M6 hm (r:=b) (by simp)
  rw[← h]at this
  simp[Iv]at this
 |a::l,[],hl,_,h=>by
  have:=M6 hl (r:=a) (by simp)
  rw[h]at this
  simp[Iv]at this
 |a::l,b::m,hl,hm,h=>by
  have hl':=hl
  have hm':=hm
  unfold Bo at hl hm
  rw[Wg]at hl hm
  have ha:=M6 hl' (r:=a) (by simp)
  have hb:=M6 hm' (r:=b) (by simp)
  have ea:a∈b::m:=(Me (by rw[← h];exact ha)).1
  have eb:b∈a::l:=(Me (by rw[h];exact hb)).1
  have hab:a=b:=by
   rcases Vl.1 ea with rfl|ea
   ·rfl
   ·rcases Vl.1 eb with rfl|eb
    ·rfl
    ·have h1:=hm.1 a ea
     have h2:=hl.1 b eb
     rw[Ud h1]at h2
     cases h2
  subst hab
  rw[Aua (l:=l) (m:=m) hl.2 hm.2 (λ s=>?_)]
  have hs:=h s
  unfold Iv at hs ⊢
  rw[Jmb,Jmb]at hs
  cases ht:teq a.1 s
  ·rw[ht]at hs;exact hs
  have none:∀ (k:List Row),(∀ r∈k,tlt a.1 r.1=true)→k.find? (λ r=>teq r.1 s)=none:=by
   intro k hk
   rw[List.find?_eq_none]
   intro r hr
   rw[Cy]
   intro e
   have:=hk r hr
   rw[e,← Cy.1 ht,G8]at this
   cases this
  rw[none l hl.1,none m hm.1]
def Hga {l:List Row} {x:Row} (hs:Bo l) (s:ByteArray):Iv (mrg l x) s=bif teq x.1 s then (match Iv l s with|some r=>some (mx r x)|none=>some x) else Iv l s:=by
 have hsm:=Pt (x:=x) hs
 have hget:∀ j (hj:j<l.length),l.getD j Mq=l[j]:=λ j hj=>by rw[Vb,Vk hj];rfl
 cases ht:teq x.1 s with
 |true=>
  have hxs:=Cy.1 ht
  rw[cond_true]
  unfold mrg
  split
  ·rename_i j hj
   obtain⟨_,h2,h3⟩:=Sh l 0 j hj
   rw[K8b]at h3
   have hjl:j<l.length:=by omega
   have hname:(l.getD j Mq).1=x.1:=Cy.1 h3
   have hmem:l.getD j Mq∈l:=A4 hjl
   have hlk:Iv l s=some (l.getD j Mq):=by rw[← hxs,← hname];exact M6 hs hmem
   rw[hlk]
   show Iv (bif M0 (l.getD j Mq) x then l.set j x else l) s=some (mx (l.getD j Mq) x)
   unfold mx
   cases hb:M0 (l.getD j Mq) x
   ·rw[cond_false];exact hlk
   rw[cond_true]
   have:x∈l.set j x:=List.mem_set hjl x
   have hsm':Bo (l.set j x):=by
    have:=hsm
    unfold mrg at this
    rw[hj]at this
    simp only[hb,cond_true]at this
    exact this
   rw[← hxs]
   exact M6 hsm' this
  ·rename_i hj
   have hno:Iv l s=none:=by
    cases hl:Iv l s with
    |none=>rfl
    |some r=>
     obtain⟨h1,h2⟩:=Me hl
     exact(W6 l 0 hj r h1 (h2.trans hxs.symm)).elim
   rw[hno]
   have hx:x∈mrg l x:=by unfold mrg;rw[hj];simp
   have:=M6 hsm hx
   unfold mrg at this
   rw[hj]at this
   rw[← hxs]
   exact this
 |false=>
  rw[cond_false]
  cases hl:Iv l s with
  |some r=>
   obtain⟨h1,h2⟩:=Me hl
   have hr:r∈mrg l x:=by
    unfold mrg
    split
    ·rename_i j hj
     cases hb:M0 (l.getD j Mq) x
     ·exact h1
     rw[cond_true]
     obtain⟨i,hi,e⟩:=K4b h1
     obtain⟨_,q2,q3⟩:=Sh l 0 j hj
     rw[K8b]at q3
     have hij:i≠j:=by
      rintro rfl
      rw[hget i hi,e]at q3
      have:=Cy.1 q3
      rw[Cy.2 (this.symm.trans h2)]at ht
      cases ht
     rw[Zd]
     exact⟨i,by rw[Vy];exact hi,by rw[List.getElem_set_ne (K3b hij)];exact e⟩
    ·have:r∈l.take (C1a l x.1 l.length)++l.drop (C1a l x.1 l.length):=by rw[Wl];exact h1
     rcases Vo.1 this with h|h
     ·exact Wb _ h
     ·exact Vq _ (Vh _ h)
   rw[← h2]
   exact M6 hsm hr
  |none=>
   cases hm:Iv (mrg l x) s with
   |none=>rfl
   |some r=>
    exfalso
    obtain⟨h1,h2⟩:=Me hm
    rcases Kea h1 with rfl|h1
    ·rw[Cy.2 h2]at ht;cases ht
    ·have:=M6 hs h1
     rw[h2,hl]at this
     cases this
def cmb:Option Row→Option Row→Option Row
 |some a,some b=>some (mx a b)
 |some a,none=>some a
 |none,y=>y
def W7 {a b:List Row} (ha:Bo a) (hb:Bo b) (s:ByteArray):Iv (O9 a b) s=cmb (Iv a s) (Iv b s):=by
 induction b generalizing a with
 |nil=>show Iv a s=cmb (Iv a s) none;cases Iv a s<;>rfl
 |cons x b ih=>
  have hb':=hb
  unfold Bo at hb
  rw[Wg]at hb
  show Iv (O9 (mrg a x) b) s=_
  rw[ih (Pt ha) hb.2,Hga ha s]
  have e:Iv (x::b) s=bif teq x.1 s then some x else Iv b s:=by
   unfold Iv
   rw[Jmb]
   cases teq x.1 s<;>rfl
  rw[e]
  cases ht:teq x.1 s
  ·rfl
  have hno:Iv b s=none:=by
   cases hl:Iv b s with
   |none=>rfl
   |some r=>
    obtain⟨h1,h2⟩:=Me hl
    have:=hb.1 r h1
    rw[h2,← Cy.1 ht,G8]at this
    cases this
  rw[hno]
  cases Iv a s<;>rfl
def D4a {l:List Row} {s:ByteArray}:∀ r,Iv l s=some r→r.1=s:=λ r h=>(Me h).2
def Tfa {a b:List Row} (ha:Bo a) (hb:Bo b):O9 (O9 a b) b=O9 a b:=
 Aua (Np (Np ha)) (Np ha) λ s=>by
  rw[W7 (Np ha) hb,W7 ha hb]
  cases Iv a s<;>cases Iv b s<;>first|rfl|skip
  ·rename_i b;show some (mx b b)=some b;unfold mx;cases M0 b b<;>rfl
  ·rename_i a b;show some (mx (mx a b) b)=some (mx a b);rw[Clb]

def Bva:Nat→Nat→List Int
 |0,n=>[(n:Int)]
 |f+1,n=>if n≤127 then [(n:Int)] else ((n % 128+128:Nat):Int)::Bva f (n/128)
def Pc (n:Nat):List Int:=Bva 4 n
def Uh:Nat→Nat→Nat→List Int→Option (Nat×Nat)
 |0,_,_,_=>none
 |_+1,_,_,[]=>none
 |f+1,k,acc,x::l=>if 128≤x then Uh f (k+1) (acc+x.toNat % 128*128 ^ k) l
  else if (x=0∧0<k)∨1000000000<acc+x.toNat % 128*128 ^ k then none else some (acc+x.toNat % 128*128 ^ k,k+1)
def Pg (l:List Int) (p:Nat):Option (Nat×Nat):=match Uh 5 0 0 (l.drop p) with
 |some (n,c)=>some (n,p+c)
 |none=>none
def Tga:∀ (f n:Nat),(Bva f n).length≤f+1∧0<(Bva f n).length
 |0,n=>by simp[Bva]
 |f+1,n=>by
  unfold Bva
  split
  ·simp
  ·have:=Tga f (n/128)
   simp only[Vc]
   omega
def Td:∀ (f k acc:Nat) (l:List Int) (n c:Nat),Ai l→Uh f k acc l=some (n,c)→acc<128 ^ k→k<c∧c≤k+f∧c-k≤l.length∧n≤1000000000
 |0,_,_,_,_,_,_,h,_=>by simp[Uh]at h
 |_+1,_,_,[],_,_,_,h,_=>by simp[Uh]at h
 |f+1,k,acc,x::l,n,c,hb,h,ha=>by
  have hx:=hb x (by simp)
  unfold Uh at h
  split at h
  ·have h1:acc+x.toNat % 128*128 ^ k<128 ^ (k+1):=by
    have h2:x.toNat % 128≤127:=by omega
    have h3:=Wo (128 ^ k) h2
    rw[Ixb]
    omega
   have:=Td f (k+1) _ l n c (λ y hy=>hb y (Vh _ hy)) h h1
   simp only[Vc]
   omega
  ·split at h
   ·cases h
   ·simp only[Vg,Wa]at h
    obtain⟨rfl,rfl⟩:=h
    simp only[Vc]
    omega
def Tha:∀ (f k acc:Nat) (l:List Int) (n c:Nat),Ai l→Uh (f+1) k acc l=some (n,c)→acc<128 ^ k→∃ m,n=acc+m*128 ^ k∧l=Bva f m++l.drop (c-k)∧(m=0→c=k+1∧(0<k→False))∧m<128 ^ (f+1)
 |0,k,acc,[],n,c,hb,h,ha=>by simp[Uh]at h
 |_+1,k,acc,[],n,c,hb,h,ha=>by simp[Uh]at h
 |0,k,acc,x::l,n,c,hb,h,ha=>by
  have hx:=hb x (by simp)
  unfold Uh at h
  split at h
  ·simp[Uh]at h
  ·rename_i h128
   split at h
   ·cases h
   ·rename_i hz
    simp only[Vg,Wa]at h
    obtain⟨rfl,rfl⟩:=h
    have hm:x.toNat % 128=x.toNat:=Jdb (by omega)
    refine⟨x.toNat,by rw[hm],?_,λ h0=>⟨rfl,λ hk=>hz (.inl ⟨by omega,hk⟩)⟩,by omega⟩
    rw[show k+1-k=1 by omega]
    show x::l=[((x.toNat:Nat):Int)]++l
    rw[show ((x.toNat:Nat):Int)=x by omega]
    rfl
 |f+1,k,acc,x::l,n,c,hb,h,ha=>by
  have hx:=hb x (by simp)
  have hb':Ai l:=λ y hy=>hb y (Vh _ hy)
  unfold Uh at h
  split at h
  ·rename_i h128
   have h1:acc+x.toNat % 128*128 ^ k<128 ^ (k+1):=by
    have h2:x.toNat % 128≤127:=by omega
    have h3:=Wo (128 ^ k) h2
    rw[Ixb]
    omega
   obtain⟨m,e1,e2,e3,e4⟩:=Tha f (k+1) _ l n c hb' h h1
   have hbd:=Td (f+1) (k+1) _ l n c hb' h h1
   have hm0:m≠0:=λ h0=>(e3 h0).2 (by omega)
   refine⟨x.toNat % 128+m*128,?_,?_,λ h0=>by omega,?_⟩
   ·rw[e1,Ixb,Za]
    have:m*128*128 ^ k=m*(128 ^ k*128):=by rw[Nat.mul_assoc,M4b 128]
    omega
   ·unfold Bva
    rw[if_neg (by omega),show (x.toNat % 128+m*128)/128=m by omega,show (x.toNat % 128+m*128) % 128=x.toNat % 128 by omega,show c-k=(c-(k+1))+1 by omega,List.drop_succ_cons,List.cons_append,← e2]
    congr 1
    omega
   ·rw[Ixb]
    omega
  ·rename_i h128
   split at h
   ·cases h
   ·rename_i hz
    simp only[Vg,Wa]at h
    obtain⟨rfl,rfl⟩:=h
    have hm:x.toNat % 128=x.toNat:=Jdb (by omega)
    have hp:128≤128 ^ (f+1+1):=by
     have:=Nat.pow_le_pow_right (show 0<128 by decide) (show 1≤f+1+1 by omega)
     simpa using this
    refine⟨x.toNat,by rw[hm],?_,λ h0=>⟨rfl,λ hk=>hz (.inl ⟨by omega,hk⟩)⟩,by omega⟩
    rw[show k+1-k=1 by omega]
    unfold Bva
    rw[if_pos (by omega)]
    show x::l=[((x.toNat:Nat):Int)]++l
    rw[show ((x.toNat:Nat):Int)=x by omega]
    rfl
def Tia:∀ (f k acc m:Nat) (rest:List Int),m<128 ^ (f+1)→(0<k→0<m)→acc+m*128 ^ k≤1000000000→Uh (f+1) k acc (Bva f m++rest)=some (acc+m*128 ^ k,k+(Bva f m).length)
 |0,k,acc,m,rest,hm,hk,hn=>by
  show Uh 1 k acc ((m:Int)::rest)=_
  unfold Uh
  have h1:m<128:=by simpa using hm
  rw[if_neg (by omega),if_neg (by
   rw[show (m:Int).toNat % 128=m by rw[Vd];exact Jdb h1]
   omega)]
  rw[show (m:Int).toNat % 128=m by rw[Vd];exact Jdb h1]
  rfl
 |f+1,k,acc,m,rest,hm,hk,hn=>by
  unfold Bva
  by_cases h:m≤127
  ·rw[if_pos h]
   show Uh (f+2) k acc ((m:Int)::rest)=_
   unfold Uh
   rw[if_neg (by omega),if_neg (by
    rw[show (m:Int).toNat % 128=m by rw[Vd];exact Jdb (by omega)]
    omega)]
   rw[show (m:Int).toNat % 128=m by rw[Vd];exact Jdb (by omega)]
   rfl
  ·rw[if_neg h]
   show Uh (f+2) k acc (((m % 128+128:Nat):Int)::(Bva f (m/128)++rest))=_
   unfold Uh
   have e1:(((m % 128+128:Nat):Int)).toNat % 128=m % 128:=by rw[Vd];omega
   rw[if_pos (by omega),e1]
   have hmod:m=m % 128+m/128*128:=by omega
   have hm2:m/128<128 ^ (f+1):=by rw[Ixb]at hm;omega
   have e2:acc+m % 128*128 ^ k+m/128*128 ^ (k+1)=acc+m*128 ^ k:=by
    have h2:m*128 ^ k=(m % 128+m/128*128)*128 ^ k:=by rw[← hmod]
    rw[h2,Za,Ixb]
    have:m/128*128*128 ^ k=m/128*(128 ^ k*128):=by rw[Nat.mul_assoc,M4b 128]
    omega
   rw[Tia f (k+1) (acc+m % 128*128 ^ k) (m/128) rest hm2 (λ _=>by omega) (by rw[e2];exact hn),e2,Vc]
   simp only[Vg,Wa,true_and]
   omega
def N4a (pre:List Int) (n:Nat) (rest:List Int) (hn:n≤1000000000):Pg (pre++(Pc n++rest)) pre.length=some (n,pre.length+(Pc n).length):=by
 unfold Pg
 rw[Zm]
 have:=Tia 4 0 0 n rest (by omega) (by omega) (by omega)
 unfold Pc
 rw[this]
 simp
def Te {l:List Int} {p n q:Nat} (hb:Ai l) (h:Pg l p=some (n,q)):l.drop p=Pc n++l.drop q∧n≤1000000000∧p<q∧q≤l.length:=by
 unfold Pg at h
 split at h
 ·rename_i m c hd
  simp only[Vg,Wa]at h
  obtain⟨rfl,rfl⟩:=h
  have hb':Ai (l.drop p):=λ y hy=>hb y (Zo hy)
  have hbd:=Td 5 0 0 _ _ _ hb' hd (by decide)
  obtain⟨m',e1,e2,_,_⟩:=Tha 4 0 0 _ _ _ hb' hd (by decide)
  have e3:m=m':=by rw[e1];simp
  subst e3
  rw[We]at hbd
  refine⟨?_,hbd.2.2.2,by omega,by omega⟩
  rw[K8b,Yo]at e2
  exact e2
 ·cases h
def Idb (i:Nat) (hi:i<5):(2:Int) ^ (min (toNat (wrap .i64 (7*(i:Int)))) (IntKind.bits .i64))=((128 ^ i:Nat):Int):=by
 have:i=0∨i=1∨i=2∨i=3∨i=4:=by omega
 rcases this with rfl|rfl|rfl|rfl|rfl<;>decide
def Hgb (i:Nat) (hi:i<5):(2:Int) ^ (min (toNat (wrap .u64 (wrap .i64 (7*(i:Int))))) (IntKind.bits .i64))=((128 ^ i:Nat):Int):=by
 have:i=0∨i=1∨i=2∨i=3∨i=4:=by omega
 rcases this with rfl|rfl|rfl|rfl|rfl<;>decide
def sh7 (i:Nat) (hi:i<5):¬ (wrap .i64 (7*(i:Int))<0)∧¬ (wrap .u64 (wrap .i64 (7*(i:Int)))<0):=by
 have:i=0∨i=1∨i=2∨i=3∨i=4:=by omega
 rcases this with rfl|rfl|rfl|rfl|rfl<;>decide
def Pu (i:Nat) (hi:i≤5):128 ^ i≤34359738368:=by
 have:=Nat.pow_le_pow_right (show 0<128 by decide) hi
 simpa using this
def Rn (n:Nat) (h:n<18446744073709551616):(ofInt (IntKind.bits .i64) (n:Int)).toNat=n:=by
 rw[Kdb]
 show ((n:Int) % ((2 ^ 64:Nat):Int)).toNat=n
 rw[Int.emod_eq_of_lt (by omega) (by omega)]
 exact Vd n
def A9b (n:Nat) (h:n<9223372036854775808):wrap .i64 ((ofInt (IntKind.bits .i64) (n:Int) &&& ofInt (IntKind.bits .i64) 127).toNat)=((n % 128:Nat):Int):=by
 rw[K2b,Rn n (by omega),show (ofInt (IntKind.bits .i64) 127).toNat=127 from by decide,show (127:Nat)=2 ^ 7-1 from rfl,Krb]
 exact w64 (by omega) (by omega)
def N5a (a m i:Nat) (ha:a<128 ^ i) (hm:m<128) (hi:i<5):wrap .i64 ((ofInt (IntKind.bits .i64) (a:Int) ||| ofInt (IntKind.bits .i64) ((m*128 ^ i:Nat):Int)).toNat)=((a+m*128 ^ i:Nat):Int):=by
 have hp:=Pu i (by omega)
 have hmul:m*128 ^ i≤127*34359738368:=Lhb (by omega) hp
 rw[BitVec.toNat_or,Rn a (by omega),Rn _ (by omega),Nat.or_comm]
 have e:(128:Nat) ^ i=2 ^ (7*i):=by rw[Nat.pow_mul]
 have h2:=Nat.two_pow_add_eq_or_of_lt (i:=7*i) (b:=a) (by rw[← e];exact ha) m
 rw[← e,M4b]at h2
 rw[← h2,Iub]
 exact w64 (by omega) (by omega)
def Kka (l:List Int) (p:Int):Int×Int×Bool:=if p<0 then (0,0,false) else match Pg l p.toNat with
 |some (n,q)=>((n:Int),(q:Int),true)
 |none=>(0,0,false)
def H4b (p:Nat):Option (Nat×Nat)→Int×Int×Bool
 |some (n,c)=>((n:Int),((p+c:Nat):Int),true)
 |none=>(0,0,false)
def Ava (r:Sum (Int×Int×Bool) Unit):Int×Int×Bool:=Sum.elim (λ y=>y) (λ _=>(0,0,false)) r
def Hha {l:List Int} {p:Nat} (h:p<l.length):l.drop p=l.getD p 0::l.drop (p+1):=Au h
def Pia (l:List Int) (hb:Ai l) (hl:l.length≤1000000000000) (p:Nat) (hp:p≤1000000000000):∀ (f i acc:Nat),f+i=5→acc<128 ^ i→
  Tot (λ k=>Fx k l (p:Int) (acc:Int) (i:Int)) (λ r=>Ava r=H4b p (Uh f i acc (l.drop (p+i)))):=by
 intro f
 induction f with
 |zero=>
  intro i acc hi ha
  refine Tot.succ ?_
  simp only[Fx]
  exact Ilb (by omega) (Igb rfl)
 |succ f ih=>
  intro i acc hi ha
  have hi5:i<5:=by omega
  refine Tot.succ ?_
  simp only[Fx]
  refine Ikb (by omega) (Ikb (by omega) ?_)
  rw[w64 (n:=(l.length:Int)-(i:Int)) (by omega) (by omega),w64 (n:=(p:Int)+(i:Int)) (by omega) (by omega),show toNat ((p:Int)+(i:Int))=p+i by omega]
  refine Inb (λ h=>?_) (λ h=>?_)
  ·have hlt:p+i<l.length:=by omega
   refine Ikb (by omega) (Ikb (by omega) ?_)
   have hx:=hb (l.getD (p+i) 0) (A4 hlt)
   rw[Hha hlt,Idb i hi5]
   have he:Uh (f+1) i acc (l.getD (p+i) 0::l.drop (p+i+1))=if 128≤l.getD (p+i) 0 then Uh f (i+1) (acc+(l.getD (p+i) 0).toNat % 128*128 ^ i) (l.drop (p+i+1)) else if (l.getD (p+i) 0=0∧0<i)∨1000000000<acc+(l.getD (p+i) 0).toNat % 128*128 ^ i then none else some (acc+(l.getD (p+i) 0).toNat % 128*128 ^ i,i+1):=rfl
   rw[he]
   generalize l.getD (p+i) 0=x at hx ⊢
   obtain⟨v,rfl⟩:∃ v:Nat,x=(v:Int):=⟨x.toNat,by omega⟩
   rw[Vd]
   have hp1:=Pu i (by omega)
   have hmul:v % 128*128 ^ i≤127*34359738368:=Lhb (by omega) hp1
   rw[w64 (n:=(v:Int)) (by omega) (by omega)]
   have e1:Int.tmod (v:Int) 128*((128 ^ i:Nat):Int)=((v % 128*128 ^ i:Nat):Int):=by
    rw[Iyb (by omega)]
    push_cast
    rfl
   rw[e1,w64 (n:=((v % 128*128 ^ i:Nat):Int)) (by omega) (by omega),← Int.natCast_add,w64 (n:=((acc+v % 128*128 ^ i:Nat):Int)) (by omega) (by omega),w64 (n:=(i:Int)+1) (by omega) (by omega),w64 (n:=(p:Int)+(i:Int)+1) (by omega) (by omega)]
   refine Ilb (sh7 i hi5).1 ?_
   refine Inb (λ h128=>?_) (λ h128=>?_)
   ·rw[if_pos (by omega)]
    have h1:acc+v % 128*128 ^ i<128 ^ (i+1):=by
     have h2:v % 128≤127:=by omega
     have h3:=Wo (128 ^ i) h2
     rw[Ixb]
     omega
    have:=ih (i+1) (acc+v % 128*128 ^ i) (by omega) h1
    rw[show p+(i+1)=p+i+1 by omega]at this
    exact this
   ·rw[if_neg (by omega)]
    have big:Tot (λ _:Nat=>cond (decide (((acc+v % 128*128 ^ i:Nat):Int) > 1000000000)) (some (Sum.inl ((0:Int),(0:Int),false))) (some (Sum.inl (((acc+v % 128*128 ^ i:Nat):Int),(p:Int)+(i:Int)+1,true))):Nat→Option (Sum (Int×Int×Bool) Unit))
      (λ r=>Ava r=if 1000000000<acc+v % 128*128 ^ i then (0,0,false) else (((acc+v % 128*128 ^ i:Nat):Int),((p+(i+1):Nat):Int),true)):=by
     refine Inb (λ hbig=>?_) (λ hbig=>?_)
     ·rw[if_pos (by omega)];exact Igb rfl
     ·rw[if_neg (by omega)]
      refine Igb ?_
      show (_,_,_)=_
      rw[show (p:Int)+(i:Int)+1=((p+(i+1):Nat):Int) by omega]
    have goal:∀ c:Prop,[Decidable c]→(if c∨1000000000<acc+v % 128*128 ^ i then none else some (acc+v % 128*128 ^ i,i+1))=if c then none else if 1000000000<acc+v % 128*128 ^ i then (none:Option (Nat×Nat)) else some (acc+v % 128*128 ^ i,i+1):=by
     intro c _
     by_cases h1:c<;>by_cases h2:1000000000<acc+v % 128*128 ^ i<;>simp[h1,h2]
    rw[goal]
    have fin:(H4b p (if 1000000000<acc+v % 128*128 ^ i then (none:Option (Nat×Nat)) else some (acc+v % 128*128 ^ i,i+1)))=if 1000000000<acc+v % 128*128 ^ i then (0,0,false) else (((acc+v % 128*128 ^ i:Nat):Int),((p+(i+1):Nat):Int),true):=by
     split<;>rfl
    refine Imb (λ h0=>?_) (λ h0=>?_)
    ·have hv:v=0:=by
      have:=beq_iff_eq.1 h0
      omega
     refine Inb (λ hi0=>?_) (λ hi0=>?_)
     ·rw[if_pos ⟨by omega,by omega⟩];exact Igb rfl
     ·rw[if_neg (by omega),fin];exact big
    ·have hv:v≠0:=by
      intro e
      subst e
      simp at h0
     rw[if_neg (by omega),fin];exact big
  ·refine Igb ?_
   rw[Wp (by omega)]
   rfl
def Tja (l:List Int) (hb:Ai l) (hl:l.length≤1000000000000) (p:Int) (hp:p≤1000000000000):Tot (λ k=>Hh k l p) (λ r=>r=Kka l p):=by
 unfold Hh Kka
 by_cases h0:p<0
 ·rw[if_pos h0]
  refine Ihb (Q:=λ r=>r = .inr ()) ?_ ?_
  ·refine Tot.succ ?_
   simp only[Fx]
   exact Ikb (by omega) (Ilb (by omega) (Igb rfl))
  ·rintro r rfl
   exact Igb rfl
 ·rw[if_neg h0]
  obtain⟨n,rfl⟩:∃ n:Nat,p=(n:Int):=⟨p.toNat,by omega⟩
  rw[Vd]
  refine Ihb (Pia l hb hl n (by omega) 5 0 0 rfl (by decide)) ?_
  intro r hr
  unfold Pg
  rw[Zr]at hr
  have hr':Ava r=(match (match Uh 5 0 0 (l.drop n) with|some (m,c)=>some (m,n+c)|none=>none) with|some (m,q)=>((m:Int),(q:Int),true)|none=>((0:Int),(0:Int),false)):=by
   rw[hr]
   cases Uh 5 0 0 (l.drop n) with
   |none=>rfl
   |some mc=>rfl
  rw[← hr']
  cases r with
  |inl y=>exact Igb rfl
  |inr z=>exact Igb rfl

def Pja (l:List Int) (hb:Ai l) (hl:l.length≤1000000000000) (p:Nat) (hp:p<l.length):∀ (f i acc:Nat),f+i=5→acc<128 ^ i→
  Tot (λ k=>Ev k l (p:Int) (acc:Int) (i:Int)) (λ r=>Ava r=H4b p (Uh f i acc (l.drop (p+i)))):=by
 intro f
 induction f with
 |zero=>
  intro i acc hi ha
  refine Tot.succ ?_
  simp only[Ev]
  exact Ilb (by omega) (Igb rfl)
 |succ f ih=>
  intro i acc hi ha
  have hi5:i<5:=by omega
  refine Tot.succ ?_
  simp only[Ev]
  refine Ikb (by omega) (Ikb (by omega) (Ikb (by omega) ?_))
  rw[w64 (n:=(p:Int)+(i:Int)) (by omega) (by omega),show toNat ((p:Int)+(i:Int))=p+i by omega]
  refine Inb (λ h=>?_) (λ h=>?_)
  ·have hlt:p+i<l.length:=by omega
   refine Ikb (by omega) (Ikb (by omega) ?_)
   have hx:=hb (l.getD (p+i) 0) (A4 hlt)
   rw[Hha hlt,Hgb i hi5]
   have he:Uh (f+1) i acc (l.getD (p+i) 0::l.drop (p+i+1))=if 128≤l.getD (p+i) 0 then Uh f (i+1) (acc+(l.getD (p+i) 0).toNat % 128*128 ^ i) (l.drop (p+i+1)) else if (l.getD (p+i) 0=0∧0<i)∨1000000000<acc+(l.getD (p+i) 0).toNat % 128*128 ^ i then none else some (acc+(l.getD (p+i) 0).toNat % 128*128 ^ i,i+1):=rfl
   rw[he]
   generalize l.getD (p+i) 0=x at hx ⊢
   obtain⟨v,rfl⟩:∃ v:Nat,x=(v:Int):=⟨x.toNat,by omega⟩
   rw[Vd]
   have hp1:=Pu i (by omega)
   have hmul:v % 128*128 ^ i≤127*34359738368:=Lhb (by omega) hp1
   rw[w64 (n:=(v:Int)) (by omega) (by omega),A9b v (by omega)]
   have e1:((v % 128:Nat):Int)*((128 ^ i:Nat):Int)=((v % 128*128 ^ i:Nat):Int):=by push_cast;rfl
   rw[e1,w64 (n:=((v % 128*128 ^ i:Nat):Int)) (by omega) (by omega),N5a acc (v % 128) i ha (by omega) hi5,w64 (n:=(i:Int)+1) (by omega) (by omega),w64 (n:=(p:Int)+(i:Int)+1) (by omega) (by omega)]
   refine Ilb (sh7 i hi5).2 ?_
   refine Inb (λ h128=>?_) (λ h128=>?_)
   ·rw[if_pos (by omega)]
    have h1:acc+v % 128*128 ^ i<128 ^ (i+1):=by
     have h2:v % 128≤127:=by omega
     have h3:=Wo (128 ^ i) h2
     rw[Ixb]
     omega
    have:=ih (i+1) (acc+v % 128*128 ^ i) (by omega) h1
    rw[show p+(i+1)=p+i+1 by omega]at this
    exact this
   ·rw[if_neg (by omega)]
    have big:Tot (λ _:Nat=>cond (decide (((acc+v % 128*128 ^ i:Nat):Int) > 1000000000)) (some (Sum.inl ((0:Int),(0:Int),false))) (some (Sum.inl (((acc+v % 128*128 ^ i:Nat):Int),(p:Int)+(i:Int)+1,true))):Nat→Option (Sum (Int×Int×Bool) Unit))
      (λ r=>Ava r=if 1000000000<acc+v % 128*128 ^ i then (0,0,false) else (((acc+v % 128*128 ^ i:Nat):Int),((p+(i+1):Nat):Int),true)):=by
     refine Inb (λ hbig=>?_) (λ hbig=>?_)
     ·rw[if_pos (by omega)];exact Igb rfl
     ·rw[if_neg (by omega)]
      refine Igb ?_
      show (_,_,_)=_
      rw[show (p:Int)+(i:Int)+1=((p+(i+1):Nat):Int) by omega]
    have goal:∀ c:Prop,[Decidable c]→(if c∨1000000000<acc+v % 128*128 ^ i then none else some (acc+v % 128*128 ^ i,i+1))=if c then none else if 1000000000<acc+v % 128*128 ^ i then (none:Option (Nat×Nat)) else some (acc+v % 128*128 ^ i,i+1):=by
     intro c _
     by_cases h1:c<;>by_cases h2:1000000000<acc+v % 128*128 ^ i<;>simp[h1,h2]
    rw[goal]
    have fin:(H4b p (if 1000000000<acc+v % 128*128 ^ i then (none:Option (Nat×Nat)) else some (acc+v % 128*128 ^ i,i+1)))=if 1000000000<acc+v % 128*128 ^ i then (0,0,false) else (((acc+v % 128*128 ^ i:Nat):Int),((p+(i+1):Nat):Int),true):=by
     split<;>rfl
    refine Inb (λ hi0=>?_) (λ hi0=>?_)
    ·refine Imb (λ h0=>?_) (λ h0=>?_)
     ·have hv:v=0:=by
       have:=beq_iff_eq.1 h0
       omega
      rw[if_pos ⟨by omega,by omega⟩];exact Igb rfl
     ·have hv:v≠0:=by
       intro e
       subst e
       simp at h0
      rw[if_neg (by omega),fin];exact big
    ·rw[if_neg (by omega),fin];exact big
  ·refine Igb ?_
   rw[Wp (by omega)]
   rfl
def W8 (l:List Int) (hb:Ai l) (hl:l.length≤1000000000000) (p:Int):Tot (λ k=>Dj k l p) (λ r=>r=Kka l p):=by
 unfold Dj Kka
 by_cases h0:p<0
 ·rw[if_pos h0]
  refine Ihb (Q:=λ r=>r = .inr ()) ?_ ?_
  ·refine Tot.succ ?_
   simp only[Ev]
   exact Ikb (by omega) (Ilb (by omega) (Igb rfl))
  ·rintro r rfl
   exact Igb rfl
 ·rw[if_neg h0]
  by_cases h1:p<(l.length:Int)
  ·obtain⟨n,rfl⟩:∃ n:Nat,p=(n:Int):=⟨p.toNat,by omega⟩
   rw[Vd]
   refine Ihb (Pja l hb hl n (by omega) 5 0 0 rfl (by decide)) ?_
   intro r hr
   unfold Pg
   rw[Zr]at hr
   have hr':Ava r=(match (match Uh 5 0 0 (l.drop n) with|some (m,c)=>some (m,n+c)|none=>none) with|some (m,q)=>((m:Int),(q:Int),true)|none=>((0:Int),(0:Int),false)):=by
    rw[hr]
    cases Uh 5 0 0 (l.drop n) with
    |none=>rfl
    |some mc=>rfl
   refine Tot.mono (Q:=λ y=>y=Ava r) ?_ (λ y hy=>hy.trans hr')
   cases r with
   |inl y=>exact Igb rfl
   |inr z=>exact Igb rfl
  ·have e:Pg l p.toNat=none:=by
    unfold Pg
    rw[Wp (by omega)]
    rfl
   rw[e]
   refine Ihb (Q:=λ r=>r = .inr ()) ?_ ?_
   ·refine Tot.succ ?_
    simp only[Ev]
    exact Ikb (by omega) (Ikb (by omega) (Ilb h1 (Igb rfl)))
   ·rintro r rfl
    exact Igb rfl
def Bq (n:Int):Nat:=(max 0 (min n 1000000000)).toNat
def On (n:Int):Bq n≤1000000000:=by unfold Bq;omega
def Awa {n:Int} (h0:0≤n) (h1:n≤1000000000):(Bq n:Int)=n:=by unfold Bq;omega
def Hia (n:Nat) (h:n≤255):wrap .u8 (n:Int)=(n:Int):=by
 rw[Keb]
 omega
def Pka:∀ (f n:Nat) (out:List Int),n<128 ^ (f+1)→f≤4→out.length+f≤1000000000010→
  Tot (λ k=>Gq k out (n:Int)) (λ r=>∃ m:Nat,r.2=(m:Int)∧m≤127∧r.1++[(m:Int)]=out++Bva f n∧r.1.length≤out.length+f):=by
 intro f
 induction f with
 |zero=>
  intro n out hn hf hl
  refine Tot.succ ?_
  simp only[Gq]
  have:n<128:=by simpa using hn
  exact Ilb (by omega) (Igb ⟨n,rfl,by omega,rfl,by simp⟩)
 |succ f ih=>
  intro n out hn hf hl
  have hp:=Pu (f+1+1-1) (by omega)
  refine Tot.succ ?_
  simp only[Gq]
  refine Inb (λ h=>?_) (λ h=>?_)
  ·have hn2:n/128<128 ^ (f+1):=by rw[Ixb]at hn;omega
   have hn3:n<4398046511104:=by
    have:=Pu (f+1) (by omega)
    rw[Ixb]at hn
    omega
   have e1:Int.tmod (n:Int) 128+128=((n % 128+128:Nat):Int):=by
    rw[Iyb (by omega)]
    omega
   have e2:Int.tdiv (n:Int) 128=((n/128:Nat):Int):=by
    rw[Jbb (by omega)]
    omega
   rw[e1,e2,w64 (n:=((n % 128+128:Nat):Int)) (by omega) (by omega),w64 (n:=((n/128:Nat):Int)) (by omega) (by omega),Hia _ (by omega)]
   refine Iob (by simp only[Vc,Vi];omega) ?_
   refine(ih (n/128) (out++[((n % 128+128:Nat):Int)]) hn2 (by omega) (by simp only[Ve,Vc,Vi];omega)).mono ?_
   rintro r ⟨m,h1,h2,h3,h4⟩
   refine⟨m,h1,h2,?_,by simp only[Ve,Vc,Vi]at h4;omega⟩
   rw[h3,Vp]
   congr 1
   conv => { rhs;unfold Bva }
   rw[if_neg (by omega)]
   rfl
  ·refine Igb ⟨n,rfl,by omega,?_,by show out.length≤out.length+(f+1);omega⟩
   unfold Bva
   rw[if_pos (by omega)]
def Axa (out:List Int) (n:Int) (hl:out.length≤1000000000000):Tot (λ k=>F3 k out n) (λ r=>r=out++Pc (Bq n)):=by
 unfold F3
 have e:(if (0:Int)<(if (1000000000:Int)<n then 1000000000 else n) then (if (1000000000:Int)<n then 1000000000 else n) else 0)=((Bq n:Nat):Int):=by
  unfold Bq
  split<;>split<;>omega
 simp only
 rw[e]
 have hc:=On n
 refine Ihb (Pka 4 (Bq n) out (by omega) (by omega) (by omega)) ?_
 rintro r ⟨m,h1,h2,h3,h4⟩
 rw[h1,Hia m (by omega)]
 refine Iob (by simp only[Vc,Vi];omega) (Igb h3)
def Pla:∀ (f n:Nat) (out:List Int),n<128 ^ (f+1)→f≤4→out.length+f≤1000000000010→
  Tot (λ k=>D0 k (n:Int) out) (λ r=>∃ m:Nat,r.1=(m:Int)∧m≤127∧r.2++[(m:Int)]=out++Bva f n∧r.2.length≤out.length+f):=by
 intro f
 induction f with
 |zero=>
  intro n out hn hf hl
  refine Tot.succ ?_
  simp only[D0]
  have:n<128:=by simpa using hn
  exact Ilb (by omega) (Igb ⟨n,rfl,by omega,rfl,by simp⟩)
 |succ f ih=>
  intro n out hn hf hl
  refine Tot.succ ?_
  simp only[D0]
  refine Inb (λ h=>?_) (λ h=>?_)
  ·have hn2:n/128<128 ^ (f+1):=by rw[Ixb]at hn;omega
   have hn3:n<4398046511104:=by
    have:=Pu (f+1) (by omega)
    rw[Ixb]at hn
    omega
   have e1:wrap .i64 ((ofInt (IntKind.bits .i64) ((n % 128:Nat):Int) ||| ofInt (IntKind.bits .i64) 128).toNat)=((n % 128+128:Nat):Int):=by
    have:=N5a (n % 128) 1 1 (by omega) (by omega) (by omega)
    exact this
   have e2:Int.fdiv (n:Int) (2 ^ (min (toNat 7) (IntKind.bits .i64)))=((n/128:Nat):Int):=by
    have:(2:Int) ^ (min (toNat 7) (IntKind.bits .i64))=128:=by decide
    rw[this,Izb _ (by omega)]
    omega
   rw[A9b n (by omega),e1,e2,Hia _ (by omega)]
   refine Iob (by simp only[Vc,Vi];omega) ?_
   refine(ih (n/128) (out++[((n % 128+128:Nat):Int)]) hn2 (by omega) (by simp only[Ve,Vc,Vi];omega)).mono ?_
   rintro r ⟨m,h1,h2,h3,h4⟩
   refine⟨m,h1,h2,?_,by simp only[Ve,Vc,Vi]at h4;omega⟩
   rw[h3,Vp]
   congr 1
   conv => { rhs;unfold Bva }
   rw[if_neg (by omega)]
   rfl
  ·refine Igb ⟨n,rfl,by omega,?_,by show out.length≤out.length+(f+1);omega⟩
   unfold Bva
   rw[if_pos (by omega)]
def W9 (out:List Int) (n:Int) (hl:out.length≤1000000000000):Tot (λ k=>Dk k out n) (λ r=>r=out++Pc (Bq n)):=by
 have hc:=On n
 have fin:Tot (λ k=>(D0 k ((Bq n:Nat):Int) (([]:List Int)++out)).bind λ r1=>cond (Nat.ble ((length r1.2+length [wrap .u8 r1.1])*1) 140737488355328) (some (r1.2++[wrap .u8 r1.1])) none) (λ r=>r=out++Pc (Bq n)):=by
  rw[Vz]
  refine Ihb (Pla 4 (Bq n) out (by omega) (by omega) (by omega)) ?_
  rintro r ⟨m,h1,h2,h3,h4⟩
  rw[h1,Hia m (by omega)]
  exact Iob (by simp only[Vc,Vi];omega) (Igb h3)
 unfold Dk
 refine Iob (by simp only[Vi];omega) ?_
 refine Inb (λ h1=>?_) (λ h1=>?_)
 ·refine Ilb (by omega) ?_
  have e:((Bq n:Nat):Int)=1000000000:=by unfold Bq;omega
  rw[e]at fin
  exact fin
 ·refine Inb (λ h2=>?_) (λ h2=>?_)
  ·have e:((Bq n:Nat):Int)=0:=by unfold Bq;omega
   rw[e]at fin
   exact fin
  ·have e:((Bq n:Nat):Int)=n:=by unfold Bq;omega
   rw[e]at fin
   exact fin
def Mf (n:Nat):(Pc n).length≤5∧0<(Pc n).length:=Tga 4 n
def D5a:∀ (f n:Nat),n<128 ^ (f+1)→Ai (Bva f n)
 |0,n,hn=>by
  intro x hx
  simp only[Bva,Vt]at hx
  have:n<128:=by simpa using hn
  omega
 |f+1,n,hn=>by
  unfold Bva
  split
  ·intro x hx
   simp only[Vt]at hx
   omega
  ·intro x hx
   rcases Vl.1 hx with rfl|hx
   ·omega
   ·exact D5a f (n/128) (by rw[Ixb]at hn;omega) x hx
def Pma (n:Nat) (hn:n≤1000000000):Ai (Pc n):=D5a 4 n (by omega)
def D6a (s:ByteArray):Ai (bytesOf s):=by
 intro x hx
 unfold bytesOf at hx
 obtain⟨b,_,rfl⟩:=Yw.1 hx
 have:=b.toNat_lt
 omega
def Qj (s:ByteArray):(bytesOf s).length=s.size:=by
 unfold bytesOf
 rw[Wc]
 exact Zb
def Ui (s:ByteArray):Le (bytesOf s)=s:=by
 unfold Le bytesOf
 rw[Jvb]
 have:(λ n:Int=>UInt8.ofNat n.toNat) ∘ (λ b:UInt8=>(b.toNat:Int))=id:=by
  funext b
  show UInt8.ofNat ((b.toNat:Int)).toNat=b
  rw[Vd]
  exact UInt8.ofNat_toNat
 rw[this,List.map_id]
def Oe {l:List Int} (h:Ai l):bytesOf (Le l)=l:=by
 unfold Le bytesOf
 show List.map _ (List.map _ l)=l
 rw[Jvb]
 have:∀ x∈l,((λ b:UInt8=>(b.toNat:Int)) ∘ (λ n:Int=>UInt8.ofNat n.toNat)) x=x:=by
  intro x hx
  have hb:=h x hx
  show ((UInt8.ofNat x.toNat).toNat:Int)=x
  rw[UInt8.toNat_ofNat']
  omega
 exact(J6b this).trans (List.map_id' l)
def Nq (l:List Int):(Le l).size=l.length:=by
 unfold Le
 show (List.map _ l).toArray.size=l.length
 simp
def txt (s:ByteArray):List Int:=Pc (Bq (s.size:Int))++bytesOf s
def Xwa (out:List Int) (s:ByteArray) (hl:out.length≤1000000000000) (hs:s.size≤1000000000000):Tot (λ k=>J1 k out s) (λ r=>r=out++txt s):=by
 unfold J1 txt
 refine Isb (Axa out _ hl) ?_
 have:=(Mf (Bq (s.size:Int))).1
 refine Iob (by simp only[Ve];omega) (Igb ?_)
 rw[Vp]
def N6a (out:List Int) (s:ByteArray) (hl:out.length≤1000000000000) (hs:s.size≤1000000000000):Tot (λ k=>J5 k out s) (λ r=>r=out++txt s):=by
 unfold J5 txt
 refine Isb (W9 out _ hl) ?_
 have:=(Mf (Bq (s.size:Int))).1
 refine Iob (by simp only[Ve];omega) (Igb ?_)
 rw[Vp]
def N7a (l:List Int) (p:Nat):Option (ByteArray×Nat):=match Pg l p with
 |some (n,q)=>if q+n≤l.length then some (Le ((l.drop q).take n),q+n) else none
 |none=>none
def Ehb (l:List Int) (p:Int):ByteArray×Int×Bool:=if p<0 then ((⟨#[]⟩:ByteArray),0,false) else match N7a l p.toNat with
 |some (s,q)=>(s,(q:Int),true)
 |none=>((⟨#[]⟩:ByteArray),0,false)
def D7a (l:List Int) (hb:Ai l) (p:Int):Kka l p=(0,0,false)∨∃ n q,0≤p∧Pg l p.toNat=some (n,q)∧Kka l p=((n:Int),(q:Int),true)∧n≤1000000000∧q≤l.length:=by
 unfold Kka
 by_cases h:p<0
 ·rw[if_pos h];exact .inl rfl
 ·rw[if_neg h]
  cases hg:Pg l p.toNat with
  |none=>exact .inl rfl
  |some nq=>
   obtain⟨n,q⟩:=nq
   have:=Te hb hg
   exact .inr ⟨n,q,by omega,rfl,rfl,this.2.1,this.2.2.2⟩
def N8a (l:List Int) (hb:Ai l) (hl:l.length≤1000000000000) (p:Int) (hp:p≤1000000000000):Tot (λ k=>J0 k l p) (λ r=>r=Ehb l p):=by
 unfold J0
 refine Isb (Tja l hb hl p hp) ?_
 unfold Ehb N7a
 rcases D7a l hb p with h|⟨n,q,h0,hg,h,hn,hq⟩
 ·rw[h]
  refine Ijb rfl (Igb ?_)
  unfold Kka at h
  split
  ·rfl
  ·rename_i h0
   rw[if_neg h0]at h
   cases hg:Pg l p.toNat with
   |none=>rfl
   |some nq=>rw[hg]at h;simp at h
 ·rw[h]
  refine Iib rfl ?_
  rw[if_neg (by omega),hg]
  simp only
  rw[w64 (n:=(l.length:Int)-(q:Int)) (by omega) (by omega),w64 (n:=(q:Int)+(n:Int)) (by omega) (by omega)]
  refine Inb (λ hgt=>?_) (λ hgt=>?_)
  ·rw[if_neg (by omega)]
   exact Igb rfl
  ·rw[if_pos (by omega)]
   refine Ikb (by omega) (Ikb (by omega) (Ikb (by omega) (Igb ?_)))
   rw[show toNat ((q:Int)+(n:Int))=q+n by omega,Vd,Jub,show q+n-q=n by omega]
   simp only[Wa,true_and,and_true]
   push_cast
   rfl
def Era (l:List Int) (hb:Ai l) (hl:l.length≤1000000000000) (p:Int):Tot (λ k=>J4 k l p) (λ r=>r=Ehb l p):=by
 unfold J4
 refine Isb (W8 l hb hl p) ?_
 unfold Ehb N7a
 rcases D7a l hb p with h|⟨n,q,h0,hg,h,hn,hq⟩
 ·rw[h]
  refine Ijb rfl (Igb ?_)
  unfold Kka at h
  split
  ·rfl
  ·rename_i h0
   rw[if_neg h0]at h
   cases hg:Pg l p.toNat with
   |none=>rfl
   |some nq=>rw[hg]at h;simp at h
 ·rw[h]
  refine Iib rfl ?_
  rw[if_neg (by omega),hg]
  simp only
  rw[w64 (n:=(l.length:Int)-(q:Int)) (by omega) (by omega),w64 (n:=(q:Int)+(n:Int)) (by omega) (by omega)]
  refine Inb (λ hgt=>?_) (λ hgt=>?_)
  ·rw[if_neg (by omega)]
   exact Igb rfl
  ·rw[if_pos (by omega)]
   refine Ikb (by omega) (Ikb (by omega) (Ikb (by omega) (Igb ?_)))
   rw[show toNat ((q:Int)+(n:Int))=q+n by omega,Vd,Jub,show q+n-q=n by omega]
   simp only[Wa,true_and,and_true]
   push_cast
   rfl
def Kla {l:List Int} {p q:Nat} {s:ByteArray} (hb:Ai l) (h:N7a l p=some (s,q)):l.drop p=txt s++l.drop q∧s.size≤1000000000∧p<q∧q≤l.length:=by
 unfold N7a at h
 split at h
 ·rename_i n q0 hg
  obtain⟨h1,h2,h3,h4⟩:=Te hb hg
  split at h
  ·rename_i hle
   simp only[Vg,Wa]at h
   obtain⟨rfl,rfl⟩:=h
   have hlen:((l.drop q0).take n).length=n:=by rw[Vu,We];omega
   have hbb:Ai ((l.drop q0).take n):=λ x hx=>hb x (Zo (J4b hx))
   refine⟨?_,by rw[Nq,hlen];exact h2,by omega,by omega⟩
   unfold txt
   rw[Nq,hlen,Oe hbb,h1,show Bq (n:Int)=n by unfold Bq;omega,Vp]
   congr 1
   rw[← Yo,Wl]
  ·cases h
 ·cases h
def Xxa (pre:List Int) (s:ByteArray) (rest:List Int) (hs:s.size≤1000000000):N7a (pre++(txt s++rest)) pre.length=some (s,pre.length+(txt s).length):=by
 unfold N7a txt
 have hc:Bq (s.size:Int)=s.size:=by unfold Bq;omega
 rw[hc,Vp,N4a pre s.size _ hs]
 simp only
 rw[if_pos (by simp only[Ve,Qj];omega)]
 have e:(pre++(Pc s.size++(bytesOf s++rest))).drop (pre.length+(Pc s.size).length)=bytesOf s++rest:=by
  rw[← Vp,← Ve,Zm]
 rw[e,L4b (Qj s),Ui]
 simp only[Ve,Qj,Vg,Wa,true_and]
 omega

def C2a (b:Bool):Int:=bif b then 1 else 0
def Cmb (b:Bool):Nu b=some (C2a b):=by cases b<;>rfl
def N9a (b:Bool):Kw b=some (C2a b):=by cases b<;>rfl
def Qoa (s:Stp):List Int:=Pc (Bq s.1)++(Pc (Bq s.2.1)++Pc (Bq s.2.2))
def Esa (s:Stp):(Qoa s).length≤15:=by
 unfold Qoa
 have h1:=(Mf (Bq s.1)).1
 have h2:=(Mf (Bq s.2.1)).1
 have h3:=(Mf (Bq s.2.2)).1
 simp only[Ve]
 omega
def Pna (out:List Int) (s:Stp) (b:Bool) (hl:out.length≤999999999900):Tot (λ k=>Ht k out s b) (λ r=>r=out++(Qoa s++Pc (Bq (C2a b)))):=by
 have h1:=(Mf (Bq s.1)).1
 have h2:=(Mf (Bq s.2.1)).1
 have h3:=(Mf (Bq s.2.2)).1
 unfold Ht Qoa
 refine Isb (Axa out s.1 (by omega)) ?_
 refine Isb (Axa _ s.2.1 (by simp only[Ve];omega)) ?_
 refine Isb (Axa _ s.2.2 (by simp only[Ve];omega)) ?_
 refine Isb (Itb (Q:=λ y=>y=C2a b) (Cmb b) rfl) ?_
 refine Isb (Axa _ (C2a b) (by simp only[Ve];omega)) ?_
 exact Igb (by simp only[Vp])
def D8a (out:List Int) (s:Stp) (hl:out.length≤999999999900):Tot (λ k=>J6 k out s) (λ r=>r=out++Qoa s):=by
 have h1:=(Mf (Bq s.1)).1
 have h2:=(Mf (Bq s.2.1)).1
 unfold J6 Qoa
 refine Isb (W9 out s.1 (by omega)) ?_
 refine Isb (W9 _ s.2.1 (by simp only[Ve];omega)) ?_
 refine Isb (W9 _ s.2.2 (by simp only[Ve];omega)) ?_
 exact Igb (by simp only[Vp])
def Aya {s:ByteArray} (h:As s=true):1≤s.size∧s.size≤20:=by
 unfold As at h
 rw[Va,Co]at h
 omega
def D9a {r:Row} (h:Na r=true):As r.1=true:=by
 unfold Na at h
 rw[Va]at h
 exact h.1
def Tka (s:ByteArray):(txt s).length≤5+s.size:=by
 have h1:=(Mf (Bq (s.size:Int))).1
 unfold txt
 simp only[Ve,Qj]
 omega

def Y8 (l:List Int) (p:Nat):Kka l (p:Int)=match Pg l p with
 |some (n,q)=>((n:Int),(q:Int),true)
 |none=>(0,0,false):=by
 unfold Kka
 rw[if_neg (by omega),Vd]
 all_goals cases Pg l p<;>rfl
def Naa (l:List Int) (p:Nat):Ehb l (p:Int)=match N7a l p with
 |some (s,q)=>(s,(q:Int),true)
 |none=>((⟨#[]⟩:ByteArray),0,false):=by
 unfold Ehb
 rw[if_neg (by omega),Vd]
 all_goals cases N7a l p<;>rfl
def C3a (l:List Int) (hb:Ai l) (hl:l.length≤1000000000000) (p:Nat) (hp:p≤l.length) (bad:Bool):
  Tot (λ k=>Cs k (l,(p:Int),bad)) (λ r=>(bad=false∧∃ n q:Nat,Pg l p=some (n,q)∧q≤l.length∧r=((n:Int),l,(q:Int),false))∨((bad=true∨Pg l p=none)∧r=(0,l,(p:Int),true))):=by
 unfold Cs
 refine Isb (Tja l hb hl (p:Int) (by omega)) ?_
 refine Imb (λ h=>Igb (.inr ⟨.inl h,rfl⟩)) (λ h=>?_)
 rw[Y8]
 cases hg:Pg l p with
 |none=>exact Ijb rfl (Igb (.inr ⟨.inr rfl,rfl⟩))
 |some nq=>
  obtain⟨n,q⟩:=nq
  simp only at h
  subst h
  exact Iib rfl (Igb (.inl ⟨rfl,n,q,rfl,(Te hb hg).2.2.2,rfl⟩))
def Hhb (l:List Int) (hb:Ai l) (hl:l.length≤1000000000000) (p:Nat) (hp:p≤l.length):
  Tot (λ k=>Cp k (l,(p:Int),false)) (λ r=>(∃ (s:ByteArray) (q:Nat),N7a l p=some (s,q)∧q≤l.length∧r=(s,l,(q:Int),false))∨(N7a l p=none∧r=((⟨#[]⟩:ByteArray),l,(p:Int),true))):=by
 unfold Cp
 refine Isb (N8a l hb hl (p:Int) (by omega)) ?_
 refine Iib rfl ?_
 rw[Naa]
 cases hg:N7a l p with
 |none=>exact Ijb rfl (Igb (.inr ⟨rfl,rfl⟩))
 |some nq=>
  obtain⟨n,q⟩:=nq
  exact Iib rfl (Igb (.inl ⟨n,q,rfl,(Kla hb hg).2.2.2,rfl⟩))
def Qx (l:List Int) (p:Nat):Option ((Stp×Bool)×Nat):=
 (Pg l p).bind λ b=>(Pg l b.2).bind λ c=>(Pg l c.2).bind λ d=>(Pg l d.2).bind λ e=>bif decide (1<e.1) then none else
  some ((((b.1:Int),(c.1:Int),(d.1:Int)),(e.1:Int)==1),e.2)
def Hib (l:List Int) (hb:Ai l) (hl:l.length≤1000000000000) (p:Nat) (hp:p≤l.length) (bad:Bool):
  Tot (λ k=>Dg k (l,(p:Int),bad)) (λ r=>(bad=false∧∃ (x:Stp×Bool) (q:Nat),Qx l p=some (x,q)∧q≤l.length∧r=(x.1,x.2,l,(q:Int),false))∨((bad=true∨Qx l p=none)∧∃ s b,∃ q:Nat,q≤l.length∧r=(s,b,l,(q:Int),true))):=by
 unfold Dg
 have nx:∀ {o:Option (Nat×Nat)} {f:Nat×Nat→Option ((Stp×Bool)×Nat)},o=none→o.bind f=none:=by
  intro o f h;rw[h];rfl
 refine Ihb (C3a l hb hl p hp bad) ?_
 rintro r (⟨h0,n1,p1,h1,l1,rfl⟩|⟨h1,rfl⟩)
 ·simp only
  refine Ihb (C3a l hb hl p1 l1 false) ?_
  rintro r (⟨_,n2,p2,h2,l2,rfl⟩|⟨h2,rfl⟩)
  ·simp only
   refine Ihb (C3a l hb hl p2 l2 false) ?_
   rintro r (⟨_,n3,p3,h3,l3,rfl⟩|⟨h3,rfl⟩)
   ·simp only
    refine Ihb (C3a l hb hl p3 l3 false) ?_
    rintro r (⟨_,n4,p4,h4,l4,rfl⟩|⟨h4,rfl⟩)
    ·simp only
     refine Iib rfl (Igb ?_)
     have e:Qx l p=bif decide (1<n4) then none else some ((((n1:Int),(n2:Int),(n3:Int)),(n4:Int)==1),p4):=by
      unfold Qx
      simp only[h1,h2,h3,h4,Vm]
     cases hd:decide (1<n4) with
     |true=>
      rw[hd,cond_true]at e
      refine .inr ⟨.inr e,((n1:Int),(n2:Int),(n3:Int)),((n4:Int)==1),p4,l4,?_⟩
      have:decide ((n4:Int) > 1)=true:=decide_eq_true (by have:=of_decide_eq_true hd;omega)
      rw[this]
     |false=>
      rw[hd,cond_false]at e
      refine .inl ⟨h0,_,p4,e,l4,?_⟩
      have:decide ((n4:Int) > 1)=false:=decide_eq_false (by have:=of_decide_eq_false hd;omega)
      rw[this]
    ·refine Ijb rfl (Igb (.inr ⟨.inr ?_,_,_,p3,l3,rfl⟩))
     have h4':=h4.resolve_left (by simp)
     unfold Qx
     simp only[h1,h2,h3,h4',Vm,Jfb]
   ·simp only
    refine Ihb (C3a l hb hl p2 l2 true) ?_
    rintro r (⟨hh,_⟩|⟨_,rfl⟩)
    ·cases hh
    ·refine Ijb rfl (Igb (.inr ⟨.inr ?_,_,_,p2,l2,rfl⟩))
     have h3':=h3.resolve_left (by simp)
     unfold Qx
     simp only[h1,h2,h3',Vm,Jfb]
  ·simp only
   refine Ihb (C3a l hb hl p1 l1 true) ?_
   rintro r (⟨hh,_⟩|⟨_,rfl⟩)
   ·cases hh
   ·refine Ihb (C3a l hb hl p1 l1 true) ?_
    rintro r (⟨hh,_⟩|⟨_,rfl⟩)
    ·cases hh
    ·refine Ijb rfl (Igb (.inr ⟨.inr ?_,_,_,p1,l1,rfl⟩))
     have h2':=h2.resolve_left (by simp)
     unfold Qx
     simp only[h1,h2',Vm,Jfb]
 ·simp only
  refine Ihb (C3a l hb hl p hp true) ?_
  rintro r (⟨hh,_⟩|⟨_,rfl⟩)
  ·cases hh
  ·refine Ihb (C3a l hb hl p hp true) ?_
   rintro r (⟨hh,_⟩|⟨_,rfl⟩)
   ·cases hh
   ·refine Ihb (C3a l hb hl p hp true) ?_
    rintro r (⟨hh,_⟩|⟨_,rfl⟩)
    ·cases hh
    ·refine Ijb rfl (Igb (.inr ⟨?_,_,_,p,hp,rfl⟩))
     rcases h1 with h1|h1
     ·exact .inl h1
     ·refine .inr ?_
      unfold Qx
      rw[h1]
      rfl
def Cnb (l:List Int) (hb:Ai l) (hl:l.length≤1000000000000) (p:Int):
  Tot (λ k=>Fh k l p) (λ r=>(∃ n1 p1 n2 p2 n3 p3,0≤p∧Pg l p.toNat=some (n1,p1)∧Pg l p1=some (n2,p2)∧Pg l p2=some (n3,p3)∧r=(((n1:Int),(n2:Int),(n3:Int)),(p3:Int),true))∨(((Pg l p.toNat).bind λ a=>(Pg l a.2).bind λ b=>Pg l b.2)=none∨p<0)∧r.2.2=false):=by
 unfold Fh
 refine Isb (W8 l hb hl p) ?_
 refine Isb (W8 l hb hl _) ?_
 refine Isb (W8 l hb hl _) ?_
 by_cases hp:p<0
 ·have:(Kka l p).2.2=false:=by unfold Kka;rw[if_pos hp]
  exact Iib this (Igb (.inr ⟨.inr hp,rfl⟩))
 ·have e1:Kka l p=match Pg l p.toNat with|some (n,q)=>((n:Int),(q:Int),true)|none=>(0,0,false):=by
   unfold Kka;rw[if_neg hp];all_goals cases Pg l p.toNat<;>rfl
  cases h1:Pg l p.toNat with
  |none=>
   rw[h1]at e1
   simp only[e1]
   exact Iib rfl (Igb (.inr ⟨.inl rfl,rfl⟩))
  |some a=>
   obtain⟨n1,p1⟩:=a
   rw[h1]at e1
   simp only[e1,Y8,Vm]
   refine Ijb rfl ?_
   cases h2:Pg l p1 with
   |none=>exact Iib rfl (Igb (.inr ⟨.inl rfl,rfl⟩))
   |some b=>
    obtain⟨n2,p2⟩:=b
    refine Ijb rfl ?_
    simp only[Y8,Vm]
    cases h3:Pg l p2 with
    |none=>exact Igb (.inr ⟨.inl rfl,rfl⟩)
    |some c=>
     obtain⟨n3,p3⟩:=c
     exact Igb (.inl ⟨n1,p1,n2,p2,n3,p3,by omega,rfl,h2,h3,rfl⟩)
def Tla {l:List Int} {p:Nat} (h:((Pg l p).bind λ a=>(Pg l a.2).bind λ b=>Pg l b.2)=none):Qx l p=none:=by
 unfold Qx
 cases h1:Pg l p with
 |none=>rfl
 |some a=>
  rw[h1]at h
  simp only[Vm]at h ⊢
  cases h2:Pg l a.2 with
  |none=>rfl
  |some b=>
   rw[h2]at h
   simp only[Vm]at h ⊢
   rw[h]
   rfl

def Ky:∀ s∈Ld,Kf s∧As s=true:=by
 intro s hs
 simp only[Ld,Vl,Zt,or_false]at hs
 rcases hs with rfl|rfl|rfl|rfl|rfl|rfl<;>exact⟨by unfold Kf;decide,by decide⟩
def Xya {x:Row} (h:Ckb x):Na x=true:=by
 obtain⟨h1,⟨t0,t1,s0,s1,n0,n1⟩,h3,h4,h5⟩:=h
 unfold Na G9
 rw[(Ky x.1 h1).2,Co.2 ⟨t0,t1⟩,Co.2 ⟨s0,s1⟩,Co.2 ⟨n0,n1⟩,Co.2 ⟨h3,by omega⟩]
 cases hd:x.2.2.1 with
 |false=>rfl
 |true=>rw[h5 hd];rfl
def X9 (c:Cur) (hc:Bj c):Tot (λ k=>K8 k c) (λ r=>Bj r.2∧r.1.length≤6∧Qi r.1):=by
 unfold K8
 refine Ihb (Tb c hc) (λ r hr=>?_)
 obtain⟨k1,hr1,hl⟩:=hr
 have hsh:Qi r.1:=λ q hq=>(Ky q.1 (hr1.2 q hq).1).1
 obtain⟨x,c',e,_,_,_,k2⟩:=Ad r.2 k1 8 (by decide)
 refine Isb (Itb (Q:=λ r=>r=(x,c')) e rfl) ?_
 refine Imb (λ _=>?_) (λ _=>?_)
 ·refine Ihb (D2a c' k2) (λ z hz=>?_)
  refine Iob (by simp only[Vc,Vi];omega) (Igb ⟨hz.2,?_,?_⟩)
  ·show (r.1++[z.1]).length≤6
   simp only[Ve,Vc,Vi]
   omega
  ·intro q hq
   rcases Vo.1 hq with hq|hq
   ·exact hsh q hq
   ·simp only[Vt]at hq
    subst hq
    exact(Ky _ hz.1.1).1
 ·refine Imb (λ _=>?_) (λ _=>Igb ⟨k2,by show r.1.length≤6;omega,hsh⟩)
  refine Inb (λ h=>?_) (λ h=>Igb ⟨k2,by show r.1.length≤6;omega,hsh⟩)
  obtain⟨v,c3,e3,_,k3⟩:=Jh c' k2 [(-1),201,200] (by decide) (by decide)
  refine Isb (Itb (Q:=λ r=>r=(v,c3)) e3 rfl) ?_
  refine Ikb (by omega) (Igb ⟨k3,?_,?_⟩)
  ·show (List.set r.1 _ _).length≤6
   rw[Vy]
   omega
  ·intro q hq
   rcases Xs hq with hq|rfl
   ·exact hsh q hq
   ·have hpos:toNat 0<r.1.length:=by show 0<_;omega
    have h1:Kf (r.1.getD (toNat 0) Mq).1:=hsh _ (A4 (d:=Mq) hpos)
    exact h1

abbrev Nmd:=ByteArray×List Int
abbrev Dsk:=List Nmd×List Nmd
def Ed:Nmd:=((⟨#[]⟩:ByteArray),[])
def Eta (l:List Nmd):Prop:=l.length≤1000000000000∧∀ x∈l,x.2.length≤1000000000000
def Xza (d:Dsk):Prop:=Eta d.1∧Eta d.2
def Nb (l:List Int) (h:l.length≤1000000000000):Av l=some l:=by
 unfold Av
 rw[show Nat.ble ((length ([]:List Int)+length l)*1) 140737488355328=true from Zn (by simp only[Vi];omega)]
 rfl
def Xr (l:List Nmd) (hf:Eta l):∀ (n i:Nat) (acc:List Nmd),l.length-i=n→i≤l.length→acc.length≤i→
  Tot (λ k=>Ds k acc l (l.length:Int) (i:Int)) (λ r=>r=acc++l.drop i):=by
 obtain⟨h1,h2⟩:=hf
 intro n
 induction n with
 |zero=>
  intro i acc hd hi ha
  refine Tot.succ ?_
  simp only[Ds]
  refine Ilb (by omega) (Igb ?_)
  rw[Wp (by omega),Wq]
 |succ n ih=>
  intro i acc hd hi ha
  have hlt:i<l.length:=by omega
  refine Tot.succ ?_
  simp only[Ds]
  refine Ikb (by omega) (Ikb (by omega) (Ikb (by omega) ?_))
  rw[show toNat (i:Int)=i from Vd i,w64 (n:=(i:Int)+1) (by omega) (by omega),Au (d:=Ed) hlt]
  have e0:l.getD i ((⟨#[]⟩:ByteArray),([]:List Int))=l.getD i Ed:=rfl
  rw[e0]
  have hb:=h2 _ (A4 (d:=Ed) hlt)
  refine Isb (Itb (Q:=λ r=>r=(l.getD i Ed).2) (Nb _ hb) rfl) ?_
  refine Iob (by simp only[Vc,Vi];omega) ?_
  refine(ih (i+1) (acc++[l.getD i Ed]) (by omega) (by omega) (by simp only[Ve,Vc,Vi];omega)).mono ?_
  rintro r rfl
  rw[Vp]
  rfl
def Uj (l:List Nmd) (hf:Eta l):Tot (λ k=>C8 k l) (λ r=>r=l):=by
 unfold C8
 refine Ihb (Xr l hf _ 0 [] rfl (Vs _) (Vs _)) ?_
 intro r hr
 rw[Ya,Vz]at hr
 exact Igb hr
def Jr (d:Dsk) (hf:Xza d):Tot (λ k=>A9 k d) (λ r=>r=d):=by
 unfold A9
 refine Isb (Uj d.1 hf.1) ?_
 refine Isb (Uj d.2 hf.2) ?_
 exact Igb rfl
def fnd (l:List Nmd) (s:ByteArray):Option Nat:=l.findIdx? (λ x=>teq x.1 s)
def Hja (l:List Nmd) (s:ByteArray):Int:=match fnd l s with
 |some i=>(i:Int)
 |none => -1
def Tma (l:List Nmd) (s:ByteArray) (hf:l.length≤1000000000000):∀ (n i:Nat),l.length-i=n→i≤l.length→
  Tot (λ k=>L7 k s l (l.length:Int) (i:Int)) (λ r=>r=match fnd (l.drop i) s with|some j => .inl ((i+j:Nat):Int)|none => .inr ()):=by
 intro n
 induction n with
 |zero=>
  intro i hd hi
  refine Tot.succ ?_
  simp only[L7]
  refine Ilb (by omega) (Igb ?_)
  rw[Wp (by omega)]
  rfl
 |succ n ih=>
  intro i hd hi
  have hlt:i<l.length:=by omega
  refine Tot.succ ?_
  simp only[L7]
  refine Ikb (by omega) (Ikb (by omega) (Ikb (by omega) ?_))
  rw[show toNat (i:Int)=i from Vd i,w64 (n:=(i:Int)+1) (by omega) (by omega),Au (d:=Ed) hlt]
  have e0:l.getD i ((⟨#[]⟩:ByteArray),([]:List Int))=l.getD i Ed:=rfl
  rw[e0]
  have e1:fnd (l.getD i Ed::l.drop (i+1)) s=if teq (l.getD i Ed).1 s then some 0 else (fnd (l.drop (i+1)) s).map (· + 1):=by
   unfold fnd
   rw[Kfb]
  rw[e1]
  refine Imb (λ h=>?_) (λ h=>?_)
  ·have h':teq (l.getD i Ed).1 s=true:=h
   rw[if_pos h']
   exact Igb rfl
  ·have h':¬ (teq (l.getD i Ed).1 s=true):=by
    have:teq (l.getD i Ed).1 s=false:=h
    rw[this];simp
   rw[if_neg h']
   refine(ih (i+1) (by omega) (by omega)).mono ?_
   rintro r rfl
   cases fnd (l.drop (i+1)) s with
   |none=>rfl
   |some j=>
    show Sum.inl _=Sum.inl _
    rw[show i+1+j=i+(j+1) by omega]
def Nba (l:List Nmd) (s:ByteArray) (hf:l.length≤1000000000000):Tot (λ k=>Kt k l s) (λ r=>r=Hja l s):=by
 unfold Kt Hja
 refine Isb (Tma l s hf _ 0 rfl (Vs _)) ?_
 rw[Ya]
 cases fnd l s with
 |none=>exact Igb rfl
 |some j=>
  refine Igb ?_
  rw[Wk]
def Oa {l:List Nmd} {s:ByteArray} {i:Nat} (h:fnd l s=some i):i<l.length∧(l.getD i Ed).1=s:=by
 unfold fnd at h
 rw[Kgb]at h
 obtain⟨h1,h2,_⟩:=h
 refine⟨h1,?_⟩
 rw[Vb,Vk h1]
 exact Cy.1 h2
def del (l:List Nmd) (s:ByteArray):List Nmd:=match fnd l s with
 |some i=>l.take i++l.drop (i+1)
 |none=>l
def Eua (l:List Nmd) (s:ByteArray) (hf:l.length≤1000000000000):Tot (λ k=>Jd k l s) (λ r=>r=del l s):=by
 unfold Jd del
 refine Isb (Nba l s hf) ?_
 unfold Hja
 cases h:fnd l s with
 |none=>exact Ikb (by decide) (Igb rfl)
 |some i=>
  have hl:=(Oa h).1
  dsimp only
  refine Ilb (by omega) (Ikb (by omega) (Ikb (by omega) ?_))
  rw[w64 (n:=(i:Int)+1) (by omega) (by omega),show toNat (i:Int)=i from Vd i,show toNat ((i:Int)+1)=i+1 by omega]
  refine Iob (by simp only[Vi,Vu];omega) ?_
  refine Ikb (by omega) (Ikb (by omega) (Iob (by simp only[Ve,Vi,Vu,We];omega) (Igb rfl)))

end Go.Proofs.YtiiekghlhfbmmaaGreat.Vf
