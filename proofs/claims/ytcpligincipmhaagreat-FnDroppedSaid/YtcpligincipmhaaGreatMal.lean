import Derived.Test.YtcpligincipmhaaGreatMak
import Derived.Test.YtcpligincipmhaaGreatMab
import Derived.IntWalk
import Derived.Laws.StructEq
set_option linter.all false
namespace Go.Proofs.YtcpligincipmhaaGreat.Vf
open Go
open List (length getD)
open Int (toNat)
open Go.IntKind (wrap)
open BitVec (ofInt)
def Vg:=@Int.toNat_natCast
def Vy:=@Bool.true_and
def Wf:=@List.drop_length
def Wg:=@Bool.not_eq_false'
def Wo:=@List.drop_of_length_le
def Yg:=@List.mem_or_eq_of_mem_set
def Zk:=@List.pairwise_iff_getElem
def Zr:=@List.not_mem_nil
def Zs:=@Bool.false_and
def Zw:=@List.takeWhile_cons
def Gnb:=@Nat.pow_succ
def Gob:=@List.filter_cons
def Gpb:=@Int.tmod_eq_emod_of_nonneg
def Gqb:=@Int.fdiv_eq_ediv_of_nonneg
def H0b:=@Int.tdiv_eq_ediv_of_nonneg
def H3b:=@Option.bind_none
def Hhb:=@Sum.elim_inr
def Hsb:=@BitVec.toNat_and
def I2b:=@BitVec.toNat_ofInt
def I3b:=@IntKind.wrap_u8
def I4b:=@List.findIdx?_cons
def I5b:=@List.findIdx?_eq_some_iff_getElem
def Ifb:=@List.Pairwise.sublist
def Igb:=@Nat.and_two_pow_sub_one_eq_mod
def Itb:=@List.getElem_of_mem
def J4b:=@Nat.mul_le_mul
def J7b:=@List.take_sublist
def Jcb:=@List.getElem_set
def Jdb:=@List.takeWhile_sublist
def Jgb:=@Option.some.inj
def Jhb:=@Bool.and_eq_false_iff
def Jrb:=@Nat.mul_comm

def Tot {α:Type} (f:Nat→Option α) (Q:α→Prop):Prop:=∃ r K,(∀ k,K≤k→f k=some r)∧Q r
section
variable {α β:Type} {f g:Nat→Option α} {Q Q':α→Prop}
def Tot.mono (h:Tot f Q) (hq:∀ a,Q a→Q' a):Tot f Q':=by
 obtain⟨r,K,h1,h2⟩:=h;exact⟨r,K,h1,hq r h2⟩
def G9b {a:α} (h:Q a):Tot (λ _=>some a) Q:=⟨a,0,λ _ _=>rfl,h⟩
def Gmb {o:Option α} {a:α} (e:o=some a) (h:Q a):Tot (λ _=>o) Q:=⟨a,0,λ _ _=>e,h⟩
def Gab {h:Nat→α→Option β} {R:β→Prop} (hf:Tot f Q) (hh:∀ a,Q a→Tot (λ k=>h k a) R):Tot (λ k=>(f k).bind (h k)) R:=by
 obtain⟨a,K,h1,h2⟩:=hf;obtain⟨b,L,h3,h4⟩:=hh a h2;exact⟨b,max K L,λ k hk=>by show (f k).bind (h k)=_;rw[h1 k (by omega)];exact h3 k (by omega),h4⟩
def Gcb {c:Bool} (hc:c=true) (h:Tot f Q):Tot (λ k=>cond c (f k) (g k)) Q:=by subst hc;exact h
def Gbb {c:Bool} (hc:c=false) (h:Tot g Q):Tot (λ k=>cond c (f k) (g k)) Q:=by subst hc;exact h
def Gfb {c:Bool} (h1:c=true→Tot f Q) (h2:c=false→Tot g Q):Tot (λ k=>cond c (f k) (g k)) Q:=by
 cases hc:c with
 |true=>exact h1 hc
 |false=>exact h2 hc
def Gdb {p:Prop} [Decidable p] (hp:p) (h:Tot f Q):Tot (λ k=>cond (decide p) (f k) (g k)) Q:=Gcb (decide_eq_true hp) h
def Geb {p:Prop} [Decidable p] (hp:¬ p) (h:Tot g Q):Tot (λ k=>cond (decide p) (f k) (g k)) Q:=Gbb (decide_eq_false hp) h
def Ggb {p:Prop} [Decidable p] (h1:p→Tot f Q) (h2:¬ p→Tot g Q):Tot (λ k=>cond (decide p) (f k) (g k)) Q:=
 Gfb (λ h=>h1 (of_decide_eq_true h)) (λ h=>h2 (of_decide_eq_false h))
def Ghb {m n:Nat} (hp:m≤n) (h:Tot f Q):Tot (λ k=>cond (Nat.ble m n) (f k) (g k)) Q:=Gcb (Zj hp) h
def Glb {v:α} {h:Nat→α→Option β} {R:β→Prop} (hf:Tot f (λ r=>r=v)) (hh:Tot (λ k=>h k v) R):Tot (λ k=>(f k).bind (h k)) R:=
 Gab hf (by rintro r rfl;exact hh)
def Tot.succ (h:Tot (λ k=>f (k+1)) Q):Tot f Q:=by
 obtain⟨r,K,h1,h2⟩:=h;exact⟨r,K+1,λ k hk=>by obtain⟨m,rfl⟩:∃ m,k=m+1:=⟨k-1,by omega⟩;exact h1 m (by omega),h2⟩
def Tot.and (h:Tot f Q) (h':Tot f Q'):Tot f (λ a=>Q a∧Q' a):=by
 obtain⟨r,K,h1,h2⟩:=h;obtain⟨r',K',h1',h2'⟩:=h'
 have e:r=r':=by
  have a1:=h1 (max K K') (by omega);have a2:=h1' (max K K') (by omega);rw[a1]at a2;exact Jgb a2
 subst e;exact⟨r,K,h1,h2,h2'⟩
def Tot.law {f:Nat→Option Bool} (h:Tot f (λ b=>b=true)):∃ k,f k=some true:=by
 obtain⟨r,K,h1,h2⟩:=h;subst h2;exact⟨K,h1 K (Vw _)⟩
end
def w64 {n:Int} (h1 : -9223372036854775808≤n) (h2:n≤9223372036854775807):wrap .i64 n=n:=Go.IntWalk.i64_in n ⟨h1,h2⟩
def Cja (n:Int) : -9223372036854775808≤wrap .i64 n∧wrap .i64 n≤9223372036854775807:=by
 rw[IntKind.wrap_i64];omega
def Gha (n:Int):0≤wrap .u8 n∧wrap .u8 n≤255:=by
 simp only[wrap,IntKind.signed,IntKind.bits];simp;omega
def M3a (x m:Int) (h0:0≤m) (h1:m<9223372036854775808):0≤wrap .i64 ((ofInt (IntKind.bits .i64) x &&& ofInt (IntKind.bits .i64) m).toNat)∧wrap .i64 ((ofInt (IntKind.bits .i64) x &&& ofInt (IntKind.bits .i64) m).toNat)≤m:=by
 have hm:(ofInt (IntKind.bits .i64) m).toNat=m.toNat:=by
  rw[I2b];show (m % ((2 ^ 64:Nat):Int)).toNat=m.toNat;rw[Int.emod_eq_of_lt h0 (by omega)]
 have hle:(ofInt (IntKind.bits .i64) x &&& ofInt (IntKind.bits .i64) m).toNat≤m.toNat:=by
  rw[Hsb,hm];exact Nat.and_le_right
 rw[w64 (by omega) (by omega)];omega
def S5a {x n:Int} (hx:0≤x) (hn:0<n):0≤Int.tmod x n∧Int.tmod x n<n:=by
 rw[Gpb hx];exact⟨Int.emod_nonneg _ (by omega),Int.emod_lt_of_pos _ hn⟩

abbrev Cur:=List Int×Int×Int
def Ct (c:Cur):Prop:=(c.1.length:Int)≤1048576∧0≤c.2.1∧c.2.1≤1048576
def Oga (b:List Int) (hb:(b.length:Int)≤1048576):∀ (n:Nat) (h i:Int),0≤i→i+n=4001→Tot (λ k=>Ic k b h i) (λ r=>r.1=b):=by
 intro n
 induction n with
 |zero=>
  intro h i h0 hi;refine Tot.succ ?_;simp only[Ic];refine Ggb (λ h1=>?_) (λ h1=>G9b rfl);exact Geb (by omega) (G9b rfl)
 |succ n ih=>
  intro h i h0 hi;refine Tot.succ ?_;simp only[Ic];refine Ggb (λ h1=>?_) (λ h1=>G9b rfl);refine Ggb (λ h2=>?_) (λ h2=>G9b rfl);refine Gdb h0 (Gdb h1 ?_);rw[w64 (n:=i+1) (by omega) (by omega)];exact ih _ _ (by omega) (by omega)
def S6a (b:List Int) (hb:(b.length:Int)≤1048576):Tot (λ k=>Kt k b) Ct:=by
 unfold Kt;refine Gab (Oga b hb 4001 _ 0 (by omega) (by omega)) (λ r hr=>?_);exact G9b ⟨by rw[hr];exact hb,Zh 0,by show (0:Int)≤1048576;omega⟩
def Rk (c:Cur) (hc:Ct c):∃ x c',Fv c=some (x,c')∧0≤x∧x≤255∧Ct c':=by
 obtain⟨h1,h2,h3⟩:=hc;unfold Fv
 by_cases hlt:c.2.1<(c.1.length:Int)
 ·simp only[hlt,h2,decide_true,cond_true];obtain⟨a1,a2⟩:=M3a (wrap .i64 ((wrap .i64 ((ofInt (IntKind.bits .i64) (wrap .i64 ((ofInt (IntKind.bits .i64) (Int.fdiv (wrap .i64 ((wrap .i64 (c.2.2*6364136223846793005))+1442695040888963407)) (2 ^ (min (toNat 33) (IntKind.bits .i64)))) ^^^ ofInt (IntKind.bits .i64) (Int.fdiv (wrap .i64 ((wrap .i64 (c.2.2*6364136223846793005))+1442695040888963407)) (2 ^ (min (toNat 47) (IntKind.bits .i64))))).toNat)) &&& ofInt (IntKind.bits .i64) 255).toNat))+(wrap .i64 (getD c.1 (toNat c.2.1) (0:Int))))) 255 (by omega) (by omega);refine⟨_,_,rfl,a1,a2,h1,?_,?_⟩
  ·show 0≤wrap .i64 (c.2.1+1);rw[w64 (by omega) (by omega)];omega
  ·show wrap .i64 (c.2.1+1)≤1048576;rw[w64 (by omega) (by omega)];omega
 ·simp only[hlt,decide_false,cond_false];obtain⟨a1,a2⟩:=M3a (wrap .i64 ((ofInt (IntKind.bits .i64) (Int.fdiv (wrap .i64 ((wrap .i64 (c.2.2*6364136223846793005))+1442695040888963407)) (2 ^ (min (toNat 33) (IntKind.bits .i64)))) ^^^ ofInt (IntKind.bits .i64) (Int.fdiv (wrap .i64 ((wrap .i64 (c.2.2*6364136223846793005))+1442695040888963407)) (2 ^ (min (toNat 47) (IntKind.bits .i64))))).toNat)) 255 (by omega) (by omega);exact⟨_,_,rfl,a1,a2,h1,h2,h3⟩
def Av (c:Cur) (hc:Ct c) (n:Int) (hn:n≤1000000000):∃ x c',A3 c n=some (x,c')∧0≤x∧(0<n→x<n)∧(n≤0→x=0)∧Ct c':=by
 unfold A3
 by_cases h0:n≤0
 ·exact⟨0,c,by simp only[h0,decide_true,cond_true],by omega,by omega,λ _=>rfl,hc⟩
 ·by_cases h1:n≤256
  ·obtain⟨x,c',e,b0,b1,k⟩:=Rk c hc
   have hz:¬ n=0:=by omega
   have:=S5a b0 (show 0<n by omega);exact⟨Int.tmod x n,c',by simp only[h0,h1,hz,decide_true,decide_false,cond_true,cond_false,e,Vn],this.1,λ _=>this.2,λ h=>by omega,k⟩
  ·obtain⟨x,c1,e1,b0,b1,k1⟩:=Rk c hc;obtain⟨y,c2,e2,b2,b3,k2⟩:=Rk c1 k1;obtain⟨z,c3,e3,b4,b5,k3⟩:=Rk c2 k2
   have hz:¬ n=0:=by omega
   have:=S5a (show 0≤x*65536+y*256+z by omega) (show 0<n by omega);refine⟨Int.tmod (x*65536+y*256+z) n,c3,?_,this.1,λ _=>this.2,λ h=>by omega,k3⟩;simp only[h0,h1,hz,decide_false,cond_false,e1,e2,e3,Vn];rw[w64 (n:=x*65536) (by omega) (by omega),w64 (n:=y*256) (by omega) (by omega),w64 (n:=x*65536+y*256) (by omega) (by omega),w64 (n:=x*65536+y*256+z) (by omega) (by omega)]
def M4a {α:Type} {l:List α} {i:Int} {d:α} (h0:0≤i) (h1:i<(l.length:Int)):l.getD i.toNat d∈l:=by
 have h:i.toNat<l.length:=by omega
 rw[Vc,Vk h];exact Ihb h
def Kz (c:Cur) (hc:Ct c) (l:List Int) (hl:0<l.length) (hm:l.length≤2000000):∃ x c',Aa c l=some (x,c')∧x∈l∧Ct c':=by
 obtain⟨i,c',e,b0,b1,_,k⟩:=Av c hc (l.length:Int) (by omega);have b1:=b1 (by omega);refine⟨l.getD i.toNat 0,c',?_,M4a b0 b1,k⟩;unfold Aa;simp only[e,Vn,b0,b1,decide_true,cond_true]
def M5a (c:Cur) (hc:Ct c) (l:List ByteArray) (hl:0<l.length) (hm:l.length≤2000000):∃ x c',Js c l=some (x,c')∧x∈l∧Ct c':=by
 obtain⟨i,c',e,b0,b1,_,k⟩:=Av c hc (l.length:Int) (by omega);have b1:=b1 (by omega);refine⟨l.getD i.toNat (⟨#[]⟩:ByteArray),c',?_,M4a b0 b1,k⟩;unfold Js;simp only[e,Vn,b0,b1,decide_true,cond_true]
def Aj (l:List Int):Prop:=∀ x∈l,0≤x∧x≤255
def Gia (m:Int) (hm:m≤1000):∀ (n:Nat) (l:List Int) (i:Int) (c:Cur),Ct c→0≤i→i≤max m 0→(max m 0)-i=n→(l.length:Int)=i→Aj l→
  Tot (λ k=>G3 k m l i c.1 c.2.1 c.2.2) (λ r=>Ct r.2∧Aj r.1∧(r.1.length:Int)=max m 0):=by
 intro n
 induction n with
 |zero=>
  intro l i c hc h0 h1 hn hl hb;refine Tot.succ ?_;simp only[G3];refine Geb (by omega) (G9b ⟨hc,hb,by show (l.length:Int)=_;omega⟩)
 |succ n ih=>
  intro l i c hc h0 h1 hn hl hb;refine Tot.succ ?_;simp only[G3];refine Gdb (by omega) ?_;obtain⟨x,c',e,b0,b1,k⟩:=Rk c hc;refine Glb (Gmb (Q:=λ r=>r=(x,c')) e rfl) ?_;refine Ghb (by simp only[Vb,Vj];omega) ?_;rw[w64 (n:=i+1) (by omega) (by omega)];refine ih _ _ c' k (by omega) (by omega) (by omega) (by simp only[Vd,Vb,Vj];omega) ?_;intro y hy;rcases Vo.1 hy with hy|hy
  ·exact hb y hy
  ·simp only[Vs]at hy;subst hy;exact Gha _
def Cka (c:Cur) (hc:Ct c):Tot (λ k=>Dx k c) (λ r=>Ct r.2∧Aj r.1∧(r.1.length:Int)≤9):=by
 unfold Dx;obtain⟨x,c',e,hx,k⟩:=Kz c hc [0,1,2,5,9] (by decide) (by decide)
 have hx':0≤x∧x≤9:=by
  simp only[Vl,Zr,or_false]at hx;omega
 refine Glb (Gmb (Q:=λ r=>r=(x,c')) e rfl) ?_;refine Gab (Q:=λ r=>Ct r.2∧Aj r.1∧(r.1.length:Int)≤9) ?_ (λ r hr=>G9b hr);unfold G4;refine Gab (Gia x (by omega) (max x 0-0).toNat [] 0 c' k (by omega) (by omega) (by omega) rfl (by intro y hy;simp at hy)) (λ r hr=>G9b ?_);exact⟨hr.1,hr.2.1,by show (r.1.length:Int)≤9;rw[hr.2.2];omega⟩
def On (c:Cur) (hc:Ct c) (n:Int) (hn:n≤1000000000):∃ x c',Ce c n=some (x,c')∧Ct c':=by
 obtain⟨x,c',e,_,_,_,k⟩:=Av c hc n hn;exact⟨x==0,c',by unfold Ce;simp only[e,Vn],k⟩
abbrev Stp:=Int×Int×Int
abbrev Row:=ByteArray×Stp×Bool×Int
abbrev Fil:=Stp×Bool×List Int
def Jia (s:Stp):Prop:=0≤s.1∧s.1≤1000000000∧0≤s.2.1∧s.2.1≤1000000∧0≤s.2.2∧s.2.2≤20
def N7:List ByteArray:=[(⟨#[97]⟩:ByteArray),(⟨#[98]⟩:ByteArray),(⟨#[99,97,116,47,49]⟩:ByteArray),(⟨#[99,97,116,47,50]⟩:ByteArray),(⟨#[100,111,103]⟩:ByteArray),(⟨#[120,45,49]⟩:ByteArray)]
def Oo (c:Cur) (hc:Ct c):∃ x c',Bt c=some (x,c')∧x∈N7∧Ct c':=by
 obtain⟨x,c',e,hx,k⟩:=M5a c hc N7 (by decide) (by decide);exact⟨x,c',by unfold Bt;unfold N7 at e;simp only[e,Vn],hx,k⟩
def Gja (c:Cur) (hc:Ct c):∃ x c',Il c=some (x,c')∧Jia x∧Ct c':=by
 obtain⟨x,c1,e1,hx,k1⟩:=Kz c hc [0,1,2,3,1000000000] (by decide) (by decide);obtain⟨y,c2,e2,y0,y1,_,k2⟩:=Av c1 k1 3 (by decide);obtain⟨z,c3,e3,z0,z1,_,k3⟩:=Av c2 k2 3 (by decide);have y1:=y1 (by decide);have z1:=z1 (by decide);simp only[Vl,Zr,or_false]at hx;exact⟨(x,y,z),c3,by unfold Il;simp only[e1,e2,e3,Vn],⟨by show 0≤x;omega,by show x≤_;omega,y0,by show y≤_;omega,z0,by show z≤_;omega⟩,k3⟩
def Yva (f:Fil):Prop:=Jia f.1∧Aj f.2.2∧(f.2.2.length:Int)≤9∧(f.2.1=true→f.2.2=[])
def Q3 (c:Cur) (hc:Ct c):Tot (λ k=>Cf k c) (λ r=>Yva r.1∧Ct r.2):=by
 unfold Cf;obtain⟨s,c1,e1,hs,k1⟩:=Gja c hc;obtain⟨b,c2,e2,k2⟩:=On c1 k1 4 (by decide);refine Glb (Gmb (Q:=λ r=>r=(s,c1)) e1 rfl) ?_;refine Glb (Gmb (Q:=λ r=>r=(b,c2)) e2 rfl) ?_;refine Gfb (λ hb=>?_) (λ hb=>G9b ⟨⟨hs,by intro y hy;simp at hy,by show ((([]:List Int).length:Nat):Int)≤9;decide,λ _=>rfl⟩,k2⟩);refine Gab (Cka c2 k2) (λ r hr=>G9b ⟨⟨hs,hr.2.1,hr.2.2,λ h=>?_⟩,hr.1⟩);simp only[Vv]at hb;have h':b=true:=h;rw[hb]at h';cases h'
def B4b (x:Row):Prop:=x.1∈N7∧Jia x.2.1∧0≤x.2.2.2∧x.2.2.2≤9∧(x.2.2.1=true→x.2.2.2=0)
def Cla (c:Cur) (hc:Ct c):Tot (λ k=>Io k c) (λ r=>B4b r.1∧Ct r.2):=by
 unfold Io;obtain⟨s,c1,e1,hs,k1⟩:=Oo c hc;refine Glb (Gmb (Q:=λ r=>r=(s,c1)) e1 rfl) ?_;refine Gab (Q3 c1 k1) (λ r hr=>?_);obtain⟨⟨h1,h2,h3,h4⟩,k2⟩:=hr;unfold Iw;refine Glb (G9b (Q:=λ y=>y=(s,r.1.1,r.1.2.1,(r.1.2.2.length:Int))) rfl) ?_;refine G9b ⟨⟨hs,h1,by show (0:Int)≤(r.1.2.2.length:Int);omega,h3,λ h=>?_⟩,k2⟩;show (r.1.2.2.length:Int)=0;rw[h4 h];rfl

def Gka:∀ (a:List UInt8),Op.bytesLess a a=false
 |[]=>rfl
 |a::l=>by simp[Op.bytesLess,Gka l]
def M6a:∀ (a b c:List UInt8),Op.bytesLess a b=true→Op.bytesLess b c=true→Op.bytesLess a c=true
 |_,[],_,h,_=>by simp[Op.bytesLess]at h
 |_,_::_,[],_,h=>by simp[Op.bytesLess]at h
 |[],_::_,_::_,_,_=>rfl
 |a::x,b::y,c::z,h1,h2=>by
  simp only[Op.bytesLess,Gsb,Va,decide_eq_true_eq,beq_iff_eq]at h1 h2 ⊢;rcases h1 with h1|⟨rfl,h1⟩
  ·rcases h2 with h2|⟨rfl,h2⟩
   ·exact .inl (UInt8.lt_trans h1 h2)
   ·exact .inl h1
  ·rcases h2 with h2|⟨rfl,h2⟩
   ·exact .inl h2
   ·exact .inr ⟨rfl,M6a x y z h1 h2⟩
def Ywa:∀ (a b:List UInt8),Op.bytesLess a b=false→Op.bytesLess b a=false→a=b
 |[],[],_,_=>rfl
 |[],_::_,h,_=>by simp[Op.bytesLess]at h
 |_::_,[],_,h=>by simp[Op.bytesLess]at h
 |a::x,b::y,h1,h2=>by
  simp only[Op.bytesLess,Bool.or_eq_false_iff,Jhb,decide_eq_false_iff_not]at h1 h2
  have hab:a=b:=by
   have h3:=UInt8.not_lt.1 h1.1;have h4:=UInt8.not_lt.1 h2.1;exact UInt8.le_antisymm h4 h3
  subst hab;rw[Ywa x y (h1.2.resolve_left (by simp)) (h2.2.resolve_left (by simp))]
def tlt (a b:ByteArray):Bool:=Op.bytesLess a.toList b.toList
def teq (a b:ByteArray):Bool:=a.toList==b.toList
def Cma {a b:ByteArray} (h:a.toList=b.toList):a=b:=by
 rw[ByteArray.toList_eq,ByteArray.toList_eq]at h;obtain⟨⟨x⟩⟩:=a;obtain⟨⟨y⟩⟩:=b;simp only at h;rw[h]
def Jq {a b:ByteArray}:teq a b=true↔a=b:=by
 unfold teq;rw[beq_iff_eq];exact⟨Cma,λ h=>by rw[h]⟩
def Lm (a:ByteArray):tlt a a=false:=Gka _
def My {a b c:ByteArray} (h:tlt a b=true) (h':tlt b c=true):tlt a c=true:=M6a _ _ _ h h'
def Aha {a b:ByteArray} (h:tlt a b=false) (h':tlt b a=false):a=b:=Cma (Ywa _ _ h h')
def Aia {a b:ByteArray} (h:tlt a b=true):tlt b a=false:=by
 cases hb:tlt b a
 ·rfl
 have:=My h hb;rw[Lm]at this;cases this
def M7a (a b:ByteArray):(!(Op.bytesLess a.toList b.toList||a.toList==b.toList))=tlt b a:=by
 show (!(tlt a b||teq a b))=tlt b a;cases h1:tlt a b
 case true=>rw[Aia h1];rfl
 cases h2:teq a b
 case true=>rw[Jq.1 h2,Lm];rfl
 cases h3:tlt b a
 case true=>rfl
 exfalso;have:=Aha h1 h3;rw[Jq.2 this]at h2;cases h2
def sle (a b:Stp):Bool:=cond (a.1 != b.1) (decide (a.1<b.1)) (cond (a.2.1 != b.2.1) (decide (a.2.1<b.2.1)) (decide (a.2.2<b.2.2)))
def E7a (a b:Stp):C5 a b=some (sle a b):=by
 unfold C5 sle
 cases a.1 != b.1<;>cases a.2.1 != b.2.1<;>rfl
def M8a (a b:Stp):Ea a b=some (sle a b):=by
 unfold Ea sle
 cases a.1 != b.1<;>cases a.2.1 != b.2.1<;>rfl
def Rl {a b:Stp}:sle a b=true↔a.1<b.1∨(a.1=b.1∧(a.2.1<b.2.1∨(a.2.1=b.2.1∧a.2.2<b.2.2))):=by
 unfold sle
 by_cases h1:a.1=b.1
 ·by_cases h2:a.2.1=b.2.1
  ·simp[h1,h2]
  ·have:(a.2.1 != b.2.1)=true:=by simpa using h2
   simp[h1,this,h2]
 ·have:(a.1 != b.1)=true:=by simpa using h1
  simp[this,h1]
def Bma (a b:Row):Bool:=cond (!((a.2.1.1==b.2.1.1)&&((a.2.1.2.1==b.2.1.2.1)&&(a.2.1.2.2==b.2.1.2.2)))) (sle a.2.1 b.2.1) (cond (!(a.2.2.1==b.2.2.1)) b.2.2.1 (decide (a.2.2.2<b.2.2.2)))
def Jja (a b:Row):Ji a b=some (Bma a b):=by
 unfold Ji Bma;rw[E7a]
 cases (!((a.2.1.1==b.2.1.1)&&((a.2.1.2.1==b.2.1.2.1)&&(a.2.1.2.2==b.2.1.2.2))))<;>cases (!(a.2.2.1==b.2.2.1))<;>rfl
def Nl:Row:=((⟨#[]⟩:ByteArray),(((0:Int),((0:Int),(0:Int))),(false,(0:Int))))
def Aja (s:ByteArray):List Row→Nat→Option Nat
 |[],_=>none
 |r::l,i=>bif teq r.1 s then some i else Aja s l (i+1)
def E8a (l:List Row) (s:ByteArray):Nat→Nat
 |0=>0
 |k+1=>bif tlt s (l.getD k Nl).1 then E8a l s k else k+1
def mrg (l:List Row) (x:Row):List Row:=match Aja x.1 l 0 with
 |some i=>bif Bma (l.getD i Nl) x then l.set i x else l
 |none=>l.take (E8a l x.1 l.length)++x::l.drop (E8a l x.1 l.length)
def E9a (l:List Row) (s:ByteArray):∀ k,E8a l s k≤k
 |0=>Vw _
 |k+1=>by
  unfold E8a
  cases tlt s (l.getD k Nl).1 with
  |true=>have:=E9a l s k;simp only[cond_true];omega
  |false=>simp only[cond_false];omega
def Cna {s:ByteArray}:∀ (l:List Row) (i j:Nat),Aja s l i=some j→i≤j∧j<i+l.length∧teq (l.getD (j-i) Nl).1 s=true
 |[],i,j,h=>by simp[Aja]at h
 |r::l,i,j,h=>by
  unfold Aja at h
  cases ht:teq r.1 s with
  |true=>
   rw[ht]at h;simp only[cond_true,Ve]at h;subst h;refine⟨Vw _,by simp,?_⟩;rw[Hgb];exact ht
  |false=>
   rw[ht]at h;simp only[cond_false]at h;obtain⟨h1,h2,h3⟩:=Cna l (i+1) j h;refine⟨by omega,by simp only[Vb];omega,?_⟩;rw[show j-i=(j-(i+1))+1 by omega];exact h3
def Au {α:Type} {l:List α} {i:Nat} {d:α} (h:i<l.length):l.drop i=l.getD i d::l.drop (i+1):=by
 rw[Za h,Vc,Vk h];rfl
def Few (l:List Row):Prop:=l.length≤1000000000000
def Gla (x:Row):∀ (n:Nat) (l:List Row) (i:Nat),l.length-i=n→i≤l.length→Few l→
  Tot (λ k=>Ev k l (i:Int) x.1 x.2.1.1 x.2.1.2.1 x.2.1.2.2 x.2.2.1 x.2.2.2) (λ r=>r=match Aja x.1 (l.drop i) i with
   |some j => .inl (bif Bma (l.getD j Nl) x then l.set j x else l)
   |none => .inr (l,x.1,x.2.1.1,x.2.1.2.1,x.2.1.2.2,x.2.2.1,x.2.2.2)):=by
 intro n
 induction n with
 |zero=>
  intro l i hn hi hf;unfold Few at hf;refine Tot.succ ?_;simp only[Ev];refine Geb (by omega) (G9b ?_);rw[Wo (by omega)];rfl
 |succ n ih=>
  intro l i hn hi hf;have hf':=hf;unfold Few at hf
  have hlt:i<l.length:=by omega
  refine Tot.succ ?_;simp only[Ev];refine Gdb (by omega) (Gdb (by omega) (Gdb (by omega) ?_));have e0:toNat (i:Int)=i:=Vg i;rw[e0,Au (d:=Nl) hlt];refine Gfb (λ ht=>?_) (λ ht=>?_)
  ·have ht':teq (l.getD i Nl).1 x.1=true:=ht;refine Gdb (by omega) (Gdb (by omega) ?_);refine Glb (Gmb (Q:=λ r=>r=Bma (l.getD i Nl) x) (Jja _ _) rfl) ?_;simp only[Aja,ht',cond_true]
   cases hb:Bma (l.getD i Nl) x with
   |true=>exact Gcb rfl (Gdb (by omega) (Gdb (by omega) (G9b rfl)))
   |false=>exact Gbb rfl (G9b rfl)
  ·have ht':teq (l.getD i Nl).1 x.1=false:=ht;simp only[Aja,ht',cond_false];rw[w64 (n:=(i:Int)+1) (by omega) (by omega)];exact ih l (i+1) (by omega) (by omega) hf'
def M9a (l:List Row) (hf:Few l):I0 l=some l:=by
 unfold Few at hf;unfold I0;rw[Zj (by simp only[Vj];omega)];rfl
def Eaa (x:Row) (l:List Row) (hf:Few l):∀ (i:Nat) (y:Row),i≤l.length→
  Tot (λ k=>Dv k (l.take i++y::l.drop i) (i:Int) x.1 x.2.1.1 x.2.1.2.1 x.2.1.2.2 x.2.2.1 x.2.2.2)
   (λ r=>∃ y',r=(l.take (E8a l x.1 i)++y'::l.drop (E8a l x.1 i),(E8a l x.1 i:Int),x.1,x.2.1.1,x.2.1.2.1,x.2.1.2.2,x.2.2.1,x.2.2.2)):=by
 unfold Few at hf;intro i
 induction i with
 |zero=>
  intro y hi;refine Tot.succ ?_;simp only[Dv];exact Geb (by omega) (G9b ⟨y,rfl⟩)
 |succ i ih=>
  intro y hi;refine Tot.succ ?_;simp only[Dv]
  have hlen:(l.take (i+1)++y::l.drop (i+1)).length=l.length+1:=by simp only[Vd,Vu,Vb,Wh];omega
  have hget:∀ z,(l.take (i+1)++y::l.drop (i+1)).getD i z=l.getD i z:=by
   intro z;rw[Vc,Vc,Yf (by rw[Vu];omega),List.getElem?_take_of_lt (by omega)]
  rw[w64 (n:=((i+1:Nat):Int)-1) (by omega) (by omega),show ((i+1:Nat):Int)-1=(i:Int) by omega,show toNat (i:Int)=i from Vg i,show toNat ((i+1:Nat):Int)=i+1 from Vg _,hget,hlen];refine Gdb (by omega) (Gdb (by omega) (Gdb (by omega) ?_));have e:∀ z,(!(Op.bytesLess (l.getD i z).1.toList x.1.toList||(l.getD i z).1.toList==x.1.toList))=tlt x.1 (l.getD i z).1:=λ z=>M7a _ _;rw[e]
  have hc:E8a l x.1 (i+1)=bif tlt x.1 (l.getD i Nl).1 then E8a l x.1 i else i+1:=rfl
  refine Gfb (λ ht=>?_) (λ ht=>?_)
  ·have ht':tlt x.1 (l.getD i Nl).1=true:=ht;rw[hc,ht',cond_true];refine Gdb (by omega) (Gdb (by omega) (Gdb (by omega) (Gdb (by omega) ?_)))
   have hset:(l.take (i+1)++y::l.drop (i+1)).set (i+1) (l.getD i ((⟨#[]⟩:ByteArray),(((0:Int),((0:Int),(0:Int))),(false,(0:Int)))))=l.take i++l.getD i Nl::l.drop i:=by
    rw[List.set_append,if_neg (by rw[Vu];omega),Vu,Zu hi,Hgb,Ixb,Au (d:=Nl) (show i<l.length by omega)];rw[List.take_add_one,Vk (show i<l.length by omega)];simp only[J0b,Vp,Yk];rw[Vc,Vc,Vk (show i<l.length by omega)];rfl
   rw[hset];exact ih _ (by omega)
  ·have ht':tlt x.1 (l.getD i Nl).1=false:=ht;rw[hc,ht',cond_false];exact G9b ⟨y,rfl⟩
def Gma (l:List Row) (x:Row) (hf:Few l):Tot (λ k=>Bp k l x) (λ r=>r=mrg l x):=by
 have hf':=hf;unfold Few at hf;unfold Bp;refine Ghb (by simp only[Vj];omega) ?_;rw[Wb];refine Glb (Gla x _ l 0 rfl (Vt _) hf') ?_;rw[Yd];unfold mrg
 cases hfi:Aja x.1 l 0 with
 |some j=>exact G9b rfl
 |none=>
  simp only[Hhb];refine Ghb (by simp only[Vb,Vj];omega) ?_;have h0:=Eaa x l hf' l.length x (Vw _);rw[Yx,Wf]at h0;refine Gab h0 ?_;rintro z ⟨y',rfl⟩;have hc:=E9a l x.1 l.length
  have hlen:(l.take (E8a l x.1 l.length)++y'::l.drop (E8a l x.1 l.length)).length=l.length+1:=by simp only[Vd,Vu,Vb,Wh];omega
  simp only;rw[show toNat ((E8a l x.1 l.length:Nat):Int)=E8a l x.1 l.length from Vg _,hlen];refine Gdb (by omega) (Gdb (by omega) (G9b ?_));rw[List.set_append,if_neg (by rw[Vu];omega),Vu,Zu hc,Hgb,Ixb]

def Eba (a b:ByteArray):(a==b)=teq a b:=beq_toListBytes a b
def Coa {s:ByteArray}:∀ (l:List Row) (i:Nat),Aja s l i=none→∀ r∈l,r.1≠s
 |[],_,_,r,hr=>by simp at hr
 |a::l,i,h,r,hr=>by
  unfold Aja at h;cases ht:teq a.1 s
  case true=>rw[ht]at h;simp at h
  rw[ht]at h;rcases Vl.1 hr with rfl|hr
  ·intro e;rw[Jq.2 e]at ht;cases ht
  ·exact Coa l (i+1) h r hr
def S7a (l:List Row) (x:Row):l.length≤(mrg l x).length∧(mrg l x).length≤l.length+1:=by
 unfold mrg;have hc:=E9a l x.1 l.length;split
 ·cases Bma (l.getD _ Nl) x<;>simp
 ·simp only[Vd,Vu,Vb,Wh];omega
def S8a {l:List Row} {x r:Row} (h:r∈mrg l x):r=x∨r∈l:=by
 unfold mrg at h;split at h
 ·rename_i j hj;cases hb:Bma (l.getD j Nl) x
  ·rw[hb]at h;exact .inr h
  rw[hb,cond_true]at h;rcases Yg h with h|h
  ·exact .inr h
  ·exact .inl h
 ·rcases Vo.1 h with h|h
  ·exact .inr (H9b h)
  ·rcases Vl.1 h with h|h
   ·exact .inl h
   ·exact .inr (Zl h)
def Ln (a:Stp):sle a a=false:=by
 cases h:sle a a with
 |false=>rfl
 |true=>rw[Rl]at h;omega
def Iz (l:List Row):Prop:=l.Pairwise (λ a b=>tlt a.1 b.1=true)
def Gna {l:List Row} {s:ByteArray} (hs:Iz l) (hn:∀ r∈l,r.1≠s):∀ k,k≤l.length→(∀ i,i<E8a l s k→tlt (l.getD i Nl).1 s=true)∧(∀ i,E8a l s k≤i→i<k→tlt s (l.getD i Nl).1=true)
 |0,_=>⟨λ i hi=>by simp[E8a]at hi,λ i _ hi=>by omega⟩
 |k+1,hk=>by
  unfold E8a
  cases ht:tlt s (l.getD k Nl).1 with
  |true=>
   simp only[cond_true];obtain⟨h1,h2⟩:=Gna hs hn k (by omega);refine⟨h1,λ i hi hik=>?_⟩
   by_cases e:i=k
   ·subst e;exact ht
   ·exact h2 i hi (by omega)
  |false=>
   simp only[cond_false];refine⟨λ i hi=>?_,λ i hi hik=>by omega⟩
   have hget:∀ j (hj:j<l.length),l.getD j Nl=l[j]:=λ j hj=>by rw[Vc,Vk hj];rfl
   have hkl:k<l.length:=by omega
   have hks:tlt (l.getD k Nl).1 s=true:=by
    cases h:tlt (l.getD k Nl).1 s
    case true=>rfl
    exfalso;exact hn (l.getD k Nl) (by rw[hget k hkl];exact Ihb hkl) (Aha h ht)
   by_cases e:i=k
   ·subst e;exact hks
   ·have h3:=(Zk.1 hs) i k (by omega) hkl (by omega);rw[hget i (by omega)];rw[hget k hkl]at hks;exact My h3 hks
def Cpa {l:List Row} {x:Row} (hs:Iz l):Iz (mrg l x):=by
 have hget:∀ j (hj:j<l.length),l.getD j Nl=l[j]:=λ j hj=>by rw[Vc,Vk hj];rfl
 unfold mrg;split
 ·rename_i j hj;obtain⟨_,h2,h3⟩:=Cna l 0 j hj;rw[Iyb]at h3
  have hjl:j<l.length:=by omega
  have hname:l[j].1=x.1:=by rw[← hget j hjl];exact Jq.1 h3
  cases hb:Bma (l.getD j Nl) x
  ·exact hs
  rw[cond_true];unfold Iz;rw[Zk];intro a b ha hb hab;rw[Vz]at ha hb;have:=(Zk.1 hs) a b ha hb hab;rw[Jcb,Jcb]
  by_cases e1:j=a
  ·subst e1;rw[if_pos rfl,if_neg (by omega),← hname];exact this
  ·rw[if_neg e1]
   by_cases e2:j=b
   ·subst e2;rw[if_pos rfl,← hname];exact this
   ·rw[if_neg e2];exact this
 ·rename_i hj;have hn:=Coa l 0 hj;obtain⟨c1,c2⟩:=Gna hs hn l.length (Vw _);have hc:=E9a l x.1 l.length;unfold Iz;rw[Zc,Wi];refine⟨Ifb (J7b _ _) hs,⟨λ r hr=>?_,Ifb (List.drop_sublist _ _) hs⟩,λ r hr q hq=>?_⟩
  ·obtain⟨i,hi,rfl⟩:=Itb hr;rw[Wh]at hi;rw[List.getElem_drop,← hget _ (by omega)];exact c2 _ (by omega) (by omega)
  ·obtain⟨i,hi,rfl⟩:=Itb hr;rw[Vu]at hi
   have h1:tlt (List.take (E8a l x.1 l.length) l)[i].1 x.1=true:=by
    rw[List.getElem_take,← hget _ (by omega)];exact c1 i (by omega)
   rcases Vl.1 hq with rfl|hq
   ·exact h1
   ·refine My h1 ?_;obtain⟨m,hm,rfl⟩:=Itb hq;rw[Wh]at hm;rw[List.getElem_drop,← hget _ (by omega)];exact c2 _ (by omega) (by omega)
def Maa (l:List Row):Prop:=Iz l∧(∀ r∈l,B4b r)
def Goa:∀ (n:Nat) (l:List Row) (i:Int) (c:Cur),Ct c→0≤i→i=n→Maa l→l.length+n≤5→
  Tot (λ k=>G8 k l i c.1 c.2.1 c.2.2) (λ r=>Ct r.2∧Maa r.1∧r.1.length≤5):=by
 intro n
 induction n with
 |zero=>
  intro l i c hc h0 hi hr hl;refine Tot.succ ?_;simp only[G8];exact Geb (by omega) (G9b ⟨hc,hr,by show l.length≤5;omega⟩)
 |succ n ih=>
  intro l i c hc h0 hi hr hl;refine Tot.succ ?_;simp only[G8];refine Gdb (by omega) ?_;refine Gab (Cla c hc) (λ r h=>?_);refine Glb (Gma l r.1 (by unfold Few;omega)) ?_;rw[w64 (n:=i-1) (by omega) (by omega)];refine ih _ _ r.2 h.2 (by omega) (by omega) ⟨Cpa hr.1,λ y hy=>?_⟩ (by have:=(S7a l r.1).2;omega);rcases S8a hy with rfl|hy
  ·exact h.1
  ·exact hr.2 y hy
def Aka (c:Cur) (hc:Ct c):Tot (λ k=>D6 k c) (λ r=>Ct r.2∧Maa r.1∧r.1.length≤5):=by
 unfold D6;obtain⟨x,c',e,x0,x1,_,k⟩:=Av c hc 6 (by decide);have x1:=x1 (by decide);refine Glb (Gmb (Q:=λ r=>r=(x,c')) e rfl) ?_;refine Gab (Goa x.toNat [] x c' k x0 (by omega) ⟨List.Pairwise.nil,by simp⟩ (by simp only[Vj];omega)) (λ r hr=>G9b hr)

def inR (n lo hi:Int):Bool:=decide (n≥lo)&&decide (n≤hi)
def U4 (n lo hi:Int):F3 n lo hi=some (inR n lo hi):=by
 unfold F3 inR
 cases decide (n≥lo)<;>rfl
def Ob (n lo hi:Int):A8 n lo hi=some (inR n lo hi):=by
 unfold A8 inR
 cases decide (n≥lo)<;>rfl
def Dg {n lo hi:Int}:inR n lo hi=true↔lo≤n∧n≤hi:=by
 unfold inR;simp
def U5 (c:Int):Bool:=inR c 97 122||(inR c 48 57||(!(c != 45)||(!(c != 95)||!(c != 47))))
def Jr (s:ByteArray):Prop:=s.size≤4611686018427387904
def Ql (s:ByteArray):s.data.toList.length=s.size:=Yw
def Ala (s:ByteArray) (i:Int):0≤bt s i∧bt s i≤255:=by
 unfold bt;have:=(s.data.toList.getD i.toNat 0).toNat_lt;omega
def Dvb (s:ByteArray) (i:Nat) (h:i<s.size):bt s (i:Int)=((s.data.toList[i]'(by rw[Ql];exact h)).toNat:Int):=by
 unfold bt;rw[Vg,Vc,Vk (by rw[Ql];exact h)];rfl
def bOk (b:UInt8):Bool:=U5 (b.toNat:Int)
def Jka (s:ByteArray) (hs:Jr s):∀ (n i:Nat),s.size-i=n→i≤s.size→
  Tot (λ k=>As k s (i:Int)) (λ r=>r=bif (s.data.toList.drop i).all bOk then .inr s else .inl false):=by
 unfold Jr at hs;have hsz:=Ql s;intro n
 induction n with
 |zero=>
  intro i hn hi;refine Tot.succ ?_;simp only[As];refine Geb (by omega) (G9b ?_);rw[Wo (by omega)];rfl
 |succ n ih=>
  intro i hn hi
  have hlt:i<s.size:=by omega
  refine Tot.succ ?_;simp only[As];refine Gdb (by omega) (Gdb (by omega) (Gdb (by omega) ?_));rw[w64 (n:=(i:Int)+1) (by omega) (by omega)]
  have hb:bOk (s.data.toList[i]'(by omega))=U5 (bt s (i:Int)):=by rw[Dvb s i hlt];rfl
  rw[Za (by omega),Grb,hb];generalize bt s (i:Int)=c;have h1:=ih (i+1) (by omega) (by omega)
  have e:(((i+1:Nat)):Int)=(i:Int)+1:=by omega
  rw[e]at h1
  cases hc:U5 c with
  |true=>
   rw[Vy];refine h1.mono (λ r hr=>hr) |> λ h=>?_;obtain⟨r,K,h2,h3⟩:=h;refine⟨r,K,λ k hk=>?_,h3⟩;rw[← h2 k hk];unfold U5 inR at hc
   revert hc
   cases decide (c≥97)<;>cases decide (c≤122)<;>cases decide (c≥48)<;>cases decide (c≤57)<;>cases (c != 45)<;>cases (c != 95)<;>cases (c != 47)<;>first|(intro _;rfl)|(intro hc;cases hc)
  |false=>
   rw[Zs];refine⟨.inl false,0,λ k _=>?_,rfl⟩;unfold U5 inR at hc
   revert hc
   cases decide (c≥97)<;>cases decide (c≤122)<;>cases decide (c≥48)<;>cases decide (c≤57)<;>cases (c != 45)<;>cases (c != 95)<;>cases (c != 47)<;>first|(intro _;rfl)|(intro hc;cases hc)
def Jla (s:ByteArray) (hs:Jr s):∀ (n i:Nat),s.size-i=n→i≤s.size→
  Tot (λ k=>Db k s (i:Int)) (λ r=>r=bif (s.data.toList.drop i).all bOk then .inr s else .inl false):=by
 unfold Jr at hs;have hsz:=Ql s;intro n
 induction n with
 |zero=>
  intro i hn hi;refine Tot.succ ?_;simp only[Db];refine Geb (by omega) (G9b ?_);rw[Wo (by omega)];rfl
 |succ n ih=>
  intro i hn hi
  have hlt:i<s.size:=by omega
  have hbb:=Ala s (i:Int);refine Tot.succ ?_;simp only[Db];refine Gdb (by omega) (Gdb (by omega) (Gdb (by omega) ?_));rw[w64 (n:=(i:Int)+1) (by omega) (by omega),w64 (n:=bt s (i:Int)) (by omega) (by omega)]
  have hb:bOk (s.data.toList[i]'(by omega))=U5 (bt s (i:Int)):=by rw[Dvb s i hlt];rfl
  rw[Za (by omega),Grb,hb];generalize bt s (i:Int)=c;have h1:=ih (i+1) (by omega) (by omega)
  have e:(((i+1:Nat)):Int)=(i:Int)+1:=by omega
  rw[e]at h1;simp only[Ob,Vn]
  cases hc:U5 c with
  |true=>
   rw[Vy];obtain⟨r,K,h2,h3⟩:=h1;refine⟨r,K,λ k hk=>?_,h3⟩;rw[← h2 k hk];unfold U5 at hc
   revert hc
   cases inR c 97 122<;>cases inR c 48 57<;>cases (c != 45)<;>cases (c != 95)<;>cases (c != 47)<;>first|(intro _;rfl)|(intro hc;cases hc)
  |false=>
   rw[Zs];refine⟨.inl false,0,λ k _=>?_,rfl⟩;unfold U5 at hc
   revert hc
   cases inR c 97 122<;>cases inR c 48 57<;>cases (c != 45)<;>cases (c != 95)<;>cases (c != 47)<;>first|(intro _;rfl)|(intro hc;cases hc)
def Ao (s:ByteArray):Bool:=s.data.toList.all bOk&&inR (s.size:Int) 1 20
def Nx (s:ByteArray) (hs:Jr s):Tot (λ k=>Ah k s) (λ r=>r=Ao s):=by
 unfold Ah Ao;refine Glb (Jka s hs _ 0 rfl (Vt _)) ?_;rw[Yd]
 cases s.data.toList.all bOk with
 |true=>exact Gmb (a:=inR (s.size:Int) 1 20) (by simp only[cond_true,Hhb,U4,Vn]) (by rw[Vy])
 |false=>exact G9b rfl
def Pd (s:ByteArray) (hs:Jr s):Tot (λ k=>Ar k s) (λ r=>r=Ao s):=by
 unfold Ar Ao;refine Glb (Jla s hs _ 0 rfl (Vt _)) ?_;rw[Yd]
 cases s.data.toList.all bOk with
 |true=>exact Gmb (a:=inR (s.size:Int) 1 20) (by simp only[cond_true,Hhb,Ob,Vn]) (by rw[Vy])
 |false=>exact G9b rfl
def Ep (s:Stp):Bool:=inR s.1 0 1000000000&&(inR s.2.1 0 1000000&&inR s.2.2 0 20)
def U6 (s:Stp):C7 s=some (Ep s):=by
 unfold C7 Ep;simp only[U4,Vn]
 cases inR s.1 0 1000000000<;>cases inR s.2.1 0 1000000<;>rfl
def Rm (s:Stp):C4 s=some (Ep s):=by
 unfold C4 Ep;simp only[Ob,Vn]
 cases inR s.1 0 1000000000<;>cases inR s.2.1 0 1000000<;>rfl
def Nd (x:Row):Bool:=Ao x.1&&(Ep x.2.1&&(inR x.2.2.2 0 200&&(!x.2.2.1||x.2.2.2==0)))
def S9a (x:Row) (hs:Jr x.1):Tot (λ k=>Ju k x) (λ r=>r=Nd x):=by
 unfold Ju Nd;refine Glb (Nx x.1 hs) ?_;cases Ao x.1
 ·exact G9b rfl
 refine Gmb (a:=Ep x.2.1&&(inR x.2.2.2 0 200&&(!x.2.2.1||x.2.2.2==0))) ?_ (by rw[Vy]);simp only[cond_true,U6,U4,Vn]
 cases Ep x.2.1<;>cases inR x.2.2.2 0 200<;>cases x.2.2.1<;>rfl
def Saa (x:Row) (hs:Jr x.1):Tot (λ k=>Ik k x) (λ r=>r=Nd x):=by
 unfold Ik Nd;refine Glb (Pd x.1 hs) ?_;cases Ao x.1
 ·exact G9b rfl
 refine Gmb (a:=Ep x.2.1&&(inR x.2.2.2 0 200&&(!x.2.2.1||x.2.2.2==0))) ?_ (by rw[Vy]);simp only[cond_true,Rm,Ob,Vn]
 cases Ep x.2.1<;>cases inR x.2.2.2 0 200<;>cases x.2.2.1<;>rfl
def chk:Option ByteArray→List Row→Bool
 |_,[]=>true
 |none,r::l=>Nd r&&chk (some r.1) l
 |some q,r::l=>Nd r&&(tlt q r.1&&chk (some r.1) l)
def L5 (l:List Row):Bool:=chk none l&&decide ((l.length:Int)≤60)
def Qm (l:List Row):Prop:=∀ r∈l,Jr r.1
def Xc (l:List Row):Nat→Option ByteArray
 |0=>none
 |i+1=>some (l.getD i Nl).1
def Mba (l:List Row) (i:Nat) (h:i<l.length):chk (Xc l i) (l.drop i)=(Nd (l.getD i Nl)&&(bif decide (0<i) then tlt (l.getD (i-1) Nl).1 (l.getD i Nl).1 else true)&&chk (Xc l (i+1)) (l.drop (i+1))):=by
 rw[Au (d:=Nl) h]
 cases i with
 |zero=>simp[Xc,chk]
 |succ i=>simp[Xc,chk,Jpb]
def A4 {α:Type} {l:List α} {i:Nat} {d:α} (h1:i<l.length):l.getD i d∈l:=by
 rw[Vc,Vk h1];exact Ihb h1
def Jma (l:List Row) (hf:Few l) (hs:Qm l):∀ (n i:Nat),l.length-i=n→i≤l.length→
  Tot (λ k=>Gt k l l (l.length:Int) (i:Int)) (λ r=>r=bif chk (Xc l i) (l.drop i) then .inr l else .inl false):=by
 unfold Few at hf;intro n
 induction n with
 |zero=>
  intro i hn hi;refine Tot.succ ?_;simp only[Gt];refine Geb (by omega) (G9b ?_);rw[Wo (by omega)]
  cases Xc l i<;>rfl
 |succ n ih=>
  intro i hn hi
  have hlt:i<l.length:=by omega
  refine Tot.succ ?_;simp only[Gt];refine Gdb (by omega) (Gdb (by omega) (Gdb (by omega) ?_));rw[show toNat (i:Int)=i from Vg i,w64 (n:=(i:Int)+1) (by omega) (by omega),Mba l i hlt];have h1:=ih (i+1) (by omega) (by omega)
  have e:(((i+1:Nat)):Int)=(i:Int)+1:=by omega
  rw[e]at h1;refine Glb (S9a (l.getD i Nl) (hs _ (A4 hlt))) ?_;cases hb:Nd (l.getD i Nl)
  ·exact Gcb rfl (G9b (by simp))
  refine Gbb rfl ?_;rw[Vy];refine Ggb (λ h0=>?_) (λ h0=>?_)
  ·rw[w64 (n:=(i:Int)-1) (by omega) (by omega)];refine Gdb (by omega) (Gdb (by omega) ?_);rw[show toNat ((i:Int)-1)=i-1 by omega,decide_eq_true (show 0<i by omega),cond_true];have et:(!(Op.bytesLess (l.getD (i-1) Nl).1.toList (l.getD i Nl).1.toList)) = !(tlt (l.getD (i-1) Nl).1 (l.getD i Nl).1):=rfl;refine Gfb (λ ht=>?_) (λ ht=>?_)
   ·have ht':(!(tlt (l.getD (i-1) Nl).1 (l.getD i Nl).1))=true:=ht;rw[Vv]at ht';exact G9b (by rw[ht'];rfl)
   ·have ht':(!(tlt (l.getD (i-1) Nl).1 (l.getD i Nl).1))=false:=ht;rw[Wg]at ht';rw[ht',Vy];exact h1
  ·rw[decide_eq_false (show ¬ 0<i by omega),cond_false,Vy];exact h1
def Jna (l:List Row) (hf:Few l) (hs:Qm l):∀ (n i:Nat),l.length-i=n→i≤l.length→
  Tot (λ k=>Gp k l (i:Int)) (λ r=>r=bif chk (Xc l i) (l.drop i) then .inr l else .inl false):=by
 unfold Few at hf;intro n
 induction n with
 |zero=>
  intro i hn hi;refine Tot.succ ?_;simp only[Gp];refine Geb (by omega) (G9b ?_);rw[Wo (by omega)]
  cases Xc l i<;>rfl
 |succ n ih=>
  intro i hn hi
  have hlt:i<l.length:=by omega
  refine Tot.succ ?_;simp only[Gp];refine Gdb (by omega) (Gdb (by omega) (Gdb (by omega) ?_));rw[show toNat (i:Int)=i from Vg i,w64 (n:=(i:Int)+1) (by omega) (by omega),Mba l i hlt];have h1:=ih (i+1) (by omega) (by omega)
  have e:(((i+1:Nat)):Int)=(i:Int)+1:=by omega
  rw[e]at h1;refine Glb (Saa (l.getD i Nl) (hs _ (A4 hlt))) ?_;cases hb:Nd (l.getD i Nl)
  ·exact Gcb rfl (G9b (by simp))
  refine Gbb rfl ?_;rw[Vy];refine Ggb (λ h0=>?_) (λ h0=>?_)
  ·rw[w64 (n:=(i:Int)-1) (by omega) (by omega)];refine Gdb (by omega) (Gdb (by omega) (Gdb (by omega) (Gdb (by omega) ?_)));rw[show toNat ((i:Int)-1)=i-1 by omega,decide_eq_true (show 0<i by omega),cond_true];refine Gfb (λ ht=>?_) (λ ht=>?_)
   ·have ht':(!(tlt (l.getD (i-1) Nl).1 (l.getD i Nl).1))=true:=ht;rw[Vv]at ht';exact G9b (by rw[ht'];rfl)
   ·have ht':(!(tlt (l.getD (i-1) Nl).1 (l.getD i Nl).1))=false:=ht;rw[Wg]at ht';rw[ht',Vy];exact h1
  ·rw[decide_eq_false (show ¬ 0<i by omega),cond_false,Vy];exact h1
def Wma (l:List Row) (hf:Few l) (hs:Qm l):Tot (λ k=>H1 k l) (λ r=>r=L5 l):=by
 unfold H1 L5;refine Glb (Jma l hf hs _ 0 rfl (Vt _)) ?_;rw[Yd];show Tot _ (λ r=>r=(chk none l&&_))
 cases hc:chk none l with
 |true=>rw[show chk (Xc l 0) l=true from hc];exact G9b (by rw[Vy])
 |false=>rw[show chk (Xc l 0) l=false from hc];exact G9b rfl
def Mca (l:List Row) (hf:Few l) (hs:Qm l):Tot (λ k=>Ek k l) (λ r=>r=L5 l):=by
 unfold Ek L5;refine Glb (Jna l hf hs _ 0 rfl (Vt _)) ?_;rw[Yd]
 cases hc:chk none l with
 |true=>rw[show chk (Xc l 0) l=true from hc];exact G9b (by rw[Vy])
 |false=>rw[show chk (Xc l 0) l=false from hc];exact G9b rfl
def Joa:∀ (p:Option ByteArray) (l:List Row),chk p l=true↔Iz l∧(∀ r∈l,Nd r=true)∧(∀ q,p=some q→∀ r∈l,tlt q r.1=true)
 |p,[]=>by
  have:chk p []=true:=by cases p<;>rfl
  simp[this,Iz]
 |none,r::l=>by
  simp only[chk,Va,Joa (some r.1) l,Iz,Wi];constructor
  ·rintro⟨h1,h2,h3,h4⟩;exact⟨⟨λ a ha=>h4 _ rfl a ha,h2⟩,λ a ha=>by rcases Vl.1 ha with rfl|ha;exact h1;exact h3 a ha,λ q hq=>by cases hq⟩
  ·rintro⟨⟨h1,h2⟩,h3,_⟩;exact⟨h3 r (by simp),h2,λ a ha=>h3 a (Vi _ ha),λ q hq a ha=>by cases hq;exact h1 a ha⟩
 |some q,r::l=>by
  simp only[chk,Va,Joa (some r.1) l,Iz,Wi];constructor
  ·rintro⟨h1,h0,h2,h3,h4⟩;refine⟨⟨λ a ha=>h4 _ rfl a ha,h2⟩,λ a ha=>by rcases Vl.1 ha with rfl|ha;exact h1;exact h3 a ha,λ q' hq a ha=>?_⟩;cases hq;rcases Vl.1 ha with rfl|ha
   ·exact h0
   ·exact My h0 (h4 _ rfl a ha)
  ·rintro⟨⟨h1,h2⟩,h3,h4⟩;exact⟨h3 r (by simp),h4 q rfl r (by simp),h2,λ a ha=>h3 a (Vi _ ha),λ q' hq a ha=>by cases hq;exact h1 a ha⟩
def Mm {l:List Row}:L5 l=true↔Iz l∧(∀ r∈l,Nd r=true)∧l.length≤60:=by
 unfold L5;simp only[Va,Joa,decide_eq_true_eq];constructor
 ·rintro⟨⟨h1,h2,_⟩,h3⟩;exact⟨h1,h2,by omega⟩
 ·rintro⟨h1,h2,h3⟩;exact⟨⟨h1,h2,λ q hq=>by cases hq⟩,by omega⟩
def Xu (a b:List Row):List Row:=b.foldl mrg a
def Mda {a b:List Row} {r:Row} (h:r∈Xu a b):r∈a∨r∈b:=by
 induction b generalizing a with
 |nil=>exact .inl h
 |cons x b ih=>
  rcases ih (a:=mrg a x) h with h|h
  ·rcases S8a h with rfl|h
   ·exact .inr (by simp)
   ·exact .inl h
  ·exact .inr (Vi _ h)
def Jpa {a b:List Row} (h:Iz a):Iz (Xu a b):=by
 induction b generalizing a with
 |nil=>exact h
 |cons x b ih=>exact ih (Cpa h)
def mx (a b:Row):Row:=bif Bma a b then b else a

def Bha:Nat→Nat→List Int
 |0,n=>[(n:Int)]
 |f+1,n=>if n≤127 then [(n:Int)] else ((n % 128+128:Nat):Int)::Bha f (n/128)
def Pn (n:Nat):List Int:=Bha 4 n
def U7:Nat→Nat→Nat→List Int→Option (Nat×Nat)
 |0,_,_,_=>none
 |_+1,_,_,[]=>none
 |f+1,k,acc,x::l=>if 128≤x then U7 f (k+1) (acc+x.toNat % 128*128 ^ k) l
  else if (x=0∧0<k)∨1000000000<acc+x.toNat % 128*128 ^ k then none else some (acc+x.toNat % 128*128 ^ k,k+1)
def Pq (l:List Int) (p:Nat):Option (Nat×Nat):=match U7 5 0 0 (l.drop p) with
 |some (n,c)=>some (n,p+c)
 |none=>none
def Sba:∀ (f n:Nat),(Bha f n).length≤f+1∧0<(Bha f n).length
 |0,n=>by simp[Bha]
 |f+1,n=>by
  unfold Bha;split
  ·simp
  ·have:=Sba f (n/128);simp only[Vb];omega
def T2:∀ (f k acc:Nat) (l:List Int) (n c:Nat),Aj l→U7 f k acc l=some (n,c)→acc<128 ^ k→k<c∧c≤k+f∧c-k≤l.length∧n≤1000000000
 |0,_,_,_,_,_,_,h,_=>by simp[U7]at h
 |_+1,_,_,[],_,_,_,h,_=>by simp[U7]at h
 |f+1,k,acc,x::l,n,c,hb,h,ha=>by
  have hx:=hb x (by simp);unfold U7 at h;split at h
  ·have h1:acc+x.toNat % 128*128 ^ k<128 ^ (k+1):=by
    have h2:x.toNat % 128≤127:=by omega
    have h3:=Wk (128 ^ k) h2;rw[Gnb];omega
   have:=T2 f (k+1) _ l n c (λ y hy=>hb y (Vi _ hy)) h h1;simp only[Vb];omega
  ·split at h
   ·cases h
   ·simp only[Ve,Vx]at h;obtain⟨rfl,rfl⟩:=h;simp only[Vb];omega
def Sca:∀ (f k acc:Nat) (l:List Int) (n c:Nat),Aj l→U7 (f+1) k acc l=some (n,c)→acc<128 ^ k→∃ m,n=acc+m*128 ^ k∧l=Bha f m++l.drop (c-k)∧(m=0→c=k+1∧(0<k→False))∧m<128 ^ (f+1)
 |0,k,acc,[],n,c,hb,h,ha=>by simp[U7]at h
 |_+1,k,acc,[],n,c,hb,h,ha=>by simp[U7]at h
 |0,k,acc,x::l,n,c,hb,h,ha=>by
  have hx:=hb x (by simp);unfold U7 at h;split at h
  ·simp[U7]at h
  ·rename_i h128;split at h
   ·cases h
   ·rename_i hz;simp only[Ve,Vx]at h;obtain⟨rfl,rfl⟩:=h;have hm:x.toNat % 128=x.toNat:=H2b (by omega);refine⟨x.toNat,by rw[hm],?_,λ h0=>⟨rfl,λ hk=>hz (.inl ⟨by omega,hk⟩)⟩,by omega⟩;rw[show k+1-k=1 by omega];show x::l=[((x.toNat:Nat):Int)]++l;rw[show ((x.toNat:Nat):Int)=x by omega];rfl
 |f+1,k,acc,x::l,n,c,hb,h,ha=>by
  have hx:=hb x (by simp);have hb':Aj l:=λ y hy=>hb y (Vi _ hy);unfold U7 at h;split at h
  ·rename_i h128
   have h1:acc+x.toNat % 128*128 ^ k<128 ^ (k+1):=by
    have h2:x.toNat % 128≤127:=by omega
    have h3:=Wk (128 ^ k) h2;rw[Gnb];omega
   obtain⟨m,e1,e2,e3,e4⟩:=Sca f (k+1) _ l n c hb' h h1;have hbd:=T2 (f+1) (k+1) _ l n c hb' h h1;have hm0:m≠0:=λ h0=>(e3 h0).2 (by omega);refine⟨x.toNat % 128+m*128,?_,?_,λ h0=>by omega,?_⟩
   ·rw[e1,Gnb,Yv]
    have:m*128*128 ^ k=m*(128 ^ k*128):=by rw[Nat.mul_assoc,Jrb 128]
    omega
   ·unfold Bha;rw[if_neg (by omega),show (x.toNat % 128+m*128)/128=m by omega,show (x.toNat % 128+m*128) % 128=x.toNat % 128 by omega,show c-k=(c-(k+1))+1 by omega,List.drop_succ_cons,List.cons_append,← e2];congr 1;omega
   ·rw[Gnb];omega
  ·rename_i h128;split at h
   ·cases h
   ·rename_i hz;simp only[Ve,Vx]at h;obtain⟨rfl,rfl⟩:=h;have hm:x.toNat % 128=x.toNat:=H2b (by omega)
    have hp:128≤128 ^ (f+1+1):=by
     have:=Nat.pow_le_pow_right (show 0<128 by decide) (show 1≤f+1+1 by omega)
     simpa using this
    refine⟨x.toNat,by rw[hm],?_,λ h0=>⟨rfl,λ hk=>hz (.inl ⟨by omega,hk⟩)⟩,by omega⟩;rw[show k+1-k=1 by omega];unfold Bha;rw[if_pos (by omega)];show x::l=[((x.toNat:Nat):Int)]++l;rw[show ((x.toNat:Nat):Int)=x by omega];rfl
def Sda:∀ (f k acc m:Nat) (rest:List Int),m<128 ^ (f+1)→(0<k→0<m)→acc+m*128 ^ k≤1000000000→U7 (f+1) k acc (Bha f m++rest)=some (acc+m*128 ^ k,k+(Bha f m).length)
 |0,k,acc,m,rest,hm,hk,hn=>by
  show U7 1 k acc ((m:Int)::rest)=_;unfold U7
  have h1:m<128:=by simpa using hm
  rw[if_neg (by omega),if_neg (by
   rw[show (m:Int).toNat % 128=m by rw[Vg];exact H2b h1]
   omega)]
  rw[show (m:Int).toNat % 128=m by rw[Vg];exact H2b h1];rfl
 |f+1,k,acc,m,rest,hm,hk,hn=>by
  unfold Bha
  by_cases h:m≤127
  ·rw[if_pos h];show U7 (f+2) k acc ((m:Int)::rest)=_;unfold U7
   rw[if_neg (by omega),if_neg (by
    rw[show (m:Int).toNat % 128=m by rw[Vg];exact H2b (by omega)]
    omega)]
   rw[show (m:Int).toNat % 128=m by rw[Vg];exact H2b (by omega)];rfl
  ·rw[if_neg h];show U7 (f+2) k acc (((m % 128+128:Nat):Int)::(Bha f (m/128)++rest))=_;unfold U7
   have e1:(((m % 128+128:Nat):Int)).toNat % 128=m % 128:=by rw[Vg];omega
   rw[if_pos (by omega),e1]
   have hmod:m=m % 128+m/128*128:=by omega
   have hm2:m/128<128 ^ (f+1):=by rw[Gnb]at hm;omega
   have e2:acc+m % 128*128 ^ k+m/128*128 ^ (k+1)=acc+m*128 ^ k:=by
    have h2:m*128 ^ k=(m % 128+m/128*128)*128 ^ k:=by rw[← hmod]
    rw[h2,Yv,Gnb]
    have:m/128*128*128 ^ k=m/128*(128 ^ k*128):=by rw[Nat.mul_assoc,Jrb 128]
    omega
   rw[Sda f (k+1) (acc+m % 128*128 ^ k) (m/128) rest hm2 (λ _=>by omega) (by rw[e2];exact hn),e2,Vb];simp only[Ve,Vx,true_and];omega
def Mea (pre:List Int) (n:Nat) (rest:List Int) (hn:n≤1000000000):Pq (pre++(Pn n++rest)) pre.length=some (n,pre.length+(Pn n).length):=by
 unfold Pq;rw[Zi];have:=Sda 4 0 0 n rest (by omega) (by omega) (by omega);unfold Pn;rw[this];simp
def T3 {l:List Int} {p n q:Nat} (hb:Aj l) (h:Pq l p=some (n,q)):l.drop p=Pn n++l.drop q∧n≤1000000000∧p<q∧q≤l.length:=by
 unfold Pq at h;split at h
 ·rename_i m c hd;simp only[Ve,Vx]at h;obtain⟨rfl,rfl⟩:=h;have hb':Aj (l.drop p):=λ y hy=>hb y (Zl hy);have hbd:=T2 5 0 0 _ _ _ hb' hd (by decide);obtain⟨m',e1,e2,_,_⟩:=Sca 4 0 0 _ _ _ hb' hd (by decide)
  have e3:m=m':=by rw[e1];simp
  subst e3;rw[Wh]at hbd;refine⟨?_,hbd.2.2.2,by omega,by omega⟩;rw[Iyb,Yq]at e2;exact e2
 ·cases h
def G6b (i:Nat) (hi:i<5):(2:Int) ^ (min (toNat (wrap .i64 (7*(i:Int)))) (IntKind.bits .i64))=((128 ^ i:Nat):Int):=by
 have:i=0∨i=1∨i=2∨i=3∨i=4:=by omega
 rcases this with rfl|rfl|rfl|rfl|rfl<;>decide
def F9b (i:Nat) (hi:i<5):(2:Int) ^ (min (toNat (wrap .u64 (wrap .i64 (7*(i:Int))))) (IntKind.bits .i64))=((128 ^ i:Nat):Int):=by
 have:i=0∨i=1∨i=2∨i=3∨i=4:=by omega
 rcases this with rfl|rfl|rfl|rfl|rfl<;>decide
def sh7 (i:Nat) (hi:i<5):¬ (wrap .i64 (7*(i:Int))<0)∧¬ (wrap .u64 (wrap .i64 (7*(i:Int)))<0):=by
 have:i=0∨i=1∨i=2∨i=3∨i=4:=by omega
 rcases this with rfl|rfl|rfl|rfl|rfl<;>decide
def Q4 (i:Nat) (hi:i≤5):128 ^ i≤34359738368:=by
 have:=Nat.pow_le_pow_right (show 0<128 by decide) hi
 simpa using this
def Rn (n:Nat) (h:n<18446744073709551616):(ofInt (IntKind.bits .i64) (n:Int)).toNat=n:=by
 rw[I2b];show ((n:Int) % ((2 ^ 64:Nat):Int)).toNat=n;rw[Int.emod_eq_of_lt (by omega) (by omega)];exact Vg n
def Yxa (n:Nat) (h:n<9223372036854775808):wrap .i64 ((ofInt (IntKind.bits .i64) (n:Int) &&& ofInt (IntKind.bits .i64) 127).toNat)=((n % 128:Nat):Int):=by
 rw[Hsb,Rn n (by omega),show (ofInt (IntKind.bits .i64) 127).toNat=127 from by decide,show (127:Nat)=2 ^ 7-1 from rfl,Igb];exact w64 (by omega) (by omega)
def Mfa (a m i:Nat) (ha:a<128 ^ i) (hm:m<128) (hi:i<5):wrap .i64 ((ofInt (IntKind.bits .i64) (a:Int) ||| ofInt (IntKind.bits .i64) ((m*128 ^ i:Nat):Int)).toNat)=((a+m*128 ^ i:Nat):Int):=by
 have hp:=Q4 i (by omega);have hmul:m*128 ^ i≤127*34359738368:=J4b (by omega) hp;rw[BitVec.toNat_or,Rn a (by omega),Rn _ (by omega),Nat.or_comm]
 have e:(128:Nat) ^ i=2 ^ (7*i):=by rw[Nat.pow_mul]
 have h2:=Nat.two_pow_add_eq_or_of_lt (i:=7*i) (b:=a) (by rw[← e];exact ha) m;rw[← e,Jrb]at h2;rw[← h2,Zx];exact w64 (by omega) (by omega)
def Jqa (l:List Int) (p:Int):Int×Int×Bool:=if p<0 then (0,0,false) else match Pq l p.toNat with
 |some (n,q)=>((n:Int),(q:Int),true)
 |none=>(0,0,false)
def Ewb (p:Nat):Option (Nat×Nat)→Int×Int×Bool
 |some (n,c)=>((n:Int),((p+c:Nat):Int),true)
 |none=>(0,0,false)
def Ama (r:Sum (Int×Int×Bool) Unit):Int×Int×Bool:=Sum.elim (λ y=>y) (λ _=>(0,0,false)) r
def Gpa {l:List Int} {p:Nat} (h:p<l.length):l.drop p=l.getD p 0::l.drop (p+1):=Au h
def Oha (l:List Int) (hb:Aj l) (hl:l.length≤1000000000000) (p:Nat) (hp:p≤1000000000000):∀ (f i acc:Nat),f+i=5→acc<128 ^ i→
  Tot (λ k=>Gu k l (p:Int) (acc:Int) (i:Int)) (λ r=>Ama r=Ewb p (U7 f i acc (l.drop (p+i)))):=by
 intro f
 induction f with
 |zero=>
  intro i acc hi ha;refine Tot.succ ?_;simp only[Gu];exact Geb (by omega) (G9b rfl)
 |succ f ih=>
  intro i acc hi ha
  have hi5:i<5:=by omega
  refine Tot.succ ?_;simp only[Gu];refine Gdb (by omega) (Gdb (by omega) ?_);rw[w64 (n:=(l.length:Int)-(i:Int)) (by omega) (by omega),w64 (n:=(p:Int)+(i:Int)) (by omega) (by omega),show toNat ((p:Int)+(i:Int))=p+i by omega];refine Ggb (λ h=>?_) (λ h=>?_)
  ·have hlt:p+i<l.length:=by omega
   refine Gdb (by omega) (Gdb (by omega) ?_);have hx:=hb (l.getD (p+i) 0) (A4 hlt);rw[Gpa hlt,G6b i hi5]
   have he:U7 (f+1) i acc (l.getD (p+i) 0::l.drop (p+i+1))=if 128≤l.getD (p+i) 0 then U7 f (i+1) (acc+(l.getD (p+i) 0).toNat % 128*128 ^ i) (l.drop (p+i+1)) else if (l.getD (p+i) 0=0∧0<i)∨1000000000<acc+(l.getD (p+i) 0).toNat % 128*128 ^ i then none else some (acc+(l.getD (p+i) 0).toNat % 128*128 ^ i,i+1):=rfl
   rw[he];generalize l.getD (p+i) 0=x at hx ⊢;obtain⟨v,rfl⟩:∃ v:Nat,x=(v:Int):=⟨x.toNat,by omega⟩;rw[Vg];have hp1:=Q4 i (by omega);have hmul:v % 128*128 ^ i≤127*34359738368:=J4b (by omega) hp1;rw[w64 (n:=(v:Int)) (by omega) (by omega)]
   have e1:Int.tmod (v:Int) 128*((128 ^ i:Nat):Int)=((v % 128*128 ^ i:Nat):Int):=by
    rw[Gpb (by omega)]
    push_cast
    rfl
   rw[e1,w64 (n:=((v % 128*128 ^ i:Nat):Int)) (by omega) (by omega),← Int.natCast_add,w64 (n:=((acc+v % 128*128 ^ i:Nat):Int)) (by omega) (by omega),w64 (n:=(i:Int)+1) (by omega) (by omega),w64 (n:=(p:Int)+(i:Int)+1) (by omega) (by omega)];refine Geb (sh7 i hi5).1 ?_;refine Ggb (λ h128=>?_) (λ h128=>?_)
   ·rw[if_pos (by omega)]
    have h1:acc+v % 128*128 ^ i<128 ^ (i+1):=by
     have h2:v % 128≤127:=by omega
     have h3:=Wk (128 ^ i) h2;rw[Gnb];omega
    have:=ih (i+1) (acc+v % 128*128 ^ i) (by omega) h1;rw[show p+(i+1)=p+i+1 by omega]at this;exact this
   ·rw[if_neg (by omega)]
    have big:Tot (λ _:Nat=>cond (decide (((acc+v % 128*128 ^ i:Nat):Int) > 1000000000)) (some (Sum.inl ((0:Int),(0:Int),false))) (some (Sum.inl (((acc+v % 128*128 ^ i:Nat):Int),(p:Int)+(i:Int)+1,true))):Nat→Option (Sum (Int×Int×Bool) Unit))
      (λ r=>Ama r=if 1000000000<acc+v % 128*128 ^ i then (0,0,false) else (((acc+v % 128*128 ^ i:Nat):Int),((p+(i+1):Nat):Int),true)):=by
     refine Ggb (λ hbig=>?_) (λ hbig=>?_)
     ·rw[if_pos (by omega)];exact G9b rfl
     ·rw[if_neg (by omega)];refine G9b ?_;show (_,_,_)=_;rw[show (p:Int)+(i:Int)+1=((p+(i+1):Nat):Int) by omega]
    have goal:∀ c:Prop,[Decidable c]→(if c∨1000000000<acc+v % 128*128 ^ i then none else some (acc+v % 128*128 ^ i,i+1))=if c then none else if 1000000000<acc+v % 128*128 ^ i then (none:Option (Nat×Nat)) else some (acc+v % 128*128 ^ i,i+1):=by
     intro c _
     by_cases h1:c<;>by_cases h2:1000000000<acc+v % 128*128 ^ i<;>simp[h1,h2]
    rw[goal]
    have fin:(Ewb p (if 1000000000<acc+v % 128*128 ^ i then (none:Option (Nat×Nat)) else some (acc+v % 128*128 ^ i,i+1)))=if 1000000000<acc+v % 128*128 ^ i then (0,0,false) else (((acc+v % 128*128 ^ i:Nat):Int),((p+(i+1):Nat):Int),true):=by
     split<;>rfl
    refine Gfb (λ h0=>?_) (λ h0=>?_)
    ·have hv:v=0:=by
      have:=beq_iff_eq.1 h0;omega
     refine Ggb (λ hi0=>?_) (λ hi0=>?_)
     ·rw[if_pos ⟨by omega,by omega⟩];exact G9b rfl
     ·rw[if_neg (by omega),fin];exact big
    ·have hv:v≠0:=by
      intro e;subst e;simp at h0
     rw[if_neg (by omega),fin];exact big
  ·refine G9b ?_;rw[Wo (by omega)];rfl
def Sea (l:List Int) (hb:Aj l) (hl:l.length≤1000000000000) (p:Int) (hp:p≤1000000000000):Tot (λ k=>I5 k l p) (λ r=>r=Jqa l p):=by
 unfold I5 Jqa
 by_cases h0:p<0
 ·rw[if_pos h0];refine Gab (Q:=λ r=>r = .inr ()) ?_ ?_
  ·refine Tot.succ ?_;simp only[Gu];exact Gdb (by omega) (Geb (by omega) (G9b rfl))
  ·rintro r rfl;exact G9b rfl
 ·rw[if_neg h0];obtain⟨n,rfl⟩:∃ n:Nat,p=(n:Int):=⟨p.toNat,by omega⟩;rw[Vg];refine Gab (Oha l hb hl n (by omega) 5 0 0 rfl (by decide)) ?_;intro r hr;unfold Pq;rw[Zq]at hr
  have hr':Ama r=(match (match U7 5 0 0 (l.drop n) with|some (m,c)=>some (m,n+c)|none=>none) with|some (m,q)=>((m:Int),(q:Int),true)|none=>((0:Int),(0:Int),false)):=by
   rw[hr]
   cases U7 5 0 0 (l.drop n) with
   |none=>rfl
   |some mc=>rfl
  rw[← hr']
  cases r with
  |inl y=>exact G9b rfl
  |inr z=>exact G9b rfl

def Oia (l:List Int) (hb:Aj l) (hl:l.length≤1000000000000) (p:Nat) (hp:p<l.length):∀ (f i acc:Nat),f+i=5→acc<128 ^ i→
  Tot (λ k=>Fa k l (p:Int) (acc:Int) (i:Int)) (λ r=>Ama r=Ewb p (U7 f i acc (l.drop (p+i)))):=by
 intro f
 induction f with
 |zero=>
  intro i acc hi ha;refine Tot.succ ?_;simp only[Fa];exact Geb (by omega) (G9b rfl)
 |succ f ih=>
  intro i acc hi ha
  have hi5:i<5:=by omega
  refine Tot.succ ?_;simp only[Fa];refine Gdb (by omega) (Gdb (by omega) (Gdb (by omega) ?_));rw[w64 (n:=(p:Int)+(i:Int)) (by omega) (by omega),show toNat ((p:Int)+(i:Int))=p+i by omega];refine Ggb (λ h=>?_) (λ h=>?_)
  ·have hlt:p+i<l.length:=by omega
   refine Gdb (by omega) (Gdb (by omega) ?_);have hx:=hb (l.getD (p+i) 0) (A4 hlt);rw[Gpa hlt,F9b i hi5]
   have he:U7 (f+1) i acc (l.getD (p+i) 0::l.drop (p+i+1))=if 128≤l.getD (p+i) 0 then U7 f (i+1) (acc+(l.getD (p+i) 0).toNat % 128*128 ^ i) (l.drop (p+i+1)) else if (l.getD (p+i) 0=0∧0<i)∨1000000000<acc+(l.getD (p+i) 0).toNat % 128*128 ^ i then none else some (acc+(l.getD (p+i) 0).toNat % 128*128 ^ i,i+1):=rfl
   rw[he];generalize l.getD (p+i) 0=x at hx ⊢;obtain⟨v,rfl⟩:∃ v:Nat,x=(v:Int):=⟨x.toNat,by omega⟩;rw[Vg];have hp1:=Q4 i (by omega);have hmul:v % 128*128 ^ i≤127*34359738368:=J4b (by omega) hp1;rw[w64 (n:=(v:Int)) (by omega) (by omega),Yxa v (by omega)]
   have e1:((v % 128:Nat):Int)*((128 ^ i:Nat):Int)=((v % 128*128 ^ i:Nat):Int):=by push_cast;rfl
   rw[e1,w64 (n:=((v % 128*128 ^ i:Nat):Int)) (by omega) (by omega),Mfa acc (v % 128) i ha (by omega) hi5,w64 (n:=(i:Int)+1) (by omega) (by omega),w64 (n:=(p:Int)+(i:Int)+1) (by omega) (by omega)];refine Geb (sh7 i hi5).2 ?_;refine Ggb (λ h128=>?_) (λ h128=>?_)
   ·rw[if_pos (by omega)]
    have h1:acc+v % 128*128 ^ i<128 ^ (i+1):=by
     have h2:v % 128≤127:=by omega
     have h3:=Wk (128 ^ i) h2;rw[Gnb];omega
    have:=ih (i+1) (acc+v % 128*128 ^ i) (by omega) h1;rw[show p+(i+1)=p+i+1 by omega]at this;exact this
   ·rw[if_neg (by omega)]
    have big:Tot (λ _:Nat=>cond (decide (((acc+v % 128*128 ^ i:Nat):Int) > 1000000000)) (some (Sum.inl ((0:Int),(0:Int),false))) (some (Sum.inl (((acc+v % 128*128 ^ i:Nat):Int),(p:Int)+(i:Int)+1,true))):Nat→Option (Sum (Int×Int×Bool) Unit))
      (λ r=>Ama r=if 1000000000<acc+v % 128*128 ^ i then (0,0,false) else (((acc+v % 128*128 ^ i:Nat):Int),((p+(i+1):Nat):Int),true)):=by
     refine Ggb (λ hbig=>?_) (λ hbig=>?_)
     ·rw[if_pos (by omega)];exact G9b rfl
     ·rw[if_neg (by omega)];refine G9b ?_;show (_,_,_)=_;rw[show (p:Int)+(i:Int)+1=((p+(i+1):Nat):Int) by omega]
    have goal:∀ c:Prop,[Decidable c]→(if c∨1000000000<acc+v % 128*128 ^ i then none else some (acc+v % 128*128 ^ i,i+1))=if c then none else if 1000000000<acc+v % 128*128 ^ i then (none:Option (Nat×Nat)) else some (acc+v % 128*128 ^ i,i+1):=by
     intro c _
     by_cases h1:c<;>by_cases h2:1000000000<acc+v % 128*128 ^ i<;>simp[h1,h2]
    rw[goal]
    have fin:(Ewb p (if 1000000000<acc+v % 128*128 ^ i then (none:Option (Nat×Nat)) else some (acc+v % 128*128 ^ i,i+1)))=if 1000000000<acc+v % 128*128 ^ i then (0,0,false) else (((acc+v % 128*128 ^ i:Nat):Int),((p+(i+1):Nat):Int),true):=by
     split<;>rfl
    refine Ggb (λ hi0=>?_) (λ hi0=>?_)
    ·refine Gfb (λ h0=>?_) (λ h0=>?_)
     ·have hv:v=0:=by
       have:=beq_iff_eq.1 h0;omega
      rw[if_pos ⟨by omega,by omega⟩];exact G9b rfl
     ·have hv:v≠0:=by
       intro e;subst e;simp at h0
      rw[if_neg (by omega),fin];exact big
    ·rw[if_neg (by omega),fin];exact big
  ·refine G9b ?_;rw[Wo (by omega)];rfl
def V7 (l:List Int) (hb:Aj l) (hl:l.length≤1000000000000) (p:Int):Tot (λ k=>Du k l p) (λ r=>r=Jqa l p):=by
 unfold Du Jqa
 by_cases h0:p<0
 ·rw[if_pos h0];refine Gab (Q:=λ r=>r = .inr ()) ?_ ?_
  ·refine Tot.succ ?_;simp only[Fa];exact Gdb (by omega) (Geb (by omega) (G9b rfl))
  ·rintro r rfl;exact G9b rfl
 ·rw[if_neg h0]
  by_cases h1:p<(l.length:Int)
  ·obtain⟨n,rfl⟩:∃ n:Nat,p=(n:Int):=⟨p.toNat,by omega⟩;rw[Vg];refine Gab (Oia l hb hl n (by omega) 5 0 0 rfl (by decide)) ?_;intro r hr;unfold Pq;rw[Zq]at hr
   have hr':Ama r=(match (match U7 5 0 0 (l.drop n) with|some (m,c)=>some (m,n+c)|none=>none) with|some (m,q)=>((m:Int),(q:Int),true)|none=>((0:Int),(0:Int),false)):=by
    rw[hr]
    cases U7 5 0 0 (l.drop n) with
    |none=>rfl
    |some mc=>rfl
   refine Tot.mono (Q:=λ y=>y=Ama r) ?_ (λ y hy=>hy.trans hr')
   cases r with
   |inl y=>exact G9b rfl
   |inr z=>exact G9b rfl
  ·have e:Pq l p.toNat=none:=by
    unfold Pq;rw[Wo (by omega)];rfl
   rw[e];refine Gab (Q:=λ r=>r = .inr ()) ?_ ?_
   ·refine Tot.succ ?_;simp only[Fa];exact Gdb (by omega) (Gdb (by omega) (Geb h1 (G9b rfl)))
   ·rintro r rfl;exact G9b rfl
def Bn (n:Int):Nat:=(max 0 (min n 1000000000)).toNat
def Oq (n:Int):Bn n≤1000000000:=by unfold Bn;omega
def Ana {n:Int} (h0:0≤n) (h1:n≤1000000000):(Bn n:Int)=n:=by unfold Bn;omega
def Gqa (n:Nat) (h:n≤255):wrap .u8 (n:Int)=(n:Int):=by
 rw[I3b];omega
def Oja:∀ (f n:Nat) (out:List Int),n<128 ^ (f+1)→f≤4→out.length+f≤1000000000010→
  Tot (λ k=>Ht k out (n:Int)) (λ r=>∃ m:Nat,r.2=(m:Int)∧m≤127∧r.1++[(m:Int)]=out++Bha f n∧r.1.length≤out.length+f):=by
 intro f
 induction f with
 |zero=>
  intro n out hn hf hl;refine Tot.succ ?_;simp only[Ht]
  have:n<128:=by simpa using hn
  exact Geb (by omega) (G9b ⟨n,rfl,by omega,rfl,by simp⟩)
 |succ f ih=>
  intro n out hn hf hl;have hp:=Q4 (f+1+1-1) (by omega);refine Tot.succ ?_;simp only[Ht];refine Ggb (λ h=>?_) (λ h=>?_)
  ·have hn2:n/128<128 ^ (f+1):=by rw[Gnb]at hn;omega
   have hn3:n<4398046511104:=by
    have:=Q4 (f+1) (by omega);rw[Gnb]at hn;omega
   have e1:Int.tmod (n:Int) 128+128=((n % 128+128:Nat):Int):=by
    rw[Gpb (by omega)];omega
   have e2:Int.tdiv (n:Int) 128=((n/128:Nat):Int):=by
    rw[H0b (by omega)];omega
   rw[e1,e2,w64 (n:=((n % 128+128:Nat):Int)) (by omega) (by omega),w64 (n:=((n/128:Nat):Int)) (by omega) (by omega),Gqa _ (by omega)];refine Ghb (by simp only[Vb,Vj];omega) ?_;refine(ih (n/128) (out++[((n % 128+128:Nat):Int)]) hn2 (by omega) (by simp only[Vd,Vb,Vj];omega)).mono ?_;rintro r ⟨m,h1,h2,h3,h4⟩;refine⟨m,h1,h2,?_,by simp only[Vd,Vb,Vj]at h4;omega⟩;rw[h3,Vp];congr 1
   conv => { rhs;unfold Bha }
   rw[if_neg (by omega)];rfl
  ·refine G9b ⟨n,rfl,by omega,?_,by show out.length≤out.length+(f+1);omega⟩;unfold Bha;rw[if_pos (by omega)]
def Aoa (out:List Int) (n:Int) (hl:out.length≤1000000000000):Tot (λ k=>Fk k out n) (λ r=>r=out++Pn (Bn n)):=by
 unfold Fk
 have e:(if (0:Int)<(if (1000000000:Int)<n then 1000000000 else n) then (if (1000000000:Int)<n then 1000000000 else n) else 0)=((Bn n:Nat):Int):=by
  unfold Bn
  split<;>split<;>omega
 simp only;rw[e];have hc:=Oq n;refine Gab (Oja 4 (Bn n) out (by omega) (by omega) (by omega)) ?_;rintro r ⟨m,h1,h2,h3,h4⟩;rw[h1,Gqa m (by omega)];refine Ghb (by simp only[Vb,Vj];omega) (G9b h3)
def Oka:∀ (f n:Nat) (out:List Int),n<128 ^ (f+1)→f≤4→out.length+f≤1000000000010→
  Tot (λ k=>Dc k (n:Int) out) (λ r=>∃ m:Nat,r.1=(m:Int)∧m≤127∧r.2++[(m:Int)]=out++Bha f n∧r.2.length≤out.length+f):=by
 intro f
 induction f with
 |zero=>
  intro n out hn hf hl;refine Tot.succ ?_;simp only[Dc]
  have:n<128:=by simpa using hn
  exact Geb (by omega) (G9b ⟨n,rfl,by omega,rfl,by simp⟩)
 |succ f ih=>
  intro n out hn hf hl;refine Tot.succ ?_;simp only[Dc];refine Ggb (λ h=>?_) (λ h=>?_)
  ·have hn2:n/128<128 ^ (f+1):=by rw[Gnb]at hn;omega
   have hn3:n<4398046511104:=by
    have:=Q4 (f+1) (by omega);rw[Gnb]at hn;omega
   have e1:wrap .i64 ((ofInt (IntKind.bits .i64) ((n % 128:Nat):Int) ||| ofInt (IntKind.bits .i64) 128).toNat)=((n % 128+128:Nat):Int):=by
    have:=Mfa (n % 128) 1 1 (by omega) (by omega) (by omega);exact this
   have e2:Int.fdiv (n:Int) (2 ^ (min (toNat 7) (IntKind.bits .i64)))=((n/128:Nat):Int):=by
    have:(2:Int) ^ (min (toNat 7) (IntKind.bits .i64))=128:=by decide
    rw[this,Gqb _ (by omega)];omega
   rw[Yxa n (by omega),e1,e2,Gqa _ (by omega)];refine Ghb (by simp only[Vb,Vj];omega) ?_;refine(ih (n/128) (out++[((n % 128+128:Nat):Int)]) hn2 (by omega) (by simp only[Vd,Vb,Vj];omega)).mono ?_;rintro r ⟨m,h1,h2,h3,h4⟩;refine⟨m,h1,h2,?_,by simp only[Vd,Vb,Vj]at h4;omega⟩;rw[h3,Vp];congr 1
   conv => { rhs;unfold Bha }
   rw[if_neg (by omega)];rfl
  ·refine G9b ⟨n,rfl,by omega,?_,by show out.length≤out.length+(f+1);omega⟩;unfold Bha;rw[if_pos (by omega)]
def V8 (out:List Int) (n:Int) (hl:out.length≤1000000000000):Tot (λ k=>Dt k out n) (λ r=>r=out++Pn (Bn n)):=by
 have hc:=Oq n
 have fin:Tot (λ k=>(Dc k ((Bn n:Nat):Int) (([]:List Int)++out)).bind λ r1=>cond (Nat.ble ((length r1.2+length [wrap .u8 r1.1])*1) 140737488355328) (some (r1.2++[wrap .u8 r1.1])) none) (λ r=>r=out++Pn (Bn n)):=by
  rw[Wb];refine Gab (Oka 4 (Bn n) out (by omega) (by omega) (by omega)) ?_;rintro r ⟨m,h1,h2,h3,h4⟩;rw[h1,Gqa m (by omega)];exact Ghb (by simp only[Vb,Vj];omega) (G9b h3)
 unfold Dt;refine Ghb (by simp only[Vj];omega) ?_;refine Ggb (λ h1=>?_) (λ h1=>?_)
 ·refine Geb (by omega) ?_
  have e:((Bn n:Nat):Int)=1000000000:=by unfold Bn;omega
  rw[e]at fin;exact fin
 ·refine Ggb (λ h2=>?_) (λ h2=>?_)
  ·have e:((Bn n:Nat):Int)=0:=by unfold Bn;omega
   rw[e]at fin;exact fin
  ·have e:((Bn n:Nat):Int)=n:=by unfold Bn;omega
   rw[e]at fin;exact fin
def Mn (n:Nat):(Pn n).length≤5∧0<(Pn n).length:=Sba 4 n
def Cqa:∀ (f n:Nat),n<128 ^ (f+1)→Aj (Bha f n)
 |0,n,hn=>by
  intro x hx;simp only[Bha,Vs]at hx
  have:n<128:=by simpa using hn
  omega
 |f+1,n,hn=>by
  unfold Bha;split
  ·intro x hx;simp only[Vs]at hx;omega
  ·intro x hx;rcases Vl.1 hx with rfl|hx
   ·omega
   ·exact Cqa f (n/128) (by rw[Gnb]at hn;omega) x hx
def Ola (n:Nat) (hn:n≤1000000000):Aj (Pn n):=Cqa 4 n (by omega)
def Cra (s:ByteArray):Aj (bytesOf s):=by
 intro x hx;unfold bytesOf at hx;obtain⟨b,_,rfl⟩:=Yt.1 hx;have:=b.toNat_lt;omega
def Qn (s:ByteArray):(bytesOf s).length=s.size:=by
 unfold bytesOf;rw[Wd];exact Yw
def U8 (s:ByteArray):La (bytesOf s)=s:=by
 unfold La bytesOf;rw[Hmb]
 have:(λ n:Int=>UInt8.ofNat n.toNat) ∘ (λ b:UInt8=>(b.toNat:Int))=id:=by
  funext b;show UInt8.ofNat ((b.toNat:Int)).toNat=b;rw[Vg];exact UInt8.ofNat_toNat
 rw[this,List.map_id]
def Oe {l:List Int} (h:Aj l):bytesOf (La l)=l:=by
 unfold La bytesOf;show List.map _ (List.map _ l)=l;rw[Hmb]
 have:∀ x∈l,((λ b:UInt8=>(b.toNat:Int)) ∘ (λ n:Int=>UInt8.ofNat n.toNat)) x=x:=by
  intro x hx;have hb:=h x hx;show ((UInt8.ofNat x.toNat).toNat:Int)=x;rw[UInt8.toNat_ofNat'];omega
 exact(Gwb this).trans (List.map_id' l)
def Nq (l:List Int):(La l).size=l.length:=by
 unfold La;show (List.map _ l).toArray.size=l.length;simp
def txt (s:ByteArray):List Int:=Pn (Bn (s.size:Int))++bytesOf s
def Wna (out:List Int) (s:ByteArray) (hl:out.length≤1000000000000) (hs:s.size≤1000000000000):Tot (λ k=>Jo k out s) (λ r=>r=out++txt s):=by
 unfold Jo txt;refine Glb (Aoa out _ hl) ?_;have:=(Mn (Bn (s.size:Int))).1;refine Ghb (by simp only[Vd];omega) (G9b ?_);rw[Vp]
def Mga (out:List Int) (s:ByteArray) (hl:out.length≤1000000000000) (hs:s.size≤1000000000000):Tot (λ k=>Je k out s) (λ r=>r=out++txt s):=by
 unfold Je txt;refine Glb (V8 out _ hl) ?_;have:=(Mn (Bn (s.size:Int))).1;refine Ghb (by simp only[Vd];omega) (G9b ?_);rw[Vp]
def Mha (l:List Int) (p:Nat):Option (ByteArray×Nat):=match Pq l p with
 |some (n,q)=>if q+n≤l.length then some (La ((l.drop q).take n),q+n) else none
 |none=>none
def Cpb (l:List Int) (p:Int):ByteArray×Int×Bool:=if p<0 then ((⟨#[]⟩:ByteArray),0,false) else match Mha l p.toNat with
 |some (s,q)=>(s,(q:Int),true)
 |none=>((⟨#[]⟩:ByteArray),0,false)
def Csa (l:List Int) (hb:Aj l) (p:Int):Jqa l p=(0,0,false)∨∃ n q,0≤p∧Pq l p.toNat=some (n,q)∧Jqa l p=((n:Int),(q:Int),true)∧n≤1000000000∧q≤l.length:=by
 unfold Jqa
 by_cases h:p<0
 ·rw[if_pos h];exact .inl rfl
 ·rw[if_neg h]
  cases hg:Pq l p.toNat with
  |none=>exact .inl rfl
  |some nq=>
   obtain⟨n,q⟩:=nq;have:=T3 hb hg;exact .inr ⟨n,q,by omega,rfl,rfl,this.2.1,this.2.2.2⟩
def Mia (l:List Int) (hb:Aj l) (hl:l.length≤1000000000000) (p:Int) (hp:p≤1000000000000):Tot (λ k=>Jn k l p) (λ r=>r=Cpb l p):=by
 unfold Jn;refine Glb (Sea l hb hl p hp) ?_;unfold Cpb Mha;rcases Csa l hb p with h|⟨n,q,h0,hg,h,hn,hq⟩
 ·rw[h];refine Gcb rfl (G9b ?_);unfold Jqa at h;split
  ·rfl
  ·rename_i h0;rw[if_neg h0]at h
   cases hg:Pq l p.toNat with
   |none=>rfl
   |some nq=>rw[hg]at h;simp at h
 ·rw[h];refine Gbb rfl ?_;rw[if_neg (by omega),hg];simp only;rw[w64 (n:=(l.length:Int)-(q:Int)) (by omega) (by omega),w64 (n:=(q:Int)+(n:Int)) (by omega) (by omega)];refine Ggb (λ hgt=>?_) (λ hgt=>?_)
  ·rw[if_neg (by omega)];exact G9b rfl
  ·rw[if_pos (by omega)];refine Gdb (by omega) (Gdb (by omega) (Gdb (by omega) (G9b ?_)));rw[show toNat ((q:Int)+(n:Int))=q+n by omega,Vg,Hkb,show q+n-q=n by omega];simp only[Vx,true_and,and_true]
   push_cast
   rfl
def Eca (l:List Int) (hb:Aj l) (hl:l.length≤1000000000000) (p:Int):Tot (λ k=>Jg k l p) (λ r=>r=Cpb l p):=by
 unfold Jg;refine Glb (V7 l hb hl p) ?_;unfold Cpb Mha;rcases Csa l hb p with h|⟨n,q,h0,hg,h,hn,hq⟩
 ·rw[h];refine Gcb rfl (G9b ?_);unfold Jqa at h;split
  ·rfl
  ·rename_i h0;rw[if_neg h0]at h
   cases hg:Pq l p.toNat with
   |none=>rfl
   |some nq=>rw[hg]at h;simp at h
 ·rw[h];refine Gbb rfl ?_;rw[if_neg (by omega),hg];simp only;rw[w64 (n:=(l.length:Int)-(q:Int)) (by omega) (by omega),w64 (n:=(q:Int)+(n:Int)) (by omega) (by omega)];refine Ggb (λ hgt=>?_) (λ hgt=>?_)
  ·rw[if_neg (by omega)];exact G9b rfl
  ·rw[if_pos (by omega)];refine Gdb (by omega) (Gdb (by omega) (Gdb (by omega) (G9b ?_)));rw[show toNat ((q:Int)+(n:Int))=q+n by omega,Vg,Hkb,show q+n-q=n by omega];simp only[Vx,true_and,and_true]
   push_cast
   rfl
def Jra {l:List Int} {p q:Nat} {s:ByteArray} (hb:Aj l) (h:Mha l p=some (s,q)):l.drop p=txt s++l.drop q∧s.size≤1000000000∧p<q∧q≤l.length:=by
 unfold Mha at h;split at h
 ·rename_i n q0 hg;obtain⟨h1,h2,h3,h4⟩:=T3 hb hg;split at h
  ·rename_i hle;simp only[Ve,Vx]at h;obtain⟨rfl,rfl⟩:=h
   have hlen:((l.drop q0).take n).length=n:=by rw[Vu,Wh];omega
   have hbb:Aj ((l.drop q0).take n):=λ x hx=>hb x (Zl (H9b hx));refine⟨?_,by rw[Nq,hlen];exact h2,by omega,by omega⟩;unfold txt;rw[Nq,hlen,Oe hbb,h1,show Bn (n:Int)=n by unfold Bn;omega,Vp];congr 1;rw[← Yq,Wm]
  ·cases h
 ·cases h
def Woa (pre:List Int) (s:ByteArray) (rest:List Int) (hs:s.size≤1000000000):Mha (pre++(txt s++rest)) pre.length=some (s,pre.length+(txt s).length):=by
 unfold Mha txt
 have hc:Bn (s.size:Int)=s.size:=by unfold Bn;omega
 rw[hc,Vp,Mea pre s.size _ hs];simp only;rw[if_pos (by simp only[Vd,Qn];omega)]
 have e:(pre++(Pn s.size++(bytesOf s++rest))).drop (pre.length+(Pn s.size).length)=bytesOf s++rest:=by
  rw[← Vp,← Vd,Zi]
 rw[e,Hzb (Qn s),U8];simp only[Vd,Qn,Ve,Vx,true_and];omega

def Bna (b:Bool):Int:=bif b then 1 else 0
def B5b (b:Bool):Nv b=some (Bna b):=by cases b<;>rfl
def Mja (b:Bool):L8 b=some (Bna b):=by cases b<;>rfl
def Pia (s:Stp):List Int:=Pn (Bn s.1)++(Pn (Bn s.2.1)++Pn (Bn s.2.2))
def Eda (s:Stp):(Pia s).length≤15:=by
 unfold Pia;have h1:=(Mn (Bn s.1)).1;have h2:=(Mn (Bn s.2.1)).1;have h3:=(Mn (Bn s.2.2)).1;simp only[Vd];omega
def Oma (out:List Int) (s:Stp) (b:Bool) (hl:out.length≤999999999900):Tot (λ k=>Ir k out s b) (λ r=>r=out++(Pia s++Pn (Bn (Bna b)))):=by
 have h1:=(Mn (Bn s.1)).1;have h2:=(Mn (Bn s.2.1)).1;have h3:=(Mn (Bn s.2.2)).1;unfold Ir Pia;refine Glb (Aoa out s.1 (by omega)) ?_;refine Glb (Aoa _ s.2.1 (by simp only[Vd];omega)) ?_;refine Glb (Aoa _ s.2.2 (by simp only[Vd];omega)) ?_;refine Glb (Gmb (Q:=λ y=>y=Bna b) (B5b b) rfl) ?_;refine Glb (Aoa _ (Bna b) (by simp only[Vd];omega)) ?_;exact G9b (by simp only[Vp])
def Cta (out:List Int) (s:Stp) (hl:out.length≤999999999900):Tot (λ k=>Jf k out s) (λ r=>r=out++Pia s):=by
 have h1:=(Mn (Bn s.1)).1;have h2:=(Mn (Bn s.2.1)).1;unfold Jf Pia;refine Glb (V8 out s.1 (by omega)) ?_;refine Glb (V8 _ s.2.1 (by simp only[Vd];omega)) ?_;refine Glb (V8 _ s.2.2 (by simp only[Vd];omega)) ?_;exact G9b (by simp only[Vp])
def Apa {s:ByteArray} (h:Ao s=true):1≤s.size∧s.size≤20:=by
 unfold Ao at h;rw[Va,Dg]at h;omega
def Cua {r:Row} (h:Nd r=true):Ao r.1=true:=by
 unfold Nd at h;rw[Va]at h;exact h.1
def Sfa (s:ByteArray):(txt s).length≤5+s.size:=by
 have h1:=(Mn (Bn (s.size:Int))).1;unfold txt;simp only[Vd,Qn];omega

def Xv (l:List Int) (p:Nat):Jqa l (p:Int)=match Pq l p with
 |some (n,q)=>((n:Int),(q:Int),true)
 |none=>(0,0,false):=by
 unfold Jqa;rw[if_neg (by omega),Vg]
 all_goals cases Pq l p<;>rfl
def Mka (l:List Int) (p:Nat):Cpb l (p:Int)=match Mha l p with
 |some (s,q)=>(s,(q:Int),true)
 |none=>((⟨#[]⟩:ByteArray),0,false):=by
 unfold Cpb;rw[if_neg (by omega),Vg]
 all_goals cases Mha l p<;>rfl
def Boa (l:List Int) (hb:Aj l) (hl:l.length≤1000000000000) (p:Nat) (hp:p≤l.length) (bad:Bool):
  Tot (λ k=>D8 k (l,(p:Int),bad)) (λ r=>(bad=false∧∃ n q:Nat,Pq l p=some (n,q)∧q≤l.length∧r=((n:Int),l,(q:Int),false))∨((bad=true∨Pq l p=none)∧r=(0,l,(p:Int),true))):=by
 unfold D8;refine Glb (Sea l hb hl (p:Int) (by omega)) ?_;refine Gfb (λ h=>G9b (.inr ⟨.inl h,rfl⟩)) (λ h=>?_);rw[Xv]
 cases hg:Pq l p with
 |none=>exact Gcb rfl (G9b (.inr ⟨.inr rfl,rfl⟩))
 |some nq=>
  obtain⟨n,q⟩:=nq;simp only at h;subst h;exact Gbb rfl (G9b (.inl ⟨rfl,n,q,rfl,(T3 hb hg).2.2.2,rfl⟩))
def Fab (l:List Int) (hb:Aj l) (hl:l.length≤1000000000000) (p:Nat) (hp:p≤l.length):
  Tot (λ k=>Cy k (l,(p:Int),false)) (λ r=>(∃ (s:ByteArray) (q:Nat),Mha l p=some (s,q)∧q≤l.length∧r=(s,l,(q:Int),false))∨(Mha l p=none∧r=((⟨#[]⟩:ByteArray),l,(p:Int),true))):=by
 unfold Cy;refine Glb (Mia l hb hl (p:Int) (by omega)) ?_;refine Gbb rfl ?_;rw[Mka]
 cases hg:Mha l p with
 |none=>exact Gcb rfl (G9b (.inr ⟨rfl,rfl⟩))
 |some nq=>
  obtain⟨n,q⟩:=nq;exact Gbb rfl (G9b (.inl ⟨n,q,rfl,(Jra hb hg).2.2.2,rfl⟩))
def Qx (l:List Int) (p:Nat):Option ((Stp×Bool)×Nat):=
 (Pq l p).bind λ b=>(Pq l b.2).bind λ c=>(Pq l c.2).bind λ d=>(Pq l d.2).bind λ e=>bif decide (1<e.1) then none else
  some ((((b.1:Int),(c.1:Int),(d.1:Int)),(e.1:Int)==1),e.2)
def Fbb (l:List Int) (hb:Aj l) (hl:l.length≤1000000000000) (p:Nat) (hp:p≤l.length) (bad:Bool):
  Tot (λ k=>E8 k (l,(p:Int),bad)) (λ r=>(bad=false∧∃ (x:Stp×Bool) (q:Nat),Qx l p=some (x,q)∧q≤l.length∧r=(x.1,x.2,l,(q:Int),false))∨((bad=true∨Qx l p=none)∧∃ s b,∃ q:Nat,q≤l.length∧r=(s,b,l,(q:Int),true))):=by
 unfold E8
 have nx:∀ {o:Option (Nat×Nat)} {f:Nat×Nat→Option ((Stp×Bool)×Nat)},o=none→o.bind f=none:=by
  intro o f h;rw[h];rfl
 refine Gab (Boa l hb hl p hp bad) ?_;rintro r (⟨h0,n1,p1,h1,l1,rfl⟩|⟨h1,rfl⟩)
 ·simp only;refine Gab (Boa l hb hl p1 l1 false) ?_;rintro r (⟨_,n2,p2,h2,l2,rfl⟩|⟨h2,rfl⟩)
  ·simp only;refine Gab (Boa l hb hl p2 l2 false) ?_;rintro r (⟨_,n3,p3,h3,l3,rfl⟩|⟨h3,rfl⟩)
   ·simp only;refine Gab (Boa l hb hl p3 l3 false) ?_;rintro r (⟨_,n4,p4,h4,l4,rfl⟩|⟨h4,rfl⟩)
    ·simp only;refine Gbb rfl (G9b ?_)
     have e:Qx l p=bif decide (1<n4) then none else some ((((n1:Int),(n2:Int),(n3:Int)),(n4:Int)==1),p4):=by
      unfold Qx;simp only[h1,h2,h3,h4,Vn]
     cases hd:decide (1<n4) with
     |true=>
      rw[hd,cond_true]at e;refine .inr ⟨.inr e,((n1:Int),(n2:Int),(n3:Int)),((n4:Int)==1),p4,l4,?_⟩;have:decide ((n4:Int) > 1)=true:=decide_eq_true (by have:=of_decide_eq_true hd;omega);rw[this]
     |false=>
      rw[hd,cond_false]at e;refine .inl ⟨h0,_,p4,e,l4,?_⟩;have:decide ((n4:Int) > 1)=false:=decide_eq_false (by have:=of_decide_eq_false hd;omega);rw[this]
    ·refine Gcb rfl (G9b (.inr ⟨.inr ?_,_,_,p3,l3,rfl⟩));have h4':=h4.resolve_left (by simp);unfold Qx;simp only[h1,h2,h3,h4',Vn,H3b]
   ·simp only;refine Gab (Boa l hb hl p2 l2 true) ?_;rintro r (⟨hh,_⟩|⟨_,rfl⟩)
    ·cases hh
    ·refine Gcb rfl (G9b (.inr ⟨.inr ?_,_,_,p2,l2,rfl⟩));have h3':=h3.resolve_left (by simp);unfold Qx;simp only[h1,h2,h3',Vn,H3b]
  ·simp only;refine Gab (Boa l hb hl p1 l1 true) ?_;rintro r (⟨hh,_⟩|⟨_,rfl⟩)
   ·cases hh
   ·refine Gab (Boa l hb hl p1 l1 true) ?_;rintro r (⟨hh,_⟩|⟨_,rfl⟩)
    ·cases hh
    ·refine Gcb rfl (G9b (.inr ⟨.inr ?_,_,_,p1,l1,rfl⟩));have h2':=h2.resolve_left (by simp);unfold Qx;simp only[h1,h2',Vn,H3b]
 ·simp only;refine Gab (Boa l hb hl p hp true) ?_;rintro r (⟨hh,_⟩|⟨_,rfl⟩)
  ·cases hh
  ·refine Gab (Boa l hb hl p hp true) ?_;rintro r (⟨hh,_⟩|⟨_,rfl⟩)
   ·cases hh
   ·refine Gab (Boa l hb hl p hp true) ?_;rintro r (⟨hh,_⟩|⟨_,rfl⟩)
    ·cases hh
    ·refine Gcb rfl (G9b (.inr ⟨?_,_,_,p,hp,rfl⟩));rcases h1 with h1|h1
     ·exact .inl h1
     ·refine .inr ?_;unfold Qx;rw[h1];rfl
def B6b (l:List Int) (hb:Aj l) (hl:l.length≤1000000000000) (p:Int):
  Tot (λ k=>Fx k l p) (λ r=>(∃ n1 p1 n2 p2 n3 p3,0≤p∧Pq l p.toNat=some (n1,p1)∧Pq l p1=some (n2,p2)∧Pq l p2=some (n3,p3)∧r=(((n1:Int),(n2:Int),(n3:Int)),(p3:Int),true))∨(((Pq l p.toNat).bind λ a=>(Pq l a.2).bind λ b=>Pq l b.2)=none∨p<0)∧r.2.2=false):=by
 unfold Fx;refine Glb (V7 l hb hl p) ?_;refine Glb (V7 l hb hl _) ?_;refine Glb (V7 l hb hl _) ?_
 by_cases hp:p<0
 ·have:(Jqa l p).2.2=false:=by unfold Jqa;rw[if_pos hp]
  exact Gbb this (G9b (.inr ⟨.inr hp,rfl⟩))
 ·have e1:Jqa l p=match Pq l p.toNat with|some (n,q)=>((n:Int),(q:Int),true)|none=>(0,0,false):=by
   unfold Jqa;rw[if_neg hp];all_goals cases Pq l p.toNat<;>rfl
  cases h1:Pq l p.toNat with
  |none=>
   rw[h1]at e1;simp only[e1];exact Gbb rfl (G9b (.inr ⟨.inl rfl,rfl⟩))
  |some a=>
   obtain⟨n1,p1⟩:=a;rw[h1]at e1;simp only[e1,Xv,Vn];refine Gcb rfl ?_
   cases h2:Pq l p1 with
   |none=>exact Gbb rfl (G9b (.inr ⟨.inl rfl,rfl⟩))
   |some b=>
    obtain⟨n2,p2⟩:=b;refine Gcb rfl ?_;simp only[Xv,Vn]
    cases h3:Pq l p2 with
    |none=>exact G9b (.inr ⟨.inl rfl,rfl⟩)
    |some c=>
     obtain⟨n3,p3⟩:=c;exact G9b (.inl ⟨n1,p1,n2,p2,n3,p3,by omega,rfl,h2,h3,rfl⟩)
def Sga {l:List Int} {p:Nat} (h:((Pq l p).bind λ a=>(Pq l a.2).bind λ b=>Pq l b.2)=none):Qx l p=none:=by
 unfold Qx
 cases h1:Pq l p with
 |none=>rfl
 |some a=>
  rw[h1]at h;simp only[Vn]at h ⊢
  cases h2:Pq l a.2 with
  |none=>rfl
  |some b=>
   rw[h2]at h;simp only[Vn]at h ⊢;rw[h];rfl

def Md:∀ s∈N7,Jr s∧Ao s=true:=by
 intro s hs;simp only[N7,Vl,Zr,or_false]at hs
 rcases hs with rfl|rfl|rfl|rfl|rfl|rfl<;>exact⟨by unfold Jr;decide,by decide⟩
def Wpa {x:Row} (h:B4b x):Nd x=true:=by
 obtain⟨h1,⟨t0,t1,s0,s1,n0,n1⟩,h3,h4,h5⟩:=h;unfold Nd Ep;rw[(Md x.1 h1).2,Dg.2 ⟨t0,t1⟩,Dg.2 ⟨s0,s1⟩,Dg.2 ⟨n0,n1⟩,Dg.2 ⟨h3,by omega⟩]
 cases hd:x.2.2.1 with
 |false=>rfl
 |true=>rw[h5 hd];rfl
def Gra (c:Cur) (hc:Ct c):Tot (λ k=>Kh k c) (λ r=>Ct r.2∧r.1.length≤6∧Qm r.1):=by
 unfold Kh;refine Gab (Aka c hc) (λ r hr=>?_);obtain⟨k1,hr1,hl⟩:=hr;have hsh:Qm r.1:=λ q hq=>(Md q.1 (hr1.2 q hq).1).1;obtain⟨x,c',e,_,_,_,k2⟩:=Av r.2 k1 8 (by decide);refine Glb (Gmb (Q:=λ r=>r=(x,c')) e rfl) ?_;refine Gfb (λ _=>?_) (λ _=>?_)
 ·refine Gab (Cla c' k2) (λ z hz=>?_);refine Ghb (by simp only[Vb,Vj];omega) (G9b ⟨hz.2,?_,?_⟩)
  ·show (r.1++[z.1]).length≤6;simp only[Vd,Vb,Vj];omega
  ·intro q hq;rcases Vo.1 hq with hq|hq
   ·exact hsh q hq
   ·simp only[Vs]at hq;subst hq;exact(Md _ hz.1.1).1
 ·refine Gfb (λ _=>?_) (λ _=>G9b ⟨k2,by show r.1.length≤6;omega,hsh⟩);refine Ggb (λ h=>?_) (λ h=>G9b ⟨k2,by show r.1.length≤6;omega,hsh⟩);obtain⟨v,c3,e3,_,k3⟩:=Kz c' k2 [(-1),201,200] (by decide) (by decide);refine Glb (Gmb (Q:=λ r=>r=(v,c3)) e3 rfl) ?_;refine Gdb (by omega) (G9b ⟨k3,?_,?_⟩)
  ·show (List.set r.1 _ _).length≤6;rw[Vz];omega
  ·intro q hq;rcases Yg hq with hq|rfl
   ·exact hsh q hq
   ·have hpos:toNat 0<r.1.length:=by show 0<_;omega
    have h1:Jr (r.1.getD (toNat 0) Nl).1:=hsh _ (A4 (d:=Nl) hpos);exact h1

abbrev Nmd:=ByteArray×List Int
abbrev Dsk:=List Nmd×List Nmd
def Er:Nmd:=((⟨#[]⟩:ByteArray),[])
def Cva (l:List Nmd):Prop:=l.length≤1000000000000∧∀ x∈l,x.2.length≤1000000000000
def Yya (d:Dsk):Prop:=Cva d.1∧Cva d.2
def Nf (l:List Int) (h:l.length≤1000000000000):Az l=some l:=by
 unfold Az;rw[show Nat.ble ((length ([]:List Int)+length l)*1) 140737488355328=true from Zj (by simp only[Vj];omega)];rfl
def Xd (l:List Nmd) (hf:Cva l):∀ (n i:Nat) (acc:List Nmd),l.length-i=n→i≤l.length→acc.length≤i→
  Tot (λ k=>E3 k acc l (l.length:Int) (i:Int)) (λ r=>r=acc++l.drop i):=by
 obtain⟨h1,h2⟩:=hf;intro n
 induction n with
 |zero=>
  intro i acc hd hi ha;refine Tot.succ ?_;simp only[E3];refine Geb (by omega) (G9b ?_);rw[Wo (by omega),Wn]
 |succ n ih=>
  intro i acc hd hi ha
  have hlt:i<l.length:=by omega
  refine Tot.succ ?_;simp only[E3];refine Gdb (by omega) (Gdb (by omega) (Gdb (by omega) ?_));rw[show toNat (i:Int)=i from Vg i,w64 (n:=(i:Int)+1) (by omega) (by omega),Au (d:=Er) hlt];have e0:l.getD i ((⟨#[]⟩:ByteArray),([]:List Int))=l.getD i Er:=rfl;rw[e0];have hb:=h2 _ (A4 (d:=Er) hlt);refine Glb (Gmb (Q:=λ r=>r=(l.getD i Er).2) (Nf _ hb) rfl) ?_;refine Ghb (by simp only[Vb,Vj];omega) ?_;refine(ih (i+1) (acc++[l.getD i Er]) (by omega) (by omega) (by simp only[Vd,Vb,Vj];omega)).mono ?_;rintro r rfl;rw[Vp];rfl
def U9 (l:List Nmd) (hf:Cva l):Tot (λ k=>C8 k l) (λ r=>r=l):=by
 unfold C8;refine Gab (Xd l hf _ 0 [] rfl (Vt _) (Vt _)) ?_;intro r hr;rw[Yd,Wb]at hr;exact G9b hr
def L6 (d:Dsk) (hf:Yya d):Tot (λ k=>Af k d) (λ r=>r=d):=by
 unfold Af;refine Glb (U9 d.1 hf.1) ?_;refine Glb (U9 d.2 hf.2) ?_;exact G9b rfl
def fnd (l:List Nmd) (s:ByteArray):Option Nat:=l.findIdx? (λ x=>teq x.1 s)
def I7a (l:List Nmd) (s:ByteArray):Int:=match fnd l s with
 |some i=>(i:Int)
 |none => -1
def Sha (l:List Nmd) (s:ByteArray) (hf:l.length≤1000000000000):∀ (n i:Nat),l.length-i=n→i≤l.length→
  Tot (λ k=>Li k s l (l.length:Int) (i:Int)) (λ r=>r=match fnd (l.drop i) s with|some j => .inl ((i+j:Nat):Int)|none => .inr ()):=by
 intro n
 induction n with
 |zero=>
  intro i hd hi;refine Tot.succ ?_;simp only[Li];refine Geb (by omega) (G9b ?_);rw[Wo (by omega)];rfl
 |succ n ih=>
  intro i hd hi
  have hlt:i<l.length:=by omega
  refine Tot.succ ?_;simp only[Li];refine Gdb (by omega) (Gdb (by omega) (Gdb (by omega) ?_));rw[show toNat (i:Int)=i from Vg i,w64 (n:=(i:Int)+1) (by omega) (by omega),Au (d:=Er) hlt];have e0:l.getD i ((⟨#[]⟩:ByteArray),([]:List Int))=l.getD i Er:=rfl;rw[e0]
  have e1:fnd (l.getD i Er::l.drop (i+1)) s=if teq (l.getD i Er).1 s then some 0 else (fnd (l.drop (i+1)) s).map (· + 1):=by
   unfold fnd;rw[I4b]
  rw[e1];refine Gfb (λ h=>?_) (λ h=>?_)
  ·have h':teq (l.getD i Er).1 s=true:=h;rw[if_pos h'];exact G9b rfl
  ·have h':¬ (teq (l.getD i Er).1 s=true):=by
    have:teq (l.getD i Er).1 s=false:=h;rw[this];simp
   rw[if_neg h'];refine(ih (i+1) (by omega) (by omega)).mono ?_;rintro r rfl
   cases fnd (l.drop (i+1)) s with
   |none=>rfl
   |some j=>
    show Sum.inl _=Sum.inl _;rw[show i+1+j=i+(j+1) by omega]
def Sia (l:List Nmd) (s:ByteArray) (hf:l.length≤1000000000000):Tot (λ k=>M3 k l s) (λ r=>r=I7a l s):=by
 unfold M3 I7a;refine Glb (Sha l s hf _ 0 rfl (Vt _)) ?_;rw[Yd]
 cases fnd l s with
 |none=>exact G9b rfl
 |some j=>
  refine G9b ?_;rw[Wj]
def Ot {l:List Nmd} {s:ByteArray} {i:Nat} (h:fnd l s=some i):i<l.length∧(l.getD i Er).1=s:=by
 unfold fnd at h;rw[I5b]at h;obtain⟨h1,h2,_⟩:=h;refine⟨h1,?_⟩;rw[Vc,Vk h1];exact Jq.1 h2
def del (l:List Nmd) (s:ByteArray):List Nmd:=match fnd l s with
 |some i=>l.take i++l.drop (i+1)
 |none=>l
def Mla (l:List Nmd) (s:ByteArray) (hf:l.length≤1000000000000):Tot (λ k=>Kx k l s) (λ r=>r=del l s):=by
 unfold Kx del;refine Glb (Sia l s hf) ?_;unfold I7a
 cases h:fnd l s with
 |none=>exact Gdb (by decide) (G9b rfl)
 |some i=>
  have hl:=(Ot h).1;dsimp only;refine Geb (by omega) (Gdb (by omega) (Gdb (by omega) ?_));rw[w64 (n:=(i:Int)+1) (by omega) (by omega),show toNat (i:Int)=i from Int.toNat_natCast i,show toNat ((i:Int)+1)=i+1 by omega];refine Ghb (by simp only[List.length_nil,List.length_take];omega) ?_;refine Gdb (by omega) (Gdb (by omega) (Ghb (by simp only[List.length_append,List.length_nil,List.length_take,List.length_drop];omega) (G9b rfl)))

def nOk (x:Nmd):Bool:=Ao x.1&&!(decide ((x.2.length:Int) > 400))
def chn:Option ByteArray→List Nmd→Bool
 |_,[]=>true
 |none,r::l=>nOk r&&chn (some r.1) l
 |some q,r::l=>nOk r&&(tlt q r.1&&chn (some r.1) l)
def Jc (l:List Nmd):Bool:=chn none l&&decide ((l.length:Int)≤60)
def Ap (d:Dsk):Bool:=Jc d.1&&Jc d.2
def Ou (l:List Nmd):Prop:=∀ x∈l,Jr x.1
def Cwa (d:Dsk):Prop:=Ou d.1∧Ou d.2
def Xe (l:List Nmd):Nat→Option ByteArray
 |0=>none
 |i+1=>some (l.getD i Er).1
def Mma (l:List Nmd) (i:Nat) (h:i<l.length):chn (Xe l i) (l.drop i)=(nOk (l.getD i Er)&&(bif decide (0<i) then tlt (l.getD (i-1) Er).1 (l.getD i Er).1 else true)&&chn (Xe l (i+1)) (l.drop (i+1))):=by
 rw[Au (d:=Er) h]
 cases i with
 |zero=>simp[Xe,chn]
 |succ i=>simp[Xe,chn,Jpb]
def Gsa (l:List Nmd) (hf:l.length≤1000000000000) (hs:Ou l):∀ (n i:Nat),l.length-i=n→i≤l.length→
  Tot (λ k=>F5 k l l (l.length:Int) (i:Int)) (λ r=>r=bif chn (Xe l i) (l.drop i) then .inr l else .inl false):=by
 intro n
 induction n with
 |zero=>
  intro i hn hi;refine Tot.succ ?_;simp only[F5];refine Geb (by omega) (G9b ?_);rw[Wo (by omega)]
  cases Xe l i<;>rfl
 |succ n ih=>
  intro i hn hi
  have hlt:i<l.length:=by omega
  refine Tot.succ ?_;simp only[F5];refine Gdb (by omega) (Gdb (by omega) (Gdb (by omega) ?_));rw[show toNat (i:Int)=i from Vg i,w64 (n:=(i:Int)+1) (by omega) (by omega),Mma l i hlt];have h1:=ih (i+1) (by omega) (by omega)
  have e:(((i+1:Nat)):Int)=(i:Int)+1:=by omega
  rw[e]at h1;have e0:l.getD i ((⟨#[]⟩:ByteArray),([]:List Int))=l.getD i Er:=rfl;rw[e0];refine Glb (Nx (l.getD i Er).1 (hs _ (A4 hlt))) ?_;cases hb:Ao (l.getD i Er).1
  ·exact Gcb rfl (G9b (by rw[show nOk (l.getD i Er)=false by unfold nOk;rw[hb];rfl];rfl))
  refine Gbb rfl ?_;refine Ggb (λ h4=>G9b (by rw[show nOk (l.getD i Er)=false by unfold nOk;rw[decide_eq_true h4,hb];rfl];rfl)) (λ h4=>?_)
  have hnk:nOk (l.getD i Er)=true:=by unfold nOk;rw[hb,decide_eq_false h4];rfl
  rw[hnk,Vy];refine Ggb (λ h0=>?_) (λ h0=>?_)
  ·rw[w64 (n:=(i:Int)-1) (by omega) (by omega)];refine Gdb (by omega) (Gdb (by omega) ?_);rw[show toNat ((i:Int)-1)=i-1 by omega,decide_eq_true (show 0<i by omega),cond_true];refine Gfb (λ ht=>?_) (λ ht=>?_)
   ·have ht':(!(tlt (l.getD (i-1) Er).1 (l.getD i Er).1))=true:=ht;rw[Vv]at ht';exact G9b (by rw[ht'];rfl)
   ·have ht':(!(tlt (l.getD (i-1) Er).1 (l.getD i Er).1))=false:=ht;rw[Wg]at ht';rw[ht',Vy];exact h1
  ·rw[decide_eq_false (show ¬ 0<i by omega),cond_false,Vy];exact h1
def Gta (l:List Nmd) (hf:l.length≤1000000000000) (hs:Ou l):∀ (n i:Nat),l.length-i=n→i≤l.length→
  Tot (λ k=>Gn k l (i:Int)) (λ r=>r=bif chn (Xe l i) (l.drop i) then .inr l else .inl false):=by
 intro n
 induction n with
 |zero=>
  intro i hn hi;refine Tot.succ ?_;simp only[Gn];refine Geb (by omega) (G9b ?_);rw[Wo (by omega)]
  cases Xe l i<;>rfl
 |succ n ih=>
  intro i hn hi
  have hlt:i<l.length:=by omega
  refine Tot.succ ?_;simp only[Gn];refine Gdb (by omega) (Gdb (by omega) (Gdb (by omega) ?_));rw[show toNat (i:Int)=i from Vg i,w64 (n:=(i:Int)+1) (by omega) (by omega),Mma l i hlt];have h1:=ih (i+1) (by omega) (by omega)
  have e:(((i+1:Nat)):Int)=(i:Int)+1:=by omega
  rw[e]at h1;have e0:l.getD i ((⟨#[]⟩:ByteArray),([]:List Int))=l.getD i Er:=rfl;rw[e0];refine Glb (Pd (l.getD i Er).1 (hs _ (A4 hlt))) ?_;cases hb:Ao (l.getD i Er).1
  ·exact Gcb rfl (G9b (by rw[show nOk (l.getD i Er)=false by unfold nOk;rw[hb];rfl];rfl))
  refine Gbb rfl (Gdb (by omega) (Gdb (by omega) ?_));refine Ggb (λ h4=>G9b (by rw[show nOk (l.getD i Er)=false by unfold nOk;rw[decide_eq_true h4,hb];rfl];rfl)) (λ h4=>?_)
  have hnk:nOk (l.getD i Er)=true:=by unfold nOk;rw[hb,decide_eq_false h4];rfl
  rw[hnk,Vy];refine Ggb (λ h0=>?_) (λ h0=>?_)
  ·rw[w64 (n:=(i:Int)-1) (by omega) (by omega)];refine Gdb (by omega) (Gdb (by omega) (Gdb (by omega) (Gdb (by omega) ?_)));rw[show toNat ((i:Int)-1)=i-1 by omega,decide_eq_true (show 0<i by omega),cond_true];refine Gfb (λ ht=>?_) (λ ht=>?_)
   ·have ht':(!(tlt (l.getD (i-1) Er).1 (l.getD i Er).1))=true:=ht;rw[Vv]at ht';exact G9b (by rw[ht'];rfl)
   ·have ht':(!(tlt (l.getD (i-1) Er).1 (l.getD i Er).1))=false:=ht;rw[Wg]at ht';rw[ht',Vy];exact h1
  ·rw[decide_eq_false (show ¬ 0<i by omega),cond_false,Vy];exact h1
def Gua (l:List Nmd) (hf:l.length≤1000000000000) (hs:Ou l):Tot (λ k=>Ef k l) (λ r=>r=Jc l):=by
 unfold Ef Jc;refine Glb (Gsa l hf hs _ 0 rfl (Vt _)) ?_;rw[Yd];show Tot _ (λ r=>r=(chn none l&&_))
 cases hc:chn none l with
 |true=>rw[show chn (Xe l 0) l=true from hc];exact G9b (by rw[Vy])
 |false=>rw[show chn (Xe l 0) l=false from hc];exact G9b rfl
def Gva (l:List Nmd) (hf:l.length≤1000000000000) (hs:Ou l):Tot (λ k=>Fw k l) (λ r=>r=Jc l):=by
 unfold Fw Jc;refine Glb (Gta l hf hs _ 0 rfl (Vt _)) ?_;rw[Yd];show Tot _ (λ r=>r=(chn none l&&_))
 cases hc:chn none l with
 |true=>rw[show chn (Xe l 0) l=true from hc];exact G9b (by rw[Vy])
 |false=>rw[show chn (Xe l 0) l=false from hc];exact G9b rfl
def Xw (d:Dsk) (hf:Yya d) (hs:Cwa d):Tot (λ k=>Dz k d) (λ r=>r=Ap d):=by
 unfold Dz Ap;refine Glb (Gua d.1 hf.1.1 hs.1) ?_;cases h:Jc d.1
 ·exact Gbb rfl (G9b rfl)
 refine Gcb rfl (Glb (Gua d.2 hf.2.1 hs.2) ?_);exact G9b (by rw[Vy])
def plc (l:List Nmd) (s:ByteArray):Nat:=(l.takeWhile (λ y=>tlt y.1 s)).length
def ins (l:List Nmd) (x:Nmd):List Nmd:=l.take (plc l x.1)++[x]++l.drop (plc l x.1)
def Yza (l:List Nmd) (s:ByteArray):plc l s≤l.length:=(Jdb _).length_le
def Jsa (l:List Nmd) (s:ByteArray) (b:List Int) (hf:l.length≤1000000000000):∀ (n i:Nat),l.length-i=n→i≤l.length→
  Tot (λ k=>Km k l (i:Int) s b) (λ r=>r=(l,((i+plc (l.drop i) s:Nat):Int),s,b)):=by
 intro n
 induction n with
 |zero=>
  intro i hd hi;refine Tot.succ ?_;simp only[Km];refine Geb (by omega) (G9b ?_);rw[Wo (by omega)];rfl
 |succ n ih=>
  intro i hd hi
  have hlt:i<l.length:=by omega
  refine Tot.succ ?_;simp only[Km];refine Gdb (by omega) (Gdb (by omega) (Gdb (by omega) ?_));rw[show toNat (i:Int)=i from Vg i,w64 (n:=(i:Int)+1) (by omega) (by omega),Au (d:=Er) hlt];have e0:l.getD i ((⟨#[]⟩:ByteArray),([]:List Int))=l.getD i Er:=rfl;rw[e0]
  have e1:plc (l.getD i Er::l.drop (i+1)) s=if tlt (l.getD i Er).1 s then plc (l.drop (i+1)) s+1 else 0:=by
   unfold plc;rw[Zw]
   split<;>rfl
  rw[e1];refine Gfb (λ h=>?_) (λ h=>?_)
  ·have h':tlt (l.getD i Er).1 s=true:=h;rw[if_pos h'];refine(ih (i+1) (by omega) (by omega)).mono ?_;rintro r rfl;rw[show i+1+plc (l.drop (i+1)) s=i+(plc (l.drop (i+1)) s+1) by omega]
  ·have h':¬ (tlt (l.getD i Er).1 s=true):=by
    have:tlt (l.getD i Er).1 s=false:=h;rw[this];simp
   rw[if_neg h'];exact G9b rfl
def Mna (l:List Nmd) (x:Nmd) (hf:l.length≤1000000000000):Tot (λ k=>Lu k l x) (λ r=>r=ins l x):=by
 unfold Lu ins;refine Gab (Jsa l x.1 x.2 hf _ 0 rfl (Nat.zero_le _)) ?_;intro r hr;rw[List.drop_zero,Nat.zero_add]at hr;subst hr;have hp:=Yza l x.1;dsimp only;refine Gdb (by omega) (Gdb (by omega) ?_);rw[show toNat ((plc l x.1:Nat):Int)=plc l x.1 from Int.toNat_natCast _];refine Ghb (by simp only[List.length_nil,List.length_take];omega) ?_;refine Ghb (by simp only[List.length_append,List.length_nil,List.length_take,List.length_cons];omega) ?_;refine Gdb (by omega) (Gdb (by omega) (Ghb (by simp only[List.length_append,List.length_nil,List.length_take,List.length_drop,List.length_cons];omega) (G9b ?_)));rw[List.nil_append]

def Jta (l:List Int) (h:l.length≤1000000000000):(length ([]:List Int)+l.length)*1≤140737488355328:=by
 simp only[Vj];omega
def Aqa (l:List Nmd) (hf:Cva l):∀ (n i:Nat) (acc:List Nmd),l.length-i=n→i≤l.length→acc.length≤i→
  Tot (λ k=>Cc k l acc (i:Int)) (λ r=>r=acc++l.drop i):=by
 obtain⟨h1,h2⟩:=hf;intro n
 induction n with
 |zero=>
  intro i acc hd hi ha;refine Tot.succ ?_;simp only[Cc];refine Geb (by omega) (G9b ?_);rw[Wo (by omega),Wn]
 |succ n ih=>
  intro i acc hd hi ha
  have hlt:i<l.length:=by omega
  refine Tot.succ ?_;simp only[Cc];refine Gdb (by omega) (Gdb (by omega) (Gdb (by omega) (Gdb (by omega) (Gdb (by omega) ?_))));rw[show toNat (i:Int)=i from Vg i,w64 (n:=(i:Int)+1) (by omega) (by omega),Au (d:=Er) hlt];have e0:l.getD i ((⟨#[]⟩:ByteArray),([]:List Int))=l.getD i Er:=rfl;rw[e0];have hb:=h2 _ (A4 (d:=Er) hlt);refine Ghb (Jta _ hb) (Ghb (by simp only[Vb,Vj];omega) ?_);refine(ih (i+1) (acc++[l.getD i Er]) (by omega) (by omega) (by simp only[Vd,Vb,Vj];omega)).mono ?_;rintro r rfl;rw[Vp];rfl
def Pe (l:List Nmd) (hf:Cva l):Tot (λ k=>Be k l) (λ r=>r=l):=by
 unfold Be;refine Gab (Aqa l hf _ 0 [] rfl (Vt _) (Vt _)) ?_;intro r hr;rw[Yd,Wb]at hr;exact G9b hr
def M5 (d:Dsk) (hf:Yya d):Tot (λ k=>A6 k d) (λ r=>r=d):=by
 unfold A6;refine Glb (Pe d.1 hf.1) ?_;refine Glb (Pe d.2 hf.2) ?_;exact G9b rfl
def Sja (l:List Nmd) (s:ByteArray) (hf:l.length≤1000000000000):∀ (n i:Nat),l.length-i=n→i≤l.length→
  Tot (λ k=>Jh k l s (i:Int)) (λ r=>r=match fnd (l.drop i) s with|some j => .inl ((i+j:Nat):Int)|none => .inr ()):=by
 intro n
 induction n with
 |zero=>
  intro i hd hi;refine Tot.succ ?_;simp only[Jh];refine Geb (by omega) (G9b ?_);rw[Wo (by omega)];rfl
 |succ n ih=>
  intro i hd hi
  have hlt:i<l.length:=by omega
  refine Tot.succ ?_;simp only[Jh];refine Gdb (by omega) (Gdb (by omega) (Gdb (by omega) ?_));rw[show toNat (i:Int)=i from Vg i,w64 (n:=(i:Int)+1) (by omega) (by omega),Au (d:=Er) hlt];have e0:l.getD i ((⟨#[]⟩:ByteArray),([]:List Int))=l.getD i Er:=rfl;rw[e0]
  have e1:fnd (l.getD i Er::l.drop (i+1)) s=if teq (l.getD i Er).1 s then some 0 else (fnd (l.drop (i+1)) s).map (· + 1):=by
   unfold fnd;rw[I4b]
  rw[e1];refine Gfb (λ h=>?_) (λ h=>?_)
  ·have h':teq (l.getD i Er).1 s=true:=h;rw[if_pos h'];exact G9b rfl
  ·have h':¬ (teq (l.getD i Er).1 s=true):=by
    have:teq (l.getD i Er).1 s=false:=h;rw[this];simp
   rw[if_neg h'];refine(ih (i+1) (by omega) (by omega)).mono ?_;rintro r rfl
   cases fnd (l.drop (i+1)) s with
   |none=>rfl
   |some j=>
    show Sum.inl _=Sum.inl _;rw[show i+1+j=i+(j+1) by omega]
def Cxa (l:List Nmd) (s:ByteArray) (hf:l.length≤1000000000000):Tot (λ k=>Df k l s) (λ r=>r=I7a l s):=by
 unfold Df I7a;refine Glb (Sja l s hf _ 0 rfl (Vt _)) ?_;rw[Yd]
 cases fnd l s with
 |none=>exact G9b rfl
 |some j=>
  refine G9b ?_;rw[Wj]
def cut (l:List Nmd) (s:ByteArray):List Nmd:=l.filter (λ x => !(teq x.1 s))
def Ona (l:List Nmd) (s:ByteArray) (hf:l.length≤1000000000000):∀ (n i:Nat) (acc:List Nmd),l.length-i=n→i≤l.length→acc.length≤i→
  Tot (λ k=>Hy k l s acc (i:Int)) (λ r=>r=acc++cut (l.drop i) s):=by
 intro n
 induction n with
 |zero=>
  intro i acc hd hi ha;refine Tot.succ ?_;simp only[Hy];refine Geb (by omega) (G9b ?_);rw[Wo (by omega)];simp[cut]
 |succ n ih=>
  intro i acc hd hi ha
  have hlt:i<l.length:=by omega
  refine Tot.succ ?_;simp only[Hy];refine Gdb (by omega) (Gdb (by omega) (Gdb (by omega) ?_));rw[show toNat (i:Int)=i from Vg i,w64 (n:=(i:Int)+1) (by omega) (by omega),Au (d:=Er) hlt];have e0:l.getD i ((⟨#[]⟩:ByteArray),([]:List Int))=l.getD i Er:=rfl;rw[e0]
  have e1:cut (l.getD i Er::l.drop (i+1)) s=if (!(teq (l.getD i Er).1 s))=true then l.getD i Er::cut (l.drop (i+1)) s else cut (l.drop (i+1)) s:=by
   unfold cut;rw[Gob]
  rw[e1];refine Gfb (λ h=>?_) (λ h=>?_)
  ·have h':(!(teq (l.getD i Er).1 s))=true:=h;rw[if_pos h'];refine Gdb (by omega) (Gdb (by omega) (Ghb (by simp only[Vb,Vj];omega) ?_));refine(ih (i+1) (acc++[l.getD i Er]) (by omega) (by omega) (by simp only[Vd,Vb,Vj];omega)).mono ?_;rintro r rfl;rw[Vp];rfl
  ·have h':¬ ((!(teq (l.getD i Er).1 s))=true):=by
    have:(!(teq (l.getD i Er).1 s))=false:=h;rw[this];simp
   rw[if_neg h'];exact ih (i+1) acc (by omega) (by omega) (by omega)
def Ska (l:List Nmd) (s:ByteArray) (hf:l.length≤1000000000000):Tot (λ k=>J4 k l s) (λ r=>r=cut l s):=by
 unfold J4;refine Gab (Ona l s hf _ 0 [] rfl (Vt _) (Vt _)) ?_;intro r hr;rw[Yd,Wb]at hr;exact G9b hr
def Qo (d:Dsk) (hf:Yya d) (hs:Cwa d):Tot (λ k=>Bl k d) (λ r=>r=Ap d):=by
 unfold Bl Ap;refine Glb (Gva d.1 hf.1.1 hs.1) ?_;cases h:Jc d.1
 ·exact Gbb rfl (G9b rfl)
 refine Gcb rfl (Glb (Gva d.2 hf.2.1 hs.2) ?_);exact G9b (by rw[Vy])

def rdN (l:List Nmd) (s:ByteArray):List Int×Bool:=match fnd l s with
 |some i=>((l.getD i Er).2,true)
 |none=>([],false)
def Moa (d:Dsk) (s:ByteArray) (hf:Cva d.1):Tot (λ k=>Fq k d s) (λ r=>r=rdN d.1 s):=by
 unfold Fq rdN;refine Glb (Sia d.1 s hf.1) ?_;unfold I7a;have hl1:=hf.1
 cases h:fnd d.1 s with
 |none=>exact Gdb (by decide) (G9b rfl)
 |some i=>
  have hl:=(Ot h).1;dsimp only;refine Geb (by omega) (Gdb (by omega) (Gdb (by omega) ?_));rw[show toNat (i:Int)=i from Int.toNat_natCast i];have hb:=hf.2 _ (A4 (d:=Er) hl);refine Glb (Gmb (Q:=λ r=>r=(d.1.getD i Er).2) (Nf _ hb) rfl) ?_;exact G9b rfl
def Mpa (d:Dsk) (s:ByteArray) (hf:Cva d.1):Tot (λ k=>Fm k d s) (λ r=>r=rdN d.1 s):=by
 unfold Fm rdN;refine Glb (Cxa d.1 s hf.1) ?_;unfold I7a;have hl1:=hf.1
 cases h:fnd d.1 s with
 |none=>exact Gdb (by decide) (G9b rfl)
 |some i=>
  have hl:=(Ot h).1;dsimp only;refine Geb (by omega) (Gdb (by omega) (Gdb (by omega) ?_));rw[show toNat (i:Int)=i from Int.toNat_natCast i];have hb:=hf.2 _ (A4 (d:=Er) hl);exact Ghb (Jta _ hb) (G9b rfl)

end Go.Proofs.YtcpligincipmhaaGreat.Vf
