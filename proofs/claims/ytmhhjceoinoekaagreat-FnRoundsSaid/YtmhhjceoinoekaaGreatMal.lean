import Derived.Test.YtmhhjceoinoekaaGreatMak
import Derived.Test.YtmhhjceoinoekaaGreatMab
import Derived.IntWalk
import Derived.Laws.StructEq
set_option linter.all false
namespace Go.Proofs.YtmhhjceoinoekaaGreat.Vf
open Go
open List (length getD)
open Int (toNat)
open Go.IntKind (wrap)
open BitVec (ofInt)
def Vb:=@Int.toNat_natCast
def Wa:=@List.drop_of_length_le
def Wc:=@Bool.true_and
def Wi:=@List.drop_length
def Wj:=@Bool.not_eq_false'
def Xs:=@List.mem_or_eq_of_mem_set
def Zp:=@List.not_mem_nil
def Zq:=@Bool.false_and
def Zx:=@Nat.pow_succ
def Zz:=@Int.tmod_eq_emod_of_nonneg
def Zza:=@Int.fdiv_eq_ediv_of_nonneg
def Gyb:=@List.pairwise_iff_getElem
def H6b:=@Int.tdiv_eq_ediv_of_nonneg
def H9b:=@Option.bind_none
def Hbb:=@Sum.elim_inr
def Hwb:=@BitVec.toNat_and
def I5b:=@BitVec.toNat_ofInt
def I6b:=@IntKind.wrap_u8
def I7b:=@List.findIdx?_cons
def I8b:=@List.findIdx?_eq_some_iff_getElem
def Ijb:=@List.Pairwise.sublist
def Ikb:=@Nat.and_two_pow_sub_one_eq_mod
def Iyb:=@List.getElem_of_mem
def J8b:=@Nat.mul_le_mul
def Jbb:=@List.take_sublist
def Jhb:=@List.getElem_set
def Jkb:=@Bool.and_eq_false_iff
def Jub:=@Nat.mul_comm

def Tot {α:Type} (f:Nat→Option α) (Q:α→Prop):Prop:=∃ r K,(∀ k,K≤k→f k=some r)∧Q r
section
variable {α β:Type} {f g:Nat→Option α} {Q Q':α→Prop}
def Tot.mono (h:Tot f Q) (hq:∀ a,Q a→Q' a):Tot f Q':=by
 obtain⟨r,K,h1,h2⟩:=h
 exact⟨r,K,h1,hq r h2⟩
def Gib {a:α} (h:Q a):Tot (λ _=>some a) Q:=⟨a,0,λ _ _=>rfl,h⟩
def Gub {o:Option α} {a:α} (e:o=some a) (h:Q a):Tot (λ _=>o) Q:=⟨a,0,λ _ _=>e,h⟩
def Gjb {h:Nat→α→Option β} {R:β→Prop} (hf:Tot f Q) (hh:∀ a,Q a→Tot (λ k=>h k a) R):Tot (λ k=>(f k).bind (h k)) R:=by
 obtain⟨a,K,h1,h2⟩:=hf
 obtain⟨b,L,h3,h4⟩:=hh a h2
 exact⟨b,max K L,λ k hk=>by show (f k).bind (h k)=_;rw[h1 k (by omega)];exact h3 k (by omega),h4⟩
def Glb {c:Bool} (hc:c=true) (h:Tot f Q):Tot (λ k=>cond c (f k) (g k)) Q:=by subst hc;exact h
def Gkb {c:Bool} (hc:c=false) (h:Tot g Q):Tot (λ k=>cond c (f k) (g k)) Q:=by subst hc;exact h
def Gob {c:Bool} (h1:c=true→Tot f Q) (h2:c=false→Tot g Q):Tot (λ k=>cond c (f k) (g k)) Q:=by
 cases hc:c with
 |true=>exact h1 hc
 |false=>exact h2 hc
def Gmb {p:Prop} [Decidable p] (hp:p) (h:Tot f Q):Tot (λ k=>cond (decide p) (f k) (g k)) Q:=Glb (decide_eq_true hp) h
def Gnb {p:Prop} [Decidable p] (hp:¬ p) (h:Tot g Q):Tot (λ k=>cond (decide p) (f k) (g k)) Q:=Gkb (decide_eq_false hp) h
def Gpb {p:Prop} [Decidable p] (h1:p→Tot f Q) (h2:¬ p→Tot g Q):Tot (λ k=>cond (decide p) (f k) (g k)) Q:=
 Gob (λ h=>h1 (of_decide_eq_true h)) (λ h=>h2 (of_decide_eq_false h))
def Gqb {m n:Nat} (hp:m≤n) (h:Tot f Q):Tot (λ k=>cond (Nat.ble m n) (f k) (g k)) Q:=Glb (Zi hp) h
def Gtb {v:α} {h:Nat→α→Option β} {R:β→Prop} (hf:Tot f (λ r=>r=v)) (hh:Tot (λ k=>h k v) R):Tot (λ k=>(f k).bind (h k)) R:=
 Gjb hf (by rintro r rfl;exact hh)
def Tot.succ (h:Tot (λ k=>f (k+1)) Q):Tot f Q:=by
 obtain⟨r,K,h1,h2⟩:=h
 exact⟨r,K+1,λ k hk=>by obtain⟨m,rfl⟩:∃ m,k=m+1:=⟨k-1,by omega⟩;exact h1 m (by omega),h2⟩
def Tot.and (h:Tot f Q) (h':Tot f Q'):Tot f (λ a=>Q a∧Q' a):=by
 obtain⟨r,K,h1,h2⟩:=h
 obtain⟨r',K',h1',h2'⟩:=h'
 have e:r=r':=by
  have a1:=h1 (max K K') (by omega)
  have a2:=h1' (max K K') (by omega)
  rw[a1]at a2
  exact Option.some.inj a2
 subst e
 exact⟨r,K,h1,h2,h2'⟩
def Tot.law {f:Nat→Option Bool} (h:Tot f (λ b=>b=true)):∃ k,f k=some true:=by
 obtain⟨r,K,h1,h2⟩:=h
 subst h2
 exact⟨K,h1 K (Vw _)⟩
end
def w64 {n:Int} (h1 : -9223372036854775808≤n) (h2:n≤9223372036854775807):wrap .i64 n=n:=Go.IntWalk.i64_in n ⟨h1,h2⟩
def D0a (n:Int) : -9223372036854775808≤wrap .i64 n∧wrap .i64 n≤9223372036854775807:=by
 rw[IntKind.wrap_i64]
 omega
def H3a (n:Int):0≤wrap .u8 n∧wrap .u8 n≤255:=by
 simp only[wrap,IntKind.signed,IntKind.bits]
 simp
 omega
def Mra (x m:Int) (h0:0≤m) (h1:m<9223372036854775808):0≤wrap .i64 ((ofInt (IntKind.bits .i64) x &&& ofInt (IntKind.bits .i64) m).toNat)∧wrap .i64 ((ofInt (IntKind.bits .i64) x &&& ofInt (IntKind.bits .i64) m).toNat)≤m:=by
 have hm:(ofInt (IntKind.bits .i64) m).toNat=m.toNat:=by
  rw[I5b]
  show (m % ((2 ^ 64:Nat):Int)).toNat=m.toNat
  rw[Int.emod_eq_of_lt h0 (by omega)]
 have hle:(ofInt (IntKind.bits .i64) x &&& ofInt (IntKind.bits .i64) m).toNat≤m.toNat:=by
  rw[Hwb,hm]
  exact Nat.and_le_right
 rw[w64 (by omega) (by omega)]
 omega
def Sva {x n:Int} (hx:0≤x) (hn:0<n):0≤Int.tmod x n∧Int.tmod x n<n:=by
 rw[Zz hx]
 exact⟨Int.emod_nonneg _ (by omega),Int.emod_lt_of_pos _ hn⟩

abbrev Cur:=List Int×Int×Int
def Db (c:Cur):Prop:=(c.1.length:Int)≤1048576∧0≤c.2.1∧c.2.1≤1048576
def P6a (b:List Int) (hb:(b.length:Int)≤1048576):∀ (n:Nat) (h i:Int),0≤i→i+n=4001→Tot (λ k=>Im k b h i) (λ r=>r.1=b):=by
 intro n
 induction n with
 |zero=>
  intro h i h0 hi
  refine Tot.succ ?_
  simp only[Im]
  refine Gpb (λ h1=>?_) (λ h1=>Gib rfl)
  exact Gnb (by omega) (Gib rfl)
 |succ n ih=>
  intro h i h0 hi
  refine Tot.succ ?_
  simp only[Im]
  refine Gpb (λ h1=>?_) (λ h1=>Gib rfl)
  refine Gpb (λ h2=>?_) (λ h2=>Gib rfl)
  refine Gmb h0 (Gmb h1 ?_)
  rw[w64 (n:=i+1) (by omega) (by omega)]
  exact ih _ _ (by omega) (by omega)
def H4a (b:List Int) (hb:(b.length:Int)≤1048576):Tot (λ k=>Jg k b) Db:=by
 unfold Jg
 refine Gjb (P6a b hb 4001 _ 0 (by omega) (by omega)) (λ r hr=>?_)
 exact Gib ⟨by rw[hr];exact hb,Gvb 0,by show (0:Int)≤1048576;omega⟩
def Rt (c:Cur) (hc:Db c):∃ x c',Fx c=some (x,c')∧0≤x∧x≤255∧Db c':=by
 obtain⟨h1,h2,h3⟩:=hc
 unfold Fx
 by_cases hlt:c.2.1<(c.1.length:Int)
 ·simp only[hlt,h2,decide_true,cond_true]
  obtain⟨a1,a2⟩:=Mra (wrap .i64 ((wrap .i64 ((ofInt (IntKind.bits .i64) (wrap .i64 ((ofInt (IntKind.bits .i64) (Int.fdiv (wrap .i64 ((wrap .i64 (c.2.2*6364136223846793005))+1442695040888963407)) (2 ^ (min (toNat 33) (IntKind.bits .i64)))) ^^^ ofInt (IntKind.bits .i64) (Int.fdiv (wrap .i64 ((wrap .i64 (c.2.2*6364136223846793005))+1442695040888963407)) (2 ^ (min (toNat 47) (IntKind.bits .i64))))).toNat)) &&& ofInt (IntKind.bits .i64) 255).toNat))+(wrap .i64 (getD c.1 (toNat c.2.1) (0:Int))))) 255 (by omega) (by omega)
  refine⟨_,_,rfl,a1,a2,h1,?_,?_⟩
  ·show 0≤wrap .i64 (c.2.1+1)
   rw[w64 (by omega) (by omega)]
   omega
  ·show wrap .i64 (c.2.1+1)≤1048576
   rw[w64 (by omega) (by omega)]
   omega
 ·simp only[hlt,decide_false,cond_false]
  obtain⟨a1,a2⟩:=Mra (wrap .i64 ((ofInt (IntKind.bits .i64) (Int.fdiv (wrap .i64 ((wrap .i64 (c.2.2*6364136223846793005))+1442695040888963407)) (2 ^ (min (toNat 33) (IntKind.bits .i64)))) ^^^ ofInt (IntKind.bits .i64) (Int.fdiv (wrap .i64 ((wrap .i64 (c.2.2*6364136223846793005))+1442695040888963407)) (2 ^ (min (toNat 47) (IntKind.bits .i64))))).toNat)) 255 (by omega) (by omega)
  exact⟨_,_,rfl,a1,a2,h1,h2,h3⟩
def Az (c:Cur) (hc:Db c) (n:Int) (hn:n≤1000000000):∃ x c',A3 c n=some (x,c')∧0≤x∧(0<n→x<n)∧(n≤0→x=0)∧Db c':=by
 unfold A3
 by_cases h0:n≤0
 ·exact⟨0,c,by simp only[h0,decide_true,cond_true],by omega,by omega,λ _=>rfl,hc⟩
 ·by_cases h1:n≤256
  ·obtain⟨x,c',e,b0,b1,k⟩:=Rt c hc
   have hz:¬ n=0:=by omega
   have:=Sva b0 (show 0<n by omega)
   exact⟨Int.tmod x n,c',by simp only[h0,h1,hz,decide_true,decide_false,cond_true,cond_false,e,Vn],this.1,λ _=>this.2,λ h=>by omega,k⟩
  ·obtain⟨x,c1,e1,b0,b1,k1⟩:=Rt c hc
   obtain⟨y,c2,e2,b2,b3,k2⟩:=Rt c1 k1
   obtain⟨z,c3,e3,b4,b5,k3⟩:=Rt c2 k2
   have hz:¬ n=0:=by omega
   have:=Sva (show 0≤x*65536+y*256+z by omega) (show 0<n by omega)
   refine⟨Int.tmod (x*65536+y*256+z) n,c3,?_,this.1,λ _=>this.2,λ h=>by omega,k3⟩
   simp only[h0,h1,hz,decide_false,cond_false,e1,e2,e3,Vn]
   rw[w64 (n:=x*65536) (by omega) (by omega),w64 (n:=y*256) (by omega) (by omega),w64 (n:=x*65536+y*256) (by omega) (by omega),w64 (n:=x*65536+y*256+z) (by omega) (by omega)]
def Msa {α:Type} {l:List α} {i:Int} {d:α} (h0:0≤i) (h1:i<(l.length:Int)):l.getD i.toNat d∈l:=by
 have h:i.toNat<l.length:=by omega
 rw[Ve,Vk h]
 exact Imb h
def Ls (c:Cur) (hc:Db c) (l:List Int) (hl:0<l.length) (hm:l.length≤2000000):∃ x c',Ac c l=some (x,c')∧x∈l∧Db c':=by
 obtain⟨i,c',e,b0,b1,_,k⟩:=Az c hc (l.length:Int) (by omega)
 have b1:=b1 (by omega)
 refine⟨l.getD i.toNat 0,c',?_,Msa b0 b1,k⟩
 unfold Ac
 simp only[e,Vn,b0,b1,decide_true,cond_true]
def Mta (c:Cur) (hc:Db c) (l:List ByteArray) (hl:0<l.length) (hm:l.length≤2000000):∃ x c',Ka c l=some (x,c')∧x∈l∧Db c':=by
 obtain⟨i,c',e,b0,b1,_,k⟩:=Az c hc (l.length:Int) (by omega)
 have b1:=b1 (by omega)
 refine⟨l.getD i.toNat (⟨#[]⟩:ByteArray),c',?_,Msa b0 b1,k⟩
 unfold Ka
 simp only[e,Vn,b0,b1,decide_true,cond_true]
def Ap (l:List Int):Prop:=∀ x∈l,0≤x∧x≤255
def H5a (m:Int) (hm:m≤1000):∀ (n:Nat) (l:List Int) (i:Int) (c:Cur),Db c→0≤i→i≤max m 0→(max m 0)-i=n→(l.length:Int)=i→Ap l→
  Tot (λ k=>Fz k m l i c.1 c.2.1 c.2.2) (λ r=>Db r.2∧Ap r.1∧(r.1.length:Int)=max m 0):=by
 intro n
 induction n with
 |zero=>
  intro l i c hc h0 h1 hn hl hb
  refine Tot.succ ?_
  simp only[Fz]
  refine Gnb (by omega) (Gib ⟨hc,hb,by show (l.length:Int)=_;omega⟩)
 |succ n ih=>
  intro l i c hc h0 h1 hn hl hb
  refine Tot.succ ?_
  simp only[Fz]
  refine Gmb (by omega) ?_
  obtain⟨x,c',e,b0,b1,k⟩:=Rt c hc
  refine Gtb (Gub (Q:=λ r=>r=(x,c')) e rfl) ?_
  refine Gqb (by simp only[Vc,Vh];omega) ?_
  rw[w64 (n:=i+1) (by omega) (by omega)]
  refine ih _ _ c' k (by omega) (by omega) (by omega) (by simp only[Vd,Vc,Vh];omega) ?_
  intro y hy
  rcases Vo.1 hy with hy|hy
  ·exact hb y hy
  ·simp only[Vu]at hy
   subst hy
   exact H3a _
def D1a (c:Cur) (hc:Db c):Tot (λ k=>Dr k c) (λ r=>Db r.2∧Ap r.1∧(r.1.length:Int)≤9):=by
 unfold Dr
 obtain⟨x,c',e,hx,k⟩:=Ls c hc [0,1,2,5,9] (by decide) (by decide)
 have hx':0≤x∧x≤9:=by
  simp only[Vm,Zp,or_false]at hx
  omega
 refine Gtb (Gub (Q:=λ r=>r=(x,c')) e rfl) ?_
 refine Gjb (Q:=λ r=>Db r.2∧Ap r.1∧(r.1.length:Int)≤9) ?_ (λ r hr=>Gib hr)
 unfold G0
 refine Gjb (H5a x (by omega) (max x 0-0).toNat [] 0 c' k (by omega) (by omega) (by omega) rfl (by intro y hy;simp at hy)) (λ r hr=>Gib ?_)
 exact⟨hr.1,hr.2.1,by show (r.1.length:Int)≤9;rw[hr.2.2];omega⟩
def P3 (c:Cur) (hc:Db c) (n:Int) (hn:n≤1000000000):∃ x c',Cj c n=some (x,c')∧Db c':=by
 obtain⟨x,c',e,_,_,_,k⟩:=Az c hc n hn
 exact⟨x==0,c',by unfold Cj;simp only[e,Vn],k⟩
abbrev Stp:=Int×Int×Int
abbrev Row:=ByteArray×Stp×Bool×Int
abbrev Fil:=Stp×Bool×List Int
def K9a (s:Stp):Prop:=0≤s.1∧s.1≤1000000000∧0≤s.2.1∧s.2.1≤1000000∧0≤s.2.2∧s.2.2≤20
def Mu:List ByteArray:=[(⟨#[97]⟩:ByteArray),(⟨#[98]⟩:ByteArray),(⟨#[99,97,116,47,49]⟩:ByteArray),(⟨#[99,97,116,47,50]⟩:ByteArray),(⟨#[100,111,103]⟩:ByteArray),(⟨#[120,45,49]⟩:ByteArray)]
def P4 (c:Cur) (hc:Db c):∃ x c',Bx c=some (x,c')∧x∈Mu∧Db c':=by
 obtain⟨x,c',e,hx,k⟩:=Mta c hc Mu (by decide) (by decide)
 exact⟨x,c',by unfold Bx;unfold Mu at e;simp only[e,Vn],hx,k⟩
def H6a (c:Cur) (hc:Db c):∃ x c',Iw c=some (x,c')∧K9a x∧Db c':=by
 obtain⟨x,c1,e1,hx,k1⟩:=Ls c hc [0,1,2,3,1000000000] (by decide) (by decide)
 obtain⟨y,c2,e2,y0,y1,_,k2⟩:=Az c1 k1 3 (by decide)
 obtain⟨z,c3,e3,z0,z1,_,k3⟩:=Az c2 k2 3 (by decide)
 have y1:=y1 (by decide)
 have z1:=z1 (by decide)
 simp only[Vm,Zp,or_false]at hx
 exact⟨(x,y,z),c3,by unfold Iw;simp only[e1,e2,e3,Vn],⟨by show 0≤x;omega,by show x≤_;omega,y0,by show y≤_;omega,z0,by show z≤_;omega⟩,k3⟩
def Zaa (f:Fil):Prop:=K9a f.1∧Ap f.2.2∧(f.2.2.length:Int)≤9∧(f.2.1=true→f.2.2=[])
def Q4 (c:Cur) (hc:Db c):Tot (λ k=>Ck k c) (λ r=>Zaa r.1∧Db r.2):=by
 unfold Ck
 obtain⟨s,c1,e1,hs,k1⟩:=H6a c hc
 obtain⟨b,c2,e2,k2⟩:=P3 c1 k1 4 (by decide)
 refine Gtb (Gub (Q:=λ r=>r=(s,c1)) e1 rfl) ?_
 refine Gtb (Gub (Q:=λ r=>r=(b,c2)) e2 rfl) ?_
 refine Gob (λ hb=>?_) (λ hb=>Gib ⟨⟨hs,by intro y hy;simp at hy,by show ((([]:List Int).length:Nat):Int)≤9;decide,λ _=>rfl⟩,k2⟩)
 refine Gjb (D1a c2 k2) (λ r hr=>Gib ⟨⟨hs,hr.2.1,hr.2.2,λ h=>?_⟩,hr.1⟩)
 simp only[Vv]at hb
 have h':b=true:=h
 rw[hb]at h'
 cases h'
def Bib (x:Row):Prop:=x.1∈Mu∧K9a x.2.1∧0≤x.2.2.2∧x.2.2.2≤9∧(x.2.2.1=true→x.2.2.2=0)
def D2a (c:Cur) (hc:Db c):Tot (λ k=>Iy k c) (λ r=>Bib r.1∧Db r.2):=by
 unfold Iy
 obtain⟨s,c1,e1,hs,k1⟩:=P4 c hc
 refine Gtb (Gub (Q:=λ r=>r=(s,c1)) e1 rfl) ?_
 refine Gjb (Q4 c1 k1) (λ r hr=>?_)
 obtain⟨⟨h1,h2,h3,h4⟩,k2⟩:=hr
 unfold J7
 refine Gtb (Gib (Q:=λ y=>y=(s,r.1.1,r.1.2.1,(r.1.2.2.length:Int))) rfl) ?_
 refine Gib ⟨⟨hs,h1,by show (0:Int)≤(r.1.2.2.length:Int);omega,h3,λ h=>?_⟩,k2⟩
 show (r.1.2.2.length:Int)=0
 rw[h4 h]
 rfl

def H7a:∀ (a:List UInt8),Op.bytesLess a a=false
 |[]=>rfl
 |a::l=>by simp[Op.bytesLess,H7a l]
def Mua:∀ (a b c:List UInt8),Op.bytesLess a b=true→Op.bytesLess b c=true→Op.bytesLess a c=true
 |_,[],_,h,_=>by simp[Op.bytesLess]at h
 |_,_::_,[],_,h=>by simp[Op.bytesLess]at h
 |[],_::_,_::_,_,_=>rfl
 |a::x,b::y,c::z,h1,h2=>by
  simp only[Op.bytesLess,Gzb,Va,decide_eq_true_eq,beq_iff_eq]at h1 h2 ⊢
  rcases h1 with h1|⟨rfl,h1⟩
  ·rcases h2 with h2|⟨rfl,h2⟩
   ·exact .inl (UInt8.lt_trans h1 h2)
   ·exact .inl h1
  ·rcases h2 with h2|⟨rfl,h2⟩
   ·exact .inl h2
   ·exact .inr ⟨rfl,Mua x y z h1 h2⟩
def Zba:∀ (a b:List UInt8),Op.bytesLess a b=false→Op.bytesLess b a=false→a=b
 |[],[],_,_=>rfl
 |[],_::_,h,_=>by simp[Op.bytesLess]at h
 |_::_,[],_,h=>by simp[Op.bytesLess]at h
 |a::x,b::y,h1,h2=>by
  simp only[Op.bytesLess,Bool.or_eq_false_iff,Jkb,decide_eq_false_iff_not]at h1 h2
  have hab:a=b:=by
   have h3:=UInt8.not_lt.1 h1.1
   have h4:=UInt8.not_lt.1 h2.1
   exact UInt8.le_antisymm h4 h3
  subst hab
  rw[Zba x y (h1.2.resolve_left (by simp)) (h2.2.resolve_left (by simp))]
def tlt (a b:ByteArray):Bool:=Op.bytesLess a.toList b.toList
def teq (a b:ByteArray):Bool:=a.toList==b.toList
def D3a {a b:ByteArray} (h:a.toList=b.toList):a=b:=by
 rw[ByteArray.toList_eq,ByteArray.toList_eq]at h
 obtain⟨⟨x⟩⟩:=a
 obtain⟨⟨y⟩⟩:=b
 simp only at h
 rw[h]
def Jl {a b:ByteArray}:teq a b=true↔a=b:=by
 unfold teq
 rw[beq_iff_eq]
 exact⟨D3a,λ h=>by rw[h]⟩
def M1 (a:ByteArray):tlt a a=false:=H7a _
def N6 {a b c:ByteArray} (h:tlt a b=true) (h':tlt b c=true):tlt a c=true:=Mua _ _ _ h h'
def Ara {a b:ByteArray} (h:tlt a b=false) (h':tlt b a=false):a=b:=D3a (Zba _ _ h h')
def Asa {a b:ByteArray} (h:tlt a b=true):tlt b a=false:=by
 cases hb:tlt b a
 ·rfl
 have:=N6 h hb
 rw[M1]at this
 cases this
def H8a (a b:ByteArray):(!(Op.bytesLess a.toList b.toList||a.toList==b.toList))=tlt b a:=by
 show (!(tlt a b||teq a b))=tlt b a
 cases h1:tlt a b
 case true=>rw[Asa h1];rfl
 cases h2:teq a b
 case true=>rw[Jl.1 h2,M1];rfl
 cases h3:tlt b a
 case true=>rfl
 exfalso
 have:=Ara h1 h3
 rw[Jl.2 this]at h2
 cases h2
def sle (a b:Stp):Bool:=cond (a.1 != b.1) (decide (a.1<b.1)) (cond (a.2.1 != b.2.1) (decide (a.2.1<b.2.1)) (decide (a.2.2<b.2.2)))
def Eqa (a b:Stp):Cd a b=some (sle a b):=by
 unfold Cd sle
 cases a.1 != b.1<;>cases a.2.1 != b.2.1<;>rfl
def Era (a b:Stp):Cb a b=some (sle a b):=by
 unfold Cb sle
 cases a.1 != b.1<;>cases a.2.1 != b.2.1<;>rfl
def Ru {a b:Stp}:sle a b=true↔a.1<b.1∨(a.1=b.1∧(a.2.1<b.2.1∨(a.2.1=b.2.1∧a.2.2<b.2.2))):=by
 unfold sle
 by_cases h1:a.1=b.1
 ·by_cases h2:a.2.1=b.2.1
  ·simp[h1,h2]
  ·have:(a.2.1 != b.2.1)=true:=by simpa using h2
   simp[h1,this,h2]
 ·have:(a.1 != b.1)=true:=by simpa using h1
  simp[this,h1]
def Th (a b:Row):Bool:=cond (!((a.2.1.1==b.2.1.1)&&((a.2.1.2.1==b.2.1.2.1)&&(a.2.1.2.2==b.2.1.2.2)))) (sle a.2.1 b.2.1) (cond (!(a.2.2.1==b.2.2.1)) b.2.2.1 (decide (a.2.2.2<b.2.2.2)))
def Kaa (a b:Row):Jv a b=some (Th a b):=by
 unfold Jv Th
 rw[Eqa]
 cases (!((a.2.1.1==b.2.1.1)&&((a.2.1.2.1==b.2.1.2.1)&&(a.2.1.2.2==b.2.1.2.2))))<;>cases (!(a.2.2.1==b.2.2.1))<;>rfl
def Swa (a b:Row):J1 a b=some (Th b a):=by
 unfold J1 Th
 rw[Era,BEq.comm (a:=a.2.1.1),BEq.comm (a:=a.2.1.2.1),BEq.comm (a:=a.2.1.2.2),BEq.comm (a:=a.2.2.1)]
 cases (!((b.2.1.1==a.2.1.1)&&((b.2.1.2.1==a.2.1.2.1)&&(b.2.1.2.2==a.2.1.2.2))))<;>cases (!(b.2.2.1==a.2.2.1))<;>rfl
def Lq:Row:=((⟨#[]⟩:ByteArray),(((0:Int),((0:Int),(0:Int))),(false,(0:Int))))
def Ti (s:ByteArray):List Row→Nat→Option Nat
 |[],_=>none
 |r::l,i=>bif teq r.1 s then some i else Ti s l (i+1)
def X8 (l:List Row) (s:ByteArray):Nat→Nat
 |0=>0
 |k+1=>bif tlt s (l.getD k Lq).1 then X8 l s k else k+1
def mrg (l:List Row) (x:Row):List Row:=match Ti x.1 l 0 with
 |some i=>bif Th (l.getD i Lq) x then l.set i x else l
 |none=>l.take (X8 l x.1 l.length)++x::l.drop (X8 l x.1 l.length)
def Ata (l:List Row) (s:ByteArray):∀ k,X8 l s k≤k
 |0=>Vw _
 |k+1=>by
  unfold X8
  cases tlt s (l.getD k Lq).1 with
  |true=>have:=Ata l s k;simp only[cond_true];omega
  |false=>simp only[cond_false];omega
def D4a {s:ByteArray}:∀ (l:List Row) (i j:Nat),Ti s l i=some j→i≤j∧j<i+l.length∧teq (l.getD (j-i) Lq).1 s=true
 |[],i,j,h=>by simp[Ti]at h
 |r::l,i,j,h=>by
  unfold Ti at h
  cases ht:teq r.1 s with
  |true=>
   rw[ht]at h
   simp only[cond_true,Vg]at h
   subst h
   refine⟨Vw _,by simp,?_⟩
   rw[Hmb]
   exact ht
  |false=>
   rw[ht]at h
   simp only[cond_false]at h
   obtain⟨h1,h2,h3⟩:=D4a l (i+1) j h
   refine⟨by omega,by simp only[Vc];omega,?_⟩
   rw[show j-i=(j-(i+1))+1 by omega]
   exact h3
def Af {α:Type} {l:List α} {i:Nat} {d:α} (h:i<l.length):l.drop i=l.getD i d::l.drop (i+1):=by
 rw[Yw h,Ve,Vk h]
 rfl
def Few (l:List Row):Prop:=l.length≤1000000000000
def H9a (x:Row):∀ (n:Nat) (l:List Row) (i:Nat),l.length-i=n→i≤l.length→Few l→
  Tot (λ k=>Ey k l (i:Int) x.1 x.2.1.1 x.2.1.2.1 x.2.1.2.2 x.2.2.1 x.2.2.2) (λ r=>r=match Ti x.1 (l.drop i) i with
   |some j => .inl (bif Th (l.getD j Lq) x then l.set j x else l)
   |none => .inr (l,x.1,x.2.1.1,x.2.1.2.1,x.2.1.2.2,x.2.2.1,x.2.2.2)):=by
 intro n
 induction n with
 |zero=>
  intro l i hn hi hf
  unfold Few at hf
  refine Tot.succ ?_
  simp only[Ey]
  refine Gnb (by omega) (Gib ?_)
  rw[Wa (by omega)]
  rfl
 |succ n ih=>
  intro l i hn hi hf
  have hf':=hf
  unfold Few at hf
  have hlt:i<l.length:=by omega
  refine Tot.succ ?_
  simp only[Ey]
  refine Gmb (by omega) (Gmb (by omega) (Gmb (by omega) ?_))
  have e0:toNat (i:Int)=i:=Vb i
  rw[e0,Af (d:=Lq) hlt]
  refine Gob (λ ht=>?_) (λ ht=>?_)
  ·have ht':teq (l.getD i Lq).1 x.1=true:=ht
   refine Gmb (by omega) (Gmb (by omega) ?_)
   refine Gtb (Gub (Q:=λ r=>r=Th (l.getD i Lq) x) (Kaa _ _) rfl) ?_
   simp only[Ti,ht',cond_true]
   cases hb:Th (l.getD i Lq) x with
   |true=>exact Glb rfl (Gmb (by omega) (Gmb (by omega) (Gib rfl)))
   |false=>exact Gkb rfl (Gib rfl)
  ·have ht':teq (l.getD i Lq).1 x.1=false:=ht
   simp only[Ti,ht',cond_false]
   rw[w64 (n:=(i:Int)+1) (by omega) (by omega)]
   exact ih l (i+1) (by omega) (by omega) hf'
def Haa (x:Row) (l0 l5:List Row) (h5:l5=l0):∀ (n:Nat) (i:Nat),l0.length-i=n→i≤l0.length→Few l0→
  Tot (λ k=>Fa k l0 l5 l0 (l0.length:Int) (i:Int) x.1 x.2.1.1 x.2.1.2.1 x.2.1.2.2 x.2.2.1 x.2.2.2) (λ r=>r=match Ti x.1 (l0.drop i) i with
   |some j => .inl (bif Th (l0.getD j Lq) x then l0.set j x else l0)
   |none => .inr (l0,x.1,x.2.1.1,x.2.1.2.1,x.2.1.2.2,x.2.2.1,x.2.2.2)):=by
 subst h5
 intro n
 induction n with
 |zero=>
  intro i hn hi hf
  unfold Few at hf
  refine Tot.succ ?_
  simp only[Fa]
  refine Gnb (by omega) (Gib ?_)
  rw[Wa (by omega)]
  rfl
 |succ n ih=>
  intro i hn hi hf
  have hf':=hf
  unfold Few at hf
  have hlt:i<l5.length:=by omega
  refine Tot.succ ?_
  simp only[Fa]
  refine Gmb (by omega) (Gmb (by omega) (Gmb (by omega) ?_))
  have e0:toNat (i:Int)=i:=Vb i
  rw[e0,Af (d:=Lq) hlt]
  refine Gob (λ ht=>?_) (λ ht=>?_)
  ·have ht':teq (l5.getD i Lq).1 x.1=true:=ht
   refine Gtb (Gub (Q:=λ r=>r=Th (l5.getD i Lq) x) (Swa _ _) rfl) ?_
   simp only[Ti,ht',cond_true]
   cases hb:Th (l5.getD i Lq) x with
   |true=>exact Glb rfl (Gmb (by omega) (Gmb (by omega) (Gib rfl)))
   |false=>exact Gkb rfl (Gib rfl)
  ·have ht':teq (l5.getD i Lq).1 x.1=false:=ht
   simp only[Ti,ht',cond_false]
   rw[w64 (n:=(i:Int)+1) (by omega) (by omega)]
   exact ih (i+1) (by omega) (by omega) hf'
def Esa (x:Row) (l:List Row) (hf:Few l):∀ (i:Nat),i≤l.length→
  Tot (λ k=>E6 k l (i:Int) x.1 x.2.1.1 x.2.1.2.1 x.2.1.2.2 x.2.2.1 x.2.2.2) (λ r=>r=(l,(X8 l x.1 i:Int),x.1,x.2.1.1,x.2.1.2.1,x.2.1.2.2,x.2.2.1,x.2.2.2)):=by
 unfold Few at hf
 intro i
 induction i with
 |zero=>
  intro hi
  refine Tot.succ ?_
  simp only[E6]
  exact Gnb (by omega) (Gib rfl)
 |succ i ih=>
  intro hi
  refine Tot.succ ?_
  simp only[E6]
  rw[w64 (n:=((i+1:Nat):Int)-1) (by omega) (by omega),show ((i+1:Nat):Int)-1=(i:Int) by omega,show toNat (i:Int)=i from Vb i]
  refine Gmb (by omega) (Gmb (by omega) (Gmb (by omega) ?_))
  have e:∀ z,(!(Op.bytesLess (l.getD i z).1.toList x.1.toList||(l.getD i z).1.toList==x.1.toList))=tlt x.1 (l.getD i z).1:=λ z=>H8a _ _
  rw[e]
  have hc:X8 l x.1 (i+1)=bif tlt x.1 (l.getD i Lq).1 then X8 l x.1 i else i+1:=rfl
  refine Gob (λ ht=>?_) (λ ht=>?_)
  ·have ht':tlt x.1 (l.getD i Lq).1=true:=ht
   rw[hc,ht',cond_true]
   exact ih (by omega)
  ·have ht':tlt x.1 (l.getD i Lq).1=false:=ht
   rw[hc,ht',cond_false]
   exact Gib rfl
def Uj (l:List Row) (hf:Few l):An l=some l:=by
 unfold Few at hf
 unfold An
 rw[Zi (by simp only[Vh];omega)]
 rfl
def Sxa (l:List Row) (x:Row) (hf:Few l):Tot (λ k=>Cp k l x) (λ r=>r=mrg l x):=by
 have hf':=hf
 unfold Few at hf
 unfold Cp
 refine Gjb (Gub (Q:=λ r=>r=l) (Uj l hf') rfl) ?_
 rintro r rfl
 refine Gjb (Haa x r r rfl _ 0 rfl (Vs _) hf') ?_
 rintro y rfl
 rw[Wf]
 unfold mrg
 cases hfi:Ti x.1 r 0 with
 |some j=>exact Gib rfl
 |none=>
  simp only[Hbb]
  refine Gjb (Esa x r hf' r.length (Vw _)) ?_
  rintro z rfl
  have hc:=Ata r x.1 r.length
  simp only
  rw[show toNat ((X8 r x.1 r.length:Nat):Int)=X8 r x.1 r.length from Vb _]
  refine Gmb (by omega) (Gmb (by omega) ?_)
  have hft:Few (r.take (X8 r x.1 r.length)):=by unfold Few;rw[Vq];omega
  refine Gjb (Gub (Q:=λ q=>q=r.take (X8 r x.1 r.length)) (Uj _ hft) rfl) ?_
  rintro q rfl
  refine Gqb (by simp only[Vq,Vc,Vh];omega) ?_
  refine Gmb (by omega) (Gmb (by omega) (Gqb (by simp only[Vd,Vq,Wd,Vc,Vh];omega) (Gib ?_)))
  rw[Vp]
  rfl
def Eta (x:Row) (l:List Row) (hf:Few l):∀ (i:Nat) (y:Row),i≤l.length→
  Tot (λ k=>Dw k (l.take i++y::l.drop i) (i:Int) x.1 x.2.1.1 x.2.1.2.1 x.2.1.2.2 x.2.2.1 x.2.2.2)
   (λ r=>∃ y',r=(l.take (X8 l x.1 i)++y'::l.drop (X8 l x.1 i),(X8 l x.1 i:Int),x.1,x.2.1.1,x.2.1.2.1,x.2.1.2.2,x.2.2.1,x.2.2.2)):=by
 unfold Few at hf
 intro i
 induction i with
 |zero=>
  intro y hi
  refine Tot.succ ?_
  simp only[Dw]
  exact Gnb (by omega) (Gib ⟨y,rfl⟩)
 |succ i ih=>
  intro y hi
  refine Tot.succ ?_
  simp only[Dw]
  have hlen:(l.take (i+1)++y::l.drop (i+1)).length=l.length+1:=by simp only[Vd,Vq,Vc,Wd];omega
  have hget:∀ z,(l.take (i+1)++y::l.drop (i+1)).getD i z=l.getD i z:=by
   intro z
   rw[Ve,Ve,Yc (by rw[Vq];omega),List.getElem?_take_of_lt (by omega)]
  rw[w64 (n:=((i+1:Nat):Int)-1) (by omega) (by omega),show ((i+1:Nat):Int)-1=(i:Int) by omega,show toNat (i:Int)=i from Vb i,show toNat ((i+1:Nat):Int)=i+1 from Vb _,hget,hlen]
  refine Gmb (by omega) (Gmb (by omega) (Gmb (by omega) ?_))
  have e:∀ z,(!(Op.bytesLess (l.getD i z).1.toList x.1.toList||(l.getD i z).1.toList==x.1.toList))=tlt x.1 (l.getD i z).1:=λ z=>H8a _ _
  rw[e]
  have hc:X8 l x.1 (i+1)=bif tlt x.1 (l.getD i Lq).1 then X8 l x.1 i else i+1:=rfl
  refine Gob (λ ht=>?_) (λ ht=>?_)
  ·have ht':tlt x.1 (l.getD i Lq).1=true:=ht
   rw[hc,ht',cond_true]
   refine Gmb (by omega) (Gmb (by omega) (Gmb (by omega) (Gmb (by omega) ?_)))
   have hset:(l.take (i+1)++y::l.drop (i+1)).set (i+1) (l.getD i ((⟨#[]⟩:ByteArray),(((0:Int),((0:Int),(0:Int))),(false,(0:Int)))))=l.take i++l.getD i Lq::l.drop i:=by
    rw[List.set_append,if_neg (by rw[Vq];omega),Vq,Zt hi,Hmb,J1b,Af (d:=Lq) (show i<l.length by omega)]
    rw[List.take_add_one,Vk (show i<l.length by omega)]
    simp only[J4b,Vp,Yg]
    rw[Ve,Ve,Vk (show i<l.length by omega)]
    rfl
   rw[hset]
   exact ih _ (by omega)
  ·have ht':tlt x.1 (l.getD i Lq).1=false:=ht
   rw[hc,ht',cond_false]
   exact Gib ⟨y,rfl⟩
def Hba (l:List Row) (x:Row) (hf:Few l):Tot (λ k=>Bt k l x) (λ r=>r=mrg l x):=by
 have hf':=hf
 unfold Few at hf
 unfold Bt
 refine Gqb (by simp only[Vh];omega) ?_
 rw[Vx]
 refine Gtb (H9a x _ l 0 rfl (Vs _) hf') ?_
 rw[Wf]
 unfold mrg
 cases hfi:Ti x.1 l 0 with
 |some j=>exact Gib rfl
 |none=>
  simp only[Hbb]
  refine Gqb (by simp only[Vc,Vh];omega) ?_
  have h0:=Eta x l hf' l.length x (Vw _)
  rw[Ys,Wi]at h0
  refine Gjb h0 ?_
  rintro z ⟨y',rfl⟩
  have hc:=Ata l x.1 l.length
  have hlen:(l.take (X8 l x.1 l.length)++y'::l.drop (X8 l x.1 l.length)).length=l.length+1:=by simp only[Vd,Vq,Vc,Wd];omega
  simp only
  rw[show toNat ((X8 l x.1 l.length:Nat):Int)=X8 l x.1 l.length from Vb _,hlen]
  refine Gmb (by omega) (Gmb (by omega) (Gib ?_))
  rw[List.set_append,if_neg (by rw[Vq];omega),Vq,Zt hc,Hmb,J1b]

def Y6 (a b:ByteArray):(a==b)=teq a b:=beq_toListBytes a b
def Cxb (a b:Row):Bool:=(a.1==b.1)&&((a.2.1.1==b.2.1.1)&&((a.2.1.2.1==b.2.1.2.1)&&((a.2.1.2.2==b.2.1.2.2)&&((a.2.2.1==b.2.2.1)&&(a.2.2.2==b.2.2.2)))))
def Mva {a b:Row}:Cxb a b=true↔a=b:=by
 unfold Cxb
 simp only[Va,beq_iff_eq,Y6,Jl]
 constructor
 ·rintro⟨h1,h2,h3,h4,h5,h6⟩
  obtain⟨n,⟨t,s,d⟩,b1,z⟩:=a
  obtain⟨n',⟨t',s',d'⟩,b1',z'⟩:=b
  simp only at h1 h2 h3 h4 h5 h6
  subst h1 h2 h3 h4 h5 h6
  rfl
 ·rintro rfl
  exact⟨rfl,rfl,rfl,rfl,rfl,rfl⟩
def Kba (a b:List Row) (hl:a.length=b.length) (hf:Few a):∀ (n i:Nat),a.length-i=n→i≤a.length→
  Tot (λ k=>Eu k a b (i:Int)) (λ r=>r=bif decide (a.drop i=b.drop i) then .inr () else .inl false):=by
 unfold Few at hf
 intro n
 induction n with
 |zero=>
  intro i hn hi
  refine Tot.succ ?_
  simp only[Eu]
  refine Gnb (by omega) (Gib ?_)
  rw[Wa (by omega),Wa (by omega)]
  rfl
 |succ n ih=>
  intro i hn hi
  have hlt:i<a.length:=by omega
  refine Tot.succ ?_
  simp only[Eu]
  rw[show toNat (i:Int)=i from Vb i]
  refine Gmb (by omega) (Gmb (by omega) (Gmb (by omega) (Gmb (by omega) (Gmb (by omega) ?_))))
  rw[Af (d:=Lq) hlt,Af (d:=Lq) (show i<b.length by omega)]
  refine Gob (λ h=>?_) (λ h=>?_)
  ·have h':Cxb (a.getD i Lq) (b.getD i Lq)=false:=(Vv _).mp h
   have hne:a.getD i Lq≠b.getD i Lq:=λ e=>by rw[Mva.2 e]at h';cases h'
   refine Gib ?_
   rw[decide_eq_false (by intro e;exact hne (List.cons.inj e).1)]
   rfl
  ·have h':Cxb (a.getD i Lq) (b.getD i Lq)=true:=by
    have h2:(!(Cxb (a.getD i Lq) (b.getD i Lq)))=false:=h
    cases hb:Cxb (a.getD i Lq) (b.getD i Lq) with
    |true=>rfl
    |false=>rw[hb]at h2;cases h2
   have he:=Mva.1 h'
   rw[w64 (n:=(i:Int)+1) (by omega) (by omega)]
   refine(ih (i+1) (by omega) (by omega)).mono ?_
   rintro r rfl
   rw[he]
   have:(b.getD i Lq::a.drop (i+1)=b.getD i Lq::b.drop (i+1))↔(a.drop (i+1)=b.drop (i+1)):=by simp
   simp only[this]
def Hca (a b:List Row) (hf:Few a) (hf2:Few b):Tot (λ k=>I1 k a b) (λ r=>r=decide (a=b)):=by
 unfold I1
 refine Gob (λ h=>?_) (λ h=>?_)
 ·refine Gib ?_
  have:a≠b:=λ e=>by subst e;simp at h
  rw[decide_eq_false this]
 ·have hl:a.length=b.length:=by
   simp only[bne_eq_false_iff_eq]at h
   omega
  refine Gtb (Kba a b hl hf _ 0 rfl (Vs _)) ?_
  rw[Wf,Wf]
  cases decide (a=b) with
  |true=>exact Gib rfl
  |false=>exact Gib rfl
def D5a {s:ByteArray}:∀ (l:List Row) (i:Nat),Ti s l i=none→∀ r∈l,r.1≠s
 |[],_,_,r,hr=>by simp at hr
 |a::l,i,h,r,hr=>by
  unfold Ti at h
  cases ht:teq a.1 s
  case true=>rw[ht]at h;simp at h
  rw[ht]at h
  rcases Vm.1 hr with rfl|hr
  ·intro e
   rw[Jl.2 e]at ht
   cases ht
  ·exact D5a l (i+1) h r hr
def Kca (l:List Row) (x:Row):l.length≤(mrg l x).length∧(mrg l x).length≤l.length+1:=by
 unfold mrg
 have hc:=Ata l x.1 l.length
 split
 ·cases Th (l.getD _ Lq) x<;>simp
 ·simp only[Vd,Vq,Vc,Wd]
  omega
def Sya {l:List Row} {x r:Row} (h:r∈mrg l x):r=x∨r∈l:=by
 unfold mrg at h
 split at h
 ·rename_i j hj
  cases hb:Th (l.getD j Lq) x
  ·rw[hb]at h;exact .inr h
  rw[hb,cond_true]at h
  rcases Xs h with h|h
  ·exact .inr h
  ·exact .inl h
 ·rcases Vo.1 h with h|h
  ·exact .inr (Hgb h)
  ·rcases Vm.1 h with h|h
   ·exact .inl h
   ·exact .inr (Zj h)
def Ot (a:Stp):sle a a=false:=by
 cases h:sle a a with
 |false=>rfl
 |true=>rw[Ru]at h;omega
def Kl (l:List Row):Prop:=l.Pairwise (λ a b=>tlt a.1 b.1=true)
def Hda {l:List Row} {s:ByteArray} (hs:Kl l) (hn:∀ r∈l,r.1≠s):∀ k,k≤l.length→(∀ i,i<X8 l s k→tlt (l.getD i Lq).1 s=true)∧(∀ i,X8 l s k≤i→i<k→tlt s (l.getD i Lq).1=true)
 |0,_=>⟨λ i hi=>by simp[X8]at hi,λ i _ hi=>by omega⟩
 |k+1,hk=>by
  unfold X8
  cases ht:tlt s (l.getD k Lq).1 with
  |true=>
   simp only[cond_true]
   obtain⟨h1,h2⟩:=Hda hs hn k (by omega)
   refine⟨h1,λ i hi hik=>?_⟩
   by_cases e:i=k
   ·subst e;exact ht
   ·exact h2 i hi (by omega)
  |false=>
   simp only[cond_false]
   refine⟨λ i hi=>?_,λ i hi hik=>by omega⟩
   have hget:∀ j (hj:j<l.length),l.getD j Lq=l[j]:=λ j hj=>by rw[Ve,Vk hj];rfl
   have hkl:k<l.length:=by omega
   have hks:tlt (l.getD k Lq).1 s=true:=by
    cases h:tlt (l.getD k Lq).1 s
    case true=>rfl
    exfalso
    exact hn (l.getD k Lq) (by rw[hget k hkl];exact Imb hkl) (Ara h ht)
   by_cases e:i=k
   ·subst e;exact hks
   ·have h3:=(Gyb.1 hs) i k (by omega) hkl (by omega)
    rw[hget i (by omega)]
    rw[hget k hkl]at hks
    exact N6 h3 hks
def D6a {l:List Row} {x:Row} (hs:Kl l):Kl (mrg l x):=by
 have hget:∀ j (hj:j<l.length),l.getD j Lq=l[j]:=λ j hj=>by rw[Ve,Vk hj];rfl
 unfold mrg
 split
 ·rename_i j hj
  obtain⟨_,h2,h3⟩:=D4a l 0 j hj
  rw[J2b]at h3
  have hjl:j<l.length:=by omega
  have hname:l[j].1=x.1:=by rw[← hget j hjl];exact Jl.1 h3
  cases hb:Th (l.getD j Lq) x
  ·exact hs
  rw[cond_true]
  unfold Kl
  rw[Gyb]
  intro a b ha hb hab
  rw[Vz]at ha hb
  have:=(Gyb.1 hs) a b ha hb hab
  rw[Jhb,Jhb]
  by_cases e1:j=a
  ·subst e1
   rw[if_pos rfl,if_neg (by omega),← hname]
   exact this
  ·rw[if_neg e1]
   by_cases e2:j=b
   ·subst e2
    rw[if_pos rfl,← hname]
    exact this
   ·rw[if_neg e2]
    exact this
 ·rename_i hj
  have hn:=D5a l 0 hj
  obtain⟨c1,c2⟩:=Hda hs hn l.length (Vw _)
  have hc:=Ata l x.1 l.length
  unfold Kl
  rw[Zc,Wk]
  refine⟨Ijb (Jbb _ _) hs,⟨λ r hr=>?_,Ijb (List.drop_sublist _ _) hs⟩,λ r hr q hq=>?_⟩
  ·obtain⟨i,hi,rfl⟩:=Iyb hr
   rw[Wd]at hi
   rw[List.getElem_drop,← hget _ (by omega)]
   exact c2 _ (by omega) (by omega)
  ·obtain⟨i,hi,rfl⟩:=Iyb hr
   rw[Vq]at hi
   have h1:tlt (List.take (X8 l x.1 l.length) l)[i].1 x.1=true:=by
    rw[List.getElem_take,← hget _ (by omega)]
    exact c1 i (by omega)
   rcases Vm.1 hq with rfl|hq
   ·exact h1
   ·refine N6 h1 ?_
    obtain⟨m,hm,rfl⟩:=Iyb hq
    rw[Wd]at hm
    rw[List.getElem_drop,← hget _ (by omega)]
    exact c2 _ (by omega) (by omega)
def Mwa (l:List Row):Prop:=Kl l∧(∀ r∈l,Bib r)
def Hea:∀ (n:Nat) (l:List Row) (i:Int) (c:Cur),Db c→0≤i→i=n→Mwa l→l.length+n≤5→
  Tot (λ k=>Ga k l i c.1 c.2.1 c.2.2) (λ r=>Db r.2∧Mwa r.1∧r.1.length≤5):=by
 intro n
 induction n with
 |zero=>
  intro l i c hc h0 hi hr hl
  refine Tot.succ ?_
  simp only[Ga]
  exact Gnb (by omega) (Gib ⟨hc,hr,by show l.length≤5;omega⟩)
 |succ n ih=>
  intro l i c hc h0 hi hr hl
  refine Tot.succ ?_
  simp only[Ga]
  refine Gmb (by omega) ?_
  refine Gjb (D2a c hc) (λ r h=>?_)
  refine Gtb (Hba l r.1 (by unfold Few;omega)) ?_
  rw[w64 (n:=i-1) (by omega) (by omega)]
  refine ih _ _ r.2 h.2 (by omega) (by omega) ⟨D6a hr.1,λ y hy=>?_⟩ (by have:=(Kca l r.1).2;omega)
  rcases Sya hy with rfl|hy
  ·exact h.1
  ·exact hr.2 y hy
def Aua (c:Cur) (hc:Db c):Tot (λ k=>D9 k c) (λ r=>Db r.2∧Mwa r.1∧r.1.length≤5):=by
 unfold D9
 obtain⟨x,c',e,x0,x1,_,k⟩:=Az c hc 6 (by decide)
 have x1:=x1 (by decide)
 refine Gtb (Gub (Q:=λ r=>r=(x,c')) e rfl) ?_
 refine Gjb (Hea x.toNat [] x c' k x0 (by omega) ⟨List.Pairwise.nil,by simp⟩ (by simp only[Vh];omega)) (λ r hr=>Gib hr)

def inR (n lo hi:Int):Bool:=decide (n≥lo)&&decide (n≤hi)
def Uk (n lo hi:Int):Ep n lo hi=some (inR n lo hi):=by
 unfold Ep inR
 cases decide (n≥lo)<;>rfl
def Oj (n lo hi:Int):A9 n lo hi=some (inR n lo hi):=by
 unfold A9 inR
 cases decide (n≥lo)<;>rfl
def Eb {n lo hi:Int}:inR n lo hi=true↔lo≤n∧n≤hi:=by
 unfold inR
 simp
def Ul (c:Int):Bool:=inR c 97 122||(inR c 48 57||(!(c != 45)||(!(c != 95)||!(c != 47))))
def L9 (s:ByteArray):Prop:=s.size≤4611686018427387904
def Qn (s:ByteArray):s.data.toList.length=s.size:=Yv
def Ava (s:ByteArray) (i:Int):0≤bt s i∧bt s i≤255:=by
 unfold bt
 have:=(s.data.toList.getD i.toNat 0).toNat_lt
 omega
def E3b (s:ByteArray) (i:Nat) (h:i<s.size):bt s (i:Int)=((s.data.toList[i]'(by rw[Qn];exact h)).toNat:Int):=by
 unfold bt
 rw[Vb,Ve,Vk (by rw[Qn];exact h)]
 rfl
def bOk (b:UInt8):Bool:=Ul (b.toNat:Int)
def Kda (s:ByteArray) (hs:L9 s):∀ (n i:Nat),s.size-i=n→i≤s.size→
  Tot (λ k=>Aq k s (i:Int)) (λ r=>r=bif (s.data.toList.drop i).all bOk then .inr s else .inl false):=by
 unfold L9 at hs
 have hsz:=Qn s
 intro n
 induction n with
 |zero=>
  intro i hn hi
  refine Tot.succ ?_
  simp only[Aq]
  refine Gnb (by omega) (Gib ?_)
  rw[Wa (by omega)]
  rfl
 |succ n ih=>
  intro i hn hi
  have hlt:i<s.size:=by omega
  refine Tot.succ ?_
  simp only[Aq]
  refine Gmb (by omega) (Gmb (by omega) (Gmb (by omega) ?_))
  rw[w64 (n:=(i:Int)+1) (by omega) (by omega)]
  have hb:bOk (s.data.toList[i]'(by omega))=Ul (bt s (i:Int)):=by rw[E3b s i hlt];rfl
  rw[Yw (by omega),Gxb,hb]
  generalize bt s (i:Int)=c
  have h1:=ih (i+1) (by omega) (by omega)
  have e:(((i+1:Nat)):Int)=(i:Int)+1:=by omega
  rw[e]at h1
  cases hc:Ul c with
  |true=>
   rw[Wc]
   refine h1.mono (λ r hr=>hr) |> λ h=>?_
   obtain⟨r,K,h2,h3⟩:=h
   refine⟨r,K,λ k hk=>?_,h3⟩
   rw[← h2 k hk]
   unfold Ul inR at hc
   revert hc
   cases decide (c≥97)<;>cases decide (c≤122)<;>cases decide (c≥48)<;>cases decide (c≤57)<;>cases (c != 45)<;>cases (c != 95)<;>cases (c != 47)<;>first|(intro _;rfl)|(intro hc;cases hc)
  |false=>
   rw[Zq]
   refine⟨.inl false,0,λ k _=>?_,rfl⟩
   unfold Ul inR at hc
   revert hc
   cases decide (c≥97)<;>cases decide (c≤122)<;>cases decide (c≥48)<;>cases decide (c≤57)<;>cases (c != 45)<;>cases (c != 95)<;>cases (c != 47)<;>first|(intro _;rfl)|(intro hc;cases hc)
def Kea (s:ByteArray) (hs:L9 s):∀ (n i:Nat),s.size-i=n→i≤s.size→
  Tot (λ k=>Dd k s (i:Int)) (λ r=>r=bif (s.data.toList.drop i).all bOk then .inr s else .inl false):=by
 unfold L9 at hs
 have hsz:=Qn s
 intro n
 induction n with
 |zero=>
  intro i hn hi
  refine Tot.succ ?_
  simp only[Dd]
  refine Gnb (by omega) (Gib ?_)
  rw[Wa (by omega)]
  rfl
 |succ n ih=>
  intro i hn hi
  have hlt:i<s.size:=by omega
  have hbb:=Ava s (i:Int)
  refine Tot.succ ?_
  simp only[Dd]
  refine Gmb (by omega) (Gmb (by omega) (Gmb (by omega) ?_))
  rw[w64 (n:=(i:Int)+1) (by omega) (by omega),w64 (n:=bt s (i:Int)) (by omega) (by omega)]
  have hb:bOk (s.data.toList[i]'(by omega))=Ul (bt s (i:Int)):=by rw[E3b s i hlt];rfl
  rw[Yw (by omega),Gxb,hb]
  generalize bt s (i:Int)=c
  have h1:=ih (i+1) (by omega) (by omega)
  have e:(((i+1:Nat)):Int)=(i:Int)+1:=by omega
  rw[e]at h1
  simp only[Oj,Vn]
  cases hc:Ul c with
  |true=>
   rw[Wc]
   obtain⟨r,K,h2,h3⟩:=h1
   refine⟨r,K,λ k hk=>?_,h3⟩
   rw[← h2 k hk]
   unfold Ul at hc
   revert hc
   cases inR c 97 122<;>cases inR c 48 57<;>cases (c != 45)<;>cases (c != 95)<;>cases (c != 47)<;>first|(intro _;rfl)|(intro hc;cases hc)
  |false=>
   rw[Zq]
   refine⟨.inl false,0,λ k _=>?_,rfl⟩
   unfold Ul at hc
   revert hc
   cases inR c 97 122<;>cases inR c 48 57<;>cases (c != 45)<;>cases (c != 95)<;>cases (c != 47)<;>first|(intro _;rfl)|(intro hc;cases hc)
def B1 (s:ByteArray):Bool:=s.data.toList.all bOk&&inR (s.size:Int) 1 20
def Qo (s:ByteArray) (hs:L9 s):Tot (λ k=>Ar k s) (λ r=>r=B1 s):=by
 unfold Ar B1
 refine Gtb (Kda s hs _ 0 rfl (Vs _)) ?_
 rw[Wf]
 cases s.data.toList.all bOk with
 |true=>exact Gub (a:=inR (s.size:Int) 1 20) (by simp only[cond_true,Hbb,Uk,Vn]) (by rw[Wc])
 |false=>exact Gib rfl
def Ph (s:ByteArray) (hs:L9 s):Tot (λ k=>Ao k s) (λ r=>r=B1 s):=by
 unfold Ao B1
 refine Gtb (Kea s hs _ 0 rfl (Vs _)) ?_
 rw[Wf]
 cases s.data.toList.all bOk with
 |true=>exact Gub (a:=inR (s.size:Int) 1 20) (by simp only[cond_true,Hbb,Oj,Vn]) (by rw[Wc])
 |false=>exact Gib rfl
def Gw (s:Stp):Bool:=inR s.1 0 1000000000&&(inR s.2.1 0 1000000&&inR s.2.2 0 20)
def Awa (s:Stp):Ec s=some (Gw s):=by
 unfold Ec Gw
 simp only[Uk,Vn]
 cases inR s.1 0 1000000000<;>cases inR s.2.1 0 1000000<;>rfl
def Rv (s:Stp):Cc s=some (Gw s):=by
 unfold Cc Gw
 simp only[Oj,Vn]
 cases inR s.1 0 1000000000<;>cases inR s.2.1 0 1000000<;>rfl
def No (x:Row):Bool:=B1 x.1&&(Gw x.2.1&&(inR x.2.2.2 0 200&&(!x.2.2.1||x.2.2.2==0)))
def Sza (x:Row) (hs:L9 x.1):Tot (λ k=>K8 k x) (λ r=>r=No x):=by
 unfold K8 No
 refine Gtb (Qo x.1 hs) ?_
 cases B1 x.1
 ·exact Gib rfl
 refine Gub (a:=Gw x.2.1&&(inR x.2.2.2 0 200&&(!x.2.2.1||x.2.2.2==0))) ?_ (by rw[Wc])
 simp only[cond_true,Awa,Uk,Vn]
 cases Gw x.2.1<;>cases inR x.2.2.2 0 200<;>cases x.2.2.1<;>rfl
def T0a (x:Row) (hs:L9 x.1):Tot (λ k=>It k x) (λ r=>r=No x):=by
 unfold It No
 refine Gtb (Ph x.1 hs) ?_
 cases B1 x.1
 ·exact Gib rfl
 refine Gub (a:=Gw x.2.1&&(inR x.2.2.2 0 200&&(!x.2.2.1||x.2.2.2==0))) ?_ (by rw[Wc])
 simp only[cond_true,Rv,Oj,Vn]
 cases Gw x.2.1<;>cases inR x.2.2.2 0 200<;>cases x.2.2.1<;>rfl
def chk:Option ByteArray→List Row→Bool
 |_,[]=>true
 |none,r::l=>No r&&chk (some r.1) l
 |some q,r::l=>No r&&(tlt q r.1&&chk (some r.1) l)
def Kj (l:List Row):Bool:=chk none l&&decide ((l.length:Int)≤60)
def Qp (l:List Row):Prop:=∀ r∈l,L9 r.1
def Xl (l:List Row):Nat→Option ByteArray
 |0=>none
 |i+1=>some (l.getD i Lq).1
def Mxa (l:List Row) (i:Nat) (h:i<l.length):chk (Xl l i) (l.drop i)=(No (l.getD i Lq)&&(bif decide (0<i) then tlt (l.getD (i-1) Lq).1 (l.getD i Lq).1 else true)&&chk (Xl l (i+1)) (l.drop (i+1))):=by
 rw[Af (d:=Lq) h]
 cases i with
 |zero=>simp[Xl,chk]
 |succ i=>simp[Xl,chk,Jtb]
def A4 {α:Type} {l:List α} {i:Nat} {d:α} (h1:i<l.length):l.getD i d∈l:=by
 rw[Ve,Vk h1]
 exact Imb h1
def Kfa (l:List Row) (hf:Few l) (hs:Qp l):∀ (n i:Nat),l.length-i=n→i≤l.length→
  Tot (λ k=>Gk k l l (l.length:Int) (i:Int)) (λ r=>r=bif chk (Xl l i) (l.drop i) then .inr l else .inl false):=by
 unfold Few at hf
 intro n
 induction n with
 |zero=>
  intro i hn hi
  refine Tot.succ ?_
  simp only[Gk]
  refine Gnb (by omega) (Gib ?_)
  rw[Wa (by omega)]
  cases Xl l i<;>rfl
 |succ n ih=>
  intro i hn hi
  have hlt:i<l.length:=by omega
  refine Tot.succ ?_
  simp only[Gk]
  refine Gmb (by omega) (Gmb (by omega) (Gmb (by omega) ?_))
  rw[show toNat (i:Int)=i from Vb i,w64 (n:=(i:Int)+1) (by omega) (by omega),Mxa l i hlt]
  have h1:=ih (i+1) (by omega) (by omega)
  have e:(((i+1:Nat)):Int)=(i:Int)+1:=by omega
  rw[e]at h1
  refine Gtb (Sza (l.getD i Lq) (hs _ (A4 hlt))) ?_
  cases hb:No (l.getD i Lq)
  ·exact Glb rfl (Gib (by simp))
  refine Gkb rfl ?_
  rw[Wc]
  refine Gpb (λ h0=>?_) (λ h0=>?_)
  ·rw[w64 (n:=(i:Int)-1) (by omega) (by omega)]
   refine Gmb (by omega) (Gmb (by omega) ?_)
   rw[show toNat ((i:Int)-1)=i-1 by omega,decide_eq_true (show 0<i by omega),cond_true]
   have et:(!(Op.bytesLess (l.getD (i-1) Lq).1.toList (l.getD i Lq).1.toList)) = !(tlt (l.getD (i-1) Lq).1 (l.getD i Lq).1):=rfl
   refine Gob (λ ht=>?_) (λ ht=>?_)
   ·have ht':(!(tlt (l.getD (i-1) Lq).1 (l.getD i Lq).1))=true:=ht
    rw[Vv]at ht'
    exact Gib (by rw[ht'];rfl)
   ·have ht':(!(tlt (l.getD (i-1) Lq).1 (l.getD i Lq).1))=false:=ht
    rw[Wj]at ht'
    rw[ht',Wc]
    exact h1
  ·rw[decide_eq_false (show ¬ 0<i by omega),cond_false,Wc]
   exact h1
def Kga (l:List Row) (hf:Few l) (hs:Qp l):∀ (n i:Nat),l.length-i=n→i≤l.length→
  Tot (λ k=>Gp k l (i:Int)) (λ r=>r=bif chk (Xl l i) (l.drop i) then .inr l else .inl false):=by
 unfold Few at hf
 intro n
 induction n with
 |zero=>
  intro i hn hi
  refine Tot.succ ?_
  simp only[Gp]
  refine Gnb (by omega) (Gib ?_)
  rw[Wa (by omega)]
  cases Xl l i<;>rfl
 |succ n ih=>
  intro i hn hi
  have hlt:i<l.length:=by omega
  refine Tot.succ ?_
  simp only[Gp]
  refine Gmb (by omega) (Gmb (by omega) (Gmb (by omega) ?_))
  rw[show toNat (i:Int)=i from Vb i,w64 (n:=(i:Int)+1) (by omega) (by omega),Mxa l i hlt]
  have h1:=ih (i+1) (by omega) (by omega)
  have e:(((i+1:Nat)):Int)=(i:Int)+1:=by omega
  rw[e]at h1
  refine Gtb (T0a (l.getD i Lq) (hs _ (A4 hlt))) ?_
  cases hb:No (l.getD i Lq)
  ·exact Glb rfl (Gib (by simp))
  refine Gkb rfl ?_
  rw[Wc]
  refine Gpb (λ h0=>?_) (λ h0=>?_)
  ·rw[w64 (n:=(i:Int)-1) (by omega) (by omega)]
   refine Gmb (by omega) (Gmb (by omega) (Gmb (by omega) (Gmb (by omega) ?_)))
   rw[show toNat ((i:Int)-1)=i-1 by omega,decide_eq_true (show 0<i by omega),cond_true]
   refine Gob (λ ht=>?_) (λ ht=>?_)
   ·have ht':(!(tlt (l.getD (i-1) Lq).1 (l.getD i Lq).1))=true:=ht
    rw[Vv]at ht'
    exact Gib (by rw[ht'];rfl)
   ·have ht':(!(tlt (l.getD (i-1) Lq).1 (l.getD i Lq).1))=false:=ht
    rw[Wj]at ht'
    rw[ht',Wc]
    exact h1
  ·rw[decide_eq_false (show ¬ 0<i by omega),cond_false,Wc]
   exact h1
def Mya (l:List Row) (hf:Few l) (hs:Qp l):Tot (λ k=>Ei k l) (λ r=>r=Kj l):=by
 unfold Ei Kj
 refine Gtb (Kfa l hf hs _ 0 rfl (Vs _)) ?_
 rw[Wf]
 show Tot _ (λ r=>r=(chk none l&&_))
 cases hc:chk none l with
 |true=>rw[show chk (Xl l 0) l=true from hc];exact Gib (by rw[Wc])
 |false=>rw[show chk (Xl l 0) l=false from hc];exact Gib rfl
def Mza (l:List Row) (hf:Few l) (hs:Qp l):Tot (λ k=>El k l) (λ r=>r=Kj l):=by
 unfold El Kj
 refine Gtb (Kga l hf hs _ 0 rfl (Vs _)) ?_
 rw[Wf]
 cases hc:chk none l with
 |true=>rw[show chk (Xl l 0) l=true from hc];exact Gib (by rw[Wc])
 |false=>rw[show chk (Xl l 0) l=false from hc];exact Gib rfl
def Kha:∀ (p:Option ByteArray) (l:List Row),chk p l=true↔Kl l∧(∀ r∈l,No r=true)∧(∀ q,p=some q→∀ r∈l,tlt q r.1=true)
 |p,[]=>by
  have:chk p []=true:=by cases p<;>rfl
  simp[this,Kl]
 |none,r::l=>by
  simp only[chk,Va,Kha (some r.1) l,Kl,Wk]
  constructor
  ·rintro⟨h1,h2,h3,h4⟩
   exact⟨⟨λ a ha=>h4 _ rfl a ha,h2⟩,λ a ha=>by rcases Vm.1 ha with rfl|ha;exact h1;exact h3 a ha,λ q hq=>by cases hq⟩
  ·rintro⟨⟨h1,h2⟩,h3,_⟩
   exact⟨h3 r (by simp),h2,λ a ha=>h3 a (Vj _ ha),λ q hq a ha=>by cases hq;exact h1 a ha⟩
 |some q,r::l=>by
  simp only[chk,Va,Kha (some r.1) l,Kl,Wk]
  constructor
  ·rintro⟨h1,h0,h2,h3,h4⟩
   refine⟨⟨λ a ha=>h4 _ rfl a ha,h2⟩,λ a ha=>by rcases Vm.1 ha with rfl|ha;exact h1;exact h3 a ha,λ q' hq a ha=>?_⟩
   cases hq
   rcases Vm.1 ha with rfl|ha
   ·exact h0
   ·exact N6 h0 (h4 _ rfl a ha)
  ·rintro⟨⟨h1,h2⟩,h3,h4⟩
   exact⟨h3 r (by simp),h4 q rfl r (by simp),h2,λ a ha=>h3 a (Vj _ ha),λ q' hq a ha=>by cases hq;exact h1 a ha⟩
def O3 {l:List Row}:Kj l=true↔Kl l∧(∀ r∈l,No r=true)∧l.length≤60:=by
 unfold Kj
 simp only[Va,Kha,decide_eq_true_eq]
 constructor
 ·rintro⟨⟨h1,h2,_⟩,h3⟩
  exact⟨h1,h2,by omega⟩
 ·rintro⟨h1,h2,h3⟩
  exact⟨⟨h1,h2,λ q hq=>by cases hq⟩,by omega⟩
def Tv (a b:List Row):List Row:=b.foldl mrg a
def N0a {a b:List Row} {r:Row} (h:r∈Tv a b):r∈a∨r∈b:=by
 induction b generalizing a with
 |nil=>exact .inl h
 |cons x b ih=>
  rcases ih (a:=mrg a x) h with h|h
  ·rcases Sya h with rfl|h
   ·exact .inr (by simp)
   ·exact .inl h
  ·exact .inr (Vj _ h)
def Kia {a b:List Row} (h:Kl a):Kl (Tv a b):=by
 induction b generalizing a with
 |nil=>exact h
 |cons x b ih=>exact ih (D6a h)
def Eua (b:List Row) (hb:Few b):∀ (n i:Nat) (a:List Row),b.length-i=n→i≤b.length→a.length+(b.length-i)≤1000000000000→
  Tot (λ k=>E7 k a b (b.length:Int) (i:Int)) (λ r=>r=Tv a (b.drop i)):=by
 unfold Few at hb
 intro n
 induction n with
 |zero=>
  intro i a hn hi hf
  refine Tot.succ ?_
  simp only[E7]
  refine Gnb (by omega) (Gib ?_)
  rw[Wa (by omega)]
  rfl
 |succ n ih=>
  intro i a hn hi hf
  have hlt:i<b.length:=by omega
  refine Tot.succ ?_
  simp only[E7]
  refine Gmb (by omega) (Gmb (by omega) (Gmb (by omega) ?_))
  rw[show toNat (i:Int)=i from Vb i,w64 (n:=(i:Int)+1) (by omega) (by omega),Af (d:=Lq) hlt]
  refine Gtb (Sxa a (b.getD i Lq) (by unfold Few;omega)) ?_
  have:=Kca a (b.getD i Lq)
  exact ih (i+1) (mrg a (b.getD i Lq)) (by omega) (by omega) (by omega)
def P7a (a b:List Row) (hf:a.length+b.length≤1000000000000):Tot (λ k=>Cv k a b) (λ r=>r=Tv a b):=by
 unfold Cv
 refine Gjb (Gub (Q:=λ r=>r=a) (Uj a (by unfold Few;omega)) rfl) ?_
 rintro r rfl
 refine Gjb (Eua b (by unfold Few;omega) _ 0 r rfl (Vs _) (by omega)) ?_
 rintro y rfl
 rw[Wf]
 exact Gib rfl
def mx (a b:Row):Row:=bif Th a b then b else a

def Bxa:Nat→Nat→List Int
 |0,n=>[(n:Int)]
 |f+1,n=>if n≤127 then [(n:Int)] else ((n % 128+128:Nat):Int)::Bxa f (n/128)
def Po (n:Nat):List Int:=Bxa 4 n
def Um:Nat→Nat→Nat→List Int→Option (Nat×Nat)
 |0,_,_,_=>none
 |_+1,_,_,[]=>none
 |f+1,k,acc,x::l=>if 128≤x then Um f (k+1) (acc+x.toNat % 128*128 ^ k) l
  else if (x=0∧0<k)∨1000000000<acc+x.toNat % 128*128 ^ k then none else some (acc+x.toNat % 128*128 ^ k,k+1)
def Pr (l:List Int) (p:Nat):Option (Nat×Nat):=match Um 5 0 0 (l.drop p) with
 |some (n,c)=>some (n,p+c)
 |none=>none
def T1a:∀ (f n:Nat),(Bxa f n).length≤f+1∧0<(Bxa f n).length
 |0,n=>by simp[Bxa]
 |f+1,n=>by
  unfold Bxa
  split
  ·simp
  ·have:=T1a f (n/128)
   simp only[Vc]
   omega
def Tj:∀ (f k acc:Nat) (l:List Int) (n c:Nat),Ap l→Um f k acc l=some (n,c)→acc<128 ^ k→k<c∧c≤k+f∧c-k≤l.length∧n≤1000000000
 |0,_,_,_,_,_,_,h,_=>by simp[Um]at h
 |_+1,_,_,[],_,_,_,h,_=>by simp[Um]at h
 |f+1,k,acc,x::l,n,c,hb,h,ha=>by
  have hx:=hb x (by simp)
  unfold Um at h
  split at h
  ·have h1:acc+x.toNat % 128*128 ^ k<128 ^ (k+1):=by
    have h2:x.toNat % 128≤127:=by omega
    have h3:=Wn (128 ^ k) h2
    rw[Zx]
    omega
   have:=Tj f (k+1) _ l n c (λ y hy=>hb y (Vj _ hy)) h h1
   simp only[Vc]
   omega
  ·split at h
   ·cases h
   ·simp only[Vg,Vy]at h
    obtain⟨rfl,rfl⟩:=h
    simp only[Vc]
    omega
def T2a:∀ (f k acc:Nat) (l:List Int) (n c:Nat),Ap l→Um (f+1) k acc l=some (n,c)→acc<128 ^ k→∃ m,n=acc+m*128 ^ k∧l=Bxa f m++l.drop (c-k)∧(m=0→c=k+1∧(0<k→False))∧m<128 ^ (f+1)
 |0,k,acc,[],n,c,hb,h,ha=>by simp[Um]at h
 |_+1,k,acc,[],n,c,hb,h,ha=>by simp[Um]at h
 |0,k,acc,x::l,n,c,hb,h,ha=>by
  have hx:=hb x (by simp)
  unfold Um at h
  split at h
  ·simp[Um]at h
  ·rename_i h128
   split at h
   ·cases h
   ·rename_i hz
    simp only[Vg,Vy]at h
    obtain⟨rfl,rfl⟩:=h
    have hm:x.toNat % 128=x.toNat:=H8b (by omega)
    refine⟨x.toNat,by rw[hm],?_,λ h0=>⟨rfl,λ hk=>hz (.inl ⟨by omega,hk⟩)⟩,by omega⟩
    rw[show k+1-k=1 by omega]
    show x::l=[((x.toNat:Nat):Int)]++l
    rw[show ((x.toNat:Nat):Int)=x by omega]
    rfl
 |f+1,k,acc,x::l,n,c,hb,h,ha=>by
  have hx:=hb x (by simp)
  have hb':Ap l:=λ y hy=>hb y (Vj _ hy)
  unfold Um at h
  split at h
  ·rename_i h128
   have h1:acc+x.toNat % 128*128 ^ k<128 ^ (k+1):=by
    have h2:x.toNat % 128≤127:=by omega
    have h3:=Wn (128 ^ k) h2
    rw[Zx]
    omega
   obtain⟨m,e1,e2,e3,e4⟩:=T2a f (k+1) _ l n c hb' h h1
   have hbd:=Tj (f+1) (k+1) _ l n c hb' h h1
   have hm0:m≠0:=λ h0=>(e3 h0).2 (by omega)
   refine⟨x.toNat % 128+m*128,?_,?_,λ h0=>by omega,?_⟩
   ·rw[e1,Zx,Yu]
    have:m*128*128 ^ k=m*(128 ^ k*128):=by rw[Nat.mul_assoc,Jub 128]
    omega
   ·unfold Bxa
    rw[if_neg (by omega),show (x.toNat % 128+m*128)/128=m by omega,show (x.toNat % 128+m*128) % 128=x.toNat % 128 by omega,show c-k=(c-(k+1))+1 by omega,List.drop_succ_cons,List.cons_append,← e2]
    congr 1
    omega
   ·rw[Zx]
    omega
  ·rename_i h128
   split at h
   ·cases h
   ·rename_i hz
    simp only[Vg,Vy]at h
    obtain⟨rfl,rfl⟩:=h
    have hm:x.toNat % 128=x.toNat:=H8b (by omega)
    have hp:128≤128 ^ (f+1+1):=by
     have:=Nat.pow_le_pow_right (show 0<128 by decide) (show 1≤f+1+1 by omega)
     simpa using this
    refine⟨x.toNat,by rw[hm],?_,λ h0=>⟨rfl,λ hk=>hz (.inl ⟨by omega,hk⟩)⟩,by omega⟩
    rw[show k+1-k=1 by omega]
    unfold Bxa
    rw[if_pos (by omega)]
    show x::l=[((x.toNat:Nat):Int)]++l
    rw[show ((x.toNat:Nat):Int)=x by omega]
    rfl
def T3a:∀ (f k acc m:Nat) (rest:List Int),m<128 ^ (f+1)→(0<k→0<m)→acc+m*128 ^ k≤1000000000→Um (f+1) k acc (Bxa f m++rest)=some (acc+m*128 ^ k,k+(Bxa f m).length)
 |0,k,acc,m,rest,hm,hk,hn=>by
  show Um 1 k acc ((m:Int)::rest)=_
  unfold Um
  have h1:m<128:=by simpa using hm
  rw[if_neg (by omega),if_neg (by
   rw[show (m:Int).toNat % 128=m by rw[Vb];exact H8b h1]
   omega)]
  rw[show (m:Int).toNat % 128=m by rw[Vb];exact H8b h1]
  rfl
 |f+1,k,acc,m,rest,hm,hk,hn=>by
  unfold Bxa
  by_cases h:m≤127
  ·rw[if_pos h]
   show Um (f+2) k acc ((m:Int)::rest)=_
   unfold Um
   rw[if_neg (by omega),if_neg (by
    rw[show (m:Int).toNat % 128=m by rw[Vb];exact H8b (by omega)]
    omega)]
   rw[show (m:Int).toNat % 128=m by rw[Vb];exact H8b (by omega)]
   rfl
  ·rw[if_neg h]
   show Um (f+2) k acc (((m % 128+128:Nat):Int)::(Bxa f (m/128)++rest))=_
   unfold Um
   have e1:(((m % 128+128:Nat):Int)).toNat % 128=m % 128:=by rw[Vb];omega
   rw[if_pos (by omega),e1]
   have hmod:m=m % 128+m/128*128:=by omega
   have hm2:m/128<128 ^ (f+1):=by rw[Zx]at hm;omega
   have e2:acc+m % 128*128 ^ k+m/128*128 ^ (k+1)=acc+m*128 ^ k:=by
    have h2:m*128 ^ k=(m % 128+m/128*128)*128 ^ k:=by rw[← hmod]
    rw[h2,Yu,Zx]
    have:m/128*128*128 ^ k=m/128*(128 ^ k*128):=by rw[Nat.mul_assoc,Jub 128]
    omega
   rw[T3a f (k+1) (acc+m % 128*128 ^ k) (m/128) rest hm2 (λ _=>by omega) (by rw[e2];exact hn),e2,Vc]
   simp only[Vg,Vy,true_and]
   omega
def N1a (pre:List Int) (n:Nat) (rest:List Int) (hn:n≤1000000000):Pr (pre++(Po n++rest)) pre.length=some (n,pre.length+(Po n).length):=by
 unfold Pr
 rw[Zg]
 have:=T3a 4 0 0 n rest (by omega) (by omega) (by omega)
 unfold Po
 rw[this]
 simp
def Tk {l:List Int} {p n q:Nat} (hb:Ap l) (h:Pr l p=some (n,q)):l.drop p=Po n++l.drop q∧n≤1000000000∧p<q∧q≤l.length:=by
 unfold Pr at h
 split at h
 ·rename_i m c hd
  simp only[Vg,Vy]at h
  obtain⟨rfl,rfl⟩:=h
  have hb':Ap (l.drop p):=λ y hy=>hb y (Zj hy)
  have hbd:=Tj 5 0 0 _ _ _ hb' hd (by decide)
  obtain⟨m',e1,e2,_,_⟩:=T2a 4 0 0 _ _ _ hb' hd (by decide)
  have e3:m=m':=by rw[e1];simp
  subst e3
  rw[Wd]at hbd
  refine⟨?_,hbd.2.2.2,by omega,by omega⟩
  rw[J2b,Ym]at e2
  exact e2
 ·cases h
def Gfb (i:Nat) (hi:i<5):(2:Int) ^ (min (toNat (wrap .i64 (7*(i:Int)))) (IntKind.bits .i64))=((128 ^ i:Nat):Int):=by
 have:i=0∨i=1∨i=2∨i=3∨i=4:=by omega
 rcases this with rfl|rfl|rfl|rfl|rfl<;>decide
def Fib (i:Nat) (hi:i<5):(2:Int) ^ (min (toNat (wrap .u64 (wrap .i64 (7*(i:Int))))) (IntKind.bits .i64))=((128 ^ i:Nat):Int):=by
 have:i=0∨i=1∨i=2∨i=3∨i=4:=by omega
 rcases this with rfl|rfl|rfl|rfl|rfl<;>decide
def sh7 (i:Nat) (hi:i<5):¬ (wrap .i64 (7*(i:Int))<0)∧¬ (wrap .u64 (wrap .i64 (7*(i:Int)))<0):=by
 have:i=0∨i=1∨i=2∨i=3∨i=4:=by omega
 rcases this with rfl|rfl|rfl|rfl|rfl<;>decide
def Q5 (i:Nat) (hi:i≤5):128 ^ i≤34359738368:=by
 have:=Nat.pow_le_pow_right (show 0<128 by decide) hi
 simpa using this
def Rw (n:Nat) (h:n<18446744073709551616):(ofInt (IntKind.bits .i64) (n:Int)).toNat=n:=by
 rw[I5b]
 show ((n:Int) % ((2 ^ 64:Nat):Int)).toNat=n
 rw[Int.emod_eq_of_lt (by omega) (by omega)]
 exact Vb n
def Zca (n:Nat) (h:n<9223372036854775808):wrap .i64 ((ofInt (IntKind.bits .i64) (n:Int) &&& ofInt (IntKind.bits .i64) 127).toNat)=((n % 128:Nat):Int):=by
 rw[Hwb,Rw n (by omega),show (ofInt (IntKind.bits .i64) 127).toNat=127 from by decide,show (127:Nat)=2 ^ 7-1 from rfl,Ikb]
 exact w64 (by omega) (by omega)
def N2a (a m i:Nat) (ha:a<128 ^ i) (hm:m<128) (hi:i<5):wrap .i64 ((ofInt (IntKind.bits .i64) (a:Int) ||| ofInt (IntKind.bits .i64) ((m*128 ^ i:Nat):Int)).toNat)=((a+m*128 ^ i:Nat):Int):=by
 have hp:=Q5 i (by omega)
 have hmul:m*128 ^ i≤127*34359738368:=J8b (by omega) hp
 rw[BitVec.toNat_or,Rw a (by omega),Rw _ (by omega),Nat.or_comm]
 have e:(128:Nat) ^ i=2 ^ (7*i):=by rw[Nat.pow_mul]
 have h2:=Nat.two_pow_add_eq_or_of_lt (i:=7*i) (b:=a) (by rw[← e];exact ha) m
 rw[← e,Jub]at h2
 rw[← h2,Zu]
 exact w64 (by omega) (by omega)
def Kja (l:List Int) (p:Int):Int×Int×Bool:=if p<0 then (0,0,false) else match Pr l p.toNat with
 |some (n,q)=>((n:Int),(q:Int),true)
 |none=>(0,0,false)
def F4b (p:Nat):Option (Nat×Nat)→Int×Int×Bool
 |some (n,c)=>((n:Int),((p+c:Nat):Int),true)
 |none=>(0,0,false)
def Axa (r:Sum (Int×Int×Bool) Unit):Int×Int×Bool:=Sum.elim (λ y=>y) (λ _=>(0,0,false)) r
def Un {l:List Int} {p:Nat} (h:p<l.length):l.drop p=l.getD p 0::l.drop (p+1):=Af h
def P8a (l:List Int) (hb:Ap l) (hl:l.length≤1000000000000) (p:Nat) (hp:p≤1000000000000):∀ (f i acc:Nat),f+i=5→acc<128 ^ i→
  Tot (λ k=>Gu k l (p:Int) (acc:Int) (i:Int)) (λ r=>Axa r=F4b p (Um f i acc (l.drop (p+i)))):=by
 intro f
 induction f with
 |zero=>
  intro i acc hi ha
  refine Tot.succ ?_
  simp only[Gu]
  exact Gnb (by omega) (Gib rfl)
 |succ f ih=>
  intro i acc hi ha
  have hi5:i<5:=by omega
  refine Tot.succ ?_
  simp only[Gu]
  refine Gmb (by omega) (Gmb (by omega) ?_)
  rw[w64 (n:=(l.length:Int)-(i:Int)) (by omega) (by omega),w64 (n:=(p:Int)+(i:Int)) (by omega) (by omega),show toNat ((p:Int)+(i:Int))=p+i by omega]
  refine Gpb (λ h=>?_) (λ h=>?_)
  ·have hlt:p+i<l.length:=by omega
   refine Gmb (by omega) (Gmb (by omega) ?_)
   have hx:=hb (l.getD (p+i) 0) (A4 hlt)
   rw[Un hlt,Gfb i hi5]
   have he:Um (f+1) i acc (l.getD (p+i) 0::l.drop (p+i+1))=if 128≤l.getD (p+i) 0 then Um f (i+1) (acc+(l.getD (p+i) 0).toNat % 128*128 ^ i) (l.drop (p+i+1)) else if (l.getD (p+i) 0=0∧0<i)∨1000000000<acc+(l.getD (p+i) 0).toNat % 128*128 ^ i then none else some (acc+(l.getD (p+i) 0).toNat % 128*128 ^ i,i+1):=rfl
   rw[he]
   generalize l.getD (p+i) 0=x at hx ⊢
   obtain⟨v,rfl⟩:∃ v:Nat,x=(v:Int):=⟨x.toNat,by omega⟩
   rw[Vb]
   have hp1:=Q5 i (by omega)
   have hmul:v % 128*128 ^ i≤127*34359738368:=J8b (by omega) hp1
   rw[w64 (n:=(v:Int)) (by omega) (by omega)]
   have e1:Int.tmod (v:Int) 128*((128 ^ i:Nat):Int)=((v % 128*128 ^ i:Nat):Int):=by
    rw[Zz (by omega)]
    push_cast
    rfl
   rw[e1,w64 (n:=((v % 128*128 ^ i:Nat):Int)) (by omega) (by omega),← Int.natCast_add,w64 (n:=((acc+v % 128*128 ^ i:Nat):Int)) (by omega) (by omega),w64 (n:=(i:Int)+1) (by omega) (by omega),w64 (n:=(p:Int)+(i:Int)+1) (by omega) (by omega)]
   refine Gnb (sh7 i hi5).1 ?_
   refine Gpb (λ h128=>?_) (λ h128=>?_)
   ·rw[if_pos (by omega)]
    have h1:acc+v % 128*128 ^ i<128 ^ (i+1):=by
     have h2:v % 128≤127:=by omega
     have h3:=Wn (128 ^ i) h2
     rw[Zx]
     omega
    have:=ih (i+1) (acc+v % 128*128 ^ i) (by omega) h1
    rw[show p+(i+1)=p+i+1 by omega]at this
    exact this
   ·rw[if_neg (by omega)]
    have big:Tot (λ _:Nat=>cond (decide (((acc+v % 128*128 ^ i:Nat):Int) > 1000000000)) (some (Sum.inl ((0:Int),(0:Int),false))) (some (Sum.inl (((acc+v % 128*128 ^ i:Nat):Int),(p:Int)+(i:Int)+1,true))):Nat→Option (Sum (Int×Int×Bool) Unit))
      (λ r=>Axa r=if 1000000000<acc+v % 128*128 ^ i then (0,0,false) else (((acc+v % 128*128 ^ i:Nat):Int),((p+(i+1):Nat):Int),true)):=by
     refine Gpb (λ hbig=>?_) (λ hbig=>?_)
     ·rw[if_pos (by omega)];exact Gib rfl
     ·rw[if_neg (by omega)]
      refine Gib ?_
      show (_,_,_)=_
      rw[show (p:Int)+(i:Int)+1=((p+(i+1):Nat):Int) by omega]
    have goal:∀ c:Prop,[Decidable c]→(if c∨1000000000<acc+v % 128*128 ^ i then none else some (acc+v % 128*128 ^ i,i+1))=if c then none else if 1000000000<acc+v % 128*128 ^ i then (none:Option (Nat×Nat)) else some (acc+v % 128*128 ^ i,i+1):=by
     intro c _
     by_cases h1:c<;>by_cases h2:1000000000<acc+v % 128*128 ^ i<;>simp[h1,h2]
    rw[goal]
    have fin:(F4b p (if 1000000000<acc+v % 128*128 ^ i then (none:Option (Nat×Nat)) else some (acc+v % 128*128 ^ i,i+1)))=if 1000000000<acc+v % 128*128 ^ i then (0,0,false) else (((acc+v % 128*128 ^ i:Nat):Int),((p+(i+1):Nat):Int),true):=by
     split<;>rfl
    refine Gob (λ h0=>?_) (λ h0=>?_)
    ·have hv:v=0:=by
      have:=beq_iff_eq.1 h0
      omega
     refine Gpb (λ hi0=>?_) (λ hi0=>?_)
     ·rw[if_pos ⟨by omega,by omega⟩];exact Gib rfl
     ·rw[if_neg (by omega),fin];exact big
    ·have hv:v≠0:=by
      intro e
      subst e
      simp at h0
     rw[if_neg (by omega),fin];exact big
  ·refine Gib ?_
   rw[Wa (by omega)]
   rfl
def T4a (l:List Int) (hb:Ap l) (hl:l.length≤1000000000000) (p:Int) (hp:p≤1000000000000):Tot (λ k=>Ic k l p) (λ r=>r=Kja l p):=by
 unfold Ic Kja
 by_cases h0:p<0
 ·rw[if_pos h0]
  refine Gjb (Q:=λ r=>r = .inr ()) ?_ ?_
  ·refine Tot.succ ?_
   simp only[Gu]
   exact Gmb (by omega) (Gnb (by omega) (Gib rfl))
  ·rintro r rfl
   exact Gib rfl
 ·rw[if_neg h0]
  obtain⟨n,rfl⟩:∃ n:Nat,p=(n:Int):=⟨p.toNat,by omega⟩
  rw[Vb]
  refine Gjb (P8a l hb hl n (by omega) 5 0 0 rfl (by decide)) ?_
  intro r hr
  unfold Pr
  rw[Zn]at hr
  have hr':Axa r=(match (match Um 5 0 0 (l.drop n) with|some (m,c)=>some (m,n+c)|none=>none) with|some (m,q)=>((m:Int),(q:Int),true)|none=>((0:Int),(0:Int),false)):=by
   rw[hr]
   cases Um 5 0 0 (l.drop n) with
   |none=>rfl
   |some mc=>rfl
  rw[← hr']
  cases r with
  |inl y=>exact Gib rfl
  |inr z=>exact Gib rfl

def P9a (l:List Int) (hb:Ap l) (hl:l.length≤1000000000000) (p:Nat) (hp:p<l.length):∀ (f i acc:Nat),f+i=5→acc<128 ^ i→
  Tot (λ k=>Fc k l (p:Int) (acc:Int) (i:Int)) (λ r=>Axa r=F4b p (Um f i acc (l.drop (p+i)))):=by
 intro f
 induction f with
 |zero=>
  intro i acc hi ha
  refine Tot.succ ?_
  simp only[Fc]
  exact Gnb (by omega) (Gib rfl)
 |succ f ih=>
  intro i acc hi ha
  have hi5:i<5:=by omega
  refine Tot.succ ?_
  simp only[Fc]
  refine Gmb (by omega) (Gmb (by omega) (Gmb (by omega) ?_))
  rw[w64 (n:=(p:Int)+(i:Int)) (by omega) (by omega),show toNat ((p:Int)+(i:Int))=p+i by omega]
  refine Gpb (λ h=>?_) (λ h=>?_)
  ·have hlt:p+i<l.length:=by omega
   refine Gmb (by omega) (Gmb (by omega) ?_)
   have hx:=hb (l.getD (p+i) 0) (A4 hlt)
   rw[Un hlt,Fib i hi5]
   have he:Um (f+1) i acc (l.getD (p+i) 0::l.drop (p+i+1))=if 128≤l.getD (p+i) 0 then Um f (i+1) (acc+(l.getD (p+i) 0).toNat % 128*128 ^ i) (l.drop (p+i+1)) else if (l.getD (p+i) 0=0∧0<i)∨1000000000<acc+(l.getD (p+i) 0).toNat % 128*128 ^ i then none else some (acc+(l.getD (p+i) 0).toNat % 128*128 ^ i,i+1):=rfl
   rw[he]
   generalize l.getD (p+i) 0=x at hx ⊢
   obtain⟨v,rfl⟩:∃ v:Nat,x=(v:Int):=⟨x.toNat,by omega⟩
   rw[Vb]
   have hp1:=Q5 i (by omega)
   have hmul:v % 128*128 ^ i≤127*34359738368:=J8b (by omega) hp1
   rw[w64 (n:=(v:Int)) (by omega) (by omega),Zca v (by omega)]
   have e1:((v % 128:Nat):Int)*((128 ^ i:Nat):Int)=((v % 128*128 ^ i:Nat):Int):=by push_cast;rfl
   rw[e1,w64 (n:=((v % 128*128 ^ i:Nat):Int)) (by omega) (by omega),N2a acc (v % 128) i ha (by omega) hi5,w64 (n:=(i:Int)+1) (by omega) (by omega),w64 (n:=(p:Int)+(i:Int)+1) (by omega) (by omega)]
   refine Gnb (sh7 i hi5).2 ?_
   refine Gpb (λ h128=>?_) (λ h128=>?_)
   ·rw[if_pos (by omega)]
    have h1:acc+v % 128*128 ^ i<128 ^ (i+1):=by
     have h2:v % 128≤127:=by omega
     have h3:=Wn (128 ^ i) h2
     rw[Zx]
     omega
    have:=ih (i+1) (acc+v % 128*128 ^ i) (by omega) h1
    rw[show p+(i+1)=p+i+1 by omega]at this
    exact this
   ·rw[if_neg (by omega)]
    have big:Tot (λ _:Nat=>cond (decide (((acc+v % 128*128 ^ i:Nat):Int) > 1000000000)) (some (Sum.inl ((0:Int),(0:Int),false))) (some (Sum.inl (((acc+v % 128*128 ^ i:Nat):Int),(p:Int)+(i:Int)+1,true))):Nat→Option (Sum (Int×Int×Bool) Unit))
      (λ r=>Axa r=if 1000000000<acc+v % 128*128 ^ i then (0,0,false) else (((acc+v % 128*128 ^ i:Nat):Int),((p+(i+1):Nat):Int),true)):=by
     refine Gpb (λ hbig=>?_) (λ hbig=>?_)
     ·rw[if_pos (by omega)];exact Gib rfl
     ·rw[if_neg (by omega)]
      refine Gib ?_
      show (_,_,_)=_
      rw[show (p:Int)+(i:Int)+1=((p+(i+1):Nat):Int) by omega]
    have goal:∀ c:Prop,[Decidable c]→(if c∨1000000000<acc+v % 128*128 ^ i then none else some (acc+v % 128*128 ^ i,i+1))=if c then none else if 1000000000<acc+v % 128*128 ^ i then (none:Option (Nat×Nat)) else some (acc+v % 128*128 ^ i,i+1):=by
     intro c _
     by_cases h1:c<;>by_cases h2:1000000000<acc+v % 128*128 ^ i<;>simp[h1,h2]
    rw[goal]
    have fin:(F4b p (if 1000000000<acc+v % 128*128 ^ i then (none:Option (Nat×Nat)) else some (acc+v % 128*128 ^ i,i+1)))=if 1000000000<acc+v % 128*128 ^ i then (0,0,false) else (((acc+v % 128*128 ^ i:Nat):Int),((p+(i+1):Nat):Int),true):=by
     split<;>rfl
    refine Gpb (λ hi0=>?_) (λ hi0=>?_)
    ·refine Gob (λ h0=>?_) (λ h0=>?_)
     ·have hv:v=0:=by
       have:=beq_iff_eq.1 h0
       omega
      rw[if_pos ⟨by omega,by omega⟩];exact Gib rfl
     ·have hv:v≠0:=by
       intro e
       subst e
       simp at h0
      rw[if_neg (by omega),fin];exact big
    ·rw[if_neg (by omega),fin];exact big
  ·refine Gib ?_
   rw[Wa (by omega)]
   rfl
def W8 (l:List Int) (hb:Ap l) (hl:l.length≤1000000000000) (p:Int):Tot (λ k=>Ds k l p) (λ r=>r=Kja l p):=by
 unfold Ds Kja
 by_cases h0:p<0
 ·rw[if_pos h0]
  refine Gjb (Q:=λ r=>r = .inr ()) ?_ ?_
  ·refine Tot.succ ?_
   simp only[Fc]
   exact Gmb (by omega) (Gnb (by omega) (Gib rfl))
  ·rintro r rfl
   exact Gib rfl
 ·rw[if_neg h0]
  by_cases h1:p<(l.length:Int)
  ·obtain⟨n,rfl⟩:∃ n:Nat,p=(n:Int):=⟨p.toNat,by omega⟩
   rw[Vb]
   refine Gjb (P9a l hb hl n (by omega) 5 0 0 rfl (by decide)) ?_
   intro r hr
   unfold Pr
   rw[Zn]at hr
   have hr':Axa r=(match (match Um 5 0 0 (l.drop n) with|some (m,c)=>some (m,n+c)|none=>none) with|some (m,q)=>((m:Int),(q:Int),true)|none=>((0:Int),(0:Int),false)):=by
    rw[hr]
    cases Um 5 0 0 (l.drop n) with
    |none=>rfl
    |some mc=>rfl
   refine Tot.mono (Q:=λ y=>y=Axa r) ?_ (λ y hy=>hy.trans hr')
   cases r with
   |inl y=>exact Gib rfl
   |inr z=>exact Gib rfl
  ·have e:Pr l p.toNat=none:=by
    unfold Pr
    rw[Wa (by omega)]
    rfl
   rw[e]
   refine Gjb (Q:=λ r=>r = .inr ()) ?_ ?_
   ·refine Tot.succ ?_
    simp only[Fc]
    exact Gmb (by omega) (Gmb (by omega) (Gnb h1 (Gib rfl)))
   ·rintro r rfl
    exact Gib rfl
def Br (n:Int):Nat:=(max 0 (min n 1000000000)).toNat
def P5 (n:Int):Br n≤1000000000:=by unfold Br;omega
def Aya {n:Int} (h0:0≤n) (h1:n≤1000000000):(Br n:Int)=n:=by unfold Br;omega
def Hfa (n:Nat) (h:n≤255):wrap .u8 (n:Int)=(n:Int):=by
 rw[I6b]
 omega
def Paa:∀ (f n:Nat) (out:List Int),n<128 ^ (f+1)→f≤4→out.length+f≤1000000000010→
  Tot (λ k=>Hs k out (n:Int)) (λ r=>∃ m:Nat,r.2=(m:Int)∧m≤127∧r.1++[(m:Int)]=out++Bxa f n∧r.1.length≤out.length+f):=by
 intro f
 induction f with
 |zero=>
  intro n out hn hf hl
  refine Tot.succ ?_
  simp only[Hs]
  have:n<128:=by simpa using hn
  exact Gnb (by omega) (Gib ⟨n,rfl,by omega,rfl,by simp⟩)
 |succ f ih=>
  intro n out hn hf hl
  have hp:=Q5 (f+1+1-1) (by omega)
  refine Tot.succ ?_
  simp only[Hs]
  refine Gpb (λ h=>?_) (λ h=>?_)
  ·have hn2:n/128<128 ^ (f+1):=by rw[Zx]at hn;omega
   have hn3:n<4398046511104:=by
    have:=Q5 (f+1) (by omega)
    rw[Zx]at hn
    omega
   have e1:Int.tmod (n:Int) 128+128=((n % 128+128:Nat):Int):=by
    rw[Zz (by omega)]
    omega
   have e2:Int.tdiv (n:Int) 128=((n/128:Nat):Int):=by
    rw[H6b (by omega)]
    omega
   rw[e1,e2,w64 (n:=((n % 128+128:Nat):Int)) (by omega) (by omega),w64 (n:=((n/128:Nat):Int)) (by omega) (by omega),Hfa _ (by omega)]
   refine Gqb (by simp only[Vc,Vh];omega) ?_
   refine(ih (n/128) (out++[((n % 128+128:Nat):Int)]) hn2 (by omega) (by simp only[Vd,Vc,Vh];omega)).mono ?_
   rintro r ⟨m,h1,h2,h3,h4⟩
   refine⟨m,h1,h2,?_,by simp only[Vd,Vc,Vh]at h4;omega⟩
   rw[h3,Vp]
   congr 1
   conv => { rhs;unfold Bxa }
   rw[if_neg (by omega)]
   rfl
  ·refine Gib ⟨n,rfl,by omega,?_,by show out.length≤out.length+(f+1);omega⟩
   unfold Bxa
   rw[if_pos (by omega)]
def Aza (out:List Int) (n:Int) (hl:out.length≤1000000000000):Tot (λ k=>Fn k out n) (λ r=>r=out++Po (Br n)):=by
 unfold Fn
 have e:(if (0:Int)<(if (1000000000:Int)<n then 1000000000 else n) then (if (1000000000:Int)<n then 1000000000 else n) else 0)=((Br n:Nat):Int):=by
  unfold Br
  split<;>split<;>omega
 simp only
 rw[e]
 have hc:=P5 n
 refine Gjb (Paa 4 (Br n) out (by omega) (by omega) (by omega)) ?_
 rintro r ⟨m,h1,h2,h3,h4⟩
 rw[h1,Hfa m (by omega)]
 refine Gqb (by simp only[Vc,Vh];omega) (Gib h3)
def Pba:∀ (f n:Nat) (out:List Int),n<128 ^ (f+1)→f≤4→out.length+f≤1000000000010→
  Tot (λ k=>Dc k (n:Int) out) (λ r=>∃ m:Nat,r.1=(m:Int)∧m≤127∧r.2++[(m:Int)]=out++Bxa f n∧r.2.length≤out.length+f):=by
 intro f
 induction f with
 |zero=>
  intro n out hn hf hl
  refine Tot.succ ?_
  simp only[Dc]
  have:n<128:=by simpa using hn
  exact Gnb (by omega) (Gib ⟨n,rfl,by omega,rfl,by simp⟩)
 |succ f ih=>
  intro n out hn hf hl
  refine Tot.succ ?_
  simp only[Dc]
  refine Gpb (λ h=>?_) (λ h=>?_)
  ·have hn2:n/128<128 ^ (f+1):=by rw[Zx]at hn;omega
   have hn3:n<4398046511104:=by
    have:=Q5 (f+1) (by omega)
    rw[Zx]at hn
    omega
   have e1:wrap .i64 ((ofInt (IntKind.bits .i64) ((n % 128:Nat):Int) ||| ofInt (IntKind.bits .i64) 128).toNat)=((n % 128+128:Nat):Int):=by
    have:=N2a (n % 128) 1 1 (by omega) (by omega) (by omega)
    exact this
   have e2:Int.fdiv (n:Int) (2 ^ (min (toNat 7) (IntKind.bits .i64)))=((n/128:Nat):Int):=by
    have:(2:Int) ^ (min (toNat 7) (IntKind.bits .i64))=128:=by decide
    rw[this,Zza _ (by omega)]
    omega
   rw[Zca n (by omega),e1,e2,Hfa _ (by omega)]
   refine Gqb (by simp only[Vc,Vh];omega) ?_
   refine(ih (n/128) (out++[((n % 128+128:Nat):Int)]) hn2 (by omega) (by simp only[Vd,Vc,Vh];omega)).mono ?_
   rintro r ⟨m,h1,h2,h3,h4⟩
   refine⟨m,h1,h2,?_,by simp only[Vd,Vc,Vh]at h4;omega⟩
   rw[h3,Vp]
   congr 1
   conv => { rhs;unfold Bxa }
   rw[if_neg (by omega)]
   rfl
  ·refine Gib ⟨n,rfl,by omega,?_,by show out.length≤out.length+(f+1);omega⟩
   unfold Bxa
   rw[if_pos (by omega)]
def W9 (out:List Int) (n:Int) (hl:out.length≤1000000000000):Tot (λ k=>Dt k out n) (λ r=>r=out++Po (Br n)):=by
 have hc:=P5 n
 have fin:Tot (λ k=>(Dc k ((Br n:Nat):Int) (([]:List Int)++out)).bind λ r1=>cond (Nat.ble ((length r1.2+length [wrap .u8 r1.1])*1) 140737488355328) (some (r1.2++[wrap .u8 r1.1])) none) (λ r=>r=out++Po (Br n)):=by
  rw[Vx]
  refine Gjb (Pba 4 (Br n) out (by omega) (by omega) (by omega)) ?_
  rintro r ⟨m,h1,h2,h3,h4⟩
  rw[h1,Hfa m (by omega)]
  exact Gqb (by simp only[Vc,Vh];omega) (Gib h3)
 unfold Dt
 refine Gqb (by simp only[Vh];omega) ?_
 refine Gpb (λ h1=>?_) (λ h1=>?_)
 ·refine Gnb (by omega) ?_
  have e:((Br n:Nat):Int)=1000000000:=by unfold Br;omega
  rw[e]at fin
  exact fin
 ·refine Gpb (λ h2=>?_) (λ h2=>?_)
  ·have e:((Br n:Nat):Int)=0:=by unfold Br;omega
   rw[e]at fin
   exact fin
  ·have e:((Br n:Nat):Int)=n:=by unfold Br;omega
   rw[e]at fin
   exact fin
def Mv (n:Nat):(Po n).length≤5∧0<(Po n).length:=T1a 4 n
def D7a:∀ (f n:Nat),n<128 ^ (f+1)→Ap (Bxa f n)
 |0,n,hn=>by
  intro x hx
  simp only[Bxa,Vu]at hx
  have:n<128:=by simpa using hn
  omega
 |f+1,n,hn=>by
  unfold Bxa
  split
  ·intro x hx
   simp only[Vu]at hx
   omega
  ·intro x hx
   rcases Vm.1 hx with rfl|hx
   ·omega
   ·exact D7a f (n/128) (by rw[Zx]at hn;omega) x hx
def Pca (n:Nat) (hn:n≤1000000000):Ap (Po n):=D7a 4 n (by omega)
def D8a (s:ByteArray):Ap (bytesOf s):=by
 intro x hx
 unfold bytesOf at hx
 obtain⟨b,_,rfl⟩:=Yx.1 hx
 have:=b.toNat_lt
 omega
def Qq (s:ByteArray):(bytesOf s).length=s.size:=by
 unfold bytesOf
 rw[Wh]
 exact Yv
def Uo (s:ByteArray):M9 (bytesOf s)=s:=by
 unfold M9 bytesOf
 rw[Hsb]
 have:(λ n:Int=>UInt8.ofNat n.toNat) ∘ (λ b:UInt8=>(b.toNat:Int))=id:=by
  funext b
  show UInt8.ofNat ((b.toNat:Int)).toNat=b
  rw[Vb]
  exact UInt8.ofNat_toNat
 rw[this,List.map_id]
def Oo {l:List Int} (h:Ap l):bytesOf (M9 l)=l:=by
 unfold M9 bytesOf
 show List.map _ (List.map _ l)=l
 rw[Hsb]
 have:∀ x∈l,((λ b:UInt8=>(b.toNat:Int)) ∘ (λ n:Int=>UInt8.ofNat n.toNat)) x=x:=by
  intro x hx
  have hb:=h x hx
  show ((UInt8.ofNat x.toNat).toNat:Int)=x
  rw[UInt8.toNat_ofNat']
  omega
 exact(H3b this).trans (List.map_id' l)
def O4 (l:List Int):(M9 l).size=l.length:=by
 unfold M9
 show (List.map _ l).toArray.size=l.length
 simp
def txt (s:ByteArray):List Int:=Po (Br (s.size:Int))++bytesOf s
def X3a (out:List Int) (s:ByteArray) (hl:out.length≤1000000000000) (hs:s.size≤1000000000000):Tot (λ k=>Jz k out s) (λ r=>r=out++txt s):=by
 unfold Jz txt
 refine Gtb (Aza out _ hl) ?_
 have:=(Mv (Br (s.size:Int))).1
 refine Gqb (by simp only[Vd];omega) (Gib ?_)
 rw[Vp]
def N3a (out:List Int) (s:ByteArray) (hl:out.length≤1000000000000) (hs:s.size≤1000000000000):Tot (λ k=>Jq k out s) (λ r=>r=out++txt s):=by
 unfold Jq txt
 refine Gtb (W9 out _ hl) ?_
 have:=(Mv (Br (s.size:Int))).1
 refine Gqb (by simp only[Vd];omega) (Gib ?_)
 rw[Vp]
def N4a (l:List Int) (p:Nat):Option (ByteArray×Nat):=match Pr l p with
 |some (n,q)=>if q+n≤l.length then some (M9 ((l.drop q).take n),q+n) else none
 |none=>none
def Cyb (l:List Int) (p:Int):ByteArray×Int×Bool:=if p<0 then ((⟨#[]⟩:ByteArray),0,false) else match N4a l p.toNat with
 |some (s,q)=>(s,(q:Int),true)
 |none=>((⟨#[]⟩:ByteArray),0,false)
def D9a (l:List Int) (hb:Ap l) (p:Int):Kja l p=(0,0,false)∨∃ n q,0≤p∧Pr l p.toNat=some (n,q)∧Kja l p=((n:Int),(q:Int),true)∧n≤1000000000∧q≤l.length:=by
 unfold Kja
 by_cases h:p<0
 ·rw[if_pos h];exact .inl rfl
 ·rw[if_neg h]
  cases hg:Pr l p.toNat with
  |none=>exact .inl rfl
  |some nq=>
   obtain⟨n,q⟩:=nq
   have:=Tk hb hg
   exact .inr ⟨n,q,by omega,rfl,rfl,this.2.1,this.2.2.2⟩
def N5a (l:List Int) (hb:Ap l) (hl:l.length≤1000000000000) (p:Int) (hp:p≤1000000000000):Tot (λ k=>Jy k l p) (λ r=>r=Cyb l p):=by
 unfold Jy
 refine Gtb (T4a l hb hl p hp) ?_
 unfold Cyb N4a
 rcases D9a l hb p with h|⟨n,q,h0,hg,h,hn,hq⟩
 ·rw[h]
  refine Glb rfl (Gib ?_)
  unfold Kja at h
  split
  ·rfl
  ·rename_i h0
   rw[if_neg h0]at h
   cases hg:Pr l p.toNat with
   |none=>rfl
   |some nq=>rw[hg]at h;simp at h
 ·rw[h]
  refine Gkb rfl ?_
  rw[if_neg (by omega),hg]
  simp only
  rw[w64 (n:=(l.length:Int)-(q:Int)) (by omega) (by omega),w64 (n:=(q:Int)+(n:Int)) (by omega) (by omega)]
  refine Gpb (λ hgt=>?_) (λ hgt=>?_)
  ·rw[if_neg (by omega)]
   exact Gib rfl
  ·rw[if_pos (by omega)]
   refine Gmb (by omega) (Gmb (by omega) (Gmb (by omega) (Gib ?_)))
   rw[show toNat ((q:Int)+(n:Int))=q+n by omega,Vb,Hpb,show q+n-q=n by omega]
   simp only[Vy,true_and,and_true]
   push_cast
   rfl
def Eva (l:List Int) (hb:Ap l) (hl:l.length≤1000000000000) (p:Int):Tot (λ k=>Jp k l p) (λ r=>r=Cyb l p):=by
 unfold Jp
 refine Gtb (W8 l hb hl p) ?_
 unfold Cyb N4a
 rcases D9a l hb p with h|⟨n,q,h0,hg,h,hn,hq⟩
 ·rw[h]
  refine Glb rfl (Gib ?_)
  unfold Kja at h
  split
  ·rfl
  ·rename_i h0
   rw[if_neg h0]at h
   cases hg:Pr l p.toNat with
   |none=>rfl
   |some nq=>rw[hg]at h;simp at h
 ·rw[h]
  refine Gkb rfl ?_
  rw[if_neg (by omega),hg]
  simp only
  rw[w64 (n:=(l.length:Int)-(q:Int)) (by omega) (by omega),w64 (n:=(q:Int)+(n:Int)) (by omega) (by omega)]
  refine Gpb (λ hgt=>?_) (λ hgt=>?_)
  ·rw[if_neg (by omega)]
   exact Gib rfl
  ·rw[if_pos (by omega)]
   refine Gmb (by omega) (Gmb (by omega) (Gmb (by omega) (Gib ?_)))
   rw[show toNat ((q:Int)+(n:Int))=q+n by omega,Vb,Hpb,show q+n-q=n by omega]
   simp only[Vy,true_and,and_true]
   push_cast
   rfl
def Kka {l:List Int} {p q:Nat} {s:ByteArray} (hb:Ap l) (h:N4a l p=some (s,q)):l.drop p=txt s++l.drop q∧s.size≤1000000000∧p<q∧q≤l.length:=by
 unfold N4a at h
 split at h
 ·rename_i n q0 hg
  obtain⟨h1,h2,h3,h4⟩:=Tk hb hg
  split at h
  ·rename_i hle
   simp only[Vg,Vy]at h
   obtain⟨rfl,rfl⟩:=h
   have hlen:((l.drop q0).take n).length=n:=by rw[Vq,Wd];omega
   have hbb:Ap ((l.drop q0).take n):=λ x hx=>hb x (Zj (Hgb hx))
   refine⟨?_,by rw[O4,hlen];exact h2,by omega,by omega⟩
   unfold txt
   rw[O4,hlen,Oo hbb,h1,show Br (n:Int)=n by unfold Br;omega,Vp]
   congr 1
   rw[← Ym,Wo]
  ·cases h
 ·cases h
def X4a (pre:List Int) (s:ByteArray) (rest:List Int) (hs:s.size≤1000000000):N4a (pre++(txt s++rest)) pre.length=some (s,pre.length+(txt s).length):=by
 unfold N4a txt
 have hc:Br (s.size:Int)=s.size:=by unfold Br;omega
 rw[hc,Vp,N1a pre s.size _ hs]
 simp only
 rw[if_pos (by simp only[Vd,Qq];omega)]
 have e:(pre++(Po s.size++(bytesOf s++rest))).drop (pre.length+(Po s.size).length)=bytesOf s++rest:=by
  rw[← Vp,← Vd,Zg]
 rw[e,Ixb (Qq s),Uo]
 simp only[Vd,Qq,Vg,Vy,true_and]
 omega

def C3a (b:Bool):Int:=bif b then 1 else 0
def Bjb (b:Bool):O9 b=some (C3a b):=by cases b<;>rfl
def N6a (b:Bool):Lj b=some (C3a b):=by cases b<;>rfl
def Qaa (s:Stp):List Int:=Po (Br s.1)++(Po (Br s.2.1)++Po (Br s.2.2))
def Ewa (s:Stp):(Qaa s).length≤15:=by
 unfold Qaa
 have h1:=(Mv (Br s.1)).1
 have h2:=(Mv (Br s.2.1)).1
 have h3:=(Mv (Br s.2.2)).1
 simp only[Vd]
 omega
def Pda (out:List Int) (s:Stp) (b:Bool) (hl:out.length≤999999999900):Tot (λ k=>J0 k out s b) (λ r=>r=out++(Qaa s++Po (Br (C3a b)))):=by
 have h1:=(Mv (Br s.1)).1
 have h2:=(Mv (Br s.2.1)).1
 have h3:=(Mv (Br s.2.2)).1
 unfold J0 Qaa
 refine Gtb (Aza out s.1 (by omega)) ?_
 refine Gtb (Aza _ s.2.1 (by simp only[Vd];omega)) ?_
 refine Gtb (Aza _ s.2.2 (by simp only[Vd];omega)) ?_
 refine Gtb (Gub (Q:=λ y=>y=C3a b) (Bjb b) rfl) ?_
 refine Gtb (Aza _ (C3a b) (by simp only[Vd];omega)) ?_
 exact Gib (by simp only[Vp])
def Daa (out:List Int) (s:Stp) (hl:out.length≤999999999900):Tot (λ k=>Jr k out s) (λ r=>r=out++Qaa s):=by
 have h1:=(Mv (Br s.1)).1
 have h2:=(Mv (Br s.2.1)).1
 unfold Jr Qaa
 refine Gtb (W9 out s.1 (by omega)) ?_
 refine Gtb (W9 _ s.2.1 (by simp only[Vd];omega)) ?_
 refine Gtb (W9 _ s.2.2 (by simp only[Vd];omega)) ?_
 exact Gib (by simp only[Vp])
def B0a {s:ByteArray} (h:B1 s=true):1≤s.size∧s.size≤20:=by
 unfold B1 at h
 rw[Va,Eb]at h
 omega
def Dba {r:Row} (h:No r=true):B1 r.1=true:=by
 unfold No at h
 rw[Va]at h
 exact h.1
def T5a (s:ByteArray):(txt s).length≤5+s.size:=by
 have h1:=(Mv (Br (s.size:Int))).1
 unfold txt
 simp only[Vd,Qq]
 omega

def Y7 (l:List Int) (p:Nat):Kja l (p:Int)=match Pr l p with
 |some (n,q)=>((n:Int),(q:Int),true)
 |none=>(0,0,false):=by
 unfold Kja
 rw[if_neg (by omega),Vb]
 all_goals cases Pr l p<;>rfl
def N7a (l:List Int) (p:Nat):Cyb l (p:Int)=match N4a l p with
 |some (s,q)=>(s,(q:Int),true)
 |none=>((⟨#[]⟩:ByteArray),0,false):=by
 unfold Cyb
 rw[if_neg (by omega),Vb]
 all_goals cases N4a l p<;>rfl
def C4a (l:List Int) (hb:Ap l) (hl:l.length≤1000000000000) (p:Nat) (hp:p≤l.length) (bad:Bool):
  Tot (λ k=>Da k (l,(p:Int),bad)) (λ r=>(bad=false∧∃ n q:Nat,Pr l p=some (n,q)∧q≤l.length∧r=((n:Int),l,(q:Int),false))∨((bad=true∨Pr l p=none)∧r=(0,l,(p:Int),true))):=by
 unfold Da
 refine Gtb (T4a l hb hl (p:Int) (by omega)) ?_
 refine Gob (λ h=>Gib (.inr ⟨.inl h,rfl⟩)) (λ h=>?_)
 rw[Y7]
 cases hg:Pr l p with
 |none=>exact Glb rfl (Gib (.inr ⟨.inr rfl,rfl⟩))
 |some nq=>
  obtain⟨n,q⟩:=nq
  simp only at h
  subst h
  exact Gkb rfl (Gib (.inl ⟨rfl,n,q,rfl,(Tk hb hg).2.2.2,rfl⟩))
def Fjb (l:List Int) (hb:Ap l) (hl:l.length≤1000000000000) (p:Nat) (hp:p≤l.length):
  Tot (λ k=>Cz k (l,(p:Int),false)) (λ r=>(∃ (s:ByteArray) (q:Nat),N4a l p=some (s,q)∧q≤l.length∧r=(s,l,(q:Int),false))∨(N4a l p=none∧r=((⟨#[]⟩:ByteArray),l,(p:Int),true))):=by
 unfold Cz
 refine Gtb (N5a l hb hl (p:Int) (by omega)) ?_
 refine Gkb rfl ?_
 rw[N7a]
 cases hg:N4a l p with
 |none=>exact Glb rfl (Gib (.inr ⟨rfl,rfl⟩))
 |some nq=>
  obtain⟨n,q⟩:=nq
  exact Gkb rfl (Gib (.inl ⟨n,q,rfl,(Kka hb hg).2.2.2,rfl⟩))
def R9 (l:List Int) (p:Nat):Option ((Stp×Bool)×Nat):=
 (Pr l p).bind λ b=>(Pr l b.2).bind λ c=>(Pr l c.2).bind λ d=>(Pr l d.2).bind λ e=>bif decide (1<e.1) then none else
  some ((((b.1:Int),(c.1:Int),(d.1:Int)),(e.1:Int)==1),e.2)
def Fkb (l:List Int) (hb:Ap l) (hl:l.length≤1000000000000) (p:Nat) (hp:p≤l.length) (bad:Bool):
  Tot (λ k=>E4 k (l,(p:Int),bad)) (λ r=>(bad=false∧∃ (x:Stp×Bool) (q:Nat),R9 l p=some (x,q)∧q≤l.length∧r=(x.1,x.2,l,(q:Int),false))∨((bad=true∨R9 l p=none)∧∃ s b,∃ q:Nat,q≤l.length∧r=(s,b,l,(q:Int),true))):=by
 unfold E4
 have nx:∀ {o:Option (Nat×Nat)} {f:Nat×Nat→Option ((Stp×Bool)×Nat)},o=none→o.bind f=none:=by
  intro o f h;rw[h];rfl
 refine Gjb (C4a l hb hl p hp bad) ?_
 rintro r (⟨h0,n1,p1,h1,l1,rfl⟩|⟨h1,rfl⟩)
 ·simp only
  refine Gjb (C4a l hb hl p1 l1 false) ?_
  rintro r (⟨_,n2,p2,h2,l2,rfl⟩|⟨h2,rfl⟩)
  ·simp only
   refine Gjb (C4a l hb hl p2 l2 false) ?_
   rintro r (⟨_,n3,p3,h3,l3,rfl⟩|⟨h3,rfl⟩)
   ·simp only
    refine Gjb (C4a l hb hl p3 l3 false) ?_
    rintro r (⟨_,n4,p4,h4,l4,rfl⟩|⟨h4,rfl⟩)
    ·simp only
     refine Gkb rfl (Gib ?_)
     have e:R9 l p=bif decide (1<n4) then none else some ((((n1:Int),(n2:Int),(n3:Int)),(n4:Int)==1),p4):=by
      unfold R9
      simp only[h1,h2,h3,h4,Vn]
     cases hd:decide (1<n4) with
     |true=>
      rw[hd,cond_true]at e
      refine .inr ⟨.inr e,((n1:Int),(n2:Int),(n3:Int)),((n4:Int)==1),p4,l4,?_⟩
      have:decide ((n4:Int) > 1)=true:=decide_eq_true (by have:=of_decide_eq_true hd;omega)
      rw[this]
     |false=>
      rw[hd,cond_false]at e
      refine .inl ⟨h0,_,p4,e,l4,?_⟩
      have:decide ((n4:Int) > 1)=false:=decide_eq_false (by have:=of_decide_eq_false hd;omega)
      rw[this]
    ·refine Glb rfl (Gib (.inr ⟨.inr ?_,_,_,p3,l3,rfl⟩))
     have h4':=h4.resolve_left (by simp)
     unfold R9
     simp only[h1,h2,h3,h4',Vn,H9b]
   ·simp only
    refine Gjb (C4a l hb hl p2 l2 true) ?_
    rintro r (⟨hh,_⟩|⟨_,rfl⟩)
    ·cases hh
    ·refine Glb rfl (Gib (.inr ⟨.inr ?_,_,_,p2,l2,rfl⟩))
     have h3':=h3.resolve_left (by simp)
     unfold R9
     simp only[h1,h2,h3',Vn,H9b]
  ·simp only
   refine Gjb (C4a l hb hl p1 l1 true) ?_
   rintro r (⟨hh,_⟩|⟨_,rfl⟩)
   ·cases hh
   ·refine Gjb (C4a l hb hl p1 l1 true) ?_
    rintro r (⟨hh,_⟩|⟨_,rfl⟩)
    ·cases hh
    ·refine Glb rfl (Gib (.inr ⟨.inr ?_,_,_,p1,l1,rfl⟩))
     have h2':=h2.resolve_left (by simp)
     unfold R9
     simp only[h1,h2',Vn,H9b]
 ·simp only
  refine Gjb (C4a l hb hl p hp true) ?_
  rintro r (⟨hh,_⟩|⟨_,rfl⟩)
  ·cases hh
  ·refine Gjb (C4a l hb hl p hp true) ?_
   rintro r (⟨hh,_⟩|⟨_,rfl⟩)
   ·cases hh
   ·refine Gjb (C4a l hb hl p hp true) ?_
    rintro r (⟨hh,_⟩|⟨_,rfl⟩)
    ·cases hh
    ·refine Glb rfl (Gib (.inr ⟨?_,_,_,p,hp,rfl⟩))
     rcases h1 with h1|h1
     ·exact .inl h1
     ·refine .inr ?_
      unfold R9
      rw[h1]
      rfl
def Bkb (l:List Int) (hb:Ap l) (hl:l.length≤1000000000000) (p:Int):
  Tot (λ k=>G3 k l p) (λ r=>(∃ n1 p1 n2 p2 n3 p3,0≤p∧Pr l p.toNat=some (n1,p1)∧Pr l p1=some (n2,p2)∧Pr l p2=some (n3,p3)∧r=(((n1:Int),(n2:Int),(n3:Int)),(p3:Int),true))∨(((Pr l p.toNat).bind λ a=>(Pr l a.2).bind λ b=>Pr l b.2)=none∨p<0)∧r.2.2=false):=by
 unfold G3
 refine Gtb (W8 l hb hl p) ?_
 refine Gtb (W8 l hb hl _) ?_
 refine Gtb (W8 l hb hl _) ?_
 by_cases hp:p<0
 ·have:(Kja l p).2.2=false:=by unfold Kja;rw[if_pos hp]
  exact Gkb this (Gib (.inr ⟨.inr hp,rfl⟩))
 ·have e1:Kja l p=match Pr l p.toNat with|some (n,q)=>((n:Int),(q:Int),true)|none=>(0,0,false):=by
   unfold Kja;rw[if_neg hp];all_goals cases Pr l p.toNat<;>rfl
  cases h1:Pr l p.toNat with
  |none=>
   rw[h1]at e1
   simp only[e1]
   exact Gkb rfl (Gib (.inr ⟨.inl rfl,rfl⟩))
  |some a=>
   obtain⟨n1,p1⟩:=a
   rw[h1]at e1
   simp only[e1,Y7,Vn]
   refine Glb rfl ?_
   cases h2:Pr l p1 with
   |none=>exact Gkb rfl (Gib (.inr ⟨.inl rfl,rfl⟩))
   |some b=>
    obtain⟨n2,p2⟩:=b
    refine Glb rfl ?_
    simp only[Y7,Vn]
    cases h3:Pr l p2 with
    |none=>exact Gib (.inr ⟨.inl rfl,rfl⟩)
    |some c=>
     obtain⟨n3,p3⟩:=c
     exact Gib (.inl ⟨n1,p1,n2,p2,n3,p3,by omega,rfl,h2,h3,rfl⟩)
def T6a {l:List Int} {p:Nat} (h:((Pr l p).bind λ a=>(Pr l a.2).bind λ b=>Pr l b.2)=none):R9 l p=none:=by
 unfold R9
 cases h1:Pr l p with
 |none=>rfl
 |some a=>
  rw[h1]at h
  simp only[Vn]at h ⊢
  cases h2:Pr l a.2 with
  |none=>rfl
  |some b=>
   rw[h2]at h
   simp only[Vn]at h ⊢
   rw[h]
   rfl
def Hga (a b:List Int) (hf:a.length≤1000000000000) (hl:a.length=b.length):∀ (n i:Nat),a.length-i=n→i≤a.length→
  Tot (λ k=>Dp k a b (i:Int)) (λ r=>(r = .inr ()∧a.drop i=b.drop i)∨(r = .inl false∧a.drop i≠b.drop i)):=by
 intro n
 induction n with
 |zero=>
  intro i hd hi
  refine Tot.succ ?_
  simp only[Dp]
  refine Gnb (by omega) (Gib (.inl ⟨rfl,?_⟩))
  rw[Wa (by omega),Wa (by omega)]
 |succ n ih=>
  intro i hd hi
  have h1:i<a.length:=by omega
  refine Tot.succ ?_
  simp only[Dp]
  refine Gmb (by omega) (Gmb (by omega) (Gmb (by omega) (Gmb (by omega) (Gmb (by omega) ?_))))
  rw[show toNat (i:Int)=i from Vb i,w64 (n:=(i:Int)+1) (by omega) (by omega),Un h1,Un (l:=b) (p:=i) (by omega)]
  refine Gob (λ h=>Gib (.inr ⟨rfl,?_⟩)) (λ h=>?_)
  ·intro e
   injection e with e _
   rw[e]at h
   simp at h
  ·have e:a.getD i 0=b.getD i 0:=by simpa using h
   refine(ih (i+1) (by omega) (by omega)).mono ?_
   rintro r (⟨rfl,h⟩|⟨rfl,h⟩)
   ·exact .inl ⟨rfl,by rw[e,h]⟩
   ·refine .inr ⟨rfl,λ q=>h ?_⟩
    injection q
def Exa (a b:List Int) (hf:a.length≤1000000000000):Tot (λ k=>Gl k a b) (λ r=>r=decide (a=b)):=by
 unfold Gl
 refine Gob (λ h=>Gib ?_) (λ h=>?_)
 ·have:a≠b:=λ e=>by subst e;simp at h
  rw[decide_eq_false this]
 ·have hl:a.length=b.length:=by
   have:(a.length:Int)=b.length:=by simpa using h
   omega
  refine Gjb (Hga a b hf hl _ 0 rfl (Vs _)) ?_
  rintro r (⟨rfl,h⟩|⟨rfl,h⟩)
  ·rw[Wf,Wf]at h
   rw[decide_eq_true h]
   exact Gib rfl
  ·rw[Wf,Wf]at h
   rw[decide_eq_false h]
   exact Gib rfl

def Mm:∀ s∈Mu,L9 s∧B1 s=true:=by
 intro s hs
 simp only[Mu,Vm,Zp,or_false]at hs
 rcases hs with rfl|rfl|rfl|rfl|rfl|rfl<;>exact⟨by unfold L9;decide,by decide⟩
def X5a {x:Row} (h:Bib x):No x=true:=by
 obtain⟨h1,⟨t0,t1,s0,s1,n0,n1⟩,h3,h4,h5⟩:=h
 unfold No Gw
 rw[(Mm x.1 h1).2,Eb.2 ⟨t0,t1⟩,Eb.2 ⟨s0,s1⟩,Eb.2 ⟨n0,n1⟩,Eb.2 ⟨h3,by omega⟩]
 cases hd:x.2.2.1 with
 |false=>rfl
 |true=>rw[h5 hd];rfl
def Hha (c:Cur) (hc:Db c):Tot (λ k=>Kw k c) (λ r=>Db r.2∧r.1.length≤6∧Qp r.1):=by
 unfold Kw
 refine Gjb (Aua c hc) (λ r hr=>?_)
 obtain⟨k1,hr1,hl⟩:=hr
 have hsh:Qp r.1:=λ q hq=>(Mm q.1 (hr1.2 q hq).1).1
 obtain⟨x,c',e,_,_,_,k2⟩:=Az r.2 k1 8 (by decide)
 refine Gtb (Gub (Q:=λ r=>r=(x,c')) e rfl) ?_
 refine Gob (λ _=>?_) (λ _=>?_)
 ·refine Gjb (D2a c' k2) (λ z hz=>?_)
  refine Gqb (by simp only[Vc,Vh];omega) (Gib ⟨hz.2,?_,?_⟩)
  ·show (r.1++[z.1]).length≤6
   simp only[Vd,Vc,Vh]
   omega
  ·intro q hq
   rcases Vo.1 hq with hq|hq
   ·exact hsh q hq
   ·simp only[Vu]at hq
    subst hq
    exact(Mm _ hz.1.1).1
 ·refine Gob (λ _=>?_) (λ _=>Gib ⟨k2,by show r.1.length≤6;omega,hsh⟩)
  refine Gpb (λ h=>?_) (λ h=>Gib ⟨k2,by show r.1.length≤6;omega,hsh⟩)
  obtain⟨v,c3,e3,_,k3⟩:=Ls c' k2 [(-1),201,200] (by decide) (by decide)
  refine Gtb (Gub (Q:=λ r=>r=(v,c3)) e3 rfl) ?_
  refine Gmb (by omega) (Gib ⟨k3,?_,?_⟩)
  ·show (List.set r.1 _ _).length≤6
   rw[Vz]
   omega
  ·intro q hq
   rcases Xs hq with hq|rfl
   ·exact hsh q hq
   ·have hpos:toNat 0<r.1.length:=by show 0<_;omega
    have h1:L9 (r.1.getD (toNat 0) Lq).1:=hsh _ (A4 (d:=Lq) hpos)
    exact h1

abbrev Nmd:=ByteArray×List Int
abbrev Dsk:=List Nmd×List Nmd
def D6:Nmd:=((⟨#[]⟩:ByteArray),[])
def C5a (l:List Nmd):Prop:=l.length≤1000000000000∧∀ x∈l,x.2.length≤1000000000000
def X6a (d:Dsk):Prop:=C5a d.1∧C5a d.2
def Np (l:List Int) (h:l.length≤1000000000000):Au l=some l:=by
 unfold Au
 rw[show Nat.ble ((length ([]:List Int)+length l)*1) 140737488355328=true from Zi (by simp only[Vh];omega)]
 rfl
def Xm (l:List Nmd) (hf:C5a l):∀ (n i:Nat) (acc:List Nmd),l.length-i=n→i≤l.length→acc.length≤i→
  Tot (λ k=>Dy k acc l (l.length:Int) (i:Int)) (λ r=>r=acc++l.drop i):=by
 obtain⟨h1,h2⟩:=hf
 intro n
 induction n with
 |zero=>
  intro i acc hd hi ha
  refine Tot.succ ?_
  simp only[Dy]
  refine Gnb (by omega) (Gib ?_)
  rw[Wa (by omega),Wp]
 |succ n ih=>
  intro i acc hd hi ha
  have hlt:i<l.length:=by omega
  refine Tot.succ ?_
  simp only[Dy]
  refine Gmb (by omega) (Gmb (by omega) (Gmb (by omega) ?_))
  rw[show toNat (i:Int)=i from Vb i,w64 (n:=(i:Int)+1) (by omega) (by omega),Af (d:=D6) hlt]
  have e0:l.getD i ((⟨#[]⟩:ByteArray),([]:List Int))=l.getD i D6:=rfl
  rw[e0]
  have hb:=h2 _ (A4 (d:=D6) hlt)
  refine Gtb (Gub (Q:=λ r=>r=(l.getD i D6).2) (Np _ hb) rfl) ?_
  refine Gqb (by simp only[Vc,Vh];omega) ?_
  refine(ih (i+1) (acc++[l.getD i D6]) (by omega) (by omega) (by simp only[Vd,Vc,Vh];omega)).mono ?_
  rintro r rfl
  rw[Vp]
  rfl
def Uq (l:List Nmd) (hf:C5a l):Tot (λ k=>Ce k l) (λ r=>r=l):=by
 unfold Ce
 refine Gjb (Xm l hf _ 0 [] rfl (Vs _) (Vs _)) ?_
 intro r hr
 rw[Wf,Vx]at hr
 exact Gib hr
def K7 (d:Dsk) (hf:X6a d):Tot (λ k=>A6 k d) (λ r=>r=d):=by
 unfold A6
 refine Gtb (Uq d.1 hf.1) ?_
 refine Gtb (Uq d.2 hf.2) ?_
 exact Gib rfl
def fnd (l:List Nmd) (s:ByteArray):Option Nat:=l.findIdx? (λ x=>teq x.1 s)
def Hia (l:List Nmd) (s:ByteArray):Int:=match fnd l s with
 |some i=>(i:Int)
 |none => -1
def T7a (l:List Nmd) (s:ByteArray) (hf:l.length≤1000000000000):∀ (n i:Nat),l.length-i=n→i≤l.length→
  Tot (λ k=>Lv k s l (l.length:Int) (i:Int)) (λ r=>r=match fnd (l.drop i) s with|some j => .inl ((i+j:Nat):Int)|none => .inr ()):=by
 intro n
 induction n with
 |zero=>
  intro i hd hi
  refine Tot.succ ?_
  simp only[Lv]
  refine Gnb (by omega) (Gib ?_)
  rw[Wa (by omega)]
  rfl
 |succ n ih=>
  intro i hd hi
  have hlt:i<l.length:=by omega
  refine Tot.succ ?_
  simp only[Lv]
  refine Gmb (by omega) (Gmb (by omega) (Gmb (by omega) ?_))
  rw[show toNat (i:Int)=i from Vb i,w64 (n:=(i:Int)+1) (by omega) (by omega),Af (d:=D6) hlt]
  have e0:l.getD i ((⟨#[]⟩:ByteArray),([]:List Int))=l.getD i D6:=rfl
  rw[e0]
  have e1:fnd (l.getD i D6::l.drop (i+1)) s=if teq (l.getD i D6).1 s then some 0 else (fnd (l.drop (i+1)) s).map (· + 1):=by
   unfold fnd
   rw[I7b]
  rw[e1]
  refine Gob (λ h=>?_) (λ h=>?_)
  ·have h':teq (l.getD i D6).1 s=true:=h
   rw[if_pos h']
   exact Gib rfl
  ·have h':¬ (teq (l.getD i D6).1 s=true):=by
    have:teq (l.getD i D6).1 s=false:=h
    rw[this];simp
   rw[if_neg h']
   refine(ih (i+1) (by omega) (by omega)).mono ?_
   rintro r rfl
   cases fnd (l.drop (i+1)) s with
   |none=>rfl
   |some j=>
    show Sum.inl _=Sum.inl _
    rw[show i+1+j=i+(j+1) by omega]
def N8a (l:List Nmd) (s:ByteArray) (hf:l.length≤1000000000000):Tot (λ k=>Lm k l s) (λ r=>r=Hia l s):=by
 unfold Lm Hia
 refine Gtb (T7a l s hf _ 0 rfl (Vs _)) ?_
 rw[Wf]
 cases fnd l s with
 |none=>exact Gib rfl
 |some j=>
  refine Gib ?_
  rw[Wl]
def P6 {l:List Nmd} {s:ByteArray} {i:Nat} (h:fnd l s=some i):i<l.length∧(l.getD i D6).1=s:=by
 unfold fnd at h
 rw[I8b]at h
 obtain⟨h1,h2,_⟩:=h
 refine⟨h1,?_⟩
 rw[Ve,Vk h1]
 exact Jl.1 h2
def del (l:List Nmd) (s:ByteArray):List Nmd:=match fnd l s with
 |some i=>l.take i++l.drop (i+1)
 |none=>l
def Ur (l:List Nmd) (s:ByteArray) (hf:l.length≤1000000000000):Tot (λ k=>Ht k l s) (λ r=>r=del l s):=by
 unfold Ht del
 refine Gtb (N8a l s hf) ?_
 unfold Hia
 cases h:fnd l s with
 |none=>exact Gmb (by decide) (Gib rfl)
 |some i=>
  have hl:=(P6 h).1
  dsimp only
  refine Gnb (by omega) (Gmb (by omega) (Gmb (by omega) ?_))
  rw[w64 (n:=(i:Int)+1) (by omega) (by omega),show toNat (i:Int)=i from Vb i,show toNat ((i:Int)+1)=i+1 by omega]
  refine Gqb (by simp only[Vh,Vq];omega) ?_
  refine Gmb (by omega) (Gmb (by omega) (Gqb (by simp only[Vd,Vh,Vq,Wd];omega) (Gib rfl)))

end Go.Proofs.YtmhhjceoinoekaaGreat.Vf
