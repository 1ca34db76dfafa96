import Derived.Test.YtiiekghlhfbmmaaGreatMak
import Derived.Laws.StructEq
set_option linter.all false
namespace Go.Proofs.YtiiekghlhfbmmaaGreat.Vf
open Go
open List (length getD)
open Int (toNat)
open Go.IntKind (wrap)
open BitVec (ofInt)
def Vb:=@Int.toNat_natCast
def Vy:=@Bool.true_and
def Wh:=@Bool.not_eq_false'
def Wi:=@List.drop_length
def Wk:=@List.drop_of_length_le
def Wo:=@List.mem_or_eq_of_mem_set
def Ze:=@Bool.false_and
def Zl:=@List.mem_iff_getElem
def Zq:=@List.not_mem_nil
def Zz:=@List.filter_cons
def Zza:=@Int.fdiv_eq_ediv_of_nonneg
def Ftb:=@List.pairwise_iff_getElem
def G7b:=@Sum.elim_inr
def G8b:=@Nat.pow_succ
def Gfb:=@List.find?_cons
def Gvb:=@List.getElem_of_mem
def H6b:=@IntKind.wrap_u8
def H7b:=@List.findIdx?_eq_some_iff_getElem
def Hhb:=@List.Pairwise.sublist
def Hib:=@Nat.and_two_pow_sub_one_eq_mod
def I3b:=@List.findIdx?_cons
def I6b:=@List.mem_of_find?_eq_some
def I7b:=@List.findIdx?_eq_none_iff
def I9b:=@List.take_sublist
def Ieb:=@List.getElem_set
def Ifb:=@List.takeWhile_sublist
def Iib:=@Bool.and_eq_false_iff
def Ipb:=@Nat.mul_le_mul
def Iqb:=@Nat.mul_comm

abbrev Cur:=List Int×Int×Int
def Bn (c:Cur):Prop:=(c.1.length:Int)≤1048576∧0≤c.2.1∧c.2.1≤1048576
def Noa (b:List Int) (hb:(b.length:Int)≤1048576):∀ (n:Nat) (h i:Int),0≤i→i+n=4001→Tot (λ k=>Hq k b h i) (λ r=>r.1=b):=by
 intro n
 induction n with
 |zero=>
  intro h i h0 hi
  refine Tot.succ ?_
  simp only[Hq]
  refine Fkb (λ h1=>?_) (λ h1=>Fdb rfl)
  exact Fib (by omega) (Fdb rfl)
 |succ n ih=>
  intro h i h0 hi
  refine Tot.succ ?_
  simp only[Hq]
  refine Fkb (λ h1=>?_) (λ h1=>Fdb rfl)
  refine Fkb (λ h2=>?_) (λ h2=>Fdb rfl)
  refine Fhb h0 (Fhb h1 ?_)
  rw[w64 (n:=i+1) (by omega) (by omega)]
  exact ih _ _ (by omega) (by omega)
def Raa (b:List Int) (hb:(b.length:Int)≤1048576):Tot (λ k=>Jz k b) Bn:=by
 unfold Jz
 refine Feb (Noa b hb 4001 _ 0 (by omega) (by omega)) (λ r hr=>?_)
 exact Fdb ⟨by rw[hr];exact hb,Fvb 0,by show (0:Int)≤1048576;omega⟩
def Qo (c:Cur) (hc:Bn c):∃ x c',Fj c=some (x,c')∧0≤x∧x≤255∧Bn c':=by
 obtain⟨h1,h2,h3⟩:=hc
 unfold Fj
 by_cases hlt:c.2.1<(c.1.length:Int)
 ·simp only[hlt,h2,decide_true,cond_true]
  obtain⟨a1,a2⟩:=Lea (wrap .i64 ((wrap .i64 ((ofInt (IntKind.bits .i64) (wrap .i64 ((ofInt (IntKind.bits .i64) (Int.fdiv (wrap .i64 ((wrap .i64 (c.2.2*6364136223846793005))+1442695040888963407)) (2 ^ (min (toNat 33) (IntKind.bits .i64)))) ^^^ ofInt (IntKind.bits .i64) (Int.fdiv (wrap .i64 ((wrap .i64 (c.2.2*6364136223846793005))+1442695040888963407)) (2 ^ (min (toNat 47) (IntKind.bits .i64))))).toNat)) &&& ofInt (IntKind.bits .i64) 255).toNat))+(wrap .i64 (getD c.1 (toNat c.2.1) (0:Int))))) 255 (by omega) (by omega)
  refine⟨_,_,rfl,a1,a2,h1,?_,?_⟩
  ·show 0≤wrap .i64 (c.2.1+1)
   rw[w64 (by omega) (by omega)]
   omega
  ·show wrap .i64 (c.2.1+1)≤1048576
   rw[w64 (by omega) (by omega)]
   omega
 ·simp only[hlt,decide_false,cond_false]
  obtain⟨a1,a2⟩:=Lea (wrap .i64 ((ofInt (IntKind.bits .i64) (Int.fdiv (wrap .i64 ((wrap .i64 (c.2.2*6364136223846793005))+1442695040888963407)) (2 ^ (min (toNat 33) (IntKind.bits .i64)))) ^^^ ofInt (IntKind.bits .i64) (Int.fdiv (wrap .i64 ((wrap .i64 (c.2.2*6364136223846793005))+1442695040888963407)) (2 ^ (min (toNat 47) (IntKind.bits .i64))))).toNat)) 255 (by omega) (by omega)
  exact⟨_,_,rfl,a1,a2,h1,h2,h3⟩
def Ac (c:Cur) (hc:Bn c) (n:Int) (hn:n≤1000000000):∃ x c',A3 c n=some (x,c')∧0≤x∧(0<n→x<n)∧(n≤0→x=0)∧Bn c':=by
 unfold A3
 by_cases h0:n≤0
 ·exact⟨0,c,by simp only[h0,decide_true,cond_true],by omega,by omega,λ _=>rfl,hc⟩
 ·by_cases h1:n≤256
  ·obtain⟨x,c',e,b0,b1,k⟩:=Qo c hc
   have hz:¬ n=0:=by omega
   have:=R9a b0 (show 0<n by omega)
   exact⟨Int.tmod x n,c',by simp only[h0,h1,hz,decide_true,decide_false,cond_true,cond_false,e,Vo],this.1,λ _=>this.2,λ h=>by omega,k⟩
  ·obtain⟨x,c1,e1,b0,b1,k1⟩:=Qo c hc
   obtain⟨y,c2,e2,b2,b3,k2⟩:=Qo c1 k1
   obtain⟨z,c3,e3,b4,b5,k3⟩:=Qo c2 k2
   have hz:¬ n=0:=by omega
   have:=R9a (show 0≤x*65536+y*256+z by omega) (show 0<n by omega)
   refine⟨Int.tmod (x*65536+y*256+z) n,c3,?_,this.1,λ _=>this.2,λ h=>by omega,k3⟩
   simp only[h0,h1,hz,decide_false,cond_false,e1,e2,e3,Vo]
   rw[w64 (n:=x*65536) (by omega) (by omega),w64 (n:=y*256) (by omega) (by omega),w64 (n:=x*65536+y*256) (by omega) (by omega),w64 (n:=x*65536+y*256+z) (by omega) (by omega)]
def Lfa {α:Type} {l:List α} {i:Int} {d:α} (h0:0≤i) (h1:i<(l.length:Int)):l.getD i.toNat d∈l:=by
 have h:i.toNat<l.length:=by omega
 rw[Vd,Vk h]
 exact Hjb h
def Ja (c:Cur) (hc:Bn c) (l:List Int) (hl:0<l.length) (hm:l.length≤2000000):∃ x c',A9 c l=some (x,c')∧x∈l∧Bn c':=by
 obtain⟨i,c',e,b0,b1,_,k⟩:=Ac c hc (l.length:Int) (by omega)
 have b1:=b1 (by omega)
 refine⟨l.getD i.toNat 0,c',?_,Lfa b0 b1,k⟩
 unfold A9
 simp only[e,Vo,b0,b1,decide_true,cond_true]
def Lga (c:Cur) (hc:Bn c) (l:List ByteArray) (hl:0<l.length) (hm:l.length≤2000000):∃ x c',J8 c l=some (x,c')∧x∈l∧Bn c':=by
 obtain⟨i,c',e,b0,b1,_,k⟩:=Ac c hc (l.length:Int) (by omega)
 have b1:=b1 (by omega)
 refine⟨l.getD i.toNat (⟨#[]⟩:ByteArray),c',?_,Lfa b0 b1,k⟩
 unfold J8
 simp only[e,Vo,b0,b1,decide_true,cond_true]
def Aw (l:List Int):Prop:=∀ x∈l,0≤x∧x≤255
def Fva (m:Int) (hm:m≤1000):∀ (n:Nat) (l:List Int) (i:Int) (c:Cur),Bn c→0≤i→i≤max m 0→(max m 0)-i=n→(l.length:Int)=i→Aw l→
  Tot (λ k=>Fp k m l i c.1 c.2.1 c.2.2) (λ r=>Bn r.2∧Aw r.1∧(r.1.length:Int)=max m 0):=by
 intro n
 induction n with
 |zero=>
  intro l i c hc h0 h1 hn hl hb
  refine Tot.succ ?_
  simp only[Fp]
  refine Fib (by omega) (Fdb ⟨hc,hb,by show (l.length:Int)=_;omega⟩)
 |succ n ih=>
  intro l i c hc h0 h1 hn hl hb
  refine Tot.succ ?_
  simp only[Fp]
  refine Fhb (by omega) ?_
  obtain⟨x,c',e,b0,b1,k⟩:=Qo c hc
  refine Fpb (Fqb (Q:=λ r=>r=(x,c')) e rfl) ?_
  refine Flb (by simp only[Vc,Vj];omega) ?_
  rw[w64 (n:=i+1) (by omega) (by omega)]
  refine ih _ _ c' k (by omega) (by omega) (by omega) (by simp only[Ve,Vc,Vj];omega) ?_
  intro y hy
  rcases Vn.1 hy with hy|hy
  ·exact hb y hy
  ·simp only[Vt]at hy
   subst hy
   exact Fua _
def Bwa (c:Cur) (hc:Bn c):Tot (λ k=>Dp k c) (λ r=>Bn r.2∧Aw r.1∧(r.1.length:Int)≤9):=by
 unfold Dp
 obtain⟨x,c',e,hx,k⟩:=Ja c hc [0,1,2,5,9] (by decide) (by decide)
 have hx':0≤x∧x≤9:=by
  simp only[Vl,Zq,or_false]at hx
  omega
 refine Fpb (Fqb (Q:=λ r=>r=(x,c')) e rfl) ?_
 refine Feb (Q:=λ r=>Bn r.2∧Aw r.1∧(r.1.length:Int)≤9) ?_ (λ r hr=>Fdb hr)
 unfold Fq
 refine Feb (Fva x (by omega) (max x 0-0).toNat [] 0 c' k (by omega) (by omega) (by omega) rfl (by intro y hy;simp at hy)) (λ r hr=>Fdb ?_)
 exact⟨hr.1,hr.2.1,by show (r.1.length:Int)≤9;rw[hr.2.2];omega⟩
def Kt (c:Cur) (hc:Bn c) (n:Int) (hn:n≤1000000000):∃ x c',Bx c n=some (x,c')∧Bn c':=by
 obtain⟨x,c',e,_,_,_,k⟩:=Ac c hc n hn
 exact⟨x==0,c',by unfold Bx;simp only[e,Vo],k⟩
abbrev Stp:=Int×Int×Int
abbrev Row:=ByteArray×Stp×Bool×Int
abbrev Fil:=Stp×Bool×List Int
def J0a (s:Stp):Prop:=0≤s.1∧s.1≤1000000000∧0≤s.2.1∧s.2.1≤1000000∧0≤s.2.2∧s.2.2≤20
def Ku:List ByteArray:=[(⟨#[97]⟩:ByteArray),(⟨#[98]⟩:ByteArray),(⟨#[99,97,116,47,49]⟩:ByteArray),(⟨#[99,97,116,47,50]⟩:ByteArray),(⟨#[100,111,103]⟩:ByteArray),(⟨#[120,45,49]⟩:ByteArray)]
def M6 (c:Cur) (hc:Bn c):∃ x c',Bm c=some (x,c')∧x∈Ku∧Bn c':=by
 obtain⟨x,c',e,hx,k⟩:=Lga c hc Ku (by decide) (by decide)
 exact⟨x,c',by unfold Bm;unfold Ku at e;simp only[e,Vo],hx,k⟩
def Fwa (c:Cur) (hc:Bn c):∃ x c',Hy c=some (x,c')∧J0a x∧Bn c':=by
 obtain⟨x,c1,e1,hx,k1⟩:=Ja c hc [0,1,2,3,1000000000] (by decide) (by decide)
 obtain⟨y,c2,e2,y0,y1,_,k2⟩:=Ac c1 k1 3 (by decide)
 obtain⟨z,c3,e3,z0,z1,_,k3⟩:=Ac c2 k2 3 (by decide)
 have y1:=y1 (by decide)
 have z1:=z1 (by decide)
 simp only[Vl,Zq,or_false]at hx
 exact⟨(x,y,z),c3,by unfold Hy;simp only[e1,e2,e3,Vo],⟨by show 0≤x;omega,by show x≤_;omega,y0,by show y≤_;omega,z0,by show z≤_;omega⟩,k3⟩
def Xoa (f:Fil):Prop:=J0a f.1∧Aw f.2.2∧(f.2.2.length:Int)≤9∧(f.2.1=true→f.2.2=[])
def N1 (c:Cur) (hc:Bn c):Tot (λ k=>C8 k c) (λ r=>Xoa r.1∧Bn r.2):=by
 unfold C8
 obtain⟨s,c1,e1,hs,k1⟩:=Fwa c hc
 obtain⟨b,c2,e2,k2⟩:=Kt c1 k1 4 (by decide)
 refine Fpb (Fqb (Q:=λ r=>r=(s,c1)) e1 rfl) ?_
 refine Fpb (Fqb (Q:=λ r=>r=(b,c2)) e2 rfl) ?_
 refine Fjb (λ hb=>?_) (λ hb=>Fdb ⟨⟨hs,by intro y hy;simp at hy,by show ((([]:List Int).length:Nat):Int)≤9;decide,λ _=>rfl⟩,k2⟩)
 refine Feb (Bwa c2 k2) (λ r hr=>Fdb ⟨⟨hs,hr.2.1,hr.2.2,λ h=>?_⟩,hr.1⟩)
 simp only[Vv]at hb
 have h':b=true:=h
 rw[hb]at h'
 cases h'
def Zwa (x:Row):Prop:=x.1∈Ku∧J0a x.2.1∧0≤x.2.2.2∧x.2.2.2≤9∧(x.2.2.1=true→x.2.2.2=0)
def Bxa (c:Cur) (hc:Bn c):Tot (λ k=>I0 k c) (λ r=>Zwa r.1∧Bn r.2):=by
 unfold I0
 obtain⟨s,c1,e1,hs,k1⟩:=M6 c hc
 refine Fpb (Fqb (Q:=λ r=>r=(s,c1)) e1 rfl) ?_
 refine Feb (N1 c1 k1) (λ r hr=>?_)
 obtain⟨⟨h1,h2,h3,h4⟩,k2⟩:=hr
 unfold Ib
 refine Fpb (Fdb (Q:=λ y=>y=(s,r.1.1,r.1.2.1,(r.1.2.2.length:Int))) rfl) ?_
 refine Fdb ⟨⟨hs,h1,by show (0:Int)≤(r.1.2.2.length:Int);omega,h3,λ h=>?_⟩,k2⟩
 show (r.1.2.2.length:Int)=0
 rw[h4 h]
 rfl

def Fxa:∀ (a:List UInt8),Op.bytesLess a a=false
 |[]=>rfl
 |a::l=>by simp[Op.bytesLess,Fxa l]
def Lha:∀ (a b c:List UInt8),Op.bytesLess a b=true→Op.bytesLess b c=true→Op.bytesLess a c=true
 |_,[],_,h,_=>by simp[Op.bytesLess]at h
 |_,_::_,[],_,h=>by simp[Op.bytesLess]at h
 |[],_::_,_::_,_,_=>rfl
 |a::x,b::y,c::z,h1,h2=>by
  simp only[Op.bytesLess,Fub,Va,decide_eq_true_eq,beq_iff_eq]at h1 h2 ⊢
  rcases h1 with h1|⟨rfl,h1⟩
  ·rcases h2 with h2|⟨rfl,h2⟩
   ·exact .inl (UInt8.lt_trans h1 h2)
   ·exact .inl h1
  ·rcases h2 with h2|⟨rfl,h2⟩
   ·exact .inl h2
   ·exact .inr ⟨rfl,Lha x y z h1 h2⟩
def Xpa:∀ (a b:List UInt8),Op.bytesLess a b=false→Op.bytesLess b a=false→a=b
 |[],[],_,_=>rfl
 |[],_::_,h,_=>by simp[Op.bytesLess]at h
 |_::_,[],_,h=>by simp[Op.bytesLess]at h
 |a::x,b::y,h1,h2=>by
  simp only[Op.bytesLess,Bool.or_eq_false_iff,Iib,decide_eq_false_iff_not]at h1 h2
  have hab:a=b:=by
   have h3:=UInt8.not_lt.1 h1.1
   have h4:=UInt8.not_lt.1 h2.1
   exact UInt8.le_antisymm h4 h3
  subst hab
  rw[Xpa x y (h1.2.resolve_left (by simp)) (h2.2.resolve_left (by simp))]
def tlt (a b:ByteArray):Bool:=Op.bytesLess a.toList b.toList
def teq (a b:ByteArray):Bool:=a.toList==b.toList
def Bya {a b:ByteArray} (h:a.toList=b.toList):a=b:=by
 rw[ByteArray.toList_eq,ByteArray.toList_eq]at h
 obtain⟨⟨x⟩⟩:=a
 obtain⟨⟨y⟩⟩:=b
 simp only at h
 rw[h]
def Fe {a b:ByteArray}:teq a b=true↔a=b:=by
 unfold teq
 rw[beq_iff_eq]
 exact⟨Bya,λ h=>by rw[h]⟩
def Ig (a:ByteArray):tlt a a=false:=Fxa _
def M7 {a b c:ByteArray} (h:tlt a b=true) (h':tlt b c=true):tlt a c=true:=Lha _ _ _ h h'
def Z7 {a b:ByteArray} (h:tlt a b=false) (h':tlt b a=false):a=b:=Bya (Xpa _ _ h h')
def Tf {a b:ByteArray} (h:tlt a b=true):tlt b a=false:=by
 cases hb:tlt b a
 ·rfl
 have:=M7 h hb
 rw[Ig]at this
 cases this
def Fya (a b:ByteArray):(!(Op.bytesLess a.toList b.toList||a.toList==b.toList))=tlt b a:=by
 show (!(tlt a b||teq a b))=tlt b a
 cases h1:tlt a b
 case true=>rw[Tf h1];rfl
 cases h2:teq a b
 case true=>rw[Fe.1 h2,Ig];rfl
 cases h3:tlt b a
 case true=>rfl
 exfalso
 have:=Z7 h1 h3
 rw[Fe.2 this]at h2
 cases h2
def sle (a b:Stp):Bool:=cond (a.1 != b.1) (decide (a.1<b.1)) (cond (a.2.1 != b.2.1) (decide (a.2.1<b.2.1)) (decide (a.2.2<b.2.2)))
def Dfa (a b:Stp):Ca a b=some (sle a b):=by
 unfold Ca sle
 cases a.1 != b.1<;>cases a.2.1 != b.2.1<;>rfl
def Lia (a b:Stp):Dz a b=some (sle a b):=by
 unfold Dz sle
 cases a.1 != b.1<;>cases a.2.1 != b.2.1<;>rfl
def Pq {a b:Stp}:sle a b=true↔a.1<b.1∨(a.1=b.1∧(a.2.1<b.2.1∨(a.2.1=b.2.1∧a.2.2<b.2.2))):=by
 unfold sle
 by_cases h1:a.1=b.1
 ·by_cases h2:a.2.1=b.2.1
  ·simp[h1,h2]
  ·have:(a.2.1 != b.2.1)=true:=by simpa using h2
   simp[h1,this,h2]
 ·have:(a.1 != b.1)=true:=by simpa using h1
  simp[this,h1]
def Mu (a b:Row):Bool:=cond (!((a.2.1.1==b.2.1.1)&&((a.2.1.2.1==b.2.1.2.1)&&(a.2.1.2.2==b.2.1.2.2)))) (sle a.2.1 b.2.1) (cond (!(a.2.2.1==b.2.2.1)) b.2.2.1 (decide (a.2.2.2<b.2.2.2)))
def J1a (a b:Row):J1 a b=some (Mu a b):=by
 unfold J1 Mu
 rw[Dfa]
 cases (!((a.2.1.1==b.2.1.1)&&((a.2.1.2.1==b.2.1.2.1)&&(a.2.1.2.2==b.2.1.2.2))))<;>cases (!(a.2.2.1==b.2.2.1))<;>rfl
def Rba (a b:Row):I6 a b=some (Mu b a):=by
 unfold I6 Mu
 rw[Lia,BEq.comm (a:=a.2.1.1),BEq.comm (a:=a.2.1.2.1),BEq.comm (a:=a.2.1.2.2),BEq.comm (a:=a.2.2.1)]
 cases (!((b.2.1.1==a.2.1.1)&&((b.2.1.2.1==a.2.1.2.1)&&(b.2.1.2.2==a.2.1.2.2))))<;>cases (!(b.2.2.1==a.2.2.1))<;>rfl
def Jx:Row:=((⟨#[]⟩:ByteArray),(((0:Int),((0:Int),(0:Int))),(false,(0:Int))))
def Sg (s:ByteArray):List Row→Nat→Option Nat
 |[],_=>none
 |r::l,i=>bif teq r.1 s then some i else Sg s l (i+1)
def Tz (l:List Row) (s:ByteArray):Nat→Nat
 |0=>0
 |k+1=>bif tlt s (l.getD k Jx).1 then Tz l s k else k+1
def mrg (l:List Row) (x:Row):List Row:=match Sg x.1 l 0 with
 |some i=>bif Mu (l.getD i Jx) x then l.set i x else l
 |none=>l.take (Tz l x.1 l.length)++x::l.drop (Tz l x.1 l.length)
def Z8 (l:List Row) (s:ByteArray):∀ k,Tz l s k≤k
 |0=>Vw _
 |k+1=>by
  unfold Tz
  cases tlt s (l.getD k Jx).1 with
  |true=>have:=Z8 l s k;simp only[cond_true];omega
  |false=>simp only[cond_false];omega
def Rl {s:ByteArray}:∀ (l:List Row) (i j:Nat),Sg s l i=some j→i≤j∧j<i+l.length∧teq (l.getD (j-i) Jx).1 s=true
 |[],i,j,h=>by simp[Sg]at h
 |r::l,i,j,h=>by
  unfold Sg at h
  cases ht:teq r.1 s with
  |true=>
   rw[ht]at h
   simp only[cond_true,Vg]at h
   subst h
   refine⟨Vw _,by simp,?_⟩
   rw[Gib]
   exact ht
  |false=>
   rw[ht]at h
   simp only[cond_false]at h
   obtain⟨h1,h2,h3⟩:=Rl l (i+1) j h
   refine⟨by omega,by simp only[Vc];omega,?_⟩
   rw[show j-i=(j-(i+1))+1 by omega]
   exact h3
def Ap {α:Type} {l:List α} {i:Nat} {d:α} (h:i<l.length):l.drop i=l.getD i d::l.drop (i+1):=by
 rw[Yx h,Vd,Vk h]
 rfl
def Few (l:List Row):Prop:=l.length≤1000000000000
def Fza (x:Row):∀ (n:Nat) (l:List Row) (i:Nat),l.length-i=n→i≤l.length→Few l→
  Tot (λ k=>El k l (i:Int) x.1 x.2.1.1 x.2.1.2.1 x.2.1.2.2 x.2.2.1 x.2.2.2) (λ r=>r=match Sg x.1 (l.drop i) i with
   |some j => .inl (bif Mu (l.getD j Jx) x then l.set j x else l)
   |none => .inr (l,x.1,x.2.1.1,x.2.1.2.1,x.2.1.2.2,x.2.2.1,x.2.2.2)):=by
 intro n
 induction n with
 |zero=>
  intro l i hn hi hf
  unfold Few at hf
  refine Tot.succ ?_
  simp only[El]
  refine Fib (by omega) (Fdb ?_)
  rw[Wk (by omega)]
  rfl
 |succ n ih=>
  intro l i hn hi hf
  have hf':=hf
  unfold Few at hf
  have hlt:i<l.length:=by omega
  refine Tot.succ ?_
  simp only[El]
  refine Fhb (by omega) (Fhb (by omega) (Fhb (by omega) ?_))
  have e0:toNat (i:Int)=i:=Vb i
  rw[e0,Ap (d:=Jx) hlt]
  refine Fjb (λ ht=>?_) (λ ht=>?_)
  ·have ht':teq (l.getD i Jx).1 x.1=true:=ht
   refine Fhb (by omega) (Fhb (by omega) ?_)
   refine Fpb (Fqb (Q:=λ r=>r=Mu (l.getD i Jx) x) (J1a _ _) rfl) ?_
   simp only[Sg,ht',cond_true]
   cases hb:Mu (l.getD i Jx) x with
   |true=>exact Fgb rfl (Fhb (by omega) (Fhb (by omega) (Fdb rfl)))
   |false=>exact Ffb rfl (Fdb rfl)
  ·have ht':teq (l.getD i Jx).1 x.1=false:=ht
   simp only[Sg,ht',cond_false]
   rw[w64 (n:=(i:Int)+1) (by omega) (by omega)]
   exact ih l (i+1) (by omega) (by omega) hf'
def G0a (x:Row) (l0 l5:List Row) (h5:l5=l0):∀ (n:Nat) (i:Nat),l0.length-i=n→i≤l0.length→Few l0→
  Tot (λ k=>Ey k l0 l5 l0 (l0.length:Int) (i:Int) x.1 x.2.1.1 x.2.1.2.1 x.2.1.2.2 x.2.2.1 x.2.2.2) (λ r=>r=match Sg x.1 (l0.drop i) i with
   |some j => .inl (bif Mu (l0.getD j Jx) x then l0.set j x else l0)
   |none => .inr (l0,x.1,x.2.1.1,x.2.1.2.1,x.2.1.2.2,x.2.2.1,x.2.2.2)):=by
 subst h5
 intro n
 induction n with
 |zero=>
  intro i hn hi hf
  unfold Few at hf
  refine Tot.succ ?_
  simp only[Ey]
  refine Fib (by omega) (Fdb ?_)
  rw[Wk (by omega)]
  rfl
 |succ n ih=>
  intro i hn hi hf
  have hf':=hf
  unfold Few at hf
  have hlt:i<l5.length:=by omega
  refine Tot.succ ?_
  simp only[Ey]
  refine Fhb (by omega) (Fhb (by omega) (Fhb (by omega) ?_))
  have e0:toNat (i:Int)=i:=Vb i
  rw[e0,Ap (d:=Jx) hlt]
  refine Fjb (λ ht=>?_) (λ ht=>?_)
  ·have ht':teq (l5.getD i Jx).1 x.1=true:=ht
   refine Fpb (Fqb (Q:=λ r=>r=Mu (l5.getD i Jx) x) (Rba _ _) rfl) ?_
   simp only[Sg,ht',cond_true]
   cases hb:Mu (l5.getD i Jx) x with
   |true=>exact Fgb rfl (Fhb (by omega) (Fhb (by omega) (Fdb rfl)))
   |false=>exact Ffb rfl (Fdb rfl)
  ·have ht':teq (l5.getD i Jx).1 x.1=false:=ht
   simp only[Sg,ht',cond_false]
   rw[w64 (n:=(i:Int)+1) (by omega) (by omega)]
   exact ih (i+1) (by omega) (by omega) hf'
def Dga (x:Row) (l:List Row) (hf:Few l):∀ (i:Nat),i≤l.length→
  Tot (λ k=>Dv k l (i:Int) x.1 x.2.1.1 x.2.1.2.1 x.2.1.2.2 x.2.2.1 x.2.2.2) (λ r=>r=(l,(Tz l x.1 i:Int),x.1,x.2.1.1,x.2.1.2.1,x.2.1.2.2,x.2.2.1,x.2.2.2)):=by
 unfold Few at hf
 intro i
 induction i with
 |zero=>
  intro hi
  refine Tot.succ ?_
  simp only[Dv]
  exact Fib (by omega) (Fdb rfl)
 |succ i ih=>
  intro hi
  refine Tot.succ ?_
  simp only[Dv]
  rw[w64 (n:=((i+1:Nat):Int)-1) (by omega) (by omega),show ((i+1:Nat):Int)-1=(i:Int) by omega,show toNat (i:Int)=i from Vb i]
  refine Fhb (by omega) (Fhb (by omega) (Fhb (by omega) ?_))
  have e:∀ z,(!(Op.bytesLess (l.getD i z).1.toList x.1.toList||(l.getD i z).1.toList==x.1.toList))=tlt x.1 (l.getD i z).1:=λ z=>Fya _ _
  rw[e]
  have hc:Tz l x.1 (i+1)=bif tlt x.1 (l.getD i Jx).1 then Tz l x.1 i else i+1:=rfl
  refine Fjb (λ ht=>?_) (λ ht=>?_)
  ·have ht':tlt x.1 (l.getD i Jx).1=true:=ht
   rw[hc,ht',cond_true]
   exact ih (by omega)
  ·have ht':tlt x.1 (l.getD i Jx).1=false:=ht
   rw[hc,ht',cond_false]
   exact Fdb rfl
def Tg (l:List Row) (hf:Few l):Aj l=some l:=by
 unfold Few at hf
 unfold Aj
 rw[Zi (by simp only[Vj];omega)]
 rfl
def G1a (l:List Row) (x:Row) (hf:Few l):Tot (λ k=>Bt k l x) (λ r=>r=mrg l x):=by
 have hf':=hf
 unfold Few at hf
 unfold Bt
 refine Feb (Fqb (Q:=λ r=>r=l) (Tg l hf') rfl) ?_
 rintro r rfl
 refine Feb (G0a x r r rfl _ 0 rfl (Vs _) hf') ?_
 rintro y rfl
 rw[Wp]
 unfold mrg
 cases hfi:Sg x.1 r 0 with
 |some j=>exact Fdb rfl
 |none=>
  simp only[G7b]
  refine Feb (Dga x r hf' r.length (Vw _)) ?_
  rintro z rfl
  have hc:=Z8 r x.1 r.length
  simp only
  rw[show toNat ((Tz r x.1 r.length:Nat):Int)=Tz r x.1 r.length from Vb _]
  refine Fhb (by omega) (Fhb (by omega) ?_)
  have hft:Few (r.take (Tz r x.1 r.length)):=by unfold Few;rw[Vu];omega
  refine Feb (Fqb (Q:=λ q=>q=r.take (Tz r x.1 r.length)) (Tg _ hft) rfl) ?_
  rintro q rfl
  refine Flb (by simp only[Vu,Vc,Vj];omega) ?_
  refine Fhb (by omega) (Fhb (by omega) (Flb (by simp only[Ve,Vu,Wf,Vc,Vj];omega) (Fdb ?_)))
  rw[Vp]
  rfl
def Dha (x:Row) (l:List Row) (hf:Few l):∀ (i:Nat) (y:Row),i≤l.length→
  Tot (λ k=>Dm k (l.take i++y::l.drop i) (i:Int) x.1 x.2.1.1 x.2.1.2.1 x.2.1.2.2 x.2.2.1 x.2.2.2)
   (λ r=>∃ y',r=(l.take (Tz l x.1 i)++y'::l.drop (Tz l x.1 i),(Tz l x.1 i:Int),x.1,x.2.1.1,x.2.1.2.1,x.2.1.2.2,x.2.2.1,x.2.2.2)):=by
 unfold Few at hf
 intro i
 induction i with
 |zero=>
  intro y hi
  refine Tot.succ ?_
  simp only[Dm]
  exact Fib (by omega) (Fdb ⟨y,rfl⟩)
 |succ i ih=>
  intro y hi
  refine Tot.succ ?_
  simp only[Dm]
  have hlen:(l.take (i+1)++y::l.drop (i+1)).length=l.length+1:=by simp only[Ve,Vu,Vc,Wf];omega
  have hget:∀ z,(l.take (i+1)++y::l.drop (i+1)).getD i z=l.getD i z:=by
   intro z
   rw[Vd,Vd,Yc (by rw[Vu];omega),List.getElem?_take_of_lt (by omega)]
  rw[w64 (n:=((i+1:Nat):Int)-1) (by omega) (by omega),show ((i+1:Nat):Int)-1=(i:Int) by omega,show toNat (i:Int)=i from Vb i,show toNat ((i+1:Nat):Int)=i+1 from Vb _,hget,hlen]
  refine Fhb (by omega) (Fhb (by omega) (Fhb (by omega) ?_))
  have e:∀ z,(!(Op.bytesLess (l.getD i z).1.toList x.1.toList||(l.getD i z).1.toList==x.1.toList))=tlt x.1 (l.getD i z).1:=λ z=>Fya _ _
  rw[e]
  have hc:Tz l x.1 (i+1)=bif tlt x.1 (l.getD i Jx).1 then Tz l x.1 i else i+1:=rfl
  refine Fjb (λ ht=>?_) (λ ht=>?_)
  ·have ht':tlt x.1 (l.getD i Jx).1=true:=ht
   rw[hc,ht',cond_true]
   refine Fhb (by omega) (Fhb (by omega) (Fhb (by omega) (Fhb (by omega) ?_)))
   have hset:(l.take (i+1)++y::l.drop (i+1)).set (i+1) (l.getD i ((⟨#[]⟩:ByteArray),(((0:Int),((0:Int),(0:Int))),(false,(0:Int)))))=l.take i++l.getD i Jx::l.drop i:=by
    rw[List.set_append,if_neg (by rw[Vu];omega),Vu,Zu hi,Gib,Hzb,Ap (d:=Jx) (show i<l.length by omega)]
    rw[List.take_add_one,Vk (show i<l.length by omega)]
    simp only[I1b,Vp,Yh]
    rw[Vd,Vd,Vk (show i<l.length by omega)]
    rfl
   rw[hset]
   exact ih _ (by omega)
  ·have ht':tlt x.1 (l.getD i Jx).1=false:=ht
   rw[hc,ht',cond_false]
   exact Fdb ⟨y,rfl⟩
def G2a (l:List Row) (x:Row) (hf:Few l):Tot (λ k=>Br k l x) (λ r=>r=mrg l x):=by
 have hf':=hf
 unfold Few at hf
 unfold Br
 refine Flb (by simp only[Vj];omega) ?_
 rw[Vz]
 refine Fpb (Fza x _ l 0 rfl (Vs _) hf') ?_
 rw[Wp]
 unfold mrg
 cases hfi:Sg x.1 l 0 with
 |some j=>exact Fdb rfl
 |none=>
  simp only[G7b]
  refine Flb (by simp only[Vc,Vj];omega) ?_
  have h0:=Dha x l hf' l.length x (Vw _)
  rw[Yt,Wi]at h0
  refine Feb h0 ?_
  rintro z ⟨y',rfl⟩
  have hc:=Z8 l x.1 l.length
  have hlen:(l.take (Tz l x.1 l.length)++y'::l.drop (Tz l x.1 l.length)).length=l.length+1:=by simp only[Ve,Vu,Vc,Wf];omega
  simp only
  rw[show toNat ((Tz l x.1 l.length:Nat):Int)=Tz l x.1 l.length from Vb _,hlen]
  refine Fhb (by omega) (Fhb (by omega) (Fdb ?_))
  rw[List.set_append,if_neg (by rw[Vu];omega),Vu,Zu hc,Gib,Hzb]

def Xa (a b:ByteArray):(a==b)=teq a b:=beq_toListBytes a b
def Bob (a b:Row):Bool:=(a.1==b.1)&&((a.2.1.1==b.2.1.1)&&((a.2.1.2.1==b.2.1.2.1)&&((a.2.1.2.2==b.2.1.2.2)&&((a.2.2.1==b.2.2.1)&&(a.2.2.2==b.2.2.2)))))
def Lja {a b:Row}:Bob a b=true↔a=b:=by
 unfold Bob
 simp only[Va,beq_iff_eq,Xa,Fe]
 constructor
 ·rintro⟨h1,h2,h3,h4,h5,h6⟩
  obtain⟨n,⟨t,s,d⟩,b1,z⟩:=a
  obtain⟨n',⟨t',s',d'⟩,b1',z'⟩:=b
  simp only at h1 h2 h3 h4 h5 h6
  subst h1 h2 h3 h4 h5 h6
  rfl
 ·rintro rfl
  exact⟨rfl,rfl,rfl,rfl,rfl,rfl⟩
def J2a (a b:List Row) (hl:a.length=b.length) (hf:Few a):∀ (n i:Nat),a.length-i=n→i≤a.length→
  Tot (λ k=>F3 k a b (i:Int)) (λ r=>r=bif decide (a.drop i=b.drop i) then .inr () else .inl false):=by
 unfold Few at hf
 intro n
 induction n with
 |zero=>
  intro i hn hi
  refine Tot.succ ?_
  simp only[F3]
  refine Fib (by omega) (Fdb ?_)
  rw[Wk (by omega),Wk (by omega)]
  rfl
 |succ n ih=>
  intro i hn hi
  have hlt:i<a.length:=by omega
  refine Tot.succ ?_
  simp only[F3]
  rw[show toNat (i:Int)=i from Vb i]
  refine Fhb (by omega) (Fhb (by omega) (Fhb (by omega) (Fhb (by omega) (Fhb (by omega) ?_))))
  rw[Ap (d:=Jx) hlt,Ap (d:=Jx) (show i<b.length by omega)]
  refine Fjb (λ h=>?_) (λ h=>?_)
  ·have h':Bob (a.getD i Jx) (b.getD i Jx)=false:=(Vv _).mp h
   have hne:a.getD i Jx≠b.getD i Jx:=λ e=>by rw[Lja.2 e]at h';cases h'
   refine Fdb ?_
   rw[decide_eq_false (by intro e;exact hne (List.cons.inj e).1)]
   rfl
  ·have h':Bob (a.getD i Jx) (b.getD i Jx)=true:=by
    have h2:(!(Bob (a.getD i Jx) (b.getD i Jx)))=false:=h
    cases hb:Bob (a.getD i Jx) (b.getD i Jx) with
    |true=>rfl
    |false=>rw[hb]at h2;cases h2
   have he:=Lja.1 h'
   rw[w64 (n:=(i:Int)+1) (by omega) (by omega)]
   refine(ih (i+1) (by omega) (by omega)).mono ?_
   rintro r rfl
   rw[he]
   have:(b.getD i Jx::a.drop (i+1)=b.getD i Jx::b.drop (i+1))↔(a.drop (i+1)=b.drop (i+1)):=by simp
   simp only[this]
def V8 (a b:List Row) (hf:Few a) (hf2:Few b):Tot (λ k=>G9 k a b) (λ r=>r=decide (a=b)):=by
 unfold G9
 refine Fjb (λ h=>?_) (λ h=>?_)
 ·refine Fdb ?_
  have:a≠b:=λ e=>by subst e;simp at h
  rw[decide_eq_false this]
 ·have hl:a.length=b.length:=by
   simp only[bne_eq_false_iff_eq]at h
   omega
  refine Fpb (J2a a b hl hf _ 0 rfl (Vs _)) ?_
  rw[Wp,Wp]
  cases decide (a=b) with
  |true=>exact Fdb rfl
  |false=>exact Fdb rfl
def Ul {s:ByteArray}:∀ (l:List Row) (i:Nat),Sg s l i=none→∀ r∈l,r.1≠s
 |[],_,_,r,hr=>by simp at hr
 |a::l,i,h,r,hr=>by
  unfold Sg at h
  cases ht:teq a.1 s
  case true=>rw[ht]at h;simp at h
  rw[ht]at h
  rcases Vl.1 hr with rfl|hr
  ·intro e
   rw[Fe.2 e]at ht
   cases ht
  ·exact Ul l (i+1) h r hr
def Dia (l:List Row) (x:Row):l.length≤(mrg l x).length∧(mrg l x).length≤l.length+1:=by
 unfold mrg
 have hc:=Z8 l x.1 l.length
 split
 ·cases Mu (l.getD _ Jx) x<;>simp
 ·simp only[Ve,Vu,Vc,Wf]
  omega
def J3a {l:List Row} {x r:Row} (h:r∈mrg l x):r=x∨r∈l:=by
 unfold mrg at h
 split at h
 ·rename_i j hj
  cases hb:Mu (l.getD j Jx) x
  ·rw[hb]at h;exact .inr h
  rw[hb,cond_true]at h
  rcases Wo h with h|h
  ·exact .inr h
  ·exact .inl h
 ·rcases Vn.1 h with h|h
  ·exact .inr (Gcb h)
  ·rcases Vl.1 h with h|h
   ·exact .inl h
   ·exact .inr (Zk h)
def P6 (a:Stp):sle a a=false:=by
 cases h:sle a a with
 |false=>rfl
 |true=>rw[Pq]at h;omega
def Bo (l:List Row):Prop:=l.Pairwise (λ a b=>tlt a.1 b.1=true)
def G3a {l:List Row} {s:ByteArray} (hs:Bo l) (hn:∀ r∈l,r.1≠s):∀ k,k≤l.length→(∀ i,i<Tz l s k→tlt (l.getD i Jx).1 s=true)∧(∀ i,Tz l s k≤i→i<k→tlt s (l.getD i Jx).1=true)
 |0,_=>⟨λ i hi=>by simp[Tz]at hi,λ i _ hi=>by omega⟩
 |k+1,hk=>by
  unfold Tz
  cases ht:tlt s (l.getD k Jx).1 with
  |true=>
   simp only[cond_true]
   obtain⟨h1,h2⟩:=G3a hs hn k (by omega)
   refine⟨h1,λ i hi hik=>?_⟩
   by_cases e:i=k
   ·subst e;exact ht
   ·exact h2 i hi (by omega)
  |false=>
   simp only[cond_false]
   refine⟨λ i hi=>?_,λ i hi hik=>by omega⟩
   have hget:∀ j (hj:j<l.length),l.getD j Jx=l[j]:=λ j hj=>by rw[Vd,Vk hj];rfl
   have hkl:k<l.length:=by omega
   have hks:tlt (l.getD k Jx).1 s=true:=by
    cases h:tlt (l.getD k Jx).1 s
    case true=>rfl
    exfalso
    exact hn (l.getD k Jx) (by rw[hget k hkl];exact Hjb hkl) (Z7 h ht)
   by_cases e:i=k
   ·subst e;exact hks
   ·have h3:=(Ftb.1 hs) i k (by omega) hkl (by omega)
    rw[hget i (by omega)]
    rw[hget k hkl]at hks
    exact M7 h3 hks
def Rm {l:List Row} {x:Row} (hs:Bo l):Bo (mrg l x):=by
 have hget:∀ j (hj:j<l.length),l.getD j Jx=l[j]:=λ j hj=>by rw[Vd,Vk hj];rfl
 unfold mrg
 split
 ·rename_i j hj
  obtain⟨_,h2,h3⟩:=Rl l 0 j hj
  rw[Gzb]at h3
  have hjl:j<l.length:=by omega
  have hname:l[j].1=x.1:=by rw[← hget j hjl];exact Fe.1 h3
  cases hb:Mu (l.getD j Jx) x
  ·exact hs
  rw[cond_true]
  unfold Bo
  rw[Ftb]
  intro a b ha hb hab
  rw[Vx]at ha hb
  have:=(Ftb.1 hs) a b ha hb hab
  rw[Ieb,Ieb]
  by_cases e1:j=a
  ·subst e1
   rw[if_pos rfl,if_neg (by omega),← hname]
   exact this
  ·rw[if_neg e1]
   by_cases e2:j=b
   ·subst e2
    rw[if_pos rfl,← hname]
    exact this
   ·rw[if_neg e2]
    exact this
 ·rename_i hj
  have hn:=Ul l 0 hj
  obtain⟨c1,c2⟩:=G3a hs hn l.length (Vw _)
  have hc:=Z8 l x.1 l.length
  unfold Bo
  rw[Zb,Wg]
  refine⟨Hhb (I9b _ _) hs,⟨λ r hr=>?_,Hhb (List.drop_sublist _ _) hs⟩,λ r hr q hq=>?_⟩
  ·obtain⟨i,hi,rfl⟩:=Gvb hr
   rw[Wf]at hi
   rw[List.getElem_drop,← hget _ (by omega)]
   exact c2 _ (by omega) (by omega)
  ·obtain⟨i,hi,rfl⟩:=Gvb hr
   rw[Vu]at hi
   have h1:tlt (List.take (Tz l x.1 l.length) l)[i].1 x.1=true:=by
    rw[List.getElem_take,← hget _ (by omega)]
    exact c1 i (by omega)
   rcases Vl.1 hq with rfl|hq
   ·exact h1
   ·refine M7 h1 ?_
    obtain⟨m,hm,rfl⟩:=Gvb hq
    rw[Wf]at hm
    rw[List.getElem_drop,← hget _ (by omega)]
    exact c2 _ (by omega) (by omega)
def Lka (l:List Row):Prop:=Bo l∧(∀ r∈l,Zwa r)
def G4a:∀ (n:Nat) (l:List Row) (i:Int) (c:Cur),Bn c→0≤i→i=n→Lka l→l.length+n≤5→
  Tot (λ k=>Fv k l i c.1 c.2.1 c.2.2) (λ r=>Bn r.2∧Lka r.1∧r.1.length≤5):=by
 intro n
 induction n with
 |zero=>
  intro l i c hc h0 hi hr hl
  refine Tot.succ ?_
  simp only[Fv]
  exact Fib (by omega) (Fdb ⟨hc,hr,by show l.length≤5;omega⟩)
 |succ n ih=>
  intro l i c hc h0 hi hr hl
  refine Tot.succ ?_
  simp only[Fv]
  refine Fhb (by omega) ?_
  refine Feb (Bxa c hc) (λ r h=>?_)
  refine Fpb (G2a l r.1 (by unfold Few;omega)) ?_
  rw[w64 (n:=i-1) (by omega) (by omega)]
  refine ih _ _ r.2 h.2 (by omega) (by omega) ⟨Rm hr.1,λ y hy=>?_⟩ (by have:=(Dia l r.1).2;omega)
  rcases J3a hy with rfl|hy
  ·exact h.1
  ·exact hr.2 y hy
def Sh (c:Cur) (hc:Bn c):Tot (λ k=>Cv k c) (λ r=>Bn r.2∧Lka r.1∧r.1.length≤5):=by
 unfold Cv
 obtain⟨x,c',e,x0,x1,_,k⟩:=Ac c hc 6 (by decide)
 have x1:=x1 (by decide)
 refine Fpb (Fqb (Q:=λ r=>r=(x,c')) e rfl) ?_
 refine Feb (G4a x.toNat [] x c' k x0 (by omega) ⟨List.Pairwise.nil,by simp⟩ (by simp only[Vj];omega)) (λ r hr=>Fdb hr)

def inR (n lo hi:Int):Bool:=decide (n≥lo)&&decide (n≤hi)
def Th (n lo hi:Int):Et n lo hi=some (inR n lo hi):=by
 unfold Et inR
 cases decide (n≥lo)<;>rfl
def Nb (n lo hi:Int):A6 n lo hi=some (inR n lo hi):=by
 unfold A6 inR
 cases decide (n≥lo)<;>rfl
def Cy {n lo hi:Int}:inR n lo hi=true↔lo≤n∧n≤hi:=by
 unfold inR
 simp
def Ti (c:Int):Bool:=inR c 97 122||(inR c 48 57||(!(c != 45)||(!(c != 95)||!(c != 47))))
def Kd (s:ByteArray):Prop:=s.size≤4611686018427387904
def Pr (s:ByteArray):s.data.toList.length=s.size:=Yw
def Z9 (s:ByteArray) (i:Int):0≤bt s i∧bt s i≤255:=by
 unfold bt
 have:=(s.data.toList.getD i.toNat 0).toNat_lt
 omega
def Ctb (s:ByteArray) (i:Nat) (h:i<s.size):bt s (i:Int)=((s.data.toList[i]'(by rw[Pr];exact h)).toNat:Int):=by
 unfold bt
 rw[Vb,Vd,Vk (by rw[Pr];exact h)]
 rfl
def bOk (b:UInt8):Bool:=Ti (b.toNat:Int)
def J4a (s:ByteArray) (hs:Kd s):∀ (n i:Nat),s.size-i=n→i≤s.size→
  Tot (λ k=>An k s (i:Int)) (λ r=>r=bif (s.data.toList.drop i).all bOk then .inr s else .inl false):=by
 unfold Kd at hs
 have hsz:=Pr s
 intro n
 induction n with
 |zero=>
  intro i hn hi
  refine Tot.succ ?_
  simp only[An]
  refine Fib (by omega) (Fdb ?_)
  rw[Wk (by omega)]
  rfl
 |succ n ih=>
  intro i hn hi
  have hlt:i<s.size:=by omega
  refine Tot.succ ?_
  simp only[An]
  refine Fhb (by omega) (Fhb (by omega) (Fhb (by omega) ?_))
  rw[w64 (n:=(i:Int)+1) (by omega) (by omega)]
  have hb:bOk (s.data.toList[i]'(by omega))=Ti (bt s (i:Int)):=by rw[Ctb s i hlt];rfl
  rw[Yx (by omega),Fsb,hb]
  generalize bt s (i:Int)=c
  have h1:=ih (i+1) (by omega) (by omega)
  have e:(((i+1:Nat)):Int)=(i:Int)+1:=by omega
  rw[e]at h1
  cases hc:Ti c with
  |true=>
   rw[Vy]
   refine h1.mono (λ r hr=>hr) |> λ h=>?_
   obtain⟨r,K,h2,h3⟩:=h
   refine⟨r,K,λ k hk=>?_,h3⟩
   rw[← h2 k hk]
   unfold Ti inR at hc
   revert hc
   cases decide (c≥97)<;>cases decide (c≤122)<;>cases decide (c≥48)<;>cases decide (c≤57)<;>cases (c != 45)<;>cases (c != 95)<;>cases (c != 47)<;>first|(intro _;rfl)|(intro hc;cases hc)
  |false=>
   rw[Ze]
   refine⟨.inl false,0,λ k _=>?_,rfl⟩
   unfold Ti inR at hc
   revert hc
   cases decide (c≥97)<;>cases decide (c≤122)<;>cases decide (c≥48)<;>cases decide (c≤57)<;>cases (c != 45)<;>cases (c != 95)<;>cases (c != 47)<;>first|(intro _;rfl)|(intro hc;cases hc)
def J5a (s:ByteArray) (hs:Kd s):∀ (n i:Nat),s.size-i=n→i≤s.size→
  Tot (λ k=>Cz k s (i:Int)) (λ r=>r=bif (s.data.toList.drop i).all bOk then .inr s else .inl false):=by
 unfold Kd at hs
 have hsz:=Pr s
 intro n
 induction n with
 |zero=>
  intro i hn hi
  refine Tot.succ ?_
  simp only[Cz]
  refine Fib (by omega) (Fdb ?_)
  rw[Wk (by omega)]
  rfl
 |succ n ih=>
  intro i hn hi
  have hlt:i<s.size:=by omega
  have hbb:=Z9 s (i:Int)
  refine Tot.succ ?_
  simp only[Cz]
  refine Fhb (by omega) (Fhb (by omega) (Fhb (by omega) ?_))
  rw[w64 (n:=(i:Int)+1) (by omega) (by omega),w64 (n:=bt s (i:Int)) (by omega) (by omega)]
  have hb:bOk (s.data.toList[i]'(by omega))=Ti (bt s (i:Int)):=by rw[Ctb s i hlt];rfl
  rw[Yx (by omega),Fsb,hb]
  generalize bt s (i:Int)=c
  have h1:=ih (i+1) (by omega) (by omega)
  have e:(((i+1:Nat)):Int)=(i:Int)+1:=by omega
  rw[e]at h1
  simp only[Nb,Vo]
  cases hc:Ti c with
  |true=>
   rw[Vy]
   obtain⟨r,K,h2,h3⟩:=h1
   refine⟨r,K,λ k hk=>?_,h3⟩
   rw[← h2 k hk]
   unfold Ti at hc
   revert hc
   cases inR c 97 122<;>cases inR c 48 57<;>cases (c != 45)<;>cases (c != 95)<;>cases (c != 47)<;>first|(intro _;rfl)|(intro hc;cases hc)
  |false=>
   rw[Ze]
   refine⟨.inl false,0,λ k _=>?_,rfl⟩
   unfold Ti at hc
   revert hc
   cases inR c 97 122<;>cases inR c 48 57<;>cases (c != 45)<;>cases (c != 95)<;>cases (c != 47)<;>first|(intro _;rfl)|(intro hc;cases hc)
def Bc (s:ByteArray):Bool:=s.data.toList.all bOk&&inR (s.size:Int) 1 20
def Xb (s:ByteArray) (hs:Kd s):Tot (λ k=>C4 k s) (λ r=>r=Bc s):=by
 unfold C4 Bc
 refine Fpb (J4a s hs _ 0 rfl (Vs _)) ?_
 rw[Wp]
 cases s.data.toList.all bOk with
 |true=>exact Fqb (a:=inR (s.size:Int) 1 20) (by simp only[cond_true,G7b,Th,Vo]) (by rw[Vy])
 |false=>exact Fdb rfl
def Og (s:ByteArray) (hs:Kd s):Tot (λ k=>Al k s) (λ r=>r=Bc s):=by
 unfold Al Bc
 refine Fpb (J5a s hs _ 0 rfl (Vs _)) ?_
 rw[Wp]
 cases s.data.toList.all bOk with
 |true=>exact Fqb (a:=inR (s.size:Int) 1 20) (by simp only[cond_true,G7b,Nb,Vo]) (by rw[Vy])
 |false=>exact Fdb rfl
def Ga (s:Stp):Bool:=inR s.1 0 1000000000&&(inR s.2.1 0 1000000&&inR s.2.2 0 20)
def A0a (s:Stp):E7 s=some (Ga s):=by
 unfold E7 Ga
 simp only[Th,Vo]
 cases inR s.1 0 1000000000<;>cases inR s.2.1 0 1000000<;>rfl
def Qp (s:Stp):C9 s=some (Ga s):=by
 unfold C9 Ga
 simp only[Nb,Vo]
 cases inR s.1 0 1000000000<;>cases inR s.2.1 0 1000000<;>rfl
def Mo (x:Row):Bool:=Bc x.1&&(Ga x.2.1&&(inR x.2.2.2 0 200&&(!x.2.2.1||x.2.2.2==0)))
def Rca (x:Row) (hs:Kd x.1):Tot (λ k=>J9 k x) (λ r=>r=Mo x):=by
 unfold J9 Mo
 refine Fpb (Xb x.1 hs) ?_
 cases Bc x.1
 ·exact Fdb rfl
 refine Fqb (a:=Ga x.2.1&&(inR x.2.2.2 0 200&&(!x.2.2.1||x.2.2.2==0))) ?_ (by rw[Vy])
 simp only[cond_true,A0a,Th,Vo]
 cases Ga x.2.1<;>cases inR x.2.2.2 0 200<;>cases x.2.2.1<;>rfl
def Rda (x:Row) (hs:Kd x.1):Tot (λ k=>Hx k x) (λ r=>r=Mo x):=by
 unfold Hx Mo
 refine Fpb (Og x.1 hs) ?_
 cases Bc x.1
 ·exact Fdb rfl
 refine Fqb (a:=Ga x.2.1&&(inR x.2.2.2 0 200&&(!x.2.2.1||x.2.2.2==0))) ?_ (by rw[Vy])
 simp only[cond_true,Qp,Nb,Vo]
 cases Ga x.2.1<;>cases inR x.2.2.2 0 200<;>cases x.2.2.1<;>rfl
def chk:Option ByteArray→List Row→Bool
 |_,[]=>true
 |none,r::l=>Mo r&&chk (some r.1) l
 |some q,r::l=>Mo r&&(tlt q r.1&&chk (some r.1) l)
def J7 (l:List Row):Bool:=chk none l&&decide ((l.length:Int)≤60)
def Ps (l:List Row):Prop:=∀ r∈l,Kd r.1
def Wt (l:List Row):Nat→Option ByteArray
 |0=>none
 |i+1=>some (l.getD i Jx).1
def Lla (l:List Row) (i:Nat) (h:i<l.length):chk (Wt l i) (l.drop i)=(Mo (l.getD i Jx)&&(bif decide (0<i) then tlt (l.getD (i-1) Jx).1 (l.getD i Jx).1 else true)&&chk (Wt l (i+1)) (l.drop (i+1))):=by
 rw[Ap (d:=Jx) h]
 cases i with
 |zero=>simp[Wt,chk]
 |succ i=>simp[Wt,chk,Iob]
def A4 {α:Type} {l:List α} {i:Nat} {d:α} (h1:i<l.length):l.getD i d∈l:=by
 rw[Vd,Vk h1]
 exact Hjb h1
def J6a (l:List Row) (hf:Few l) (hs:Ps l):∀ (n i:Nat),l.length-i=n→i≤l.length→
  Tot (λ k=>G7 k l l (l.length:Int) (i:Int)) (λ r=>r=bif chk (Wt l i) (l.drop i) then .inr l else .inl false):=by
 unfold Few at hf
 intro n
 induction n with
 |zero=>
  intro i hn hi
  refine Tot.succ ?_
  simp only[G7]
  refine Fib (by omega) (Fdb ?_)
  rw[Wk (by omega)]
  cases Wt l i<;>rfl
 |succ n ih=>
  intro i hn hi
  have hlt:i<l.length:=by omega
  refine Tot.succ ?_
  simp only[G7]
  refine Fhb (by omega) (Fhb (by omega) (Fhb (by omega) ?_))
  rw[show toNat (i:Int)=i from Vb i,w64 (n:=(i:Int)+1) (by omega) (by omega),Lla l i hlt]
  have h1:=ih (i+1) (by omega) (by omega)
  have e:(((i+1:Nat)):Int)=(i:Int)+1:=by omega
  rw[e]at h1
  refine Fpb (Rca (l.getD i Jx) (hs _ (A4 hlt))) ?_
  cases hb:Mo (l.getD i Jx)
  ·exact Fgb rfl (Fdb (by simp))
  refine Ffb rfl ?_
  rw[Vy]
  refine Fkb (λ h0=>?_) (λ h0=>?_)
  ·rw[w64 (n:=(i:Int)-1) (by omega) (by omega)]
   refine Fhb (by omega) (Fhb (by omega) ?_)
   rw[show toNat ((i:Int)-1)=i-1 by omega,decide_eq_true (show 0<i by omega),cond_true]
   have et:(!(Op.bytesLess (l.getD (i-1) Jx).1.toList (l.getD i Jx).1.toList)) = !(tlt (l.getD (i-1) Jx).1 (l.getD i Jx).1):=rfl
   refine Fjb (λ ht=>?_) (λ ht=>?_)
   ·have ht':(!(tlt (l.getD (i-1) Jx).1 (l.getD i Jx).1))=true:=ht
    rw[Vv]at ht'
    exact Fdb (by rw[ht'];rfl)
   ·have ht':(!(tlt (l.getD (i-1) Jx).1 (l.getD i Jx).1))=false:=ht
    rw[Wh]at ht'
    rw[ht',Vy]
    exact h1
  ·rw[decide_eq_false (show ¬ 0<i by omega),cond_false,Vy]
   exact h1
def J7a (l:List Row) (hf:Few l) (hs:Ps l):∀ (n i:Nat),l.length-i=n→i≤l.length→
  Tot (λ k=>G4 k l (i:Int)) (λ r=>r=bif chk (Wt l i) (l.drop i) then .inr l else .inl false):=by
 unfold Few at hf
 intro n
 induction n with
 |zero=>
  intro i hn hi
  refine Tot.succ ?_
  simp only[G4]
  refine Fib (by omega) (Fdb ?_)
  rw[Wk (by omega)]
  cases Wt l i<;>rfl
 |succ n ih=>
  intro i hn hi
  have hlt:i<l.length:=by omega
  refine Tot.succ ?_
  simp only[G4]
  refine Fhb (by omega) (Fhb (by omega) (Fhb (by omega) ?_))
  rw[show toNat (i:Int)=i from Vb i,w64 (n:=(i:Int)+1) (by omega) (by omega),Lla l i hlt]
  have h1:=ih (i+1) (by omega) (by omega)
  have e:(((i+1:Nat)):Int)=(i:Int)+1:=by omega
  rw[e]at h1
  refine Fpb (Rda (l.getD i Jx) (hs _ (A4 hlt))) ?_
  cases hb:Mo (l.getD i Jx)
  ·exact Fgb rfl (Fdb (by simp))
  refine Ffb rfl ?_
  rw[Vy]
  refine Fkb (λ h0=>?_) (λ h0=>?_)
  ·rw[w64 (n:=(i:Int)-1) (by omega) (by omega)]
   refine Fhb (by omega) (Fhb (by omega) (Fhb (by omega) (Fhb (by omega) ?_)))
   rw[show toNat ((i:Int)-1)=i-1 by omega,decide_eq_true (show 0<i by omega),cond_true]
   refine Fjb (λ ht=>?_) (λ ht=>?_)
   ·have ht':(!(tlt (l.getD (i-1) Jx).1 (l.getD i Jx).1))=true:=ht
    rw[Vv]at ht'
    exact Fdb (by rw[ht'];rfl)
   ·have ht':(!(tlt (l.getD (i-1) Jx).1 (l.getD i Jx).1))=false:=ht
    rw[Wh]at ht'
    rw[ht',Vy]
    exact h1
  ·rw[decide_eq_false (show ¬ 0<i by omega),cond_false,Vy]
   exact h1
def Lma (l:List Row) (hf:Few l) (hs:Ps l):Tot (λ k=>Ef k l) (λ r=>r=J7 l):=by
 unfold Ef J7
 refine Fpb (J6a l hf hs _ 0 rfl (Vs _)) ?_
 rw[Wp]
 show Tot _ (λ r=>r=(chk none l&&_))
 cases hc:chk none l with
 |true=>rw[show chk (Wt l 0) l=true from hc];exact Fdb (by rw[Vy])
 |false=>rw[show chk (Wt l 0) l=false from hc];exact Fdb rfl
def Lna (l:List Row) (hf:Few l) (hs:Ps l):Tot (λ k=>Eb k l) (λ r=>r=J7 l):=by
 unfold Eb J7
 refine Fpb (J7a l hf hs _ 0 rfl (Vs _)) ?_
 rw[Wp]
 cases hc:chk none l with
 |true=>rw[show chk (Wt l 0) l=true from hc];exact Fdb (by rw[Vy])
 |false=>rw[show chk (Wt l 0) l=false from hc];exact Fdb rfl
def J8a:∀ (p:Option ByteArray) (l:List Row),chk p l=true↔Bo l∧(∀ r∈l,Mo r=true)∧(∀ q,p=some q→∀ r∈l,tlt q r.1=true)
 |p,[]=>by
  have:chk p []=true:=by cases p<;>rfl
  simp[this,Bo]
 |none,r::l=>by
  simp only[chk,Va,J8a (some r.1) l,Bo,Wg]
  constructor
  ·rintro⟨h1,h2,h3,h4⟩
   exact⟨⟨λ a ha=>h4 _ rfl a ha,h2⟩,λ a ha=>by rcases Vl.1 ha with rfl|ha;exact h1;exact h3 a ha,λ q hq=>by cases hq⟩
  ·rintro⟨⟨h1,h2⟩,h3,_⟩
   exact⟨h3 r (by simp),h2,λ a ha=>h3 a (Vi _ ha),λ q hq a ha=>by cases hq;exact h1 a ha⟩
 |some q,r::l=>by
  simp only[chk,Va,J8a (some r.1) l,Bo,Wg]
  constructor
  ·rintro⟨h1,h0,h2,h3,h4⟩
   refine⟨⟨λ a ha=>h4 _ rfl a ha,h2⟩,λ a ha=>by rcases Vl.1 ha with rfl|ha;exact h1;exact h3 a ha,λ q' hq a ha=>?_⟩
   cases hq
   rcases Vl.1 ha with rfl|ha
   ·exact h0
   ·exact M7 h0 (h4 _ rfl a ha)
  ·rintro⟨⟨h1,h2⟩,h3,h4⟩
   exact⟨h3 r (by simp),h4 q rfl r (by simp),h2,λ a ha=>h3 a (Vi _ ha),λ q' hq a ha=>by cases hq;exact h1 a ha⟩
def Kw {l:List Row}:J7 l=true↔Bo l∧(∀ r∈l,Mo r=true)∧l.length≤60:=by
 unfold J7
 simp only[Va,J8a,decide_eq_true_eq]
 constructor
 ·rintro⟨⟨h1,h2,_⟩,h3⟩
  exact⟨h1,h2,by omega⟩
 ·rintro⟨h1,h2,h3⟩
  exact⟨⟨h1,h2,λ q hq=>by cases hq⟩,by omega⟩
def Nl (a b:List Row):List Row:=b.foldl mrg a
def Dja (a b:List Row):a.length≤(Nl a b).length∧(Nl a b).length≤a.length+b.length:=by
 induction b generalizing a with
 |nil=>simp[Nl]
 |cons x b ih=>
  have h1:=ih (mrg a x)
  have h2:=Dia a x
  show _≤(Nl (mrg a x) b).length∧(Nl (mrg a x) b).length≤_
  simp only[Vc]
  omega
def Loa {a b:List Row} {r:Row} (h:r∈Nl a b):r∈a∨r∈b:=by
 induction b generalizing a with
 |nil=>exact .inl h
 |cons x b ih=>
  rcases ih (a:=mrg a x) h with h|h
  ·rcases J3a h with rfl|h
   ·exact .inr (by simp)
   ·exact .inl h
  ·exact .inr (Vi _ h)
def N2 {a b:List Row} (h:Bo a):Bo (Nl a b):=by
 induction b generalizing a with
 |nil=>exact h
 |cons x b ih=>exact ih (Rm h)
def Dka (b:List Row) (hb:Few b):∀ (n i:Nat) (a:List Row),b.length-i=n→i≤b.length→a.length+(b.length-i)≤1000000000000→
  Tot (λ k=>Dw k a b (b.length:Int) (i:Int)) (λ r=>r=Nl a (b.drop i)):=by
 unfold Few at hb
 intro n
 induction n with
 |zero=>
  intro i a hn hi hf
  refine Tot.succ ?_
  simp only[Dw]
  refine Fib (by omega) (Fdb ?_)
  rw[Wk (by omega)]
  rfl
 |succ n ih=>
  intro i a hn hi hf
  have hlt:i<b.length:=by omega
  refine Tot.succ ?_
  simp only[Dw]
  refine Fhb (by omega) (Fhb (by omega) (Fhb (by omega) ?_))
  rw[show toNat (i:Int)=i from Vb i,w64 (n:=(i:Int)+1) (by omega) (by omega),Ap (d:=Jx) hlt]
  refine Fpb (G1a a (b.getD i Jx) (by unfold Few;omega)) ?_
  have:=Dia a (b.getD i Jx)
  exact ih (i+1) (mrg a (b.getD i Jx)) (by omega) (by omega) (by omega)
def Bza (a b:List Row) (hf:a.length+b.length≤1000000000000):Tot (λ k=>Bu k a b) (λ r=>r=Nl a b):=by
 unfold Bu
 refine Feb (Fqb (Q:=λ r=>r=a) (Tg a (by unfold Few;omega)) rfl) ?_
 rintro r rfl
 refine Feb (Dka b (by unfold Few;omega) _ 0 r rfl (Vs _) (by omega)) ?_
 rintro y rfl
 rw[Wp]
 exact Fdb rfl
def Lw (l:List Row) (s:ByteArray):Option Row:=l.find? (λ r=>teq r.1 s)
def mx (a b:Row):Row:=bif Mu a b then b else a
def Rea (a b:Row):Mu a b=true↔a.2.1.1<b.2.1.1∨(a.2.1.1=b.2.1.1∧(a.2.1.2.1<b.2.1.2.1∨(a.2.1.2.1=b.2.1.2.1∧(a.2.1.2.2<b.2.1.2.2∨(a.2.1.2.2=b.2.1.2.2∧((a.2.2.1=false∧b.2.2.1=true)∨(a.2.2.1=b.2.2.1∧a.2.2.2<b.2.2.2))))))):=by
 unfold Mu
 cases hs:(!((a.2.1.1==b.2.1.1)&&((a.2.1.2.1==b.2.1.2.1)&&(a.2.1.2.2==b.2.1.2.2)))) with
 |true=>
  rw[cond_true,Pq]
  have hne:¬ (a.2.1.1=b.2.1.1∧a.2.1.2.1=b.2.1.2.1∧a.2.1.2.2=b.2.1.2.2):=by
   intro ⟨h1,h2,h3⟩
   rw[h1,h2,h3]at hs
   simp at hs
  omega
 |false=>
  rw[cond_false]
  simp only[Wh,Va,beq_iff_eq]at hs
  obtain⟨h1,h2,h3⟩:=hs
  cases ha:a.2.2.1<;>cases hb:b.2.2.1<;>simp[h1,h2,h3]
def J9a {a b:Row} (h:Mu a b=true):Mu b a=false:=by
 cases hb:Mu b a
 ·rfl
 rw[Rea]at h hb
 cases ha:a.2.2.1<;>cases hb':b.2.2.1<;>simp only[ha,hb']at h hb<;>simp at h hb<;>omega
def Zxa (a b:Row):mx (mx a b) b=mx a b:=by
 unfold mx
 cases h:Mu a b with
 |true=>
  have:Mu b b=false:=by
   cases hb:Mu b b with
   |false=>rfl
   |true=>have:=J9a hb;rw[hb]at this;cases this
  rw[cond_true,this]
  rfl
 |false=>rw[cond_false,h];rfl
def Nr {l:List Row} {s:ByteArray} {r:Row} (h:Lw l s=some r):r∈l∧r.1=s:=by
 unfold Lw at h
 exact⟨I6b h,Fe.1 (List.find?_some (p:=λ r:Row=>teq r.1 s) h)⟩
def Mp {l:List Row} (hs:Bo l) {r:Row} (h:r∈l):Lw l r.1=some r:=by
 induction l with
 |nil=>simp at h
 |cons a l ih=>
  unfold Bo at hs
  rw[Wg]at hs
  unfold Lw
  rw[Gfb]
  rcases Vl.1 h with rfl|h
  ·rw[Fe.2 rfl]
  ·have:teq a.1 r.1=false:=by
    cases ht:teq a.1 r.1
    ·rfl
    have h1:=hs.1 r h
    rw[Fe.1 ht,Ig]at h1
    cases h1
   rw[this]
   exact ih hs.2 h
def A1a:∀ {l m:List Row},Bo l→Bo m→(∀ s,Lw l s=Lw m s)→l=m
 |[],[],_,_,_=>rfl
 |[],b::m,_,hm,h=>by
  have:=Mp hm (r:=b) (by simp)
  rw[← h]at this
  simp[Lw]at this
 |a::l,[],hl,_,h=>by
  have:=Mp hl (r:=a) (by simp)
  rw[h]at this
  simp[Lw]at this
 |a::l,b::m,hl,hm,h=>by
  have hl':=hl
  have hm':=hm
  unfold Bo at hl hm
  rw[Wg]at hl hm
  have ha:=Mp hl' (r:=a) (by simp)
  have hb:=Mp hm' (r:=b) (by simp)
  have ea:a∈b::m:=(Nr (by rw[← h];exact ha)).1
  have eb:b∈a::l:=(Nr (by rw[h];exact hb)).1
  have hab:a=b:=by
   rcases Vl.1 ea with rfl|ea
   ·rfl
   ·rcases Vl.1 eb with rfl|eb
    ·rfl
    ·have h1:=hm.1 a ea
     have h2:=hl.1 b eb
     rw[Tf h1]at h2
     cases h2
  subst hab
  rw[A1a (l:=l) (m:=m) hl.2 hm.2 (λ s=>?_)]
  have hs:=h s
  unfold Lw at hs ⊢
  rw[Gfb,Gfb]at hs
  cases ht:teq a.1 s
  ·rw[ht]at hs;exact hs
  have none:∀ (k:List Row),(∀ r∈k,tlt a.1 r.1=true)→k.find? (λ r=>teq r.1 s)=none:=by
   intro k hk
   rw[List.find?_eq_none]
   intro r hr
   rw[Fe]
   intro e
   have:=hk r hr
   rw[e,← Fe.1 ht,Ig]at this
   cases this
  rw[none l hl.1,none m hm.1]
def Rfa {l:List Row} {x:Row} (hs:Bo l) (s:ByteArray):Lw (mrg l x) s=bif teq x.1 s then (match Lw l s with|some r=>some (mx r x)|none=>some x) else Lw l s:=by
 have hsm:=Rm (x:=x) hs
 have hget:∀ j (hj:j<l.length),l.getD j Jx=l[j]:=λ j hj=>by rw[Vd,Vk hj];rfl
 cases ht:teq x.1 s with
 |true=>
  have hxs:=Fe.1 ht
  rw[cond_true]
  unfold mrg
  split
  ·rename_i j hj
   obtain⟨_,h2,h3⟩:=Rl l 0 j hj
   rw[Gzb]at h3
   have hjl:j<l.length:=by omega
   have hname:(l.getD j Jx).1=x.1:=Fe.1 h3
   have hmem:l.getD j Jx∈l:=A4 hjl
   have hlk:Lw l s=some (l.getD j Jx):=by rw[← hxs,← hname];exact Mp hs hmem
   rw[hlk]
   show Lw (bif Mu (l.getD j Jx) x then l.set j x else l) s=some (mx (l.getD j Jx) x)
   unfold mx
   cases hb:Mu (l.getD j Jx) x
   ·rw[cond_false];exact hlk
   rw[cond_true]
   have:x∈l.set j x:=List.mem_set hjl x
   have hsm':Bo (l.set j x):=by
    have:=hsm
    unfold mrg at this
    rw[hj]at this
    simp only[hb,cond_true]at this
    exact this
   rw[← hxs]
   exact Mp hsm' this
  ·rename_i hj
   have hno:Lw l s=none:=by
    cases hl:Lw l s with
    |none=>rfl
    |some r=>
     obtain⟨h1,h2⟩:=Nr hl
     exact(Ul l 0 hj r h1 (h2.trans hxs.symm)).elim
   rw[hno]
   have hx:x∈mrg l x:=by unfold mrg;rw[hj];simp
   have:=Mp hsm hx
   unfold mrg at this
   rw[hj]at this
   rw[← hxs]
   exact this
 |false=>
  rw[cond_false]
  cases hl:Lw l s with
  |some r=>
   obtain⟨h1,h2⟩:=Nr hl
   have hr:r∈mrg l x:=by
    unfold mrg
    split
    ·rename_i j hj
     cases hb:Mu (l.getD j Jx) x
     ·exact h1
     rw[cond_true]
     obtain⟨i,hi,e⟩:=Gvb h1
     obtain⟨_,q2,q3⟩:=Rl l 0 j hj
     rw[Gzb]at q3
     have hij:i≠j:=by
      rintro rfl
      rw[hget i hi,e]at q3
      have:=Fe.1 q3
      rw[Fe.2 (this.symm.trans h2)]at ht
      cases ht
     rw[Zl]
     exact⟨i,by rw[Vx];exact hi,by rw[List.getElem_set_ne (Gub hij)];exact e⟩
    ·have:r∈l.take (Tz l x.1 l.length)++l.drop (Tz l x.1 l.length):=by rw[Wm];exact h1
     rcases Vn.1 this with h|h
     ·exact Wa _ h
     ·exact Vq _ (Vi _ h)
   rw[← h2]
   exact Mp hsm hr
  |none=>
   cases hm:Lw (mrg l x) s with
   |none=>rfl
   |some r=>
    exfalso
    obtain⟨h1,h2⟩:=Nr hm
    rcases J3a h1 with rfl|h1
    ·rw[Fe.2 h2]at ht;cases ht
    ·have:=Mp hs h1
     rw[h2,hl]at this
     cases this
def cmb:Option Row→Option Row→Option Row
 |some a,some b=>some (mx a b)
 |some a,none=>some a
 |none,y=>y
def Um {a b:List Row} (ha:Bo a) (hb:Bo b) (s:ByteArray):Lw (Nl a b) s=cmb (Lw a s) (Lw b s):=by
 induction b generalizing a with
 |nil=>show Lw a s=cmb (Lw a s) none;cases Lw a s<;>rfl
 |cons x b ih=>
  have hb':=hb
  unfold Bo at hb
  rw[Wg]at hb
  show Lw (Nl (mrg a x) b) s=_
  rw[ih (Rm ha) hb.2,Rfa ha s]
  have e:Lw (x::b) s=bif teq x.1 s then some x else Lw b s:=by
   unfold Lw
   rw[Gfb]
   cases teq x.1 s<;>rfl
  rw[e]
  cases ht:teq x.1 s
  ·rfl
  have hno:Lw b s=none:=by
   cases hl:Lw b s with
   |none=>rfl
   |some r=>
    obtain⟨h1,h2⟩:=Nr hl
    have:=hb.1 r h1
    rw[h2,← Fe.1 ht,Ig]at this
    cases this
  rw[hno]
  cases Lw a s<;>rfl
def A2a {a b:List Row} (ha:Bo a) (hb:Bo b):Nl (Nl a b) b=Nl a b:=
 A1a (N2 (N2 ha)) (N2 ha) λ s=>by
  rw[Um (N2 ha) hb,Um ha hb]
  cases Lw a s<;>cases Lw b s<;>first|rfl|skip
  ·rename_i b;show some (mx b b)=some b;unfold mx;cases Mu b b<;>rfl
  ·rename_i a b;show some (mx (mx a b) b)=some (mx a b);rw[Zxa]

def Dla:Nat→Nat→List Int
 |0,n=>[(n:Int)]
 |f+1,n=>if n≤127 then [(n:Int)] else ((n % 128+128:Nat):Int)::Dla f (n/128)
def Pb (n:Nat):List Int:=Dla 4 n
def Xc:Nat→Nat→Nat→List Int→Option (Nat×Nat)
 |0,_,_,_=>none
 |_+1,_,_,[]=>none
 |f+1,k,acc,x::l=>if 128≤x then Xc f (k+1) (acc+x.toNat % 128*128 ^ k) l
  else if (x=0∧0<k)∨1000000000<acc+x.toNat % 128*128 ^ k then none else some (acc+x.toNat % 128*128 ^ k,k+1)
def Q5 (l:List Int) (p:Nat):Option (Nat×Nat):=match Xc 5 0 0 (l.drop p) with
 |some (n,c)=>some (n,p+c)
 |none=>none
def Rga:∀ (f n:Nat),(Dla f n).length≤f+1∧0<(Dla f n).length
 |0,n=>by simp[Dla]
 |f+1,n=>by
  unfold Dla
  split
  ·simp
  ·have:=Rga f (n/128)
   simp only[Vc]
   omega
def Si:∀ (f k acc:Nat) (l:List Int) (n c:Nat),Aw l→Xc f k acc l=some (n,c)→acc<128 ^ k→k<c∧c≤k+f∧c-k≤l.length∧n≤1000000000
 |0,_,_,_,_,_,_,h,_=>by simp[Xc]at h
 |_+1,_,_,[],_,_,_,h,_=>by simp[Xc]at h
 |f+1,k,acc,x::l,n,c,hb,h,ha=>by
  have hx:=hb x (by simp)
  unfold Xc at h
  split at h
  ·have h1:acc+x.toNat % 128*128 ^ k<128 ^ (k+1):=by
    have h2:x.toNat % 128≤127:=by omega
    have h3:=Wn (128 ^ k) h2
    rw[G8b]
    omega
   have:=Si f (k+1) _ l n c (λ y hy=>hb y (Vi _ hy)) h h1
   simp only[Vc]
   omega
  ·split at h
   ·cases h
   ·simp only[Vg,Wb]at h
    obtain⟨rfl,rfl⟩:=h
    simp only[Vc]
    omega
def Rha:∀ (f k acc:Nat) (l:List Int) (n c:Nat),Aw l→Xc (f+1) k acc l=some (n,c)→acc<128 ^ k→∃ m,n=acc+m*128 ^ k∧l=Dla f m++l.drop (c-k)∧(m=0→c=k+1∧(0<k→False))∧m<128 ^ (f+1)
 |0,k,acc,[],n,c,hb,h,ha=>by simp[Xc]at h
 |_+1,k,acc,[],n,c,hb,h,ha=>by simp[Xc]at h
 |0,k,acc,x::l,n,c,hb,h,ha=>by
  have hx:=hb x (by simp)
  unfold Xc at h
  split at h
  ·simp[Xc]at h
  ·rename_i h128
   split at h
   ·cases h
   ·rename_i hz
    simp only[Vg,Wb]at h
    obtain⟨rfl,rfl⟩:=h
    have hm:x.toNat % 128=x.toNat:=G4b (by omega)
    refine⟨x.toNat,by rw[hm],?_,λ h0=>⟨rfl,λ hk=>hz (.inl ⟨by omega,hk⟩)⟩,by omega⟩
    rw[show k+1-k=1 by omega]
    show x::l=[((x.toNat:Nat):Int)]++l
    rw[show ((x.toNat:Nat):Int)=x by omega]
    rfl
 |f+1,k,acc,x::l,n,c,hb,h,ha=>by
  have hx:=hb x (by simp)
  have hb':Aw l:=λ y hy=>hb y (Vi _ hy)
  unfold Xc at h
  split at h
  ·rename_i h128
   have h1:acc+x.toNat % 128*128 ^ k<128 ^ (k+1):=by
    have h2:x.toNat % 128≤127:=by omega
    have h3:=Wn (128 ^ k) h2
    rw[G8b]
    omega
   obtain⟨m,e1,e2,e3,e4⟩:=Rha f (k+1) _ l n c hb' h h1
   have hbd:=Si (f+1) (k+1) _ l n c hb' h h1
   have hm0:m≠0:=λ h0=>(e3 h0).2 (by omega)
   refine⟨x.toNat % 128+m*128,?_,?_,λ h0=>by omega,?_⟩
   ·rw[e1,G8b,Yv]
    have:m*128*128 ^ k=m*(128 ^ k*128):=by rw[Nat.mul_assoc,Iqb 128]
    omega
   ·unfold Dla
    rw[if_neg (by omega),show (x.toNat % 128+m*128)/128=m by omega,show (x.toNat % 128+m*128) % 128=x.toNat % 128 by omega,show c-k=(c-(k+1))+1 by omega,List.drop_succ_cons,List.cons_append,← e2]
    congr 1
    omega
   ·rw[G8b]
    omega
  ·rename_i h128
   split at h
   ·cases h
   ·rename_i hz
    simp only[Vg,Wb]at h
    obtain⟨rfl,rfl⟩:=h
    have hm:x.toNat % 128=x.toNat:=G4b (by omega)
    have hp:128≤128 ^ (f+1+1):=by
     have:=Nat.pow_le_pow_right (show 0<128 by decide) (show 1≤f+1+1 by omega)
     simpa using this
    refine⟨x.toNat,by rw[hm],?_,λ h0=>⟨rfl,λ hk=>hz (.inl ⟨by omega,hk⟩)⟩,by omega⟩
    rw[show k+1-k=1 by omega]
    unfold Dla
    rw[if_pos (by omega)]
    show x::l=[((x.toNat:Nat):Int)]++l
    rw[show ((x.toNat:Nat):Int)=x by omega]
    rfl
def Ria:∀ (f k acc m:Nat) (rest:List Int),m<128 ^ (f+1)→(0<k→0<m)→acc+m*128 ^ k≤1000000000→Xc (f+1) k acc (Dla f m++rest)=some (acc+m*128 ^ k,k+(Dla f m).length)
 |0,k,acc,m,rest,hm,hk,hn=>by
  show Xc 1 k acc ((m:Int)::rest)=_
  unfold Xc
  have h1:m<128:=by simpa using hm
  rw[if_neg (by omega),if_neg (by
   rw[show (m:Int).toNat % 128=m by rw[Vb];exact G4b h1]
   omega)]
  rw[show (m:Int).toNat % 128=m by rw[Vb];exact G4b h1]
  rfl
 |f+1,k,acc,m,rest,hm,hk,hn=>by
  unfold Dla
  by_cases h:m≤127
  ·rw[if_pos h]
   show Xc (f+2) k acc ((m:Int)::rest)=_
   unfold Xc
   rw[if_neg (by omega),if_neg (by
    rw[show (m:Int).toNat % 128=m by rw[Vb];exact G4b (by omega)]
    omega)]
   rw[show (m:Int).toNat % 128=m by rw[Vb];exact G4b (by omega)]
   rfl
  ·rw[if_neg h]
   show Xc (f+2) k acc (((m % 128+128:Nat):Int)::(Dla f (m/128)++rest))=_
   unfold Xc
   have e1:(((m % 128+128:Nat):Int)).toNat % 128=m % 128:=by rw[Vb];omega
   rw[if_pos (by omega),e1]
   have hmod:m=m % 128+m/128*128:=by omega
   have hm2:m/128<128 ^ (f+1):=by rw[G8b]at hm;omega
   have e2:acc+m % 128*128 ^ k+m/128*128 ^ (k+1)=acc+m*128 ^ k:=by
    have h2:m*128 ^ k=(m % 128+m/128*128)*128 ^ k:=by rw[← hmod]
    rw[h2,Yv,G8b]
    have:m/128*128*128 ^ k=m/128*(128 ^ k*128):=by rw[Nat.mul_assoc,Iqb 128]
    omega
   rw[Ria f (k+1) (acc+m % 128*128 ^ k) (m/128) rest hm2 (λ _=>by omega) (by rw[e2];exact hn),e2,Vc]
   simp only[Vg,Wb,true_and]
   omega
def Lpa (pre:List Int) (n:Nat) (rest:List Int) (hn:n≤1000000000):Q5 (pre++(Pb n++rest)) pre.length=some (n,pre.length+(Pb n).length):=by
 unfold Q5
 rw[Zg]
 have:=Ria 4 0 0 n rest (by omega) (by omega) (by omega)
 unfold Pb
 rw[this]
 simp
def Un {l:List Int} {p n q:Nat} (hb:Aw l) (h:Q5 l p=some (n,q)):l.drop p=Pb n++l.drop q∧n≤1000000000∧p<q∧q≤l.length:=by
 unfold Q5 at h
 split at h
 ·rename_i m c hd
  simp only[Vg,Wb]at h
  obtain⟨rfl,rfl⟩:=h
  have hb':Aw (l.drop p):=λ y hy=>hb y (Zk hy)
  have hbd:=Si 5 0 0 _ _ _ hb' hd (by decide)
  obtain⟨m',e1,e2,_,_⟩:=Rha 4 0 0 _ _ _ hb' hd (by decide)
  have e3:m=m':=by rw[e1];simp
  subst e3
  rw[Wf]at hbd
  refine⟨?_,hbd.2.2.2,by omega,by omega⟩
  rw[Gzb,Yn]at e2
  exact e2
 ·cases h
def Ehb (i:Nat) (hi:i<5):(2:Int) ^ (min (toNat (wrap .u64 (wrap .i64 (7*(i:Int))))) (IntKind.bits .i64))=((128 ^ i:Nat):Int):=by
 have:i=0∨i=1∨i=2∨i=3∨i=4:=by omega
 rcases this with rfl|rfl|rfl|rfl|rfl<;>decide
def sh7 (i:Nat) (hi:i<5):¬ (wrap .i64 (7*(i:Int))<0)∧¬ (wrap .u64 (wrap .i64 (7*(i:Int)))<0):=by
 have:i=0∨i=1∨i=2∨i=3∨i=4:=by omega
 rcases this with rfl|rfl|rfl|rfl|rfl<;>decide
def A3a (i:Nat) (hi:i≤5):128 ^ i≤34359738368:=by
 have:=Nat.pow_le_pow_right (show 0<128 by decide) hi
 simpa using this
def Qq (n:Nat) (h:n<18446744073709551616):(ofInt (IntKind.bits .i64) (n:Int)).toNat=n:=by
 rw[H5b]
 show ((n:Int) % ((2 ^ 64:Nat):Int)).toNat=n
 rw[Int.emod_eq_of_lt (by omega) (by omega)]
 exact Vb n
def Xqa (n:Nat) (h:n<9223372036854775808):wrap .i64 ((ofInt (IntKind.bits .i64) (n:Int) &&& ofInt (IntKind.bits .i64) 127).toNat)=((n % 128:Nat):Int):=by
 rw[Hkb,Qq n (by omega),show (ofInt (IntKind.bits .i64) 127).toNat=127 from by decide,show (127:Nat)=2 ^ 7-1 from rfl,Hib]
 exact w64 (by omega) (by omega)
def Lqa (a m i:Nat) (ha:a<128 ^ i) (hm:m<128) (hi:i<5):wrap .i64 ((ofInt (IntKind.bits .i64) (a:Int) ||| ofInt (IntKind.bits .i64) ((m*128 ^ i:Nat):Int)).toNat)=((a+m*128 ^ i:Nat):Int):=by
 have hp:=A3a i (by omega)
 have hmul:m*128 ^ i≤127*34359738368:=Ipb (by omega) hp
 rw[BitVec.toNat_or,Qq a (by omega),Qq _ (by omega),Nat.or_comm]
 have e:(128:Nat) ^ i=2 ^ (7*i):=by rw[Nat.pow_mul]
 have h2:=Nat.two_pow_add_eq_or_of_lt (i:=7*i) (b:=a) (by rw[← e];exact ha) m
 rw[← e,Iqb]at h2
 rw[← h2,Zw]
 exact w64 (by omega) (by omega)
def Ooa (l:List Int) (p:Int):Int×Int×Bool:=if p<0 then (0,0,false) else match Q5 l p.toNat with
 |some (n,q)=>((n:Int),(q:Int),true)
 |none=>(0,0,false)
def Ezb (p:Nat):Option (Nat×Nat)→Int×Int×Bool
 |some (n,c)=>((n:Int),((p+c:Nat):Int),true)
 |none=>(0,0,false)
def Lra (r:Sum (Int×Int×Bool) Unit):Int×Int×Bool:=Sum.elim (λ y=>y) (λ _=>(0,0,false)) r
def Rja {l:List Int} {p:Nat} (h:p<l.length):l.drop p=l.getD p 0::l.drop (p+1):=Ap h

def Npa (l:List Int) (hb:Aw l) (hl:l.length≤1000000000000) (p:Nat) (hp:p<l.length):∀ (f i acc:Nat),f+i=5→acc<128 ^ i→
  Tot (λ k=>F4 k l (p:Int) (acc:Int) (i:Int)) (λ r=>Lra r=Ezb p (Xc f i acc (l.drop (p+i)))):=by
 intro f
 induction f with
 |zero=>
  intro i acc hi ha
  refine Tot.succ ?_
  simp only[F4]
  exact Fib (by omega) (Fdb rfl)
 |succ f ih=>
  intro i acc hi ha
  have hi5:i<5:=by omega
  refine Tot.succ ?_
  simp only[F4]
  refine Fhb (by omega) (Fhb (by omega) (Fhb (by omega) ?_))
  rw[w64 (n:=(p:Int)+(i:Int)) (by omega) (by omega),show toNat ((p:Int)+(i:Int))=p+i by omega]
  refine Fkb (λ h=>?_) (λ h=>?_)
  ·have hlt:p+i<l.length:=by omega
   refine Fhb (by omega) (Fhb (by omega) ?_)
   have hx:=hb (l.getD (p+i) 0) (A4 hlt)
   rw[Rja hlt,Ehb i hi5]
   have he:Xc (f+1) i acc (l.getD (p+i) 0::l.drop (p+i+1))=if 128≤l.getD (p+i) 0 then Xc f (i+1) (acc+(l.getD (p+i) 0).toNat % 128*128 ^ i) (l.drop (p+i+1)) else if (l.getD (p+i) 0=0∧0<i)∨1000000000<acc+(l.getD (p+i) 0).toNat % 128*128 ^ i then none else some (acc+(l.getD (p+i) 0).toNat % 128*128 ^ i,i+1):=rfl
   rw[he]
   generalize l.getD (p+i) 0=x at hx ⊢
   obtain⟨v,rfl⟩:∃ v:Nat,x=(v:Int):=⟨x.toNat,by omega⟩
   rw[Vb]
   have hp1:=A3a i (by omega)
   have hmul:v % 128*128 ^ i≤127*34359738368:=Ipb (by omega) hp1
   rw[w64 (n:=(v:Int)) (by omega) (by omega),Xqa v (by omega)]
   have e1:((v % 128:Nat):Int)*((128 ^ i:Nat):Int)=((v % 128*128 ^ i:Nat):Int):=by push_cast;rfl
   rw[e1,w64 (n:=((v % 128*128 ^ i:Nat):Int)) (by omega) (by omega),Lqa acc (v % 128) i ha (by omega) hi5,w64 (n:=(i:Int)+1) (by omega) (by omega),w64 (n:=(p:Int)+(i:Int)+1) (by omega) (by omega)]
   refine Fib (sh7 i hi5).2 ?_
   refine Fkb (λ h128=>?_) (λ h128=>?_)
   ·rw[if_pos (by omega)]
    have h1:acc+v % 128*128 ^ i<128 ^ (i+1):=by
     have h2:v % 128≤127:=by omega
     have h3:=Wn (128 ^ i) h2
     rw[G8b]
     omega
    have:=ih (i+1) (acc+v % 128*128 ^ i) (by omega) h1
    rw[show p+(i+1)=p+i+1 by omega]at this
    exact this
   ·rw[if_neg (by omega)]
    have big:Tot (λ _:Nat=>cond (decide (((acc+v % 128*128 ^ i:Nat):Int) > 1000000000)) (some (Sum.inl ((0:Int),(0:Int),false))) (some (Sum.inl (((acc+v % 128*128 ^ i:Nat):Int),(p:Int)+(i:Int)+1,true))):Nat→Option (Sum (Int×Int×Bool) Unit))
      (λ r=>Lra r=if 1000000000<acc+v % 128*128 ^ i then (0,0,false) else (((acc+v % 128*128 ^ i:Nat):Int),((p+(i+1):Nat):Int),true)):=by
     refine Fkb (λ hbig=>?_) (λ hbig=>?_)
     ·rw[if_pos (by omega)];exact Fdb rfl
     ·rw[if_neg (by omega)]
      refine Fdb ?_
      show (_,_,_)=_
      rw[show (p:Int)+(i:Int)+1=((p+(i+1):Nat):Int) by omega]
    have goal:∀ c:Prop,[Decidable c]→(if c∨1000000000<acc+v % 128*128 ^ i then none else some (acc+v % 128*128 ^ i,i+1))=if c then none else if 1000000000<acc+v % 128*128 ^ i then (none:Option (Nat×Nat)) else some (acc+v % 128*128 ^ i,i+1):=by
     intro c _
     by_cases h1:c<;>by_cases h2:1000000000<acc+v % 128*128 ^ i<;>simp[h1,h2]
    rw[goal]
    have fin:(Ezb p (if 1000000000<acc+v % 128*128 ^ i then (none:Option (Nat×Nat)) else some (acc+v % 128*128 ^ i,i+1)))=if 1000000000<acc+v % 128*128 ^ i then (0,0,false) else (((acc+v % 128*128 ^ i:Nat):Int),((p+(i+1):Nat):Int),true):=by
     split<;>rfl
    refine Fkb (λ hi0=>?_) (λ hi0=>?_)
    ·refine Fjb (λ h0=>?_) (λ h0=>?_)
     ·have hv:v=0:=by
       have:=beq_iff_eq.1 h0
       omega
      rw[if_pos ⟨by omega,by omega⟩];exact Fdb rfl
     ·have hv:v≠0:=by
       intro e
       subst e
       simp at h0
      rw[if_neg (by omega),fin];exact big
    ·rw[if_neg (by omega),fin];exact big
  ·refine Fdb ?_
   rw[Wk (by omega)]
   rfl
def Uo (l:List Int) (hb:Aw l) (hl:l.length≤1000000000000) (p:Int):Tot (λ k=>Dk k l p) (λ r=>r=Ooa l p):=by
 unfold Dk Ooa
 by_cases h0:p<0
 ·rw[if_pos h0]
  refine Feb (Q:=λ r=>r = .inr ()) ?_ ?_
  ·refine Tot.succ ?_
   simp only[F4]
   exact Fhb (by omega) (Fib (by omega) (Fdb rfl))
  ·rintro r rfl
   exact Fdb rfl
 ·rw[if_neg h0]
  by_cases h1:p<(l.length:Int)
  ·obtain⟨n,rfl⟩:∃ n:Nat,p=(n:Int):=⟨p.toNat,by omega⟩
   rw[Vb]
   refine Feb (Npa l hb hl n (by omega) 5 0 0 rfl (by decide)) ?_
   intro r hr
   unfold Q5
   rw[Zt]at hr
   have hr':Lra r=(match (match Xc 5 0 0 (l.drop n) with|some (m,c)=>some (m,n+c)|none=>none) with|some (m,q)=>((m:Int),(q:Int),true)|none=>((0:Int),(0:Int),false)):=by
    rw[hr]
    cases Xc 5 0 0 (l.drop n) with
    |none=>rfl
    |some mc=>rfl
   refine Tot.mono (Q:=λ y=>y=Lra r) ?_ (λ y hy=>hy.trans hr')
   cases r with
   |inl y=>exact Fdb rfl
   |inr z=>exact Fdb rfl
  ·have e:Q5 l p.toNat=none:=by
    unfold Q5
    rw[Wk (by omega)]
    rfl
   rw[e]
   refine Feb (Q:=λ r=>r = .inr ()) ?_ ?_
   ·refine Tot.succ ?_
    simp only[F4]
    exact Fhb (by omega) (Fhb (by omega) (Fib h1 (Fdb rfl)))
   ·rintro r rfl
    exact Fdb rfl
def Ch (n:Int):Nat:=(max 0 (min n 1000000000)).toNat
def P7 (n:Int):Ch n≤1000000000:=by unfold Ch;omega
def A4a {n:Int} (h0:0≤n) (h1:n≤1000000000):(Ch n:Int)=n:=by unfold Ch;omega
def Rka (n:Nat) (h:n≤255):wrap .u8 (n:Int)=(n:Int):=by
 rw[H6b]
 omega
def Nqa:∀ (f n:Nat) (out:List Int),n<128 ^ (f+1)→f≤4→out.length+f≤1000000000010→
  Tot (λ k=>D0 k (n:Int) out) (λ r=>∃ m:Nat,r.1=(m:Int)∧m≤127∧r.2++[(m:Int)]=out++Dla f n∧r.2.length≤out.length+f):=by
 intro f
 induction f with
 |zero=>
  intro n out hn hf hl
  refine Tot.succ ?_
  simp only[D0]
  have:n<128:=by simpa using hn
  exact Fib (by omega) (Fdb ⟨n,rfl,by omega,rfl,by simp⟩)
 |succ f ih=>
  intro n out hn hf hl
  refine Tot.succ ?_
  simp only[D0]
  refine Fkb (λ h=>?_) (λ h=>?_)
  ·have hn2:n/128<128 ^ (f+1):=by rw[G8b]at hn;omega
   have hn3:n<4398046511104:=by
    have:=A3a (f+1) (by omega)
    rw[G8b]at hn
    omega
   have e1:wrap .i64 ((ofInt (IntKind.bits .i64) ((n % 128:Nat):Int) ||| ofInt (IntKind.bits .i64) 128).toNat)=((n % 128+128:Nat):Int):=by
    have:=Lqa (n % 128) 1 1 (by omega) (by omega) (by omega)
    exact this
   have e2:Int.fdiv (n:Int) (2 ^ (min (toNat 7) (IntKind.bits .i64)))=((n/128:Nat):Int):=by
    have:(2:Int) ^ (min (toNat 7) (IntKind.bits .i64))=128:=by decide
    rw[this,Zza _ (by omega)]
    omega
   rw[Xqa n (by omega),e1,e2,Rka _ (by omega)]
   refine Flb (by simp only[Vc,Vj];omega) ?_
   refine(ih (n/128) (out++[((n % 128+128:Nat):Int)]) hn2 (by omega) (by simp only[Ve,Vc,Vj];omega)).mono ?_
   rintro r ⟨m,h1,h2,h3,h4⟩
   refine⟨m,h1,h2,?_,by simp only[Ve,Vc,Vj]at h4;omega⟩
   rw[h3,Vp]
   congr 1
   conv => { rhs;unfold Dla }
   rw[if_neg (by omega)]
   rfl
  ·refine Fdb ⟨n,rfl,by omega,?_,by show out.length≤out.length+(f+1);omega⟩
   unfold Dla
   rw[if_pos (by omega)]
def Uq (out:List Int) (n:Int) (hl:out.length≤1000000000000):Tot (λ k=>Dl k out n) (λ r=>r=out++Pb (Ch n)):=by
 have hc:=P7 n
 have fin:Tot (λ k=>(D0 k ((Ch n:Nat):Int) (([]:List Int)++out)).bind λ r1=>cond (Nat.ble ((length r1.2+length [wrap .u8 r1.1])*1) 140737488355328) (some (r1.2++[wrap .u8 r1.1])) none) (λ r=>r=out++Pb (Ch n)):=by
  rw[Vz]
  refine Feb (Nqa 4 (Ch n) out (by omega) (by omega) (by omega)) ?_
  rintro r ⟨m,h1,h2,h3,h4⟩
  rw[h1,Rka m (by omega)]
  exact Flb (by simp only[Vc,Vj];omega) (Fdb h3)
 unfold Dl
 refine Flb (by simp only[Vj];omega) ?_
 refine Fkb (λ h1=>?_) (λ h1=>?_)
 ·refine Fib (by omega) ?_
  have e:((Ch n:Nat):Int)=1000000000:=by unfold Ch;omega
  rw[e]at fin
  exact fin
 ·refine Fkb (λ h2=>?_) (λ h2=>?_)
  ·have e:((Ch n:Nat):Int)=0:=by unfold Ch;omega
   rw[e]at fin
   exact fin
  ·have e:((Ch n:Nat):Int)=n:=by unfold Ch;omega
   rw[e]at fin
   exact fin
def No (n:Nat):(Pb n).length≤5∧0<(Pb n).length:=Rga 4 n
def C0a:∀ (f n:Nat),n<128 ^ (f+1)→Aw (Dla f n)
 |0,n,hn=>by
  intro x hx
  simp only[Dla,Vt]at hx
  have:n<128:=by simpa using hn
  omega
 |f+1,n,hn=>by
  unfold Dla
  split
  ·intro x hx
   simp only[Vt]at hx
   omega
  ·intro x hx
   rcases Vl.1 hx with rfl|hx
   ·omega
   ·exact C0a f (n/128) (by rw[G8b]at hn;omega) x hx
def Nra (n:Nat) (hn:n≤1000000000):Aw (Pb n):=C0a 4 n (by omega)
def C1a (s:ByteArray):Aw (bytesOf s):=by
 intro x hx
 unfold bytesOf at hx
 obtain⟨b,_,rfl⟩:=Yu.1 hx
 have:=b.toNat_lt
 omega
def Pt (s:ByteArray):(bytesOf s).length=s.size:=by
 unfold bytesOf
 rw[Wc]
 exact Yw
def Tj (s:ByteArray):M1 (bytesOf s)=s:=by
 unfold M1 bytesOf
 rw[Gmb]
 have:(λ n:Int=>UInt8.ofNat n.toNat) ∘ (λ b:UInt8=>(b.toNat:Int))=id:=by
  funext b
  show UInt8.ofNat ((b.toNat:Int)).toNat=b
  rw[Vb]
  exact UInt8.ofNat_toNat
 rw[this,List.map_id]
def Np {l:List Int} (h:Aw l):bytesOf (M1 l)=l:=by
 unfold M1 bytesOf
 show List.map _ (List.map _ l)=l
 rw[Gmb]
 have:∀ x∈l,((λ b:UInt8=>(b.toNat:Int)) ∘ (λ n:Int=>UInt8.ofNat n.toNat)) x=x:=by
  intro x hx
  have hb:=h x hx
  show ((UInt8.ofNat x.toNat).toNat:Int)=x
  rw[UInt8.toNat_ofNat']
  omega
 exact(Fzb this).trans (List.map_id' l)
def Ns (l:List Int):(M1 l).size=l.length:=by
 unfold M1
 show (List.map _ l).toArray.size=l.length
 simp
def txt (s:ByteArray):List Int:=Pb (Ch (s.size:Int))++bytesOf s
def Lsa (out:List Int) (s:ByteArray) (hl:out.length≤1000000000000) (hs:s.size≤1000000000000):Tot (λ k=>Iz k out s) (λ r=>r=out++txt s):=by
 unfold Iz txt
 refine Fpb (Uq out _ hl) ?_
 have:=(No (Ch (s.size:Int))).1
 refine Flb (by simp only[Ve];omega) (Fdb ?_)
 rw[Vp]
def Tya (l:List Int) (p:Nat):Option (ByteArray×Nat):=match Q5 l p with
 |some (n,q)=>if q+n≤l.length then some (M1 ((l.drop q).take n),q+n) else none
 |none=>none
def E4b (l:List Int) (p:Int):ByteArray×Int×Bool:=if p<0 then ((⟨#[]⟩:ByteArray),0,false) else match Tya l p.toNat with
 |some (s,q)=>(s,(q:Int),true)
 |none=>((⟨#[]⟩:ByteArray),0,false)
def Nsa (l:List Int) (hb:Aw l) (p:Int):Ooa l p=(0,0,false)∨∃ n q,0≤p∧Q5 l p.toNat=some (n,q)∧Ooa l p=((n:Int),(q:Int),true)∧n≤1000000000∧q≤l.length:=by
 unfold Ooa
 by_cases h:p<0
 ·rw[if_pos h];exact .inl rfl
 ·rw[if_neg h]
  cases hg:Q5 l p.toNat with
  |none=>exact .inl rfl
  |some nq=>
   obtain⟨n,q⟩:=nq
   have:=Un hb hg
   exact .inr ⟨n,q,by omega,rfl,rfl,this.2.1,this.2.2.2⟩
def Dma (l:List Int) (hb:Aw l) (hl:l.length≤1000000000000) (p:Int):Tot (λ k=>Iy k l p) (λ r=>r=E4b l p):=by
 unfold Iy
 refine Fpb (Uo l hb hl p) ?_
 unfold E4b Tya
 rcases Nsa l hb p with h|⟨n,q,h0,hg,h,hn,hq⟩
 ·rw[h]
  refine Fgb rfl (Fdb ?_)
  unfold Ooa at h
  split
  ·rfl
  ·rename_i h0
   rw[if_neg h0]at h
   cases hg:Q5 l p.toNat with
   |none=>rfl
   |some nq=>rw[hg]at h;simp at h
 ·rw[h]
  refine Ffb rfl ?_
  rw[if_neg (by omega),hg]
  simp only
  rw[w64 (n:=(l.length:Int)-(q:Int)) (by omega) (by omega),w64 (n:=(q:Int)+(n:Int)) (by omega) (by omega)]
  refine Fkb (λ hgt=>?_) (λ hgt=>?_)
  ·rw[if_neg (by omega)]
   exact Fdb rfl
  ·rw[if_pos (by omega)]
   refine Fhb (by omega) (Fhb (by omega) (Fhb (by omega) (Fdb ?_)))
   rw[show toNat ((q:Int)+(n:Int))=q+n by omega,Vb,Gtb,show q+n-q=n by omega]
   simp only[Wb,true_and,and_true]
   push_cast
   rfl
def Zya {l:List Int} {p q:Nat} {s:ByteArray} (hb:Aw l) (h:Tya l p=some (s,q)):l.drop p=txt s++l.drop q∧s.size≤1000000000∧p<q∧q≤l.length:=by
 unfold Tya at h
 split at h
 ·rename_i n q0 hg
  obtain⟨h1,h2,h3,h4⟩:=Un hb hg
  split at h
  ·rename_i hle
   simp only[Vg,Wb]at h
   obtain⟨rfl,rfl⟩:=h
   have hlen:((l.drop q0).take n).length=n:=by rw[Vu,Wf];omega
   have hbb:Aw ((l.drop q0).take n):=λ x hx=>hb x (Zk (Gcb hx))
   refine⟨?_,by rw[Ns,hlen];exact h2,by omega,by omega⟩
   unfold txt
   rw[Ns,hlen,Np hbb,h1,show Ch (n:Int)=n by unfold Ch;omega,Vp]
   congr 1
   rw[← Yn,Wm]
  ·cases h
 ·cases h
def Vla (pre:List Int) (s:ByteArray) (rest:List Int) (hs:s.size≤1000000000):Tya (pre++(txt s++rest)) pre.length=some (s,pre.length+(txt s).length):=by
 unfold Tya txt
 have hc:Ch (s.size:Int)=s.size:=by unfold Ch;omega
 rw[hc,Vp,Lpa pre s.size _ hs]
 simp only
 rw[if_pos (by simp only[Ve,Pt];omega)]
 have e:(pre++(Pb s.size++(bytesOf s++rest))).drop (pre.length+(Pb s.size).length)=bytesOf s++rest:=by
  rw[← Vp,← Ve,Zg]
 rw[e,Hvb (Pt s),Tj]
 simp only[Ve,Pt,Vg,Wb,true_and]
 omega

def Hqa (b:Bool):Int:=bif b then 1 else 0
def Lta (b:Bool):Kg b=some (Hqa b):=by cases b<;>rfl
def Vma (s:Stp):List Int:=Pb (Ch s.1)++(Pb (Ch s.2.1)++Pb (Ch s.2.2))
def Dna (s:Stp):(Vma s).length≤15:=by
 unfold Vma
 have h1:=(No (Ch s.1)).1
 have h2:=(No (Ch s.2.1)).1
 have h3:=(No (Ch s.2.2)).1
 simp only[Ve]
 omega
def C2a (out:List Int) (s:Stp) (hl:out.length≤999999999900):Tot (λ k=>J0 k out s) (λ r=>r=out++Vma s):=by
 have h1:=(No (Ch s.1)).1
 have h2:=(No (Ch s.2.1)).1
 unfold J0 Vma
 refine Fpb (Uq out s.1 (by omega)) ?_
 refine Fpb (Uq _ s.2.1 (by simp only[Ve];omega)) ?_
 refine Fpb (Uq _ s.2.2 (by simp only[Ve];omega)) ?_
 exact Fdb (by simp only[Vp])
def A5a {s:ByteArray} (h:Bc s=true):1≤s.size∧s.size≤20:=by
 unfold Bc at h
 rw[Va,Cy]at h
 omega
def C3a {r:Row} (h:Mo r=true):Bc r.1=true:=by
 unfold Mo at h
 rw[Va]at h
 exact h.1
def Rla (s:ByteArray):(txt s).length≤5+s.size:=by
 have h1:=(No (Ch (s.size:Int))).1
 unfold txt
 simp only[Ve,Pt]
 omega

def Doa (l:List Int) (p:Nat):Ooa l (p:Int)=match Q5 l p with
 |some (n,q)=>((n:Int),(q:Int),true)
 |none=>(0,0,false):=by
 unfold Ooa
 rw[if_neg (by omega),Vb]
 all_goals cases Q5 l p<;>rfl
def Vna (l:List Int) (p:Nat):E4b l (p:Int)=match Tya l p with
 |some (s,q)=>(s,(q:Int),true)
 |none=>((⟨#[]⟩:ByteArray),0,false):=by
 unfold E4b
 rw[if_neg (by omega),Vb]
 all_goals cases Tya l p<;>rfl
def B1a (l:List Int) (p:Nat):Option ((Stp×Bool)×Nat):=
 (Q5 l p).bind λ b=>(Q5 l b.2).bind λ c=>(Q5 l c.2).bind λ d=>(Q5 l d.2).bind λ e=>bif decide (1<e.1) then none else
  some ((((b.1:Int),(c.1:Int),(d.1:Int)),(e.1:Int)==1),e.2)
def A0b (l:List Int) (hb:Aw l) (hl:l.length≤1000000000000) (p:Int):
  Tot (λ k=>Fk k l p) (λ r=>(∃ n1 p1 n2 p2 n3 p3,0≤p∧Q5 l p.toNat=some (n1,p1)∧Q5 l p1=some (n2,p2)∧Q5 l p2=some (n3,p3)∧r=(((n1:Int),(n2:Int),(n3:Int)),(p3:Int),true))∨(((Q5 l p.toNat).bind λ a=>(Q5 l a.2).bind λ b=>Q5 l b.2)=none∨p<0)∧r.2.2=false):=by
 unfold Fk
 refine Fpb (Uo l hb hl p) ?_
 refine Fpb (Uo l hb hl _) ?_
 refine Fpb (Uo l hb hl _) ?_
 by_cases hp:p<0
 ·have:(Ooa l p).2.2=false:=by unfold Ooa;rw[if_pos hp]
  exact Ffb this (Fdb (.inr ⟨.inr hp,rfl⟩))
 ·have e1:Ooa l p=match Q5 l p.toNat with|some (n,q)=>((n:Int),(q:Int),true)|none=>(0,0,false):=by
   unfold Ooa;rw[if_neg hp];all_goals cases Q5 l p.toNat<;>rfl
  cases h1:Q5 l p.toNat with
  |none=>
   rw[h1]at e1
   simp only[e1]
   exact Ffb rfl (Fdb (.inr ⟨.inl rfl,rfl⟩))
  |some a=>
   obtain⟨n1,p1⟩:=a
   rw[h1]at e1
   simp only[e1,Doa,Vo]
   refine Fgb rfl ?_
   cases h2:Q5 l p1 with
   |none=>exact Ffb rfl (Fdb (.inr ⟨.inl rfl,rfl⟩))
   |some b=>
    obtain⟨n2,p2⟩:=b
    refine Fgb rfl ?_
    simp only[Doa,Vo]
    cases h3:Q5 l p2 with
    |none=>exact Fdb (.inr ⟨.inl rfl,rfl⟩)
    |some c=>
     obtain⟨n3,p3⟩:=c
     exact Fdb (.inl ⟨n1,p1,n2,p2,n3,p3,by omega,rfl,h2,h3,rfl⟩)
def Rma {l:List Int} {p:Nat} (h:((Q5 l p).bind λ a=>(Q5 l a.2).bind λ b=>Q5 l b.2)=none):B1a l p=none:=by
 unfold B1a
 cases h1:Q5 l p with
 |none=>rfl
 |some a=>
  rw[h1]at h
  simp only[Vo]at h ⊢
  cases h2:Q5 l a.2 with
  |none=>rfl
  |some b=>
   rw[h2]at h
   simp only[Vo]at h ⊢
   rw[h]
   rfl

def Kh:∀ s∈Ku,Kd s∧Bc s=true:=by
 intro s hs
 simp only[Ku,Vl,Zq,or_false]at hs
 rcases hs with rfl|rfl|rfl|rfl|rfl|rfl<;>exact⟨by unfold Kd;decide,by decide⟩
def Voa {x:Row} (h:Zwa x):Mo x=true:=by
 obtain⟨h1,⟨t0,t1,s0,s1,n0,n1⟩,h3,h4,h5⟩:=h
 unfold Mo Ga
 rw[(Kh x.1 h1).2,Cy.2 ⟨t0,t1⟩,Cy.2 ⟨s0,s1⟩,Cy.2 ⟨n0,n1⟩,Cy.2 ⟨h3,by omega⟩]
 cases hd:x.2.2.1 with
 |false=>rfl
 |true=>rw[h5 hd];rfl
def V9 (c:Cur) (hc:Bn c):Tot (λ k=>Jq k c) (λ r=>Bn r.2∧r.1.length≤6∧Ps r.1):=by
 unfold Jq
 refine Feb (Sh c hc) (λ r hr=>?_)
 obtain⟨k1,hr1,hl⟩:=hr
 have hsh:Ps r.1:=λ q hq=>(Kh q.1 (hr1.2 q hq).1).1
 obtain⟨x,c',e,_,_,_,k2⟩:=Ac r.2 k1 8 (by decide)
 refine Fpb (Fqb (Q:=λ r=>r=(x,c')) e rfl) ?_
 refine Fjb (λ _=>?_) (λ _=>?_)
 ·refine Feb (Bxa c' k2) (λ z hz=>?_)
  refine Flb (by simp only[Vc,Vj];omega) (Fdb ⟨hz.2,?_,?_⟩)
  ·show (r.1++[z.1]).length≤6
   simp only[Ve,Vc,Vj]
   omega
  ·intro q hq
   rcases Vn.1 hq with hq|hq
   ·exact hsh q hq
   ·simp only[Vt]at hq
    subst hq
    exact(Kh _ hz.1.1).1
 ·refine Fjb (λ _=>?_) (λ _=>Fdb ⟨k2,by show r.1.length≤6;omega,hsh⟩)
  refine Fkb (λ h=>?_) (λ h=>Fdb ⟨k2,by show r.1.length≤6;omega,hsh⟩)
  obtain⟨v,c3,e3,_,k3⟩:=Ja c' k2 [(-1),201,200] (by decide) (by decide)
  refine Fpb (Fqb (Q:=λ r=>r=(v,c3)) e3 rfl) ?_
  refine Fhb (by omega) (Fdb ⟨k3,?_,?_⟩)
  ·show (List.set r.1 _ _).length≤6
   rw[Vx]
   omega
  ·intro q hq
   rcases Wo hq with hq|rfl
   ·exact hsh q hq
   ·have hpos:toNat 0<r.1.length:=by show 0<_;omega
    have h1:Kd (r.1.getD (toNat 0) Jx).1:=hsh _ (A4 (d:=Jx) hpos)
    exact h1

abbrev Nmd:=ByteArray×List Int
abbrev Dsk:=List Nmd×List Nmd
def Gg:Nmd:=((⟨#[]⟩:ByteArray),[])
def G5a (l:List Nmd):Prop:=l.length≤1000000000000∧∀ x∈l,x.2.length≤1000000000000
def Xra (d:Dsk):Prop:=G5a d.1∧G5a d.2
def Tk (l:List Int) (h:l.length≤1000000000000):Dy l=some l:=by
 unfold Dy
 rw[show Nat.ble ((length ([]:List Int)+length l)*1) 140737488355328=true from Zi (by simp only[Vj];omega)]
 rfl
def Wu (l:List Nmd) (hf:G5a l):∀ (n i:Nat) (acc:List Nmd),l.length-i=n→i≤l.length→acc.length≤i→
  Tot (λ k=>Ds k acc l (l.length:Int) (i:Int)) (λ r=>r=acc++l.drop i):=by
 obtain⟨h1,h2⟩:=hf
 intro n
 induction n with
 |zero=>
  intro i acc hd hi ha
  refine Tot.succ ?_
  simp only[Ds]
  refine Fib (by omega) (Fdb ?_)
  rw[Wk (by omega),Wq]
 |succ n ih=>
  intro i acc hd hi ha
  have hlt:i<l.length:=by omega
  refine Tot.succ ?_
  simp only[Ds]
  refine Fhb (by omega) (Fhb (by omega) (Fhb (by omega) ?_))
  rw[show toNat (i:Int)=i from Vb i,w64 (n:=(i:Int)+1) (by omega) (by omega),Ap (d:=Gg) hlt]
  have e0:l.getD i ((⟨#[]⟩:ByteArray),([]:List Int))=l.getD i Gg:=rfl
  rw[e0]
  have hb:=h2 _ (A4 (d:=Gg) hlt)
  refine Fpb (Fqb (Q:=λ r=>r=(l.getD i Gg).2) (Tk _ hb) rfl) ?_
  refine Flb (by simp only[Vc,Vj];omega) ?_
  refine(ih (i+1) (acc++[l.getD i Gg]) (by omega) (by omega) (by simp only[Ve,Vc,Vj];omega)).mono ?_
  rintro r rfl
  rw[Vp]
  rfl
def Tl (l:List Nmd) (hf:G5a l):Tot (λ k=>Cb k l) (λ r=>r=l):=by
 unfold Cb
 refine Feb (Wu l hf _ 0 [] rfl (Vs _) (Vs _)) ?_
 intro r hr
 rw[Wp,Vz]at hr
 exact Fdb hr
def G6a (d:Dsk) (hf:Xra d):Tot (λ k=>I2 k d) (λ r=>r=d):=by
 unfold I2
 refine Fpb (Tl d.1 hf.1) ?_
 refine Fpb (Tl d.2 hf.2) ?_
 exact Fdb rfl
def fnd (l:List Nmd) (s:ByteArray):Option Nat:=l.findIdx? (λ x=>teq x.1 s)
def Rna (l:List Nmd) (s:ByteArray):Int:=match fnd l s with
 |some i=>(i:Int)
 |none => -1
def Qr {l:List Nmd} {s:ByteArray} {i:Nat} (h:fnd l s=some i):i<l.length∧(l.getD i Gg).1=s:=by
 unfold fnd at h
 rw[H7b]at h
 obtain⟨h1,h2,_⟩:=h
 refine⟨h1,?_⟩
 rw[Vd,Vk h1]
 exact Fe.1 h2
def del (l:List Nmd) (s:ByteArray):List Nmd:=match fnd l s with
 |some i=>l.take i++l.drop (i+1)
 |none=>l

def nOk (x:Nmd):Bool:=Bc x.1&&!(decide ((x.2.length:Int) > 400))
def chn:Option ByteArray→List Nmd→Bool
 |_,[]=>true
 |none,r::l=>nOk r&&chn (some r.1) l
 |some q,r::l=>nOk r&&(tlt q r.1&&chn (some r.1) l)
def Iu (l:List Nmd):Bool:=chn none l&&decide ((l.length:Int)≤60)
def Aq (d:Dsk):Bool:=Iu d.1&&Iu d.2
def Ny (l:List Nmd):Prop:=∀ x∈l,Kd x.1
def C4a (d:Dsk):Prop:=Ny d.1∧Ny d.2
def Wv (l:List Nmd):Nat→Option ByteArray
 |0=>none
 |i+1=>some (l.getD i Gg).1
def Lua (l:List Nmd) (i:Nat) (h:i<l.length):chn (Wv l i) (l.drop i)=(nOk (l.getD i Gg)&&(bif decide (0<i) then tlt (l.getD (i-1) Gg).1 (l.getD i Gg).1 else true)&&chn (Wv l (i+1)) (l.drop (i+1))):=by
 rw[Ap (d:=Gg) h]
 cases i with
 |zero=>simp[Wv,chn]
 |succ i=>simp[Wv,chn,Iob]
def G7a (l:List Nmd) (hf:l.length≤1000000000000) (hs:Ny l):∀ (n i:Nat),l.length-i=n→i≤l.length→
  Tot (λ k=>Ev k l l (l.length:Int) (i:Int)) (λ r=>r=bif chn (Wv l i) (l.drop i) then .inr l else .inl false):=by
 intro n
 induction n with
 |zero=>
  intro i hn hi
  refine Tot.succ ?_
  simp only[Ev]
  refine Fib (by omega) (Fdb ?_)
  rw[Wk (by omega)]
  cases Wv l i<;>rfl
 |succ n ih=>
  intro i hn hi
  have hlt:i<l.length:=by omega
  refine Tot.succ ?_
  simp only[Ev]
  refine Fhb (by omega) (Fhb (by omega) (Fhb (by omega) ?_))
  rw[show toNat (i:Int)=i from Vb i,w64 (n:=(i:Int)+1) (by omega) (by omega),Lua l i hlt]
  have h1:=ih (i+1) (by omega) (by omega)
  have e:(((i+1:Nat)):Int)=(i:Int)+1:=by omega
  rw[e]at h1
  have e0:l.getD i ((⟨#[]⟩:ByteArray),([]:List Int))=l.getD i Gg:=rfl
  rw[e0]
  refine Fpb (Xb (l.getD i Gg).1 (hs _ (A4 hlt))) ?_
  cases hb:Bc (l.getD i Gg).1
  ·exact Fgb rfl (Fdb (by rw[show nOk (l.getD i Gg)=false by unfold nOk;rw[hb];rfl];rfl))
  refine Ffb rfl ?_
  refine Fkb (λ h4=>Fdb (by rw[show nOk (l.getD i Gg)=false by unfold nOk;rw[decide_eq_true h4,hb];rfl];rfl)) (λ h4=>?_)
  have hnk:nOk (l.getD i Gg)=true:=by unfold nOk;rw[hb,decide_eq_false h4];rfl
  rw[hnk,Vy]
  refine Fkb (λ h0=>?_) (λ h0=>?_)
  ·rw[w64 (n:=(i:Int)-1) (by omega) (by omega)]
   refine Fhb (by omega) (Fhb (by omega) ?_)
   rw[show toNat ((i:Int)-1)=i-1 by omega,decide_eq_true (show 0<i by omega),cond_true]
   refine Fjb (λ ht=>?_) (λ ht=>?_)
   ·have ht':(!(tlt (l.getD (i-1) Gg).1 (l.getD i Gg).1))=true:=ht
    rw[Vv]at ht'
    exact Fdb (by rw[ht'];rfl)
   ·have ht':(!(tlt (l.getD (i-1) Gg).1 (l.getD i Gg).1))=false:=ht
    rw[Wh]at ht'
    rw[ht',Vy]
    exact h1
  ·rw[decide_eq_false (show ¬ 0<i by omega),cond_false,Vy]
   exact h1
def G8a (l:List Nmd) (hf:l.length≤1000000000000) (hs:Ny l):∀ (n i:Nat),l.length-i=n→i≤l.length→
  Tot (λ k=>G3 k l (i:Int)) (λ r=>r=bif chn (Wv l i) (l.drop i) then .inr l else .inl false):=by
 intro n
 induction n with
 |zero=>
  intro i hn hi
  refine Tot.succ ?_
  simp only[G3]
  refine Fib (by omega) (Fdb ?_)
  rw[Wk (by omega)]
  cases Wv l i<;>rfl
 |succ n ih=>
  intro i hn hi
  have hlt:i<l.length:=by omega
  refine Tot.succ ?_
  simp only[G3]
  refine Fhb (by omega) (Fhb (by omega) (Fhb (by omega) ?_))
  rw[show toNat (i:Int)=i from Vb i,w64 (n:=(i:Int)+1) (by omega) (by omega),Lua l i hlt]
  have h1:=ih (i+1) (by omega) (by omega)
  have e:(((i+1:Nat)):Int)=(i:Int)+1:=by omega
  rw[e]at h1
  have e0:l.getD i ((⟨#[]⟩:ByteArray),([]:List Int))=l.getD i Gg:=rfl
  rw[e0]
  refine Fpb (Og (l.getD i Gg).1 (hs _ (A4 hlt))) ?_
  cases hb:Bc (l.getD i Gg).1
  ·exact Fgb rfl (Fdb (by rw[show nOk (l.getD i Gg)=false by unfold nOk;rw[hb];rfl];rfl))
  refine Ffb rfl (Fhb (by omega) (Fhb (by omega) ?_))
  refine Fkb (λ h4=>Fdb (by rw[show nOk (l.getD i Gg)=false by unfold nOk;rw[decide_eq_true h4,hb];rfl];rfl)) (λ h4=>?_)
  have hnk:nOk (l.getD i Gg)=true:=by unfold nOk;rw[hb,decide_eq_false h4];rfl
  rw[hnk,Vy]
  refine Fkb (λ h0=>?_) (λ h0=>?_)
  ·rw[w64 (n:=(i:Int)-1) (by omega) (by omega)]
   refine Fhb (by omega) (Fhb (by omega) (Fhb (by omega) (Fhb (by omega) ?_)))
   rw[show toNat ((i:Int)-1)=i-1 by omega,decide_eq_true (show 0<i by omega),cond_true]
   refine Fjb (λ ht=>?_) (λ ht=>?_)
   ·have ht':(!(tlt (l.getD (i-1) Gg).1 (l.getD i Gg).1))=true:=ht
    rw[Vv]at ht'
    exact Fdb (by rw[ht'];rfl)
   ·have ht':(!(tlt (l.getD (i-1) Gg).1 (l.getD i Gg).1))=false:=ht
    rw[Wh]at ht'
    rw[ht',Vy]
    exact h1
  ·rw[decide_eq_false (show ¬ 0<i by omega),cond_false,Vy]
   exact h1
def G9a (l:List Nmd) (hf:l.length≤1000000000000) (hs:Ny l):Tot (λ k=>E8 k l) (λ r=>r=Iu l):=by
 unfold E8 Iu
 refine Fpb (G7a l hf hs _ 0 rfl (Vs _)) ?_
 rw[Wp]
 show Tot _ (λ r=>r=(chn none l&&_))
 cases hc:chn none l with
 |true=>rw[show chn (Wv l 0) l=true from hc];exact Fdb (by rw[Vy])
 |false=>rw[show chn (Wv l 0) l=false from hc];exact Fdb rfl
def Gaa (l:List Nmd) (hf:l.length≤1000000000000) (hs:Ny l):Tot (λ k=>Fl k l) (λ r=>r=Iu l):=by
 unfold Fl Iu
 refine Fpb (G8a l hf hs _ 0 rfl (Vs _)) ?_
 rw[Wp]
 show Tot _ (λ r=>r=(chn none l&&_))
 cases hc:chn none l with
 |true=>rw[show chn (Wv l 0) l=true from hc];exact Fdb (by rw[Vy])
 |false=>rw[show chn (Wv l 0) l=false from hc];exact Fdb rfl
def Vpa (d:Dsk) (hf:Xra d) (hs:C4a d):Tot (λ k=>Jt k d) (λ r=>r=Aq d):=by
 unfold Jt Aq
 refine Fpb (G9a d.1 hf.1.1 hs.1) ?_
 cases h:Iu d.1
 ·exact Ffb rfl (Fdb rfl)
 refine Fgb rfl (Fpb (G9a d.2 hf.2.1 hs.2) ?_)
 exact Fdb (by rw[Vy])
def plc (l:List Nmd) (s:ByteArray):Nat:=(l.takeWhile (λ y=>tlt y.1 s)).length
def ins (l:List Nmd) (x:Nmd):List Nmd:=l.take (plc l x.1)++[x]++l.drop (plc l x.1)
def Cub (l:List Nmd) (s:ByteArray):plc l s≤l.length:=(Ifb _).length_le

def Jaa (l:List Int) (h:l.length≤1000000000000):(length ([]:List Int)+l.length)*1≤140737488355328:=by
 simp only[Vj]
 omega
def A6a (l:List Nmd) (hf:G5a l):∀ (n i:Nat) (acc:List Nmd),l.length-i=n→i≤l.length→acc.length≤i→
  Tot (λ k=>Cf k l acc (i:Int)) (λ r=>r=acc++l.drop i):=by
 obtain⟨h1,h2⟩:=hf
 intro n
 induction n with
 |zero=>
  intro i acc hd hi ha
  refine Tot.succ ?_
  simp only[Cf]
  refine Fib (by omega) (Fdb ?_)
  rw[Wk (by omega),Wq]
 |succ n ih=>
  intro i acc hd hi ha
  have hlt:i<l.length:=by omega
  refine Tot.succ ?_
  simp only[Cf]
  refine Fhb (by omega) (Fhb (by omega) (Fhb (by omega) (Fhb (by omega) (Fhb (by omega) ?_))))
  rw[show toNat (i:Int)=i from Vb i,w64 (n:=(i:Int)+1) (by omega) (by omega),Ap (d:=Gg) hlt]
  have e0:l.getD i ((⟨#[]⟩:ByteArray),([]:List Int))=l.getD i Gg:=rfl
  rw[e0]
  have hb:=h2 _ (A4 (d:=Gg) hlt)
  refine Flb (Jaa _ hb) (Flb (by simp only[Vc,Vj];omega) ?_)
  refine(ih (i+1) (acc++[l.getD i Gg]) (by omega) (by omega) (by simp only[Ve,Vc,Vj];omega)).mono ?_
  rintro r rfl
  rw[Vp]
  rfl
def Oh (l:List Nmd) (hf:G5a l):Tot (λ k=>Bf k l) (λ r=>r=l):=by
 unfold Bf
 refine Feb (A6a l hf _ 0 [] rfl (Vs _) (Vs _)) ?_
 intro r hr
 rw[Wp,Vz]at hr
 exact Fdb hr
def Li (d:Dsk) (hf:Xra d):Tot (λ k=>A7 k d) (λ r=>r=d):=by
 unfold A7
 refine Fpb (Oh d.1 hf.1) ?_
 refine Fpb (Oh d.2 hf.2) ?_
 exact Fdb rfl
def Roa (l:List Nmd) (s:ByteArray) (hf:l.length≤1000000000000):∀ (n i:Nat),l.length-i=n→i≤l.length→
  Tot (λ k=>Ix k l s (i:Int)) (λ r=>r=match fnd (l.drop i) s with|some j => .inl ((i+j:Nat):Int)|none => .inr ()):=by
 intro n
 induction n with
 |zero=>
  intro i hd hi
  refine Tot.succ ?_
  simp only[Ix]
  refine Fib (by omega) (Fdb ?_)
  rw[Wk (by omega)]
  rfl
 |succ n ih=>
  intro i hd hi
  have hlt:i<l.length:=by omega
  refine Tot.succ ?_
  simp only[Ix]
  refine Fhb (by omega) (Fhb (by omega) (Fhb (by omega) ?_))
  rw[show toNat (i:Int)=i from Vb i,w64 (n:=(i:Int)+1) (by omega) (by omega),Ap (d:=Gg) hlt]
  have e0:l.getD i ((⟨#[]⟩:ByteArray),([]:List Int))=l.getD i Gg:=rfl
  rw[e0]
  have e1:fnd (l.getD i Gg::l.drop (i+1)) s=if teq (l.getD i Gg).1 s then some 0 else (fnd (l.drop (i+1)) s).map (· + 1):=by
   unfold fnd
   rw[I3b]
  rw[e1]
  refine Fjb (λ h=>?_) (λ h=>?_)
  ·have h':teq (l.getD i Gg).1 s=true:=h
   rw[if_pos h']
   exact Fdb rfl
  ·have h':¬ (teq (l.getD i Gg).1 s=true):=by
    have:teq (l.getD i Gg).1 s=false:=h
    rw[this];simp
   rw[if_neg h']
   refine(ih (i+1) (by omega) (by omega)).mono ?_
   rintro r rfl
   cases fnd (l.drop (i+1)) s with
   |none=>rfl
   |some j=>
    show Sum.inl _=Sum.inl _
    rw[show i+1+j=i+(j+1) by omega]
def C5a (l:List Nmd) (s:ByteArray) (hf:l.length≤1000000000000):Tot (λ k=>D7 k l s) (λ r=>r=Rna l s):=by
 unfold D7 Rna
 refine Fpb (Roa l s hf _ 0 rfl (Vs _)) ?_
 rw[Wp]
 cases fnd l s with
 |none=>exact Fdb rfl
 |some j=>
  refine Fdb ?_
  rw[Wl]
def cut (l:List Nmd) (s:ByteArray):List Nmd:=l.filter (λ x => !(teq x.1 s))
def Nta (l:List Nmd) (s:ByteArray) (hf:l.length≤1000000000000):∀ (n i:Nat) (acc:List Nmd),l.length-i=n→i≤l.length→acc.length≤i→
  Tot (λ k=>Ha k l s acc (i:Int)) (λ r=>r=acc++cut (l.drop i) s):=by
 intro n
 induction n with
 |zero=>
  intro i acc hd hi ha
  refine Tot.succ ?_
  simp only[Ha]
  refine Fib (by omega) (Fdb ?_)
  rw[Wk (by omega)]
  simp[cut]
 |succ n ih=>
  intro i acc hd hi ha
  have hlt:i<l.length:=by omega
  refine Tot.succ ?_
  simp only[Ha]
  refine Fhb (by omega) (Fhb (by omega) (Fhb (by omega) ?_))
  rw[show toNat (i:Int)=i from Vb i,w64 (n:=(i:Int)+1) (by omega) (by omega),Ap (d:=Gg) hlt]
  have e0:l.getD i ((⟨#[]⟩:ByteArray),([]:List Int))=l.getD i Gg:=rfl
  rw[e0]
  have e1:cut (l.getD i Gg::l.drop (i+1)) s=if (!(teq (l.getD i Gg).1 s))=true then l.getD i Gg::cut (l.drop (i+1)) s else cut (l.drop (i+1)) s:=by
   unfold cut
   rw[Zz]
  rw[e1]
  refine Fjb (λ h=>?_) (λ h=>?_)
  ·have h':(!(teq (l.getD i Gg).1 s))=true:=h
   rw[if_pos h']
   refine Fhb (by omega) (Fhb (by omega) (Flb (by simp only[Vc,Vj];omega) ?_))
   refine(ih (i+1) (acc++[l.getD i Gg]) (by omega) (by omega) (by simp only[Ve,Vc,Vj];omega)).mono ?_
   rintro r rfl
   rw[Vp]
   rfl
  ·have h':¬ ((!(teq (l.getD i Gg).1 s))=true):=by
    have:(!(teq (l.getD i Gg).1 s))=false:=h
    rw[this];simp
   rw[if_neg h']
   exact ih (i+1) acc (by omega) (by omega) (by omega)
def Rpa (l:List Nmd) (s:ByteArray) (hf:l.length≤1000000000000):Tot (λ k=>Il k l s) (λ r=>r=cut l s):=by
 unfold Il
 refine Feb (Nta l s hf _ 0 [] rfl (Vs _) (Vs _)) ?_
 intro r hr
 rw[Wp,Vz]at hr
 exact Fdb hr
def Pu (d:Dsk) (hf:Xra d) (hs:C4a d):Tot (λ k=>Bj k d) (λ r=>r=Aq d):=by
 unfold Bj Aq
 refine Fpb (Gaa d.1 hf.1.1 hs.1) ?_
 cases h:Iu d.1
 ·exact Ffb rfl (Fdb rfl)
 refine Fgb rfl (Fpb (Gaa d.2 hf.2.1 hs.2) ?_)
 exact Fdb (by rw[Vy])

def rdN (l:List Nmd) (s:ByteArray):List Int×Bool:=match fnd l s with
 |some i=>((l.getD i Gg).2,true)
 |none=>([],false)
def Lva (d:Dsk) (s:ByteArray) (hf:G5a d.1):Tot (λ k=>Fb k d s) (λ r=>r=rdN d.1 s):=by
 unfold Fb rdN
 refine Fpb (C5a d.1 s hf.1) ?_
 unfold Rna
 have hl1:=hf.1
 cases h:fnd d.1 s with
 |none=>exact Fhb (by decide) (Fdb rfl)
 |some i=>
  have hl:=(Qr h).1
  dsimp only
  refine Fib (by omega) (Fhb (by omega) (Fhb (by omega) ?_))
  rw[show toNat (i:Int)=i from Vb i]
  have hb:=hf.2 _ (A4 (d:=Gg) hl)
  exact Flb (Jaa _ hb) (Fdb rfl)

def Fy (l:List Nmd):Prop:=l.Pairwise (λ a b=>tlt a.1 b.1=true)
def Jba:∀ (p:Option ByteArray) (l:List Nmd),chn p l=true↔Fy l∧(∀ r∈l,nOk r=true)∧(∀ q,p=some q→∀ r∈l,tlt q r.1=true)
 |p,[]=>by
  have:chn p []=true:=by cases p<;>rfl
  simp[this,Fy]
 |none,r::l=>by
  simp only[chn,Va,Jba (some r.1) l,Fy,Wg]
  constructor
  ·rintro⟨h1,h2,h3,h4⟩
   exact⟨⟨λ a ha=>h4 _ rfl a ha,h2⟩,λ a ha=>by rcases Vl.1 ha with rfl|ha;exact h1;exact h3 a ha,λ q hq=>by cases hq⟩
  ·rintro⟨⟨h1,h2⟩,h3,_⟩
   exact⟨h3 r (by simp),h2,λ a ha=>h3 a (Vi _ ha),λ q hq a ha=>by cases hq;exact h1 a ha⟩
 |some q,r::l=>by
  simp only[chn,Va,Jba (some r.1) l,Fy,Wg]
  constructor
  ·rintro⟨h1,h0,h2,h3,h4⟩
   refine⟨⟨λ a ha=>h4 _ rfl a ha,h2⟩,λ a ha=>by rcases Vl.1 ha with rfl|ha;exact h1;exact h3 a ha,λ q' hq a ha=>?_⟩
   cases hq
   rcases Vl.1 ha with rfl|ha
   ·exact h0
   ·exact M7 h0 (h4 _ rfl a ha)
  ·rintro⟨⟨h1,h2⟩,h3,h4⟩
   exact⟨h3 r (by simp),h4 q rfl r (by simp),h2,λ a ha=>h3 a (Vi _ ha),λ q' hq a ha=>by cases hq;exact h1 a ha⟩
def Af {l:List Nmd}:Iu l=true↔Fy l∧(∀ r∈l,nOk r=true)∧l.length≤60:=by
 unfold Iu
 simp only[Va,Jba,decide_eq_true_eq]
 constructor
 ·rintro⟨⟨h1,h2,_⟩,h3⟩
  exact⟨h1,h2,by omega⟩
 ·rintro⟨h1,h2,h3⟩
  exact⟨⟨h1,h2,λ q hq=>by cases hq⟩,by omega⟩
def Pv {x:Nmd}:nOk x=true↔Bc x.1=true∧x.2.length≤400:=by
 unfold nOk
 simp only[Va,Vv,decide_eq_false_iff_not]
 constructor
 ·rintro⟨h1,h2⟩;exact⟨h1,by omega⟩
 ·rintro⟨h1,h2⟩;exact⟨h1,by omega⟩
def Vr {l:List Nmd} (h:Iu l=true):G5a l∧Ny l:=by
 obtain⟨_,h2,h3⟩:=Af.1 h
 refine⟨⟨by omega,λ x hx=>by have:=(Pv.1 (h2 x hx)).2;omega⟩,λ x hx=>?_⟩
 have:=A5a (Pv.1 (h2 x hx)).1
 unfold Kd
 omega
def Lwa (y:Nmd) (l:List Nmd) (s:ByteArray):fnd (y::l) s=if teq y.1 s then some 0 else (fnd l s).map (· + 1):=by
 unfold fnd
 rw[I3b]
def Vqa {l:List Nmd} {s:ByteArray}:fnd l s=none↔∀ x∈l,x.1≠s:=by
 unfold fnd
 rw[I7b]
 constructor
 ·intro h x hx e
  have:=h x hx
  rw[Fe.2 e]at this
  cases this
 ·intro h x hx
  cases ht:teq x.1 s with
  |false=>rfl
  |true=>exact absurd (Fe.1 ht) (h x hx)
def Ur:∀ {l:List Nmd} {s:ByteArray},Fy l→del l s=cut l s
 |[],s,_=>rfl
 |y::l,s,h=>by
  have hc:=Wg.1 h
  have ih:=Ur (l:=l) (s:=s) hc.2
  unfold del cut at *
  rw[Lwa,Zz]
  cases ht:teq y.1 s with
  |true=>
   have hno:∀ x∈l,(!(teq x.1 s))=true:=λ x hx=>by
    cases hx2:teq x.1 s
    ·rfl
    have e1:=Fe.1 ht
    have e2:=Fe.1 hx2
    have:=hc.1 x hx
    rw[e1,e2,Ig]at this
    cases this
   rw[if_pos rfl,if_neg (by simp)]
   show []++l=_
   rw[Vz,List.filter_eq_self.2 hno]
  |false=>
   rw[if_neg (by simp),if_pos (show (!false)=true from rfl),← ih]
   cases hf:fnd l s with
   |none=>rfl
   |some i=>rfl
def N3 {l:List Nmd} {s:ByteArray} (h:Fy l):Fy (cut l s):=h.sublist List.filter_sublist
def Mq {l:List Nmd} {s:ByteArray}:(cut l s).Sublist l:=List.filter_sublist
def W0 {l:List Nmd} {s:ByteArray} (h:Iu l=true):Iu (cut l s)=true:=by
 obtain⟨h1,h2,h3⟩:=Af.1 h
 exact Af.2 ⟨N3 h1,λ x hx=>h2 x (Mq.subset hx),by have:=(Mq (l:=l) (s:=s)).length_le;omega⟩
def Rqa {l m:List Nmd} (h:m.Sublist l) (hf:G5a l):G5a m:=⟨by have:=h.length_le;have:=hf.1;omega,λ x hx=>hf.2 x (h.subset hx)⟩
def Gba {l m:List Nmd} (h:m.Sublist l) (hf:Ny l):Ny m:=λ x hx=>hf x (h.subset hx)

end Go.Proofs.YtiiekghlhfbmmaaGreat.Vf
