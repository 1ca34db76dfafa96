import Derived.Test.YtlfoljnopndpeaaGreatMab
import Derived.IntWalk
import Derived.Laws.StructEq
set_option linter.unusedVariables false
set_option linter.unusedSimpArgs false
namespace Go.Proofs.YtlfoljnopndpeaaGreat.Vf
open Go

def Tot {α:Type} (f:Nat→Option α) (Q:α→Prop):Prop:=∃ r K,(∀ k,K≤k→f k=some r)∧Q r
section
variable {α β:Type} {f g:Nat→Option α} {Q Q':α→Prop}
theorem Tot.mono (h:Tot f Q) (hq:∀ a,Q a→Q' a):Tot f Q':=by
 obtain ⟨r,K,h1,h2⟩:=h
 exact ⟨r,K,h1,hq r h2⟩
theorem Tot.pure {a:α} (h:Q a):Tot (λ _=>some a) Q:=⟨a,0,λ _ _=>rfl,h⟩
theorem Tot.of {o:Option α} {a:α} (e:o=some a) (h:Q a):Tot (λ _=>o) Q:=⟨a,0,λ _ _=>e,h⟩
theorem Tot.bind {h:Nat→α→Option β} {R:β→Prop} (hf:Tot f Q) (hh:∀ a,Q a→Tot (λ k=>h k a) R):Tot (λ k=>(f k).bind (h k)) R:=by
 obtain ⟨a,K,h1,h2⟩:=hf
 obtain ⟨b,L,h3,h4⟩:=hh a h2
 exact ⟨b,max K L,λ k hk=>by show (f k).bind (h k)=_; rw [h1 k (by omega)]; exact h3 k (by omega),h4⟩
theorem Tot.yes {c:Bool} (hc:c=true) (h:Tot f Q):Tot (λ k=>cond c (f k) (g k)) Q:=by subst hc; exact h
theorem Tot.no {c:Bool} (hc:c=false) (h:Tot g Q):Tot (λ k=>cond c (f k) (g k)) Q:=by subst hc; exact h
theorem Tot.ite {c:Bool} (h1:c=true→Tot f Q) (h2:c=false→Tot g Q):Tot (λ k=>cond c (f k) (g k)) Q:=by
 cases hc:c with
 |true=>exact h1 hc
 |false=>exact h2 hc
theorem Tot.dec {p:Prop} [Decidable p] (hp:p) (h:Tot f Q):Tot (λ k=>cond (decide p) (f k) (g k)) Q:=Tot.yes (decide_eq_true hp) h
theorem Tot.ndec {p:Prop} [Decidable p] (hp:¬ p) (h:Tot g Q):Tot (λ k=>cond (decide p) (f k) (g k)) Q:=Tot.no (decide_eq_false hp) h
theorem Tot.dite {p:Prop} [Decidable p] (h1:p→Tot f Q) (h2:¬ p→Tot g Q):Tot (λ k=>cond (decide p) (f k) (g k)) Q:=
 Tot.ite (λ h=>h1 (of_decide_eq_true h)) (λ h=>h2 (of_decide_eq_false h))
theorem Tot.ble {m n:Nat} (hp:m≤n) (h:Tot f Q):Tot (λ k=>cond (Nat.ble m n) (f k) (g k)) Q:=Tot.yes (Nat.ble_eq_true_of_le hp) h
theorem Tot.succ (h:Tot (λ k=>f (k+1)) Q):Tot f Q:=by
 obtain ⟨r,K,h1,h2⟩:=h
 exact ⟨r,K+1,λ k hk=>by obtain ⟨m,rfl⟩:∃ m,k=m+1:=⟨k - 1,by omega⟩; exact h1 m (by omega),h2⟩
theorem Tot.and (h:Tot f Q) (h':Tot f Q'):Tot f (λ a=>Q a∧Q' a):=by
 obtain ⟨r,K,h1,h2⟩:=h
 obtain ⟨r',K',h1',h2'⟩:=h'
 have e:r=r':=by
  have a1:=h1 (max K K') (by omega)
  have a2:=h1' (max K K') (by omega)
  rw [a1] at a2
  exact Option.some.inj a2
 subst e
 exact ⟨r,K,h1,h2,h2'⟩
theorem Tot.law {f:Nat→Option Bool} (h:Tot f (λ b=>b=true)):∃ k,f k=some true:=by
 obtain ⟨r,K,h1,h2⟩:=h
 subst h2
 exact ⟨K,h1 K (Nat.le_refl _)⟩
end
theorem w64 {n:Int} (h1 : -9223372036854775808≤n) (h2:n≤9223372036854775807):IntKind.wrap .i64 n=n:=Go.IntWalk.i64_in n ⟨h1,h2⟩
theorem Ita (n:Int):0≤IntKind.wrap .u8 n∧IntKind.wrap .u8 n≤255:=by
 simp only [IntKind.wrap,IntKind.signed,IntKind.bits]
 simp
 omega

def B5 (l:List Int):Prop:=∀ x∈l,0≤x∧x≤255
abbrev Stp:=Int×Int×Int
abbrev Row:=ByteArray×Stp×Bool×Int
abbrev Fil:=Stp×Bool×List Int

theorem Zz:∀ (a:List UInt8),Op.bytesLess a a=false
 |[]=>rfl
 |a::l=>by simp [Op.bytesLess,Zz l]
theorem Dua:∀ (a b c:List UInt8),Op.bytesLess a b=true→Op.bytesLess b c=true→Op.bytesLess a c=true
 |_,[],_,h,_=>by simp [Op.bytesLess] at h
 |_,_::_,[],_,h=>by simp [Op.bytesLess] at h
 |[],_::_,_::_,_,_=>rfl
 |a::x,b::y,c::z,h1,h2=>by
  simp only [Op.bytesLess,Bool.or_eq_true,Bool.and_eq_true,decide_eq_true_eq,beq_iff_eq] at h1 h2 ⊢
  rcases h1 with h1|⟨rfl,h1⟩
  ·rcases h2 with h2|⟨rfl,h2⟩
   ·exact .inl (UInt8.lt_trans h1 h2)
   ·exact .inl h1
  ·rcases h2 with h2|⟨rfl,h2⟩
   ·exact .inl h2
   ·exact .inr ⟨rfl,Dua x y z h1 h2⟩
theorem Nea:∀ (a b:List UInt8),Op.bytesLess a b=false→Op.bytesLess b a=false→a=b
 |[],[],_,_=>rfl
 |[],_::_,h,_=>by simp [Op.bytesLess] at h
 |_::_,[],_,h=>by simp [Op.bytesLess] at h
 |a::x,b::y,h1,h2=>by
  simp only [Op.bytesLess,Bool.or_eq_false_iff,Bool.and_eq_false_iff,decide_eq_false_iff_not] at h1 h2
  have hab:a=b:=by
   have h3:=UInt8.not_lt.1 h1.1
   have h4:=UInt8.not_lt.1 h2.1
   exact UInt8.le_antisymm h4 h3
  subst hab
  rw [Nea x y (h1.2.resolve_left (by simp)) (h2.2.resolve_left (by simp))]
def tlt (a b:ByteArray):Bool:=Op.bytesLess a.toList b.toList
def teq (a b:ByteArray):Bool:=a.toList==b.toList
theorem Uc {a b:ByteArray} (h:a.toList=b.toList):a=b:=by
 rw [ByteArray.toList_eq,ByteArray.toList_eq] at h
 obtain ⟨⟨x⟩⟩:=a
 obtain ⟨⟨y⟩⟩:=b
 simp only at h
 rw [h]
theorem N6 {a b:ByteArray}:teq a b=true↔a=b:=by
 unfold teq
 rw [beq_iff_eq]
 exact ⟨Uc,λ h=>by rw [h]⟩
theorem Ud (a:ByteArray):tlt a a=false:=Zz _
theorem Iua {a b c:ByteArray} (h:tlt a b=true) (h':tlt b c=true):tlt a c=true:=Dua _ _ _ h h'
theorem P7a {a b:ByteArray} (h:tlt a b=false) (h':tlt b a=false):a=b:=Uc (Nea _ _ h h')
theorem Iva {a b:ByteArray} (h:tlt a b=true):tlt b a=false:=by
 cases hb:tlt b a with
 |false=>rfl
 |true=>
  have:=Iua h hb
  rw [Ud] at this
  cases this
theorem Nfa (a b:ByteArray):(!(Op.bytesLess a.toList b.toList || a.toList==b.toList))=tlt b a:=by
 show (!(tlt a b || teq a b))=tlt b a
 cases h1:tlt a b with
 |true=>rw [Iva h1]; rfl
 |false=>
  cases h2:teq a b with
  |true=>rw [N6.1 h2,Ud]; rfl
  |false=>
   cases h3:tlt b a with
   |true=>rfl
   |false=>
    exfalso
    have:=P7a h1 h3
    rw [N6.2 this] at h2
    cases h2
def sle (a b:Stp):Bool:=cond (a.1 != b.1) (decide (a.1<b.1)) (cond (a.2.1 != b.2.1) (decide (a.2.1<b.2.1)) (decide (a.2.2<b.2.2)))
theorem Lwa (a b:Stp):An a b=some (sle a b):=by
 unfold An sle
 cases a.1 != b.1<;>cases a.2.1 != b.2.1<;>rfl
theorem Lxa (a b:Stp):Ae a b=some (sle a b):=by
 unfold Ae sle
 cases a.1 != b.1<;>cases a.2.1 != b.2.1<;>rfl
def Rza (a b:Row):Bool:=cond (!((a.2.1.1==b.2.1.1)&&((a.2.1.2.1==b.2.1.2.1)&&(a.2.1.2.2==b.2.1.2.2)))) (sle a.2.1 b.2.1) (cond (!(a.2.2.1==b.2.2.1)) b.2.2.1 (decide (a.2.2.2<b.2.2.2)))
theorem Ga {α:Type} {l:List α} {i:Nat} {d:α} (h:i<l.length):l.drop i=l.getD i d::l.drop (i+1):=by
 rw [List.drop_eq_getElem_cons h,List.getD_eq_getElem?_getD,List.getElem?_eq_getElem h]
 rfl

section
open Go
end

def inR (n lo hi:Int):Bool:=decide (n≥lo)&&decide (n≤hi)
theorem R2a (n lo hi:Int):Ea n lo hi=some (inR n lo hi):=by
 unfold Ea inR
 cases decide (n≥lo)<;>rfl
theorem R3a (n lo hi:Int):Am n lo hi=some (inR n lo hi):=by
 unfold Am inR
 cases decide (n≥lo)<;>rfl
theorem P8a {n lo hi:Int}:inR n lo hi=true↔lo≤n∧n≤hi:=by
 unfold inR
 simp
def R4a (c:Int):Bool:=inR c 97 122 || (inR c 48 57 || (!(c != 45) || (!(c != 95) || !(c != 47))))
def Bya (s:ByteArray):Prop:=s.size≤4611686018427387904
theorem A0a (s:ByteArray) (i:Int):0≤bt s i∧bt s i≤255:=by
 unfold bt
 have:=(s.data.toList.getD i.toNat 0).toNat_lt
 omega
def bOk (b:UInt8):Bool:=R4a (b.toNat:Int)
def Iwa (s:ByteArray):Bool:=s.data.toList.all bOk&&inR (s.size:Int) 1 20
def N7 (s:Stp):Bool:=inR s.1 0 1000000000&&(inR s.2.1 0 1000000&&inR s.2.2 0 20)
theorem Ixa (s:Stp):Bs s=some (N7 s):=by
 unfold Bs N7
 simp only [R2a,Option.bind_some]
 cases inR s.1 0 1000000000<;>cases inR s.2.1 0 1000000<;>rfl
theorem Iya (s:Stp):Bq s=some (N7 s):=by
 unfold Bq N7
 simp only [R3a,Option.bind_some]
 cases inR s.1 0 1000000000<;>cases inR s.2.1 0 1000000<;>rfl
def Lya (x:Row):Bool:=Iwa x.1&&(N7 x.2.1&&(inR x.2.2.2 0 200&&(!x.2.2.1 || x.2.2.2==0)))
def chk:Option ByteArray→List Row→Bool
 |_,[]=>true
 |none,r::l=>Lya r&&chk (some r.1) l
 |some q,r::l=>Lya r&&(tlt q r.1&&chk (some r.1) l)
def Nga (l:List Row):Bool:=chk none l&&decide ((l.length:Int)≤60)
def Lza (l:List Row):Prop:=∀ r∈l,Bya r.1
theorem Aa {α:Type} {l:List α} {i:Nat} {d:α} (h1:i<l.length):l.getD i d∈l:=by
 rw [List.getD_eq_getElem?_getD,List.getElem?_eq_getElem h1]
 exact List.getElem_mem h1
def mx (a b:Row):Row:=bif Rza a b then b else a

def Xb:Nat→Nat→List Int
 |0,n=>[(n:Int)]
 |f+1,n=>if n≤127 then [(n:Int)] else ((n % 128+128:Nat):Int)::Xb f (n / 128)
def Apa (n:Nat):List Int:=Xb 4 n
def Tc:Nat→Nat→Nat→List Int→Option (Nat×Nat)
 |0,_,_,_=>none
 |_+1,_,_,[]=>none
 |f+1,k,acc,x::l=>if 128≤x then Tc f (k+1) (acc+x.toNat % 128 * 128 ^ k) l
  else if (x=0∧0<k)∨1000000000<acc+x.toNat % 128 * 128 ^ k then none else some (acc+x.toNat % 128 * 128 ^ k,k+1)
def N8 (l:List Int) (p:Nat):Option (Nat×Nat):=match Tc 5 0 0 (l.drop p) with
 |some (n,c)=>some (n,p+c)
 |none=>none
theorem Iza:∀ (f n:Nat),(Xb f n).length≤f+1∧0<(Xb f n).length
 |0,n=>by simp [Xb]
 |f+1,n=>by
  unfold Xb
  split
  ·simp
  ·have:=Iza f (n / 128)
   simp only [List.length_cons]
   omega
theorem P6:∀ (f k acc:Nat) (l:List Int) (n c:Nat),B5 l→Tc f k acc l=some (n,c)→acc<128 ^ k→k<c∧c≤k+f∧c - k≤l.length∧n≤1000000000
 |0,_,_,_,_,_,_,h,_=>by simp [Tc] at h
 |_+1,_,_,[],_,_,_,h,_=>by simp [Tc] at h
 |f+1,k,acc,x::l,n,c,hb,h,ha=>by
  have hx:=hb x (by simp)
  unfold Tc at h
  split at h
  ·have h1:acc+x.toNat % 128 * 128 ^ k<128 ^ (k+1):=by
    have h2:x.toNat % 128≤127:=by omega
    have h3:=Nat.mul_le_mul_right (128 ^ k) h2
    rw [Nat.pow_succ]
    omega
   have:=P6 f (k+1) _ l n c (λ y hy=>hb y (List.mem_cons_of_mem _ hy)) h h1
   simp only [List.length_cons]
   omega
  ·split at h
   ·cases h
   ·simp only [Option.some.injEq,Prod.mk.injEq] at h
    obtain ⟨rfl,rfl⟩:=h
    simp only [List.length_cons]
    omega
theorem J0a:∀ (f k acc:Nat) (l:List Int) (n c:Nat),B5 l→Tc (f+1) k acc l=some (n,c)→acc<128 ^ k→∃ m,n=acc+m * 128 ^ k∧l=Xb f m++l.drop (c - k)∧(m=0→c=k+1∧(0<k→False))∧m<128 ^ (f+1)
 |0,k,acc,[],n,c,hb,h,ha=>by simp [Tc] at h
 |_+1,k,acc,[],n,c,hb,h,ha=>by simp [Tc] at h
 |0,k,acc,x::l,n,c,hb,h,ha=>by
  have hx:=hb x (by simp)
  unfold Tc at h
  split at h
  ·simp [Tc] at h
  ·rename_i h128
   split at h
   ·cases h
   ·rename_i hz
    simp only [Option.some.injEq,Prod.mk.injEq] at h
    obtain ⟨rfl,rfl⟩:=h
    have hm:x.toNat % 128=x.toNat:=Nat.mod_eq_of_lt (by omega)
    refine ⟨x.toNat,by rw [hm],?_,λ h0=>⟨rfl,λ hk=>hz (.inl ⟨by omega,hk⟩)⟩,by omega⟩
    rw [show k+1 - k=1 by omega]
    show x::l=[((x.toNat:Nat):Int)]++l
    rw [show ((x.toNat:Nat):Int)=x by omega]
    rfl
 |f+1,k,acc,x::l,n,c,hb,h,ha=>by
  have hx:=hb x (by simp)
  have hb':B5 l:=λ y hy=>hb y (List.mem_cons_of_mem _ hy)
  unfold Tc at h
  split at h
  ·rename_i h128
   have h1:acc+x.toNat % 128 * 128 ^ k<128 ^ (k+1):=by
    have h2:x.toNat % 128≤127:=by omega
    have h3:=Nat.mul_le_mul_right (128 ^ k) h2
    rw [Nat.pow_succ]
    omega
   obtain ⟨m,e1,e2,e3,e4⟩:=J0a f (k+1) _ l n c hb' h h1
   have hbd:=P6 (f+1) (k+1) _ l n c hb' h h1
   have hm0:m≠0:=λ h0=>(e3 h0).2 (by omega)
   refine ⟨x.toNat % 128+m * 128,?_,?_,λ h0=>by omega,?_⟩
   ·rw [e1,Nat.pow_succ,Nat.add_mul]
    have:m * 128 * 128 ^ k=m * (128 ^ k * 128):=by rw [Nat.mul_assoc,Nat.mul_comm 128]
    omega
   ·unfold Xb
    rw [if_neg (by omega),show (x.toNat % 128+m * 128) / 128=m by omega,show (x.toNat % 128+m * 128) % 128=x.toNat % 128 by omega,show c - k=(c - (k+1))+1 by omega,List.drop_succ_cons,List.cons_append,← e2]
    congr 1
    omega
   ·rw [Nat.pow_succ]
    omega
  ·rename_i h128
   split at h
   ·cases h
   ·rename_i hz
    simp only [Option.some.injEq,Prod.mk.injEq] at h
    obtain ⟨rfl,rfl⟩:=h
    have hm:x.toNat % 128=x.toNat:=Nat.mod_eq_of_lt (by omega)
    have hp:128≤128 ^ (f+1+1):=by
     have:=Nat.pow_le_pow_right (show 0<128 by decide) (show 1≤f+1+1 by omega)
     simpa using this
    refine ⟨x.toNat,by rw [hm],?_,λ h0=>⟨rfl,λ hk=>hz (.inl ⟨by omega,hk⟩)⟩,by omega⟩
    rw [show k+1 - k=1 by omega]
    unfold Xb
    rw [if_pos (by omega)]
    show x::l=[((x.toNat:Nat):Int)]++l
    rw [show ((x.toNat:Nat):Int)=x by omega]
    rfl
theorem P7 {l:List Int} {p n q:Nat} (hb:B5 l) (h:N8 l p=some (n,q)):l.drop p=Apa n++l.drop q∧n≤1000000000∧p<q∧q≤l.length:=by
 unfold N8 at h
 split at h
 ·rename_i m c hd
  simp only [Option.some.injEq,Prod.mk.injEq] at h
  obtain ⟨rfl,rfl⟩:=h
  have hb':B5 (l.drop p):=λ y hy=>hb y (List.mem_of_mem_drop hy)
  have hbd:=P6 5 0 0 _ _ _ hb' hd (by decide)
  obtain ⟨m',e1,e2,_,_⟩:=J0a 4 0 0 _ _ _ hb' hd (by decide)
  have e3:m=m':=by rw [e1]; simp
  subst e3
  rw [List.length_drop] at hbd
  refine ⟨?_,hbd.2.2.2,by omega,by omega⟩
  rw [Nat.sub_zero,List.drop_drop] at e2
  exact e2
 ·cases h
theorem Sqa (i:Nat) (hi:i<5):(2:Int) ^ (min (Int.toNat (IntKind.wrap .i64 (7 * (i:Int)))) (IntKind.bits .i64))=((128 ^ i:Nat):Int):=by
 have:i=0∨i=1∨i=2∨i=3∨i=4:=by omega
 rcases this with rfl|rfl|rfl|rfl|rfl<;>decide
theorem S0a (i:Nat) (hi:i<5):(2:Int) ^ (min (Int.toNat (IntKind.wrap .u64 (IntKind.wrap .i64 (7 * (i:Int))))) (IntKind.bits .i64))=((128 ^ i:Nat):Int):=by
 have:i=0∨i=1∨i=2∨i=3∨i=4:=by omega
 rcases this with rfl|rfl|rfl|rfl|rfl<;>decide
theorem sh7 (i:Nat) (hi:i<5):¬ (IntKind.wrap .i64 (7 * (i:Int))<0)∧¬ (IntKind.wrap .u64 (IntKind.wrap .i64 (7 * (i:Int)))<0):=by
 have:i=0∨i=1∨i=2∨i=3∨i=4:=by omega
 rcases this with rfl|rfl|rfl|rfl|rfl<;>decide
theorem Mq (i:Nat) (hi:i≤5):128 ^ i≤34359738368:=by
 have:=Nat.pow_le_pow_right (show 0<128 by decide) hi
 simpa using this
theorem Nx (n:Nat) (h:n<18446744073709551616):(BitVec.ofInt (IntKind.bits .i64) (n:Int)).toNat=n:=by
 rw [BitVec.toNat_ofInt]
 show ((n:Int) % ((2 ^ 64:Nat):Int)).toNat=n
 rw [Int.emod_eq_of_lt (by omega) (by omega)]
 exact Int.toNat_natCast n
theorem Nha (n:Nat) (h:n<9223372036854775808):IntKind.wrap .i64 ((BitVec.ofInt (IntKind.bits .i64) (n:Int) &&& BitVec.ofInt (IntKind.bits .i64) 127).toNat)=((n % 128:Nat):Int):=by
 rw [BitVec.toNat_and,Nx n (by omega),show (BitVec.ofInt (IntKind.bits .i64) 127).toNat=127 from by decide,show (127:Nat)=2 ^ 7 - 1 from rfl,Nat.and_two_pow_sub_one_eq_mod]
 exact w64 (by omega) (by omega)
theorem Dva (a m i:Nat) (ha:a<128 ^ i) (hm:m<128) (hi:i<5):IntKind.wrap .i64 ((BitVec.ofInt (IntKind.bits .i64) (a:Int) ||| BitVec.ofInt (IntKind.bits .i64) ((m * 128 ^ i:Nat):Int)).toNat)=((a+m * 128 ^ i:Nat):Int):=by
 have hp:=Mq i (by omega)
 have hmul:m * 128 ^ i≤127 * 34359738368:=Nat.mul_le_mul (by omega) hp
 rw [BitVec.toNat_or,Nx a (by omega),Nx _ (by omega),Nat.or_comm]
 have e:(128:Nat) ^ i=2 ^ (7 * i):=by rw [Nat.pow_mul]
 have h2:=Nat.two_pow_add_eq_or_of_lt (i:=7 * i) (b:=a) (by rw [← e]; exact ha) m
 rw [← e,Nat.mul_comm] at h2
 rw [← h2,Nat.add_comm]
 exact w64 (by omega) (by omega)
def Bza (l:List Int) (p:Int):Int×Int×Bool:=if p<0 then (0,0,false) else match N8 l p.toNat with
 |some (n,q)=>((n:Int),(q:Int),true)
 |none=>(0,0,false)
def Rla (p:Nat):Option (Nat×Nat)→Int×Int×Bool
 |some (n,c)=>((n:Int),((p+c:Nat):Int),true)
 |none=>(0,0,false)
def St (r:Sum (Int×Int×Bool) Unit):Int×Int×Bool:=Sum.elim (λ y=>y) (λ _=>(0,0,false)) r
theorem A1a {l:List Int} {p:Nat} (h:p<l.length):l.drop p=l.getD p 0::l.drop (p+1):=Ga h
theorem F9a (l:List Int) (hb:B5 l) (hl:l.length≤1000000000000) (p:Nat) (hp:p≤1000000000000):∀ (f i acc:Nat),f+i=5→acc<128 ^ i→
  Tot (λ k=>Dh k l (p:Int) (acc:Int) (i:Int)) (λ r=>St r=Rla p (Tc f i acc (l.drop (p+i)))):=by
 intro f
 induction f with
 |zero=>
  intro i acc hi ha
  refine Tot.succ ?_
  simp only [Dh]
  exact Tot.ndec (by omega) (Tot.pure rfl)
 |succ f ih=>
  intro i acc hi ha
  have hi5:i<5:=by omega
  refine Tot.succ ?_
  simp only [Dh]
  refine Tot.dec (by omega) (Tot.dec (by omega) ?_)
  rw [w64 (n:=(l.length:Int) - (i:Int)) (by omega) (by omega),w64 (n:=(p:Int)+(i:Int)) (by omega) (by omega),show Int.toNat ((p:Int)+(i:Int))=p+i by omega]
  refine Tot.dite (λ h=>?_) (λ h=>?_)
  ·have hlt:p+i<l.length:=by omega
   refine Tot.dec (by omega) (Tot.dec (by omega) ?_)
   have hx:=hb (l.getD (p+i) 0) (Aa hlt)
   rw [A1a hlt,Sqa i hi5]
   have he:Tc (f+1) i acc (l.getD (p+i) 0::l.drop (p+i+1))=if 128≤l.getD (p+i) 0 then Tc f (i+1) (acc+(l.getD (p+i) 0).toNat % 128 * 128 ^ i) (l.drop (p+i+1)) else if (l.getD (p+i) 0=0∧0<i)∨1000000000<acc+(l.getD (p+i) 0).toNat % 128 * 128 ^ i then none else some (acc+(l.getD (p+i) 0).toNat % 128 * 128 ^ i,i+1):=rfl
   rw [he]
   generalize l.getD (p+i) 0=x at hx ⊢
   obtain ⟨v,rfl⟩:∃ v:Nat,x=(v:Int):=⟨x.toNat,by omega⟩
   rw [Int.toNat_natCast]
   have hp1:=Mq i (by omega)
   have hmul:v % 128 * 128 ^ i≤127 * 34359738368:=Nat.mul_le_mul (by omega) hp1
   rw [w64 (n:=(v:Int)) (by omega) (by omega)]
   have e1:Int.tmod (v:Int) 128 * ((128 ^ i:Nat):Int)=((v % 128 * 128 ^ i:Nat):Int):=by
    rw [Int.tmod_eq_emod_of_nonneg (by omega)]
    push_cast
    rfl
   rw [e1,w64 (n:=((v % 128 * 128 ^ i:Nat):Int)) (by omega) (by omega),← Int.natCast_add,w64 (n:=((acc+v % 128 * 128 ^ i:Nat):Int)) (by omega) (by omega),w64 (n:=(i:Int)+1) (by omega) (by omega),w64 (n:=(p:Int)+(i:Int)+1) (by omega) (by omega)]
   refine Tot.ndec (sh7 i hi5).1 ?_
   refine Tot.dite (λ h128=>?_) (λ h128=>?_)
   ·rw [if_pos (by omega)]
    have h1:acc+v % 128 * 128 ^ i<128 ^ (i+1):=by
     have h2:v % 128≤127:=by omega
     have h3:=Nat.mul_le_mul_right (128 ^ i) h2
     rw [Nat.pow_succ]
     omega
    have:=ih (i+1) (acc+v % 128 * 128 ^ i) (by omega) h1
    rw [show p+(i+1)=p+i+1 by omega] at this
    exact this
   ·rw [if_neg (by omega)]
    have big:Tot (λ _:Nat=>cond (decide (((acc+v % 128 * 128 ^ i:Nat):Int) > 1000000000)) (some (Sum.inl ((0:Int),(0:Int),false))) (some (Sum.inl (((acc+v % 128 * 128 ^ i:Nat):Int),(p:Int)+(i:Int)+1,true))):Nat→Option (Sum (Int×Int×Bool) Unit))
      (λ r=>St r=if 1000000000<acc+v % 128 * 128 ^ i then (0,0,false) else (((acc+v % 128 * 128 ^ i:Nat):Int),((p+(i+1):Nat):Int),true)):=by
     refine Tot.dite (λ hbig=>?_) (λ hbig=>?_)
     ·rw [if_pos (by omega)]; exact Tot.pure rfl
     ·rw [if_neg (by omega)]
      refine Tot.pure ?_
      show (_,_,_)=_
      rw [show (p:Int)+(i:Int)+1=((p+(i+1):Nat):Int) by omega]
    have goal:∀ c:Prop,[Decidable c]→(if c∨1000000000<acc+v % 128 * 128 ^ i then none else some (acc+v % 128 * 128 ^ i,i+1))=if c then none else if 1000000000<acc+v % 128 * 128 ^ i then (none:Option (Nat×Nat)) else some (acc+v % 128 * 128 ^ i,i+1):=by
     intro c _
     by_cases h1:c<;>by_cases h2:1000000000<acc+v % 128 * 128 ^ i<;>simp [h1,h2]
    rw [goal]
    have fin:(Rla p (if 1000000000<acc+v % 128 * 128 ^ i then (none:Option (Nat×Nat)) else some (acc+v % 128 * 128 ^ i,i+1)))=if 1000000000<acc+v % 128 * 128 ^ i then (0,0,false) else (((acc+v % 128 * 128 ^ i:Nat):Int),((p+(i+1):Nat):Int),true):=by
     split<;>rfl
    refine Tot.ite (λ h0=>?_) (λ h0=>?_)
    ·have hv:v=0:=by
      have:=beq_iff_eq.1 h0
      omega
     refine Tot.dite (λ hi0=>?_) (λ hi0=>?_)
     ·rw [if_pos ⟨by omega,by omega⟩]; exact Tot.pure rfl
     ·rw [if_neg (by omega),fin]; exact big
    ·have hv:v≠0:=by
      intro e
      subst e
      simp at h0
     rw [if_neg (by omega),fin]; exact big
  ·refine Tot.pure ?_
   rw [List.drop_of_length_le (by omega)]
   rfl
theorem J1a (l:List Int) (hb:B5 l) (hl:l.length≤1000000000000) (p:Int) (hp:p≤1000000000000):Tot (λ k=>Ez k l p) (λ r=>r=Bza l p):=by
 unfold Ez Bza
 by_cases h0:p<0
 ·rw [if_pos h0]
  refine Tot.bind (Q:=λ r=>r = .inr ()) ?_ ?_
  ·refine Tot.succ ?_
   simp only [Dh]
   exact Tot.dec (by omega) (Tot.ndec (by omega) (Tot.pure rfl))
  ·rintro r rfl
   exact Tot.pure rfl
 ·rw [if_neg h0]
  obtain ⟨n,rfl⟩:∃ n:Nat,p=(n:Int):=⟨p.toNat,by omega⟩
  rw [Int.toNat_natCast]
  refine Tot.bind (F9a l hb hl n (by omega) 5 0 0 rfl (by decide)) ?_
  intro r hr
  unfold N8
  rw [Nat.add_zero] at hr
  have hr':St r=(match (match Tc 5 0 0 (l.drop n) with|some (m,c)=>some (m,n+c)|none=>none) with|some (m,q)=>((m:Int),(q:Int),true)|none=>((0:Int),(0:Int),false)):=by
   rw [hr]
   cases Tc 5 0 0 (l.drop n) with
   |none=>rfl
   |some mc=>rfl
  rw [← hr']
  cases r with
  |inl y=>exact Tot.pure rfl
  |inr z=>exact Tot.pure rfl

theorem Faa (l:List Int) (hb:B5 l) (hl:l.length≤1000000000000) (p:Nat) (hp:p<l.length):∀ (f i acc:Nat),f+i=5→acc<128 ^ i→
  Tot (λ k=>C4 k l (p:Int) (acc:Int) (i:Int)) (λ r=>St r=Rla p (Tc f i acc (l.drop (p+i)))):=by
 intro f
 induction f with
 |zero=>
  intro i acc hi ha
  refine Tot.succ ?_
  simp only [C4]
  exact Tot.ndec (by omega) (Tot.pure rfl)
 |succ f ih=>
  intro i acc hi ha
  have hi5:i<5:=by omega
  refine Tot.succ ?_
  simp only [C4]
  refine Tot.dec (by omega) (Tot.dec (by omega) (Tot.dec (by omega) ?_))
  rw [w64 (n:=(p:Int)+(i:Int)) (by omega) (by omega),show Int.toNat ((p:Int)+(i:Int))=p+i by omega]
  refine Tot.dite (λ h=>?_) (λ h=>?_)
  ·have hlt:p+i<l.length:=by omega
   refine Tot.dec (by omega) (Tot.dec (by omega) ?_)
   have hx:=hb (l.getD (p+i) 0) (Aa hlt)
   rw [A1a hlt,S0a i hi5]
   have he:Tc (f+1) i acc (l.getD (p+i) 0::l.drop (p+i+1))=if 128≤l.getD (p+i) 0 then Tc f (i+1) (acc+(l.getD (p+i) 0).toNat % 128 * 128 ^ i) (l.drop (p+i+1)) else if (l.getD (p+i) 0=0∧0<i)∨1000000000<acc+(l.getD (p+i) 0).toNat % 128 * 128 ^ i then none else some (acc+(l.getD (p+i) 0).toNat % 128 * 128 ^ i,i+1):=rfl
   rw [he]
   generalize l.getD (p+i) 0=x at hx ⊢
   obtain ⟨v,rfl⟩:∃ v:Nat,x=(v:Int):=⟨x.toNat,by omega⟩
   rw [Int.toNat_natCast]
   have hp1:=Mq i (by omega)
   have hmul:v % 128 * 128 ^ i≤127 * 34359738368:=Nat.mul_le_mul (by omega) hp1
   rw [w64 (n:=(v:Int)) (by omega) (by omega),Nha v (by omega)]
   have e1:((v % 128:Nat):Int) * ((128 ^ i:Nat):Int)=((v % 128 * 128 ^ i:Nat):Int):=by push_cast; rfl
   rw [e1,w64 (n:=((v % 128 * 128 ^ i:Nat):Int)) (by omega) (by omega),Dva acc (v % 128) i ha (by omega) hi5,w64 (n:=(i:Int)+1) (by omega) (by omega),w64 (n:=(p:Int)+(i:Int)+1) (by omega) (by omega)]
   refine Tot.ndec (sh7 i hi5).2 ?_
   refine Tot.dite (λ h128=>?_) (λ h128=>?_)
   ·rw [if_pos (by omega)]
    have h1:acc+v % 128 * 128 ^ i<128 ^ (i+1):=by
     have h2:v % 128≤127:=by omega
     have h3:=Nat.mul_le_mul_right (128 ^ i) h2
     rw [Nat.pow_succ]
     omega
    have:=ih (i+1) (acc+v % 128 * 128 ^ i) (by omega) h1
    rw [show p+(i+1)=p+i+1 by omega] at this
    exact this
   ·rw [if_neg (by omega)]
    have big:Tot (λ _:Nat=>cond (decide (((acc+v % 128 * 128 ^ i:Nat):Int) > 1000000000)) (some (Sum.inl ((0:Int),(0:Int),false))) (some (Sum.inl (((acc+v % 128 * 128 ^ i:Nat):Int),(p:Int)+(i:Int)+1,true))):Nat→Option (Sum (Int×Int×Bool) Unit))
      (λ r=>St r=if 1000000000<acc+v % 128 * 128 ^ i then (0,0,false) else (((acc+v % 128 * 128 ^ i:Nat):Int),((p+(i+1):Nat):Int),true)):=by
     refine Tot.dite (λ hbig=>?_) (λ hbig=>?_)
     ·rw [if_pos (by omega)]; exact Tot.pure rfl
     ·rw [if_neg (by omega)]
      refine Tot.pure ?_
      show (_,_,_)=_
      rw [show (p:Int)+(i:Int)+1=((p+(i+1):Nat):Int) by omega]
    have goal:∀ c:Prop,[Decidable c]→(if c∨1000000000<acc+v % 128 * 128 ^ i then none else some (acc+v % 128 * 128 ^ i,i+1))=if c then none else if 1000000000<acc+v % 128 * 128 ^ i then (none:Option (Nat×Nat)) else some (acc+v % 128 * 128 ^ i,i+1):=by
     intro c _
     by_cases h1:c<;>by_cases h2:1000000000<acc+v % 128 * 128 ^ i<;>simp [h1,h2]
    rw [goal]
    have fin:(Rla p (if 1000000000<acc+v % 128 * 128 ^ i then (none:Option (Nat×Nat)) else some (acc+v % 128 * 128 ^ i,i+1)))=if 1000000000<acc+v % 128 * 128 ^ i then (0,0,false) else (((acc+v % 128 * 128 ^ i:Nat):Int),((p+(i+1):Nat):Int),true):=by
     split<;>rfl
    refine Tot.dite (λ hi0=>?_) (λ hi0=>?_)
    ·refine Tot.ite (λ h0=>?_) (λ h0=>?_)
     ·have hv:v=0:=by
       have:=beq_iff_eq.1 h0
       omega
      rw [if_pos ⟨by omega,by omega⟩]; exact Tot.pure rfl
     ·have hv:v≠0:=by
       intro e
       subst e
       simp at h0
      rw [if_neg (by omega),fin]; exact big
    ·rw [if_neg (by omega),fin]; exact big
  ·refine Tot.pure ?_
   rw [List.drop_of_length_le (by omega)]
   rfl
theorem Qq (l:List Int) (hb:B5 l) (hl:l.length≤1000000000000) (p:Int):Tot (λ k=>Be k l p) (λ r=>r=Bza l p):=by
 unfold Be Bza
 by_cases h0:p<0
 ·rw [if_pos h0]
  refine Tot.bind (Q:=λ r=>r = .inr ()) ?_ ?_
  ·refine Tot.succ ?_
   simp only [C4]
   exact Tot.dec (by omega) (Tot.ndec (by omega) (Tot.pure rfl))
  ·rintro r rfl
   exact Tot.pure rfl
 ·rw [if_neg h0]
  by_cases h1:p<(l.length:Int)
  ·obtain ⟨n,rfl⟩:∃ n:Nat,p=(n:Int):=⟨p.toNat,by omega⟩
   rw [Int.toNat_natCast]
   refine Tot.bind (Faa l hb hl n (by omega) 5 0 0 rfl (by decide)) ?_
   intro r hr
   unfold N8
   rw [Nat.add_zero] at hr
   have hr':St r=(match (match Tc 5 0 0 (l.drop n) with|some (m,c)=>some (m,n+c)|none=>none) with|some (m,q)=>((m:Int),(q:Int),true)|none=>((0:Int),(0:Int),false)):=by
    rw [hr]
    cases Tc 5 0 0 (l.drop n) with
    |none=>rfl
    |some mc=>rfl
   refine Tot.mono (Q:=λ y=>y=St r) ?_ (λ y hy=>hy.trans hr')
   cases r with
   |inl y=>exact Tot.pure rfl
   |inr z=>exact Tot.pure rfl
  ·have e:N8 l p.toNat=none:=by
    unfold N8
    rw [List.drop_of_length_le (by omega)]
    rfl
   rw [e]
   refine Tot.bind (Q:=λ r=>r = .inr ()) ?_ ?_
   ·refine Tot.succ ?_
    simp only [C4]
    exact Tot.dec (by omega) (Tot.dec (by omega) (Tot.ndec h1 (Tot.pure rfl)))
   ·rintro r rfl
    exact Tot.pure rfl
def Et (n:Int):Nat:=(max 0 (min n 1000000000)).toNat
theorem Su (n:Int):Et n≤1000000000:=by unfold Et; omega
theorem Dwa (n:Nat) (h:n≤255):IntKind.wrap .u8 (n:Int)=(n:Int):=by
 rw [IntKind.wrap_u8]
 omega
theorem Fba:∀ (f n:Nat) (out:List Int),n<128 ^ (f+1)→f≤4→out.length+f≤1000000000010→
  Tot (λ k=>Ec k out (n:Int)) (λ r=>∃ m:Nat,r.2=(m:Int)∧m≤127∧r.1++[(m:Int)]=out++Xb f n∧r.1.length≤out.length+f):=by
 intro f
 induction f with
 |zero=>
  intro n out hn hf hl
  refine Tot.succ ?_
  simp only [Ec]
  have:n<128:=by simpa using hn
  exact Tot.ndec (by omega) (Tot.pure ⟨n,rfl,by omega,rfl,by simp⟩)
 |succ f ih=>
  intro n out hn hf hl
  have hp:=Mq (f+1+1 - 1) (by omega)
  refine Tot.succ ?_
  simp only [Ec]
  refine Tot.dite (λ h=>?_) (λ h=>?_)
  ·have hn2:n / 128<128 ^ (f+1):=by rw [Nat.pow_succ] at hn; omega
   have hn3:n<4398046511104:=by
    have:=Mq (f+1) (by omega)
    rw [Nat.pow_succ] at hn
    omega
   have e1:Int.tmod (n:Int) 128+128=((n % 128+128:Nat):Int):=by
    rw [Int.tmod_eq_emod_of_nonneg (by omega)]
    omega
   have e2:Int.tdiv (n:Int) 128=((n / 128:Nat):Int):=by
    rw [Int.tdiv_eq_ediv_of_nonneg (by omega)]
    omega
   rw [e1,e2,w64 (n:=((n % 128+128:Nat):Int)) (by omega) (by omega),w64 (n:=((n / 128:Nat):Int)) (by omega) (by omega),Dwa _ (by omega)]
   refine Tot.ble (by simp only [List.length_cons,List.length_nil]; omega) ?_
   refine (ih (n / 128) (out++[((n % 128+128:Nat):Int)]) hn2 (by omega) (by simp only [List.length_append,List.length_cons,List.length_nil]; omega)).mono ?_
   rintro r ⟨m,h1,h2,h3,h4⟩
   refine ⟨m,h1,h2,?_,by simp only [List.length_append,List.length_cons,List.length_nil] at h4; omega⟩
   rw [h3,List.append_assoc]
   congr 1
   conv => { rhs; unfold Xb }
   rw [if_neg (by omega)]
   rfl
  ·refine Tot.pure ⟨n,rfl,by omega,?_,by show out.length≤out.length+(f+1); omega⟩
   unfold Xb
   rw [if_pos (by omega)]
theorem Sw (out:List Int) (n:Int) (hl:out.length≤1000000000000):Tot (λ k=>Ch k out n) (λ r=>r=out++Apa (Et n)):=by
 unfold Ch
 have e:(if (0:Int)<(if (1000000000:Int)<n then 1000000000 else n) then (if (1000000000:Int)<n then 1000000000 else n) else 0)=((Et n:Nat):Int):=by
  unfold Et
  split<;>split<;>omega
 simp only
 rw [e]
 have hc:=Su n
 refine Tot.bind (Fba 4 (Et n) out (by omega) (by omega) (by omega)) ?_
 rintro r ⟨m,h1,h2,h3,h4⟩
 rw [h1,Dwa m (by omega)]
 refine Tot.ble (by simp only [List.length_cons,List.length_nil]; omega) (Tot.pure h3)
theorem Fca:∀ (f n:Nat) (out:List Int),n<128 ^ (f+1)→f≤4→out.length+f≤1000000000010→
  Tot (λ k=>B7 k (n:Int) out) (λ r=>∃ m:Nat,r.1=(m:Int)∧m≤127∧r.2++[(m:Int)]=out++Xb f n∧r.2.length≤out.length+f):=by
 intro f
 induction f with
 |zero=>
  intro n out hn hf hl
  refine Tot.succ ?_
  simp only [B7]
  have:n<128:=by simpa using hn
  exact Tot.ndec (by omega) (Tot.pure ⟨n,rfl,by omega,rfl,by simp⟩)
 |succ f ih=>
  intro n out hn hf hl
  refine Tot.succ ?_
  simp only [B7]
  refine Tot.dite (λ h=>?_) (λ h=>?_)
  ·have hn2:n / 128<128 ^ (f+1):=by rw [Nat.pow_succ] at hn; omega
   have hn3:n<4398046511104:=by
    have:=Mq (f+1) (by omega)
    rw [Nat.pow_succ] at hn
    omega
   have e1:IntKind.wrap .i64 ((BitVec.ofInt (IntKind.bits .i64) ((n % 128:Nat):Int) ||| BitVec.ofInt (IntKind.bits .i64) 128).toNat)=((n % 128+128:Nat):Int):=by
    have:=Dva (n % 128) 1 1 (by omega) (by omega) (by omega)
    exact this
   have e2:Int.fdiv (n:Int) (2 ^ (min (Int.toNat 7) (IntKind.bits .i64)))=((n / 128:Nat):Int):=by
    have:(2:Int) ^ (min (Int.toNat 7) (IntKind.bits .i64))=128:=by decide
    rw [this,Int.fdiv_eq_ediv_of_nonneg _ (by omega)]
    omega
   rw [Nha n (by omega),e1,e2,Dwa _ (by omega)]
   refine Tot.ble (by simp only [List.length_cons,List.length_nil]; omega) ?_
   refine (ih (n / 128) (out++[((n % 128+128:Nat):Int)]) hn2 (by omega) (by simp only [List.length_append,List.length_cons,List.length_nil]; omega)).mono ?_
   rintro r ⟨m,h1,h2,h3,h4⟩
   refine ⟨m,h1,h2,?_,by simp only [List.length_append,List.length_cons,List.length_nil] at h4; omega⟩
   rw [h3,List.append_assoc]
   congr 1
   conv => { rhs; unfold Xb }
   rw [if_neg (by omega)]
   rfl
  ·refine Tot.pure ⟨n,rfl,by omega,?_,by show out.length≤out.length+(f+1); omega⟩
   unfold Xb
   rw [if_pos (by omega)]
theorem Sx (out:List Int) (n:Int) (hl:out.length≤1000000000000):Tot (λ k=>Bf k out n) (λ r=>r=out++Apa (Et n)):=by
 have hc:=Su n
 have fin:Tot (λ k=>(B7 k ((Et n:Nat):Int) (([]:List Int)++out)).bind λ r1=>cond (Nat.ble ((List.length r1.2+List.length [IntKind.wrap .u8 r1.1]) * 1) 140737488355328) (some (r1.2++[IntKind.wrap .u8 r1.1])) none) (λ r=>r=out++Apa (Et n)):=by
  rw [List.nil_append]
  refine Tot.bind (Fca 4 (Et n) out (by omega) (by omega) (by omega)) ?_
  rintro r ⟨m,h1,h2,h3,h4⟩
  rw [h1,Dwa m (by omega)]
  exact Tot.ble (by simp only [List.length_cons,List.length_nil]; omega) (Tot.pure h3)
 unfold Bf
 refine Tot.ble (by simp only [List.length_nil]; omega) ?_
 refine Tot.dite (λ h1=>?_) (λ h1=>?_)
 ·refine Tot.ndec (by omega) ?_
  have e:((Et n:Nat):Int)=1000000000:=by unfold Et; omega
  rw [e] at fin
  exact fin
 ·refine Tot.dite (λ h2=>?_) (λ h2=>?_)
  ·have e:((Et n:Nat):Int)=0:=by unfold Et; omega
   rw [e] at fin
   exact fin
  ·have e:((Et n:Nat):Int)=n:=by unfold Et; omega
   rw [e] at fin
   exact fin
theorem Kt (n:Nat):(Apa n).length≤5∧0<(Apa n).length:=Iza 4 n
theorem Ue:∀ (f n:Nat),n<128 ^ (f+1)→B5 (Xb f n)
 |0,n,hn=>by
  intro x hx
  simp only [Xb,List.mem_singleton] at hx
  have:n<128:=by simpa using hn
  omega
 |f+1,n,hn=>by
  unfold Xb
  split
  ·intro x hx
   simp only [List.mem_singleton] at hx
   omega
  ·intro x hx
   rcases List.mem_cons.1 hx with rfl|hx
   ·omega
   ·exact Ue f (n / 128) (by rw [Nat.pow_succ] at hn; omega) x hx
theorem Fda (n:Nat) (hn:n≤1000000000):B5 (Apa n):=Ue 4 n (by omega)
theorem Fea (s:ByteArray):B5 (bytesOf s):=by
 intro x hx
 unfold bytesOf at hx
 obtain ⟨b,_,rfl⟩:=List.mem_map.1 hx
 have:=b.toNat_lt
 omega
theorem C0a (s:ByteArray):(bytesOf s).length=s.size:=by
 unfold bytesOf
 rw [List.length_map]
 exact Array.length_toList
theorem Wv (s:ByteArray):Ju (bytesOf s)=s:=by
 unfold Ju bytesOf
 rw [List.map_map]
 have:(λ n:Int=>UInt8.ofNat n.toNat) ∘ (λ b:UInt8=>(b.toNat:Int))=id:=by
  funext b
  show UInt8.ofNat ((b.toNat:Int)).toNat=b
  rw [Int.toNat_natCast]
  exact UInt8.ofNat_toNat
 rw [this,List.map_id]
theorem N9 {l:List Int} (h:B5 l):bytesOf (Ju l)=l:=by
 unfold Ju bytesOf
 show List.map _ (List.map _ l)=l
 rw [List.map_map]
 have:∀ x∈l,((λ b:UInt8=>(b.toNat:Int)) ∘ (λ n:Int=>UInt8.ofNat n.toNat)) x=x:=by
  intro x hx
  have hb:=h x hx
  show ((UInt8.ofNat x.toNat).toNat:Int)=x
  rw [UInt8.toNat_ofNat']
  omega
 exact (List.map_congr_left this).trans (List.map_id' l)
theorem Mr (l:List Int):(Ju l).size=l.length:=by
 unfold Ju
 show (List.map _ l).toArray.size=l.length
 simp
def txt (s:ByteArray):List Int:=Apa (Et (s.size:Int))++bytesOf s
theorem M0a (out:List Int) (s:ByteArray) (hl:out.length≤1000000000000) (hs:s.size≤1000000000000):Tot (λ k=>Gy k out s) (λ r=>r=out++txt s):=by
 unfold Gy txt
 refine Tot.bind (Sw out _ hl) ?_
 rintro r rfl
 have:=(Kt (Et (s.size:Int))).1
 refine Tot.ble (by simp only [List.length_append]; omega) (Tot.pure ?_)
 rw [List.append_assoc]
theorem M1a (out:List Int) (s:ByteArray) (hl:out.length≤1000000000000) (hs:s.size≤1000000000000):Tot (λ k=>Gp k out s) (λ r=>r=out++txt s):=by
 unfold Gp txt
 refine Tot.bind (Sx out _ hl) ?_
 rintro r rfl
 have:=(Kt (Et (s.size:Int))).1
 refine Tot.ble (by simp only [List.length_append]; omega) (Tot.pure ?_)
 rw [List.append_assoc]
def G9a (l:List Int) (p:Nat):Option (ByteArray×Nat):=match N8 l p with
 |some (n,q)=>if q+n≤l.length then some (Ju ((l.drop q).take n),q+n) else none
 |none=>none
def Pya (l:List Int) (p:Int):ByteArray×Int×Bool:=if p<0 then ((⟨#[]⟩:ByteArray),0,false) else match G9a l p.toNat with
 |some (s,q)=>(s,(q:Int),true)
 |none=>((⟨#[]⟩:ByteArray),0,false)
theorem Uf (l:List Int) (hb:B5 l) (p:Int):Bza l p=(0,0,false)∨∃ n q,0≤p∧N8 l p.toNat=some (n,q)∧Bza l p=((n:Int),(q:Int),true)∧n≤1000000000∧q≤l.length:=by
 unfold Bza
 by_cases h:p<0
 ·rw [if_pos h]; exact .inl rfl
 ·rw [if_neg h]
  cases hg:N8 l p.toNat with
  |none=>exact .inl rfl
  |some nq=>
   obtain ⟨n,q⟩:=nq
   have:=P7 hb hg
   exact .inr ⟨n,q,by omega,rfl,rfl,this.2.1,this.2.2.2⟩
theorem Dxa (l:List Int) (hb:B5 l) (hl:l.length≤1000000000000) (p:Int) (hp:p≤1000000000000):Tot (λ k=>Gx k l p) (λ r=>r=Pya l p):=by
 unfold Gx
 refine Tot.bind (J1a l hb hl p hp) ?_
 rintro r rfl
 unfold Pya G9a
 rcases Uf l hb p with h|⟨n,q,h0,hg,h,hn,hq⟩
 ·rw [h]
  refine Tot.yes rfl (Tot.pure ?_)
  unfold Bza at h
  split
  ·rfl
  ·rename_i h0
   rw [if_neg h0] at h
   cases hg:N8 l p.toNat with
   |none=>rfl
   |some nq=>rw [hg] at h; simp at h
 ·rw [h]
  refine Tot.no rfl ?_
  rw [if_neg (by omega),hg]
  simp only
  rw [w64 (n:=(l.length:Int) - (q:Int)) (by omega) (by omega),w64 (n:=(q:Int)+(n:Int)) (by omega) (by omega)]
  refine Tot.dite (λ hgt=>?_) (λ hgt=>?_)
  ·rw [if_neg (by omega)]
   exact Tot.pure rfl
  ·rw [if_pos (by omega)]
   refine Tot.dec (by omega) (Tot.dec (by omega) (Tot.dec (by omega) (Tot.pure ?_)))
   rw [show Int.toNat ((q:Int)+(n:Int))=q+n by omega,Int.toNat_natCast,List.drop_take,show q+n - q=n by omega]
   simp only [Prod.mk.injEq,true_and,and_true]
   push_cast
   rfl
theorem Ww (l:List Int) (hb:B5 l) (hl:l.length≤1000000000000) (p:Int):Tot (λ k=>Gn k l p) (λ r=>r=Pya l p):=by
 unfold Gn
 refine Tot.bind (Qq l hb hl p) ?_
 rintro r rfl
 unfold Pya G9a
 rcases Uf l hb p with h|⟨n,q,h0,hg,h,hn,hq⟩
 ·rw [h]
  refine Tot.yes rfl (Tot.pure ?_)
  unfold Bza at h
  split
  ·rfl
  ·rename_i h0
   rw [if_neg h0] at h
   cases hg:N8 l p.toNat with
   |none=>rfl
   |some nq=>rw [hg] at h; simp at h
 ·rw [h]
  refine Tot.no rfl ?_
  rw [if_neg (by omega),hg]
  simp only
  rw [w64 (n:=(l.length:Int) - (q:Int)) (by omega) (by omega),w64 (n:=(q:Int)+(n:Int)) (by omega) (by omega)]
  refine Tot.dite (λ hgt=>?_) (λ hgt=>?_)
  ·rw [if_neg (by omega)]
   exact Tot.pure rfl
  ·rw [if_pos (by omega)]
   refine Tot.dec (by omega) (Tot.dec (by omega) (Tot.dec (by omega) (Tot.pure ?_)))
   rw [show Int.toNat ((q:Int)+(n:Int))=q+n by omega,Int.toNat_natCast,List.drop_take,show q+n - q=n by omega]
   simp only [Prod.mk.injEq,true_and,and_true]
   push_cast
   rfl
theorem C1a {l:List Int} {p q:Nat} {s:ByteArray} (hb:B5 l) (h:G9a l p=some (s,q)):l.drop p=txt s++l.drop q∧s.size≤1000000000∧p<q∧q≤l.length:=by
 unfold G9a at h
 split at h
 ·rename_i n q0 hg
  obtain ⟨h1,h2,h3,h4⟩:=P7 hb hg
  split at h
  ·rename_i hle
   simp only [Option.some.injEq,Prod.mk.injEq] at h
   obtain ⟨rfl,rfl⟩:=h
   have hlen:((l.drop q0).take n).length=n:=by rw [List.length_take,List.length_drop]; omega
   have hbb:B5 ((l.drop q0).take n):=λ x hx=>hb x (List.mem_of_mem_drop (List.mem_of_mem_take hx))
   refine ⟨?_,by rw [Mr,hlen]; exact h2,by omega,by omega⟩
   unfold txt
   rw [Mr,hlen,N9 hbb,h1,show Et (n:Int)=n by unfold Et; omega,List.append_assoc]
   congr 1
   rw [← List.drop_drop,List.take_append_drop]
  ·cases h
 ·cases h

def J2a (b:Bool):Int:=bif b then 1 else 0
theorem P9a (b:Bool):Lj b=some (J2a b):=by cases b<;>rfl
theorem M2a (b:Bool):Ir b=some (J2a b):=by cases b<;>rfl
def Kba (s:Stp):List Int:=Apa (Et s.1)++(Apa (Et s.2.1)++Apa (Et s.2.2))
theorem Dya (s:Stp):(Kba s).length≤15:=by
 unfold Kba
 have h1:=(Kt (Et s.1)).1
 have h2:=(Kt (Et s.2.1)).1
 have h3:=(Kt (Et s.2.2)).1
 simp only [List.length_append]
 omega
theorem Ffa (out:List Int) (s:Stp) (b:Bool) (hl:out.length≤999999999900):Tot (λ k=>Fp k out s b) (λ r=>r=out++(Kba s++Apa (Et (J2a b)))):=by
 have h1:=(Kt (Et s.1)).1
 have h2:=(Kt (Et s.2.1)).1
 have h3:=(Kt (Et s.2.2)).1
 unfold Fp Kba
 refine Tot.bind (Sw out s.1 (by omega)) ?_
 rintro r rfl
 refine Tot.bind (Sw _ s.2.1 (by simp only [List.length_append]; omega)) ?_
 rintro r rfl
 refine Tot.bind (Sw _ s.2.2 (by simp only [List.length_append]; omega)) ?_
 rintro r rfl
 refine Tot.bind (Tot.of (Q:=λ y=>y=J2a b) (P9a b) rfl) ?_
 rintro y rfl
 refine Tot.bind (Sw _ (J2a b) (by simp only [List.length_append]; omega)) ?_
 rintro r rfl
 exact Tot.pure (by simp only [List.append_assoc])
theorem Fga (out:List Int) (s:Stp) (hl:out.length≤999999999900):Tot (λ k=>Gq k out s) (λ r=>r=out++Kba s):=by
 have h1:=(Kt (Et s.1)).1
 have h2:=(Kt (Et s.2.1)).1
 unfold Gq Kba
 refine Tot.bind (Sx out s.1 (by omega)) ?_
 rintro r rfl
 refine Tot.bind (Sx _ s.2.1 (by simp only [List.length_append]; omega)) ?_
 rintro r rfl
 refine Tot.bind (Sx _ s.2.2 (by simp only [List.length_append]; omega)) ?_
 rintro r rfl
 exact Tot.pure (by simp only [List.append_assoc])
theorem Paa (s:ByteArray):(txt s).length≤5+s.size:=by
 have h1:=(Kt (Et (s.size:Int))).1
 unfold txt
 simp only [List.length_append,C0a]
 omega

theorem Rn (l:List Int) (p:Nat):Bza l (p:Int)=match N8 l p with
 |some (n,q)=>((n:Int),(q:Int),true)
 |none=>(0,0,false):=by
 unfold Bza
 rw [if_neg (by omega),Int.toNat_natCast]
 all_goals cases N8 l p<;>rfl
theorem Dza (l:List Int) (p:Nat):Pya l (p:Int)=match G9a l p with
 |some (s,q)=>(s,(q:Int),true)
 |none=>((⟨#[]⟩:ByteArray),0,false):=by
 unfold Pya
 rw [if_neg (by omega),Int.toNat_natCast]
 all_goals cases G9a l p<;>rfl
theorem Tj (l:List Int) (hb:B5 l) (hl:l.length≤1000000000000) (p:Nat) (hp:p≤l.length) (bad:Bool):
  Tot (λ k=>B3 k (l,(p:Int),bad)) (λ r=>(bad=false∧∃ n q:Nat,N8 l p=some (n,q)∧q≤l.length∧r=((n:Int),l,(q:Int),false))∨((bad=true∨N8 l p=none)∧r=(0,l,(p:Int),true))):=by
 unfold B3
 refine Tot.bind (J1a l hb hl (p:Int) (by omega)) ?_
 rintro r rfl
 refine Tot.ite (λ h=>Tot.pure (.inr ⟨.inl h,rfl⟩)) (λ h=>?_)
 rw [Rn]
 cases hg:N8 l p with
 |none=>exact Tot.yes rfl (Tot.pure (.inr ⟨.inr rfl,rfl⟩))
 |some nq=>
  obtain ⟨n,q⟩:=nq
  simp only at h
  subst h
  exact Tot.no rfl (Tot.pure (.inl ⟨rfl,n,q,rfl,(P7 hb hg).2.2.2,rfl⟩))
theorem S1a (l:List Int) (hb:B5 l) (hl:l.length≤1000000000000) (p:Nat) (hp:p≤l.length):
  Tot (λ k=>Ax k (l,(p:Int),false)) (λ r=>(∃ (s:ByteArray) (q:Nat),G9a l p=some (s,q)∧q≤l.length∧r=(s,l,(q:Int),false))∨(G9a l p=none∧r=((⟨#[]⟩:ByteArray),l,(p:Int),true))):=by
 unfold Ax
 refine Tot.bind (Dxa l hb hl (p:Int) (by omega)) ?_
 rintro r rfl
 refine Tot.no rfl ?_
 rw [Dza]
 cases hg:G9a l p with
 |none=>exact Tot.yes rfl (Tot.pure (.inr ⟨rfl,rfl⟩))
 |some nq=>
  obtain ⟨n,q⟩:=nq
  exact Tot.no rfl (Tot.pure (.inl ⟨n,q,rfl,(C1a hb hg).2.2.2,rfl⟩))
def Oj (l:List Int) (p:Nat):Option ((Stp×Bool)×Nat):=
 (N8 l p).bind λ b=>(N8 l b.2).bind λ c=>(N8 l c.2).bind λ d=>(N8 l d.2).bind λ e=>bif decide (1<e.1) then none else
  some ((((b.1:Int),(c.1:Int),(d.1:Int)),(e.1:Int)==1),e.2)
theorem S2a (l:List Int) (hb:B5 l) (hl:l.length≤1000000000000) (p:Nat) (hp:p≤l.length) (bad:Bool):
  Tot (λ k=>Bh k (l,(p:Int),bad)) (λ r=>(bad=false∧∃ (x:Stp×Bool) (q:Nat),Oj l p=some (x,q)∧q≤l.length∧r=(x.1,x.2,l,(q:Int),false))∨((bad=true∨Oj l p=none)∧∃ s b,∃ q:Nat,q≤l.length∧r=(s,b,l,(q:Int),true))):=by
 unfold Bh
 have nx:∀ {o:Option (Nat×Nat)} {f:Nat×Nat→Option ((Stp×Bool)×Nat)},o=none→o.bind f=none:=by
  intro o f h; rw [h]; rfl
 refine Tot.bind (Tj l hb hl p hp bad) ?_
 rintro r (⟨h0,n1,p1,h1,l1,rfl⟩|⟨h1,rfl⟩)
 ·simp only
  refine Tot.bind (Tj l hb hl p1 l1 false) ?_
  rintro r (⟨_,n2,p2,h2,l2,rfl⟩|⟨h2,rfl⟩)
  ·simp only
   refine Tot.bind (Tj l hb hl p2 l2 false) ?_
   rintro r (⟨_,n3,p3,h3,l3,rfl⟩|⟨h3,rfl⟩)
   ·simp only
    refine Tot.bind (Tj l hb hl p3 l3 false) ?_
    rintro r (⟨_,n4,p4,h4,l4,rfl⟩|⟨h4,rfl⟩)
    ·simp only
     refine Tot.no rfl (Tot.pure ?_)
     have e:Oj l p=bif decide (1<n4) then none else some ((((n1:Int),(n2:Int),(n3:Int)),(n4:Int)==1),p4):=by
      unfold Oj
      simp only [h1,h2,h3,h4,Option.bind_some]
     cases hd:decide (1<n4) with
     |true=>
      rw [hd,cond_true] at e
      refine .inr ⟨.inr e,((n1:Int),(n2:Int),(n3:Int)),((n4:Int)==1),p4,l4,?_⟩
      have:decide ((n4:Int) > 1)=true:=decide_eq_true (by have:=of_decide_eq_true hd; omega)
      rw [this]
     |false=>
      rw [hd,cond_false] at e
      refine .inl ⟨h0,_,p4,e,l4,?_⟩
      have:decide ((n4:Int) > 1)=false:=decide_eq_false (by have:=of_decide_eq_false hd; omega)
      rw [this]
    ·refine Tot.yes rfl (Tot.pure (.inr ⟨.inr ?_,_,_,p3,l3,rfl⟩))
     have h4':=h4.resolve_left (by simp)
     unfold Oj
     simp only [h1,h2,h3,h4',Option.bind_some,Option.bind_none]
   ·simp only
    refine Tot.bind (Tj l hb hl p2 l2 true) ?_
    rintro r (⟨hh,_⟩|⟨_,rfl⟩)
    ·cases hh
    ·refine Tot.yes rfl (Tot.pure (.inr ⟨.inr ?_,_,_,p2,l2,rfl⟩))
     have h3':=h3.resolve_left (by simp)
     unfold Oj
     simp only [h1,h2,h3',Option.bind_some,Option.bind_none]
  ·simp only
   refine Tot.bind (Tj l hb hl p1 l1 true) ?_
   rintro r (⟨hh,_⟩|⟨_,rfl⟩)
   ·cases hh
   ·refine Tot.bind (Tj l hb hl p1 l1 true) ?_
    rintro r (⟨hh,_⟩|⟨_,rfl⟩)
    ·cases hh
    ·refine Tot.yes rfl (Tot.pure (.inr ⟨.inr ?_,_,_,p1,l1,rfl⟩))
     have h2':=h2.resolve_left (by simp)
     unfold Oj
     simp only [h1,h2',Option.bind_some,Option.bind_none]
 ·simp only
  refine Tot.bind (Tj l hb hl p hp true) ?_
  rintro r (⟨hh,_⟩|⟨_,rfl⟩)
  ·cases hh
  ·refine Tot.bind (Tj l hb hl p hp true) ?_
   rintro r (⟨hh,_⟩|⟨_,rfl⟩)
   ·cases hh
   ·refine Tot.bind (Tj l hb hl p hp true) ?_
    rintro r (⟨hh,_⟩|⟨_,rfl⟩)
    ·cases hh
    ·refine Tot.yes rfl (Tot.pure (.inr ⟨?_,_,_,p,hp,rfl⟩))
     rcases h1 with h1|h1
     ·exact .inl h1
     ·refine .inr ?_
      unfold Oj
      rw [h1]
      rfl
theorem Pba (l:List Int) (hb:B5 l) (hl:l.length≤1000000000000) (p:Int):
  Tot (λ k=>Cs k l p) (λ r=>(∃ n1 p1 n2 p2 n3 p3,0≤p∧N8 l p.toNat=some (n1,p1)∧N8 l p1=some (n2,p2)∧N8 l p2=some (n3,p3)∧r=(((n1:Int),(n2:Int),(n3:Int)),(p3:Int),true))∨(((N8 l p.toNat).bind λ a=>(N8 l a.2).bind λ b=>N8 l b.2)=none∨p<0)∧r.2.2=false):=by
 unfold Cs
 refine Tot.bind (Qq l hb hl p) ?_
 rintro r1 rfl
 refine Tot.bind (Qq l hb hl _) ?_
 rintro r2 rfl
 refine Tot.bind (Qq l hb hl _) ?_
 rintro r3 rfl
 by_cases hp:p<0
 ·have:(Bza l p).2.2=false:=by unfold Bza; rw [if_pos hp]
  exact Tot.no this (Tot.pure (.inr ⟨.inr hp,rfl⟩))
 ·have e1:Bza l p=match N8 l p.toNat with|some (n,q)=>((n:Int),(q:Int),true)|none=>(0,0,false):=by
   unfold Bza; rw [if_neg hp]; all_goals cases N8 l p.toNat<;>rfl
  cases h1:N8 l p.toNat with
  |none=>
   rw [h1] at e1
   simp only [e1]
   exact Tot.no rfl (Tot.pure (.inr ⟨.inl rfl,rfl⟩))
  |some a=>
   obtain ⟨n1,p1⟩:=a
   rw [h1] at e1
   simp only [e1,Rn,Option.bind_some]
   refine Tot.yes rfl ?_
   cases h2:N8 l p1 with
   |none=>exact Tot.no rfl (Tot.pure (.inr ⟨.inl rfl,rfl⟩))
   |some b=>
    obtain ⟨n2,p2⟩:=b
    refine Tot.yes rfl ?_
    simp only [Rn,Option.bind_some]
    cases h3:N8 l p2 with
    |none=>exact Tot.pure (.inr ⟨.inl rfl,rfl⟩)
    |some c=>
     obtain ⟨n3,p3⟩:=c
     exact Tot.pure (.inl ⟨n1,p1,n2,p2,n3,p3,by omega,rfl,h2,h3,rfl⟩)
theorem J3a {l:List Int} {p:Nat} (h:((N8 l p).bind λ a=>(N8 l a.2).bind λ b=>N8 l b.2)=none):Oj l p=none:=by
 unfold Oj
 cases h1:N8 l p with
 |none=>rfl
 |some a=>
  rw [h1] at h
  simp only [Option.bind_some] at h ⊢
  cases h2:N8 l a.2 with
  |none=>rfl
  |some b=>
   rw [h2] at h
   simp only [Option.bind_some] at h ⊢
   rw [h]
   rfl

section
open Go
end

abbrev Nmd:=ByteArray×List Int
abbrev Dsk:=List Nmd×List Nmd
def Kx:Nmd:=((⟨#[]⟩:ByteArray),[])
def Nia (l:List Nmd):Prop:=l.length≤1000000000000∧∀ x∈l,x.2.length≤1000000000000
def Sra (d:Dsk):Prop:=Nia d.1∧Nia d.2
theorem Wx (l:List Int) (h:l.length≤1000000000000):Eg l=some l:=by
 unfold Eg
 rw [show Nat.ble ((List.length ([]:List Int)+List.length l) * 1) 140737488355328=true from Nat.ble_eq_true_of_le (by simp only [List.length_nil]; omega)]
 rfl
def fnd (l:List Nmd) (s:ByteArray):Option Nat:=l.findIdx? (λ x=>teq x.1 s)
def Fha (l:List Nmd) (s:ByteArray):Int:=match fnd l s with
 |some i=>(i:Int)
 |none => -1
theorem J4a (l:List Nmd) (s:ByteArray) (hf:l.length≤1000000000000):∀ (n i:Nat),l.length - i=n→i≤l.length→
  Tot (λ k=>J6 k s l (l.length:Int) (i:Int)) (λ r=>r=match fnd (l.drop i) s with|some j => .inl ((i+j:Nat):Int)|none => .inr ()):=by
 intro n
 induction n with
 |zero=>
  intro i hd hi
  refine Tot.succ ?_
  simp only [J6]
  refine Tot.ndec (by omega) (Tot.pure ?_)
  rw [List.drop_of_length_le (by omega)]
  rfl
 |succ n ih=>
  intro i hd hi
  have hlt:i<l.length:=by omega
  refine Tot.succ ?_
  simp only [J6]
  refine Tot.dec (by omega) (Tot.dec (by omega) (Tot.dec (by omega) ?_))
  rw [show Int.toNat (i:Int)=i from Int.toNat_natCast i,w64 (n:=(i:Int)+1) (by omega) (by omega),Ga (d:=Kx) hlt]
  have e0:l.getD i ((⟨#[]⟩:ByteArray),([]:List Int))=l.getD i Kx:=rfl
  rw [e0]
  have e1:fnd (l.getD i Kx::l.drop (i+1)) s=if teq (l.getD i Kx).1 s then some 0 else (fnd (l.drop (i+1)) s).map (· + 1):=by
   unfold fnd
   rw [List.findIdx?_cons]
  rw [e1]
  refine Tot.ite (λ h=>?_) (λ h=>?_)
  ·have h':teq (l.getD i Kx).1 s=true:=h
   rw [if_pos h']
   exact Tot.pure rfl
  ·have h':¬ (teq (l.getD i Kx).1 s=true):=by
    have:teq (l.getD i Kx).1 s=false:=h
    rw [this]; simp
   rw [if_neg h']
   refine (ih (i+1) (by omega) (by omega)).mono ?_
   rintro r rfl
   cases fnd (l.drop (i+1)) s with
   |none=>rfl
   |some j=>
    show Sum.inl _=Sum.inl _
    rw [show i+1+j=i+(j+1) by omega]
theorem R5a (l:List Nmd) (s:ByteArray) (hf:l.length≤1000000000000):Tot (λ k=>Kw k l s) (λ r=>r=Fha l s):=by
 unfold Kw Fha
 refine Tot.bind (J4a l s hf _ 0 rfl (Nat.zero_le _)) ?_
 rintro r rfl
 rw [List.drop_zero]
 cases fnd l s with
 |none=>exact Tot.pure rfl
 |some j=>
  refine Tot.pure ?_
  rw [Nat.zero_add]
theorem Qx {l:List Nmd} {s:ByteArray} {i:Nat} (h:fnd l s=some i):i<l.length∧(l.getD i Kx).1=s:=by
 unfold fnd at h
 rw [List.findIdx?_eq_some_iff_getElem] at h
 obtain ⟨h1,h2,_⟩:=h
 refine ⟨h1,?_⟩
 rw [List.getD_eq_getElem?_getD,List.getElem?_eq_getElem h1]
 exact N6.1 h2

def nOk (x:Nmd):Bool:=Iwa x.1 && !(decide ((x.2.length:Int) > 400))
def chn:Option ByteArray→List Nmd→Bool
 |_,[]=>true
 |none,r::l=>nOk r&&chn (some r.1) l
 |some q,r::l=>nOk r&&(tlt q r.1&&chn (some r.1) l)
def E0a (l:List Nmd):Bool:=chn none l&&decide ((l.length:Int)≤60)
def E1a (d:Dsk):Bool:=E0a d.1&&E0a d.2
def E2a (l:List Nmd):Prop:=∀ x∈l,Bya x.1
def R6a (d:Dsk):Prop:=E2a d.1∧E2a d.2
def plc (l:List Nmd) (s:ByteArray):Nat:=(l.takeWhile (λ y=>tlt y.1 s)).length
def ins (l:List Nmd) (x:Nmd):List Nmd:=l.take (plc l x.1)++[x]++l.drop (plc l x.1)

theorem Pca (l:List Int) (h:l.length≤1000000000000):(List.length ([]:List Int)+l.length) * 1≤140737488355328:=by
 simp only [List.length_nil]
 omega
theorem J5a (l:List Nmd) (s:ByteArray) (hf:l.length≤1000000000000):∀ (n i:Nat),l.length - i=n→i≤l.length→
  Tot (λ k=>Gv k l s (i:Int)) (λ r=>r=match fnd (l.drop i) s with|some j => .inl ((i+j:Nat):Int)|none => .inr ()):=by
 intro n
 induction n with
 |zero=>
  intro i hd hi
  refine Tot.succ ?_
  simp only [Gv]
  refine Tot.ndec (by omega) (Tot.pure ?_)
  rw [List.drop_of_length_le (by omega)]
  rfl
 |succ n ih=>
  intro i hd hi
  have hlt:i<l.length:=by omega
  refine Tot.succ ?_
  simp only [Gv]
  refine Tot.dec (by omega) (Tot.dec (by omega) (Tot.dec (by omega) ?_))
  rw [show Int.toNat (i:Int)=i from Int.toNat_natCast i,w64 (n:=(i:Int)+1) (by omega) (by omega),Ga (d:=Kx) hlt]
  have e0:l.getD i ((⟨#[]⟩:ByteArray),([]:List Int))=l.getD i Kx:=rfl
  rw [e0]
  have e1:fnd (l.getD i Kx::l.drop (i+1)) s=if teq (l.getD i Kx).1 s then some 0 else (fnd (l.drop (i+1)) s).map (· + 1):=by
   unfold fnd
   rw [List.findIdx?_cons]
  rw [e1]
  refine Tot.ite (λ h=>?_) (λ h=>?_)
  ·have h':teq (l.getD i Kx).1 s=true:=h
   rw [if_pos h']
   exact Tot.pure rfl
  ·have h':¬ (teq (l.getD i Kx).1 s=true):=by
    have:teq (l.getD i Kx).1 s=false:=h
    rw [this]; simp
   rw [if_neg h']
   refine (ih (i+1) (by omega) (by omega)).mono ?_
   rintro r rfl
   cases fnd (l.drop (i+1)) s with
   |none=>rfl
   |some j=>
    show Sum.inl _=Sum.inl _
    rw [show i+1+j=i+(j+1) by omega]
theorem Nja (l:List Nmd) (s:ByteArray) (hf:l.length≤1000000000000):Tot (λ k=>G7 k l s) (λ r=>r=Fha l s):=by
 unfold G7 Fha
 refine Tot.bind (J5a l s hf _ 0 rfl (Nat.zero_le _)) ?_
 rintro r rfl
 rw [List.drop_zero]
 cases fnd l s with
 |none=>exact Tot.pure rfl
 |some j=>
  refine Tot.pure ?_
  rw [Nat.zero_add]
def cut (l:List Nmd) (s:ByteArray):List Nmd:=l.filter (λ x => !(teq x.1 s))

def rdN (l:List Nmd) (s:ByteArray):List Int×Bool:=match fnd l s with
 |some i=>((l.getD i Kx).2,true)
 |none=>([],false)
theorem M3a (d:Dsk) (s:ByteArray) (hf:Nia d.1):Tot (λ k=>Fv k d s) (λ r=>r=rdN d.1 s):=by
 unfold Fv rdN
 refine Tot.bind (R5a d.1 s hf.1) ?_
 rintro r rfl
 unfold Fha
 have hl1:=hf.1
 cases h:fnd d.1 s with
 |none=>exact Tot.dec (by decide) (Tot.pure rfl)
 |some i=>
  have hl:=(Qx h).1
  dsimp only
  refine Tot.ndec (by omega) (Tot.dec (by omega) (Tot.dec (by omega) ?_))
  rw [show Int.toNat (i:Int)=i from Int.toNat_natCast i]
  have hb:=hf.2 _ (Aa (d:=Kx) hl)
  refine Tot.bind (Tot.of (Q:=λ r=>r=(d.1.getD i Kx).2) (Wx _ hb) rfl) ?_
  rintro r rfl
  exact Tot.pure rfl
theorem M4a (d:Dsk) (s:ByteArray) (hf:Nia d.1):Tot (λ k=>Ft k d s) (λ r=>r=rdN d.1 s):=by
 unfold Ft rdN
 refine Tot.bind (Nja d.1 s hf.1) ?_
 rintro r rfl
 unfold Fha
 have hl1:=hf.1
 cases h:fnd d.1 s with
 |none=>exact Tot.dec (by decide) (Tot.pure rfl)
 |some i=>
  have hl:=(Qx h).1
  dsimp only
  refine Tot.ndec (by omega) (Tot.dec (by omega) (Tot.dec (by omega) ?_))
  rw [show Int.toNat (i:Int)=i from Int.toNat_natCast i]
  have hb:=hf.2 _ (Aa (d:=Kx) hl)
  exact Tot.ble (Pca _ hb) (Tot.pure rfl)

theorem M5a (y:Nmd) (l:List Nmd) (s:ByteArray):fnd (y::l) s=if teq y.1 s then some 0 else (fnd l s).map (· + 1):=by
 unfold fnd
 rw [List.findIdx?_cons]
theorem Pda {l:List Nmd} {s:ByteArray}:(cut l s).Sublist l:=List.filter_sublist

section
open Go
end

section
open Go
end

def DIn (d:Dsk):Prop:=(Sra d∧R6a d)∧d.1.length≤2000000∧d.2.length≤2000000

section
open Go
end

section
open Go
end

theorem Ot (p:Nmd→Bool):∀ l:List Nmd,l.take (l.takeWhile p).length=l.takeWhile p∧l.drop (l.takeWhile p).length=l.dropWhile p
 |[]=>⟨rfl,rfl⟩
 |y::l=>by
  obtain ⟨h1,h2⟩:=Ot p l
  simp only [List.takeWhile_cons,List.dropWhile_cons]
  cases p y with
  |true=>simp [h1,h2]
  |false=>simp
theorem R7a (l:List Nmd) (x:Nmd):ins l x=l.takeWhile (λ y=>tlt y.1 x.1)++([x]++l.dropWhile (λ y=>tlt y.1 x.1)):=by
 unfold ins plc
 obtain ⟨h1,h2⟩:=Ot (λ y=>tlt y.1 x.1) l
 rw [h1,h2,List.append_assoc]
theorem Pea {l:List Nmd} {x y:Nmd}:y∈ins l x↔y=x∨y∈l:=by
 rw [R7a]
 have e:=List.takeWhile_append_dropWhile (p:=λ y:Nmd=>tlt y.1 x.1) (l:=l)
 constructor
 ·intro h
  rcases List.mem_append.1 h with h|h
  ·right; rw [← e]; exact List.mem_append_left _ h
  ·rcases List.mem_cons.1 h with h|h
   ·exact .inl h
   ·right; rw [← e]; exact List.mem_append_right _ h
 ·rintro (rfl|h)
  ·exact List.mem_append_right _ (by simp)
  ·rw [← e] at h
   rcases List.mem_append.1 h with h|h
   ·exact List.mem_append_left _ h
   ·exact List.mem_append_right _ (List.mem_cons_of_mem _ h)

section
open Go
end

def Ng:ByteArray:=⟨#[]⟩
def tpl (l:List ByteArray) (s:ByteArray):Nat:=(l.takeWhile (λ y=>tlt y s)).length
def wt (l:List ByteArray) (s:ByteArray):List ByteArray:=if tpl l s<l.length∧teq (l.getD (tpl l s) Ng) s=true then l else l.take (tpl l s)++[s]++l.drop (tpl l s)
theorem Nka (l:List ByteArray) (s:ByteArray):tpl l s≤l.length:=(List.takeWhile_sublist _).length_le
theorem R6 (l:List ByteArray) (s:ByteArray) (hf:l.length≤1000000000000):∀ (n i:Nat),l.length - i=n→i≤l.length→
  Tot (λ k=>C1 k l s (i:Int)) (λ r=>r=(l,s,((i+tpl (l.drop i) s:Nat):Int))):=by
 intro n
 induction n with
 |zero=>
  intro i hd hi
  refine Tot.succ ?_
  simp only [C1]
  refine Tot.ndec (by omega) (Tot.pure ?_)
  rw [List.drop_of_length_le (by omega)]
  rfl
 |succ n ih=>
  intro i hd hi
  have hlt:i<l.length:=by omega
  refine Tot.succ ?_
  simp only [C1]
  refine Tot.dec (by omega) (Tot.dec (by omega) (Tot.dec (by omega) ?_))
  rw [show Int.toNat (i:Int)=i from Int.toNat_natCast i,w64 (n:=(i:Int)+1) (by omega) (by omega),Ga (d:=Ng) hlt]
  have e0:l.getD i (⟨#[]⟩:ByteArray)=l.getD i Ng:=rfl
  rw [e0]
  have e1:tpl (l.getD i Ng::l.drop (i+1)) s=if tlt (l.getD i Ng) s then tpl (l.drop (i+1)) s+1 else 0:=by
   unfold tpl
   rw [List.takeWhile_cons]
   split<;>rfl
  rw [e1]
  refine Tot.ite (λ h=>?_) (λ h=>?_)
  ·have h':tlt (l.getD i Ng) s=true:=h
   rw [if_pos h']
   refine (ih (i+1) (by omega) (by omega)).mono ?_
   rintro r rfl
   rw [show i+1+tpl (l.drop (i+1)) s=i+(tpl (l.drop (i+1)) s+1) by omega]
  ·have h':¬ (tlt (l.getD i Ng) s=true):=by
    have:tlt (l.getD i Ng) s=false:=h
    rw [this]; simp
   rw [if_neg h']
   exact Tot.pure rfl
theorem Wy (l:List ByteArray) (s:ByteArray) (hf:l.length≤1000000000):Tot (λ k=>Ep k l s) (λ r=>r=wt l s):=by
 unfold Ep
 refine Tot.bind (R6 l s (by omega) _ 0 rfl (Nat.zero_le _)) ?_
 intro r hr
 rw [List.drop_zero,Nat.zero_add] at hr
 subst hr
 have hj:=Nka l s
 generalize hjj:tpl l s=j at *
 dsimp only
 have hno:¬ (j<l.length∧teq (l.getD j Ng) s=true)→Tot (λ k=>cond (decide ((0:Int)≤(j:Int))) (cond (decide ((j:Int)≤(List.length l:Int))) (cond (Nat.ble ((List.length ([]:List ByteArray)+List.length (List.take (Int.toNat (j:Int)) l)) * 16) 140737488355328) (let v3:List ByteArray:=([]:List ByteArray)++(List.take (Int.toNat (j:Int)) l); cond (Nat.ble ((List.length v3+List.length [s]) * 16) 140737488355328) (cond (decide ((0:Int)≤(j:Int))) (cond (decide ((j:Int)≤(List.length l:Int))) (cond (Nat.ble ((List.length (v3++[s])+List.length (List.drop (Int.toNat (j:Int)) l)) * 16) 140737488355328) (some ((v3++[s])++(List.drop (Int.toNat (j:Int)) l))) none) none) none) none) none) none) none)
   (λ r=>r=wt l s):=by
  intro hn
  refine Tot.dec (by omega) (Tot.dec (by omega) ?_)
  rw [show Int.toNat (j:Int)=j from Int.toNat_natCast j]
  refine Tot.ble (by simp only [List.length_nil,List.length_take]; omega) ?_
  refine Tot.ble (by simp only [List.length_append,List.length_nil,List.length_take,List.length_cons]; omega) ?_
  refine Tot.dec (by omega) (Tot.dec (by omega) (Tot.ble (by simp only [List.length_append,List.length_nil,List.length_take,List.length_drop,List.length_cons]; omega) (Tot.pure ?_)))
  unfold wt
  rw [hjj,if_neg hn,List.nil_append]
 refine Tot.dite (λ h=>?_) (λ h=>hno (λ hh=>h (by omega)))
 refine Tot.dec (by omega) (Tot.dec h ?_)
 rw [show Int.toNat (j:Int)=j from Int.toNat_natCast j] at *
 refine Tot.ite (λ he=>Tot.pure ?_) (λ he=>hno (λ hh=>?_))
 ·unfold wt
  rw [hjj,if_pos ⟨by omega,he⟩]
 ·have h2:teq (l.getD j Ng) s=false:=he
  rw [h2] at hh
  cases hh.2
theorem R8a {l:List ByteArray} {s y:ByteArray}:y∈wt l s↔y=s∨y∈l:=by
 unfold wt
 by_cases h:tpl l s<l.length∧teq (l.getD (tpl l s) Ng) s=true
 ·rw [if_pos h]
  refine ⟨.inr,λ h'=>?_⟩
  rcases h' with rfl|h'
  ·have:=Aa (d:=Ng) h.1
   rwa [N6.1 h.2] at this
  ·exact h'
 ·rw [if_neg h]
  have e:l.take (tpl l s)++l.drop (tpl l s)=l:=List.take_append_drop _ _
  constructor
  ·intro h'
   rw [List.append_assoc] at h'
   rcases List.mem_append.1 h' with h'|h'
   ·right; rw [← e]; exact List.mem_append_left _ h'
   ·rcases List.mem_append.1 h' with h'|h'
    ·left; simpa using h'
    ·right; rw [← e]; exact List.mem_append_right _ h'
  ·rintro (rfl|h')
   ·simp
   ·rw [← e] at h'
    rcases List.mem_append.1 h' with h'|h'<;>simp [h']

theorem Nla {l:List ByteArray} {s:ByteArray}:(wt l s).length≤l.length+1:=by
 unfold wt
 have:=Nka l s
 split
 ·omega
 ·simp only [List.length_append,List.length_take,List.length_drop,List.length_cons,List.length_nil]; omega

section
variable {α σ R:Type} {a b:α} {p:Prop} [Decidable p]
theorem dT (h:p):cond (decide p) a b=a:=by rw [decide_eq_true h]; rfl
theorem dF (h:¬ p):cond (decide p) a b=b:=by rw [decide_eq_false h]; rfl
theorem bT {m n:Nat} (h:m≤n):cond (Nat.ble m n) a b=a:=by rw [Nat.ble_eq_true_of_le h]; rfl
theorem Tot.up {L:Nat→Int→σ→Option R} {Q:R→Prop} (n:Nat) (I:Nat→σ→Prop) (hend:∀ s,I n s→Tot (λ k=>L (k+1) (n:Int) s) Q)
  (Sz:∀ i s,i<n→I i s→(∀ s',I (i+1) s'→Tot (λ k=>L k ((i:Int)+1) s') Q)→Tot (λ k=>L (k+1) (i:Int) s) Q):
  ∀ (i:Nat) (s:σ),i≤n→I i s→Tot (λ k=>L k (i:Int) s) Q:=by
 suffices h:∀ (m i:Nat) (s:σ),n - i=m→i≤n→I i s→Tot (λ k=>L k (i:Int) s) Q from λ i s hi hs=>h _ i s rfl hi hs
 intro m
 induction m with
 |zero=>
  intro i s hm hi hs
  obtain rfl:i=n:=by omega
  exact Tot.succ (hend s hs)
 |succ m ih=>
  intro i s hm hi hs
  refine Tot.succ (Sz i s (by omega) hs λ s' hs'=>?_)
  have:=ih (i+1) s' (by omega) (by omega) hs'
  rwa [show (((i+1:Nat)):Int)=(i:Int)+1 by omega] at this
end
def cst (x:BitVec 32):BitVec 32:=if x.getLsbD 0 then (x >>> 1) ^^^ 2197175160#32 else x >>> 1
def A2a:Nat→BitVec 32→BitVec 32
 |0,x=>x
 |n+1,x=>A2a n (cst x)
def cby (x:BitVec 32) (b:Int):BitVec 32:=A2a 8 (x ^^^ BitVec.ofInt 32 b)
def Sja (l:List Int):BitVec 32 := ~~~ (l.foldl cby 4294967295#32)
def crc (l:List Int):Int:=((Sja l).toNat:Int)
theorem Ska (v:BitVec 32):v.getLsbD 0=decide (v.toNat % 2=1):=by
 rw [BitVec.getLsbD,Nat.testBit_zero]
theorem C2a (v:BitVec 32):BitVec.ofInt (IntKind.bits .u32) (v.toNat:Int)=v:=by
 show BitVec.ofInt 32 (v.toNat:Int)=v
 rw [BitVec.ofInt_natCast,BitVec.ofNat_toNat,BitVec.setWidth_eq]
theorem C3a (n:Nat) (h:n<4294967296):(BitVec.ofInt (IntKind.bits .i64) (n:Int)).toNat=n:=Nx n (by omega)
theorem S3a (v:BitVec 32):IntKind.wrap .u32 (v.toNat:Int)=(v.toNat:Int):=Go.IntWalk.u32_in _ ⟨by omega,by have:=v.isLt; omega⟩
theorem sh1 (v:BitVec 32):Int.fdiv (v.toNat:Int) 2=((v >>> 1).toNat:Int):=by
 rw [Int.fdiv_eq_ediv_of_nonneg _ (by omega),BitVec.toNat_ushiftRight,Nat.shiftRight_eq_div_pow]
 omega
theorem S4a (v:BitVec 32):((IntKind.wrap .u32 ((BitVec.ofInt (IntKind.bits .u32) (v.toNat:Int) &&& BitVec.ofInt (IntKind.bits .u32) 1).toNat))==1)=v.getLsbD 0:=by
 show (IntKind.wrap .u32 (((BitVec.ofInt 32 (v.toNat:Int) &&& BitVec.ofInt 32 1).toNat:Nat):Int)==1)=_
 rw [show BitVec.ofInt 32 (v.toNat:Int)=v from C2a v,S3a,Ska,BitVec.toNat_and,show (BitVec.ofInt 32 1).toNat=1 from by decide,Nat.and_one_is_mod,Bool.eq_iff_iff,beq_iff_eq,decide_eq_true_iff]
 omega
theorem S5a (v:BitVec 32):((IntKind.wrap .i64 ((BitVec.ofInt (IntKind.bits .i64) (v.toNat:Int) &&& BitVec.ofInt (IntKind.bits .i64) 1).toNat))==1)=v.getLsbD 0:=by
 have:=v.isLt
 rw [Ska,BitVec.toNat_and,C3a _ v.isLt,show (BitVec.ofInt (IntKind.bits .i64) 1).toNat=1 from by decide,Nat.and_one_is_mod,w64 (by omega) (by omega),Bool.eq_iff_iff,beq_iff_eq,decide_eq_true_iff]
 omega
theorem S6a (v w:BitVec 32) (x:Int) (h:BitVec.ofInt 32 x=w):IntKind.wrap .u32 ((BitVec.ofInt (IntKind.bits .u32) (v.toNat:Int) ^^^ BitVec.ofInt (IntKind.bits .u32) x).toNat)=((v ^^^ w).toNat:Int):=by
 show IntKind.wrap .u32 (((BitVec.ofInt 32 (v.toNat:Int) ^^^ BitVec.ofInt 32 x).toNat:Nat):Int)=_
 rw [show BitVec.ofInt 32 (v.toNat:Int)=v from C2a v,h]
 exact S3a _
theorem Rma (v w:BitVec 32):IntKind.wrap .i64 ((BitVec.ofInt (IntKind.bits .i64) (v.toNat:Int) ^^^ BitVec.ofInt (IntKind.bits .i64) (w.toNat:Int)).toNat)=((v ^^^ w).toNat:Int):=by
 have:=(v ^^^ w).isLt
 rw [BitVec.toNat_xor,C3a _ v.isLt,C3a _ w.isLt,← BitVec.toNat_xor]
 exact w64 (by omega) (by omega)
theorem Sla (K:IntKind) (h:1≤IntKind.bits K):(2:Int) ^ (min (Int.toNat 1) (IntKind.bits K))=2:=by
 rw [show Int.toNat 1=1 from rfl,Nat.min_eq_left h]; rfl
theorem Fia (l:List Int) (x8 x9:Int):∀ (n:Nat) (v:BitVec 32) (i:Int),0≤i→8 - i=n→Tot (λ k=>He k (v.toNat:Int) l x8 x9 i) (λ r=>r=(((A2a n v).toNat:Int),l,x8,x9)):=by
 intro n
 induction n with
 |zero=>
  intro v i h0 hn
  refine Tot.succ ?_
  simp only [He]
  exact Tot.ndec (by omega) (Tot.pure rfl)
 |succ n ih=>
  intro v i h0 hn
  refine Tot.succ ?_
  simp only [He]
  refine Tot.dec (by omega) ?_
  rw [w64 (n:=i+1) (by omega) (by omega),S4a,Sla _ (by decide),sh1,S6a _ 2197175160#32 _ (by decide)]
  have e:A2a (n+1) v=A2a n (cst v):=rfl
  rw [e]
  refine Tot.ite (λ h=>?_) (λ h=>?_)
  ·have:=ih (v >>> 1 ^^^ 2197175160#32) (i+1) (by omega) (by omega)
   rwa [show v >>> 1 ^^^ 2197175160#32=cst v by unfold cst; rw [if_pos h]] at this ⊢
  ·have:=ih (v >>> 1) (i+1) (by omega) (by omega)
   rwa [show v >>> 1=cst v by unfold cst; rw [if_neg (by rw [h]; simp)]] at this ⊢
theorem C4a (l:List Int) (x4:Int):∀ (n:Nat) (v:BitVec 32) (i:Int),0≤i→8 - i=n→Tot (λ k=>Hc k l (v.toNat:Int) x4 i) (λ r=>r=(l,((A2a n v).toNat:Int),x4)):=by
 intro n
 induction n with
 |zero=>
  intro v i h0 hn
  refine Tot.succ ?_
  simp only [Hc]
  exact Tot.ndec (by omega) (Tot.pure rfl)
 |succ n ih=>
  intro v i h0 hn
  refine Tot.succ ?_
  simp only [Hc]
  have hp:(2197175160:Int)=((2197175160#32:BitVec 32).toNat:Int):=by decide
  refine Tot.dec (by omega) ?_
  rw [w64 (n:=i+1) (by omega) (by omega),S5a,Sla _ (by decide),sh1,hp,Rma]
  have e:A2a (n+1) v=A2a n (cst v):=rfl
  rw [e]
  refine Tot.ite (λ h=>?_) (λ h=>?_)
  ·have:=ih (v >>> 1 ^^^ 2197175160#32) (i+1) (by omega) (by omega)
   rwa [show v >>> 1 ^^^ 2197175160#32=cst v by unfold cst; rw [if_pos h]] at this ⊢
  ·have:=ih (v >>> 1) (i+1) (by omega) (by omega)
   rwa [show v >>> 1=cst v by unfold cst; rw [if_neg (by rw [h]; simp)]] at this ⊢
theorem Nma {b:Int} (h:0≤b∧b≤255):b=((BitVec.ofInt 32 b).toNat:Int):=by
 rw [BitVec.toNat_ofInt]
 omega
theorem Pfa (l:List Int) (hb:B5 l) (hl:l.length≤1000000000000):Tot (λ k=>Kf k l) (λ r=>r=crc l):=by
 unfold Kf
 refine Tot.bind (Q:=λ r=>r=(((l.foldl cby 4294967295#32).toNat:Nat):Int)) ?_ ?_
 ·have:=Tot.up (L:=λ k i s=>I4 k s l (l.length:Int) i) (Q:=λ r=>r=(((l.foldl cby 4294967295#32).toNat:Nat):Int)) l.length (λ i s=>∃ v:BitVec 32,s=(v.toNat:Int)∧(l.drop i).foldl cby v=l.foldl cby 4294967295#32) ?_ ?_ 0 4294967295 (Nat.zero_le _) ⟨4294967295#32,by decide,by rw [List.drop_zero]⟩
  ·exact this
  ·rintro s ⟨v,rfl,hv⟩
   simp only [I4]
   rw [List.drop_length] at hv
   exact Tot.ndec (by omega) (Tot.pure (by rw [← hv]; rfl))
  ·rintro i s hi ⟨v,rfl,hv⟩ next
   simp only [I4]
   have hx:=hb _ (Aa (d:=0) hi)
   refine Tot.dec (by omega) (Tot.dec (by omega) (Tot.dec (by omega) ?_))
   rw [Int.toNat_natCast,Go.IntWalk.u32_in _ ⟨hx.1,by omega⟩,S6a v _ _ rfl]
   refine Tot.bind (Fia l _ _ 8 _ 0 (by decide) (by decide)) ?_
   rintro r rfl
   simp only
   rw [w64 (n:=(i:Int)+1) (by omega) (by omega)]
   refine next _ ⟨_,rfl,?_⟩
   rw [Ga (d:=0) hi,List.foldl_cons] at hv
   exact hv
 ·rintro r rfl
  refine Tot.pure ?_
  unfold crc Sja
  have hm:BitVec.ofInt 32 (if IntKind.signed .u32 then -1 else IntKind.max .u32)=BitVec.allOnes 32:=by decide
  have e:BitVec.allOnes 32 ^^^ l.foldl cby 4294967295#32 = ~~~ (l.foldl cby 4294967295#32):=by rw [BitVec.xor_comm]; exact BitVec.xor_allOnes
  show IntKind.wrap .i64 (IntKind.wrap .u32 (((BitVec.ofInt 32 (if IntKind.signed .u32 then -1 else IntKind.max .u32) ^^^ BitVec.ofInt 32 ((l.foldl cby 4294967295#32).toNat:Int)).toNat:Nat):Int))=_
  rw [show BitVec.ofInt 32 ((l.foldl cby 4294967295#32).toNat:Int)=l.foldl cby 4294967295#32 from C2a _,hm,e]
  have:=(~~~ (l.foldl cby 4294967295#32)).isLt
  rw [S3a,w64 (by omega) (by omega)]
theorem Pga (l:List Int) (hb:B5 l) (hl:l.length≤1000000000000):Tot (λ k=>Kd k l) (λ r=>r=crc l):=by
 unfold Kd
 refine Tot.bind (Q:=λ r=>r=(((l.foldl cby 4294967295#32).toNat:Nat):Int)) ?_ ?_
 ·have:=Tot.up (L:=λ k i s=>I2 k l s i) (Q:=λ r=>r=(((l.foldl cby 4294967295#32).toNat:Nat):Int)) l.length (λ i s=>∃ v:BitVec 32,s=(v.toNat:Int)∧(l.drop i).foldl cby v=l.foldl cby 4294967295#32) ?_ ?_ 0 4294967295 (Nat.zero_le _) ⟨4294967295#32,by decide,by rw [List.drop_zero]⟩
  ·exact this
  ·rintro s ⟨v,rfl,hv⟩
   simp only [I2]
   rw [List.drop_length] at hv
   exact Tot.ndec (by omega) (Tot.pure (by rw [← hv]; rfl))
  ·rintro i s hi ⟨v,rfl,hv⟩ next
   simp only [I2]
   have hx:=hb _ (Aa (d:=0) hi)
   refine Tot.dec (by omega) (Tot.dec (by omega) (Tot.dec (by omega) ?_))
   rw [Int.toNat_natCast,w64 (n:=l.getD i 0) (by omega) (by omega),Nma hx,Rma]
   refine Tot.bind (C4a l _ 8 _ 0 (by decide) (by decide)) ?_
   rintro r rfl
   simp only
   rw [w64 (n:=(i:Int)+1) (by omega) (by omega)]
   refine next _ ⟨_,rfl,?_⟩
   rw [Ga (d:=0) hi,List.foldl_cons] at hv
   exact hv
 ·rintro r rfl
  refine Tot.pure ?_
  have hp:(4294967295:Int)=((BitVec.allOnes 32:BitVec 32).toNat:Int):=by decide
  rw [hp,Rma,BitVec.xor_allOnes]
  rfl

def E3a:Fil:=(((0:Int),((0:Int),(0:Int))),(false,([]:List Int)))
def K8 (f:Fil):Bool:=N7 f.1&&(decide ((f.2.2.length:Int)≤200)&&(!f.2.1 || ((f.2.2.length:Int)==0)))
theorem M6a (f:Fil):Fl f=some (K8 f):=by
 unfold Fl K8
 rw [Ixa]
 simp only [Option.bind_some]
 cases N7 f.1<;>cases decide ((List.length f.2.2:Int)≤200)<;>cases f.2.1<;>rfl
theorem E4a (f:Fil):Cr f=some (K8 f):=by
 unfold Cr K8
 rw [Iya]
 simp only [Option.bind_some]
 cases N7 f.1<;>cases decide ((List.length f.2.2:Int)≤200)<;>cases f.2.1<;>rfl
theorem Ug {f:Fil}:K8 f=true↔N7 f.1=true∧f.2.2.length≤200∧(f.2.1=true→f.2.2=[]):=by
 unfold K8
 rw [Bool.and_eq_true,Bool.and_eq_true,decide_eq_true_iff]
 have:(!f.2.1 || ((f.2.2.length:Int)==0))=true↔(f.2.1=true→f.2.2=[]):=by
  cases f.2.1 with
  |false=>simp
  |true=>simp
 rw [this]
 constructor
 ·rintro ⟨h1,h2,h3⟩; exact ⟨h1,by omega,h3⟩
 ·rintro ⟨h1,h2,h3⟩; exact ⟨h1,by omega,h3⟩
theorem J6a (a b:Fil):J9 a b=some (sle b.1 a.1):=by unfold J9; rw [Lxa]; rfl
theorem J7a (a b:Fil):H8 a b=some (sle b.1 a.1):=by unfold H8; rw [Lwa]; rfl
def hdF (s:Stp) (d:Bool):List Int:=Kba s++Apa (Et (J2a d))
def A3a (f:Fil):List Int:=hdF f.1 f.2.1++txt (Ju f.2.2)
def c4 (c:Int):List Int:=[IntKind.wrap .u8 (Int.fdiv c (2 ^ (min (Int.toNat 24) (IntKind.bits .i64)))),IntKind.wrap .u8 (Int.fdiv c (2 ^ (min (Int.toNat 16) (IntKind.bits .i64)))),IntKind.wrap .u8 (Int.fdiv c (2 ^ (min (Int.toNat 8) (IntKind.bits .i64)))),IntKind.wrap .u8 c]
def Xc (f:Fil):List Int:=bif K8 f then A3a f++c4 (crc (A3a f)) else []
theorem Ms {a b:List Int} (ha:B5 a) (hb:B5 b):B5 (a++b):=λ x hx=>(List.mem_append.1 hx).elim (ha x) (hb x)
theorem Ny (n:Int):B5 (Apa (Et n)):=Fda _ (Su n)
theorem J8a (s:Stp) (d:Bool):B5 (hdF s d):=Ms (Ms (Ny _) (Ms (Ny _) (Ny _))) (Ny _)
theorem P8 (f:Fil):B5 (A3a f):=Ms (J8a _ _) (Ms (Ny _) (Fea _))
theorem M7a (c:Int):B5 (c4 c):=by
 intro x hx
 simp only [c4,List.mem_cons,List.not_mem_nil,or_false] at hx
 rcases hx with rfl|rfl|rfl|rfl<;>exact Ita _
theorem Uh (f:Fil):B5 (Xc f):=by
 unfold Xc
 cases K8 f with
 |false=>intro x hx; simp at hx
 |true=>exact Ms (P8 f) (M7a _)
theorem C5a (s:Stp) (d:Bool):(hdF s d).length≤20:=by
 have h1:=Dya s
 have h2:=(Kt (Et (J2a d))).1
 unfold hdF
 rw [List.length_append]
 omega
theorem A4a (f:Fil):(A3a f).length≤25+f.2.2.length:=by
 have h1:=C5a f.1 f.2.1
 have h2:=Paa (Ju f.2.2)
 have h3:(Ju f.2.2).size=f.2.2.length:=Mr _
 unfold A3a
 rw [List.length_append]
 omega
theorem P9 (f:Fil):Tot (λ k=>Gz k f) (λ r=>r=Xc f):=by
 unfold Gz Xc
 refine Tot.bind (Tot.of (Q:=λ b=>b=K8 f) (M6a f) rfl) ?_
 rintro b rfl
 cases h:K8 f with
 |false=>exact Tot.yes rfl (Tot.pure rfl)
 |true=>
  have h2:=(Ug.1 h).2.1
  have h3:(Ju f.2.2).size=f.2.2.length:=Mr _
  have h4:=C5a f.1 f.2.1
  have h5:=A4a f
  refine Tot.no rfl (Tot.bind (Ffa [] f.1 f.2.1 (by simp)) ?_)
  rintro r rfl
  rw [List.nil_append]
  refine Tot.bind (M0a _ _ (by unfold hdF at h4; omega) (by omega)) ?_
  rintro r rfl
  have e:Kba f.1++Apa (Et (J2a f.2.1))++txt (Ju f.2.2)=A3a f:=rfl
  rw [e]
  refine Tot.bind (Pfa _ (P8 f) (by omega)) ?_
  rintro r rfl
  exact Tot.ble (by simp only [List.length_cons,List.length_nil]; omega) (Tot.pure rfl)
theorem C6a (f:Fil):Tot (λ k=>Gr k f) (λ r=>r=Xc f):=by
 unfold Gr Xc
 refine Tot.bind (Tot.of (Q:=λ b=>b=K8 f) (E4a f) rfl) ?_
 rintro b rfl
 cases h:K8 f with
 |false=>exact Tot.yes rfl (Tot.pure rfl)
 |true=>
  have h2:=(Ug.1 h).2.1
  have h3:(Ju f.2.2).size=f.2.2.length:=Mr _
  have h4:=C5a f.1 f.2.1
  have h5:=A4a f
  have h6:=Dya f.1
  refine Tot.no rfl (Tot.bind (Fga [] f.1 (by simp)) ?_)
  rintro r rfl
  rw [List.nil_append]
  refine Tot.bind (Tot.of (Q:=λ r=>r=J2a f.2.1) (M2a _) rfl) ?_
  rintro c rfl
  refine Tot.bind (Sx _ _ (by omega)) ?_
  rintro d rfl
  refine Tot.bind (M1a _ _ (by unfold hdF at h4; omega) (by omega)) ?_
  rintro r rfl
  have e:Kba f.1++Apa (Et (J2a f.2.1))++txt (Ju f.2.2)=A3a f:=rfl
  rw [e]
  refine Tot.bind (Pga _ (P8 f) (by omega)) ?_
  rintro r rfl
  exact Tot.ble (by simp only [List.length_cons,List.length_nil]; omega) (Tot.pure rfl)
def R7 (b:List Int):Option Fil:=(Oj b 0).bind λ a=>(G9a b a.2).bind λ t=>bif K8 (a.1.1,a.1.2,bytesOf t.1)&&decide (Xc (a.1.1,a.1.2,bytesOf t.1)=b) then some (a.1.1,a.1.2,bytesOf t.1) else none
def R8 (b:List Int):Fil×Bool:=match R7 b with
 |some f=>(f,true)
 |none=>(E3a,false)
theorem M8a {l:List Int} {q:Nat} {s:Stp} {d:Bool} (hb:B5 l) (h:Oj l 0=some ((s,d),q)):l=hdF s d++l.drop q∧q≤l.length:=by
 unfold Oj at h
 simp only [Option.bind_eq_some_iff] at h
 obtain ⟨⟨t,p2⟩,h2,⟨c,p3⟩,h3,⟨n,p4⟩,h4,⟨e,p5⟩,h5,h⟩:=h
 obtain ⟨b1,b2,b3,b4⟩:=P7 hb h2
 obtain ⟨c1,c2,c3,c4⟩:=P7 hb h3
 obtain ⟨d1,d2,d3,d4⟩:=P7 hb h4
 obtain ⟨e1,e2,e3,e4⟩:=P7 hb h5
 cases hd:decide (1<e) with
 |true=>simp only [hd,cond_true] at h; cases h
 |false=>
  simp only [hd,cond_false,Option.some.injEq,Prod.mk.injEq] at h
  obtain ⟨⟨⟨rfl,rfl,rfl⟩,rfl⟩,rfl⟩:=h
  have he:e≤1:=by
   have:=of_decide_eq_false hd
   omega
  have hbit:Et (J2a ((e:Int)==1))=e:=by
   have:e=0∨e=1:=by omega
   rcases this with rfl|rfl<;>decide
  have k:∀ n:Nat,n≤1000000000→Et (n:Int)=n:=λ n hn=>by unfold Et; omega
  simp only at b1 b2 c1 c2 d1 d2 e1 e2
  refine ⟨?_,e4⟩
  rw [List.drop_zero] at b1
  unfold hdF Kba
  simp only
  rw [k t b2,k c c2,k n d2,hbit,List.append_assoc,List.append_assoc,List.append_assoc,← e1,← d1,← c1,← b1]
theorem A5a {a b:List Int} (ha:B5 a) (hb:B5 b):((Ju a).toList==(Ju b).toList)=decide (a=b):=by
 have:teq (Ju a) (Ju b)=decide (a=b):=by
  rw [Bool.eq_iff_iff,N6,decide_eq_true_iff]
  constructor
  ·intro h
   have:=congrArg bytesOf h
   rwa [N9 ha,N9 hb] at this
  ·rintro rfl; rfl
 exact this
theorem M9a (l:List Int) (hb:B5 l) (hl:l.length≤1000000000000) (p:Int) (hp:p≤1000000000000):
  Tot (λ k=>Ax k (l,p,true)) (λ r=>r=((⟨#[]⟩:ByteArray),l,p,true)):=by
 unfold Ax
 refine Tot.bind (Dxa l hb hl p hp) ?_
 rintro r rfl
 exact Tot.yes rfl (Tot.pure rfl)
theorem Maa {f:Fil}:(((Xc f).length:Int)==0) = !(K8 f):=by
 unfold Xc
 cases h:K8 f with
 |false=>rfl
 |true=>
  rw [cond_true,List.length_append,Bool.not_true,beq_eq_false_iff_ne]
  simp only [c4,List.length_cons,List.length_nil]
  omega
theorem C7a (b:List Int) (hb:B5 b) (hl:b.length≤1000000000000):Tot (λ k=>Bt k b) (λ r=>r=R8 b):=by
 unfold Bt
 refine Tot.bind (S2a b hb hl 0 (Nat.zero_le _) false) ?_
 rintro r (⟨_,⟨s,d⟩,q,h1,h2,rfl⟩|⟨h1,s,d,q,h2,rfl⟩)
 ·refine Tot.bind (S1a b hb hl q h2) ?_
  rintro r (⟨t,q2,h3,h4,rfl⟩|⟨h3,rfl⟩)
  ·have hsz:=(C1a hb h3).2.1
   refine Tot.ble (by dsimp only; omega) (Tot.bind (P9 _) ?_)
   rintro r rfl
   refine Tot.no rfl ?_
   have e:R8 b=bif K8 (s,d,bytesOf t)&&decide (Xc (s,d,bytesOf t)=b) then ((s,d,bytesOf t),true) else (E3a,false):=by
    unfold R8 R7
    simp only [h1,h3,Option.bind_some]
    cases K8 (s,d,bytesOf t)&&decide (Xc (s,d,bytesOf t)=b)<;>rfl
   simp only
   rw [e,Maa]
   cases hf:K8 (s,d,bytesOf t) with
   |false=>exact Tot.yes rfl (Tot.pure rfl)
   |true=>
    refine Tot.no rfl ?_
    rw [A5a (Uh _) hb]
    cases decide (Xc (s,d,bytesOf t)=b) with
    |false=>exact Tot.yes rfl (Tot.pure rfl)
    |true=>exact Tot.no rfl (Tot.pure rfl)
  ·refine Tot.ble (Nat.zero_le _) (Tot.bind (P9 _) ?_)
   rintro r rfl
   refine Tot.yes rfl (Tot.pure ?_)
   unfold R8 R7
   simp only [h1,h3,Option.bind_some,Option.bind_none]
   rfl
 ·refine Tot.bind (M9a b hb hl q (by omega)) ?_
  rintro r rfl
  refine Tot.ble (Nat.zero_le _) (Tot.bind (P9 _) ?_)
  rintro r rfl
  refine Tot.yes rfl (Tot.pure ?_)
  unfold R8 R7
  simp only [h1.resolve_left (by simp),Option.bind_none]
  rfl
theorem Sy (b:List Int) (hb:B5 b) (hl:b.length≤1000000000000):Tot (λ k=>As k b) (λ r=>r=R8 b):=by
 have none_of:R7 b=none→R8 b=(E3a,false):=λ h=>by unfold R8; rw [h]
 unfold As
 refine Tot.bind (Pba b hb hl 0) ?_
 rintro r (⟨n1,p1,n2,p2,n3,p3,_,g1,g2,g3,rfl⟩|⟨h,hr⟩)
 ·refine Tot.bind (Qq b hb hl (p3:Int)) ?_
  rintro r rfl
  rw [Rn]
  have g1':N8 b 0=some (n1,p1):=g1
  cases g4:N8 b p3 with
  |none=>
   refine Tot.bind (Ww b hb hl 0) ?_
   rintro r rfl
   refine Tot.no rfl (Tot.yes rfl (Tot.pure (none_of ?_).symm))
   unfold R7 Oj
   simp only [g1',g2,g3,g4,Option.bind_some,Option.bind_none]
  |some x=>
   obtain ⟨n4,p4⟩:=x
   simp only
   have es:Oj b 0=bif decide (1<n4) then none else some ((((n1:Int),(n2:Int),(n3:Int)),(n4:Int)==1),p4):=by
    unfold Oj
    simp only [g1',g2,g3,g4,Option.bind_some]
   refine Tot.bind (Ww b hb hl (p4:Int)) ?_
   rintro r rfl
   rw [Dza]
   refine Tot.no rfl (Tot.no rfl ?_)
   cases g5:G9a b p4 with
   |none=>
    refine Tot.yes rfl (Tot.pure (none_of ?_).symm)
    unfold R7
    rw [es]
    cases decide (1<n4) with
    |true=>rfl
    |false=>simp only [cond_false,Option.bind_some,g5,Option.bind_none]
   |some y=>
    obtain ⟨t,q⟩:=y
    refine Tot.no rfl (Tot.dite (λ h=>Tot.pure (none_of ?_).symm) (λ h=>?_))
    ·unfold R7
     rw [es,decide_eq_true (by omega)]
     rfl
    ·rw [decide_eq_false (by omega),cond_false] at es
     have hq:=C1a hb g5
     simp only
     rw [w64 (n:=(q:Int)+4) (by omega) (by omega)]
     have ef:R7 b=bif K8 (((n1:Int),(n2:Int),(n3:Int)),(n4:Int)==1,bytesOf t)&&decide (Xc (((n1:Int),(n2:Int),(n3:Int)),(n4:Int)==1,bytesOf t)=b) then some (((n1:Int),(n2:Int),(n3:Int)),(n4:Int)==1,bytesOf t) else none:=by
      unfold R7
      simp only [es,g5,Option.bind_some]
     refine Tot.ite (λ h4=>Tot.pure (none_of ?_).symm) (λ h4=>?_)
     ·rw [ef]
      cases hc:(K8 (((n1:Int),(n2:Int),(n3:Int)),(n4:Int)==1,bytesOf t)&&decide (Xc (((n1:Int),(n2:Int),(n3:Int)),(n4:Int)==1,bytesOf t)=b)) with
      |false=>rfl
      |true=>
       exfalso
       rw [Bool.and_eq_true,decide_eq_true_iff] at hc
       have a1:=(M8a hb es).1
       rw [hq.1] at a1
       have a2:=hc.2
       unfold Xc at a2
       rw [hc.1,cond_true] at a2
       unfold A3a at a2
       simp only at a2
       rw [Wv,List.append_assoc] at a2
       rw [← a2] at a1
       have a3:=List.append_cancel_left (List.append_cancel_left a1)
       have a4:=congrArg List.length a3
       rw [a2,List.length_drop] at a4
       simp only [c4,List.length_cons,List.length_nil] at a4
       have:(q:Int)+4=(b.length:Int):=by omega
       simp [this] at h4
     ·refine Tot.ble (by simp only [List.length_nil]; omega) ?_
      rw [List.nil_append]
      refine Tot.bind (Tot.of (Q:=λ r=>r=K8 (((n1:Int),(n2:Int),(n3:Int)),(n4:Int)==1,bytesOf t)) (E4a _) rfl) ?_
      rintro r rfl
      unfold R8
      rw [ef]
      cases hf:K8 (((n1:Int),(n2:Int),(n3:Int)),(n4:Int)==1,bytesOf t) with
      |false=>exact Tot.yes rfl (Tot.pure rfl)
      |true=>
       refine Tot.no rfl (Tot.bind (C6a _) ?_)
       rintro r rfl
       rw [A5a (Uh _) hb,Bool.true_and]
       cases decide (Xc (((n1:Int),(n2:Int),(n3:Int)),(n4:Int)==1,bytesOf t)=b) with
       |false=>exact Tot.yes rfl (Tot.pure rfl)
       |true=>exact Tot.no rfl (Tot.pure rfl)
 ·obtain ⟨r1,r2,r3⟩:=r
  simp only at hr
  subst hr
  refine Tot.bind (Qq b hb hl _) ?_
  rintro r rfl
  refine Tot.bind (Ww b hb hl _) ?_
  rintro r rfl
  refine Tot.yes rfl (Tot.pure (none_of ?_).symm)
  unfold R7
  rw [J3a (p:=0) (h.resolve_right (by omega))]
  rfl

def gt (l:List Nmd) (s:ByteArray):Option (List Int):=match fnd l s with
 |some i=>some (l.getD i Kx).2
 |none=>none
theorem Pha (y:Nmd) (l:List Nmd) (s:ByteArray):gt (y::l) s=if y.1=s then some y.2 else gt l s:=by
 unfold gt
 rw [M5a]
 by_cases h:y.1=s
 ·rw [if_pos (N6.2 h),if_pos h]; rfl
 ·rw [if_neg (λ c=>h (N6.1 c)),if_neg h]
  cases fnd l s<;>rfl
theorem Nna {l:List Nmd} {s:ByteArray} {b:List Int} (h:gt l s=some b):(s,b)∈l:=by
 induction l with
 |nil=>cases h
 |cons y l ih=>
  rw [Pha] at h
  by_cases e:y.1=s
  ·rw [if_pos e] at h
   cases h
   subst e
   exact List.mem_cons_self
  ·rw [if_neg e] at h
   exact List.mem_cons_of_mem _ (ih h)
theorem Noa (l:List Nmd) (s:ByteArray):rdN l s=match gt l s with|some b=>(b,true)|none=>([],false):=by
 unfold rdN gt
 cases fnd l s<;>rfl
def LB (l:List Nmd):Prop:=∀ x∈l,B5 x.2
def DB (d:Dsk):Prop:=LB d.1∧LB d.2
theorem LB.cut {l:List Nmd} (h:LB l) (s:ByteArray):LB (cut l s):=λ x hx=>h x (Pda.subset hx)
theorem LB.ins {l:List Nmd} (h:LB l) {x:Nmd} (hx:B5 x.2):LB (ins l x):=λ y hy=>by
 rcases Pea.1 hy with rfl|hy
 ·exact hx
 ·exact h y hy
theorem LB.gt {l:List Nmd} (h:LB l) {s:ByteArray} {b:List Int} (hg:gt l s=some b):B5 b:=h _ (Nna hg)
def wr (l:List Nmd) (s:ByteArray) (b:List Int):List Nmd:=ins (cut l s) (s,b)
def sy (d:Dsk) (s:ByteArray):List Nmd:=match gt d.1 s with
 |some b=>wr d.2 s b
 |none=>cut d.2 s
def wrD (d:Dsk) (s:ByteArray) (b:List Int):Dsk×Bool:=bif decide (b.length≤400)&&decide ((wr d.1 s b).length≤60) then ((wr d.1 s b,d.2),true) else (d,false)
def syD (d:Dsk) (s:ByteArray):Dsk×Bool:=bif decide ((sy d s).length≤60) then ((d.1,sy d s),true) else (d,false)
section
variable {d:Dsk} {s:ByteArray} {b:List Int}
end
def lkD (d:Dsk) (s:ByteArray):Fil×Int:=match gt d.1 s with
 |none=>(E3a,1)
 |some b=>match R7 b with
  |some f=>(f,0)
  |none=>(E3a,2)
theorem Npa {l:List Nmd} {s:ByteArray} {b:List Int} (h:Nia l) (hg:gt l s=some b):b.length≤1000000000000:=h.2 _ (Nna hg)
theorem Wz {d:Dsk} (hf:Nia d.1) (hb:LB d.1) (s:ByteArray):Tot (λ k=>H5 k d s) (λ r=>r=lkD d s):=by
 unfold H5 lkD
 refine Tot.bind (M3a d s hf) ?_
 rintro r rfl
 rw [Noa]
 cases hg:gt d.1 s with
 |none=>exact Tot.yes rfl (Tot.pure rfl)
 |some b=>
  refine Tot.no rfl (Tot.bind (C7a b (hb.gt hg) (Npa hf hg)) ?_)
  rintro r rfl
  unfold R8
  dsimp only
  cases R7 b with
  |none=>exact Tot.yes rfl (Tot.pure rfl)
  |some f=>exact Tot.no rfl (Tot.pure rfl)
theorem E5a {d:Dsk} (hf:Nia d.1) (hb:LB d.1) (s:ByteArray):Tot (λ k=>Ih k d s) (λ r=>r=lkD d s):=by
 unfold Ih lkD
 refine Tot.bind (M4a d s hf) ?_
 rintro r rfl
 rw [Noa]
 cases hg:gt d.1 s with
 |none=>exact Tot.yes rfl (Tot.pure rfl)
 |some b=>
  refine Tot.no rfl (Tot.bind (Sy b (hb.gt hg) (Npa hf hg)) ?_)
  rintro r rfl
  unfold R8
  dsimp only
  cases R7 b with
  |none=>exact Tot.yes rfl (Tot.pure rfl)
  |some f=>exact Tot.no rfl (Tot.pure rfl)
def old (d:Dsk) (s:ByteArray):Option Fil:=(gt d.1 s).bind R7
def kp1 (d:Dsk) (s:ByteArray) (f:Fil):Option (Dsk×Int):=
 let w:=bif (wrD d s (Xc f)).2 then some ((wrD d s (Xc f)).1,(0:Int)) else none
 match old d s with
 |some o=>bif sle o.1 f.1 then w else some (d,1)
 |none=>w
def kp2 (d:Dsk) (s:ByteArray) (sure:Bool) (x:Dsk×Int):Dsk×Int:=bif sure then (bif (syD x.1 s).2 then ((syD x.1 s).1,x.2) else (d,3)) else x
def S7a (d:Dsk) (s:ByteArray) (f:Fil) (sure:Bool):Dsk×Int:=match kp1 d s f with
 |some x=>kp2 d s sure x
 |none=>(d,3)
def keep (d:Dsk) (s:ByteArray) (f:Fil) (sure:Bool):Dsk×Int:=bif E1a d&&(Iwa s&&K8 f) then S7a d s f sure else (d,2)

def DG (d:Dsk):Prop:=E1a d=true∧DB d

section
variable {d:Dsk} {s:ByteArray} {f:Fil} {sure:Bool}
end

abbrev Nod:=Int×Dsk×List Row×List Row
def qOk (l:List Row):Bool:=l.all Lya
def J9a (n:Nod):Bool:=qOk n.2.2.2&&(inR n.1 0 20&&(E1a n.2.1&&(Nga n.2.2.1&&decide ((n.2.2.2.length:Int)≤60))))
def RF (l:List Row):Prop:=l.length≤2000000∧Lza l
def NIn (n:Nod):Prop:=(DIn n.2.1∧DB n.2.1)∧RF n.2.2.1∧RF n.2.2.2
def NG (n:Nod):Prop:=J9a n=true∧DB n.2.1
theorem Fja {n:Nod}:J9a n=true↔(∀ r∈n.2.2.2,Lya r=true)∧(0≤n.1∧n.1≤20)∧E1a n.2.1=true∧Nga n.2.2.1=true∧n.2.2.2.length≤60:=by
 unfold J9a qOk
 simp only [Bool.and_eq_true,List.all_eq_true,P8a,decide_eq_true_iff]
 constructor
 ·rintro ⟨h1,h2,h3,h4,h5⟩; exact ⟨h1,h2,h3,h4,by omega⟩
 ·rintro ⟨h1,h2,h3,h4,h5⟩; exact ⟨h1,h2,h3,h4,by omega⟩
theorem NG.g {n:Nod} (h:NG n):DG n.2.1:=⟨(Fja.1 h.1).2.2.1,h.2⟩
def Lo:Nod:=((0:Int),(([]:List Nmd),([]:List Nmd)),([]:List Row),([]:List Row))

abbrev Dev:=Int×Int×Int
abbrev Rng:=Int×List (List Int)
def S8a:Dev:=((0:Int),((0:Int),(0:Int)))
def Og (l:List Int) (n:Int):Bool:=l.any (· == n)
theorem X1 {l:List Int} {n:Int}:Og l n=true↔n∈l:=by
 unfold Og
 rw [List.any_eq_true]
 constructor
 ·rintro ⟨x,hx,e⟩; rw [← eq_of_beq e]; exact hx
 ·intro h; exact ⟨n,h,beq_self_eq_true n⟩
theorem Jaa (l:List Int) (n:Int) (hl:l.length≤4000000000000000):Tot (λ k=>Cg k l n) (λ r=>r=Og l n):=by
 unfold Cg
 refine Tot.bind (Q:=λ r=>r=bif Og l n then .inl true else .inr ()) ?_ (by rintro r rfl; cases Og l n<;>exact Tot.pure rfl)
 refine Tot.up (L:=λ k i (_:Unit)=>Eb k n l (l.length:Int) i) (Q:=λ r=>r=bif Og l n then .inl true else .inr ()) l.length (λ j _=>Og (l.drop j) n=Og l n) ?_ ?_ 0 () (Nat.zero_le _) rfl
 ·intro _ h
  rw [List.drop_length] at h
  simp (disch:=omega) only [Eb,dF,← h]
  exact Tot.pure rfl
 ·intro j _ hj h next
  rw [Ga (d:=0) hj] at h
  simp (disch:=omega) only [Eb,dT,Int.toNat_natCast,w64]
  unfold Og at h
  rw [List.any_cons] at h
  refine Tot.ite (λ hc=>Tot.pure ?_) (λ hc=>next () ?_)
  ·rw [hc,Bool.true_or] at h
   unfold Og
   rw [← h]
   rfl
  ·rw [hc,Bool.false_or] at h
   exact h
theorem Jba (l:List Int) (n:Int) (hl:l.length≤4000000000000000):Tot (λ k=>Dx k l n) (λ r=>r=Og l n):=by
 unfold Dx
 refine Tot.bind (Q:=λ r=>r=bif Og l n then .inl true else .inr ()) ?_ (by rintro r rfl; cases Og l n<;>exact Tot.pure rfl)
 refine Tot.up (L:=λ k i (_:Unit)=>Fa k l n i) (Q:=λ r=>r=bif Og l n then .inl true else .inr ()) l.length (λ j _=>Og (l.drop j) n=Og l n) ?_ ?_ 0 () (Nat.zero_le _) rfl
 ·intro _ h
  rw [List.drop_length] at h
  simp (disch:=omega) only [Fa,dF,← h]
  exact Tot.pure rfl
 ·intro j _ hj h next
  rw [Ga (d:=0) hj] at h
  simp (disch:=omega) only [Fa,dT,Int.toNat_natCast,w64]
  unfold Og at h
  rw [List.any_cons] at h
  refine Tot.ite (λ hc=>Tot.pure ?_) (λ hc=>next () ?_)
  ·rw [hc,Bool.true_or] at h
   unfold Og
   rw [← h]
   rfl
  ·rw [hc,Bool.false_or] at h
   exact h
def Pia (l:List Dev) (id:Int):Option Dev:=l.find? (λ d=>d.1==id)
def R9a (d:Dev):Bool:=inR d.1 0 20&&(inR d.2.1 0 20&&inR d.2.2 1 1000)
def S9a:Option Int→List Dev→Bool
 |_,[]=>true
 |none,d::l=>R9a d&&S9a (some d.1) l
 |some q,d::l=>R9a d&&(decide (q<d.1)&&S9a (some d.1) l)
def Raa (l:List Dev):Bool:=S9a none l&&inR (l.length:Int) 1 12
def Saa (l:List Dev) (out:List Int) (id:Int):List Int:=match Pia l id with
 |some d=>bif Og out d.2.1 then out else out++[d.2.1]
 |none=>out
def Pja (ids:List Int) (l:List Dev):List Int:=ids.foldl (Saa l) []

def RBd (r:Rng):Prop:=r.2.length≤2000000∧∀ p∈r.2,p.length≤2000000
theorem A6a (l:List Int) (hl:l.length≤5000000):Fw l=some l:=by
 unfold Fw
 rw [bT (by simp only [List.length_nil]; omega),List.nil_append]
def cnt (id n x:Int):Int:=bif x==id then n+1 else n
def Ssa (id n:Int) (p:List Int):Int:=p.foldl (cnt id) n
def A7a (r:Rng) (id:Int):Int:=r.2.foldl (Ssa id) 0

def Sba (r:Rng) (p zs:List Int) (a:Option (Dev×Bool)) (d:Dev):Option (Dev×Bool):=
 bif Og p d.1 then a else match a with
 |none=>some (d,!(Og zs d.2.1))
 |some (b,fr)=>bif (!(Og zs d.2.1) && !fr) || (((!(Og zs d.2.1))==fr)&&decide ((A7a r d.1+1) * b.2.2<(A7a r b.1+1) * d.2.2)) then some (d,!(Og zs d.2.1)) else some (b,fr)
def Sca (r:Rng) (p:List Int) (l:List Dev):Option (Dev×Bool):=l.foldl (Sba r p (Pja p l)) none
def Sta (r:Rng) (p:List Int) (l:List Dev):Int:=match Sca r p l with
 |some b=>b.1.1
 |none => -1
def bs (r:Rng):Option (Dev×Bool)→Int×Bool×Dev
 |some (b,fr)=>(A7a r b.1+1,fr,b)
 |none=>(0,false,-1,0,0)

def Rba (l:List Dev) (reps:Int) (ps:List (List Int)):Nat→List Int→List Int
 |0,p=>p
 |n+1,p=>Rba l reps ps n (p++[Sta (reps,ps++[p]) p l])
def Sma (l:List Dev) (reps:Int):Nat→List (List Int)→List (List Int)
 |0,ps=>ps
 |n+1,ps=>Sma l reps n (ps++[Rba l reps ps reps.toNat []])
def build (l:List Dev) (parts reps:Int):Rng×Bool:=bif Raa l&&(inR parts 1 64&&(inR reps 1 5 && !(decide (reps > (l.length:Int))))) then ((reps,Sma l reps parts.toNat []),true) else ((0,[]),false)

def hv (r:Rng) (l:List Dev) (b id:Int):Bool:=match Pia l b with
 |none=>false
 |some x=>match Pia l id with
  |none=>false
  |some d=>(d.2.1==x.2.1)&&decide (A7a r id - A7a r b≥2)

section
open Go
end

section
open Go
end

section
open Go
end

end Go.Proofs.YtlfoljnopndpeaaGreat.Vf
