import Derived.Test.YtlfoljnopndpeaaGreatMab
import Derived.IntWalk
import Derived.Laws.StructEq
set_option linter.unusedVariables false
set_option linter.unusedSimpArgs false
namespace Go.Proofs.YtlfoljnopndpeaaGreat.Vf
open Go

def Tot {α:Type} (f:Nat→Option α) (Q:α→Prop):Prop:=∃ r K,(∀ k,K≤k→f k=some r)∧Q r
section
variable {α β:Type} {f g:Nat→Option α} {Q Q':α→Prop}
theorem Tot.mono (h:Tot f Q) (hq:∀ a,Q a→Q' a):Tot f Q':=by
 obtain ⟨r,K,h1,h2⟩:=h
 exact ⟨r,K,h1,hq r h2⟩
theorem Tot.pure {a:α} (h:Q a):Tot (λ _=>some a) Q:=⟨a,0,λ _ _=>rfl,h⟩
theorem Tot.of {o:Option α} {a:α} (e:o=some a) (h:Q a):Tot (λ _=>o) Q:=⟨a,0,λ _ _=>e,h⟩
theorem Tot.bind {h:Nat→α→Option β} {R:β→Prop} (hf:Tot f Q) (hh:∀ a,Q a→Tot (λ k=>h k a) R):Tot (λ k=>(f k).bind (h k)) R:=by
 obtain ⟨a,K,h1,h2⟩:=hf
 obtain ⟨b,L,h3,h4⟩:=hh a h2
 exact ⟨b,max K L,λ k hk=>by show (f k).bind (h k)=_; rw [h1 k (by omega)]; exact h3 k (by omega),h4⟩
theorem Tot.yes {c:Bool} (hc:c=true) (h:Tot f Q):Tot (λ k=>cond c (f k) (g k)) Q:=by subst hc; exact h
theorem Tot.no {c:Bool} (hc:c=false) (h:Tot g Q):Tot (λ k=>cond c (f k) (g k)) Q:=by subst hc; exact h
theorem Tot.ite {c:Bool} (h1:c=true→Tot f Q) (h2:c=false→Tot g Q):Tot (λ k=>cond c (f k) (g k)) Q:=by
 cases hc:c with
 |true=>exact h1 hc
 |false=>exact h2 hc
theorem Tot.dec {p:Prop} [Decidable p] (hp:p) (h:Tot f Q):Tot (λ k=>cond (decide p) (f k) (g k)) Q:=Tot.yes (decide_eq_true hp) h
theorem Tot.ndec {p:Prop} [Decidable p] (hp:¬ p) (h:Tot g Q):Tot (λ k=>cond (decide p) (f k) (g k)) Q:=Tot.no (decide_eq_false hp) h
theorem Tot.dite {p:Prop} [Decidable p] (h1:p→Tot f Q) (h2:¬ p→Tot g Q):Tot (λ k=>cond (decide p) (f k) (g k)) Q:=
 Tot.ite (λ h=>h1 (of_decide_eq_true h)) (λ h=>h2 (of_decide_eq_false h))
theorem Tot.ble {m n:Nat} (hp:m≤n) (h:Tot f Q):Tot (λ k=>cond (Nat.ble m n) (f k) (g k)) Q:=Tot.yes (Nat.ble_eq_true_of_le hp) h
theorem Tot.succ (h:Tot (λ k=>f (k+1)) Q):Tot f Q:=by
 obtain ⟨r,K,h1,h2⟩:=h
 exact ⟨r,K+1,λ k hk=>by obtain ⟨m,rfl⟩:∃ m,k=m+1:=⟨k - 1,by omega⟩; exact h1 m (by omega),h2⟩
theorem Tot.and (h:Tot f Q) (h':Tot f Q'):Tot f (λ a=>Q a∧Q' a):=by
 obtain ⟨r,K,h1,h2⟩:=h
 obtain ⟨r',K',h1',h2'⟩:=h'
 have e:r=r':=by
  have a1:=h1 (max K K') (by omega)
  have a2:=h1' (max K K') (by omega)
  rw [a1] at a2
  exact Option.some.inj a2
 subst e
 exact ⟨r,K,h1,h2,h2'⟩
theorem Tot.law {f:Nat→Option Bool} (h:Tot f (λ b=>b=true)):∃ k,f k=some true:=by
 obtain ⟨r,K,h1,h2⟩:=h
 subst h2
 exact ⟨K,h1 K (Nat.le_refl _)⟩
end
theorem w64 {n:Int} (h1 : -9223372036854775808≤n) (h2:n≤9223372036854775807):IntKind.wrap .i64 n=n:=Go.IntWalk.i64_in n ⟨h1,h2⟩
theorem J8a (n:Int):0≤IntKind.wrap .u8 n∧IntKind.wrap .u8 n≤255:=by
 simp only [IntKind.wrap,IntKind.signed,IntKind.bits]
 simp
 omega

def B4 (l:List Int):Prop:=∀ x∈l,0≤x∧x≤255
abbrev Stp:=Int×Int×Int
abbrev Row:=ByteArray×Stp×Bool×Int
abbrev Fil:=Stp×Bool×List Int

def tlt (a b:ByteArray):Bool:=Op.bytesLess a.toList b.toList
def teq (a b:ByteArray):Bool:=a.toList==b.toList
theorem Fra {a b:ByteArray} (h:a.toList=b.toList):a=b:=by
 rw [ByteArray.toList_eq,ByteArray.toList_eq] at h
 obtain ⟨⟨x⟩⟩:=a
 obtain ⟨⟨y⟩⟩:=b
 simp only at h
 rw [h]
theorem Cja {a b:ByteArray}:teq a b=true↔a=b:=by
 unfold teq
 rw [beq_iff_eq]
 exact ⟨Fra,λ h=>by rw [h]⟩
def sle (a b:Stp):Bool:=cond (a.1 != b.1) (decide (a.1<b.1)) (cond (a.2.1 != b.2.1) (decide (a.2.1<b.2.1)) (decide (a.2.2<b.2.2)))
theorem Xi (a b:Stp):An a b=some (sle a b):=by
 unfold An sle
 cases a.1 != b.1<;>cases a.2.1 != b.2.1<;>rfl
theorem Xj (a b:Stp):Ae a b=some (sle a b):=by
 unfold Ae sle
 cases a.1 != b.1<;>cases a.2.1 != b.2.1<;>rfl
def Rqa (a b:Row):Bool:=cond (!((a.2.1.1==b.2.1.1)&&((a.2.1.2.1==b.2.1.2.1)&&(a.2.1.2.2==b.2.1.2.2)))) (sle a.2.1 b.2.1) (cond (!(a.2.2.1==b.2.2.1)) b.2.2.1 (decide (a.2.2.2<b.2.2.2)))
def R5:Row:=((⟨#[]⟩:ByteArray),(((0:Int),((0:Int),(0:Int))),(false,(0:Int))))
theorem Fm {α:Type} {l:List α} {i:Nat} {d:α} (h:i<l.length):l.drop i=l.getD i d::l.drop (i+1):=by
 rw [List.drop_eq_getElem_cons h,List.getD_eq_getElem?_getD,List.getElem?_eq_getElem h]
 rfl
def Few (l:List Row):Prop:=l.length≤1000000000000

section
open Go
end

def inR (n lo hi:Int):Bool:=decide (n≥lo)&&decide (n≤hi)
theorem Te (n lo hi:Int):F8 n lo hi=some (inR n lo hi):=by
 unfold F8 inR
 cases decide (n≥lo)<;>rfl
theorem Rf (n lo hi:Int):Am n lo hi=some (inR n lo hi):=by
 unfold Am inR
 cases decide (n≥lo)<;>rfl
theorem P6a {n lo hi:Int}:inR n lo hi=true↔lo≤n∧n≤hi:=by
 unfold inR
 simp
def Qa (c:Int):Bool:=inR c 97 122 || (inR c 48 57 || (!(c != 45) || (!(c != 95) || !(c != 47))))
def Rn (s:ByteArray):Prop:=s.size≤4611686018427387904
theorem Nd (s:ByteArray):s.data.toList.length=s.size:=Array.length_toList
theorem J9a (s:ByteArray) (i:Int):0≤bt s i∧bt s i≤255:=by
 unfold bt
 have:=(s.data.toList.getD i.toNat 0).toNat_lt
 omega
theorem R0a (s:ByteArray) (i:Nat) (h:i<s.size):bt s (i:Int)=((s.data.toList[i]'(by rw [Nd]; exact h)).toNat:Int):=by
 unfold bt
 rw [Int.toNat_natCast,List.getD_eq_getElem?_getD,List.getElem?_eq_getElem (by rw [Nd]; exact h)]
 rfl
def bOk (b:UInt8):Bool:=Qa (b.toNat:Int)
theorem Cka (s:ByteArray) (hs:Rn s):∀ (n i:Nat),s.size - i=n→i≤s.size→
  Tot (λ k=>A6 k s (i:Int)) (λ r=>r=bif (s.data.toList.drop i).all bOk then .inr s else .inl false):=by
 unfold Rn at hs
 have hsz:=Nd s
 intro n
 induction n with
 |zero=>
  intro i hn hi
  refine Tot.succ ?_
  simp only [A6]
  refine Tot.ndec (by omega) (Tot.pure ?_)
  rw [List.drop_of_length_le (by omega)]
  rfl
 |succ n ih=>
  intro i hn hi
  have hlt:i<s.size:=by omega
  refine Tot.succ ?_
  simp only [A6]
  refine Tot.dec (by omega) (Tot.dec (by omega) (Tot.dec (by omega) ?_))
  rw [w64 (n:=(i:Int)+1) (by omega) (by omega)]
  have hb:bOk (s.data.toList[i]'(by omega))=Qa (bt s (i:Int)):=by rw [R0a s i hlt]; rfl
  rw [List.drop_eq_getElem_cons (by omega),List.all_cons,hb]
  generalize bt s (i:Int)=c
  have h1:=ih (i+1) (by omega) (by omega)
  have e:(((i+1:Nat)):Int)=(i:Int)+1:=by omega
  rw [e] at h1
  cases hc:Qa c with
  |true=>
   rw [Bool.true_and]
   refine h1.mono (λ r hr=>hr) |> λ h=>?_
   obtain ⟨r,K,h2,h3⟩:=h
   refine ⟨r,K,λ k hk=>?_,h3⟩
   rw [← h2 k hk]
   unfold Qa inR at hc
   revert hc
   cases decide (c≥97)<;>cases decide (c≤122)<;>cases decide (c≥48)<;>cases decide (c≤57)<;>cases (c != 45)<;>cases (c != 95)<;>cases (c != 47)<;>first|(intro _; rfl)|(intro hc; cases hc)
  |false=>
   rw [Bool.false_and]
   refine ⟨.inl false,0,λ k _=>?_,rfl⟩
   unfold Qa inR at hc
   revert hc
   cases decide (c≥97)<;>cases decide (c≤122)<;>cases decide (c≥48)<;>cases decide (c≤57)<;>cases (c != 45)<;>cases (c != 95)<;>cases (c != 47)<;>first|(intro _; rfl)|(intro hc; cases hc)
theorem Cla (s:ByteArray) (hs:Rn s):∀ (n i:Nat),s.size - i=n→i≤s.size→
  Tot (λ k=>B5 k s (i:Int)) (λ r=>r=bif (s.data.toList.drop i).all bOk then .inr s else .inl false):=by
 unfold Rn at hs
 have hsz:=Nd s
 intro n
 induction n with
 |zero=>
  intro i hn hi
  refine Tot.succ ?_
  simp only [B5]
  refine Tot.ndec (by omega) (Tot.pure ?_)
  rw [List.drop_of_length_le (by omega)]
  rfl
 |succ n ih=>
  intro i hn hi
  have hlt:i<s.size:=by omega
  have hbb:=J9a s (i:Int)
  refine Tot.succ ?_
  simp only [B5]
  refine Tot.dec (by omega) (Tot.dec (by omega) (Tot.dec (by omega) ?_))
  rw [w64 (n:=(i:Int)+1) (by omega) (by omega),w64 (n:=bt s (i:Int)) (by omega) (by omega)]
  have hb:bOk (s.data.toList[i]'(by omega))=Qa (bt s (i:Int)):=by rw [R0a s i hlt]; rfl
  rw [List.drop_eq_getElem_cons (by omega),List.all_cons,hb]
  generalize bt s (i:Int)=c
  have h1:=ih (i+1) (by omega) (by omega)
  have e:(((i+1:Nat)):Int)=(i:Int)+1:=by omega
  rw [e] at h1
  simp only [Rf,Option.bind_some]
  cases hc:Qa c with
  |true=>
   rw [Bool.true_and]
   obtain ⟨r,K,h2,h3⟩:=h1
   refine ⟨r,K,λ k hk=>?_,h3⟩
   rw [← h2 k hk]
   unfold Qa at hc
   revert hc
   cases inR c 97 122<;>cases inR c 48 57<;>cases (c != 45)<;>cases (c != 95)<;>cases (c != 47)<;>first|(intro _; rfl)|(intro hc; cases hc)
  |false=>
   rw [Bool.false_and]
   refine ⟨.inl false,0,λ k _=>?_,rfl⟩
   unfold Qa at hc
   revert hc
   cases inR c 97 122<;>cases inR c 48 57<;>cases (c != 45)<;>cases (c != 95)<;>cases (c != 47)<;>first|(intro _; rfl)|(intro hc; cases hc)
def Mv (s:ByteArray):Bool:=s.data.toList.all bOk&&inR (s.size:Int) 1 20
theorem S7 (s:ByteArray) (hs:Rn s):Tot (λ k=>Ao k s) (λ r=>r=Mv s):=by
 unfold Ao Mv
 refine Tot.bind (Cka s hs _ 0 rfl (Nat.zero_le _)) ?_
 rintro r rfl
 rw [List.drop_zero]
 cases s.data.toList.all bOk with
 |true=>exact Tot.of (a:=inR (s.size:Int) 1 20) (by simp only [cond_true,Sum.elim_inr,Te,Option.bind_some]) (by rw [Bool.true_and])
 |false=>exact Tot.pure rfl
theorem S8 (s:ByteArray) (hs:Rn s):Tot (λ k=>Ap k s) (λ r=>r=Mv s):=by
 unfold Ap Mv
 refine Tot.bind (Cla s hs _ 0 rfl (Nat.zero_le _)) ?_
 rintro r rfl
 rw [List.drop_zero]
 cases s.data.toList.all bOk with
 |true=>exact Tot.of (a:=inR (s.size:Int) 1 20) (by simp only [cond_true,Sum.elim_inr,Rf,Option.bind_some]) (by rw [Bool.true_and])
 |false=>exact Tot.pure rfl
def Km (s:Stp):Bool:=inR s.1 0 1000000000&&(inR s.2.1 0 1000000&&inR s.2.2 0 20)
theorem Tf (s:Stp):Bx s=some (Km s):=by
 unfold Bx Km
 simp only [Te,Option.bind_some]
 cases inR s.1 0 1000000000<;>cases inR s.2.1 0 1000000<;>rfl
theorem Tg (s:Stp):Bv s=some (Km s):=by
 unfold Bv Km
 simp only [Rf,Option.bind_some]
 cases inR s.1 0 1000000000<;>cases inR s.2.1 0 1000000<;>rfl
def O8 (x:Row):Bool:=Mv x.1&&(Km x.2.1&&(inR x.2.2.2 0 200&&(!x.2.2.1 || x.2.2.2==0)))
theorem Jaa (x:Row) (hs:Rn x.1):Tot (λ k=>He k x) (λ r=>r=O8 x):=by
 unfold He O8
 refine Tot.bind (S7 x.1 hs) ?_
 rintro r rfl
 cases Mv x.1 with
 |false=>exact Tot.pure rfl
 |true=>
  refine Tot.of (a:=Km x.2.1&&(inR x.2.2.2 0 200&&(!x.2.2.1 || x.2.2.2==0))) ?_ (by rw [Bool.true_and])
  simp only [cond_true,Tf,Te,Option.bind_some]
  cases Km x.2.1<;>cases inR x.2.2.2 0 200<;>cases x.2.2.1<;>rfl
theorem Jba (x:Row) (hs:Rn x.1):Tot (λ k=>G5 k x) (λ r=>r=O8 x):=by
 unfold G5 O8
 refine Tot.bind (S8 x.1 hs) ?_
 rintro r rfl
 cases Mv x.1 with
 |false=>exact Tot.pure rfl
 |true=>
  refine Tot.of (a:=Km x.2.1&&(inR x.2.2.2 0 200&&(!x.2.2.1 || x.2.2.2==0))) ?_ (by rw [Bool.true_and])
  simp only [cond_true,Tg,Rf,Option.bind_some]
  cases Km x.2.1<;>cases inR x.2.2.2 0 200<;>cases x.2.2.1<;>rfl
def chk:Option ByteArray→List Row→Bool
 |_,[]=>true
 |none,r::l=>O8 r&&chk (some r.1) l
 |some q,r::l=>O8 r&&(tlt q r.1&&chk (some r.1) l)
def Rg (l:List Row):Bool:=chk none l&&decide ((l.length:Int)≤60)
def Qb (l:List Row):Prop:=∀ r∈l,Rn r.1
def Ro (l:List Row):Nat→Option ByteArray
 |0=>none
 |i+1=>some (l.getD i R5).1
theorem Ela (l:List Row) (i:Nat) (h:i<l.length):chk (Ro l i) (l.drop i)=(O8 (l.getD i R5)&&(bif decide (0<i) then tlt (l.getD (i - 1) R5).1 (l.getD i R5).1 else true)&&chk (Ro l (i+1)) (l.drop (i+1))):=by
 rw [Fm (d:=R5) h]
 cases i with
 |zero=>simp [Ro,chk]
 |succ i=>simp [Ro,chk,Bool.and_assoc]
theorem A7 {α:Type} {l:List α} {i:Nat} {d:α} (h1:i<l.length):l.getD i d∈l:=by
 rw [List.getD_eq_getElem?_getD,List.getElem?_eq_getElem h1]
 exact List.getElem_mem h1
theorem Cma (l:List Row) (hf:Few l) (hs:Qb l):∀ (n i:Nat),l.length - i=n→i≤l.length→
  Tot (λ k=>Dz k l l (l.length:Int) (i:Int)) (λ r=>r=bif chk (Ro l i) (l.drop i) then .inr l else .inl false):=by
 unfold Few at hf
 intro n
 induction n with
 |zero=>
  intro i hn hi
  refine Tot.succ ?_
  simp only [Dz]
  refine Tot.ndec (by omega) (Tot.pure ?_)
  rw [List.drop_of_length_le (by omega)]
  cases Ro l i<;>rfl
 |succ n ih=>
  intro i hn hi
  have hlt:i<l.length:=by omega
  refine Tot.succ ?_
  simp only [Dz]
  refine Tot.dec (by omega) (Tot.dec (by omega) (Tot.dec (by omega) ?_))
  rw [show Int.toNat (i:Int)=i from Int.toNat_natCast i,w64 (n:=(i:Int)+1) (by omega) (by omega),Ela l i hlt]
  have h1:=ih (i+1) (by omega) (by omega)
  have e:(((i+1:Nat)):Int)=(i:Int)+1:=by omega
  rw [e] at h1
  refine Tot.bind (Jaa (l.getD i R5) (hs _ (A7 hlt))) ?_
  rintro b rfl
  cases hb:O8 (l.getD i R5) with
  |false=>exact Tot.yes rfl (Tot.pure (by simp))
  |true=>
   refine Tot.no rfl ?_
   rw [Bool.true_and]
   refine Tot.dite (λ h0=>?_) (λ h0=>?_)
   ·rw [w64 (n:=(i:Int) - 1) (by omega) (by omega)]
    refine Tot.dec (by omega) (Tot.dec (by omega) ?_)
    rw [show Int.toNat ((i:Int) - 1)=i - 1 by omega,decide_eq_true (show 0<i by omega),cond_true]
    have et:(!(Op.bytesLess (l.getD (i - 1) R5).1.toList (l.getD i R5).1.toList)) = !(tlt (l.getD (i - 1) R5).1 (l.getD i R5).1):=rfl
    refine Tot.ite (λ ht=>?_) (λ ht=>?_)
    ·have ht':(!(tlt (l.getD (i - 1) R5).1 (l.getD i R5).1))=true:=ht
     rw [Bool.not_eq_true'] at ht'
     exact Tot.pure (by rw [ht']; rfl)
    ·have ht':(!(tlt (l.getD (i - 1) R5).1 (l.getD i R5).1))=false:=ht
     rw [Bool.not_eq_false'] at ht'
     rw [ht',Bool.true_and]
     exact h1
   ·rw [decide_eq_false (show ¬ 0<i by omega),cond_false,Bool.true_and]
    exact h1
theorem Cna (l:List Row) (hf:Few l) (hs:Qb l):∀ (n i:Nat),l.length - i=n→i≤l.length→
  Tot (λ k=>Dw k l (i:Int)) (λ r=>r=bif chk (Ro l i) (l.drop i) then .inr l else .inl false):=by
 unfold Few at hf
 intro n
 induction n with
 |zero=>
  intro i hn hi
  refine Tot.succ ?_
  simp only [Dw]
  refine Tot.ndec (by omega) (Tot.pure ?_)
  rw [List.drop_of_length_le (by omega)]
  cases Ro l i<;>rfl
 |succ n ih=>
  intro i hn hi
  have hlt:i<l.length:=by omega
  refine Tot.succ ?_
  simp only [Dw]
  refine Tot.dec (by omega) (Tot.dec (by omega) (Tot.dec (by omega) ?_))
  rw [show Int.toNat (i:Int)=i from Int.toNat_natCast i,w64 (n:=(i:Int)+1) (by omega) (by omega),Ela l i hlt]
  have h1:=ih (i+1) (by omega) (by omega)
  have e:(((i+1:Nat)):Int)=(i:Int)+1:=by omega
  rw [e] at h1
  refine Tot.bind (Jba (l.getD i R5) (hs _ (A7 hlt))) ?_
  rintro b rfl
  cases hb:O8 (l.getD i R5) with
  |false=>exact Tot.yes rfl (Tot.pure (by simp))
  |true=>
   refine Tot.no rfl ?_
   rw [Bool.true_and]
   refine Tot.dite (λ h0=>?_) (λ h0=>?_)
   ·rw [w64 (n:=(i:Int) - 1) (by omega) (by omega)]
    refine Tot.dec (by omega) (Tot.dec (by omega) (Tot.dec (by omega) (Tot.dec (by omega) ?_)))
    rw [show Int.toNat ((i:Int) - 1)=i - 1 by omega,decide_eq_true (show 0<i by omega),cond_true]
    refine Tot.ite (λ ht=>?_) (λ ht=>?_)
    ·have ht':(!(tlt (l.getD (i - 1) R5).1 (l.getD i R5).1))=true:=ht
     rw [Bool.not_eq_true'] at ht'
     exact Tot.pure (by rw [ht']; rfl)
    ·have ht':(!(tlt (l.getD (i - 1) R5).1 (l.getD i R5).1))=false:=ht
     rw [Bool.not_eq_false'] at ht'
     rw [ht',Bool.true_and]
     exact h1
   ·rw [decide_eq_false (show ¬ 0<i by omega),cond_false,Bool.true_and]
    exact h1
theorem Maa (l:List Row) (hf:Few l) (hs:Qb l):Tot (λ k=>Ej k l) (λ r=>r=Rg l):=by
 unfold Ej Rg
 refine Tot.bind (Cma l hf hs _ 0 rfl (Nat.zero_le _)) ?_
 rintro r rfl
 rw [List.drop_zero]
 show Tot _ (λ r=>r=(chk none l&&_))
 cases hc:chk none l with
 |true=>rw [show chk (Ro l 0) l=true from hc]; exact Tot.pure (by rw [Bool.true_and])
 |false=>rw [show chk (Ro l 0) l=false from hc]; exact Tot.pure rfl
theorem Mba (l:List Row) (hf:Few l) (hs:Qb l):Tot (λ k=>Ee k l) (λ r=>r=Rg l):=by
 unfold Ee Rg
 refine Tot.bind (Cna l hf hs _ 0 rfl (Nat.zero_le _)) ?_
 rintro r rfl
 rw [List.drop_zero]
 cases hc:chk none l with
 |true=>rw [show chk (Ro l 0) l=true from hc]; exact Tot.pure (by rw [Bool.true_and])
 |false=>rw [show chk (Ro l 0) l=false from hc]; exact Tot.pure rfl
def mx (a b:Row):Row:=bif Rqa a b then b else a

def Xt:Nat→Nat→List Int
 |0,n=>[(n:Int)]
 |f+1,n=>if n≤127 then [(n:Int)] else ((n % 128+128:Nat):Int)::Xt f (n / 128)
def B9a (n:Nat):List Int:=Xt 4 n
def U3:Nat→Nat→Nat→List Int→Option (Nat×Nat)
 |0,_,_,_=>none
 |_+1,_,_,[]=>none
 |f+1,k,acc,x::l=>if 128≤x then U3 f (k+1) (acc+x.toNat % 128 * 128 ^ k) l
  else if (x=0∧0<k)∨1000000000<acc+x.toNat % 128 * 128 ^ k then none else some (acc+x.toNat % 128 * 128 ^ k,k+1)
def Nf (l:List Int) (p:Nat):Option (Nat×Nat):=match U3 5 0 0 (l.drop p) with
 |some (n,c)=>some (n,p+c)
 |none=>none
theorem Jca:∀ (f n:Nat),(Xt f n).length≤f+1∧0<(Xt f n).length
 |0,n=>by simp [Xt]
 |f+1,n=>by
  unfold Xt
  split
  ·simp
  ·have:=Jca f (n / 128)
   simp only [List.length_cons]
   omega
theorem Ph:∀ (f k acc:Nat) (l:List Int) (n c:Nat),B4 l→U3 f k acc l=some (n,c)→acc<128 ^ k→k<c∧c≤k+f∧c - k≤l.length∧n≤1000000000
 |0,_,_,_,_,_,_,h,_=>by simp [U3] at h
 |_+1,_,_,[],_,_,_,h,_=>by simp [U3] at h
 |f+1,k,acc,x::l,n,c,hb,h,ha=>by
  have hx:=hb x (by simp)
  unfold U3 at h
  split at h
  ·have h1:acc+x.toNat % 128 * 128 ^ k<128 ^ (k+1):=by
    have h2:x.toNat % 128≤127:=by omega
    have h3:=Nat.mul_le_mul_right (128 ^ k) h2
    rw [Nat.pow_succ]
    omega
   have:=Ph f (k+1) _ l n c (λ y hy=>hb y (List.mem_cons_of_mem _ hy)) h h1
   simp only [List.length_cons]
   omega
  ·split at h
   ·cases h
   ·simp only [Option.some.injEq,Prod.mk.injEq] at h
    obtain ⟨rfl,rfl⟩:=h
    simp only [List.length_cons]
    omega
theorem Jda:∀ (f k acc:Nat) (l:List Int) (n c:Nat),B4 l→U3 (f+1) k acc l=some (n,c)→acc<128 ^ k→∃ m,n=acc+m * 128 ^ k∧l=Xt f m++l.drop (c - k)∧(m=0→c=k+1∧(0<k→False))∧m<128 ^ (f+1)
 |0,k,acc,[],n,c,hb,h,ha=>by simp [U3] at h
 |_+1,k,acc,[],n,c,hb,h,ha=>by simp [U3] at h
 |0,k,acc,x::l,n,c,hb,h,ha=>by
  have hx:=hb x (by simp)
  unfold U3 at h
  split at h
  ·simp [U3] at h
  ·rename_i h128
   split at h
   ·cases h
   ·rename_i hz
    simp only [Option.some.injEq,Prod.mk.injEq] at h
    obtain ⟨rfl,rfl⟩:=h
    have hm:x.toNat % 128=x.toNat:=Nat.mod_eq_of_lt (by omega)
    refine ⟨x.toNat,by rw [hm],?_,λ h0=>⟨rfl,λ hk=>hz (.inl ⟨by omega,hk⟩)⟩,by omega⟩
    rw [show k+1 - k=1 by omega]
    show x::l=[((x.toNat:Nat):Int)]++l
    rw [show ((x.toNat:Nat):Int)=x by omega]
    rfl
 |f+1,k,acc,x::l,n,c,hb,h,ha=>by
  have hx:=hb x (by simp)
  have hb':B4 l:=λ y hy=>hb y (List.mem_cons_of_mem _ hy)
  unfold U3 at h
  split at h
  ·rename_i h128
   have h1:acc+x.toNat % 128 * 128 ^ k<128 ^ (k+1):=by
    have h2:x.toNat % 128≤127:=by omega
    have h3:=Nat.mul_le_mul_right (128 ^ k) h2
    rw [Nat.pow_succ]
    omega
   obtain ⟨m,e1,e2,e3,e4⟩:=Jda f (k+1) _ l n c hb' h h1
   have hbd:=Ph (f+1) (k+1) _ l n c hb' h h1
   have hm0:m≠0:=λ h0=>(e3 h0).2 (by omega)
   refine ⟨x.toNat % 128+m * 128,?_,?_,λ h0=>by omega,?_⟩
   ·rw [e1,Nat.pow_succ,Nat.add_mul]
    have:m * 128 * 128 ^ k=m * (128 ^ k * 128):=by rw [Nat.mul_assoc,Nat.mul_comm 128]
    omega
   ·unfold Xt
    rw [if_neg (by omega),show (x.toNat % 128+m * 128) / 128=m by omega,show (x.toNat % 128+m * 128) % 128=x.toNat % 128 by omega,show c - k=(c - (k+1))+1 by omega,List.drop_succ_cons,List.cons_append,← e2]
    congr 1
    omega
   ·rw [Nat.pow_succ]
    omega
  ·rename_i h128
   split at h
   ·cases h
   ·rename_i hz
    simp only [Option.some.injEq,Prod.mk.injEq] at h
    obtain ⟨rfl,rfl⟩:=h
    have hm:x.toNat % 128=x.toNat:=Nat.mod_eq_of_lt (by omega)
    have hp:128≤128 ^ (f+1+1):=by
     have:=Nat.pow_le_pow_right (show 0<128 by decide) (show 1≤f+1+1 by omega)
     simpa using this
    refine ⟨x.toNat,by rw [hm],?_,λ h0=>⟨rfl,λ hk=>hz (.inl ⟨by omega,hk⟩)⟩,by omega⟩
    rw [show k+1 - k=1 by omega]
    unfold Xt
    rw [if_pos (by omega)]
    show x::l=[((x.toNat:Nat):Int)]++l
    rw [show ((x.toNat:Nat):Int)=x by omega]
    rfl
theorem Pi {l:List Int} {p n q:Nat} (hb:B4 l) (h:Nf l p=some (n,q)):l.drop p=B9a n++l.drop q∧n≤1000000000∧p<q∧q≤l.length:=by
 unfold Nf at h
 split at h
 ·rename_i m c hd
  simp only [Option.some.injEq,Prod.mk.injEq] at h
  obtain ⟨rfl,rfl⟩:=h
  have hb':B4 (l.drop p):=λ y hy=>hb y (List.mem_of_mem_drop hy)
  have hbd:=Ph 5 0 0 _ _ _ hb' hd (by decide)
  obtain ⟨m',e1,e2,_,_⟩:=Jda 4 0 0 _ _ _ hb' hd (by decide)
  have e3:m=m':=by rw [e1]; simp
  subst e3
  rw [List.length_drop] at hbd
  refine ⟨?_,hbd.2.2.2,by omega,by omega⟩
  rw [Nat.sub_zero,List.drop_drop] at e2
  exact e2
 ·cases h
theorem Ska (i:Nat) (hi:i<5):(2:Int) ^ (min (Int.toNat (IntKind.wrap .i64 (7 * (i:Int)))) (IntKind.bits .i64))=((128 ^ i:Nat):Int):=by
 have:i=0∨i=1∨i=2∨i=3∨i=4:=by omega
 rcases this with rfl|rfl|rfl|rfl|rfl<;>decide
theorem Rra (i:Nat) (hi:i<5):(2:Int) ^ (min (Int.toNat (IntKind.wrap .u64 (IntKind.wrap .i64 (7 * (i:Int))))) (IntKind.bits .i64))=((128 ^ i:Nat):Int):=by
 have:i=0∨i=1∨i=2∨i=3∨i=4:=by omega
 rcases this with rfl|rfl|rfl|rfl|rfl<;>decide
theorem sh7 (i:Nat) (hi:i<5):¬ (IntKind.wrap .i64 (7 * (i:Int))<0)∧¬ (IntKind.wrap .u64 (IntKind.wrap .i64 (7 * (i:Int)))<0):=by
 have:i=0∨i=1∨i=2∨i=3∨i=4:=by omega
 rcases this with rfl|rfl|rfl|rfl|rfl<;>decide
theorem Mw (i:Nat) (hi:i≤5):128 ^ i≤34359738368:=by
 have:=Nat.pow_le_pow_right (show 0<128 by decide) hi
 simpa using this
theorem Qc (n:Nat) (h:n<18446744073709551616):(BitVec.ofInt (IntKind.bits .i64) (n:Int)).toNat=n:=by
 rw [BitVec.toNat_ofInt]
 show ((n:Int) % ((2 ^ 64:Nat):Int)).toNat=n
 rw [Int.emod_eq_of_lt (by omega) (by omega)]
 exact Int.toNat_natCast n
theorem Nra (n:Nat) (h:n<9223372036854775808):IntKind.wrap .i64 ((BitVec.ofInt (IntKind.bits .i64) (n:Int) &&& BitVec.ofInt (IntKind.bits .i64) 127).toNat)=((n % 128:Nat):Int):=by
 rw [BitVec.toNat_and,Qc n (by omega),show (BitVec.ofInt (IntKind.bits .i64) 127).toNat=127 from by decide,show (127:Nat)=2 ^ 7 - 1 from rfl,Nat.and_two_pow_sub_one_eq_mod]
 exact w64 (by omega) (by omega)
theorem Ema (a m i:Nat) (ha:a<128 ^ i) (hm:m<128) (hi:i<5):IntKind.wrap .i64 ((BitVec.ofInt (IntKind.bits .i64) (a:Int) ||| BitVec.ofInt (IntKind.bits .i64) ((m * 128 ^ i:Nat):Int)).toNat)=((a+m * 128 ^ i:Nat):Int):=by
 have hp:=Mw i (by omega)
 have hmul:m * 128 ^ i≤127 * 34359738368:=Nat.mul_le_mul (by omega) hp
 rw [BitVec.toNat_or,Qc a (by omega),Qc _ (by omega),Nat.or_comm]
 have e:(128:Nat) ^ i=2 ^ (7 * i):=by rw [Nat.pow_mul]
 have h2:=Nat.two_pow_add_eq_or_of_lt (i:=7 * i) (b:=a) (by rw [← e]; exact ha) m
 rw [← e,Nat.mul_comm] at h2
 rw [← h2,Nat.add_comm]
 exact w64 (by omega) (by omega)
def Coa (l:List Int) (p:Int):Int×Int×Bool:=if p<0 then (0,0,false) else match Nf l p.toNat with
 |some (n,q)=>((n:Int),(q:Int),true)
 |none=>(0,0,false)
def Rea (p:Nat):Option (Nat×Nat)→Int×Int×Bool
 |some (n,c)=>((n:Int),((p+c:Nat):Int),true)
 |none=>(0,0,false)
def Th (r:Sum (Int×Int×Bool) Unit):Int×Int×Bool:=Sum.elim (λ y=>y) (λ _=>(0,0,false)) r
theorem Aga {l:List Int} {p:Nat} (h:p<l.length):l.drop p=l.getD p 0::l.drop (p+1):=Fm h
theorem Fsa (l:List Int) (hb:B4 l) (hl:l.length≤1000000000000) (p:Nat) (hp:p≤1000000000000):∀ (f i acc:Nat),f+i=5→acc<128 ^ i→
  Tot (λ k=>E3 k l (p:Int) (acc:Int) (i:Int)) (λ r=>Th r=Rea p (U3 f i acc (l.drop (p+i)))):=by
 intro f
 induction f with
 |zero=>
  intro i acc hi ha
  refine Tot.succ ?_
  simp only [E3]
  exact Tot.ndec (by omega) (Tot.pure rfl)
 |succ f ih=>
  intro i acc hi ha
  have hi5:i<5:=by omega
  refine Tot.succ ?_
  simp only [E3]
  refine Tot.dec (by omega) (Tot.dec (by omega) ?_)
  rw [w64 (n:=(l.length:Int) - (i:Int)) (by omega) (by omega),w64 (n:=(p:Int)+(i:Int)) (by omega) (by omega),show Int.toNat ((p:Int)+(i:Int))=p+i by omega]
  refine Tot.dite (λ h=>?_) (λ h=>?_)
  ·have hlt:p+i<l.length:=by omega
   refine Tot.dec (by omega) (Tot.dec (by omega) ?_)
   have hx:=hb (l.getD (p+i) 0) (A7 hlt)
   rw [Aga hlt,Ska i hi5]
   have he:U3 (f+1) i acc (l.getD (p+i) 0::l.drop (p+i+1))=if 128≤l.getD (p+i) 0 then U3 f (i+1) (acc+(l.getD (p+i) 0).toNat % 128 * 128 ^ i) (l.drop (p+i+1)) else if (l.getD (p+i) 0=0∧0<i)∨1000000000<acc+(l.getD (p+i) 0).toNat % 128 * 128 ^ i then none else some (acc+(l.getD (p+i) 0).toNat % 128 * 128 ^ i,i+1):=rfl
   rw [he]
   generalize l.getD (p+i) 0=x at hx ⊢
   obtain ⟨v,rfl⟩:∃ v:Nat,x=(v:Int):=⟨x.toNat,by omega⟩
   rw [Int.toNat_natCast]
   have hp1:=Mw i (by omega)
   have hmul:v % 128 * 128 ^ i≤127 * 34359738368:=Nat.mul_le_mul (by omega) hp1
   rw [w64 (n:=(v:Int)) (by omega) (by omega)]
   have e1:Int.tmod (v:Int) 128 * ((128 ^ i:Nat):Int)=((v % 128 * 128 ^ i:Nat):Int):=by
    rw [Int.tmod_eq_emod_of_nonneg (by omega)]
    push_cast
    rfl
   rw [e1,w64 (n:=((v % 128 * 128 ^ i:Nat):Int)) (by omega) (by omega),← Int.natCast_add,w64 (n:=((acc+v % 128 * 128 ^ i:Nat):Int)) (by omega) (by omega),w64 (n:=(i:Int)+1) (by omega) (by omega),w64 (n:=(p:Int)+(i:Int)+1) (by omega) (by omega)]
   refine Tot.ndec (sh7 i hi5).1 ?_
   refine Tot.dite (λ h128=>?_) (λ h128=>?_)
   ·rw [if_pos (by omega)]
    have h1:acc+v % 128 * 128 ^ i<128 ^ (i+1):=by
     have h2:v % 128≤127:=by omega
     have h3:=Nat.mul_le_mul_right (128 ^ i) h2
     rw [Nat.pow_succ]
     omega
    have:=ih (i+1) (acc+v % 128 * 128 ^ i) (by omega) h1
    rw [show p+(i+1)=p+i+1 by omega] at this
    exact this
   ·rw [if_neg (by omega)]
    have big:Tot (λ _:Nat=>cond (decide (((acc+v % 128 * 128 ^ i:Nat):Int) > 1000000000)) (some (Sum.inl ((0:Int),(0:Int),false))) (some (Sum.inl (((acc+v % 128 * 128 ^ i:Nat):Int),(p:Int)+(i:Int)+1,true))):Nat→Option (Sum (Int×Int×Bool) Unit))
      (λ r=>Th r=if 1000000000<acc+v % 128 * 128 ^ i then (0,0,false) else (((acc+v % 128 * 128 ^ i:Nat):Int),((p+(i+1):Nat):Int),true)):=by
     refine Tot.dite (λ hbig=>?_) (λ hbig=>?_)
     ·rw [if_pos (by omega)]; exact Tot.pure rfl
     ·rw [if_neg (by omega)]
      refine Tot.pure ?_
      show (_,_,_)=_
      rw [show (p:Int)+(i:Int)+1=((p+(i+1):Nat):Int) by omega]
    have goal:∀ c:Prop,[Decidable c]→(if c∨1000000000<acc+v % 128 * 128 ^ i then none else some (acc+v % 128 * 128 ^ i,i+1))=if c then none else if 1000000000<acc+v % 128 * 128 ^ i then (none:Option (Nat×Nat)) else some (acc+v % 128 * 128 ^ i,i+1):=by
     intro c _
     by_cases h1:c<;>by_cases h2:1000000000<acc+v % 128 * 128 ^ i<;>simp [h1,h2]
    rw [goal]
    have fin:(Rea p (if 1000000000<acc+v % 128 * 128 ^ i then (none:Option (Nat×Nat)) else some (acc+v % 128 * 128 ^ i,i+1)))=if 1000000000<acc+v % 128 * 128 ^ i then (0,0,false) else (((acc+v % 128 * 128 ^ i:Nat):Int),((p+(i+1):Nat):Int),true):=by
     split<;>rfl
    refine Tot.ite (λ h0=>?_) (λ h0=>?_)
    ·have hv:v=0:=by
      have:=beq_iff_eq.1 h0
      omega
     refine Tot.dite (λ hi0=>?_) (λ hi0=>?_)
     ·rw [if_pos ⟨by omega,by omega⟩]; exact Tot.pure rfl
     ·rw [if_neg (by omega),fin]; exact big
    ·have hv:v≠0:=by
      intro e
      subst e
      simp at h0
     rw [if_neg (by omega),fin]; exact big
  ·refine Tot.pure ?_
   rw [List.drop_of_length_le (by omega)]
   rfl
theorem Jea (l:List Int) (hb:B4 l) (hl:l.length≤1000000000000) (p:Int) (hp:p≤1000000000000):Tot (λ k=>Ft k l p) (λ r=>r=Coa l p):=by
 unfold Ft Coa
 by_cases h0:p<0
 ·rw [if_pos h0]
  refine Tot.bind (Q:=λ r=>r = .inr ()) ?_ ?_
  ·refine Tot.succ ?_
   simp only [E3]
   exact Tot.dec (by omega) (Tot.ndec (by omega) (Tot.pure rfl))
  ·rintro r rfl
   exact Tot.pure rfl
 ·rw [if_neg h0]
  obtain ⟨n,rfl⟩:∃ n:Nat,p=(n:Int):=⟨p.toNat,by omega⟩
  rw [Int.toNat_natCast]
  refine Tot.bind (Fsa l hb hl n (by omega) 5 0 0 rfl (by decide)) ?_
  intro r hr
  unfold Nf
  rw [Nat.add_zero] at hr
  have hr':Th r=(match (match U3 5 0 0 (l.drop n) with|some (m,c)=>some (m,n+c)|none=>none) with|some (m,q)=>((m:Int),(q:Int),true)|none=>((0:Int),(0:Int),false)):=by
   rw [hr]
   cases U3 5 0 0 (l.drop n) with
   |none=>rfl
   |some mc=>rfl
  rw [← hr']
  cases r with
  |inl y=>exact Tot.pure rfl
  |inr z=>exact Tot.pure rfl

theorem Fta (l:List Int) (hb:B4 l) (hl:l.length≤1000000000000) (p:Nat) (hp:p<l.length):∀ (f i acc:Nat),f+i=5→acc<128 ^ i→
  Tot (λ k=>Ch k l (p:Int) (acc:Int) (i:Int)) (λ r=>Th r=Rea p (U3 f i acc (l.drop (p+i)))):=by
 intro f
 induction f with
 |zero=>
  intro i acc hi ha
  refine Tot.succ ?_
  simp only [Ch]
  exact Tot.ndec (by omega) (Tot.pure rfl)
 |succ f ih=>
  intro i acc hi ha
  have hi5:i<5:=by omega
  refine Tot.succ ?_
  simp only [Ch]
  refine Tot.dec (by omega) (Tot.dec (by omega) (Tot.dec (by omega) ?_))
  rw [w64 (n:=(p:Int)+(i:Int)) (by omega) (by omega),show Int.toNat ((p:Int)+(i:Int))=p+i by omega]
  refine Tot.dite (λ h=>?_) (λ h=>?_)
  ·have hlt:p+i<l.length:=by omega
   refine Tot.dec (by omega) (Tot.dec (by omega) ?_)
   have hx:=hb (l.getD (p+i) 0) (A7 hlt)
   rw [Aga hlt,Rra i hi5]
   have he:U3 (f+1) i acc (l.getD (p+i) 0::l.drop (p+i+1))=if 128≤l.getD (p+i) 0 then U3 f (i+1) (acc+(l.getD (p+i) 0).toNat % 128 * 128 ^ i) (l.drop (p+i+1)) else if (l.getD (p+i) 0=0∧0<i)∨1000000000<acc+(l.getD (p+i) 0).toNat % 128 * 128 ^ i then none else some (acc+(l.getD (p+i) 0).toNat % 128 * 128 ^ i,i+1):=rfl
   rw [he]
   generalize l.getD (p+i) 0=x at hx ⊢
   obtain ⟨v,rfl⟩:∃ v:Nat,x=(v:Int):=⟨x.toNat,by omega⟩
   rw [Int.toNat_natCast]
   have hp1:=Mw i (by omega)
   have hmul:v % 128 * 128 ^ i≤127 * 34359738368:=Nat.mul_le_mul (by omega) hp1
   rw [w64 (n:=(v:Int)) (by omega) (by omega),Nra v (by omega)]
   have e1:((v % 128:Nat):Int) * ((128 ^ i:Nat):Int)=((v % 128 * 128 ^ i:Nat):Int):=by push_cast; rfl
   rw [e1,w64 (n:=((v % 128 * 128 ^ i:Nat):Int)) (by omega) (by omega),Ema acc (v % 128) i ha (by omega) hi5,w64 (n:=(i:Int)+1) (by omega) (by omega),w64 (n:=(p:Int)+(i:Int)+1) (by omega) (by omega)]
   refine Tot.ndec (sh7 i hi5).2 ?_
   refine Tot.dite (λ h128=>?_) (λ h128=>?_)
   ·rw [if_pos (by omega)]
    have h1:acc+v % 128 * 128 ^ i<128 ^ (i+1):=by
     have h2:v % 128≤127:=by omega
     have h3:=Nat.mul_le_mul_right (128 ^ i) h2
     rw [Nat.pow_succ]
     omega
    have:=ih (i+1) (acc+v % 128 * 128 ^ i) (by omega) h1
    rw [show p+(i+1)=p+i+1 by omega] at this
    exact this
   ·rw [if_neg (by omega)]
    have big:Tot (λ _:Nat=>cond (decide (((acc+v % 128 * 128 ^ i:Nat):Int) > 1000000000)) (some (Sum.inl ((0:Int),(0:Int),false))) (some (Sum.inl (((acc+v % 128 * 128 ^ i:Nat):Int),(p:Int)+(i:Int)+1,true))):Nat→Option (Sum (Int×Int×Bool) Unit))
      (λ r=>Th r=if 1000000000<acc+v % 128 * 128 ^ i then (0,0,false) else (((acc+v % 128 * 128 ^ i:Nat):Int),((p+(i+1):Nat):Int),true)):=by
     refine Tot.dite (λ hbig=>?_) (λ hbig=>?_)
     ·rw [if_pos (by omega)]; exact Tot.pure rfl
     ·rw [if_neg (by omega)]
      refine Tot.pure ?_
      show (_,_,_)=_
      rw [show (p:Int)+(i:Int)+1=((p+(i+1):Nat):Int) by omega]
    have goal:∀ c:Prop,[Decidable c]→(if c∨1000000000<acc+v % 128 * 128 ^ i then none else some (acc+v % 128 * 128 ^ i,i+1))=if c then none else if 1000000000<acc+v % 128 * 128 ^ i then (none:Option (Nat×Nat)) else some (acc+v % 128 * 128 ^ i,i+1):=by
     intro c _
     by_cases h1:c<;>by_cases h2:1000000000<acc+v % 128 * 128 ^ i<;>simp [h1,h2]
    rw [goal]
    have fin:(Rea p (if 1000000000<acc+v % 128 * 128 ^ i then (none:Option (Nat×Nat)) else some (acc+v % 128 * 128 ^ i,i+1)))=if 1000000000<acc+v % 128 * 128 ^ i then (0,0,false) else (((acc+v % 128 * 128 ^ i:Nat):Int),((p+(i+1):Nat):Int),true):=by
     split<;>rfl
    refine Tot.dite (λ hi0=>?_) (λ hi0=>?_)
    ·refine Tot.ite (λ h0=>?_) (λ h0=>?_)
     ·have hv:v=0:=by
       have:=beq_iff_eq.1 h0
       omega
      rw [if_pos ⟨by omega,by omega⟩]; exact Tot.pure rfl
     ·have hv:v≠0:=by
       intro e
       subst e
       simp at h0
      rw [if_neg (by omega),fin]; exact big
    ·rw [if_neg (by omega),fin]; exact big
  ·refine Tot.pure ?_
   rw [List.drop_of_length_le (by omega)]
   rfl
theorem R6 (l:List Int) (hb:B4 l) (hl:l.length≤1000000000000) (p:Int):Tot (λ k=>Bi k l p) (λ r=>r=Coa l p):=by
 unfold Bi Coa
 by_cases h0:p<0
 ·rw [if_pos h0]
  refine Tot.bind (Q:=λ r=>r = .inr ()) ?_ ?_
  ·refine Tot.succ ?_
   simp only [Ch]
   exact Tot.dec (by omega) (Tot.ndec (by omega) (Tot.pure rfl))
  ·rintro r rfl
   exact Tot.pure rfl
 ·rw [if_neg h0]
  by_cases h1:p<(l.length:Int)
  ·obtain ⟨n,rfl⟩:∃ n:Nat,p=(n:Int):=⟨p.toNat,by omega⟩
   rw [Int.toNat_natCast]
   refine Tot.bind (Fta l hb hl n (by omega) 5 0 0 rfl (by decide)) ?_
   intro r hr
   unfold Nf
   rw [Nat.add_zero] at hr
   have hr':Th r=(match (match U3 5 0 0 (l.drop n) with|some (m,c)=>some (m,n+c)|none=>none) with|some (m,q)=>((m:Int),(q:Int),true)|none=>((0:Int),(0:Int),false)):=by
    rw [hr]
    cases U3 5 0 0 (l.drop n) with
    |none=>rfl
    |some mc=>rfl
   refine Tot.mono (Q:=λ y=>y=Th r) ?_ (λ y hy=>hy.trans hr')
   cases r with
   |inl y=>exact Tot.pure rfl
   |inr z=>exact Tot.pure rfl
  ·have e:Nf l p.toNat=none:=by
    unfold Nf
    rw [List.drop_of_length_le (by omega)]
    rfl
   rw [e]
   refine Tot.bind (Q:=λ r=>r = .inr ()) ?_ ?_
   ·refine Tot.succ ?_
    simp only [Ch]
    exact Tot.dec (by omega) (Tot.dec (by omega) (Tot.ndec h1 (Tot.pure rfl)))
   ·rintro r rfl
    exact Tot.pure rfl
def Fo (n:Int):Nat:=(max 0 (min n 1000000000)).toNat
theorem Ti (n:Int):Fo n≤1000000000:=by unfold Fo; omega
theorem Ena (n:Nat) (h:n≤255):IntKind.wrap .u8 (n:Int)=(n:Int):=by
 rw [IntKind.wrap_u8]
 omega
theorem Fua:∀ (f n:Nat) (out:List Int),n<128 ^ (f+1)→f≤4→out.length+f≤1000000000010→
  Tot (λ k=>Fe k out (n:Int)) (λ r=>∃ m:Nat,r.2=(m:Int)∧m≤127∧r.1++[(m:Int)]=out++Xt f n∧r.1.length≤out.length+f):=by
 intro f
 induction f with
 |zero=>
  intro n out hn hf hl
  refine Tot.succ ?_
  simp only [Fe]
  have:n<128:=by simpa using hn
  exact Tot.ndec (by omega) (Tot.pure ⟨n,rfl,by omega,rfl,by simp⟩)
 |succ f ih=>
  intro n out hn hf hl
  have hp:=Mw (f+1+1 - 1) (by omega)
  refine Tot.succ ?_
  simp only [Fe]
  refine Tot.dite (λ h=>?_) (λ h=>?_)
  ·have hn2:n / 128<128 ^ (f+1):=by rw [Nat.pow_succ] at hn; omega
   have hn3:n<4398046511104:=by
    have:=Mw (f+1) (by omega)
    rw [Nat.pow_succ] at hn
    omega
   have e1:Int.tmod (n:Int) 128+128=((n % 128+128:Nat):Int):=by
    rw [Int.tmod_eq_emod_of_nonneg (by omega)]
    omega
   have e2:Int.tdiv (n:Int) 128=((n / 128:Nat):Int):=by
    rw [Int.tdiv_eq_ediv_of_nonneg (by omega)]
    omega
   rw [e1,e2,w64 (n:=((n % 128+128:Nat):Int)) (by omega) (by omega),w64 (n:=((n / 128:Nat):Int)) (by omega) (by omega),Ena _ (by omega)]
   refine Tot.ble (by simp only [List.length_cons,List.length_nil]; omega) ?_
   refine (ih (n / 128) (out++[((n % 128+128:Nat):Int)]) hn2 (by omega) (by simp only [List.length_append,List.length_cons,List.length_nil]; omega)).mono ?_
   rintro r ⟨m,h1,h2,h3,h4⟩
   refine ⟨m,h1,h2,?_,by simp only [List.length_append,List.length_cons,List.length_nil] at h4; omega⟩
   rw [h3,List.append_assoc]
   congr 1
   conv => { rhs; unfold Xt }
   rw [if_neg (by omega)]
   rfl
  ·refine Tot.pure ⟨n,rfl,by omega,?_,by show out.length≤out.length+(f+1); omega⟩
   unfold Xt
   rw [if_pos (by omega)]
theorem Tj (out:List Int) (n:Int) (hl:out.length≤1000000000000):Tot (λ k=>Cv k out n) (λ r=>r=out++B9a (Fo n)):=by
 unfold Cv
 have e:(if (0:Int)<(if (1000000000:Int)<n then 1000000000 else n) then (if (1000000000:Int)<n then 1000000000 else n) else 0)=((Fo n:Nat):Int):=by
  unfold Fo
  split<;>split<;>omega
 simp only
 rw [e]
 have hc:=Ti n
 refine Tot.bind (Fua 4 (Fo n) out (by omega) (by omega) (by omega)) ?_
 rintro r ⟨m,h1,h2,h3,h4⟩
 rw [h1,Ena m (by omega)]
 refine Tot.ble (by simp only [List.length_cons,List.length_nil]; omega) (Tot.pure h3)
theorem Fva:∀ (f n:Nat) (out:List Int),n<128 ^ (f+1)→f≤4→out.length+f≤1000000000010→
  Tot (λ k=>B6 k (n:Int) out) (λ r=>∃ m:Nat,r.1=(m:Int)∧m≤127∧r.2++[(m:Int)]=out++Xt f n∧r.2.length≤out.length+f):=by
 intro f
 induction f with
 |zero=>
  intro n out hn hf hl
  refine Tot.succ ?_
  simp only [B6]
  have:n<128:=by simpa using hn
  exact Tot.ndec (by omega) (Tot.pure ⟨n,rfl,by omega,rfl,by simp⟩)
 |succ f ih=>
  intro n out hn hf hl
  refine Tot.succ ?_
  simp only [B6]
  refine Tot.dite (λ h=>?_) (λ h=>?_)
  ·have hn2:n / 128<128 ^ (f+1):=by rw [Nat.pow_succ] at hn; omega
   have hn3:n<4398046511104:=by
    have:=Mw (f+1) (by omega)
    rw [Nat.pow_succ] at hn
    omega
   have e1:IntKind.wrap .i64 ((BitVec.ofInt (IntKind.bits .i64) ((n % 128:Nat):Int) ||| BitVec.ofInt (IntKind.bits .i64) 128).toNat)=((n % 128+128:Nat):Int):=by
    have:=Ema (n % 128) 1 1 (by omega) (by omega) (by omega)
    exact this
   have e2:Int.fdiv (n:Int) (2 ^ (min (Int.toNat 7) (IntKind.bits .i64)))=((n / 128:Nat):Int):=by
    have:(2:Int) ^ (min (Int.toNat 7) (IntKind.bits .i64))=128:=by decide
    rw [this,Int.fdiv_eq_ediv_of_nonneg _ (by omega)]
    omega
   rw [Nra n (by omega),e1,e2,Ena _ (by omega)]
   refine Tot.ble (by simp only [List.length_cons,List.length_nil]; omega) ?_
   refine (ih (n / 128) (out++[((n % 128+128:Nat):Int)]) hn2 (by omega) (by simp only [List.length_append,List.length_cons,List.length_nil]; omega)).mono ?_
   rintro r ⟨m,h1,h2,h3,h4⟩
   refine ⟨m,h1,h2,?_,by simp only [List.length_append,List.length_cons,List.length_nil] at h4; omega⟩
   rw [h3,List.append_assoc]
   congr 1
   conv => { rhs; unfold Xt }
   rw [if_neg (by omega)]
   rfl
  ·refine Tot.pure ⟨n,rfl,by omega,?_,by show out.length≤out.length+(f+1); omega⟩
   unfold Xt
   rw [if_pos (by omega)]
theorem Tk (out:List Int) (n:Int) (hl:out.length≤1000000000000):Tot (λ k=>Bj k out n) (λ r=>r=out++B9a (Fo n)):=by
 have hc:=Ti n
 have fin:Tot (λ k=>(B6 k ((Fo n:Nat):Int) (([]:List Int)++out)).bind λ r1=>cond (Nat.ble ((List.length r1.2+List.length [IntKind.wrap .u8 r1.1]) * 1) 140737488355328) (some (r1.2++[IntKind.wrap .u8 r1.1])) none) (λ r=>r=out++B9a (Fo n)):=by
  rw [List.nil_append]
  refine Tot.bind (Fva 4 (Fo n) out (by omega) (by omega) (by omega)) ?_
  rintro r ⟨m,h1,h2,h3,h4⟩
  rw [h1,Ena m (by omega)]
  exact Tot.ble (by simp only [List.length_cons,List.length_nil]; omega) (Tot.pure h3)
 unfold Bj
 refine Tot.ble (by simp only [List.length_nil]; omega) ?_
 refine Tot.dite (λ h1=>?_) (λ h1=>?_)
 ·refine Tot.ndec (by omega) ?_
  have e:((Fo n:Nat):Int)=1000000000:=by unfold Fo; omega
  rw [e] at fin
  exact fin
 ·refine Tot.dite (λ h2=>?_) (λ h2=>?_)
  ·have e:((Fo n:Nat):Int)=0:=by unfold Fo; omega
   rw [e] at fin
   exact fin
  ·have e:((Fo n:Nat):Int)=n:=by unfold Fo; omega
   rw [e] at fin
   exact fin
theorem Ky (n:Nat):(B9a n).length≤5∧0<(B9a n).length:=Jca 4 n
theorem V1:∀ (f n:Nat),n<128 ^ (f+1)→B4 (Xt f n)
 |0,n,hn=>by
  intro x hx
  simp only [Xt,List.mem_singleton] at hx
  have:n<128:=by simpa using hn
  omega
 |f+1,n,hn=>by
  unfold Xt
  split
  ·intro x hx
   simp only [List.mem_singleton] at hx
   omega
  ·intro x hx
   rcases List.mem_cons.1 hx with rfl|hx
   ·omega
   ·exact V1 f (n / 128) (by rw [Nat.pow_succ] at hn; omega) x hx
theorem Fwa (n:Nat) (hn:n≤1000000000):B4 (B9a n):=V1 4 n (by omega)
theorem Fxa (s:ByteArray):B4 (bytesOf s):=by
 intro x hx
 unfold bytesOf at hx
 obtain ⟨b,_,rfl⟩:=List.mem_map.1 hx
 have:=b.toNat_lt
 omega
theorem Cpa (s:ByteArray):(bytesOf s).length=s.size:=by
 unfold bytesOf
 rw [List.length_map]
 exact Array.length_toList
theorem Xk (s:ByteArray):Jt (bytesOf s)=s:=by
 unfold Jt bytesOf
 rw [List.map_map]
 have:(λ n:Int=>UInt8.ofNat n.toNat) ∘ (λ b:UInt8=>(b.toNat:Int))=id:=by
  funext b
  show UInt8.ofNat ((b.toNat:Int)).toNat=b
  rw [Int.toNat_natCast]
  exact UInt8.ofNat_toNat
 rw [this,List.map_id]
theorem Ng {l:List Int} (h:B4 l):bytesOf (Jt l)=l:=by
 unfold Jt bytesOf
 show List.map _ (List.map _ l)=l
 rw [List.map_map]
 have:∀ x∈l,((λ b:UInt8=>(b.toNat:Int)) ∘ (λ n:Int=>UInt8.ofNat n.toNat)) x=x:=by
  intro x hx
  have hb:=h x hx
  show ((UInt8.ofNat x.toNat).toNat:Int)=x
  rw [UInt8.toNat_ofNat']
  omega
 exact (List.map_congr_left this).trans (List.map_id' l)
theorem Mx (l:List Int):(Jt l).size=l.length:=by
 unfold Jt
 show (List.map _ l).toArray.size=l.length
 simp
def txt (s:ByteArray):List Int:=B9a (Fo (s.size:Int))++bytesOf s
theorem Mca (out:List Int) (s:ByteArray) (hl:out.length≤1000000000000) (hs:s.size≤1000000000000):Tot (λ k=>H6 k out s) (λ r=>r=out++txt s):=by
 unfold H6 txt
 refine Tot.bind (Tj out _ hl) ?_
 rintro r rfl
 have:=(Ky (Fo (s.size:Int))).1
 refine Tot.ble (by simp only [List.length_append]; omega) (Tot.pure ?_)
 rw [List.append_assoc]
theorem Mda (out:List Int) (s:ByteArray) (hl:out.length≤1000000000000) (hs:s.size≤1000000000000):Tot (λ k=>H1 k out s) (λ r=>r=out++txt s):=by
 unfold H1 txt
 refine Tot.bind (Tk out _ hl) ?_
 rintro r rfl
 have:=(Ky (Fo (s.size:Int))).1
 refine Tot.ble (by simp only [List.length_append]; omega) (Tot.pure ?_)
 rw [List.append_assoc]
def Gna (l:List Int) (p:Nat):Option (ByteArray×Nat):=match Nf l p with
 |some (n,q)=>if q+n≤l.length then some (Jt ((l.drop q).take n),q+n) else none
 |none=>none
def Pva (l:List Int) (p:Int):ByteArray×Int×Bool:=if p<0 then ((⟨#[]⟩:ByteArray),0,false) else match Gna l p.toNat with
 |some (s,q)=>(s,(q:Int),true)
 |none=>((⟨#[]⟩:ByteArray),0,false)
theorem V2 (l:List Int) (hb:B4 l) (p:Int):Coa l p=(0,0,false)∨∃ n q,0≤p∧Nf l p.toNat=some (n,q)∧Coa l p=((n:Int),(q:Int),true)∧n≤1000000000∧q≤l.length:=by
 unfold Coa
 by_cases h:p<0
 ·rw [if_pos h]; exact .inl rfl
 ·rw [if_neg h]
  cases hg:Nf l p.toNat with
  |none=>exact .inl rfl
  |some nq=>
   obtain ⟨n,q⟩:=nq
   have:=Pi hb hg
   exact .inr ⟨n,q,by omega,rfl,rfl,this.2.1,this.2.2.2⟩
theorem Eoa (l:List Int) (hb:B4 l) (hl:l.length≤1000000000000) (p:Int) (hp:p≤1000000000000):Tot (λ k=>H5 k l p) (λ r=>r=Pva l p):=by
 unfold H5
 refine Tot.bind (Jea l hb hl p hp) ?_
 rintro r rfl
 unfold Pva Gna
 rcases V2 l hb p with h|⟨n,q,h0,hg,h,hn,hq⟩
 ·rw [h]
  refine Tot.yes rfl (Tot.pure ?_)
  unfold Coa at h
  split
  ·rfl
  ·rename_i h0
   rw [if_neg h0] at h
   cases hg:Nf l p.toNat with
   |none=>rfl
   |some nq=>rw [hg] at h; simp at h
 ·rw [h]
  refine Tot.no rfl ?_
  rw [if_neg (by omega),hg]
  simp only
  rw [w64 (n:=(l.length:Int) - (q:Int)) (by omega) (by omega),w64 (n:=(q:Int)+(n:Int)) (by omega) (by omega)]
  refine Tot.dite (λ hgt=>?_) (λ hgt=>?_)
  ·rw [if_neg (by omega)]
   exact Tot.pure rfl
  ·rw [if_pos (by omega)]
   refine Tot.dec (by omega) (Tot.dec (by omega) (Tot.dec (by omega) (Tot.pure ?_)))
   rw [show Int.toNat ((q:Int)+(n:Int))=q+n by omega,Int.toNat_natCast,List.drop_take,show q+n - q=n by omega]
   simp only [Prod.mk.injEq,true_and,and_true]
   push_cast
   rfl
theorem Xl (l:List Int) (hb:B4 l) (hl:l.length≤1000000000000) (p:Int):Tot (λ k=>H0 k l p) (λ r=>r=Pva l p):=by
 unfold H0
 refine Tot.bind (R6 l hb hl p) ?_
 rintro r rfl
 unfold Pva Gna
 rcases V2 l hb p with h|⟨n,q,h0,hg,h,hn,hq⟩
 ·rw [h]
  refine Tot.yes rfl (Tot.pure ?_)
  unfold Coa at h
  split
  ·rfl
  ·rename_i h0
   rw [if_neg h0] at h
   cases hg:Nf l p.toNat with
   |none=>rfl
   |some nq=>rw [hg] at h; simp at h
 ·rw [h]
  refine Tot.no rfl ?_
  rw [if_neg (by omega),hg]
  simp only
  rw [w64 (n:=(l.length:Int) - (q:Int)) (by omega) (by omega),w64 (n:=(q:Int)+(n:Int)) (by omega) (by omega)]
  refine Tot.dite (λ hgt=>?_) (λ hgt=>?_)
  ·rw [if_neg (by omega)]
   exact Tot.pure rfl
  ·rw [if_pos (by omega)]
   refine Tot.dec (by omega) (Tot.dec (by omega) (Tot.dec (by omega) (Tot.pure ?_)))
   rw [show Int.toNat ((q:Int)+(n:Int))=q+n by omega,Int.toNat_natCast,List.drop_take,show q+n - q=n by omega]
   simp only [Prod.mk.injEq,true_and,and_true]
   push_cast
   rfl
theorem Cqa {l:List Int} {p q:Nat} {s:ByteArray} (hb:B4 l) (h:Gna l p=some (s,q)):l.drop p=txt s++l.drop q∧s.size≤1000000000∧p<q∧q≤l.length:=by
 unfold Gna at h
 split at h
 ·rename_i n q0 hg
  obtain ⟨h1,h2,h3,h4⟩:=Pi hb hg
  split at h
  ·rename_i hle
   simp only [Option.some.injEq,Prod.mk.injEq] at h
   obtain ⟨rfl,rfl⟩:=h
   have hlen:((l.drop q0).take n).length=n:=by rw [List.length_take,List.length_drop]; omega
   have hbb:B4 ((l.drop q0).take n):=λ x hx=>hb x (List.mem_of_mem_drop (List.mem_of_mem_take hx))
   refine ⟨?_,by rw [Mx,hlen]; exact h2,by omega,by omega⟩
   unfold txt
   rw [Mx,hlen,Ng hbb,h1,show Fo (n:Int)=n by unfold Fo; omega,List.append_assoc]
   congr 1
   rw [← List.drop_drop,List.take_append_drop]
  ·cases h
 ·cases h

def Jfa (b:Bool):Int:=bif b then 1 else 0
theorem P7a (b:Bool):Ll b=some (Jfa b):=by cases b<;>rfl
theorem Mea (b:Bool):Ir b=some (Jfa b):=by cases b<;>rfl
def Kpa (s:Stp):List Int:=B9a (Fo s.1)++(B9a (Fo s.2.1)++B9a (Fo s.2.2))
theorem Epa (s:Stp):(Kpa s).length≤15:=by
 unfold Kpa
 have h1:=(Ky (Fo s.1)).1
 have h2:=(Ky (Fo s.2.1)).1
 have h3:=(Ky (Fo s.2.2)).1
 simp only [List.length_append]
 omega
theorem Fya (out:List Int) (s:Stp) (b:Bool) (hl:out.length≤999999999900):Tot (λ k=>Ga k out s b) (λ r=>r=out++(Kpa s++B9a (Fo (Jfa b)))):=by
 have h1:=(Ky (Fo s.1)).1
 have h2:=(Ky (Fo s.2.1)).1
 have h3:=(Ky (Fo s.2.2)).1
 unfold Ga Kpa
 refine Tot.bind (Tj out s.1 (by omega)) ?_
 rintro r rfl
 refine Tot.bind (Tj _ s.2.1 (by simp only [List.length_append]; omega)) ?_
 rintro r rfl
 refine Tot.bind (Tj _ s.2.2 (by simp only [List.length_append]; omega)) ?_
 rintro r rfl
 refine Tot.bind (Tot.of (Q:=λ y=>y=Jfa b) (P7a b) rfl) ?_
 rintro y rfl
 refine Tot.bind (Tj _ (Jfa b) (by simp only [List.length_append]; omega)) ?_
 rintro r rfl
 exact Tot.pure (by simp only [List.append_assoc])
theorem Fza (out:List Int) (s:Stp) (hl:out.length≤999999999900):Tot (λ k=>H2 k out s) (λ r=>r=out++Kpa s):=by
 have h1:=(Ky (Fo s.1)).1
 have h2:=(Ky (Fo s.2.1)).1
 unfold H2 Kpa
 refine Tot.bind (Tk out s.1 (by omega)) ?_
 rintro r rfl
 refine Tot.bind (Tk _ s.2.1 (by simp only [List.length_append]; omega)) ?_
 rintro r rfl
 refine Tot.bind (Tk _ s.2.2 (by simp only [List.length_append]; omega)) ?_
 rintro r rfl
 exact Tot.pure (by simp only [List.append_assoc])
theorem P8a (s:ByteArray):(txt s).length≤5+s.size:=by
 have h1:=(Ky (Fo (s.size:Int))).1
 unfold txt
 simp only [List.length_append,Cpa]
 omega

theorem S9 (l:List Int) (p:Nat):Coa l (p:Int)=match Nf l p with
 |some (n,q)=>((n:Int),(q:Int),true)
 |none=>(0,0,false):=by
 unfold Coa
 rw [if_neg (by omega),Int.toNat_natCast]
 all_goals cases Nf l p<;>rfl
theorem Eqa (l:List Int) (p:Nat):Pva l (p:Int)=match Gna l p with
 |some (s,q)=>(s,(q:Int),true)
 |none=>((⟨#[]⟩:ByteArray),0,false):=by
 unfold Pva
 rw [if_neg (by omega),Int.toNat_natCast]
 all_goals cases Gna l p<;>rfl
theorem Ua (l:List Int) (hb:B4 l) (hl:l.length≤1000000000000) (p:Nat) (hp:p≤l.length) (bad:Bool):
  Tot (λ k=>B2 k (l,(p:Int),bad)) (λ r=>(bad=false∧∃ n q:Nat,Nf l p=some (n,q)∧q≤l.length∧r=((n:Int),l,(q:Int),false))∨((bad=true∨Nf l p=none)∧r=(0,l,(p:Int),true))):=by
 unfold B2
 refine Tot.bind (Jea l hb hl (p:Int) (by omega)) ?_
 rintro r rfl
 refine Tot.ite (λ h=>Tot.pure (.inr ⟨.inl h,rfl⟩)) (λ h=>?_)
 rw [S9]
 cases hg:Nf l p with
 |none=>exact Tot.yes rfl (Tot.pure (.inr ⟨.inr rfl,rfl⟩))
 |some nq=>
  obtain ⟨n,q⟩:=nq
  simp only at h
  subst h
  exact Tot.no rfl (Tot.pure (.inl ⟨rfl,n,q,rfl,(Pi hb hg).2.2.2,rfl⟩))
theorem Rsa (l:List Int) (hb:B4 l) (hl:l.length≤1000000000000) (p:Nat) (hp:p≤l.length):
  Tot (λ k=>Av k (l,(p:Int),false)) (λ r=>(∃ (s:ByteArray) (q:Nat),Gna l p=some (s,q)∧q≤l.length∧r=(s,l,(q:Int),false))∨(Gna l p=none∧r=((⟨#[]⟩:ByteArray),l,(p:Int),true))):=by
 unfold Av
 refine Tot.bind (Eoa l hb hl (p:Int) (by omega)) ?_
 rintro r rfl
 refine Tot.no rfl ?_
 rw [Eqa]
 cases hg:Gna l p with
 |none=>exact Tot.yes rfl (Tot.pure (.inr ⟨rfl,rfl⟩))
 |some nq=>
  obtain ⟨n,q⟩:=nq
  exact Tot.no rfl (Tot.pure (.inl ⟨n,q,rfl,(Cqa hb hg).2.2.2,rfl⟩))
def Ow (l:List Int) (p:Nat):Option ((Stp×Bool)×Nat):=
 (Nf l p).bind λ b=>(Nf l b.2).bind λ c=>(Nf l c.2).bind λ d=>(Nf l d.2).bind λ e=>bif decide (1<e.1) then none else
  some ((((b.1:Int),(c.1:Int),(d.1:Int)),(e.1:Int)==1),e.2)
theorem Rta (l:List Int) (hb:B4 l) (hl:l.length≤1000000000000) (p:Nat) (hp:p≤l.length) (bad:Bool):
  Tot (λ k=>Bn k (l,(p:Int),bad)) (λ r=>(bad=false∧∃ (x:Stp×Bool) (q:Nat),Ow l p=some (x,q)∧q≤l.length∧r=(x.1,x.2,l,(q:Int),false))∨((bad=true∨Ow l p=none)∧∃ s b,∃ q:Nat,q≤l.length∧r=(s,b,l,(q:Int),true))):=by
 unfold Bn
 have nx:∀ {o:Option (Nat×Nat)} {f:Nat×Nat→Option ((Stp×Bool)×Nat)},o=none→o.bind f=none:=by
  intro o f h; rw [h]; rfl
 refine Tot.bind (Ua l hb hl p hp bad) ?_
 rintro r (⟨h0,n1,p1,h1,l1,rfl⟩|⟨h1,rfl⟩)
 ·simp only
  refine Tot.bind (Ua l hb hl p1 l1 false) ?_
  rintro r (⟨_,n2,p2,h2,l2,rfl⟩|⟨h2,rfl⟩)
  ·simp only
   refine Tot.bind (Ua l hb hl p2 l2 false) ?_
   rintro r (⟨_,n3,p3,h3,l3,rfl⟩|⟨h3,rfl⟩)
   ·simp only
    refine Tot.bind (Ua l hb hl p3 l3 false) ?_
    rintro r (⟨_,n4,p4,h4,l4,rfl⟩|⟨h4,rfl⟩)
    ·simp only
     refine Tot.no rfl (Tot.pure ?_)
     have e:Ow l p=bif decide (1<n4) then none else some ((((n1:Int),(n2:Int),(n3:Int)),(n4:Int)==1),p4):=by
      unfold Ow
      simp only [h1,h2,h3,h4,Option.bind_some]
     cases hd:decide (1<n4) with
     |true=>
      rw [hd,cond_true] at e
      refine .inr ⟨.inr e,((n1:Int),(n2:Int),(n3:Int)),((n4:Int)==1),p4,l4,?_⟩
      have:decide ((n4:Int) > 1)=true:=decide_eq_true (by have:=of_decide_eq_true hd; omega)
      rw [this]
     |false=>
      rw [hd,cond_false] at e
      refine .inl ⟨h0,_,p4,e,l4,?_⟩
      have:decide ((n4:Int) > 1)=false:=decide_eq_false (by have:=of_decide_eq_false hd; omega)
      rw [this]
    ·refine Tot.yes rfl (Tot.pure (.inr ⟨.inr ?_,_,_,p3,l3,rfl⟩))
     have h4':=h4.resolve_left (by simp)
     unfold Ow
     simp only [h1,h2,h3,h4',Option.bind_some,Option.bind_none]
   ·simp only
    refine Tot.bind (Ua l hb hl p2 l2 true) ?_
    rintro r (⟨hh,_⟩|⟨_,rfl⟩)
    ·cases hh
    ·refine Tot.yes rfl (Tot.pure (.inr ⟨.inr ?_,_,_,p2,l2,rfl⟩))
     have h3':=h3.resolve_left (by simp)
     unfold Ow
     simp only [h1,h2,h3',Option.bind_some,Option.bind_none]
  ·simp only
   refine Tot.bind (Ua l hb hl p1 l1 true) ?_
   rintro r (⟨hh,_⟩|⟨_,rfl⟩)
   ·cases hh
   ·refine Tot.bind (Ua l hb hl p1 l1 true) ?_
    rintro r (⟨hh,_⟩|⟨_,rfl⟩)
    ·cases hh
    ·refine Tot.yes rfl (Tot.pure (.inr ⟨.inr ?_,_,_,p1,l1,rfl⟩))
     have h2':=h2.resolve_left (by simp)
     unfold Ow
     simp only [h1,h2',Option.bind_some,Option.bind_none]
 ·simp only
  refine Tot.bind (Ua l hb hl p hp true) ?_
  rintro r (⟨hh,_⟩|⟨_,rfl⟩)
  ·cases hh
  ·refine Tot.bind (Ua l hb hl p hp true) ?_
   rintro r (⟨hh,_⟩|⟨_,rfl⟩)
   ·cases hh
   ·refine Tot.bind (Ua l hb hl p hp true) ?_
    rintro r (⟨hh,_⟩|⟨_,rfl⟩)
    ·cases hh
    ·refine Tot.yes rfl (Tot.pure (.inr ⟨?_,_,_,p,hp,rfl⟩))
     rcases h1 with h1|h1
     ·exact .inl h1
     ·refine .inr ?_
      unfold Ow
      rw [h1]
      rfl
theorem P9a (l:List Int) (hb:B4 l) (hl:l.length≤1000000000000) (p:Int):
  Tot (λ k=>Db k l p) (λ r=>(∃ n1 p1 n2 p2 n3 p3,0≤p∧Nf l p.toNat=some (n1,p1)∧Nf l p1=some (n2,p2)∧Nf l p2=some (n3,p3)∧r=(((n1:Int),(n2:Int),(n3:Int)),(p3:Int),true))∨(((Nf l p.toNat).bind λ a=>(Nf l a.2).bind λ b=>Nf l b.2)=none∨p<0)∧r.2.2=false):=by
 unfold Db
 refine Tot.bind (R6 l hb hl p) ?_
 rintro r1 rfl
 refine Tot.bind (R6 l hb hl _) ?_
 rintro r2 rfl
 refine Tot.bind (R6 l hb hl _) ?_
 rintro r3 rfl
 by_cases hp:p<0
 ·have:(Coa l p).2.2=false:=by unfold Coa; rw [if_pos hp]
  exact Tot.no this (Tot.pure (.inr ⟨.inr hp,rfl⟩))
 ·have e1:Coa l p=match Nf l p.toNat with|some (n,q)=>((n:Int),(q:Int),true)|none=>(0,0,false):=by
   unfold Coa; rw [if_neg hp]; all_goals cases Nf l p.toNat<;>rfl
  cases h1:Nf l p.toNat with
  |none=>
   rw [h1] at e1
   simp only [e1]
   exact Tot.no rfl (Tot.pure (.inr ⟨.inl rfl,rfl⟩))
  |some a=>
   obtain ⟨n1,p1⟩:=a
   rw [h1] at e1
   simp only [e1,S9,Option.bind_some]
   refine Tot.yes rfl ?_
   cases h2:Nf l p1 with
   |none=>exact Tot.no rfl (Tot.pure (.inr ⟨.inl rfl,rfl⟩))
   |some b=>
    obtain ⟨n2,p2⟩:=b
    refine Tot.yes rfl ?_
    simp only [S9,Option.bind_some]
    cases h3:Nf l p2 with
    |none=>exact Tot.pure (.inr ⟨.inl rfl,rfl⟩)
    |some c=>
     obtain ⟨n3,p3⟩:=c
     exact Tot.pure (.inl ⟨n1,p1,n2,p2,n3,p3,by omega,rfl,h2,h3,rfl⟩)
theorem Jga {l:List Int} {p:Nat} (h:((Nf l p).bind λ a=>(Nf l a.2).bind λ b=>Nf l b.2)=none):Ow l p=none:=by
 unfold Ow
 cases h1:Nf l p with
 |none=>rfl
 |some a=>
  rw [h1] at h
  simp only [Option.bind_some] at h ⊢
  cases h2:Nf l a.2 with
  |none=>rfl
  |some b=>
   rw [h2] at h
   simp only [Option.bind_some] at h ⊢
   rw [h]
   rfl

section
open Go
end

abbrev Nmd:=ByteArray×List Int
abbrev Dsk:=List Nmd×List Nmd
def La:Nmd:=((⟨#[]⟩:ByteArray),[])
def R1a (l:List Nmd):Prop:=l.length≤1000000000000∧∀ x∈l,x.2.length≤1000000000000
def Rua (d:Dsk):Prop:=R1a d.1∧R1a d.2
def fnd (l:List Nmd) (s:ByteArray):Option Nat:=l.findIdx? (λ x=>teq x.1 s)
def Nsa (l:List Nmd) (s:ByteArray):Int:=match fnd l s with
 |some i=>(i:Int)
 |none => -1
theorem Jha (l:List Nmd) (s:ByteArray) (hf:l.length≤1000000000000):∀ (n i:Nat),l.length - i=n→i≤l.length→
  Tot (λ k=>J4 k s l (l.length:Int) (i:Int)) (λ r=>r=match fnd (l.drop i) s with|some j => .inl ((i+j:Nat):Int)|none => .inr ()):=by
 intro n
 induction n with
 |zero=>
  intro i hd hi
  refine Tot.succ ?_
  simp only [J4]
  refine Tot.ndec (by omega) (Tot.pure ?_)
  rw [List.drop_of_length_le (by omega)]
  rfl
 |succ n ih=>
  intro i hd hi
  have hlt:i<l.length:=by omega
  refine Tot.succ ?_
  simp only [J4]
  refine Tot.dec (by omega) (Tot.dec (by omega) (Tot.dec (by omega) ?_))
  rw [show Int.toNat (i:Int)=i from Int.toNat_natCast i,w64 (n:=(i:Int)+1) (by omega) (by omega),Fm (d:=La) hlt]
  have e0:l.getD i ((⟨#[]⟩:ByteArray),([]:List Int))=l.getD i La:=rfl
  rw [e0]
  have e1:fnd (l.getD i La::l.drop (i+1)) s=if teq (l.getD i La).1 s then some 0 else (fnd (l.drop (i+1)) s).map (· + 1):=by
   unfold fnd
   rw [List.findIdx?_cons]
  rw [e1]
  refine Tot.ite (λ h=>?_) (λ h=>?_)
  ·have h':teq (l.getD i La).1 s=true:=h
   rw [if_pos h']
   exact Tot.pure rfl
  ·have h':¬ (teq (l.getD i La).1 s=true):=by
    have:teq (l.getD i La).1 s=false:=h
    rw [this]; simp
   rw [if_neg h']
   refine (ih (i+1) (by omega) (by omega)).mono ?_
   rintro r rfl
   cases fnd (l.drop (i+1)) s with
   |none=>rfl
   |some j=>
    show Sum.inl _=Sum.inl _
    rw [show i+1+j=i+(j+1) by omega]
theorem R2a (l:List Nmd) (s:ByteArray) (hf:l.length≤1000000000000):Tot (λ k=>L5 k l s) (λ r=>r=Nsa l s):=by
 unfold L5 Nsa
 refine Tot.bind (Jha l s hf _ 0 rfl (Nat.zero_le _)) ?_
 rintro r rfl
 rw [List.drop_zero]
 cases fnd l s with
 |none=>exact Tot.pure rfl
 |some j=>
  refine Tot.pure ?_
  rw [Nat.zero_add]

def nOk (x:Nmd):Bool:=Mv x.1 && !(decide ((x.2.length:Int) > 400))
def chn:Option ByteArray→List Nmd→Bool
 |_,[]=>true
 |none,r::l=>nOk r&&chn (some r.1) l
 |some q,r::l=>nOk r&&(tlt q r.1&&chn (some r.1) l)
def Md (l:List Nmd):Bool:=chn none l&&decide ((l.length:Int)≤60)
def P4 (d:Dsk):Bool:=Md d.1&&Md d.2
def Tl (l:List Nmd):Prop:=∀ x∈l,Rn x.1
def Jia (d:Dsk):Prop:=Tl d.1∧Tl d.2
def Rp (l:List Nmd):Nat→Option ByteArray
 |0=>none
 |i+1=>some (l.getD i La).1
theorem Era (l:List Nmd) (i:Nat) (h:i<l.length):chn (Rp l i) (l.drop i)=(nOk (l.getD i La)&&(bif decide (0<i) then tlt (l.getD (i - 1) La).1 (l.getD i La).1 else true)&&chn (Rp l (i+1)) (l.drop (i+1))):=by
 rw [Fm (d:=La) h]
 cases i with
 |zero=>simp [Rp,chn]
 |succ i=>simp [Rp,chn,Bool.and_assoc]
theorem Aha (l:List Nmd) (hf:l.length≤1000000000000) (hs:Tl l):∀ (n i:Nat),l.length - i=n→i≤l.length→
  Tot (λ k=>C8 k l l (l.length:Int) (i:Int)) (λ r=>r=bif chn (Rp l i) (l.drop i) then .inr l else .inl false):=by
 intro n
 induction n with
 |zero=>
  intro i hn hi
  refine Tot.succ ?_
  simp only [C8]
  refine Tot.ndec (by omega) (Tot.pure ?_)
  rw [List.drop_of_length_le (by omega)]
  cases Rp l i<;>rfl
 |succ n ih=>
  intro i hn hi
  have hlt:i<l.length:=by omega
  refine Tot.succ ?_
  simp only [C8]
  refine Tot.dec (by omega) (Tot.dec (by omega) (Tot.dec (by omega) ?_))
  rw [show Int.toNat (i:Int)=i from Int.toNat_natCast i,w64 (n:=(i:Int)+1) (by omega) (by omega),Era l i hlt]
  have h1:=ih (i+1) (by omega) (by omega)
  have e:(((i+1:Nat)):Int)=(i:Int)+1:=by omega
  rw [e] at h1
  have e0:l.getD i ((⟨#[]⟩:ByteArray),([]:List Int))=l.getD i La:=rfl
  rw [e0]
  refine Tot.bind (S7 (l.getD i La).1 (hs _ (A7 hlt))) ?_
  rintro b rfl
  cases hb:Mv (l.getD i La).1 with
  |false=>exact Tot.yes rfl (Tot.pure (by rw [show nOk (l.getD i La)=false by unfold nOk; rw [hb]; rfl]; rfl))
  |true=>
   refine Tot.no rfl ?_
   refine Tot.dite (λ h4=>Tot.pure (by rw [show nOk (l.getD i La)=false by unfold nOk; rw [decide_eq_true h4,hb]; rfl]; rfl)) (λ h4=>?_)
   have hnk:nOk (l.getD i La)=true:=by unfold nOk; rw [hb,decide_eq_false h4]; rfl
   rw [hnk,Bool.true_and]
   refine Tot.dite (λ h0=>?_) (λ h0=>?_)
   ·rw [w64 (n:=(i:Int) - 1) (by omega) (by omega)]
    refine Tot.dec (by omega) (Tot.dec (by omega) ?_)
    rw [show Int.toNat ((i:Int) - 1)=i - 1 by omega,decide_eq_true (show 0<i by omega),cond_true]
    refine Tot.ite (λ ht=>?_) (λ ht=>?_)
    ·have ht':(!(tlt (l.getD (i - 1) La).1 (l.getD i La).1))=true:=ht
     rw [Bool.not_eq_true'] at ht'
     exact Tot.pure (by rw [ht']; rfl)
    ·have ht':(!(tlt (l.getD (i - 1) La).1 (l.getD i La).1))=false:=ht
     rw [Bool.not_eq_false'] at ht'
     rw [ht',Bool.true_and]
     exact h1
   ·rw [decide_eq_false (show ¬ 0<i by omega),cond_false,Bool.true_and]
    exact h1
theorem Aia (l:List Nmd) (hf:l.length≤1000000000000) (hs:Tl l):∀ (n i:Nat),l.length - i=n→i≤l.length→
  Tot (λ k=>Dv k l (i:Int)) (λ r=>r=bif chn (Rp l i) (l.drop i) then .inr l else .inl false):=by
 intro n
 induction n with
 |zero=>
  intro i hn hi
  refine Tot.succ ?_
  simp only [Dv]
  refine Tot.ndec (by omega) (Tot.pure ?_)
  rw [List.drop_of_length_le (by omega)]
  cases Rp l i<;>rfl
 |succ n ih=>
  intro i hn hi
  have hlt:i<l.length:=by omega
  refine Tot.succ ?_
  simp only [Dv]
  refine Tot.dec (by omega) (Tot.dec (by omega) (Tot.dec (by omega) ?_))
  rw [show Int.toNat (i:Int)=i from Int.toNat_natCast i,w64 (n:=(i:Int)+1) (by omega) (by omega),Era l i hlt]
  have h1:=ih (i+1) (by omega) (by omega)
  have e:(((i+1:Nat)):Int)=(i:Int)+1:=by omega
  rw [e] at h1
  have e0:l.getD i ((⟨#[]⟩:ByteArray),([]:List Int))=l.getD i La:=rfl
  rw [e0]
  refine Tot.bind (S8 (l.getD i La).1 (hs _ (A7 hlt))) ?_
  rintro b rfl
  cases hb:Mv (l.getD i La).1 with
  |false=>exact Tot.yes rfl (Tot.pure (by rw [show nOk (l.getD i La)=false by unfold nOk; rw [hb]; rfl]; rfl))
  |true=>
   refine Tot.no rfl (Tot.dec (by omega) (Tot.dec (by omega) ?_))
   refine Tot.dite (λ h4=>Tot.pure (by rw [show nOk (l.getD i La)=false by unfold nOk; rw [decide_eq_true h4,hb]; rfl]; rfl)) (λ h4=>?_)
   have hnk:nOk (l.getD i La)=true:=by unfold nOk; rw [hb,decide_eq_false h4]; rfl
   rw [hnk,Bool.true_and]
   refine Tot.dite (λ h0=>?_) (λ h0=>?_)
   ·rw [w64 (n:=(i:Int) - 1) (by omega) (by omega)]
    refine Tot.dec (by omega) (Tot.dec (by omega) (Tot.dec (by omega) (Tot.dec (by omega) ?_)))
    rw [show Int.toNat ((i:Int) - 1)=i - 1 by omega,decide_eq_true (show 0<i by omega),cond_true]
    refine Tot.ite (λ ht=>?_) (λ ht=>?_)
    ·have ht':(!(tlt (l.getD (i - 1) La).1 (l.getD i La).1))=true:=ht
     rw [Bool.not_eq_true'] at ht'
     exact Tot.pure (by rw [ht']; rfl)
    ·have ht':(!(tlt (l.getD (i - 1) La).1 (l.getD i La).1))=false:=ht
     rw [Bool.not_eq_false'] at ht'
     rw [ht',Bool.true_and]
     exact h1
   ·rw [decide_eq_false (show ¬ 0<i by omega),cond_false,Bool.true_and]
    exact h1
theorem Aja (l:List Nmd) (hf:l.length≤1000000000000) (hs:Tl l):Tot (λ k=>Bz k l) (λ r=>r=Md l):=by
 unfold Bz Md
 refine Tot.bind (Aha l hf hs _ 0 rfl (Nat.zero_le _)) ?_
 rintro r rfl
 rw [List.drop_zero]
 show Tot _ (λ r=>r=(chn none l&&_))
 cases hc:chn none l with
 |true=>rw [show chn (Rp l 0) l=true from hc]; exact Tot.pure (by rw [Bool.true_and])
 |false=>rw [show chn (Rp l 0) l=false from hc]; exact Tot.pure rfl
theorem Aka (l:List Nmd) (hf:l.length≤1000000000000) (hs:Tl l):Tot (λ k=>D8 k l) (λ r=>r=Md l):=by
 unfold D8 Md
 refine Tot.bind (Aia l hf hs _ 0 rfl (Nat.zero_le _)) ?_
 rintro r rfl
 rw [List.drop_zero]
 show Tot _ (λ r=>r=(chn none l&&_))
 cases hc:chn none l with
 |true=>rw [show chn (Rp l 0) l=true from hc]; exact Tot.pure (by rw [Bool.true_and])
 |false=>rw [show chn (Rp l 0) l=false from hc]; exact Tot.pure rfl
theorem Mfa (d:Dsk) (hf:Rua d) (hs:Jia d):Tot (λ k=>I1 k d) (λ r=>r=P4 d):=by
 unfold I1 P4
 refine Tot.bind (Aja d.1 hf.1.1 hs.1) ?_
 rintro r rfl
 cases h:Md d.1 with
 |false=>exact Tot.no rfl (Tot.pure rfl)
 |true=>
  refine Tot.yes rfl (Tot.bind (Aja d.2 hf.2.1 hs.2) ?_)
  rintro r rfl
  exact Tot.pure (by rw [Bool.true_and])
def plc (l:List Nmd) (s:ByteArray):Nat:=(l.takeWhile (λ y=>tlt y.1 s)).length
def ins (l:List Nmd) (x:Nmd):List Nmd:=l.take (plc l x.1)++[x]++l.drop (plc l x.1)

theorem Jja (l:List Nmd) (s:ByteArray) (hf:l.length≤1000000000000):∀ (n i:Nat),l.length - i=n→i≤l.length→
  Tot (λ k=>H4 k l s (i:Int)) (λ r=>r=match fnd (l.drop i) s with|some j => .inl ((i+j:Nat):Int)|none => .inr ()):=by
 intro n
 induction n with
 |zero=>
  intro i hd hi
  refine Tot.succ ?_
  simp only [H4]
  refine Tot.ndec (by omega) (Tot.pure ?_)
  rw [List.drop_of_length_le (by omega)]
  rfl
 |succ n ih=>
  intro i hd hi
  have hlt:i<l.length:=by omega
  refine Tot.succ ?_
  simp only [H4]
  refine Tot.dec (by omega) (Tot.dec (by omega) (Tot.dec (by omega) ?_))
  rw [show Int.toNat (i:Int)=i from Int.toNat_natCast i,w64 (n:=(i:Int)+1) (by omega) (by omega),Fm (d:=La) hlt]
  have e0:l.getD i ((⟨#[]⟩:ByteArray),([]:List Int))=l.getD i La:=rfl
  rw [e0]
  have e1:fnd (l.getD i La::l.drop (i+1)) s=if teq (l.getD i La).1 s then some 0 else (fnd (l.drop (i+1)) s).map (· + 1):=by
   unfold fnd
   rw [List.findIdx?_cons]
  rw [e1]
  refine Tot.ite (λ h=>?_) (λ h=>?_)
  ·have h':teq (l.getD i La).1 s=true:=h
   rw [if_pos h']
   exact Tot.pure rfl
  ·have h':¬ (teq (l.getD i La).1 s=true):=by
    have:teq (l.getD i La).1 s=false:=h
    rw [this]; simp
   rw [if_neg h']
   refine (ih (i+1) (by omega) (by omega)).mono ?_
   rintro r rfl
   cases fnd (l.drop (i+1)) s with
   |none=>rfl
   |some j=>
    show Sum.inl _=Sum.inl _
    rw [show i+1+j=i+(j+1) by omega]
theorem R3a (l:List Nmd) (s:ByteArray) (hf:l.length≤1000000000000):Tot (λ k=>Gr k l s) (λ r=>r=Nsa l s):=by
 unfold Gr Nsa
 refine Tot.bind (Jja l s hf _ 0 rfl (Nat.zero_le _)) ?_
 rintro r rfl
 rw [List.drop_zero]
 cases fnd l s with
 |none=>exact Tot.pure rfl
 |some j=>
  refine Tot.pure ?_
  rw [Nat.zero_add]
def cut (l:List Nmd) (s:ByteArray):List Nmd:=l.filter (λ x => !(teq x.1 s))
theorem Mga (d:Dsk) (hf:Rua d) (hs:Jia d):Tot (λ k=>Hy k d) (λ r=>r=P4 d):=by
 unfold Hy P4
 refine Tot.bind (Aka d.1 hf.1.1 hs.1) ?_
 rintro r rfl
 cases h:Md d.1 with
 |false=>exact Tot.no rfl (Tot.pure rfl)
 |true=>
  refine Tot.yes rfl (Tot.bind (Aka d.2 hf.2.1 hs.2) ?_)
  rintro r rfl
  exact Tot.pure (by rw [Bool.true_and])

section
open Go
end

theorem Mha (y:Nmd) (l:List Nmd) (s:ByteArray):fnd (y::l) s=if teq y.1 s then some 0 else (fnd l s).map (· + 1):=by
 unfold fnd
 rw [List.findIdx?_cons]
theorem Paa {l:List Nmd} {s:ByteArray}:(cut l s).Sublist l:=List.filter_sublist

section
open Go
end

section
open Go
end

def DIn (d:Dsk):Prop:=(Rua d∧Jia d)∧d.1.length≤2000000∧d.2.length≤2000000

section
open Go
end

section
open Go
end

theorem P5 (p:Nmd→Bool):∀ l:List Nmd,l.take (l.takeWhile p).length=l.takeWhile p∧l.drop (l.takeWhile p).length=l.dropWhile p
 |[]=>⟨rfl,rfl⟩
 |y::l=>by
  obtain ⟨h1,h2⟩:=P5 p l
  simp only [List.takeWhile_cons,List.dropWhile_cons]
  cases p y with
  |true=>simp [h1,h2]
  |false=>simp
theorem R4a (l:List Nmd) (x:Nmd):ins l x=l.takeWhile (λ y=>tlt y.1 x.1)++([x]++l.dropWhile (λ y=>tlt y.1 x.1)):=by
 unfold ins plc
 obtain ⟨h1,h2⟩:=P5 (λ y=>tlt y.1 x.1) l
 rw [h1,h2,List.append_assoc]
theorem Pba {l:List Nmd} {x y:Nmd}:y∈ins l x↔y=x∨y∈l:=by
 rw [R4a]
 have e:=List.takeWhile_append_dropWhile (p:=λ y:Nmd=>tlt y.1 x.1) (l:=l)
 constructor
 ·intro h
  rcases List.mem_append.1 h with h|h
  ·right; rw [← e]; exact List.mem_append_left _ h
  ·rcases List.mem_cons.1 h with h|h
   ·exact .inl h
   ·right; rw [← e]; exact List.mem_append_right _ h
 ·rintro (rfl|h)
  ·exact List.mem_append_right _ (by simp)
  ·rw [← e] at h
   rcases List.mem_append.1 h with h|h
   ·exact List.mem_append_left _ h
   ·exact List.mem_append_right _ (List.mem_cons_of_mem _ h)

section
open Go
end

def U4:ByteArray:=⟨#[]⟩

section
open Go
end

section
variable {α σ R:Type} {a b:α} {p:Prop} [Decidable p]
theorem dT (h:p):cond (decide p) a b=a:=by rw [decide_eq_true h]; rfl
theorem dF (h:¬ p):cond (decide p) a b=b:=by rw [decide_eq_false h]; rfl
theorem bT {m n:Nat} (h:m≤n):cond (Nat.ble m n) a b=a:=by rw [Nat.ble_eq_true_of_le h]; rfl
theorem Tot.up {L:Nat→Int→σ→Option R} {Q:R→Prop} (n:Nat) (I:Nat→σ→Prop) (hend:∀ s,I n s→Tot (λ k=>L (k+1) (n:Int) s) Q)
  (Rq:∀ i s,i<n→I i s→(∀ s',I (i+1) s'→Tot (λ k=>L k ((i:Int)+1) s') Q)→Tot (λ k=>L (k+1) (i:Int) s) Q):
  ∀ (i:Nat) (s:σ),i≤n→I i s→Tot (λ k=>L k (i:Int) s) Q:=by
 suffices h:∀ (m i:Nat) (s:σ),n - i=m→i≤n→I i s→Tot (λ k=>L k (i:Int) s) Q from λ i s hi hs=>h _ i s rfl hi hs
 intro m
 induction m with
 |zero=>
  intro i s hm hi hs
  obtain rfl:i=n:=by omega
  exact Tot.succ (hend s hs)
 |succ m ih=>
  intro i s hm hi hs
  refine Tot.succ (Rq i s (by omega) hs λ s' hs'=>?_)
  have:=ih (i+1) s' (by omega) (by omega) hs'
  rwa [show (((i+1:Nat)):Int)=(i:Int)+1 by omega] at this
end
def cst (x:BitVec 32):BitVec 32:=if x.getLsbD 0 then (x >>> 1) ^^^ 2197175160#32 else x >>> 1
def Ala:Nat→BitVec 32→BitVec 32
 |0,x=>x
 |n+1,x=>Ala n (cst x)
def cby (x:BitVec 32) (b:Int):BitVec 32:=Ala 8 (x ^^^ BitVec.ofInt 32 b)
def Sba (l:List Int):BitVec 32 := ~~~ (l.foldl cby 4294967295#32)
def crc (l:List Int):Int:=((Sba l).toNat:Int)
theorem Sca (v:BitVec 32):v.getLsbD 0=decide (v.toNat % 2=1):=by
 rw [BitVec.getLsbD,Nat.testBit_zero]
theorem Cra (v:BitVec 32):BitVec.ofInt (IntKind.bits .u32) (v.toNat:Int)=v:=by
 show BitVec.ofInt 32 (v.toNat:Int)=v
 rw [BitVec.ofInt_natCast,BitVec.ofNat_toNat,BitVec.setWidth_eq]
theorem Csa (n:Nat) (h:n<4294967296):(BitVec.ofInt (IntKind.bits .i64) (n:Int)).toNat=n:=Qc n (by omega)
theorem Rva (v:BitVec 32):IntKind.wrap .u32 (v.toNat:Int)=(v.toNat:Int):=Go.IntWalk.u32_in _ ⟨by omega,by have:=v.isLt; omega⟩
theorem sh1 (v:BitVec 32):Int.fdiv (v.toNat:Int) 2=((v >>> 1).toNat:Int):=by
 rw [Int.fdiv_eq_ediv_of_nonneg _ (by omega),BitVec.toNat_ushiftRight,Nat.shiftRight_eq_div_pow]
 omega
theorem Rwa (v:BitVec 32):((IntKind.wrap .u32 ((BitVec.ofInt (IntKind.bits .u32) (v.toNat:Int) &&& BitVec.ofInt (IntKind.bits .u32) 1).toNat))==1)=v.getLsbD 0:=by
 show (IntKind.wrap .u32 (((BitVec.ofInt 32 (v.toNat:Int) &&& BitVec.ofInt 32 1).toNat:Nat):Int)==1)=_
 rw [show BitVec.ofInt 32 (v.toNat:Int)=v from Cra v,Rva,Sca,BitVec.toNat_and,show (BitVec.ofInt 32 1).toNat=1 from by decide,Nat.and_one_is_mod,Bool.eq_iff_iff,beq_iff_eq,decide_eq_true_iff]
 omega
theorem Rxa (v:BitVec 32):((IntKind.wrap .i64 ((BitVec.ofInt (IntKind.bits .i64) (v.toNat:Int) &&& BitVec.ofInt (IntKind.bits .i64) 1).toNat))==1)=v.getLsbD 0:=by
 have:=v.isLt
 rw [Sca,BitVec.toNat_and,Csa _ v.isLt,show (BitVec.ofInt (IntKind.bits .i64) 1).toNat=1 from by decide,Nat.and_one_is_mod,w64 (by omega) (by omega),Bool.eq_iff_iff,beq_iff_eq,decide_eq_true_iff]
 omega
theorem Sda (v w:BitVec 32) (x:Int) (h:BitVec.ofInt 32 x=w):IntKind.wrap .u32 ((BitVec.ofInt (IntKind.bits .u32) (v.toNat:Int) ^^^ BitVec.ofInt (IntKind.bits .u32) x).toNat)=((v ^^^ w).toNat:Int):=by
 show IntKind.wrap .u32 (((BitVec.ofInt 32 (v.toNat:Int) ^^^ BitVec.ofInt 32 x).toNat:Nat):Int)=_
 rw [show BitVec.ofInt 32 (v.toNat:Int)=v from Cra v,h]
 exact Rva _
theorem Rya (v w:BitVec 32):IntKind.wrap .i64 ((BitVec.ofInt (IntKind.bits .i64) (v.toNat:Int) ^^^ BitVec.ofInt (IntKind.bits .i64) (w.toNat:Int)).toNat)=((v ^^^ w).toNat:Int):=by
 have:=(v ^^^ w).isLt
 rw [BitVec.toNat_xor,Csa _ v.isLt,Csa _ w.isLt,← BitVec.toNat_xor]
 exact w64 (by omega) (by omega)
theorem Sea (K:IntKind) (h:1≤IntKind.bits K):(2:Int) ^ (min (Int.toNat 1) (IntKind.bits K))=2:=by
 rw [show Int.toNat 1=1 from rfl,Nat.min_eq_left h]; rfl
theorem G0a (l:List Int) (x8 x9:Int):∀ (n:Nat) (v:BitVec 32) (i:Int),0≤i→8 - i=n→Tot (λ k=>Hh k (v.toNat:Int) l x8 x9 i) (λ r=>r=(((Ala n v).toNat:Int),l,x8,x9)):=by
 intro n
 induction n with
 |zero=>
  intro v i h0 hn
  refine Tot.succ ?_
  simp only [Hh]
  exact Tot.ndec (by omega) (Tot.pure rfl)
 |succ n ih=>
  intro v i h0 hn
  refine Tot.succ ?_
  simp only [Hh]
  refine Tot.dec (by omega) ?_
  rw [w64 (n:=i+1) (by omega) (by omega),Rwa,Sea _ (by decide),sh1,Sda _ 2197175160#32 _ (by decide)]
  have e:Ala (n+1) v=Ala n (cst v):=rfl
  rw [e]
  refine Tot.ite (λ h=>?_) (λ h=>?_)
  ·have:=ih (v >>> 1 ^^^ 2197175160#32) (i+1) (by omega) (by omega)
   rwa [show v >>> 1 ^^^ 2197175160#32=cst v by unfold cst; rw [if_pos h]] at this ⊢
  ·have:=ih (v >>> 1) (i+1) (by omega) (by omega)
   rwa [show v >>> 1=cst v by unfold cst; rw [if_neg (by rw [h]; simp)]] at this ⊢
theorem Cta (l:List Int) (x4:Int):∀ (n:Nat) (v:BitVec 32) (i:Int),0≤i→8 - i=n→Tot (λ k=>Hf k l (v.toNat:Int) x4 i) (λ r=>r=(l,((Ala n v).toNat:Int),x4)):=by
 intro n
 induction n with
 |zero=>
  intro v i h0 hn
  refine Tot.succ ?_
  simp only [Hf]
  exact Tot.ndec (by omega) (Tot.pure rfl)
 |succ n ih=>
  intro v i h0 hn
  refine Tot.succ ?_
  simp only [Hf]
  have hp:(2197175160:Int)=((2197175160#32:BitVec 32).toNat:Int):=by decide
  refine Tot.dec (by omega) ?_
  rw [w64 (n:=i+1) (by omega) (by omega),Rxa,Sea _ (by decide),sh1,hp,Rya]
  have e:Ala (n+1) v=Ala n (cst v):=rfl
  rw [e]
  refine Tot.ite (λ h=>?_) (λ h=>?_)
  ·have:=ih (v >>> 1 ^^^ 2197175160#32) (i+1) (by omega) (by omega)
   rwa [show v >>> 1 ^^^ 2197175160#32=cst v by unfold cst; rw [if_pos h]] at this ⊢
  ·have:=ih (v >>> 1) (i+1) (by omega) (by omega)
   rwa [show v >>> 1=cst v by unfold cst; rw [if_neg (by rw [h]; simp)]] at this ⊢
theorem R5a {b:Int} (h:0≤b∧b≤255):b=((BitVec.ofInt 32 b).toNat:Int):=by
 rw [BitVec.toNat_ofInt]
 omega
theorem Pca (l:List Int) (hb:B4 l) (hl:l.length≤1000000000000):Tot (λ k=>Ke k l) (λ r=>r=crc l):=by
 unfold Ke
 refine Tot.bind (Q:=λ r=>r=(((l.foldl cby 4294967295#32).toNat:Nat):Int)) ?_ ?_
 ·have:=Tot.up (L:=λ k i s=>I2 k s l (l.length:Int) i) (Q:=λ r=>r=(((l.foldl cby 4294967295#32).toNat:Nat):Int)) l.length (λ i s=>∃ v:BitVec 32,s=(v.toNat:Int)∧(l.drop i).foldl cby v=l.foldl cby 4294967295#32) ?_ ?_ 0 4294967295 (Nat.zero_le _) ⟨4294967295#32,by decide,by rw [List.drop_zero]⟩
  ·exact this
  ·rintro s ⟨v,rfl,hv⟩
   simp only [I2]
   rw [List.drop_length] at hv
   exact Tot.ndec (by omega) (Tot.pure (by rw [← hv]; rfl))
  ·rintro i s hi ⟨v,rfl,hv⟩ next
   simp only [I2]
   have hx:=hb _ (A7 (d:=0) hi)
   refine Tot.dec (by omega) (Tot.dec (by omega) (Tot.dec (by omega) ?_))
   rw [Int.toNat_natCast,Go.IntWalk.u32_in _ ⟨hx.1,by omega⟩,Sda v _ _ rfl]
   refine Tot.bind (G0a l _ _ 8 _ 0 (by decide) (by decide)) ?_
   rintro r rfl
   simp only
   rw [w64 (n:=(i:Int)+1) (by omega) (by omega)]
   refine next _ ⟨_,rfl,?_⟩
   rw [Fm (d:=0) hi,List.foldl_cons] at hv
   exact hv
 ·rintro r rfl
  refine Tot.pure ?_
  unfold crc Sba
  have hm:BitVec.ofInt 32 (if IntKind.signed .u32 then -1 else IntKind.max .u32)=BitVec.allOnes 32:=by decide
  have e:BitVec.allOnes 32 ^^^ l.foldl cby 4294967295#32 = ~~~ (l.foldl cby 4294967295#32):=by rw [BitVec.xor_comm]; exact BitVec.xor_allOnes
  show IntKind.wrap .i64 (IntKind.wrap .u32 (((BitVec.ofInt 32 (if IntKind.signed .u32 then -1 else IntKind.max .u32) ^^^ BitVec.ofInt 32 ((l.foldl cby 4294967295#32).toNat:Int)).toNat:Nat):Int))=_
  rw [show BitVec.ofInt 32 ((l.foldl cby 4294967295#32).toNat:Int)=l.foldl cby 4294967295#32 from Cra _,hm,e]
  have:=(~~~ (l.foldl cby 4294967295#32)).isLt
  rw [Rva,w64 (by omega) (by omega)]
theorem Pda (l:List Int) (hb:B4 l) (hl:l.length≤1000000000000):Tot (λ k=>Kd k l) (λ r=>r=crc l):=by
 unfold Kd
 refine Tot.bind (Q:=λ r=>r=(((l.foldl cby 4294967295#32).toNat:Nat):Int)) ?_ ?_
 ·have:=Tot.up (L:=λ k i s=>Hz k l s i) (Q:=λ r=>r=(((l.foldl cby 4294967295#32).toNat:Nat):Int)) l.length (λ i s=>∃ v:BitVec 32,s=(v.toNat:Int)∧(l.drop i).foldl cby v=l.foldl cby 4294967295#32) ?_ ?_ 0 4294967295 (Nat.zero_le _) ⟨4294967295#32,by decide,by rw [List.drop_zero]⟩
  ·exact this
  ·rintro s ⟨v,rfl,hv⟩
   simp only [Hz]
   rw [List.drop_length] at hv
   exact Tot.ndec (by omega) (Tot.pure (by rw [← hv]; rfl))
  ·rintro i s hi ⟨v,rfl,hv⟩ next
   simp only [Hz]
   have hx:=hb _ (A7 (d:=0) hi)
   refine Tot.dec (by omega) (Tot.dec (by omega) (Tot.dec (by omega) ?_))
   rw [Int.toNat_natCast,w64 (n:=l.getD i 0) (by omega) (by omega),R5a hx,Rya]
   refine Tot.bind (Cta l _ 8 _ 0 (by decide) (by decide)) ?_
   rintro r rfl
   simp only
   rw [w64 (n:=(i:Int)+1) (by omega) (by omega)]
   refine next _ ⟨_,rfl,?_⟩
   rw [Fm (d:=0) hi,List.foldl_cons] at hv
   exact hv
 ·rintro r rfl
  refine Tot.pure ?_
  have hp:(4294967295:Int)=((BitVec.allOnes 32:BitVec 32).toNat:Int):=by decide
  rw [hp,Rya,BitVec.xor_allOnes]
  rfl

def Rza:Fil:=(((0:Int),((0:Int),(0:Int))),(false,([]:List Int)))
def Jv (f:Fil):Bool:=Km f.1&&(decide ((f.2.2.length:Int)≤200)&&(!f.2.1 || ((f.2.2.length:Int)==0)))
theorem Esa (f:Fil):G9 f=some (Jv f):=by
 unfold G9 Jv
 rw [Tf]
 simp only [Option.bind_some]
 cases Km f.1<;>cases decide ((List.length f.2.2:Int)≤200)<;>cases f.2.1<;>rfl
theorem Xm (f:Fil):D9 f=some (Jv f):=by
 unfold D9 Jv
 rw [Tg]
 simp only [Option.bind_some]
 cases Km f.1<;>cases decide ((List.length f.2.2:Int)≤200)<;>cases f.2.1<;>rfl
theorem V3 {f:Fil}:Jv f=true↔Km f.1=true∧f.2.2.length≤200∧(f.2.1=true→f.2.2=[]):=by
 unfold Jv
 rw [Bool.and_eq_true,Bool.and_eq_true,decide_eq_true_iff]
 have:(!f.2.1 || ((f.2.2.length:Int)==0))=true↔(f.2.1=true→f.2.2=[]):=by
  cases f.2.1 with
  |false=>simp
  |true=>simp
 rw [this]
 constructor
 ·rintro ⟨h1,h2,h3⟩; exact ⟨h1,by omega,h3⟩
 ·rintro ⟨h1,h2,h3⟩; exact ⟨h1,by omega,h3⟩
theorem Jka (a b:Fil):Hd a b=some (sle b.1 a.1):=by unfold Hd; rw [Xi]; rfl
def hdF (s:Stp) (d:Bool):List Int:=Kpa s++B9a (Fo (Jfa d))
def Ama (f:Fil):List Int:=hdF f.1 f.2.1++txt (Jt f.2.2)
def c4 (c:Int):List Int:=[IntKind.wrap .u8 (Int.fdiv c (2 ^ (min (Int.toNat 24) (IntKind.bits .i64)))),IntKind.wrap .u8 (Int.fdiv c (2 ^ (min (Int.toNat 16) (IntKind.bits .i64)))),IntKind.wrap .u8 (Int.fdiv c (2 ^ (min (Int.toNat 8) (IntKind.bits .i64)))),IntKind.wrap .u8 c]
def Xu (f:Fil):List Int:=bif Jv f then Ama f++c4 (crc (Ama f)) else []
theorem My {a b:List Int} (ha:B4 a) (hb:B4 b):B4 (a++b):=λ x hx=>(List.mem_append.1 hx).elim (ha x) (hb x)
theorem O9 (n:Int):B4 (B9a (Fo n)):=Fwa _ (Ti n)
theorem Jla (s:Stp) (d:Bool):B4 (hdF s d):=My (My (O9 _) (My (O9 _) (O9 _))) (O9 _)
theorem Pj (f:Fil):B4 (Ama f):=My (Jla _ _) (My (O9 _) (Fxa _))
theorem Mia (c:Int):B4 (c4 c):=by
 intro x hx
 simp only [c4,List.mem_cons,List.not_mem_nil,or_false] at hx
 rcases hx with rfl|rfl|rfl|rfl<;>exact J8a _
theorem V4 (f:Fil):B4 (Xu f):=by
 unfold Xu
 cases Jv f with
 |false=>intro x hx; simp at hx
 |true=>exact My (Pj f) (Mia _)
theorem Cua (s:Stp) (d:Bool):(hdF s d).length≤20:=by
 have h1:=Epa s
 have h2:=(Ky (Fo (Jfa d))).1
 unfold hdF
 rw [List.length_append]
 omega
theorem Ana (f:Fil):(Ama f).length≤25+f.2.2.length:=by
 have h1:=Cua f.1 f.2.1
 have h2:=P8a (Jt f.2.2)
 have h3:(Jt f.2.2).size=f.2.2.length:=Mx _
 unfold Ama
 rw [List.length_append]
 omega
theorem Pk (f:Fil):Tot (λ k=>H7 k f) (λ r=>r=Xu f):=by
 unfold H7 Xu
 refine Tot.bind (Tot.of (Q:=λ b=>b=Jv f) (Esa f) rfl) ?_
 rintro b rfl
 cases h:Jv f with
 |false=>exact Tot.yes rfl (Tot.pure rfl)
 |true=>
  have h2:=(V3.1 h).2.1
  have h3:(Jt f.2.2).size=f.2.2.length:=Mx _
  have h4:=Cua f.1 f.2.1
  have h5:=Ana f
  refine Tot.no rfl (Tot.bind (Fya [] f.1 f.2.1 (by simp)) ?_)
  rintro r rfl
  rw [List.nil_append]
  refine Tot.bind (Mca _ _ (by unfold hdF at h4; omega) (by omega)) ?_
  rintro r rfl
  have e:Kpa f.1++B9a (Fo (Jfa f.2.1))++txt (Jt f.2.2)=Ama f:=rfl
  rw [e]
  refine Tot.bind (Pca _ (Pj f) (by omega)) ?_
  rintro r rfl
  exact Tot.ble (by simp only [List.length_cons,List.length_nil]; omega) (Tot.pure rfl)
theorem Cva (f:Fil):Tot (λ k=>H3 k f) (λ r=>r=Xu f):=by
 unfold H3 Xu
 refine Tot.bind (Tot.of (Q:=λ b=>b=Jv f) (Xm f) rfl) ?_
 rintro b rfl
 cases h:Jv f with
 |false=>exact Tot.yes rfl (Tot.pure rfl)
 |true=>
  have h2:=(V3.1 h).2.1
  have h3:(Jt f.2.2).size=f.2.2.length:=Mx _
  have h4:=Cua f.1 f.2.1
  have h5:=Ana f
  have h6:=Epa f.1
  refine Tot.no rfl (Tot.bind (Fza [] f.1 (by simp)) ?_)
  rintro r rfl
  rw [List.nil_append]
  refine Tot.bind (Tot.of (Q:=λ r=>r=Jfa f.2.1) (Mea _) rfl) ?_
  rintro c rfl
  refine Tot.bind (Tk _ _ (by omega)) ?_
  rintro d rfl
  refine Tot.bind (Mda _ _ (by unfold hdF at h4; omega) (by omega)) ?_
  rintro r rfl
  have e:Kpa f.1++B9a (Fo (Jfa f.2.1))++txt (Jt f.2.2)=Ama f:=rfl
  rw [e]
  refine Tot.bind (Pda _ (Pj f) (by omega)) ?_
  rintro r rfl
  exact Tot.ble (by simp only [List.length_cons,List.length_nil]; omega) (Tot.pure rfl)
def Xn (b:List Int):Option Fil:=(Ow b 0).bind λ a=>(Gna b a.2).bind λ t=>bif Jv (a.1.1,a.1.2,bytesOf t.1)&&decide (Xu (a.1.1,a.1.2,bytesOf t.1)=b) then some (a.1.1,a.1.2,bytesOf t.1) else none
def R7 (b:List Int):Fil×Bool:=match Xn b with
 |some f=>(f,true)
 |none=>(Rza,false)
theorem Mja {l:List Int} {q:Nat} {s:Stp} {d:Bool} (hb:B4 l) (h:Ow l 0=some ((s,d),q)):l=hdF s d++l.drop q∧q≤l.length:=by
 unfold Ow at h
 simp only [Option.bind_eq_some_iff] at h
 obtain ⟨⟨t,p2⟩,h2,⟨c,p3⟩,h3,⟨n,p4⟩,h4,⟨e,p5⟩,h5,h⟩:=h
 obtain ⟨b1,b2,b3,b4⟩:=Pi hb h2
 obtain ⟨c1,c2,c3,c4⟩:=Pi hb h3
 obtain ⟨d1,d2,d3,d4⟩:=Pi hb h4
 obtain ⟨e1,e2,e3,e4⟩:=Pi hb h5
 cases hd:decide (1<e) with
 |true=>simp only [hd,cond_true] at h; cases h
 |false=>
  simp only [hd,cond_false,Option.some.injEq,Prod.mk.injEq] at h
  obtain ⟨⟨⟨rfl,rfl,rfl⟩,rfl⟩,rfl⟩:=h
  have he:e≤1:=by
   have:=of_decide_eq_false hd
   omega
  have hbit:Fo (Jfa ((e:Int)==1))=e:=by
   have:e=0∨e=1:=by omega
   rcases this with rfl|rfl<;>decide
  have k:∀ n:Nat,n≤1000000000→Fo (n:Int)=n:=λ n hn=>by unfold Fo; omega
  simp only at b1 b2 c1 c2 d1 d2 e1 e2
  refine ⟨?_,e4⟩
  rw [List.drop_zero] at b1
  unfold hdF Kpa
  simp only
  rw [k t b2,k c c2,k n d2,hbit,List.append_assoc,List.append_assoc,List.append_assoc,← e1,← d1,← c1,← b1]
theorem Aoa {a b:List Int} (ha:B4 a) (hb:B4 b):((Jt a).toList==(Jt b).toList)=decide (a=b):=by
 have:teq (Jt a) (Jt b)=decide (a=b):=by
  rw [Bool.eq_iff_iff,Cja,decide_eq_true_iff]
  constructor
  ·intro h
   have:=congrArg bytesOf h
   rwa [Ng ha,Ng hb] at this
  ·rintro rfl; rfl
 exact this
theorem Mka (l:List Int) (hb:B4 l) (hl:l.length≤1000000000000) (p:Int) (hp:p≤1000000000000):
  Tot (λ k=>Av k (l,p,true)) (λ r=>r=((⟨#[]⟩:ByteArray),l,p,true)):=by
 unfold Av
 refine Tot.bind (Eoa l hb hl p hp) ?_
 rintro r rfl
 exact Tot.yes rfl (Tot.pure rfl)
theorem Mla {f:Fil}:(((Xu f).length:Int)==0) = !(Jv f):=by
 unfold Xu
 cases h:Jv f with
 |false=>rfl
 |true=>
  rw [cond_true,List.length_append,Bool.not_true,beq_eq_false_iff_ne]
  simp only [c4,List.length_cons,List.length_nil]
  omega
theorem Tm (b:List Int) (hb:B4 b) (hl:b.length≤1000000000000):Tot (λ k=>C0 k b) (λ r=>r=R7 b):=by
 unfold C0
 refine Tot.bind (Rta b hb hl 0 (Nat.zero_le _) false) ?_
 rintro r (⟨_,⟨s,d⟩,q,h1,h2,rfl⟩|⟨h1,s,d,q,h2,rfl⟩)
 ·refine Tot.bind (Rsa b hb hl q h2) ?_
  rintro r (⟨t,q2,h3,h4,rfl⟩|⟨h3,rfl⟩)
  ·have hsz:=(Cqa hb h3).2.1
   refine Tot.ble (by dsimp only; omega) (Tot.bind (Pk _) ?_)
   rintro r rfl
   refine Tot.no rfl ?_
   have e:R7 b=bif Jv (s,d,bytesOf t)&&decide (Xu (s,d,bytesOf t)=b) then ((s,d,bytesOf t),true) else (Rza,false):=by
    unfold R7 Xn
    simp only [h1,h3,Option.bind_some]
    cases Jv (s,d,bytesOf t)&&decide (Xu (s,d,bytesOf t)=b)<;>rfl
   simp only
   rw [e,Mla]
   cases hf:Jv (s,d,bytesOf t) with
   |false=>exact Tot.yes rfl (Tot.pure rfl)
   |true=>
    refine Tot.no rfl ?_
    rw [Aoa (V4 _) hb]
    cases decide (Xu (s,d,bytesOf t)=b) with
    |false=>exact Tot.yes rfl (Tot.pure rfl)
    |true=>exact Tot.no rfl (Tot.pure rfl)
  ·refine Tot.ble (Nat.zero_le _) (Tot.bind (Pk _) ?_)
   rintro r rfl
   refine Tot.yes rfl (Tot.pure ?_)
   unfold R7 Xn
   simp only [h1,h3,Option.bind_some,Option.bind_none]
   rfl
 ·refine Tot.bind (Mka b hb hl q (by omega)) ?_
  rintro r rfl
  refine Tot.ble (Nat.zero_le _) (Tot.bind (Pk _) ?_)
  rintro r rfl
  refine Tot.yes rfl (Tot.pure ?_)
  unfold R7 Xn
  simp only [h1.resolve_left (by simp),Option.bind_none]
  rfl
theorem Tn (b:List Int) (hb:B4 b) (hl:b.length≤1000000000000):Tot (λ k=>Aq k b) (λ r=>r=R7 b):=by
 have none_of:Xn b=none→R7 b=(Rza,false):=λ h=>by unfold R7; rw [h]
 unfold Aq
 refine Tot.bind (P9a b hb hl 0) ?_
 rintro r (⟨n1,p1,n2,p2,n3,p3,_,g1,g2,g3,rfl⟩|⟨h,hr⟩)
 ·refine Tot.bind (R6 b hb hl (p3:Int)) ?_
  rintro r rfl
  rw [S9]
  have g1':Nf b 0=some (n1,p1):=g1
  cases g4:Nf b p3 with
  |none=>
   refine Tot.bind (Xl b hb hl 0) ?_
   rintro r rfl
   refine Tot.no rfl (Tot.yes rfl (Tot.pure (none_of ?_).symm))
   unfold Xn Ow
   simp only [g1',g2,g3,g4,Option.bind_some,Option.bind_none]
  |some x=>
   obtain ⟨n4,p4⟩:=x
   simp only
   have es:Ow b 0=bif decide (1<n4) then none else some ((((n1:Int),(n2:Int),(n3:Int)),(n4:Int)==1),p4):=by
    unfold Ow
    simp only [g1',g2,g3,g4,Option.bind_some]
   refine Tot.bind (Xl b hb hl (p4:Int)) ?_
   rintro r rfl
   rw [Eqa]
   refine Tot.no rfl (Tot.no rfl ?_)
   cases g5:Gna b p4 with
   |none=>
    refine Tot.yes rfl (Tot.pure (none_of ?_).symm)
    unfold Xn
    rw [es]
    cases decide (1<n4) with
    |true=>rfl
    |false=>simp only [cond_false,Option.bind_some,g5,Option.bind_none]
   |some y=>
    obtain ⟨t,q⟩:=y
    refine Tot.no rfl (Tot.dite (λ h=>Tot.pure (none_of ?_).symm) (λ h=>?_))
    ·unfold Xn
     rw [es,decide_eq_true (by omega)]
     rfl
    ·rw [decide_eq_false (by omega),cond_false] at es
     have hq:=Cqa hb g5
     simp only
     rw [w64 (n:=(q:Int)+4) (by omega) (by omega)]
     have ef:Xn b=bif Jv (((n1:Int),(n2:Int),(n3:Int)),(n4:Int)==1,bytesOf t)&&decide (Xu (((n1:Int),(n2:Int),(n3:Int)),(n4:Int)==1,bytesOf t)=b) then some (((n1:Int),(n2:Int),(n3:Int)),(n4:Int)==1,bytesOf t) else none:=by
      unfold Xn
      simp only [es,g5,Option.bind_some]
     refine Tot.ite (λ h4=>Tot.pure (none_of ?_).symm) (λ h4=>?_)
     ·rw [ef]
      cases hc:(Jv (((n1:Int),(n2:Int),(n3:Int)),(n4:Int)==1,bytesOf t)&&decide (Xu (((n1:Int),(n2:Int),(n3:Int)),(n4:Int)==1,bytesOf t)=b)) with
      |false=>rfl
      |true=>
       exfalso
       rw [Bool.and_eq_true,decide_eq_true_iff] at hc
       have a1:=(Mja hb es).1
       rw [hq.1] at a1
       have a2:=hc.2
       unfold Xu at a2
       rw [hc.1,cond_true] at a2
       unfold Ama at a2
       simp only at a2
       rw [Xk,List.append_assoc] at a2
       rw [← a2] at a1
       have a3:=List.append_cancel_left (List.append_cancel_left a1)
       have a4:=congrArg List.length a3
       rw [a2,List.length_drop] at a4
       simp only [c4,List.length_cons,List.length_nil] at a4
       have:(q:Int)+4=(b.length:Int):=by omega
       simp [this] at h4
     ·refine Tot.ble (by simp only [List.length_nil]; omega) ?_
      rw [List.nil_append]
      refine Tot.bind (Tot.of (Q:=λ r=>r=Jv (((n1:Int),(n2:Int),(n3:Int)),(n4:Int)==1,bytesOf t)) (Xm _) rfl) ?_
      rintro r rfl
      unfold R7
      rw [ef]
      cases hf:Jv (((n1:Int),(n2:Int),(n3:Int)),(n4:Int)==1,bytesOf t) with
      |false=>exact Tot.yes rfl (Tot.pure rfl)
      |true=>
       refine Tot.no rfl (Tot.bind (Cva _) ?_)
       rintro r rfl
       rw [Aoa (V4 _) hb,Bool.true_and]
       cases decide (Xu (((n1:Int),(n2:Int),(n3:Int)),(n4:Int)==1,bytesOf t)=b) with
       |false=>exact Tot.yes rfl (Tot.pure rfl)
       |true=>exact Tot.no rfl (Tot.pure rfl)
 ·obtain ⟨r1,r2,r3⟩:=r
  simp only at hr
  subst hr
  refine Tot.bind (R6 b hb hl _) ?_
  rintro r rfl
  refine Tot.bind (Xl b hb hl _) ?_
  rintro r rfl
  refine Tot.yes rfl (Tot.pure (none_of ?_).symm)
  unfold Xn
  rw [Jga (p:=0) (h.resolve_right (by omega))]
  rfl

def gt (l:List Nmd) (s:ByteArray):Option (List Int):=match fnd l s with
 |some i=>some (l.getD i La).2
 |none=>none
theorem Pea (y:Nmd) (l:List Nmd) (s:ByteArray):gt (y::l) s=if y.1=s then some y.2 else gt l s:=by
 unfold gt
 rw [Mha]
 by_cases h:y.1=s
 ·rw [if_pos (Cja.2 h),if_pos h]; rfl
 ·rw [if_neg (λ c=>h (Cja.1 c)),if_neg h]
  cases fnd l s<;>rfl
theorem R6a {l:List Nmd} {s:ByteArray} {b:List Int} (h:gt l s=some b):(s,b)∈l:=by
 induction l with
 |nil=>cases h
 |cons y l ih=>
  rw [Pea] at h
  by_cases e:y.1=s
  ·rw [if_pos e] at h
   cases h
   subst e
   exact List.mem_cons_self
  ·rw [if_neg e] at h
   exact List.mem_cons_of_mem _ (ih h)
def LB (l:List Nmd):Prop:=∀ x∈l,B4 x.2
def DB (d:Dsk):Prop:=LB d.1∧LB d.2
theorem LB.cut {l:List Nmd} (h:LB l) (s:ByteArray):LB (cut l s):=λ x hx=>h x (Paa.subset hx)
theorem LB.ins {l:List Nmd} (h:LB l) {x:Nmd} (hx:B4 x.2):LB (ins l x):=λ y hy=>by
 rcases Pba.1 hy with rfl|hy
 ·exact hx
 ·exact h y hy
theorem LB.gt {l:List Nmd} (h:LB l) {s:ByteArray} {b:List Int} (hg:gt l s=some b):B4 b:=h _ (R6a hg)
def wr (l:List Nmd) (s:ByteArray) (b:List Int):List Nmd:=ins (cut l s) (s,b)
def sy (d:Dsk) (s:ByteArray):List Nmd:=match gt d.1 s with
 |some b=>wr d.2 s b
 |none=>cut d.2 s
def wrD (d:Dsk) (s:ByteArray) (b:List Int):Dsk×Bool:=bif decide (b.length≤400)&&decide ((wr d.1 s b).length≤60) then ((wr d.1 s b,d.2),true) else (d,false)
def syD (d:Dsk) (s:ByteArray):Dsk×Bool:=bif decide ((sy d s).length≤60) then ((d.1,sy d s),true) else (d,false)
section
variable {d:Dsk} {s:ByteArray} {b:List Int}
end
def old (d:Dsk) (s:ByteArray):Option Fil:=(gt d.1 s).bind Xn
def kp1 (d:Dsk) (s:ByteArray) (f:Fil):Option (Dsk×Int):=
 let w:=bif (wrD d s (Xu f)).2 then some ((wrD d s (Xu f)).1,(0:Int)) else none
 match old d s with
 |some o=>bif sle o.1 f.1 then w else some (d,1)
 |none=>w
def kp2 (d:Dsk) (s:ByteArray) (sure:Bool) (x:Dsk×Int):Dsk×Int:=bif sure then (bif (syD x.1 s).2 then ((syD x.1 s).1,x.2) else (d,3)) else x
def S0a (d:Dsk) (s:ByteArray) (f:Fil) (sure:Bool):Dsk×Int:=match kp1 d s f with
 |some x=>kp2 d s sure x
 |none=>(d,3)
def keep (d:Dsk) (s:ByteArray) (f:Fil) (sure:Bool):Dsk×Int:=bif P4 d&&(Mv s&&Jv f) then S0a d s f sure else (d,2)

def DG (d:Dsk):Prop:=P4 d=true∧DB d

section
variable {d:Dsk} {s:ByteArray} {f:Fil} {sure:Bool}
end

abbrev Nod:=Int×Dsk×List Row×List Row
def qOk (l:List Row):Bool:=l.all O8
def P6 (n:Nod):Bool:=qOk n.2.2.2&&(inR n.1 0 20&&(P4 n.2.1&&(Rg n.2.2.1&&decide ((n.2.2.2.length:Int)≤60))))
def RF (l:List Row):Prop:=l.length≤2000000∧Qb l
def NIn (n:Nod):Prop:=(DIn n.2.1∧DB n.2.1)∧RF n.2.2.1∧RF n.2.2.2
def NG (n:Nod):Prop:=P6 n=true∧DB n.2.1
theorem G1a {n:Nod}:P6 n=true↔(∀ r∈n.2.2.2,O8 r=true)∧(0≤n.1∧n.1≤20)∧P4 n.2.1=true∧Rg n.2.2.1=true∧n.2.2.2.length≤60:=by
 unfold P6 qOk
 simp only [Bool.and_eq_true,List.all_eq_true,P6a,decide_eq_true_iff]
 constructor
 ·rintro ⟨h1,h2,h3,h4,h5⟩; exact ⟨h1,h2,h3,h4,by omega⟩
 ·rintro ⟨h1,h2,h3,h4,h5⟩; exact ⟨h1,h2,h3,h4,by omega⟩
theorem NG.g {n:Nod} (h:NG n):DG n.2.1:=⟨(G1a.1 h.1).2.2.1,h.2⟩
theorem Mma (n:Nod) (hn:NIn n):Tot (λ k=>Ek k n) (λ r=>r=P6 n):=by
 obtain ⟨i,⟨a,b⟩,ro,q⟩:=n
 obtain ⟨⟨hd,_⟩,hr,hq⟩:=hn
 dsimp only at hd hr hq
 unfold Ek
 have hl:=hq.1
 refine Tot.bind (Q:=λ r=>r=bif qOk q then .inr (i,a,b,ro,q) else .inl false) ?_ ?_
 ·refine Tot.up (L:=λ k i' (_:Unit)=>Fc k q (q.length:Int) i' i a b ro q) (Q:=λ r=>r=bif qOk q then .inr (i,a,b,ro,q) else .inl false) q.length (λ j _=>(q.drop j).all O8=q.all O8) ?_ ?_ 0 () (Nat.zero_le _) (by rw [List.drop_zero])
  ·intro _ hj
   rw [List.drop_length] at hj
   simp only [Fc]
   exact Tot.ndec (by omega) (Tot.pure (by unfold qOk; rw [← hj]; rfl))
  ·intro j _ hj hi next
   simp only [Fc]
   rw [Fm (d:=R5) hj,List.all_cons] at hi
   refine Tot.dec (by omega) (Tot.dec (by omega) (Tot.dec (by omega) ?_))
   rw [Int.toNat_natCast,w64 (n:=(j:Int)+1) (by omega) (by omega)]
   refine Tot.bind (Jaa (q.getD j R5) (hq.2 _ (A7 hj))) ?_
   rintro r rfl
   cases hc:O8 (q.getD j R5) with
   |false=>exact Tot.yes rfl (Tot.pure (by unfold qOk; rw [← hi,hc]; rfl))
   |true=>exact Tot.no rfl (next () (by rw [hc,Bool.true_and] at hi; exact hi))
 ·rintro r rfl
  unfold P6
  dsimp only
  cases qOk q with
  |false=>exact Tot.pure rfl
  |true=>
   simp only [cond_true,Sum.elim_inr,Bool.true_and]
   refine Tot.bind (Tot.of (Q:=λ r=>r=inR i 0 20) (Te _ _ _) rfl) ?_
   rintro r rfl
   cases inR i 0 20 with
   |false=>exact Tot.no rfl (Tot.pure rfl)
   |true=>
    refine Tot.yes rfl (Tot.bind (Mfa (a,b) hd.1.1 hd.1.2) ?_)
    rintro r rfl
    cases P4 (a,b) with
    |false=>exact Tot.no rfl (Tot.pure rfl)
    |true=>
     refine Tot.yes rfl (Tot.bind (Maa ro (by have:=hr.1; unfold Few; omega) hr.2) ?_)
     rintro r rfl
     cases Rg ro with
     |false=>exact Tot.no rfl (Tot.pure rfl)
     |true=>exact Tot.yes rfl (Tot.pure rfl)
theorem Mna (n:Nod) (hn:NIn n):Tot (λ k=>Ef k n) (λ r=>r=P6 n):=by
 obtain ⟨i,⟨a,b⟩,ro,q⟩:=n
 obtain ⟨⟨hd,_⟩,hr,hq⟩:=hn
 dsimp only at hd hr hq
 unfold Ef
 have hl:=hq.1
 refine Tot.bind (Q:=λ r=>r=bif qOk q then .inr (i,a,b,ro,q) else .inl false) ?_ ?_
 ·refine Tot.up (L:=λ k i' (_:Unit)=>Ez k i' i a b ro q) (Q:=λ r=>r=bif qOk q then .inr (i,a,b,ro,q) else .inl false) q.length (λ j _=>(q.drop j).all O8=q.all O8) ?_ ?_ 0 () (Nat.zero_le _) (by rw [List.drop_zero])
  ·intro _ hj
   rw [List.drop_length] at hj
   simp only [Ez]
   exact Tot.ndec (by omega) (Tot.pure (by unfold qOk; rw [← hj]; rfl))
  ·intro j _ hj hi next
   simp only [Ez]
   rw [Fm (d:=R5) hj,List.all_cons] at hi
   refine Tot.dec (by omega) (Tot.dec (by omega) (Tot.dec (by omega) ?_))
   rw [Int.toNat_natCast,w64 (n:=(j:Int)+1) (by omega) (by omega)]
   refine Tot.bind (Jba (q.getD j R5) (hq.2 _ (A7 hj))) ?_
   rintro r rfl
   cases hc:O8 (q.getD j R5) with
   |false=>exact Tot.yes rfl (Tot.pure (by unfold qOk; rw [← hi,hc]; rfl))
   |true=>exact Tot.no rfl (next () (by rw [hc,Bool.true_and] at hi; exact hi))
 ·rintro r rfl
  unfold P6
  dsimp only
  cases qOk q with
  |false=>exact Tot.pure rfl
  |true=>
   simp only [cond_true,Sum.elim_inr,Bool.true_and]
   refine Tot.bind (Tot.of (Q:=λ r=>r=inR i 0 20) (Rf _ _ _) rfl) ?_
   rintro r rfl
   cases inR i 0 20 with
   |false=>exact Tot.no rfl (Tot.pure rfl)
   |true=>
    refine Tot.yes rfl (Tot.bind (Mga (a,b) hd.1.1 hd.1.2) ?_)
    rintro r rfl
    cases P4 (a,b) with
    |false=>exact Tot.no rfl (Tot.pure rfl)
    |true=>
     refine Tot.yes rfl (Tot.bind (Mba ro (by have:=hr.1; unfold Few; omega) hr.2) ?_)
     rintro r rfl
     cases Rg ro with
     |false=>exact Tot.no rfl (Tot.pure rfl)
     |true=>exact Tot.yes rfl (Tot.pure rfl)
def Pfa (s:ByteArray) (f:Fil):Row:=(s,f.1,f.2.1,(f.2.2.length:Int))
def Lr:Nod:=((0:Int),(([]:List Nmd),([]:List Nmd)),([]:List Row),([]:List Row))

end Go.Proofs.YtlfoljnopndpeaaGreat.Vf
