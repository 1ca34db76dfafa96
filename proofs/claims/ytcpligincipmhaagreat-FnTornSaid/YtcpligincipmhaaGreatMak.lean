import Derived.Test.YtcpligincipmhaaGreatMaj
import Derived.Laws.StructEq
set_option linter.all false
namespace Go.Proofs.YtcpligincipmhaaGreat.Vf
open Go
open List (length getD)
open Int (toNat)
open Go.IntKind (wrap)
open BitVec (ofInt)
def Vj:=@Int.toNat_natCast
def Wn:=@Bool.true_and
def Ye:=@Bool.not_eq_false'
def Yk:=@List.drop_length
def Yp:=@List.pairwise_iff_getElem
def Ys:=@List.mem_or_eq_of_mem_set
def Yu:=@List.drop_of_length_le
def Ze:=@Bool.and_false
def Zk:=@Bool.not_true
def Zq:=@List.takeWhile_cons
def Zwa:=@Bool.false_and
def Zya:=@List.filter_cons
def A4b:=@Int.fdiv_eq_ediv_of_nonneg
def A8b:=@Nat.pow_succ
def A9b:=@List.findIdx?_eq_some_iff_getElem
def Agb:=@List.takeWhile_append_dropWhile
def Ajb:=@Bool.false_or
def Aqb:=@List.mem_filter
def Arb:=@Bool.eq_iff_iff
def Aub:=@List.getElem_take
def Avb:=@Int.tdiv_eq_ediv_of_nonneg
def Azb:=@Option.bind_none
def B0b:=@List.not_mem_nil
def B1b:=@List.dropWhile_cons
def B5b:=@Sum.elim_inr
def Bab:=@IntKind.wrap_u8
def Bjb:=@List.Pairwise.sublist
def Bwb:=@List.getElem_of_mem
def Bxb:=@List.filter_sublist
def C4b:=@List.findIdx?_cons
def C5b:=@Bool.true_or
def C9b:=@Bool.not_false
def Cbb:=@List.take_sublist
def Ccb:=@Go.IntWalk.u32_in
def Chb:=@List.getElem_set
def Cib:=@List.takeWhile_sublist
def Clb:=@Bool.and_eq_false_iff
def Cmb:=@BitVec.xor_comm

def Bwa:∀ (a:List UInt8),Op.bytesLess a a=false
 |[]=>rfl
 |a::l=>by simp[Op.bytesLess,Bwa l]
def Gva:∀ (a b c:List UInt8),Op.bytesLess a b=true→Op.bytesLess b c=true→Op.bytesLess a c=true
 |_,[],_,h,_=>by simp[Op.bytesLess]at h
 |_,_::_,[],_,h=>by simp[Op.bytesLess]at h
 |[],_::_,_::_,_,_=>rfl
 |a::x,b::y,c::z,h1,h2=>by
  simp only[Op.bytesLess,Zp,Va,decide_eq_true_eq,beq_iff_eq]at h1 h2 ⊢;rcases h1 with h1|⟨rfl,h1⟩
  ·rcases h2 with h2|⟨rfl,h2⟩
   ·exact .inl (UInt8.lt_trans h1 h2)
   ·exact .inl h1
  ·rcases h2 with h2|⟨rfl,h2⟩
   ·exact .inl h2
   ·exact .inr ⟨rfl,Gva x y z h1 h2⟩
def Sca:∀ (a b:List UInt8),Op.bytesLess a b=false→Op.bytesLess b a=false→a=b
 |[],[],_,_=>rfl
 |[],_::_,h,_=>by simp[Op.bytesLess]at h
 |_::_,[],_,h=>by simp[Op.bytesLess]at h
 |a::x,b::y,h1,h2=>by
  simp only[Op.bytesLess,Bool.or_eq_false_iff,Clb,decide_eq_false_iff_not]at h1 h2
  have hab:a=b:=by
   have h3:=UInt8.not_lt.1 h1.1;have h4:=UInt8.not_lt.1 h2.1;exact UInt8.le_antisymm h4 h3
  subst hab;rw[Sca x y (h1.2.resolve_left (by simp)) (h2.2.resolve_left (by simp))]
def tlt (a b:ByteArray):Bool:=Op.bytesLess a.toList b.toList
def teq (a b:ByteArray):Bool:=a.toList==b.toList
def W5 {a b:ByteArray} (h:a.toList=b.toList):a=b:=by
 rw[ByteArray.toList_eq,ByteArray.toList_eq]at h;obtain⟨⟨x⟩⟩:=a;obtain⟨⟨y⟩⟩:=b;simp only at h;rw[h]
def G9 {a b:ByteArray}:teq a b=true↔a=b:=by
 unfold teq;rw[beq_iff_eq];exact⟨W5,λ h=>by rw[h]⟩
def Gy (a:ByteArray):tlt a a=false:=Bwa _
def Iq {a b c:ByteArray} (h:tlt a b=true) (h':tlt b c=true):tlt a c=true:=Gva _ _ _ h h'
def Ti {a b:ByteArray} (h:tlt a b=false) (h':tlt b a=false):a=b:=W5 (Sca _ _ h h')
def Po {a b:ByteArray} (h:tlt a b=true):tlt b a=false:=by
 cases hb:tlt b a
 ·rfl
 have:=Iq h hb;rw[Gy]at this;cases this
def X3a (a b:ByteArray):(!(Op.bytesLess a.toList b.toList||a.toList==b.toList))=tlt b a:=by
 show (!(tlt a b||teq a b))=tlt b a;cases h1:tlt a b
 case true=>rw[Po h1];rfl
 cases h2:teq a b
 case true=>rw[G9.1 h2,Gy];rfl
 cases h3:tlt b a
 case true=>rfl
 exfalso;have:=Ti h1 h3;rw[G9.2 this]at h2;cases h2
def sle (a b:Stp):Bool:=cond (a.1 != b.1) (decide (a.1<b.1)) (cond (a.2.1 != b.2.1) (decide (a.2.1<b.2.1)) (decide (a.2.2<b.2.2)))
def Pp (a b:Stp):Am a b=some (sle a b):=by
 unfold Am sle
 cases a.1 != b.1<;>cases a.2.1 != b.2.1<;>rfl
def N8 {a b:Stp}:sle a b=true↔a.1<b.1∨(a.1=b.1∧(a.2.1<b.2.1∨(a.2.1=b.2.1∧a.2.2<b.2.2))):=by
 unfold sle
 by_cases h1:a.1=b.1
 ·by_cases h2:a.2.1=b.2.1
  ·simp[h1,h2]
  ·have:(a.2.1 != b.2.1)=true:=by simpa using h2
   simp[h1,this,h2]
 ·have:(a.1 != b.1)=true:=by simpa using h1
  simp[this,h1]
def Ul (a b:Row):Bool:=cond (!((a.2.1.1==b.2.1.1)&&((a.2.1.2.1==b.2.1.2.1)&&(a.2.1.2.2==b.2.1.2.2)))) (sle a.2.1 b.2.1) (cond (!(a.2.2.1==b.2.2.1)) b.2.2.1 (decide (a.2.2.2<b.2.2.2)))
def M4a (a b:Row):Ft a b=some (Ul b a):=by
 unfold Ft Ul;rw[Pp,BEq.comm (a:=a.2.1.1),BEq.comm (a:=a.2.1.2.1),BEq.comm (a:=a.2.1.2.2),BEq.comm (a:=a.2.2.1)]
 cases (!((b.2.1.1==a.2.1.1)&&((b.2.1.2.1==a.2.1.2.1)&&(b.2.1.2.2==a.2.1.2.2))))<;>cases (!(b.2.2.1==a.2.2.1))<;>rfl
def Kf:Row:=((⟨#[]⟩:ByteArray),(((0:Int),((0:Int),(0:Int))),(false,(0:Int))))
def Tj (s:ByteArray):List Row→Nat→Option Nat
 |[],_=>none
 |r::l,i=>bif teq r.1 s then some i else Tj s l (i+1)
def Bxa (l:List Row) (s:ByteArray):Nat→Nat
 |0=>0
 |k+1=>bif tlt s (l.getD k Kf).1 then Bxa l s k else k+1
def mrg (l:List Row) (x:Row):List Row:=match Tj x.1 l 0 with
 |some i=>bif Ul (l.getD i Kf) x then l.set i x else l
 |none=>l.take (Bxa l x.1 l.length)++x::l.drop (Bxa l x.1 l.length)
def Y6 (l:List Row) (s:ByteArray):∀ k,Bxa l s k≤k
 |0=>Vv _
 |k+1=>by
  unfold Bxa
  cases tlt s (l.getD k Kf).1 with
  |true=>have:=Y6 l s k;simp only[cond_true];omega
  |false=>simp only[cond_false];omega
def W6 {s:ByteArray}:∀ (l:List Row) (i j:Nat),Tj s l i=some j→i≤j∧j<i+l.length∧teq (l.getD (j-i) Kf).1 s=true
 |[],i,j,h=>by simp[Tj]at h
 |r::l,i,j,h=>by
  unfold Tj at h
  cases ht:teq r.1 s with
  |true=>
   rw[ht]at h;simp only[cond_true,Vc]at h;subst h;refine⟨Vv _,by simp,?_⟩;rw[B3b];exact ht
  |false=>
   rw[ht]at h;simp only[cond_false]at h;obtain⟨h1,h2,h3⟩:=W6 l (i+1) j h;refine⟨by omega,by simp only[Vh];omega,?_⟩;rw[show j-i=(j-(i+1))+1 by omega];exact h3
def Bs {α:Type} {l:List α} {i:Nat} {d:α} (h:i<l.length):l.drop i=l.getD i d::l.drop (i+1):=by
 rw[Zd h,Vb,Ve h];rfl
def Few (l:List Row):Prop:=l.length≤1000000000000
def Bya (x:Row) (l0 l5:List Row) (h5:l5=l0):∀ (n:Nat) (i:Nat),l0.length-i=n→i≤l0.length→Few l0→
  Tot (λ k=>Df k l0 l5 l0 (l0.length:Int) (i:Int) x.1 x.2.1.1 x.2.1.2.1 x.2.1.2.2 x.2.2.1 x.2.2.2) (λ r=>r=match Tj x.1 (l0.drop i) i with
   |some j => .inl (bif Ul (l0.getD j Kf) x then l0.set j x else l0)
   |none => .inr (l0,x.1,x.2.1.1,x.2.1.2.1,x.2.1.2.2,x.2.2.1,x.2.2.2)):=by
 subst h5;intro n
 induction n with
 |zero=>
  intro i hn hi hf;unfold Few at hf;refine Tot.succ ?_;simp only[Df];refine Zla (by omega) (Zga ?_);rw[Yu (by omega)];rfl
 |succ n ih=>
  intro i hn hi hf;have hf':=hf;unfold Few at hf
  have hlt:i<l5.length:=by omega
  refine Tot.succ ?_;simp only[Df];refine Zka (by omega) (Zka (by omega) (Zka (by omega) ?_));have e0:toNat (i:Int)=i:=Vj i;rw[e0,Bs (d:=Kf) hlt];refine Zma (λ ht=>?_) (λ ht=>?_)
  ·have ht':teq (l5.getD i Kf).1 x.1=true:=ht;refine Zsa (Zua (Q:=λ r=>r=Ul (l5.getD i Kf) x) (M4a _ _) rfl) ?_;simp only[Tj,ht',cond_true]
   cases hb:Ul (l5.getD i Kf) x with
   |true=>exact Zja rfl (Zka (by omega) (Zka (by omega) (Zga rfl)))
   |false=>exact Zia rfl (Zga rfl)
  ·have ht':teq (l5.getD i Kf).1 x.1=false:=ht;simp only[Tj,ht',cond_false];rw[w64 (n:=(i:Int)+1) (by omega) (by omega)];exact ih (i+1) (by omega) (by omega) hf'
def Y7 (x:Row) (l:List Row) (hf:Few l):∀ (i:Nat),i≤l.length→
  Tot (λ k=>Cs k l (i:Int) x.1 x.2.1.1 x.2.1.2.1 x.2.1.2.2 x.2.2.1 x.2.2.2) (λ r=>r=(l,(Bxa l x.1 i:Int),x.1,x.2.1.1,x.2.1.2.1,x.2.1.2.2,x.2.2.1,x.2.2.2)):=by
 unfold Few at hf;intro i
 induction i with
 |zero=>
  intro hi;refine Tot.succ ?_;simp only[Cs];exact Zla (by omega) (Zga rfl)
 |succ i ih=>
  intro hi;refine Tot.succ ?_;simp only[Cs];rw[w64 (n:=((i+1:Nat):Int)-1) (by omega) (by omega),show ((i+1:Nat):Int)-1=(i:Int) by omega,show toNat (i:Int)=i from Vj i];refine Zka (by omega) (Zka (by omega) (Zka (by omega) ?_));have e:∀ z,(!(Op.bytesLess (l.getD i z).1.toList x.1.toList||(l.getD i z).1.toList==x.1.toList))=tlt x.1 (l.getD i z).1:=λ z=>X3a _ _;rw[e]
  have hc:Bxa l x.1 (i+1)=bif tlt x.1 (l.getD i Kf).1 then Bxa l x.1 i else i+1:=rfl
  refine Zma (λ ht=>?_) (λ ht=>?_)
  ·have ht':tlt x.1 (l.getD i Kf).1=true:=ht;rw[hc,ht',cond_true];exact ih (by omega)
  ·have ht':tlt x.1 (l.getD i Kf).1=false:=ht;rw[hc,ht',cond_false];exact Zga rfl
def Pq (l:List Row) (hf:Few l):Ac l=some l:=by
 unfold Few at hf;unfold Ac;rw[Zj (by simp only[Vs];omega)];rfl
def M5a (l:List Row) (x:Row) (hf:Few l):Tot (λ k=>Bt k l x) (λ r=>r=mrg l x):=by
 have hf':=hf;unfold Few at hf;unfold Bt;refine Zha (Zua (Q:=λ r=>r=l) (Pq l hf') rfl) ?_;rintro r rfl;refine Zha (Bya x r r rfl _ 0 rfl (Vu _) hf') ?_;rintro y rfl;rw[Yx];unfold mrg
 cases hfi:Tj x.1 r 0 with
 |some j=>exact Zga rfl
 |none=>
  simp only[B5b];refine Zha (Y7 x r hf' r.length (Vv _)) ?_;rintro z rfl;have hc:=Y6 r x.1 r.length;simp only;rw[show toNat ((Bxa r x.1 r.length:Nat):Int)=Bxa r x.1 r.length from Vj _];refine Zka (by omega) (Zka (by omega) ?_)
  have hft:Few (r.take (Bxa r x.1 r.length)):=by unfold Few;rw[Vp];omega
  refine Zha (Zua (Q:=λ q=>q=r.take (Bxa r x.1 r.length)) (Pq _ hft) rfl) ?_;rintro q rfl;refine Zoa (by simp only[Vp,Vh,Vs];omega) ?_;refine Zka (by omega) (Zka (by omega) (Zoa (by simp only[Vi,Vp,We,Vh,Vs];omega) (Zga ?_)));rw[Vo];rfl

def Y8 (a b:ByteArray):(a==b)=teq a b:=beq_toListBytes a b
def W7 {s:ByteArray}:∀ (l:List Row) (i:Nat),Tj s l i=none→∀ r∈l,r.1≠s
 |[],_,_,r,hr=>by simp at hr
 |a::l,i,h,r,hr=>by
  unfold Tj at h;cases ht:teq a.1 s
  case true=>rw[ht]at h;simp at h
  rw[ht]at h;rcases Vl.1 hr with rfl|hr
  ·intro e;rw[G9.2 e]at ht;cases ht
  ·exact W7 l (i+1) h r hr
def Uja (l:List Row) (x:Row):l.length≤(mrg l x).length∧(mrg l x).length≤l.length+1:=by
 unfold mrg;have hc:=Y6 l x.1 l.length;split
 ·cases Ul (l.getD _ Kf) x<;>simp
 ·simp only[Vi,Vp,Vh,We];omega
def Uka {l:List Row} {x r:Row} (h:r∈mrg l x):r=x∨r∈l:=by
 unfold mrg at h;split at h
 ·rename_i j hj;cases hb:Ul (l.getD j Kf) x
  ·rw[hb]at h;exact .inr h
  rw[hb,cond_true]at h;rcases Ys h with h|h
  ·exact .inr h
  ·exact .inl h
 ·rcases Vm.1 h with h|h
  ·exact .inr (Adb h)
  ·rcases Vl.1 h with h|h
   ·exact .inl h
   ·exact .inr (Zl h)
def Ls (a:Stp):sle a a=false:=by
 cases h:sle a a with
 |false=>rfl
 |true=>rw[N8]at h;omega
def Ga (l:List Row):Prop:=l.Pairwise (λ a b=>tlt a.1 b.1=true)
def Bza {l:List Row} {s:ByteArray} (hs:Ga l) (hn:∀ r∈l,r.1≠s):∀ k,k≤l.length→(∀ i,i<Bxa l s k→tlt (l.getD i Kf).1 s=true)∧(∀ i,Bxa l s k≤i→i<k→tlt s (l.getD i Kf).1=true)
 |0,_=>⟨λ i hi=>by simp[Bxa]at hi,λ i _ hi=>by omega⟩
 |k+1,hk=>by
  unfold Bxa
  cases ht:tlt s (l.getD k Kf).1 with
  |true=>
   simp only[cond_true];obtain⟨h1,h2⟩:=Bza hs hn k (by omega);refine⟨h1,λ i hi hik=>?_⟩
   by_cases e:i=k
   ·subst e;exact ht
   ·exact h2 i hi (by omega)
  |false=>
   simp only[cond_false];refine⟨λ i hi=>?_,λ i hi hik=>by omega⟩
   have hget:∀ j (hj:j<l.length),l.getD j Kf=l[j]:=λ j hj=>by rw[Vb,Ve hj];rfl
   have hkl:k<l.length:=by omega
   have hks:tlt (l.getD k Kf).1 s=true:=by
    cases h:tlt (l.getD k Kf).1 s
    case true=>rfl
    exfalso;exact hn (l.getD k Kf) (by rw[hget k hkl];exact Blb hkl) (Ti h ht)
   by_cases e:i=k
   ·subst e;exact hks
   ·have h3:=(Yp.1 hs) i k (by omega) hkl (by omega);rw[hget i (by omega)];rw[hget k hkl]at hks;exact Iq h3 hks
def Iia {l:List Row} {x:Row} (hs:Ga l):Ga (mrg l x):=by
 have hget:∀ j (hj:j<l.length),l.getD j Kf=l[j]:=λ j hj=>by rw[Vb,Ve hj];rfl
 unfold mrg;split
 ·rename_i j hj;obtain⟨_,h2,h3⟩:=W6 l 0 j hj;rw[C0b]at h3
  have hjl:j<l.length:=by omega
  have hname:l[j].1=x.1:=by rw[← hget j hjl];exact G9.1 h3
  cases hb:Ul (l.getD j Kf) x
  ·exact hs
  rw[cond_true];unfold Ga;rw[Yp];intro a b ha hb hab;rw[Wa]at ha hb;have:=(Yp.1 hs) a b ha hb hab;rw[Chb,Chb]
  by_cases e1:j=a
  ·subst e1;rw[if_pos rfl,if_neg (by omega),← hname];exact this
  ·rw[if_neg e1]
   by_cases e2:j=b
   ·subst e2;rw[if_pos rfl,← hname];exact this
   ·rw[if_neg e2];exact this
 ·rename_i hj;have hn:=W7 l 0 hj;obtain⟨c1,c2⟩:=Bza hs hn l.length (Vv _);have hc:=Y6 l x.1 l.length;unfold Ga;rw[Za,Wd];refine⟨Bjb (Cbb _ _) hs,⟨λ r hr=>?_,Bjb (List.drop_sublist _ _) hs⟩,λ r hr q hq=>?_⟩
  ·obtain⟨i,hi,rfl⟩:=Bwb hr;rw[We]at hi;rw[List.getElem_drop,← hget _ (by omega)];exact c2 _ (by omega) (by omega)
  ·obtain⟨i,hi,rfl⟩:=Bwb hr;rw[Vp]at hi
   have h1:tlt (List.take (Bxa l x.1 l.length) l)[i].1 x.1=true:=by
    rw[Aub,← hget _ (by omega)];exact c1 i (by omega)
   rcases Vl.1 hq with rfl|hq
   ·exact h1
   ·refine Iq h1 ?_;obtain⟨m,hm,rfl⟩:=Bwb hq;rw[We]at hm;rw[List.getElem_drop,← hget _ (by omega)];exact c2 _ (by omega) (by omega)

def inR (n lo hi:Int):Bool:=decide (n≥lo)&&decide (n≤hi)
def Ku (n lo hi:Int):Ba n lo hi=some (inR n lo hi):=by
 unfold Ba inR
 cases decide (n≥lo)<;>rfl
def Dl {n lo hi:Int}:inR n lo hi=true↔lo≤n∧n≤hi:=by
 unfold inR;simp
def C0a (c:Int):Bool:=inR c 97 122||(inR c 48 57||(!(c != 45)||(!(c != 95)||!(c != 47))))
def L8 (s:ByteArray):Prop:=s.size≤4611686018427387904
def Ol (s:ByteArray):s.data.toList.length=s.size:=Yw
def M6a (s:ByteArray) (i:Int):0≤bt s i∧bt s i≤255:=by
 unfold bt;have:=(s.data.toList.getD i.toNat 0).toNat_lt;omega
def Yga (s:ByteArray) (i:Nat) (h:i<s.size):bt s (i:Int)=((s.data.toList[i]'(by rw[Ol];exact h)).toNat:Int):=by
 unfold bt;rw[Vj,Vb,Ve (by rw[Ol];exact h)];rfl
def bOk (b:UInt8):Bool:=C0a (b.toNat:Int)
def Efa (s:ByteArray) (hs:L8 s):∀ (n i:Nat),s.size-i=n→i≤s.size→
  Tot (λ k=>Ah k s (i:Int)) (λ r=>r=bif (s.data.toList.drop i).all bOk then .inr s else .inl false):=by
 unfold L8 at hs;have hsz:=Ol s;intro n
 induction n with
 |zero=>
  intro i hn hi;refine Tot.succ ?_;simp only[Ah];refine Zla (by omega) (Zga ?_);rw[Yu (by omega)];rfl
 |succ n ih=>
  intro i hn hi
  have hlt:i<s.size:=by omega
  refine Tot.succ ?_;simp only[Ah];refine Zka (by omega) (Zka (by omega) (Zka (by omega) ?_));rw[w64 (n:=(i:Int)+1) (by omega) (by omega)]
  have hb:bOk (s.data.toList[i]'(by omega))=C0a (bt s (i:Int)):=by rw[Yga s i hlt];rfl
  rw[Zd (by omega),Atb,hb];generalize bt s (i:Int)=c;have h1:=ih (i+1) (by omega) (by omega)
  have e:(((i+1:Nat)):Int)=(i:Int)+1:=by omega
  rw[e]at h1
  cases hc:C0a c with
  |true=>
   rw[Wn];refine h1.mono (λ r hr=>hr) |> λ h=>?_;obtain⟨r,K,h2,h3⟩:=h;refine⟨r,K,λ k hk=>?_,h3⟩;rw[← h2 k hk];unfold C0a inR at hc
   revert hc
   cases decide (c≥97)<;>cases decide (c≤122)<;>cases decide (c≥48)<;>cases decide (c≤57)<;>cases (c != 45)<;>cases (c != 95)<;>cases (c != 47)<;>first|(intro _;rfl)|(intro hc;cases hc)
  |false=>
   rw[Zwa];refine⟨.inl false,0,λ k _=>?_,rfl⟩;unfold C0a inR at hc
   revert hc
   cases decide (c≥97)<;>cases decide (c≤122)<;>cases decide (c≥48)<;>cases decide (c≤57)<;>cases (c != 45)<;>cases (c != 95)<;>cases (c != 47)<;>first|(intro _;rfl)|(intro hc;cases hc)
def Bc (s:ByteArray):Bool:=s.data.toList.all bOk&&inR (s.size:Int) 1 20
def Ju (s:ByteArray) (hs:L8 s):Tot (λ k=>Ae k s) (λ r=>r=Bc s):=by
 unfold Ae Bc;refine Zsa (Efa s hs _ 0 rfl (Vu _)) ?_;rw[Yx]
 cases s.data.toList.all bOk with
 |true=>exact Zua (a:=inR (s.size:Int) 1 20) (by simp only[cond_true,B5b,Ku,Vt]) (by rw[Wn])
 |false=>exact Zga rfl
def Gr (s:Stp):Bool:=inR s.1 0 1000000000&&(inR s.2.1 0 1000000&&inR s.2.2 0 20)
def Pr (s:Stp):Bo s=some (Gr s):=by
 unfold Bo Gr;simp only[Ku,Vt]
 cases inR s.1 0 1000000000<;>cases inR s.2.1 0 1000000<;>rfl
def L9 (x:Row):Bool:=Bc x.1&&(Gr x.2.1&&(inR x.2.2.2 0 200&&(!x.2.2.1||x.2.2.2==0)))
def M7a (x:Row) (hs:L8 x.1):Tot (λ k=>Gk k x) (λ r=>r=L9 x):=by
 unfold Gk L9;refine Zsa (Ju x.1 hs) ?_;cases Bc x.1
 ·exact Zga rfl
 refine Zua (a:=Gr x.2.1&&(inR x.2.2.2 0 200&&(!x.2.2.1||x.2.2.2==0))) ?_ (by rw[Wn]);simp only[cond_true,Pr,Ku,Vt]
 cases Gr x.2.1<;>cases inR x.2.2.2 0 200<;>cases x.2.2.1<;>rfl
def chk:Option ByteArray→List Row→Bool
 |_,[]=>true
 |none,r::l=>L9 r&&chk (some r.1) l
 |some q,r::l=>L9 r&&(tlt q r.1&&chk (some r.1) l)
def I1 (l:List Row):Bool:=chk none l&&decide ((l.length:Int)≤60)
def Y9 (l:List Row):Prop:=∀ r∈l,L8 r.1
def C1a (l:List Row):Nat→Option ByteArray
 |0=>none
 |i+1=>some (l.getD i Kf).1
def Q4a (l:List Row) (i:Nat) (h:i<l.length):chk (C1a l i) (l.drop i)=(L9 (l.getD i Kf)&&(bif decide (0<i) then tlt (l.getD (i-1) Kf).1 (l.getD i Kf).1 else true)&&chk (C1a l (i+1)) (l.drop (i+1))):=by
 rw[Bs (d:=Kf) h]
 cases i with
 |zero=>simp[C1a,chk]
 |succ i=>simp[C1a,chk,Crb]
def A3 {α:Type} {l:List α} {i:Nat} {d:α} (h1:i<l.length):l.getD i d∈l:=by
 rw[Vb,Ve h1];exact Blb h1
def Ega (l:List Row) (hf:Few l) (hs:Y9 l):∀ (n i:Nat),l.length-i=n→i≤l.length→
  Tot (λ k=>Ea k l l (l.length:Int) (i:Int)) (λ r=>r=bif chk (C1a l i) (l.drop i) then .inr l else .inl false):=by
 unfold Few at hf;intro n
 induction n with
 |zero=>
  intro i hn hi;refine Tot.succ ?_;simp only[Ea];refine Zla (by omega) (Zga ?_);rw[Yu (by omega)]
  cases C1a l i<;>rfl
 |succ n ih=>
  intro i hn hi
  have hlt:i<l.length:=by omega
  refine Tot.succ ?_;simp only[Ea];refine Zka (by omega) (Zka (by omega) (Zka (by omega) ?_));rw[show toNat (i:Int)=i from Vj i,w64 (n:=(i:Int)+1) (by omega) (by omega),Q4a l i hlt];have h1:=ih (i+1) (by omega) (by omega)
  have e:(((i+1:Nat)):Int)=(i:Int)+1:=by omega
  rw[e]at h1;refine Zsa (M7a (l.getD i Kf) (hs _ (A3 hlt))) ?_;cases hb:L9 (l.getD i Kf)
  ·exact Zja rfl (Zga (by simp))
  refine Zia rfl ?_;rw[Wn];refine Zna (λ h0=>?_) (λ h0=>?_)
  ·rw[w64 (n:=(i:Int)-1) (by omega) (by omega)];refine Zka (by omega) (Zka (by omega) ?_);rw[show toNat ((i:Int)-1)=i-1 by omega,decide_eq_true (show 0<i by omega),cond_true];have et:(!(Op.bytesLess (l.getD (i-1) Kf).1.toList (l.getD i Kf).1.toList)) = !(tlt (l.getD (i-1) Kf).1 (l.getD i Kf).1):=rfl;refine Zma (λ ht=>?_) (λ ht=>?_)
   ·have ht':(!(tlt (l.getD (i-1) Kf).1 (l.getD i Kf).1))=true:=ht;rw[Vy]at ht';exact Zga (by rw[ht'];rfl)
   ·have ht':(!(tlt (l.getD (i-1) Kf).1 (l.getD i Kf).1))=false:=ht;rw[Ye]at ht';rw[ht',Wn];exact h1
  ·rw[decide_eq_false (show ¬ 0<i by omega),cond_false,Wn];exact h1
def Gwa (l:List Row) (hf:Few l) (hs:Y9 l):Tot (λ k=>D8 k l) (λ r=>r=I1 l):=by
 unfold D8 I1;refine Zsa (Ega l hf hs _ 0 rfl (Vu _)) ?_;rw[Yx];show Tot _ (λ r=>r=(chk none l&&_))
 cases hc:chk none l with
 |true=>rw[show chk (C1a l 0) l=true from hc];exact Zga (by rw[Wn])
 |false=>rw[show chk (C1a l 0) l=false from hc];exact Zga rfl
def Eha:∀ (p:Option ByteArray) (l:List Row),chk p l=true↔Ga l∧(∀ r∈l,L9 r=true)∧(∀ q,p=some q→∀ r∈l,tlt q r.1=true)
 |p,[]=>by
  have:chk p []=true:=by cases p<;>rfl
  simp[this,Ga]
 |none,r::l=>by
  simp only[chk,Va,Eha (some r.1) l,Ga,Wd];constructor
  ·rintro⟨h1,h2,h3,h4⟩;exact⟨⟨λ a ha=>h4 _ rfl a ha,h2⟩,λ a ha=>by rcases Vl.1 ha with rfl|ha;exact h1;exact h3 a ha,λ q hq=>by cases hq⟩
  ·rintro⟨⟨h1,h2⟩,h3,_⟩;exact⟨h3 r (by simp),h2,λ a ha=>h3 a (Vg _ ha),λ q hq a ha=>by cases hq;exact h1 a ha⟩
 |some q,r::l=>by
  simp only[chk,Va,Eha (some r.1) l,Ga,Wd];constructor
  ·rintro⟨h1,h0,h2,h3,h4⟩;refine⟨⟨λ a ha=>h4 _ rfl a ha,h2⟩,λ a ha=>by rcases Vl.1 ha with rfl|ha;exact h1;exact h3 a ha,λ q' hq a ha=>?_⟩;cases hq;rcases Vl.1 ha with rfl|ha
   ·exact h0
   ·exact Iq h0 (h4 _ rfl a ha)
  ·rintro⟨⟨h1,h2⟩,h3,h4⟩;exact⟨h3 r (by simp),h4 q rfl r (by simp),h2,λ a ha=>h3 a (Vg _ ha),λ q' hq a ha=>by cases hq;exact h1 a ha⟩
def Iz {l:List Row}:I1 l=true↔Ga l∧(∀ r∈l,L9 r=true)∧l.length≤60:=by
 unfold I1;simp only[Va,Eha,decide_eq_true_eq];constructor
 ·rintro⟨⟨h1,h2,_⟩,h3⟩;exact⟨h1,h2,by omega⟩
 ·rintro⟨h1,h2,h3⟩;exact⟨⟨h1,h2,λ q hq=>by cases hq⟩,by omega⟩
def C2a (a b:List Row):List Row:=b.foldl mrg a
def Gxa {a b:List Row} {r:Row} (h:r∈C2a a b):r∈a∨r∈b:=by
 induction b generalizing a with
 |nil=>exact .inl h
 |cons x b ih=>
  rcases ih (a:=mrg a x) h with h|h
  ·rcases Uka h with rfl|h
   ·exact .inr (by simp)
   ·exact .inl h
  ·exact .inr (Vg _ h)
def Eia {a b:List Row} (h:Ga a):Ga (C2a a b):=by
 induction b generalizing a with
 |nil=>exact h
 |cons x b ih=>exact ih (Iia h)
def Yy (b:List Row) (hb:Few b):∀ (n i:Nat) (a:List Row),b.length-i=n→i≤b.length→a.length+(b.length-i)≤1000000000000→
  Tot (λ k=>Ct k a b (b.length:Int) (i:Int)) (λ r=>r=C2a a (b.drop i)):=by
 unfold Few at hb;intro n
 induction n with
 |zero=>
  intro i a hn hi hf;refine Tot.succ ?_;simp only[Ct];refine Zla (by omega) (Zga ?_);rw[Yu (by omega)];rfl
 |succ n ih=>
  intro i a hn hi hf
  have hlt:i<b.length:=by omega
  refine Tot.succ ?_;simp only[Ct];refine Zka (by omega) (Zka (by omega) (Zka (by omega) ?_));rw[show toNat (i:Int)=i from Vj i,w64 (n:=(i:Int)+1) (by omega) (by omega),Bs (d:=Kf) hlt];refine Zsa (M5a a (b.getD i Kf) (by unfold Few;omega)) ?_;have:=Uja a (b.getD i Kf);exact ih (i+1) (mrg a (b.getD i Kf)) (by omega) (by omega) (by omega)
def Ija (a b:List Row) (hf:a.length+b.length≤1000000000000):Tot (λ k=>Bx k a b) (λ r=>r=C2a a b):=by
 unfold Bx;refine Zha (Zua (Q:=λ r=>r=a) (Pq a (by unfold Few;omega)) rfl) ?_;rintro r rfl;refine Zha (Yy b (by unfold Few;omega) _ 0 r rfl (Vu _) (by omega)) ?_;rintro y rfl;rw[Yx];exact Zga rfl
def mx (a b:Row):Row:=bif Ul a b then b else a

def Yz:Nat→Nat→List Int
 |0,n=>[(n:Int)]
 |f+1,n=>if n≤127 then [(n:Int)] else ((n % 128+128:Nat):Int)::Yz f (n/128)
def M0 (n:Nat):List Int:=Yz 4 n
def S4:Nat→Nat→Nat→List Int→Option (Nat×Nat)
 |0,_,_,_=>none
 |_+1,_,_,[]=>none
 |f+1,k,acc,x::l=>if 128≤x then S4 f (k+1) (acc+x.toNat % 128*128 ^ k) l
  else if (x=0∧0<k)∨1000000000<acc+x.toNat % 128*128 ^ k then none else some (acc+x.toNat % 128*128 ^ k,k+1)
def W8 (l:List Int) (p:Nat):Option (Nat×Nat):=match S4 5 0 0 (l.drop p) with
 |some (n,c)=>some (n,p+c)
 |none=>none
def M8a:∀ (f n:Nat),(Yz f n).length≤f+1∧0<(Yz f n).length
 |0,n=>by simp[Yz]
 |f+1,n=>by
  unfold Yz;split
  ·simp
  ·have:=M8a f (n/128);simp only[Vh];omega
def Om:∀ (f k acc:Nat) (l:List Int) (n c:Nat),Ax l→S4 f k acc l=some (n,c)→acc<128 ^ k→k<c∧c≤k+f∧c-k≤l.length∧n≤1000000000
 |0,_,_,_,_,_,_,h,_=>by simp[S4]at h
 |_+1,_,_,[],_,_,_,h,_=>by simp[S4]at h
 |f+1,k,acc,x::l,n,c,hb,h,ha=>by
  have hx:=hb x (by simp);unfold S4 at h;split at h
  ·have h1:acc+x.toNat % 128*128 ^ k<128 ^ (k+1):=by
    have h2:x.toNat % 128≤127:=by omega
    have h3:=Wj (128 ^ k) h2;rw[A8b];omega
   have:=Om f (k+1) _ l n c (λ y hy=>hb y (Vg _ hy)) h h1;simp only[Vh];omega
  ·split at h
   ·cases h
   ·simp only[Vc,Vw]at h;obtain⟨rfl,rfl⟩:=h;simp only[Vh];omega
def M9a:∀ (f k acc:Nat) (l:List Int) (n c:Nat),Ax l→S4 (f+1) k acc l=some (n,c)→acc<128 ^ k→∃ m,n=acc+m*128 ^ k∧l=Yz f m++l.drop (c-k)∧(m=0→c=k+1∧(0<k→False))∧m<128 ^ (f+1)
 |0,k,acc,[],n,c,hb,h,ha=>by simp[S4]at h
 |_+1,k,acc,[],n,c,hb,h,ha=>by simp[S4]at h
 |0,k,acc,x::l,n,c,hb,h,ha=>by
  have hx:=hb x (by simp);unfold S4 at h;split at h
  ·simp[S4]at h
  ·rename_i h128;split at h
   ·cases h
   ·rename_i hz;simp only[Vc,Vw]at h;obtain⟨rfl,rfl⟩:=h;have hm:x.toNat % 128=x.toNat:=A6b (by omega);refine⟨x.toNat,by rw[hm],?_,λ h0=>⟨rfl,λ hk=>hz (.inl ⟨by omega,hk⟩)⟩,by omega⟩;rw[show k+1-k=1 by omega];show x::l=[((x.toNat:Nat):Int)]++l;rw[show ((x.toNat:Nat):Int)=x by omega];rfl
 |f+1,k,acc,x::l,n,c,hb,h,ha=>by
  have hx:=hb x (by simp);have hb':Ax l:=λ y hy=>hb y (Vg _ hy);unfold S4 at h;split at h
  ·rename_i h128
   have h1:acc+x.toNat % 128*128 ^ k<128 ^ (k+1):=by
    have h2:x.toNat % 128≤127:=by omega
    have h3:=Wj (128 ^ k) h2;rw[A8b];omega
   obtain⟨m,e1,e2,e3,e4⟩:=M9a f (k+1) _ l n c hb' h h1;have hbd:=Om (f+1) (k+1) _ l n c hb' h h1;have hm0:m≠0:=λ h0=>(e3 h0).2 (by omega);refine⟨x.toNat % 128+m*128,?_,?_,λ h0=>by omega,?_⟩
   ·rw[e1,A8b,Yv]
    have:m*128*128 ^ k=m*(128 ^ k*128):=by rw[Nat.mul_assoc,Nat.mul_comm 128]
    omega
   ·unfold Yz;rw[if_neg (by omega),show (x.toNat % 128+m*128)/128=m by omega,show (x.toNat % 128+m*128) % 128=x.toNat % 128 by omega,show c-k=(c-(k+1))+1 by omega,List.drop_succ_cons,List.cons_append,← e2];congr 1;omega
   ·rw[A8b];omega
  ·rename_i h128;split at h
   ·cases h
   ·rename_i hz;simp only[Vc,Vw]at h;obtain⟨rfl,rfl⟩:=h;have hm:x.toNat % 128=x.toNat:=A6b (by omega)
    have hp:128≤128 ^ (f+1+1):=by
     have:=Nat.pow_le_pow_right (show 0<128 by decide) (show 1≤f+1+1 by omega)
     simpa using this
    refine⟨x.toNat,by rw[hm],?_,λ h0=>⟨rfl,λ hk=>hz (.inl ⟨by omega,hk⟩)⟩,by omega⟩;rw[show k+1-k=1 by omega];unfold Yz;rw[if_pos (by omega)];show x::l=[((x.toNat:Nat):Int)]++l;rw[show ((x.toNat:Nat):Int)=x by omega];rfl
def Maa:∀ (f k acc m:Nat) (rest:List Int),m<128 ^ (f+1)→(0<k→0<m)→acc+m*128 ^ k≤1000000000→S4 (f+1) k acc (Yz f m++rest)=some (acc+m*128 ^ k,k+(Yz f m).length)
 |0,k,acc,m,rest,hm,hk,hn=>by
  show S4 1 k acc ((m:Int)::rest)=_;unfold S4
  have h1:m<128:=by simpa using hm
  rw[if_neg (by omega),if_neg (by
   rw[show (m:Int).toNat % 128=m by rw[Vj];exact A6b h1]
   omega)]
  rw[show (m:Int).toNat % 128=m by rw[Vj];exact A6b h1];rfl
 |f+1,k,acc,m,rest,hm,hk,hn=>by
  unfold Yz
  by_cases h:m≤127
  ·rw[if_pos h];show S4 (f+2) k acc ((m:Int)::rest)=_;unfold S4
   rw[if_neg (by omega),if_neg (by
    rw[show (m:Int).toNat % 128=m by rw[Vj];exact A6b (by omega)]
    omega)]
   rw[show (m:Int).toNat % 128=m by rw[Vj];exact A6b (by omega)];rfl
  ·rw[if_neg h];show S4 (f+2) k acc (((m % 128+128:Nat):Int)::(Yz f (m/128)++rest))=_;unfold S4
   have e1:(((m % 128+128:Nat):Int)).toNat % 128=m % 128:=by rw[Vj];omega
   rw[if_pos (by omega),e1]
   have hmod:m=m % 128+m/128*128:=by omega
   have hm2:m/128<128 ^ (f+1):=by rw[A8b]at hm;omega
   have e2:acc+m % 128*128 ^ k+m/128*128 ^ (k+1)=acc+m*128 ^ k:=by
    have h2:m*128 ^ k=(m % 128+m/128*128)*128 ^ k:=by rw[← hmod]
    rw[h2,Yv,A8b]
    have:m/128*128*128 ^ k=m/128*(128 ^ k*128):=by rw[Nat.mul_assoc,Nat.mul_comm 128]
    omega
   rw[Maa f (k+1) (acc+m % 128*128 ^ k) (m/128) rest hm2 (λ _=>by omega) (by rw[e2];exact hn),e2,Vh];simp only[Vc,Vw,true_and];omega
def Gya (pre:List Int) (n:Nat) (rest:List Int) (hn:n≤1000000000):W8 (pre++(M0 n++rest)) pre.length=some (n,pre.length+(M0 n).length):=by
 unfold W8;rw[Zi];have:=Maa 4 0 0 n rest (by omega) (by omega) (by omega);unfold M0;rw[this];simp
def Eja {l:List Int} {p n q:Nat} (hb:Ax l) (h:W8 l p=some (n,q)):l.drop p=M0 n++l.drop q∧n≤1000000000∧p<q∧q≤l.length:=by
 unfold W8 at h;split at h
 ·rename_i m c hd;simp only[Vc,Vw]at h;obtain⟨rfl,rfl⟩:=h;have hb':Ax (l.drop p):=λ y hy=>hb y (Zl hy);have hbd:=Om 5 0 0 _ _ _ hb' hd (by decide);obtain⟨m',e1,e2,_,_⟩:=M9a 4 0 0 _ _ _ hb' hd (by decide)
  have e3:m=m':=by rw[e1];simp
  subst e3;rw[We]at hbd;refine⟨?_,hbd.2.2.2,by omega,by omega⟩;rw[C0b,Yo]at e2;exact e2
 ·cases h
def Zca (i:Nat) (hi:i<5):(2:Int) ^ (min (toNat (wrap .i64 (7*(i:Int)))) (IntKind.bits .i64))=((128 ^ i:Nat):Int):=by
 have:i=0∨i=1∨i=2∨i=3∨i=4:=by omega
 rcases this with rfl|rfl|rfl|rfl|rfl<;>decide
def sh7 (i:Nat) (hi:i<5):¬ (wrap .i64 (7*(i:Int))<0)∧¬ (wrap .u64 (wrap .i64 (7*(i:Int)))<0):=by
 have:i=0∨i=1∨i=2∨i=3∨i=4:=by omega
 rcases this with rfl|rfl|rfl|rfl|rfl<;>decide
def Tk (i:Nat) (hi:i≤5):128 ^ i≤34359738368:=by
 have:=Nat.pow_le_pow_right (show 0<128 by decide) hi
 simpa using this
def Sda (l:List Int) (p:Int):Int×Int×Bool:=if p<0 then (0,0,false) else match W8 l p.toNat with
 |some (n,q)=>((n:Int),(q:Int),true)
 |none=>(0,0,false)
def Z4a (p:Nat):Option (Nat×Nat)→Int×Int×Bool
 |some (n,c)=>((n:Int),((p+c:Nat):Int),true)
 |none=>(0,0,false)
def Mba (r:Sum (Int×Int×Bool) Unit):Int×Int×Bool:=Sum.elim (λ y=>y) (λ _=>(0,0,false)) r
def Mca {l:List Int} {p:Nat} (h:p<l.length):l.drop p=l.getD p 0::l.drop (p+1):=Bs h
def Ika (l:List Int) (hb:Ax l) (hl:l.length≤1000000000000) (p:Nat) (hp:p≤1000000000000):∀ (f i acc:Nat),f+i=5→acc<128 ^ i→
  Tot (λ k=>Eb k l (p:Int) (acc:Int) (i:Int)) (λ r=>Mba r=Z4a p (S4 f i acc (l.drop (p+i)))):=by
 intro f
 induction f with
 |zero=>
  intro i acc hi ha;refine Tot.succ ?_;simp only[Eb];exact Zla (by omega) (Zga rfl)
 |succ f ih=>
  intro i acc hi ha
  have hi5:i<5:=by omega
  refine Tot.succ ?_;simp only[Eb];refine Zka (by omega) (Zka (by omega) ?_);rw[w64 (n:=(l.length:Int)-(i:Int)) (by omega) (by omega),w64 (n:=(p:Int)+(i:Int)) (by omega) (by omega),show toNat ((p:Int)+(i:Int))=p+i by omega];refine Zna (λ h=>?_) (λ h=>?_)
  ·have hlt:p+i<l.length:=by omega
   refine Zka (by omega) (Zka (by omega) ?_);have hx:=hb (l.getD (p+i) 0) (A3 hlt);rw[Mca hlt,Zca i hi5]
   have he:S4 (f+1) i acc (l.getD (p+i) 0::l.drop (p+i+1))=if 128≤l.getD (p+i) 0 then S4 f (i+1) (acc+(l.getD (p+i) 0).toNat % 128*128 ^ i) (l.drop (p+i+1)) else if (l.getD (p+i) 0=0∧0<i)∨1000000000<acc+(l.getD (p+i) 0).toNat % 128*128 ^ i then none else some (acc+(l.getD (p+i) 0).toNat % 128*128 ^ i,i+1):=rfl
   rw[he];generalize l.getD (p+i) 0=x at hx ⊢;obtain⟨v,rfl⟩:∃ v:Nat,x=(v:Int):=⟨x.toNat,by omega⟩;rw[Vj];have hp1:=Tk i (by omega);have hmul:v % 128*128 ^ i≤127*34359738368:=Nat.mul_le_mul (by omega) hp1;rw[w64 (n:=(v:Int)) (by omega) (by omega)]
   have e1:Int.tmod (v:Int) 128*((128 ^ i:Nat):Int)=((v % 128*128 ^ i:Nat):Int):=by
    rw[Zva (by omega)]
    push_cast
    rfl
   rw[e1,w64 (n:=((v % 128*128 ^ i:Nat):Int)) (by omega) (by omega),← Int.natCast_add,w64 (n:=((acc+v % 128*128 ^ i:Nat):Int)) (by omega) (by omega),w64 (n:=(i:Int)+1) (by omega) (by omega),w64 (n:=(p:Int)+(i:Int)+1) (by omega) (by omega)];refine Zla (sh7 i hi5).1 ?_;refine Zna (λ h128=>?_) (λ h128=>?_)
   ·rw[if_pos (by omega)]
    have h1:acc+v % 128*128 ^ i<128 ^ (i+1):=by
     have h2:v % 128≤127:=by omega
     have h3:=Wj (128 ^ i) h2;rw[A8b];omega
    have:=ih (i+1) (acc+v % 128*128 ^ i) (by omega) h1;rw[show p+(i+1)=p+i+1 by omega]at this;exact this
   ·rw[if_neg (by omega)]
    have big:Tot (λ _:Nat=>cond (decide (((acc+v % 128*128 ^ i:Nat):Int) > 1000000000)) (some (Sum.inl ((0:Int),(0:Int),false))) (some (Sum.inl (((acc+v % 128*128 ^ i:Nat):Int),(p:Int)+(i:Int)+1,true))):Nat→Option (Sum (Int×Int×Bool) Unit))
      (λ r=>Mba r=if 1000000000<acc+v % 128*128 ^ i then (0,0,false) else (((acc+v % 128*128 ^ i:Nat):Int),((p+(i+1):Nat):Int),true)):=by
     refine Zna (λ hbig=>?_) (λ hbig=>?_)
     ·rw[if_pos (by omega)];exact Zga rfl
     ·rw[if_neg (by omega)];refine Zga ?_;show (_,_,_)=_;rw[show (p:Int)+(i:Int)+1=((p+(i+1):Nat):Int) by omega]
    have goal:∀ c:Prop,[Decidable c]→(if c∨1000000000<acc+v % 128*128 ^ i then none else some (acc+v % 128*128 ^ i,i+1))=if c then none else if 1000000000<acc+v % 128*128 ^ i then (none:Option (Nat×Nat)) else some (acc+v % 128*128 ^ i,i+1):=by
     intro c _
     by_cases h1:c<;>by_cases h2:1000000000<acc+v % 128*128 ^ i<;>simp[h1,h2]
    rw[goal]
    have fin:(Z4a p (if 1000000000<acc+v % 128*128 ^ i then (none:Option (Nat×Nat)) else some (acc+v % 128*128 ^ i,i+1)))=if 1000000000<acc+v % 128*128 ^ i then (0,0,false) else (((acc+v % 128*128 ^ i:Nat):Int),((p+(i+1):Nat):Int),true):=by
     split<;>rfl
    refine Zma (λ h0=>?_) (λ h0=>?_)
    ·have hv:v=0:=by
      have:=beq_iff_eq.1 h0;omega
     refine Zna (λ hi0=>?_) (λ hi0=>?_)
     ·rw[if_pos ⟨by omega,by omega⟩];exact Zga rfl
     ·rw[if_neg (by omega),fin];exact big
    ·have hv:v≠0:=by
      intro e;subst e;simp at h0
     rw[if_neg (by omega),fin];exact big
  ·refine Zga ?_;rw[Yu (by omega)];rfl
def Mda (l:List Int) (hb:Ax l) (hl:l.length≤1000000000000) (p:Int) (hp:p≤1000000000000):Tot (λ k=>Fc k l p) (λ r=>r=Sda l p):=by
 unfold Fc Sda
 by_cases h0:p<0
 ·rw[if_pos h0];refine Zha (Q:=λ r=>r = .inr ()) ?_ ?_
  ·refine Tot.succ ?_;simp only[Eb];exact Zka (by omega) (Zla (by omega) (Zga rfl))
  ·rintro r rfl;exact Zga rfl
 ·rw[if_neg h0];obtain⟨n,rfl⟩:∃ n:Nat,p=(n:Int):=⟨p.toNat,by omega⟩;rw[Vj];refine Zha (Ika l hb hl n (by omega) 5 0 0 rfl (by decide)) ?_;intro r hr;unfold W8;rw[Zu]at hr
  have hr':Mba r=(match (match S4 5 0 0 (l.drop n) with|some (m,c)=>some (m,n+c)|none=>none) with|some (m,q)=>((m:Int),(q:Int),true)|none=>((0:Int),(0:Int),false)):=by
   rw[hr]
   cases S4 5 0 0 (l.drop n) with
   |none=>rfl
   |some mc=>rfl
  rw[← hr']
  cases r with
  |inl y=>exact Zga rfl
  |inr z=>exact Zga rfl

def Cv (n:Int):Nat:=(max 0 (min n 1000000000)).toNat
def Lt (n:Int):Cv n≤1000000000:=by unfold Cv;omega
def Tl {n:Int} (h0:0≤n) (h1:n≤1000000000):(Cv n:Int)=n:=by unfold Cv;omega
def Mea (n:Nat) (h:n≤255):wrap .u8 (n:Int)=(n:Int):=by
 rw[Bab];omega
def Ila:∀ (f n:Nat) (out:List Int),n<128 ^ (f+1)→f≤4→out.length+f≤1000000000010→
  Tot (λ k=>Ev k out (n:Int)) (λ r=>∃ m:Nat,r.2=(m:Int)∧m≤127∧r.1++[(m:Int)]=out++Yz f n∧r.1.length≤out.length+f):=by
 intro f
 induction f with
 |zero=>
  intro n out hn hf hl;refine Tot.succ ?_;simp only[Ev]
  have:n<128:=by simpa using hn
  exact Zla (by omega) (Zga ⟨n,rfl,by omega,rfl,by simp⟩)
 |succ f ih=>
  intro n out hn hf hl;have hp:=Tk (f+1+1-1) (by omega);refine Tot.succ ?_;simp only[Ev];refine Zna (λ h=>?_) (λ h=>?_)
  ·have hn2:n/128<128 ^ (f+1):=by rw[A8b]at hn;omega
   have hn3:n<4398046511104:=by
    have:=Tk (f+1) (by omega);rw[A8b]at hn;omega
   have e1:Int.tmod (n:Int) 128+128=((n % 128+128:Nat):Int):=by
    rw[Zva (by omega)];omega
   have e2:Int.tdiv (n:Int) 128=((n/128:Nat):Int):=by
    rw[Avb (by omega)];omega
   rw[e1,e2,w64 (n:=((n % 128+128:Nat):Int)) (by omega) (by omega),w64 (n:=((n/128:Nat):Int)) (by omega) (by omega),Mea _ (by omega)];refine Zoa (by simp only[Vh,Vs];omega) ?_;refine(ih (n/128) (out++[((n % 128+128:Nat):Int)]) hn2 (by omega) (by simp only[Vi,Vh,Vs];omega)).mono ?_;rintro r ⟨m,h1,h2,h3,h4⟩;refine⟨m,h1,h2,?_,by simp only[Vi,Vh,Vs]at h4;omega⟩;rw[h3,Vo];congr 1
   conv => { rhs;unfold Yz }
   rw[if_neg (by omega)];rfl
  ·refine Zga ⟨n,rfl,by omega,?_,by show out.length≤out.length+(f+1);omega⟩;unfold Yz;rw[if_pos (by omega)]
def Tm (out:List Int) (n:Int) (hl:out.length≤1000000000000):Tot (λ k=>Ds k out n) (λ r=>r=out++M0 (Cv n)):=by
 unfold Ds
 have e:(if (0:Int)<(if (1000000000:Int)<n then 1000000000 else n) then (if (1000000000:Int)<n then 1000000000 else n) else 0)=((Cv n:Nat):Int):=by
  unfold Cv
  split<;>split<;>omega
 simp only;rw[e];have hc:=Lt n;refine Zha (Ila 4 (Cv n) out (by omega) (by omega) (by omega)) ?_;rintro r ⟨m,h1,h2,h3,h4⟩;rw[h1,Mea m (by omega)];refine Zoa (by simp only[Vh,Vs];omega) (Zga h3)
def Jv (n:Nat):(M0 n).length≤5∧0<(M0 n).length:=M8a 4 n
def W9:∀ (f n:Nat),n<128 ^ (f+1)→Ax (Yz f n)
 |0,n,hn=>by
  intro x hx;simp only[Yz,Vq]at hx
  have:n<128:=by simpa using hn
  omega
 |f+1,n,hn=>by
  unfold Yz;split
  ·intro x hx;simp only[Vq]at hx;omega
  ·intro x hx;rcases Vl.1 hx with rfl|hx
   ·omega
   ·exact W9 f (n/128) (by rw[A8b]at hn;omega) x hx
def Ima (n:Nat) (hn:n≤1000000000):Ax (M0 n):=W9 4 n (by omega)
def Wr (s:ByteArray):Ax (bytesOf s):=by
 intro x hx;unfold bytesOf at hx;obtain⟨b,_,rfl⟩:=Yt.1 hx;have:=b.toNat_lt;omega
def Mg (s:ByteArray):(bytesOf s).length=s.size:=by
 unfold bytesOf;rw[Vz];exact Yw
def Z0 (s:ByteArray):I4 (bytesOf s)=s:=by
 unfold I4 bytesOf;rw[Apb]
 have:(λ n:Int=>UInt8.ofNat n.toNat) ∘ (λ b:UInt8=>(b.toNat:Int))=id:=by
  funext b;show UInt8.ofNat ((b.toNat:Int)).toNat=b;rw[Vj];exact UInt8.ofNat_toNat
 rw[this,List.map_id]
def Jw {l:List Int} (h:Ax l):bytesOf (I4 l)=l:=by
 unfold I4 bytesOf;show List.map _ (List.map _ l)=l;rw[Apb]
 have:∀ x∈l,((λ b:UInt8=>(b.toNat:Int)) ∘ (λ n:Int=>UInt8.ofNat n.toNat)) x=x:=by
  intro x hx;have hb:=h x hx;show ((UInt8.ofNat x.toNat).toNat:Int)=x;rw[UInt8.toNat_ofNat'];omega
 exact(A0b this).trans (List.map_id' l)
def Lu (l:List Int):(I4 l).size=l.length:=by
 unfold I4;show (List.map _ l).toArray.size=l.length;simp
def txt (s:ByteArray):List Int:=M0 (Cv (s.size:Int))++bytesOf s
def Q5a (out:List Int) (s:ByteArray) (hl:out.length≤1000000000000) (hs:s.size≤1000000000000):Tot (λ k=>Ge k out s) (λ r=>r=out++txt s):=by
 unfold Ge txt;refine Zsa (Tm out _ hl) ?_;have:=(Jv (Cv (s.size:Int))).1;refine Zoa (by simp only[Vi];omega) (Zga ?_);rw[Vo]
def Jea (l:List Int) (p:Nat):Option (ByteArray×Nat):=match W8 l p with
 |some (n,q)=>if q+n≤l.length then some (I4 ((l.drop q).take n),q+n) else none
 |none=>none
def Y1a (l:List Int) (p:Int):ByteArray×Int×Bool:=if p<0 then ((⟨#[]⟩:ByteArray),0,false) else match Jea l p.toNat with
 |some (s,q)=>(s,(q:Int),true)
 |none=>((⟨#[]⟩:ByteArray),0,false)
def Ina (l:List Int) (hb:Ax l) (p:Int):Sda l p=(0,0,false)∨∃ n q,0≤p∧W8 l p.toNat=some (n,q)∧Sda l p=((n:Int),(q:Int),true)∧n≤1000000000∧q≤l.length:=by
 unfold Sda
 by_cases h:p<0
 ·rw[if_pos h];exact .inl rfl
 ·rw[if_neg h]
  cases hg:W8 l p.toNat with
  |none=>exact .inl rfl
  |some nq=>
   obtain⟨n,q⟩:=nq;have:=Eja hb hg;exact .inr ⟨n,q,by omega,rfl,rfl,this.2.1,this.2.2.2⟩
def Gza (l:List Int) (hb:Ax l) (hl:l.length≤1000000000000) (p:Int) (hp:p≤1000000000000):Tot (λ k=>Gd k l p) (λ r=>r=Y1a l p):=by
 unfold Gd;refine Zsa (Mda l hb hl p hp) ?_;unfold Y1a Jea;rcases Ina l hb p with h|⟨n,q,h0,hg,h,hn,hq⟩
 ·rw[h];refine Zja rfl (Zga ?_);unfold Sda at h;split
  ·rfl
  ·rename_i h0;rw[if_neg h0]at h
   cases hg:W8 l p.toNat with
   |none=>rfl
   |some nq=>rw[hg]at h;simp at h
 ·rw[h];refine Zia rfl ?_;rw[if_neg (by omega),hg];simp only;rw[w64 (n:=(l.length:Int)-(q:Int)) (by omega) (by omega),w64 (n:=(q:Int)+(n:Int)) (by omega) (by omega)];refine Zna (λ hgt=>?_) (λ hgt=>?_)
  ·rw[if_neg (by omega)];exact Zga rfl
  ·rw[if_pos (by omega)];refine Zka (by omega) (Zka (by omega) (Zka (by omega) (Zga ?_)));rw[show toNat ((q:Int)+(n:Int))=q+n by omega,Vj,Ayb,show q+n-q=n by omega];simp only[Vw,true_and,and_true]
   push_cast
   rfl
def Mfa {l:List Int} {p q:Nat} {s:ByteArray} (hb:Ax l) (h:Jea l p=some (s,q)):l.drop p=txt s++l.drop q∧s.size≤1000000000∧p<q∧q≤l.length:=by
 unfold Jea at h;split at h
 ·rename_i n q0 hg;obtain⟨h1,h2,h3,h4⟩:=Eja hb hg;split at h
  ·rename_i hle;simp only[Vc,Vw]at h;obtain⟨rfl,rfl⟩:=h
   have hlen:((l.drop q0).take n).length=n:=by rw[Vp,We];omega
   have hbb:Ax ((l.drop q0).take n):=λ x hx=>hb x (Zl (Adb hx));refine⟨?_,by rw[Lu,hlen];exact h2,by omega,by omega⟩;unfold txt;rw[Lu,hlen,Jw hbb,h1,show Cv (n:Int)=n by unfold Cv;omega,Vo];congr 1;rw[← Yo,Wi]
  ·cases h
 ·cases h
def Q6a (pre:List Int) (s:ByteArray) (rest:List Int) (hs:s.size≤1000000000):Jea (pre++(txt s++rest)) pre.length=some (s,pre.length+(txt s).length):=by
 unfold Jea txt
 have hc:Cv (s.size:Int)=s.size:=by unfold Cv;omega
 rw[hc,Vo,Gya pre s.size _ hs];simp only;rw[if_pos (by simp only[Vi,Mg];omega)]
 have e:(pre++(M0 s.size++(bytesOf s++rest))).drop (pre.length+(M0 s.size).length)=bytesOf s++rest:=by
  rw[← Vo,← Vi,Zi]
 rw[e,B8b (Mg s),Z0];simp only[Vi,Mg,Vc,Vw,true_and];omega

def Eka (b:Bool):Int:=bif b then 1 else 0
def Ula (b:Bool):Jh b=some (Eka b):=by cases b<;>rfl
def Sea (s:Stp):List Int:=M0 (Cv s.1)++(M0 (Cv s.2.1)++M0 (Cv s.2.2))
def Q7a (s:Stp):(Sea s).length≤15:=by
 unfold Sea;have h1:=(Jv (Cv s.1)).1;have h2:=(Jv (Cv s.2.1)).1;have h3:=(Jv (Cv s.2.2)).1;simp only[Vi];omega
def Ioa (out:List Int) (s:Stp) (b:Bool) (hl:out.length≤999999999900):Tot (λ k=>Fp k out s b) (λ r=>r=out++(Sea s++M0 (Cv (Eka b)))):=by
 have h1:=(Jv (Cv s.1)).1;have h2:=(Jv (Cv s.2.1)).1;have h3:=(Jv (Cv s.2.2)).1;unfold Fp Sea;refine Zsa (Tm out s.1 (by omega)) ?_;refine Zsa (Tm _ s.2.1 (by simp only[Vi];omega)) ?_;refine Zsa (Tm _ s.2.2 (by simp only[Vi];omega)) ?_;refine Zsa (Zua (Q:=λ y=>y=Eka b) (Ula b) rfl) ?_;refine Zsa (Tm _ (Eka b) (by simp only[Vi];omega)) ?_;exact Zga (by simp only[Vo])
def Tn {s:ByteArray} (h:Bc s=true):1≤s.size∧s.size≤20:=by
 unfold Bc at h;rw[Va,Dl]at h;omega
def Ws {r:Row} (h:L9 r=true):Bc r.1=true:=by
 unfold L9 at h;rw[Va]at h;exact h.1
def Uma (s:ByteArray):(txt s).length≤5+s.size:=by
 have h1:=(Jv (Cv (s.size:Int))).1;unfold txt;simp only[Vi,Mg];omega

def Q8a (l:List Int) (p:Nat):Sda l (p:Int)=match W8 l p with
 |some (n,q)=>((n:Int),(q:Int),true)
 |none=>(0,0,false):=by
 unfold Sda;rw[if_neg (by omega),Vj]
 all_goals cases W8 l p<;>rfl
def Q9a (l:List Int) (p:Nat):Y1a l (p:Int)=match Jea l p with
 |some (s,q)=>(s,(q:Int),true)
 |none=>((⟨#[]⟩:ByteArray),0,false):=by
 unfold Y1a;rw[if_neg (by omega),Vj]
 all_goals cases Jea l p<;>rfl
def Um (l:List Int) (hb:Ax l) (hl:l.length≤1000000000000) (p:Nat) (hp:p≤l.length) (bad:Bool):
  Tot (λ k=>Cb k (l,(p:Int),bad)) (λ r=>(bad=false∧∃ n q:Nat,W8 l p=some (n,q)∧q≤l.length∧r=((n:Int),l,(q:Int),false))∨((bad=true∨W8 l p=none)∧r=(0,l,(p:Int),true))):=by
 unfold Cb;refine Zsa (Mda l hb hl (p:Int) (by omega)) ?_;refine Zma (λ h=>Zga (.inr ⟨.inl h,rfl⟩)) (λ h=>?_);rw[Q8a]
 cases hg:W8 l p with
 |none=>exact Zja rfl (Zga (.inr ⟨.inr rfl,rfl⟩))
 |some nq=>
  obtain⟨n,q⟩:=nq;simp only at h;subst h;exact Zia rfl (Zga (.inl ⟨rfl,n,q,rfl,(Eja hb hg).2.2.2,rfl⟩))
def Yha (l:List Int) (hb:Ax l) (hl:l.length≤1000000000000) (p:Nat) (hp:p≤l.length):
  Tot (λ k=>C5 k (l,(p:Int),false)) (λ r=>(∃ (s:ByteArray) (q:Nat),Jea l p=some (s,q)∧q≤l.length∧r=(s,l,(q:Int),false))∨(Jea l p=none∧r=((⟨#[]⟩:ByteArray),l,(p:Int),true))):=by
 unfold C5;refine Zsa (Gza l hb hl (p:Int) (by omega)) ?_;refine Zia rfl ?_;rw[Q9a]
 cases hg:Jea l p with
 |none=>exact Zja rfl (Zga (.inr ⟨rfl,rfl⟩))
 |some nq=>
  obtain⟨n,q⟩:=nq;exact Zia rfl (Zga (.inl ⟨n,q,rfl,(Mfa hb hg).2.2.2,rfl⟩))
def Tp (l:List Int) (p:Nat):Option ((Stp×Bool)×Nat):=
 (W8 l p).bind λ b=>(W8 l b.2).bind λ c=>(W8 l c.2).bind λ d=>(W8 l d.2).bind λ e=>bif decide (1<e.1) then none else
  some ((((b.1:Int),(c.1:Int),(d.1:Int)),(e.1:Int)==1),e.2)
def Yia (l:List Int) (hb:Ax l) (hl:l.length≤1000000000000) (p:Nat) (hp:p≤l.length) (bad:Bool):
  Tot (λ k=>Cq k (l,(p:Int),bad)) (λ r=>(bad=false∧∃ (x:Stp×Bool) (q:Nat),Tp l p=some (x,q)∧q≤l.length∧r=(x.1,x.2,l,(q:Int),false))∨((bad=true∨Tp l p=none)∧∃ s b,∃ q:Nat,q≤l.length∧r=(s,b,l,(q:Int),true))):=by
 unfold Cq
 have nx:∀ {o:Option (Nat×Nat)} {f:Nat×Nat→Option ((Stp×Bool)×Nat)},o=none→o.bind f=none:=by
  intro o f h;rw[h];rfl
 refine Zha (Um l hb hl p hp bad) ?_;rintro r (⟨h0,n1,p1,h1,l1,rfl⟩|⟨h1,rfl⟩)
 ·simp only;refine Zha (Um l hb hl p1 l1 false) ?_;rintro r (⟨_,n2,p2,h2,l2,rfl⟩|⟨h2,rfl⟩)
  ·simp only;refine Zha (Um l hb hl p2 l2 false) ?_;rintro r (⟨_,n3,p3,h3,l3,rfl⟩|⟨h3,rfl⟩)
   ·simp only;refine Zha (Um l hb hl p3 l3 false) ?_;rintro r (⟨_,n4,p4,h4,l4,rfl⟩|⟨h4,rfl⟩)
    ·simp only;refine Zia rfl (Zga ?_)
     have e:Tp l p=bif decide (1<n4) then none else some ((((n1:Int),(n2:Int),(n3:Int)),(n4:Int)==1),p4):=by
      unfold Tp;simp only[h1,h2,h3,h4,Vt]
     cases hd:decide (1<n4) with
     |true=>
      rw[hd,cond_true]at e;refine .inr ⟨.inr e,((n1:Int),(n2:Int),(n3:Int)),((n4:Int)==1),p4,l4,?_⟩;have:decide ((n4:Int) > 1)=true:=decide_eq_true (by have:=of_decide_eq_true hd;omega);rw[this]
     |false=>
      rw[hd,cond_false]at e;refine .inl ⟨h0,_,p4,e,l4,?_⟩;have:decide ((n4:Int) > 1)=false:=decide_eq_false (by have:=of_decide_eq_false hd;omega);rw[this]
    ·refine Zja rfl (Zga (.inr ⟨.inr ?_,_,_,p3,l3,rfl⟩));have h4':=h4.resolve_left (by simp);unfold Tp;simp only[h1,h2,h3,h4',Vt,Azb]
   ·simp only;refine Zha (Um l hb hl p2 l2 true) ?_;rintro r (⟨hh,_⟩|⟨_,rfl⟩)
    ·cases hh
    ·refine Zja rfl (Zga (.inr ⟨.inr ?_,_,_,p2,l2,rfl⟩));have h3':=h3.resolve_left (by simp);unfold Tp;simp only[h1,h2,h3',Vt,Azb]
  ·simp only;refine Zha (Um l hb hl p1 l1 true) ?_;rintro r (⟨hh,_⟩|⟨_,rfl⟩)
   ·cases hh
   ·refine Zha (Um l hb hl p1 l1 true) ?_;rintro r (⟨hh,_⟩|⟨_,rfl⟩)
    ·cases hh
    ·refine Zja rfl (Zga (.inr ⟨.inr ?_,_,_,p1,l1,rfl⟩));have h2':=h2.resolve_left (by simp);unfold Tp;simp only[h1,h2',Vt,Azb]
 ·simp only;refine Zha (Um l hb hl p hp true) ?_;rintro r (⟨hh,_⟩|⟨_,rfl⟩)
  ·cases hh
  ·refine Zha (Um l hb hl p hp true) ?_;rintro r (⟨hh,_⟩|⟨_,rfl⟩)
   ·cases hh
   ·refine Zha (Um l hb hl p hp true) ?_;rintro r (⟨hh,_⟩|⟨_,rfl⟩)
    ·cases hh
    ·refine Zja rfl (Zga (.inr ⟨?_,_,_,p,hp,rfl⟩));rcases h1 with h1|h1
     ·exact .inl h1
     ·refine .inr ?_;unfold Tp;rw[h1];rfl

section
open Go
end

abbrev Nmd:=ByteArray×List Int
abbrev Dsk:=List Nmd×List Nmd
def Hl:Nmd:=((⟨#[]⟩:ByteArray),[])
def Qaa (l:List Nmd):Prop:=l.length≤1000000000000∧∀ x∈l,x.2.length≤1000000000000
def Y2a (d:Dsk):Prop:=Qaa d.1∧Qaa d.2
def Hw (l:List Int) (h:l.length≤1000000000000):A9 l=some l:=by
 unfold A9;rw[show Nat.ble ((length ([]:List Int)+length l)*1) 140737488355328=true from Zj (by simp only[Vs];omega)];rfl
def Rm (l:List Nmd) (hf:Qaa l):∀ (n i:Nat) (acc:List Nmd),l.length-i=n→i≤l.length→acc.length≤i→
  Tot (λ k=>C2 k acc l (l.length:Int) (i:Int)) (λ r=>r=acc++l.drop i):=by
 obtain⟨h1,h2⟩:=hf;intro n
 induction n with
 |zero=>
  intro i acc hd hi ha;refine Tot.succ ?_;simp only[C2];refine Zla (by omega) (Zga ?_);rw[Yu (by omega),Wp]
 |succ n ih=>
  intro i acc hd hi ha
  have hlt:i<l.length:=by omega
  refine Tot.succ ?_;simp only[C2];refine Zka (by omega) (Zka (by omega) (Zka (by omega) ?_));rw[show toNat (i:Int)=i from Vj i,w64 (n:=(i:Int)+1) (by omega) (by omega),Bs (d:=Hl) hlt];have e0:l.getD i ((⟨#[]⟩:ByteArray),([]:List Int))=l.getD i Hl:=rfl;rw[e0];have hb:=h2 _ (A3 (d:=Hl) hlt);refine Zsa (Zua (Q:=λ r=>r=(l.getD i Hl).2) (Hw _ hb) rfl) ?_;refine Zoa (by simp only[Vh,Vs];omega) ?_;refine(ih (i+1) (acc++[l.getD i Hl]) (by omega) (by omega) (by simp only[Vi,Vh,Vs];omega)).mono ?_;rintro r rfl;rw[Vo];rfl
def Jx (l:List Nmd) (hf:Qaa l):Tot (λ k=>Av k l) (λ r=>r=l):=by
 unfold Av;refine Zha (Rm l hf _ 0 [] rfl (Vu _) (Vu _)) ?_;intro r hr;rw[Yx,Wk]at hr;exact Zga hr
def Fj (d:Dsk) (hf:Y2a d):Tot (λ k=>A4 k d) (λ r=>r=d):=by
 unfold A4;refine Zsa (Jx d.1 hf.1) ?_;refine Zsa (Jx d.2 hf.2) ?_;exact Zga rfl
def fnd (l:List Nmd) (s:ByteArray):Option Nat:=l.findIdx? (λ x=>teq x.1 s)
def Jfa (l:List Nmd) (s:ByteArray):Int:=match fnd l s with
 |some i=>(i:Int)
 |none => -1
def Mga (l:List Nmd) (s:ByteArray) (hf:l.length≤1000000000000):∀ (n i:Nat),l.length-i=n→i≤l.length→
  Tot (λ k=>Hn k s l (l.length:Int) (i:Int)) (λ r=>r=match fnd (l.drop i) s with|some j => .inl ((i+j:Nat):Int)|none => .inr ()):=by
 intro n
 induction n with
 |zero=>
  intro i hd hi;refine Tot.succ ?_;simp only[Hn];refine Zla (by omega) (Zga ?_);rw[Yu (by omega)];rfl
 |succ n ih=>
  intro i hd hi
  have hlt:i<l.length:=by omega
  refine Tot.succ ?_;simp only[Hn];refine Zka (by omega) (Zka (by omega) (Zka (by omega) ?_));rw[show toNat (i:Int)=i from Vj i,w64 (n:=(i:Int)+1) (by omega) (by omega),Bs (d:=Hl) hlt];have e0:l.getD i ((⟨#[]⟩:ByteArray),([]:List Int))=l.getD i Hl:=rfl;rw[e0]
  have e1:fnd (l.getD i Hl::l.drop (i+1)) s=if teq (l.getD i Hl).1 s then some 0 else (fnd (l.drop (i+1)) s).map (· + 1):=by
   unfold fnd;rw[C4b]
  rw[e1];refine Zma (λ h=>?_) (λ h=>?_)
  ·have h':teq (l.getD i Hl).1 s=true:=h;rw[if_pos h'];exact Zga rfl
  ·have h':¬ (teq (l.getD i Hl).1 s=true):=by
    have:teq (l.getD i Hl).1 s=false:=h;rw[this];simp
   rw[if_neg h'];refine(ih (i+1) (by omega) (by omega)).mono ?_;rintro r rfl
   cases fnd (l.drop (i+1)) s with
   |none=>rfl
   |some j=>
    show Sum.inl _=Sum.inl _;rw[show i+1+j=i+(j+1) by omega]
def R8 (l:List Nmd) (s:ByteArray) (hf:l.length≤1000000000000):Tot (λ k=>Ed k l s) (λ r=>r=Jfa l s):=by
 unfold Ed Jfa;refine Zsa (Mga l s hf _ 0 rfl (Vu _)) ?_;rw[Yx]
 cases fnd l s with
 |none=>exact Zga rfl
 |some j=>
  refine Zga ?_;rw[Wf]
def Mn {l:List Nmd} {s:ByteArray} {i:Nat} (h:fnd l s=some i):i<l.length∧(l.getD i Hl).1=s:=by
 unfold fnd at h;rw[A9b]at h;obtain⟨h1,h2,_⟩:=h;refine⟨h1,?_⟩;rw[Vb,Ve h1];exact G9.1 h2
def del (l:List Nmd) (s:ByteArray):List Nmd:=match fnd l s with
 |some i=>l.take i++l.drop (i+1)
 |none=>l
def Ps (l:List Nmd) (s:ByteArray) (hf:l.length≤1000000000000):Tot (λ k=>Ew k l s) (λ r=>r=del l s):=by
 unfold Ew del;refine Zsa (R8 l s hf) ?_;unfold Jfa
 cases h:fnd l s with
 |none=>exact Zka (by decide) (Zga rfl)
 |some i=>
  have hl:=(Mn h).1;dsimp only;refine Zla (by omega) (Zka (by omega) (Zka (by omega) ?_));rw[w64 (n:=(i:Int)+1) (by omega) (by omega),show toNat (i:Int)=i from Int.toNat_natCast i,show toNat ((i:Int)+1)=i+1 by omega];refine Zoa (by simp only[List.length_nil,List.length_take];omega) ?_;refine Zka (by omega) (Zka (by omega) (Zoa (by simp only[List.length_append,List.length_nil,List.length_take,List.length_drop];omega) (Zga rfl)))

def nOk (x:Nmd):Bool:=Bc x.1&&!(decide ((x.2.length:Int) > 400))
def chn:Option ByteArray→List Nmd→Bool
 |_,[]=>true
 |none,r::l=>nOk r&&chn (some r.1) l
 |some q,r::l=>nOk r&&(tlt q r.1&&chn (some r.1) l)
def H5 (l:List Nmd):Bool:=chn none l&&decide ((l.length:Int)≤60)
def Ce (d:Dsk):Bool:=H5 d.1&&H5 d.2
def C3a (l:List Nmd):Prop:=∀ x∈l,L8 x.1
def Mha (d:Dsk):Prop:=C3a d.1∧C3a d.2
def C4a (l:List Nmd):Nat→Option ByteArray
 |0=>none
 |i+1=>some (l.getD i Hl).1
def Qba (l:List Nmd) (i:Nat) (h:i<l.length):chn (C4a l i) (l.drop i)=(nOk (l.getD i Hl)&&(bif decide (0<i) then tlt (l.getD (i-1) Hl).1 (l.getD i Hl).1 else true)&&chn (C4a l (i+1)) (l.drop (i+1))):=by
 rw[Bs (d:=Hl) h]
 cases i with
 |zero=>simp[C4a,chn]
 |succ i=>simp[C4a,chn,Crb]
def C5a (l:List Nmd) (hf:l.length≤1000000000000) (hs:C3a l):∀ (n i:Nat),l.length-i=n→i≤l.length→
  Tot (λ k=>Dc k l l (l.length:Int) (i:Int)) (λ r=>r=bif chn (C4a l i) (l.drop i) then .inr l else .inl false):=by
 intro n
 induction n with
 |zero=>
  intro i hn hi;refine Tot.succ ?_;simp only[Dc];refine Zla (by omega) (Zga ?_);rw[Yu (by omega)]
  cases C4a l i<;>rfl
 |succ n ih=>
  intro i hn hi
  have hlt:i<l.length:=by omega
  refine Tot.succ ?_;simp only[Dc];refine Zka (by omega) (Zka (by omega) (Zka (by omega) ?_));rw[show toNat (i:Int)=i from Vj i,w64 (n:=(i:Int)+1) (by omega) (by omega),Qba l i hlt];have h1:=ih (i+1) (by omega) (by omega)
  have e:(((i+1:Nat)):Int)=(i:Int)+1:=by omega
  rw[e]at h1;have e0:l.getD i ((⟨#[]⟩:ByteArray),([]:List Int))=l.getD i Hl:=rfl;rw[e0];refine Zsa (Ju (l.getD i Hl).1 (hs _ (A3 hlt))) ?_;cases hb:Bc (l.getD i Hl).1
  ·exact Zja rfl (Zga (by rw[show nOk (l.getD i Hl)=false by unfold nOk;rw[hb];rfl];rfl))
  refine Zia rfl ?_;refine Zna (λ h4=>Zga (by rw[show nOk (l.getD i Hl)=false by unfold nOk;rw[decide_eq_true h4,hb];rfl];rfl)) (λ h4=>?_)
  have hnk:nOk (l.getD i Hl)=true:=by unfold nOk;rw[hb,decide_eq_false h4];rfl
  rw[hnk,Wn];refine Zna (λ h0=>?_) (λ h0=>?_)
  ·rw[w64 (n:=(i:Int)-1) (by omega) (by omega)];refine Zka (by omega) (Zka (by omega) ?_);rw[show toNat ((i:Int)-1)=i-1 by omega,decide_eq_true (show 0<i by omega),cond_true];refine Zma (λ ht=>?_) (λ ht=>?_)
   ·have ht':(!(tlt (l.getD (i-1) Hl).1 (l.getD i Hl).1))=true:=ht;rw[Vy]at ht';exact Zga (by rw[ht'];rfl)
   ·have ht':(!(tlt (l.getD (i-1) Hl).1 (l.getD i Hl).1))=false:=ht;rw[Ye]at ht';rw[ht',Wn];exact h1
  ·rw[decide_eq_false (show ¬ 0<i by omega),cond_false,Wn];exact h1
def C6a (l:List Nmd) (hf:l.length≤1000000000000) (hs:C3a l):Tot (λ k=>D0 k l) (λ r=>r=H5 l):=by
 unfold D0 H5;refine Zsa (C5a l hf hs _ 0 rfl (Vu _)) ?_;rw[Yx];show Tot _ (λ r=>r=(chn none l&&_))
 cases hc:chn none l with
 |true=>rw[show chn (C4a l 0) l=true from hc];exact Zga (by rw[Wn])
 |false=>rw[show chn (C4a l 0) l=false from hc];exact Zga rfl
def Kw (d:Dsk) (hf:Y2a d) (hs:Mha d):Tot (λ k=>Ap k d) (λ r=>r=Ce d):=by
 unfold Ap Ce;refine Zsa (C6a d.1 hf.1.1 hs.1) ?_;cases h:H5 d.1
 ·exact Zia rfl (Zga rfl)
 refine Zja rfl (Zsa (C6a d.2 hf.2.1 hs.2) ?_);exact Zga (by rw[Wn])
def plc (l:List Nmd) (s:ByteArray):Nat:=(l.takeWhile (λ y=>tlt y.1 s)).length
def ins (l:List Nmd) (x:Nmd):List Nmd:=l.take (plc l x.1)++[x]++l.drop (plc l x.1)
def Sfa (l:List Nmd) (s:ByteArray):plc l s≤l.length:=(Cib _).length_le
def Ela (l:List Nmd) (s:ByteArray) (b:List Int) (hf:l.length≤1000000000000):∀ (n i:Nat),l.length-i=n→i≤l.length→
  Tot (λ k=>H1 k l (i:Int) s b) (λ r=>r=(l,((i+plc (l.drop i) s:Nat):Int),s,b)):=by
 intro n
 induction n with
 |zero=>
  intro i hd hi;refine Tot.succ ?_;simp only[H1];refine Zla (by omega) (Zga ?_);rw[Yu (by omega)];rfl
 |succ n ih=>
  intro i hd hi
  have hlt:i<l.length:=by omega
  refine Tot.succ ?_;simp only[H1];refine Zka (by omega) (Zka (by omega) (Zka (by omega) ?_));rw[show toNat (i:Int)=i from Vj i,w64 (n:=(i:Int)+1) (by omega) (by omega),Bs (d:=Hl) hlt];have e0:l.getD i ((⟨#[]⟩:ByteArray),([]:List Int))=l.getD i Hl:=rfl;rw[e0]
  have e1:plc (l.getD i Hl::l.drop (i+1)) s=if tlt (l.getD i Hl).1 s then plc (l.drop (i+1)) s+1 else 0:=by
   unfold plc;rw[Zq]
   split<;>rfl
  rw[e1];refine Zma (λ h=>?_) (λ h=>?_)
  ·have h':tlt (l.getD i Hl).1 s=true:=h;rw[if_pos h'];refine(ih (i+1) (by omega) (by omega)).mono ?_;rintro r rfl;rw[show i+1+plc (l.drop (i+1)) s=i+(plc (l.drop (i+1)) s+1) by omega]
  ·have h':¬ (tlt (l.getD i Hl).1 s=true):=by
    have:tlt (l.getD i Hl).1 s=false:=h;rw[this];simp
   rw[if_neg h'];exact Zga rfl
def H0a (l:List Nmd) (x:Nmd) (hf:l.length≤1000000000000):Tot (λ k=>Hu k l x) (λ r=>r=ins l x):=by
 unfold Hu ins;refine Zha (Ela l x.1 x.2 hf _ 0 rfl (Nat.zero_le _)) ?_;intro r hr;rw[List.drop_zero,Nat.zero_add]at hr;subst hr;have hp:=Sfa l x.1;dsimp only;refine Zka (by omega) (Zka (by omega) ?_);rw[show toNat ((plc l x.1:Nat):Int)=plc l x.1 from Int.toNat_natCast _];refine Zoa (by simp only[List.length_nil,List.length_take];omega) ?_;refine Zoa (by simp only[List.length_append,List.length_nil,List.length_take,List.length_cons];omega) ?_;refine Zka (by omega) (Zka (by omega) (Zoa (by simp only[List.length_append,List.length_nil,List.length_take,List.length_drop,List.length_cons];omega) (Zga ?_)));rw[List.nil_append]

def cut (l:List Nmd) (s:ByteArray):List Nmd:=l.filter (λ x => !(teq x.1 s))

def rdN (l:List Nmd) (s:ByteArray):List Int×Bool:=match fnd l s with
 |some i=>((l.getD i Hl).2,true)
 |none=>([],false)
def H1a (d:Dsk) (s:ByteArray) (hf:Qaa d.1):Tot (λ k=>Du k d s) (λ r=>r=rdN d.1 s):=by
 unfold Du rdN;refine Zsa (R8 d.1 s hf.1) ?_;unfold Jfa;have hl1:=hf.1
 cases h:fnd d.1 s with
 |none=>exact Zka (by decide) (Zga rfl)
 |some i=>
  have hl:=(Mn h).1;dsimp only;refine Zla (by omega) (Zka (by omega) (Zka (by omega) ?_));rw[show toNat (i:Int)=i from Int.toNat_natCast i];have hb:=hf.2 _ (A3 (d:=Hl) hl);refine Zsa (Zua (Q:=λ r=>r=(d.1.getD i Hl).2) (Hw _ hb) rfl) ?_;exact Zga rfl

def F8 (l:List Nmd):Prop:=l.Pairwise (λ a b=>tlt a.1 b.1=true)
def Ema:∀ (p:Option ByteArray) (l:List Nmd),chn p l=true↔F8 l∧(∀ r∈l,nOk r=true)∧(∀ q,p=some q→∀ r∈l,tlt q r.1=true)
 |p,[]=>by
  have:chn p []=true:=by cases p<;>rfl
  simp[this,F8]
 |none,r::l=>by
  simp only[chn,Va,Ema (some r.1) l,F8,Wd];constructor
  ·rintro⟨h1,h2,h3,h4⟩;exact⟨⟨λ a ha=>h4 _ rfl a ha,h2⟩,λ a ha=>by rcases Vl.1 ha with rfl|ha;exact h1;exact h3 a ha,λ q hq=>by cases hq⟩
  ·rintro⟨⟨h1,h2⟩,h3,_⟩;exact⟨h3 r (by simp),h2,λ a ha=>h3 a (Vg _ ha),λ q hq a ha=>by cases hq;exact h1 a ha⟩
 |some q,r::l=>by
  simp only[chn,Va,Ema (some r.1) l,F8,Wd];constructor
  ·rintro⟨h1,h0,h2,h3,h4⟩;refine⟨⟨λ a ha=>h4 _ rfl a ha,h2⟩,λ a ha=>by rcases Vl.1 ha with rfl|ha;exact h1;exact h3 a ha,λ q' hq a ha=>?_⟩;cases hq;rcases Vl.1 ha with rfl|ha
   ·exact h0
   ·exact Iq h0 (h4 _ rfl a ha)
  ·rintro⟨⟨h1,h2⟩,h3,h4⟩;exact⟨h3 r (by simp),h4 q rfl r (by simp),h2,λ a ha=>h3 a (Vg _ ha),λ q' hq a ha=>by cases hq;exact h1 a ha⟩
def Az {l:List Nmd}:H5 l=true↔F8 l∧(∀ r∈l,nOk r=true)∧l.length≤60:=by
 unfold H5;simp only[Va,Ema,decide_eq_true_eq];constructor
 ·rintro⟨⟨h1,h2,_⟩,h3⟩;exact⟨h1,h2,by omega⟩
 ·rintro⟨h1,h2,h3⟩;exact⟨⟨h1,h2,λ q hq=>by cases hq⟩,by omega⟩
def N9 {x:Nmd}:nOk x=true↔Bc x.1=true∧x.2.length≤400:=by
 unfold nOk;simp only[Va,Vy,decide_eq_false_iff_not];constructor
 ·rintro⟨h1,h2⟩;exact⟨h1,by omega⟩
 ·rintro⟨h1,h2⟩;exact⟨h1,by omega⟩
def R9 {l:List Nmd} (h:H5 l=true):Qaa l∧C3a l:=by
 obtain⟨_,h2,h3⟩:=Az.1 h;refine⟨⟨by omega,λ x hx=>by have:=(N9.1 (h2 x hx)).2;omega⟩,λ x hx=>?_⟩;have:=Tn (N9.1 (h2 x hx)).1;unfold L8;omega
def Z1 (y:Nmd) (l:List Nmd) (s:ByteArray):fnd (y::l) s=if teq y.1 s then some 0 else (fnd l s).map (· + 1):=by
 unfold fnd;rw[C4b]
def Qca {l:List Nmd} {s:ByteArray}:fnd l s=none↔∀ x∈l,x.1≠s:=by
 unfold fnd;rw[List.findIdx?_eq_none_iff];constructor
 ·intro h x hx e;have:=h x hx;rw[G9.2 e]at this;cases this
 ·intro h x hx
  cases ht:teq x.1 s with
  |false=>rfl
  |true=>exact absurd (G9.1 ht) (h x hx)
def Na:∀ {l:List Nmd} {s:ByteArray},F8 l→del l s=cut l s
 |[],s,_=>rfl
 |y::l,s,h=>by
  have hc:=Wd.1 h;have ih:=Na (l:=l) (s:=s) hc.2;unfold del cut at *;rw[Z1,Zya]
  cases ht:teq y.1 s with
  |true=>
   have hno:∀ x∈l,(!(teq x.1 s))=true:=λ x hx=>by
    cases hx2:teq x.1 s
    ·rfl
    have e1:=G9.1 ht;have e2:=G9.1 hx2;have:=hc.1 x hx;rw[e1,e2,Gy]at this;cases this
   rw[if_pos rfl,if_neg (by simp)];show []++l=_;rw[Wk,List.filter_eq_self.2 hno]
  |false=>
   rw[if_neg (by simp),if_pos (show (!false)=true from rfl),← ih]
   cases hf:fnd l s with
   |none=>rfl
   |some i=>rfl
def Lv {l:List Nmd} {s:ByteArray} (h:F8 l):F8 (cut l s):=h.sublist Bxb
def Tq {l:List Nmd} {s:ByteArray}:(cut l s).Sublist l:=Bxb
def Ra {l:List Nmd} {s:ByteArray} (h:H5 l=true):H5 (cut l s)=true:=by
 obtain⟨h1,h2,h3⟩:=Az.1 h;exact Az.2 ⟨Lv h1,λ x hx=>h2 x (Tq.subset hx),by have:=(Tq (l:=l) (s:=s)).length_le;omega⟩
def Una {l:List Nmd} {s:ByteArray} {i:Nat} (h:fnd l s=some i):(del l s).length+1=l.length:=by
 have hl:=(Mn h).1;unfold del;rw[h];simp only[Vi,Vp,We];omega

section
open Go
end

def ptl (x:Nmd):Bool→List Nmd→List Nmd
 |p,[]=>bif p then [] else [x]
 |p,y::l=>(bif !p&&!(tlt y.1 x.1) then [x] else [])++((bif !(teq y.1 x.1) then [y] else [])++ptl x (p||!(tlt y.1 x.1)) l)
def Qda (x:Nmd):∀ (l:List Nmd),ptl x true l=cut l x.1:=by
 intro l
 induction l with
 |nil=>rfl
 |cons a l ih=>
  simp only[ptl,Zk,Zwa,cond_false,Wk,C5b,ih,cut,Zya]
  cases teq a.1 x.1<;>simp
def Ipa (x:Nmd):∀ {l:List Nmd},F8 l→ptl x false l=ins (cut l x.1) x:=by
 intro l
 induction l with
 |nil=>intro _;rfl
 |cons a l ih=>
  intro h;have hl:F8 l:=(Wd.1 h).2;have ha:=(Wd.1 h).1;simp only[ptl,C9b,Wn,Ajb]
  cases ht:tlt a.1 x.1 with
  |true=>
   have he:teq a.1 x.1=false:=by
    cases hq:teq a.1 x.1 with
    |false=>rfl
    |true=>rw[(G9.1 hq),Gy]at ht;cases ht
   simp only[he,Zk,C9b,cond_false,cond_true,Wk,ih hl,cut,Zya,if_true];unfold ins plc;rw[Zq,if_pos ht];rfl
  |false=>
   have hc:plc (cut (a::l) x.1) x.1=0:=by
    unfold plc cut;rw[List.length_eq_zero_iff];rw[Zya];cases hq:teq a.1 x.1
    ·rw[C9b,if_pos rfl,Zq,if_neg (by rw[ht];simp)]
    have hx:=(G9.1 hq);simp only[Zk,Wm,if_false]
    cases hf:l.filter (λ y => !(teq y.1 x.1)) with
    |nil=>rfl
    |cons b m=>
     have hb:b∈l:=by
      have:b∈l.filter (λ y => !(teq y.1 x.1)):=by rw[hf];exact Yd
      exact(Aqb.1 this).1
     have hab:=ha b hb;rw[hx]at hab;rw[Zq,if_neg (by rw[Po hab];simp)]
   simp only[C9b,cond_true,Qda];unfold ins;rw[hc];simp only[Zza,Wk,Yx,cut,Zya]
   cases teq a.1 x.1<;>simp

def DIn (d:Dsk):Prop:=(Y2a d∧Mha d)∧d.1.length≤2000000∧d.2.length≤2000000
def O5 {d:Dsk} (h:Ce d=true):DIn d:=by
 unfold Ce at h;rw[Va]at h;have h1:=R9 h.1;have h2:=R9 h.2;exact⟨⟨⟨h1.1,h2.1⟩,h1.2,h2.2⟩,by have:=(Az.1 h.1).2.2;omega,by have:=(Az.1 h.2).2.2;omega⟩
def Iqa (d:Dsk) (s:ByteArray) (hd:Y2a d∧Mha d):Tot (λ k=>De k d s) (λ r=>r=bif (fnd d.1 s).isSome&&Ce d then ((del d.1 s,d.2),true) else (d,false)):=by
 unfold De;refine Zha (Fj d hd.1) ?_;rintro r rfl;refine Zha (Kw r hd.1 hd.2) ?_;rintro b rfl;cases h1:Ce r
 ·refine Zja rfl (Zga ?_);rw[Ze];rfl
 refine Zia rfl (Zha (R8 r.1 s hd.1.1.1) ?_);rintro i rfl;unfold Jfa
 cases h:fnd r.1 s with
 |none=>exact Zka (by decide) (Zga rfl)
 |some i=>
  dsimp only;refine Zla (by omega) (Zha (Ps r.1 s hd.1.1.1) ?_);rintro c rfl;exact Zga rfl
def syI (d:Dsk) (s:ByteArray):List Nmd:=match fnd d.1 s with
 |some i=>ins (del d.2 s) (s,(d.1.getD i Hl).2)
 |none=>del d.2 s
def Wt (l:List Nmd) (s:ByteArray):(del l s).length≤l.length:=by
 cases h:fnd l s with
 |none=>unfold del;rw[h];exact Vv _
 |some i=>have:=Una h;omega
def Uoa (l:List Nmd) (x:Nmd):(ins l x).length=l.length+1:=by
 unfold ins;have:=Sfa l x.1;simp only[Vi,Vp,We,Vh,Vs];omega
def Qea (d:Dsk) (s:ByteArray) (hd:DIn d) (hs:L8 s):Tot (λ k=>Bn k d s) (λ r=>r=bif Ce d&&(Bc s&&decide ((syI d s).length≤60)) then ((d.1,syI d s),true) else (d,false)):=by
 unfold Bn;refine Zha (Fj d hd.1.1) ?_;rintro r rfl;refine Zha (Kw r hd.1.1 hd.1.2) ?_;rintro b rfl;cases h1:Ce r
 ·exact Zja rfl (Zga rfl)
 refine Zia rfl (Zha (Ju s hs) ?_);rintro b rfl;cases h2:Bc s
 ·exact Zja rfl (Zga rfl)
 refine Zia rfl (Zha (Ps r.2 s hd.1.1.2.1) ?_);rintro c rfl;refine Zha (R8 r.1 s hd.1.1.1.1) ?_;rintro i rfl;have hdl:=Wt r.2 s;have hr2:=hd.2.2;have hr1:=hd.2.1
 have e:∀ o,o=syI r s→o.length≤4000000→Tot (λ k=>cond (decide ((length o:Int) > 60)) ((A4 k r).bind λ r9=>some (r9,false)) (some ((r.1,o),true))) (λ q=>q=bif true&&(true&&decide ((syI r s).length≤60)) then ((r.1,syI r s),true) else (r,false)):=by
  rintro o rfl _;refine Zna (λ h=>?_) (λ h=>?_)
  ·refine Zha (Fj r hd.1.1) ?_;rintro q rfl;refine Zga ?_;rw[decide_eq_false (by omega)];rfl
  ·refine Zga ?_;rw[decide_eq_true (by omega)];rfl
 unfold Jfa
 cases h:fnd r.1 s with
 |none=>
  refine Zla (by decide) (e _ ?_ (by omega));unfold syI;rw[h]
 |some i=>
  have hl:=(Mn h).1;dsimp only;refine Zka (by omega) (Zka (by omega) (Zka (by omega) ?_));rw[show toNat (i:Int)=i from Int.toNat_natCast i];have hb:=hd.1.1.1.2 _ (A3 (d:=Hl) hl);refine Zha (Zua (Q:=λ q=>q=(r.1.getD i Hl).2) (Hw _ hb) rfl) ?_;rintro q rfl;refine Zha (H0a (del r.2 s) (s,(r.1.getD i Hl).2) (by omega)) ?_;rintro o rfl;refine e _ ?_ (by rw[Uoa];omega);unfold syI;rw[h]

section
open Go
end

section
open Go
end

def O6 (p:Nmd→Bool):∀ l:List Nmd,l.take (l.takeWhile p).length=l.takeWhile p∧l.drop (l.takeWhile p).length=l.dropWhile p
 |[]=>⟨rfl,rfl⟩
 |y::l=>by
  obtain⟨h1,h2⟩:=O6 p l;simp only[Zq,B1b]
  cases p y with
  |true=>simp[h1,h2]
  |false=>simp
def C7a {p:Nmd→Bool}:∀ {l:List Nmd} {y:Nmd},y∈l.takeWhile p→p y=true
 |[],y,h=>by simp at h
 |z::l,y,h=>by
  simp only[Zq]at h;cases hz:p z
  ·rw[hz]at h;simp at h
  rw[hz]at h;simp only[if_true]at h;rcases Vl.1 h with rfl|h
  ·exact hz
  ·exact C7a h
def Sga (l:List Nmd) (x:Nmd):ins l x=l.takeWhile (λ y=>tlt y.1 x.1)++([x]++l.dropWhile (λ y=>tlt y.1 x.1)):=by
 unfold ins plc;obtain⟨h1,h2⟩:=O6 (λ y=>tlt y.1 x.1) l;rw[h1,h2,Vo]
def Wu {x:Nmd}:∀ {l:List Nmd},F8 l→(∀ y∈l,y.1≠x.1)→∀ z∈l.dropWhile (λ y=>tlt y.1 x.1),tlt x.1 z.1=true
 |[],_,_,z,hz=>by simp at hz
 |y::l,hs,hn,z,hz=>by
  obtain⟨h1,h2⟩:=Wd.1 hs;simp only[B1b]at hz
  cases hy:tlt y.1 x.1 with
  |true=>
   rw[hy]at hz;simp only[if_true]at hz;exact Wu h2 (λ w hw=>hn w (Vg _ hw)) z hz
  |false=>
   rw[hy]at hz;simp only[Wm,if_false]at hz
   have hxy:tlt x.1 y.1=true:=by
    cases hh:tlt x.1 y.1 with
    |true=>rfl
    |false=>exact absurd (Ti hy hh) (hn y (by simp))
   rcases Vl.1 hz with rfl|hz
   ·exact hxy
   ·exact Iq hxy (h1 z hz)
def Qo {l:List Nmd} {x:Nmd} (hs:F8 l) (hn:∀ y∈l,y.1≠x.1):F8 (ins l x):=by
 rw[Sga]
 have hs':F8 (l.takeWhile (λ y=>tlt y.1 x.1)++l.dropWhile (λ y=>tlt y.1 x.1)):=by rw[Agb];exact hs
 obtain⟨h1,h2,h3⟩:=Za.1 hs';have h4:∀ y∈l.takeWhile (λ y=>tlt y.1 x.1),tlt y.1 x.1=true:=λ y hy=>C7a (p:=λ y=>tlt y.1 x.1) hy;refine Za.2 ⟨h1,Wd.2 ⟨λ z hz=>Wu hs hn z hz,h2⟩,λ a ha b hb=>?_⟩;rcases Vl.1 hb with rfl|hb
 ·exact h4 a ha
 ·exact h3 a ha b hb
def Qp {l:List Nmd} {x y:Nmd}:y∈ins l x↔y=x∨y∈l:=by
 rw[Sga];have e:=Agb (p:=λ y:Nmd=>tlt y.1 x.1) (l:=l);constructor
 ·intro h;rcases Vm.1 h with h|h
  ·right;rw[← e];exact Vx _ h
  ·rcases Vl.1 h with h|h
   ·exact .inl h
   ·right;rw[← e];exact Vn _ h
 ·rintro (rfl|h)
  ·exact Vn _ (by simp)
  ·rw[← e]at h;rcases Vm.1 h with h|h
   ·exact Vx _ h
   ·exact Vn _ (Vg _ h)
def Sha {l:List Nmd} {x:Nmd} (hl:H5 l=true) (hn:∀ y∈l,y.1≠x.1) (hx:nOk x=true):H5 (ins l x)=decide ((ins l x).length≤60):=by
 obtain⟨h1,h2,h3⟩:=Az.1 hl
 by_cases h:(ins l x).length≤60
 ·rw[decide_eq_true h];exact Az.2 ⟨Qo h1 hn,λ y hy=>by rcases Qp.1 hy with rfl|hy;exact hx;exact h2 y hy,h⟩
 ·rw[decide_eq_false h]
  cases hc:H5 (ins l x) with
  |false=>rfl
  |true=>exact absurd (Az.1 hc).2.2 h
def Wv {l:List Nmd} {s:ByteArray}:∀ y∈cut l s,y.1≠s:=λ y hy e=>by
 have:=(Aqb.1 hy).2;simp[e,G9.2 rfl]at this
def Upa {d:Dsk} {s:ByteArray} (hd:Ce d=true) (hs:Bc s=true):Ce (d.1,syI d s)=decide ((syI d s).length≤60):=by
 have hd':=hd;unfold Ce at hd';rw[Va]at hd';have h2:=Az.1 hd'.2;unfold Ce;rw[hd'.1,Wn];unfold syI;rw[Na h2.1]
 cases h:fnd d.1 s with
 |none=>show H5 (cut d.2 s)=decide ((cut d.2 s).length≤60);rw[Ra hd'.2,decide_eq_true (Az.1 (Ra (s:=s) hd'.2)).2.2]
 |some i=>
  refine Sha (Ra hd'.2) Wv (N9.2 ⟨hs,?_⟩);have h1:=(Az.1 hd'.1).2.1 _ (A3 (d:=Hl) (Mn h).1);exact(N9.1 h1).2
def Uqa {l:List Nmd} (hs:F8 l) {x y:Nmd} (hx:x∈l) (hy:y∈l) (e:x.1=y.1):x=y:=by
 induction l with
 |nil=>simp at hx
 |cons z l ih=>
  obtain⟨h1,h2⟩:=Wd.1 hs;rcases Vl.1 hx with hx'|hx'
  ·rcases Vl.1 hy with hy'|hy'
   ·rw[hx',hy']
   ·have:=h1 y hy';rw[← hx',e,Gy]at this;cases this
  ·rcases Vl.1 hy with hy'|hy'
   ·have:=h1 x hx';rw[← hy',e,Gy]at this;cases this
   ·exact ih h2 hx' hy'

def wrI (d:Dsk) (s:ByteArray) (b:List Int):List Nmd:=ins (del d.1 s) (s,b)
def Mia (d:Dsk) (s:ByteArray) (b:List Int) (hd:DIn d) (hs:L8 s) (hb:b.length≤1000000000000):Tot (λ k=>Cy k d s b) (λ r=>r=bif Ce d&&(Bc s&&(decide (b.length≤400)&&decide ((wrI d s b).length≤60))) then ((wrI d s b,d.2),true) else (d,false)):=by
 unfold Cy;refine Zha (Fj d hd.1.1) ?_;rintro r rfl;refine Zha (Kw r hd.1.1 hd.1.2) ?_;rintro b1 rfl;cases h1:Ce r
 ·exact Zja rfl (Zga rfl)
 refine Zia rfl (Zha (Ju s hs) ?_);rintro b2 rfl;cases h2:Bc s
 ·exact Zja rfl (Zga rfl)
 refine Zia rfl (Zna (λ h=>?_) (λ h=>?_))
 ·rw[decide_eq_false (show ¬ b.length≤400 by omega)];exact Zga rfl
 ·rw[decide_eq_true (show b.length≤400 by omega)];refine Zha (Ps r.1 s hd.1.1.1.1) ?_;rintro c rfl;refine Zha (Zua (Q:=λ x=>x=b) (Hw b hb) rfl) ?_;rintro e rfl;have hdl:=Wt r.1 s;refine Zha (H0a (del r.1 s) (s,e) (by have:=hd.2.1;omega)) ?_;rintro m rfl;refine Zna (λ h=>?_) (λ h=>?_)
  ·rw[decide_eq_false (show ¬ (wrI r s e).length≤60 by unfold wrI;omega)];refine Zha (Fj r hd.1.1) ?_;rintro x rfl;exact Zga rfl
  ·rw[decide_eq_true (show (wrI r s e).length≤60 by unfold wrI;omega)];exact Zga rfl
def Qfa {d:Dsk} {s:ByteArray} {b:List Int} (hd:Ce d=true) (hs:Bc s=true):ptl (s,b) false d.1=wrI d s b∧Ce (wrI d s b,d.2)=(decide (b.length≤400)&&decide ((wrI d s b).length≤60)):=by
 have hd':=hd;unfold Ce at hd';rw[Va]at hd';have h1:=Az.1 hd'.1
 have e1:wrI d s b=ins (cut d.1 s) (s,b):=by unfold wrI;rw[Na h1.1]
 refine⟨by rw[e1];exact Ipa _ h1.1,?_⟩;unfold Ce;rw[hd'.2,B9b,e1]
 by_cases hb:b.length≤400
 ·rw[decide_eq_true hb,Wn];exact Sha (Ra hd'.1) Wv (N9.2 ⟨hs,hb⟩)
 ·rw[decide_eq_false hb,Zwa]
  cases hc:H5 (ins (cut d.1 s) (s,b)) with
  |false=>rfl
  |true=>exact absurd (N9.1 ((Az.1 hc).2.1 (s,b) (Qp.2 (.inl rfl)))).2 hb

def TS (l:List ByteArray):Prop:=l.Pairwise (λ a b=>tlt a b=true)
def pk (l:List Nmd) (s:ByteArray):Option Nmd:=match fnd l s with
 |some i=>some (l.getD i Hl)
 |none=>none
def Ura (x:Nmd) (l:List Nmd) (s:ByteArray):pk (x::l) s=if teq x.1 s then some x else pk l s:=by
 unfold pk;rw[Z1]
 by_cases h:teq x.1 s=true
 ·rw[if_pos h,if_pos h];rfl
 ·rw[if_neg h,if_neg h]
  cases fnd l s<;>rfl
def Ki:ByteArray:=⟨#[]⟩
def tpl (l:List ByteArray) (s:ByteArray):Nat:=(l.takeWhile (λ y=>tlt y s)).length
def wt (l:List ByteArray) (s:ByteArray):List ByteArray:=if tpl l s<l.length∧teq (l.getD (tpl l s) Ki) s=true then l else l.take (tpl l s)++[s]++l.drop (tpl l s)
def Sia (l:List ByteArray) (s:ByteArray):tpl l s≤l.length:=(Cib _).length_le
def Rn (l:List ByteArray) (s:ByteArray) (hf:l.length≤1000000000000):∀ (n i:Nat),l.length-i=n→i≤l.length→
  Tot (λ k=>Dg k l s (i:Int)) (λ r=>r=(l,s,((i+tpl (l.drop i) s:Nat):Int))):=by
 intro n
 induction n with
 |zero=>
  intro i hd hi;refine Tot.succ ?_;simp only[Dg];refine Zla (by omega) (Zga ?_);rw[Yu (by omega)];rfl
 |succ n ih=>
  intro i hd hi
  have hlt:i<l.length:=by omega
  refine Tot.succ ?_;simp only[Dg];refine Zka (by omega) (Zka (by omega) (Zka (by omega) ?_));rw[show toNat (i:Int)=i from Vj i,w64 (n:=(i:Int)+1) (by omega) (by omega),Bs (d:=Ki) hlt];have e0:l.getD i (⟨#[]⟩:ByteArray)=l.getD i Ki:=rfl;rw[e0]
  have e1:tpl (l.getD i Ki::l.drop (i+1)) s=if tlt (l.getD i Ki) s then tpl (l.drop (i+1)) s+1 else 0:=by
   unfold tpl;rw[Zq]
   split<;>rfl
  rw[e1];refine Zma (λ h=>?_) (λ h=>?_)
  ·have h':tlt (l.getD i Ki) s=true:=h;rw[if_pos h'];refine(ih (i+1) (by omega) (by omega)).mono ?_;rintro r rfl;rw[show i+1+tpl (l.drop (i+1)) s=i+(tpl (l.drop (i+1)) s+1) by omega]
  ·have h':¬ (tlt (l.getD i Ki) s=true):=by
    have:tlt (l.getD i Ki) s=false:=h;rw[this];simp
   rw[if_neg h'];exact Zga rfl
def Pt (l:List ByteArray) (s:ByteArray) (hf:l.length≤1000000000):Tot (λ k=>D9 k l s) (λ r=>r=wt l s):=by
 unfold D9;refine Zha (Rn l s (by omega) _ 0 rfl (Nat.zero_le _)) ?_;intro r hr;rw[List.drop_zero,Nat.zero_add]at hr;subst hr;have hj:=Sia l s;generalize hjj:tpl l s=j at *;dsimp only
 have hno:¬ (j<l.length∧teq (l.getD j Ki) s=true)→Tot (λ k=>cond (decide ((0:Int)≤(j:Int))) (cond (decide ((j:Int)≤(length l:Int))) (cond (Nat.ble ((length ([]:List ByteArray)+length (List.take (toNat (j:Int)) l))*16) 140737488355328) (let v3:List ByteArray:=([]:List ByteArray)++(List.take (toNat (j:Int)) l);cond (Nat.ble ((length v3+length [s])*16) 140737488355328) (cond (decide ((0:Int)≤(j:Int))) (cond (decide ((j:Int)≤(length l:Int))) (cond (Nat.ble ((length (v3++[s])+length (List.drop (toNat (j:Int)) l))*16) 140737488355328) (some ((v3++[s])++(List.drop (toNat (j:Int)) l))) none) none) none) none) none) none) none)
   (λ r=>r=wt l s):=by
  intro hn;refine Zka (by omega) (Zka (by omega) ?_);rw[show toNat (j:Int)=j from Vj j];refine Zoa (by simp only[Vs,Vp];omega) ?_;refine Zoa (by simp only[Vi,Vs,Vp,Vh];omega) ?_;refine Zka (by omega) (Zka (by omega) (Zoa (by simp only[Vi,Vs,Vp,We,Vh];omega) (Zga ?_)));unfold wt;rw[hjj,if_neg hn,Wk]
 refine Zna (λ h=>?_) (λ h=>hno (λ hh=>h (by omega)));refine Zka (by omega) (Zka h ?_);rw[show toNat (j:Int)=j from Vj j]at *;refine Zma (λ he=>Zga ?_) (λ he=>hno (λ hh=>?_))
 ·unfold wt;rw[hjj,if_pos ⟨by omega,he⟩]
 ·have h2:teq (l.getD j Ki) s=false:=he;rw[h2]at hh;cases hh.2
def Sja {l:List ByteArray} {s y:ByteArray}:y∈wt l s↔y=s∨y∈l:=by
 unfold wt
 by_cases h:tpl l s<l.length∧teq (l.getD (tpl l s) Ki) s=true
 ·rw[if_pos h];refine⟨.inr,λ h'=>?_⟩;rcases h' with rfl|h'
  ·have:=A3 (d:=Ki) h.1;rwa [G9.1 h.2]at this
  ·exact h'
 ·rw[if_neg h];have e:l.take (tpl l s)++l.drop (tpl l s)=l:=Wi _ _;constructor
  ·intro h';rw[Vo]at h';rcases Vm.1 h' with h'|h'
   ·right;rw[← e];exact Vx _ h'
   ·rcases Vm.1 h' with h'|h'
    ·left;simpa using h'
    ·right;rw[← e];exact Vn _ h'
  ·rintro (rfl|h')
   ·simp
   ·rw[← e]at h'
    rcases Vm.1 h' with h'|h'<;>simp[h']
def H2a (p:ByteArray→Bool):∀ l:List ByteArray,l.take (l.takeWhile p).length=l.takeWhile p∧l.drop (l.takeWhile p).length=l.dropWhile p
 |[]=>⟨rfl,rfl⟩
 |y::l=>by
  obtain⟨h1,h2⟩:=H2a p l;simp only[Zq,B1b]
  cases p y with
  |true=>simp[h1,h2]
  |false=>simp
def Ww {p:ByteArray→Bool}:∀ {l:List ByteArray} {y:ByteArray},y∈l.takeWhile p→p y=true
 |[],y,h=>by simp at h
 |z::l,y,h=>by
  simp only[Zq]at h;cases hz:p z
  ·rw[hz]at h;simp at h
  rw[hz]at h;simp only[if_true]at h;rcases Vl.1 h with rfl|h
  ·exact hz
  ·exact Ww h
def Tr {s:ByteArray}:∀ {l:List ByteArray},TS l→(∀ y r,l.dropWhile (λ y=>tlt y s)=y::r→y≠s)→∀ z∈l.dropWhile (λ y=>tlt y s),tlt s z=true
 |[],_,_,z,hz=>by simp at hz
 |y::l,hs,hn,z,hz=>by
  obtain⟨h1,h2⟩:=Wd.1 hs;simp only[B1b]at hz hn
  cases hy:tlt y s with
  |true=>
   rw[hy]at hz hn;simp only[if_true]at hz hn;exact Tr h2 hn z hz
  |false=>
   rw[hy]at hz hn;simp only[Wm,if_false]at hz hn
   have hxy:tlt s y=true:=by
    cases hh:tlt s y with
    |true=>rfl
    |false=>exact absurd (Ti hy hh) (hn y l rfl)
   rcases Vl.1 hz with rfl|hz
   ·exact hxy
   ·exact Iq hxy (h1 z hz)
def C8a {l:List ByteArray} {s:ByteArray} (hs:TS l):TS (wt l s):=by
 unfold wt
 by_cases h:tpl l s<l.length∧teq (l.getD (tpl l s) Ki) s=true
 ·rw[if_pos h];exact hs
 ·rw[if_neg h];obtain⟨e1,e2⟩:=H2a (λ y=>tlt y s) l
  have hd:∀ y r,l.dropWhile (λ y=>tlt y s)=y::r→y≠s:=by
   intro y r hr hy;rw[← e2]at hr
   have hlt:tpl l s<l.length:=by
    rcases Anb (tpl l s) l.length with h'|h'
    ·exact h'
    ·have:l.drop (tpl l s)=[]:=Yu h';unfold tpl at this;rw[this]at hr;cases hr
   have:l.drop (tpl l s)=l.getD (tpl l s) Ki::l.drop (tpl l s+1):=Bs hlt;unfold tpl at this;rw[this]at hr;simp only[Yf]at hr;exact h ⟨hlt,G9.2 (hr.1.trans hy)⟩
  have e1':l.take (tpl l s)=l.takeWhile (λ y=>tlt y s):=e1;have e2':l.drop (tpl l s)=l.dropWhile (λ y=>tlt y s):=e2;rw[e1',e2',Vo]
  have hs':TS (l.takeWhile (λ y=>tlt y s)++l.dropWhile (λ y=>tlt y s)):=by rw[Agb];exact hs
  obtain⟨h1,h2,h3⟩:=Za.1 hs';refine Za.2 ⟨h1,Wd.2 ⟨λ z hz=>Tr hs hd z hz,h2⟩,λ a ha b hb=>?_⟩;rcases Vl.1 hb with rfl|hb
  ·exact Ww (p:=λ y=>tlt y b) ha
  ·exact h3 a ha b hb

def Ska {l:List ByteArray} {s:ByteArray}:(wt l s).length≤l.length+1:=by
 unfold wt;have:=Sia l s;split
 ·omega
 ·simp only[Vi,Vp,We,Vh,Vs];omega

section
variable {α σ R:Type} {a b:α} {p:Prop} [Decidable p]
def dT (h:p):cond (decide p) a b=a:=by rw[decide_eq_true h];rfl
def dF (h:¬ p):cond (decide p) a b=b:=by rw[decide_eq_false h];rfl
def bT {m n:Nat} (h:m≤n):cond (Nat.ble m n) a b=a:=by rw[Zj h];rfl
def Zpa {L:Nat→Int→σ→Option R} {Q:R→Prop} (n:Nat) (I:Nat→σ→Prop) (hend:∀ s,I n s→Tot (λ k=>L (k+1) (n:Int) s) Q)
  (F2a:∀ i s,i<n→I i s→(∀ s',I (i+1) s'→Tot (λ k=>L k ((i:Int)+1) s') Q)→Tot (λ k=>L (k+1) (i:Int) s) Q):
  ∀ (i:Nat) (s:σ),i≤n→I i s→Tot (λ k=>L k (i:Int) s) Q:=by
 suffices h:∀ (m i:Nat) (s:σ),n-i=m→i≤n→I i s→Tot (λ k=>L k (i:Int) s) Q from λ i s hi hs=>h _ i s rfl hi hs
 intro m
 induction m with
 |zero=>
  intro i s hm hi hs
  obtain rfl:i=n:=by omega
  exact Tot.succ (hend s hs)
 |succ m ih=>
  intro i s hm hi hs;refine Tot.succ (F2a i s (by omega) hs λ s' hs'=>?_);have:=ih (i+1) s' (by omega) (by omega) hs';rwa [show (((i+1:Nat)):Int)=(i:Int)+1 by omega]at this
end
def cst (x:BitVec 32):BitVec 32:=if x.getLsbD 0 then (x >>> 1) ^^^ 2197175160#32 else x >>> 1
def Ena:Nat→BitVec 32→BitVec 32
 |0,x=>x
 |n+1,x=>Ena n (cst x)
def cby (x:BitVec 32) (b:Int):BitVec 32:=Ena 8 (x ^^^ ofInt 32 b)
def Vxa (l:List Int):BitVec 32 := ~~~ (l.foldl cby 4294967295#32)
def crc (l:List Int):Int:=((Vxa l).toNat:Int)
def Zda (v:BitVec 32):v.getLsbD 0=decide (v.toNat % 2=1):=by
 rw[BitVec.getLsbD,Nat.testBit_zero]
def Eoa (v:BitVec 32):ofInt (IntKind.bits .u32) (v.toNat:Int)=v:=by
 show ofInt 32 (v.toNat:Int)=v;rw[BitVec.ofInt_natCast,BitVec.ofNat_toNat,BitVec.setWidth_eq]
def Yja (v:BitVec 32):wrap .u32 (v.toNat:Int)=(v.toNat:Int):=Ccb _ ⟨by omega,by have:=v.isLt;omega⟩
def sh1 (v:BitVec 32):Int.fdiv (v.toNat:Int) 2=((v >>> 1).toNat:Int):=by
 rw[A4b _ (by omega),BitVec.toNat_ushiftRight,Nat.shiftRight_eq_div_pow];omega
def Yka (v:BitVec 32):((wrap .u32 ((ofInt (IntKind.bits .u32) (v.toNat:Int) &&& ofInt (IntKind.bits .u32) 1).toNat))==1)=v.getLsbD 0:=by
 show (wrap .u32 (((ofInt 32 (v.toNat:Int) &&& ofInt 32 1).toNat:Nat):Int)==1)=_;rw[show ofInt 32 (v.toNat:Int)=v from Eoa v,Yja,Zda,BitVec.toNat_and,show (ofInt 32 1).toNat=1 from by decide,Nat.and_one_is_mod,Arb,beq_iff_eq,decide_eq_true_iff];omega
def Yla (v w:BitVec 32) (x:Int) (h:ofInt 32 x=w):wrap .u32 ((ofInt (IntKind.bits .u32) (v.toNat:Int) ^^^ ofInt (IntKind.bits .u32) x).toNat)=((v ^^^ w).toNat:Int):=by
 show wrap .u32 (((ofInt 32 (v.toNat:Int) ^^^ ofInt 32 x).toNat:Nat):Int)=_;rw[show ofInt 32 (v.toNat:Int)=v from Eoa v,h];exact Yja _
def Zea (K:IntKind) (h:1≤IntKind.bits K):(2:Int) ^ (min (toNat 1) (IntKind.bits K))=2:=by
 rw[show toNat 1=1 from rfl,Zxa h];rfl
def Ira (l:List Int) (x8 x9:Int):∀ (n:Nat) (v:BitVec 32) (i:Int),0≤i→8-i=n→Tot (λ k=>Gq k (v.toNat:Int) l x8 x9 i) (λ r=>r=(((Ena n v).toNat:Int),l,x8,x9)):=by
 intro n
 induction n with
 |zero=>
  intro v i h0 hn;refine Tot.succ ?_;simp only[Gq];exact Zla (by omega) (Zga rfl)
 |succ n ih=>
  intro v i h0 hn;refine Tot.succ ?_;simp only[Gq];refine Zka (by omega) ?_;rw[w64 (n:=i+1) (by omega) (by omega),Yka,Zea _ (by decide),sh1,Yla _ 2197175160#32 _ (by decide)];have e:Ena (n+1) v=Ena n (cst v):=rfl;rw[e];refine Zma (λ h=>?_) (λ h=>?_)
  ·have:=ih (v >>> 1 ^^^ 2197175160#32) (i+1) (by omega) (by omega);rwa [show v >>> 1 ^^^ 2197175160#32=cst v by unfold cst;rw[if_pos h]]at this ⊢
  ·have:=ih (v >>> 1) (i+1) (by omega) (by omega);rwa [show v >>> 1=cst v by unfold cst;rw[if_neg (by rw[h];simp)]]at this ⊢
def Sla {b:Int} (h:0≤b∧b≤255):b=((ofInt 32 b).toNat:Int):=by
 rw[C3b];omega
def Usa (l:List Int) (hb:Ax l) (hl:l.length≤1000000000000):Tot (λ k=>Ic k l) (λ r=>r=crc l):=by
 unfold Ic;refine Zha (Q:=λ r=>r=(((l.foldl cby 4294967295#32).toNat:Nat):Int)) ?_ ?_
 ·have:=Zpa (L:=λ k i s=>H0 k s l (l.length:Int) i) (Q:=λ r=>r=(((l.foldl cby 4294967295#32).toNat:Nat):Int)) l.length (λ i s=>∃ v:BitVec 32,s=(v.toNat:Int)∧(l.drop i).foldl cby v=l.foldl cby 4294967295#32) ?_ ?_ 0 4294967295 (Vu _) ⟨4294967295#32,by decide,by rw[Yx]⟩
  ·exact this
  ·rintro s ⟨v,rfl,hv⟩;simp only[H0];rw[Yk]at hv;exact Zla (by omega) (Zga (by rw[← hv];rfl))
  ·rintro i s hi ⟨v,rfl,hv⟩ next;simp only[H0];have hx:=hb _ (A3 (d:=0) hi);refine Zka (by omega) (Zka (by omega) (Zka (by omega) ?_));rw[Vj,Ccb _ ⟨hx.1,by omega⟩,Yla v _ _ rfl];refine Zsa (Ira l _ _ 8 _ 0 (by decide) (by decide)) ?_;simp only;rw[w64 (n:=(i:Int)+1) (by omega) (by omega)];refine next _ ⟨_,rfl,?_⟩;rw[Bs (d:=0) hi,Zc]at hv;exact hv
 ·rintro r rfl;refine Zga ?_;unfold crc Vxa
  have hm:ofInt 32 (if IntKind.signed .u32 then -1 else IntKind.max .u32)=BitVec.allOnes 32:=by decide
  have e:BitVec.allOnes 32 ^^^ l.foldl cby 4294967295#32 = ~~~ (l.foldl cby 4294967295#32):=by rw[Cmb];exact BitVec.xor_allOnes
  show wrap .i64 (wrap .u32 (((ofInt 32 (if IntKind.signed .u32 then -1 else IntKind.max .u32) ^^^ ofInt 32 ((l.foldl cby 4294967295#32).toNat:Int)).toNat:Nat):Int))=_;rw[show ofInt 32 ((l.foldl cby 4294967295#32).toNat:Int)=l.foldl cby 4294967295#32 from Eoa _,hm,e];have:=(~~~ (l.foldl cby 4294967295#32)).isLt;rw[Yja,w64 (by omega) (by omega)]

def Epa:Fil:=(((0:Int),((0:Int),(0:Int))),(false,([]:List Int)))
def Dw (f:Fil):Bool:=Gr f.1&&(decide ((f.2.2.length:Int)≤200)&&(!f.2.1||((f.2.2.length:Int)==0)))
def S5 (f:Fil):Cm f=some (Dw f):=by
 unfold Cm Dw;rw[Pr];simp only[Vt]
 cases Gr f.1<;>cases decide ((length f.2.2:Int)≤200)<;>cases f.2.1<;>rfl
def Ha {f:Fil}:Dw f=true↔Gr f.1=true∧f.2.2.length≤200∧(f.2.1=true→f.2.2=[]):=by
 unfold Dw;rw[Va,Va,decide_eq_true_iff]
 have:(!f.2.1||((f.2.2.length:Int)==0))=true↔(f.2.1=true→f.2.2=[]):=by
  cases f.2.1 with
  |false=>simp
  |true=>simp
 rw[this];constructor
 ·rintro⟨h1,h2,h3⟩;exact⟨h1,by omega,h3⟩
 ·rintro⟨h1,h2,h3⟩;exact⟨h1,by omega,h3⟩
def C9a (a b:Fil):Gp a b=some (sle b.1 a.1):=by unfold Gp;rw[Pp];rfl
def hdF (s:Stp) (d:Bool):List Int:=Sea s++M0 (Cv (Eka d))
def Mh (f:Fil):List Int:=hdF f.1 f.2.1++txt (I4 f.2.2)
def c4 (c:Int):List Int:=[wrap .u8 (Int.fdiv c (2 ^ (min (toNat 24) (IntKind.bits .i64)))),wrap .u8 (Int.fdiv c (2 ^ (min (toNat 16) (IntKind.bits .i64)))),wrap .u8 (Int.fdiv c (2 ^ (min (toNat 8) (IntKind.bits .i64)))),wrap .u8 c]
def Hf (f:Fil):List Int:=bif Dw f then Mh f++c4 (crc (Mh f)) else []
def Lw {a b:List Int} (ha:Ax a) (hb:Ax b):Ax (a++b):=λ x hx=>(Vm.1 hx).elim (ha x) (hb x)
def Nb (n:Int):Ax (M0 (Cv n)):=Ima _ (Lt n)
def Mja (s:Stp) (d:Bool):Ax (hdF s d):=Lw (Lw (Nb _) (Lw (Nb _) (Nb _))) (Nb _)
def On (f:Fil):Ax (Mh f):=Lw (Mja _ _) (Lw (Nb _) (Wr _))
def Qga (c:Int):Ax (c4 c):=by
 intro x hx;simp only[c4,Vl,B0b,or_false]at hx
 rcases hx with rfl|rfl|rfl|rfl<;>exact M1a _
def Qq (f:Fil):Ax (Hf f):=by
 unfold Hf
 cases Dw f with
 |false=>intro x hx;simp at hx
 |true=>exact Lw (On f) (Qga _)
def Mka (s:Stp) (d:Bool):(hdF s d).length≤20:=by
 have h1:=Q7a s;have h2:=(Jv (Cv (Eka d))).1;unfold hdF;rw[Vi];omega
def Caa (f:Fil):(Mh f).length≤25+f.2.2.length:=by
 have h1:=Mka f.1 f.2.1;have h2:=Uma (I4 f.2.2);have h3:(I4 f.2.2).size=f.2.2.length:=Lu _;unfold Mh;rw[Vi];omega
def Z2 (f:Fil):(Hf f).length≤229:=by
 unfold Hf;cases h:Dw f
 ·simp
 have h1:=Caa f;have h2:=(Ha.1 h).2.1;rw[cond_true,Vi];simp only[c4,Vh,Vs];omega
def Mi (f:Fil):Tot (λ k=>Dm k f) (λ r=>r=Hf f):=by
 unfold Dm Hf;refine Zsa (Zua (Q:=λ b=>b=Dw f) (S5 f) rfl) ?_;cases h:Dw f
 ·exact Zja rfl (Zga rfl)
 have h2:=(Ha.1 h).2.1;have h3:(I4 f.2.2).size=f.2.2.length:=Lu _;have h4:=Mka f.1 f.2.1;have h5:=Caa f;refine Zia rfl (Zsa (Ioa [] f.1 f.2.1 (by simp)) ?_);rw[Wk];refine Zsa (Q5a _ _ (by unfold hdF at h4;omega) (by omega)) ?_;have e:Sea f.1++M0 (Cv (Eka f.2.1))++txt (I4 f.2.2)=Mh f:=rfl;rw[e];refine Zsa (Usa _ (On f) (by omega)) ?_;exact Zoa (by simp only[Vh,Vs];omega) (Zga rfl)
def La (b:List Int):Option Fil:=(Tp b 0).bind λ a=>(Jea b a.2).bind λ t=>bif Dw (a.1.1,a.1.2,bytesOf t.1)&&decide (Hf (a.1.1,a.1.2,bytesOf t.1)=b) then some (a.1.1,a.1.2,bytesOf t.1) else none
def Tt (b:List Int):Fil×Bool:=match La b with
 |some f=>(f,true)
 |none=>(Epa,false)
def Eqa {b:List Int} {f:Fil} (h:La b=some f):Dw f=true∧Ax f.2.2∧Hf f=b:=by
 unfold La at h;simp only[Cfb]at h;obtain⟨a,_,t,_,h⟩:=h;cases hc:(Dw (a.1.1,a.1.2,bytesOf t.1)&&decide (Hf (a.1.1,a.1.2,bytesOf t.1)=b))
 ·rw[hc]at h;cases h
 rw[hc]at h;simp only[cond_true,Vc]at h;subst h;rw[Va,decide_eq_true_iff]at hc;exact⟨hc.1,Wr _,hc.2⟩
def Mla (s:Stp) (d:Bool) (rest:List Int) (h:Gr s=true):Tp (hdF s d++rest) 0=some ((s,d),(hdF s d).length):=by
 obtain⟨t,c,n⟩:=s;unfold Gr at h;simp only[Va,Dl]at h;obtain⟨⟨t0,t1⟩,⟨c0,c1⟩,n0,n1⟩:=h;have ht:=Tl t0 t1;have hc:=Tl c0 (show c≤1000000000 by omega);have hn:=Tl n0 (show n≤1000000000 by omega)
 have hbit:(((Cv (Eka d):Nat):Int)==1)=d:=by cases d<;>decide
 have hbit2:¬ (1<Cv (Eka d)):=by cases d<;>decide
 have k:∀ (a:List Int) (n:Nat) (b:List Int),n≤1000000000→W8 (a++(M0 n++b)) a.length=some (n,(a++M0 n).length):=λ a n b hn=>by rw[Gya a n b hn,Vi]
 have e0:hdF (t,c,n) d++rest=M0 (Cv t)++(M0 (Cv c)++(M0 (Cv n)++(M0 (Cv (Eka d))++rest))):=by
  unfold hdF Sea;simp only[Vo]
 have el:(hdF (t,c,n) d).length=(M0 (Cv t)).length+(M0 (Cv c)).length+(M0 (Cv n)).length+(M0 (Cv (Eka d))).length:=by
  unfold hdF Sea;simp only[Vi];omega
 have g1:=k [] (Cv t) (M0 (Cv c)++(M0 (Cv n)++(M0 (Cv (Eka d))++rest))) (Lt t);have g2:=k (M0 (Cv t)) (Cv c) (M0 (Cv n)++(M0 (Cv (Eka d))++rest)) (Lt c);have g3:=k (M0 (Cv t)++M0 (Cv c)) (Cv n) (M0 (Cv (Eka d))++rest) (Lt n);have g4:=k (M0 (Cv t)++M0 (Cv c)++M0 (Cv n)) (Cv (Eka d)) rest (Lt _);simp only[Vo,Wk,Vs]at g1 g2 g3 g4;simp only[Vi]at g1 g2 g3 g4;unfold Tp;rw[e0,el];simp only[Zg]at g1 g2 g3 g4 ⊢;simp only[g1,g2,g3,g4,Vt,decide_eq_false hbit2,cond_false];rw[ht,hc,hn,hbit]
def Pu {f:Fil} (h:Dw f=true) (hb:Ax f.2.2):La (Hf f)=some f:=by
 obtain⟨h1,h2,h3⟩:=Ha.1 h
 have e:Hf f=hdF f.1 f.2.1++(txt (I4 f.2.2)++c4 (crc (Mh f))):=by
  unfold Hf;rw[h,cond_true];unfold Mh;rw[Vo]
 have g1:=Mla f.1 f.2.1 (txt (I4 f.2.2)++c4 (crc (Mh f))) h1;have g2:=Q6a (hdF f.1 f.2.1) (I4 f.2.2) (c4 (crc (Mh f))) (by rw[Lu];omega);rw[← e]at g1 g2;unfold La;simp only[g1,g2,Vt];rw[Jw hb];have e1:(f.1,f.2.1,f.2.2)=f:=rfl;rw[e1,h,decide_eq_true rfl];rfl
def Tu {a b:List Int} (ha:Ax a) (hb:Ax b):((I4 a).toList==(I4 b).toList)=decide (a=b):=by
 have:teq (I4 a) (I4 b)=decide (a=b):=by
  rw[Arb,G9,decide_eq_true_iff];constructor
  ·intro h;have:=congrArg bytesOf h;rwa [Jw ha,Jw hb]at this
  ·rintro rfl;rfl
 exact this
def Qha (l:List Int) (hb:Ax l) (hl:l.length≤1000000000000) (p:Int) (hp:p≤1000000000000):
  Tot (λ k=>C5 k (l,p,true)) (λ r=>r=((⟨#[]⟩:ByteArray),l,p,true)):=by
 unfold C5;refine Zsa (Gza l hb hl p hp) ?_;exact Zja rfl (Zga rfl)
def Qia {f:Fil}:(((Hf f).length:Int)==0) = !(Dw f):=by
 unfold Hf;cases h:Dw f
 ·rfl
 rw[cond_true,Vi,Zk,beq_eq_false_iff_ne];simp only[c4,Vh,Vs];omega
def Jc (b:List Int) (hb:Ax b) (hl:b.length≤1000000000000):Tot (λ k=>Bg k b) (λ r=>r=Tt b):=by
 unfold Bg;refine Zha (Yia b hb hl 0 (Vu _) false) ?_;rintro r (⟨_,⟨s,d⟩,q,h1,h2,rfl⟩|⟨h1,s,d,q,h2,rfl⟩)
 ·refine Zha (Yha b hb hl q h2) ?_;rintro r (⟨t,q2,h3,h4,rfl⟩|⟨h3,rfl⟩)
  ·have hsz:=(Mfa hb h3).2.1;refine Zoa (by dsimp only;omega) (Zsa (Mi _) ?_);refine Zia rfl ?_
   have e:Tt b=bif Dw (s,d,bytesOf t)&&decide (Hf (s,d,bytesOf t)=b) then ((s,d,bytesOf t),true) else (Epa,false):=by
    unfold Tt La;simp only[h1,h3,Vt]
    cases Dw (s,d,bytesOf t)&&decide (Hf (s,d,bytesOf t)=b)<;>rfl
   simp only;rw[e,Qia];cases hf:Dw (s,d,bytesOf t)
   ·exact Zja rfl (Zga rfl)
   refine Zia rfl ?_;rw[Tu (Qq _) hb]
   cases decide (Hf (s,d,bytesOf t)=b) with
   |false=>exact Zja rfl (Zga rfl)
   |true=>exact Zia rfl (Zga rfl)
  ·refine Zoa (Vu _) (Zsa (Mi _) ?_);refine Zja rfl (Zga ?_);unfold Tt La;simp only[h1,h3,Vt,Azb];rfl
 ·refine Zsa (Qha b hb hl q (by omega)) ?_;refine Zoa (Vu _) (Zsa (Mi _) ?_);refine Zja rfl (Zga ?_);unfold Tt La;simp only[h1.resolve_left (by simp),Azb];rfl

end Go.Proofs.YtcpligincipmhaaGreat.Vf
