import Derived.Test.YtcpligincipmhaaGreatMaj
import Derived.Laws.StructEq
set_option linter.all false
namespace Go.Proofs.YtcpligincipmhaaGreat.Vf
open Go
open List (length getD)
open Int (toNat)
open Go.IntKind (wrap)
open BitVec (ofInt)
def Vj:=@Int.toNat_natCast
def Wf:=@Bool.true_and
def Ye:=@List.drop_length
def Yg:=@Bool.not_eq_false'
def Yn:=@List.mem_iff_getElem
def Yp:=@Bool.and_false
def Yr:=@List.drop_of_length_le
def Ys:=@List.pairwise_iff_getElem
def Yw:=@List.mem_or_eq_of_mem_set
def Zb:=@Bool.not_true
def Zc:=@Bool.false_and
def Zo:=@List.takeWhile_cons
def Zs:=@Bool.not_false
def Cub:=@List.filter_cons
def D4b:=@Int.fdiv_eq_ediv_of_nonneg
def D8b:=@Nat.pow_succ
def Dfb:=@List.mem_filter
def Dgb:=@List.takeWhile_append_dropWhile
def Dhb:=@Bool.eq_iff_iff
def Drb:=@List.find?_cons
def Dub:=@List.getElem_take
def Dvb:=@Int.tdiv_eq_ediv_of_nonneg
def Dzb:=@Option.bind_none
def E2b:=@List.getElem_of_mem
def E3b:=@List.filter_sublist
def E4b:=@List.dropWhile_cons
def Ebb:=@IntKind.wrap_u8
def Ecb:=@List.findIdx?_eq_some_iff_getElem
def Ekb:=@Bool.and_eq_false_iff
def Elb:=@List.Pairwise.sublist
def F3b:=@Sum.elim_inr
def F4b:=@List.findIdx?_cons
def F8b:=@List.mem_of_find?_eq_some
def Fab:=@List.take_sublist
def Fbb:=@Go.IntWalk.u32_in
def Feb:=@Bool.false_or
def Fgb:=@List.getElem_set
def Fhb:=@List.takeWhile_sublist
def Fkb:=@BitVec.xor_comm

def Cya:∀ (a:List UInt8),Op.bytesLess a a=false
 |[]=>rfl
 |a::l=>by simp[Op.bytesLess,Cya l]
def I2a:∀ (a b c:List UInt8),Op.bytesLess a b=true→Op.bytesLess b c=true→Op.bytesLess a c=true
 |_,[],_,h,_=>by simp[Op.bytesLess]at h
 |_,_::_,[],_,h=>by simp[Op.bytesLess]at h
 |[],_::_,_::_,_,_=>rfl
 |a::x,b::y,c::z,h1,h2=>by
  simp only[Op.bytesLess,Zw,Va,decide_eq_true_eq,beq_iff_eq]at h1 h2 ⊢;rcases h1 with h1|⟨rfl,h1⟩
  ·rcases h2 with h2|⟨rfl,h2⟩
   ·exact .inl (UInt8.lt_trans h1 h2)
   ·exact .inl h1
  ·rcases h2 with h2|⟨rfl,h2⟩
   ·exact .inl h2
   ·exact .inr ⟨rfl,I2a x y z h1 h2⟩
def Uia:∀ (a b:List UInt8),Op.bytesLess a b=false→Op.bytesLess b a=false→a=b
 |[],[],_,_=>rfl
 |[],_::_,h,_=>by simp[Op.bytesLess]at h
 |_::_,[],_,h=>by simp[Op.bytesLess]at h
 |a::x,b::y,h1,h2=>by
  simp only[Op.bytesLess,Bool.or_eq_false_iff,Ekb,decide_eq_false_iff_not]at h1 h2
  have hab:a=b:=by
   have h3:=UInt8.not_lt.1 h1.1;have h4:=UInt8.not_lt.1 h2.1;exact UInt8.le_antisymm h4 h3
  subst hab;rw[Uia x y (h1.2.resolve_left (by simp)) (h2.2.resolve_left (by simp))]
def tlt (a b:ByteArray):Bool:=Op.bytesLess a.toList b.toList
def teq (a b:ByteArray):Bool:=a.toList==b.toList
def Xo {a b:ByteArray} (h:a.toList=b.toList):a=b:=by
 rw[ByteArray.toList_eq,ByteArray.toList_eq]at h;obtain⟨⟨x⟩⟩:=a;obtain⟨⟨y⟩⟩:=b;simp only at h;rw[h]
def Cn {a b:ByteArray}:teq a b=true↔a=b:=by
 unfold teq;rw[beq_iff_eq];exact⟨Xo,λ h=>by rw[h]⟩
def Ek (a:ByteArray):tlt a a=false:=Cya _
def Iy {a b c:ByteArray} (h:tlt a b=true) (h':tlt b c=true):tlt a c=true:=I2a _ _ _ h h'
def Um {a b:ByteArray} (h:tlt a b=false) (h':tlt b a=false):a=b:=Xo (Uia _ _ h h')
def Nw {a b:ByteArray} (h:tlt a b=true):tlt b a=false:=by
 cases hb:tlt b a
 ·rfl
 have:=Iy h hb;rw[Ek]at this;cases this
def Zua (a b:ByteArray):(!(Op.bytesLess a.toList b.toList||a.toList==b.toList))=tlt b a:=by
 show (!(tlt a b||teq a b))=tlt b a;cases h1:tlt a b
 case true=>rw[Nw h1];rfl
 cases h2:teq a b
 case true=>rw[Cn.1 h2,Ek];rfl
 cases h3:tlt b a
 case true=>rfl
 exfalso;have:=Um h1 h3;rw[Cn.2 this]at h2;cases h2
def sle (a b:Stp):Bool:=cond (a.1 != b.1) (decide (a.1<b.1)) (cond (a.2.1 != b.2.1) (decide (a.2.1<b.2.1)) (decide (a.2.2<b.2.2)))
def Ana (a b:Stp):Bv a b=some (sle a b):=by
 unfold Bv sle
 cases a.1 != b.1<;>cases a.2.1 != b.2.1<;>rfl
def Ln {a b:Stp}:sle a b=true↔a.1<b.1∨(a.1=b.1∧(a.2.1<b.2.1∨(a.2.1=b.2.1∧a.2.2<b.2.2))):=by
 unfold sle
 by_cases h1:a.1=b.1
 ·by_cases h2:a.2.1=b.2.1
  ·simp[h1,h2]
  ·have:(a.2.1 != b.2.1)=true:=by simpa using h2
   simp[h1,this,h2]
 ·have:(a.1 != b.1)=true:=by simpa using h1
  simp[this,h1]
def Ie (a b:Row):Bool:=cond (!((a.2.1.1==b.2.1.1)&&((a.2.1.2.1==b.2.1.2.1)&&(a.2.1.2.2==b.2.1.2.2)))) (sle a.2.1 b.2.1) (cond (!(a.2.2.1==b.2.2.1)) b.2.2.1 (decide (a.2.2.2<b.2.2.2)))
def Nva (a b:Row):Fu a b=some (Ie b a):=by
 unfold Fu Ie;rw[Ana,BEq.comm (a:=a.2.1.1),BEq.comm (a:=a.2.1.2.1),BEq.comm (a:=a.2.1.2.2),BEq.comm (a:=a.2.2.1)]
 cases (!((b.2.1.1==a.2.1.1)&&((b.2.1.2.1==a.2.1.2.1)&&(b.2.1.2.2==a.2.1.2.2))))<;>cases (!(b.2.2.1==a.2.2.1))<;>rfl
def Ju:Row:=((⟨#[]⟩:ByteArray),(((0:Int),((0:Int),(0:Int))),(false,(0:Int))))
def Un (s:ByteArray):List Row→Nat→Option Nat
 |[],_=>none
 |r::l,i=>bif teq r.1 s then some i else Un s l (i+1)
def Aoa (l:List Row) (s:ByteArray):Nat→Nat
 |0=>0
 |k+1=>bif tlt s (l.getD k Ju).1 then Aoa l s k else k+1
def mrg (l:List Row) (x:Row):List Row:=match Un x.1 l 0 with
 |some i=>bif Ie (l.getD i Ju) x then l.set i x else l
 |none=>l.take (Aoa l x.1 l.length)++x::l.drop (Aoa l x.1 l.length)
def Apa (l:List Row) (s:ByteArray):∀ k,Aoa l s k≤k
 |0=>Vw _
 |k+1=>by
  unfold Aoa
  cases tlt s (l.getD k Ju).1 with
  |true=>have:=Apa l s k;simp only[cond_true];omega
  |false=>simp only[cond_false];omega
def Ov {s:ByteArray}:∀ (l:List Row) (i j:Nat),Un s l i=some j→i≤j∧j<i+l.length∧teq (l.getD (j-i) Ju).1 s=true
 |[],i,j,h=>by simp[Un]at h
 |r::l,i,j,h=>by
  unfold Un at h
  cases ht:teq r.1 s with
  |true=>
   rw[ht]at h;simp only[cond_true,Vc]at h;subst h;refine⟨Vw _,by simp,?_⟩;rw[E6b];exact ht
  |false=>
   rw[ht]at h;simp only[cond_false]at h;obtain⟨h1,h2,h3⟩:=Ov l (i+1) j h;refine⟨by omega,by simp only[Vh];omega,?_⟩;rw[show j-i=(j-(i+1))+1 by omega];exact h3
def C8 {α:Type} {l:List α} {i:Nat} {d:α} (h:i<l.length):l.drop i=l.getD i d::l.drop (i+1):=by
 rw[Zj h,Vb,Vg h];rfl
def Few (l:List Row):Prop:=l.length≤1000000000000
def Cza (x:Row) (l0 l5:List Row) (h5:l5=l0):∀ (n:Nat) (i:Nat),l0.length-i=n→i≤l0.length→Few l0→
  Tot (λ k=>Dq k l0 l5 l0 (l0.length:Int) (i:Int) x.1 x.2.1.1 x.2.1.2.1 x.2.1.2.2 x.2.2.1 x.2.2.2) (λ r=>r=match Un x.1 (l0.drop i) i with
   |some j => .inl (bif Ie (l0.getD j Ju) x then l0.set j x else l0)
   |none => .inr (l0,x.1,x.2.1.1,x.2.1.2.1,x.2.1.2.2,x.2.2.1,x.2.2.2)):=by
 subst h5;intro n
 induction n with
 |zero=>
  intro i hn hi hf;unfold Few at hf;refine Tot.succ ?_;simp only[Dq];refine Ckb (by omega) (Cfb ?_);rw[Yr (by omega)];rfl
 |succ n ih=>
  intro i hn hi hf;have hf':=hf;unfold Few at hf
  have hlt:i<l5.length:=by omega
  refine Tot.succ ?_;simp only[Dq];refine Cjb (by omega) (Cjb (by omega) (Cjb (by omega) ?_));have e0:toNat (i:Int)=i:=Vj i;rw[e0,C8 (d:=Ju) hlt];refine Clb (λ ht=>?_) (λ ht=>?_)
  ·have ht':teq (l5.getD i Ju).1 x.1=true:=ht;refine Cqb (Crb (Q:=λ r=>r=Ie (l5.getD i Ju) x) (Nva _ _) rfl) ?_;simp only[Un,ht',cond_true]
   cases hb:Ie (l5.getD i Ju) x with
   |true=>exact Cib rfl (Cjb (by omega) (Cjb (by omega) (Cfb rfl)))
   |false=>exact Chb rfl (Cfb rfl)
  ·have ht':teq (l5.getD i Ju).1 x.1=false:=ht;simp only[Un,ht',cond_false];rw[w64 (n:=(i:Int)+1) (by omega) (by omega)];exact ih (i+1) (by omega) (by omega) hf'
def Aqa (x:Row) (l:List Row) (hf:Few l):∀ (i:Nat),i≤l.length→
  Tot (λ k=>Cy k l (i:Int) x.1 x.2.1.1 x.2.1.2.1 x.2.1.2.2 x.2.2.1 x.2.2.2) (λ r=>r=(l,(Aoa l x.1 i:Int),x.1,x.2.1.1,x.2.1.2.1,x.2.1.2.2,x.2.2.1,x.2.2.2)):=by
 unfold Few at hf;intro i
 induction i with
 |zero=>
  intro hi;refine Tot.succ ?_;simp only[Cy];exact Ckb (by omega) (Cfb rfl)
 |succ i ih=>
  intro hi;refine Tot.succ ?_;simp only[Cy];rw[w64 (n:=((i+1:Nat):Int)-1) (by omega) (by omega),show ((i+1:Nat):Int)-1=(i:Int) by omega,show toNat (i:Int)=i from Vj i];refine Cjb (by omega) (Cjb (by omega) (Cjb (by omega) ?_));have e:∀ z,(!(Op.bytesLess (l.getD i z).1.toList x.1.toList||(l.getD i z).1.toList==x.1.toList))=tlt x.1 (l.getD i z).1:=λ z=>Zua _ _;rw[e]
  have hc:Aoa l x.1 (i+1)=bif tlt x.1 (l.getD i Ju).1 then Aoa l x.1 i else i+1:=rfl
  refine Clb (λ ht=>?_) (λ ht=>?_)
  ·have ht':tlt x.1 (l.getD i Ju).1=true:=ht;rw[hc,ht',cond_true];exact ih (by omega)
  ·have ht':tlt x.1 (l.getD i Ju).1=false:=ht;rw[hc,ht',cond_false];exact Cfb rfl
def Qm (l:List Row) (hf:Few l):Am l=some l:=by
 unfold Few at hf;unfold Am;rw[Zn (by simp only[Vs];omega)];rfl
def Nwa (l:List Row) (x:Row) (hf:Few l):Tot (λ k=>C2 k l x) (λ r=>r=mrg l x):=by
 have hf':=hf;unfold Few at hf;unfold C2;refine Cgb (Crb (Q:=λ r=>r=l) (Qm l hf') rfl) ?_;rintro r rfl;refine Cgb (Cza x r r rfl _ 0 rfl (Vu _) hf') ?_;rintro y rfl;rw[Yu];unfold mrg
 cases hfi:Un x.1 r 0 with
 |some j=>exact Cfb rfl
 |none=>
  simp only[F3b];refine Cgb (Aqa x r hf' r.length (Vw _)) ?_;rintro z rfl;have hc:=Apa r x.1 r.length;simp only;rw[show toNat ((Aoa r x.1 r.length:Nat):Int)=Aoa r x.1 r.length from Vj _];refine Cjb (by omega) (Cjb (by omega) ?_)
  have hft:Few (r.take (Aoa r x.1 r.length)):=by unfold Few;rw[Vq];omega
  refine Cgb (Crb (Q:=λ q=>q=r.take (Aoa r x.1 r.length)) (Qm _ hft) rfl) ?_;rintro q rfl;refine Cnb (by simp only[Vq,Vh,Vs];omega) ?_;refine Cjb (by omega) (Cjb (by omega) (Cnb (by simp only[Vi,Vq,We,Vh,Vs];omega) (Cfb ?_)));rw[Vo];rfl

def T8 (a b:ByteArray):(a==b)=teq a b:=beq_toListBytes a b
def Rq {s:ByteArray}:∀ (l:List Row) (i:Nat),Un s l i=none→∀ r∈l,r.1≠s
 |[],_,_,r,hr=>by simp at hr
 |a::l,i,h,r,hr=>by
  unfold Un at h;cases ht:teq a.1 s
  case true=>rw[ht]at h;simp at h
  rw[ht]at h;rcases Vk.1 hr with rfl|hr
  ·intro e;rw[Cn.2 e]at ht;cases ht
  ·exact Rq l (i+1) h r hr
def Wya (l:List Row) (x:Row):l.length≤(mrg l x).length∧(mrg l x).length≤l.length+1:=by
 unfold mrg;have hc:=Apa l x.1 l.length;split
 ·cases Ie (l.getD _ Ju) x<;>simp
 ·simp only[Vi,Vq,Vh,We];omega
def Nxa {l:List Row} {x r:Row} (h:r∈mrg l x):r=x∨r∈l:=by
 unfold mrg at h;split at h
 ·rename_i j hj;cases hb:Ie (l.getD j Ju) x
  ·rw[hb]at h;exact .inr h
  rw[hb,cond_true]at h;rcases Yw h with h|h
  ·exact .inr h
  ·exact .inl h
 ·rcases Vm.1 h with h|h
  ·exact .inr (Csb h)
  ·rcases Vk.1 h with h|h
   ·exact .inl h
   ·exact .inr (Zp h)
def Gu (a:Stp):sle a a=false:=by
 cases h:sle a a with
 |false=>rfl
 |true=>rw[Ln]at h;omega
def Bq (l:List Row):Prop:=l.Pairwise (λ a b=>tlt a.1 b.1=true)
def D0a {l:List Row} {s:ByteArray} (hs:Bq l) (hn:∀ r∈l,r.1≠s):∀ k,k≤l.length→(∀ i,i<Aoa l s k→tlt (l.getD i Ju).1 s=true)∧(∀ i,Aoa l s k≤i→i<k→tlt s (l.getD i Ju).1=true)
 |0,_=>⟨λ i hi=>by simp[Aoa]at hi,λ i _ hi=>by omega⟩
 |k+1,hk=>by
  unfold Aoa
  cases ht:tlt s (l.getD k Ju).1 with
  |true=>
   simp only[cond_true];obtain⟨h1,h2⟩:=D0a hs hn k (by omega);refine⟨h1,λ i hi hik=>?_⟩
   by_cases e:i=k
   ·subst e;exact ht
   ·exact h2 i hi (by omega)
  |false=>
   simp only[cond_false];refine⟨λ i hi=>?_,λ i hi hik=>by omega⟩
   have hget:∀ j (hj:j<l.length),l.getD j Ju=l[j]:=λ j hj=>by rw[Vb,Vg hj];rfl
   have hkl:k<l.length:=by omega
   have hks:tlt (l.getD k Ju).1 s=true:=by
    cases h:tlt (l.getD k Ju).1 s
    case true=>rfl
    exfalso;exact hn (l.getD k Ju) (by rw[hget k hkl];exact Eob hkl) (Um h ht)
   by_cases e:i=k
   ·subst e;exact hks
   ·have h3:=(Ys.1 hs) i k (by omega) hkl (by omega);rw[hget i (by omega)];rw[hget k hkl]at hks;exact Iy h3 hks
def Ow {l:List Row} {x:Row} (hs:Bq l):Bq (mrg l x):=by
 have hget:∀ j (hj:j<l.length),l.getD j Ju=l[j]:=λ j hj=>by rw[Vb,Vg hj];rfl
 unfold mrg;split
 ·rename_i j hj;obtain⟨_,h2,h3⟩:=Ov l 0 j hj;rw[E7b]at h3
  have hjl:j<l.length:=by omega
  have hname:l[j].1=x.1:=by rw[← hget j hjl];exact Cn.1 h3
  cases hb:Ie (l.getD j Ju) x
  ·exact hs
  rw[cond_true];unfold Bq;rw[Ys];intro a b ha hb hab;rw[Vv]at ha hb;have:=(Ys.1 hs) a b ha hb hab;rw[Fgb,Fgb]
  by_cases e1:j=a
  ·subst e1;rw[if_pos rfl,if_neg (by omega),← hname];exact this
  ·rw[if_neg e1]
   by_cases e2:j=b
   ·subst e2;rw[if_pos rfl,← hname];exact this
   ·rw[if_neg e2];exact this
 ·rename_i hj;have hn:=Rq l 0 hj;obtain⟨c1,c2⟩:=D0a hs hn l.length (Vw _);have hc:=Apa l x.1 l.length;unfold Bq;rw[Zg,Wa];refine⟨Elb (Fab _ _) hs,⟨λ r hr=>?_,Elb (List.drop_sublist _ _) hs⟩,λ r hr q hq=>?_⟩
  ·obtain⟨i,hi,rfl⟩:=E2b hr;rw[We]at hi;rw[List.getElem_drop,← hget _ (by omega)];exact c2 _ (by omega) (by omega)
  ·obtain⟨i,hi,rfl⟩:=E2b hr;rw[Vq]at hi
   have h1:tlt (List.take (Aoa l x.1 l.length) l)[i].1 x.1=true:=by
    rw[Dub,← hget _ (by omega)];exact c1 i (by omega)
   rcases Vk.1 hq with rfl|hq
   ·exact h1
   ·refine Iy h1 ?_;obtain⟨m,hm,rfl⟩:=E2b hq;rw[We]at hm;rw[List.getElem_drop,← hget _ (by omega)];exact c2 _ (by omega) (by omega)

def inR (n lo hi:Int):Bool:=decide (n≥lo)&&decide (n≤hi)
def Lc (n lo hi:Int):Bj n lo hi=some (inR n lo hi):=by
 unfold Bj inR
 cases decide (n≥lo)<;>rfl
def Dg {n lo hi:Int}:inR n lo hi=true↔lo≤n∧n≤hi:=by
 unfold inR;simp
def D1a (c:Int):Bool:=inR c 97 122||(inR c 48 57||(!(c != 45)||(!(c != 95)||!(c != 47))))
def Ky (s:ByteArray):Prop:=s.size≤4611686018427387904
def Po (s:ByteArray):s.data.toList.length=s.size:=Ze
def Nya (s:ByteArray) (i:Int):0≤bt s i∧bt s i≤255:=by
 unfold bt;have:=(s.data.toList.getD i.toNat 0).toNat_lt;omega
def Bib (s:ByteArray) (i:Nat) (h:i<s.size):bt s (i:Int)=((s.data.toList[i]'(by rw[Po];exact h)).toNat:Int):=by
 unfold bt;rw[Vj,Vb,Vg (by rw[Po];exact h)];rfl
def bOk (b:UInt8):Bool:=D1a (b.toNat:Int)
def Fqa (s:ByteArray) (hs:Ky s):∀ (n i:Nat),s.size-i=n→i≤s.size→
  Tot (λ k=>An k s (i:Int)) (λ r=>r=bif (s.data.toList.drop i).all bOk then .inr s else .inl false):=by
 unfold Ky at hs;have hsz:=Po s;intro n
 induction n with
 |zero=>
  intro i hn hi;refine Tot.succ ?_;simp only[An];refine Ckb (by omega) (Cfb ?_);rw[Yr (by omega)];rfl
 |succ n ih=>
  intro i hn hi
  have hlt:i<s.size:=by omega
  refine Tot.succ ?_;simp only[An];refine Cjb (by omega) (Cjb (by omega) (Cjb (by omega) ?_));rw[w64 (n:=(i:Int)+1) (by omega) (by omega)]
  have hb:bOk (s.data.toList[i]'(by omega))=D1a (bt s (i:Int)):=by rw[Bib s i hlt];rfl
  rw[Zj (by omega),Dtb,hb];generalize bt s (i:Int)=c;have h1:=ih (i+1) (by omega) (by omega)
  have e:(((i+1:Nat)):Int)=(i:Int)+1:=by omega
  rw[e]at h1
  cases hc:D1a c with
  |true=>
   rw[Wf];refine h1.mono (λ r hr=>hr) |> λ h=>?_;obtain⟨r,K,h2,h3⟩:=h;refine⟨r,K,λ k hk=>?_,h3⟩;rw[← h2 k hk];unfold D1a inR at hc
   revert hc
   cases decide (c≥97)<;>cases decide (c≤122)<;>cases decide (c≥48)<;>cases decide (c≤57)<;>cases (c != 45)<;>cases (c != 95)<;>cases (c != 47)<;>first|(intro _;rfl)|(intro hc;cases hc)
  |false=>
   rw[Zc];refine⟨.inl false,0,λ k _=>?_,rfl⟩;unfold D1a inR at hc
   revert hc
   cases decide (c≥97)<;>cases decide (c≤122)<;>cases decide (c≥48)<;>cases decide (c≤57)<;>cases (c != 45)<;>cases (c != 95)<;>cases (c != 47)<;>first|(intro _;rfl)|(intro hc;cases hc)
def B8 (s:ByteArray):Bool:=s.data.toList.all bOk&&inR (s.size:Int) 1 20
def Jv (s:ByteArray) (hs:Ky s):Tot (λ k=>Ae k s) (λ r=>r=B8 s):=by
 unfold Ae B8;refine Cqb (Fqa s hs _ 0 rfl (Vu _)) ?_;rw[Yu]
 cases s.data.toList.all bOk with
 |true=>exact Crb (a:=inR (s.size:Int) 1 20) (by simp only[cond_true,F3b,Lc,Vt]) (by rw[Wf])
 |false=>exact Cfb rfl
def Gw (s:Stp):Bool:=inR s.1 0 1000000000&&(inR s.2.1 0 1000000&&inR s.2.2 0 20)
def Qn (s:Stp):Bu s=some (Gw s):=by
 unfold Bu Gw;simp only[Lc,Vt]
 cases inR s.1 0 1000000000<;>cases inR s.2.1 0 1000000<;>rfl
def Lo (x:Row):Bool:=B8 x.1&&(Gw x.2.1&&(inR x.2.2.2 0 200&&(!x.2.2.1||x.2.2.2==0)))
def Nza (x:Row) (hs:Ky x.1):Tot (λ k=>Gq k x) (λ r=>r=Lo x):=by
 unfold Gq Lo;refine Cqb (Jv x.1 hs) ?_;cases B8 x.1
 ·exact Cfb rfl
 refine Crb (a:=Gw x.2.1&&(inR x.2.2.2 0 200&&(!x.2.2.1||x.2.2.2==0))) ?_ (by rw[Wf]);simp only[cond_true,Qn,Lc,Vt]
 cases Gw x.2.1<;>cases inR x.2.2.2 0 200<;>cases x.2.2.1<;>rfl
def chk:Option ByteArray→List Row→Bool
 |_,[]=>true
 |none,r::l=>Lo r&&chk (some r.1) l
 |some q,r::l=>Lo r&&(tlt q r.1&&chk (some r.1) l)
def I4 (l:List Row):Bool:=chk none l&&decide ((l.length:Int)≤60)
def Ara (l:List Row):Prop:=∀ r∈l,Ky r.1
def D2a (l:List Row):Nat→Option ByteArray
 |0=>none
 |i+1=>some (l.getD i Ju).1
def S7a (l:List Row) (i:Nat) (h:i<l.length):chk (D2a l i) (l.drop i)=(Lo (l.getD i Ju)&&(bif decide (0<i) then tlt (l.getD (i-1) Ju).1 (l.getD i Ju).1 else true)&&chk (D2a l (i+1)) (l.drop (i+1))):=by
 rw[C8 (d:=Ju) h]
 cases i with
 |zero=>simp[D2a,chk]
 |succ i=>simp[D2a,chk,Fqb]
def A3 {α:Type} {l:List α} {i:Nat} {d:α} (h1:i<l.length):l.getD i d∈l:=by
 rw[Vb,Vg h1];exact Eob h1
def Fra (l:List Row) (hf:Few l) (hs:Ara l):∀ (n i:Nat),l.length-i=n→i≤l.length→
  Tot (λ k=>Ed k l l (l.length:Int) (i:Int)) (λ r=>r=bif chk (D2a l i) (l.drop i) then .inr l else .inl false):=by
 unfold Few at hf;intro n
 induction n with
 |zero=>
  intro i hn hi;refine Tot.succ ?_;simp only[Ed];refine Ckb (by omega) (Cfb ?_);rw[Yr (by omega)]
  cases D2a l i<;>rfl
 |succ n ih=>
  intro i hn hi
  have hlt:i<l.length:=by omega
  refine Tot.succ ?_;simp only[Ed];refine Cjb (by omega) (Cjb (by omega) (Cjb (by omega) ?_));rw[show toNat (i:Int)=i from Vj i,w64 (n:=(i:Int)+1) (by omega) (by omega),S7a l i hlt];have h1:=ih (i+1) (by omega) (by omega)
  have e:(((i+1:Nat)):Int)=(i:Int)+1:=by omega
  rw[e]at h1;refine Cqb (Nza (l.getD i Ju) (hs _ (A3 hlt))) ?_;cases hb:Lo (l.getD i Ju)
  ·exact Cib rfl (Cfb (by simp))
  refine Chb rfl ?_;rw[Wf];refine Cmb (λ h0=>?_) (λ h0=>?_)
  ·rw[w64 (n:=(i:Int)-1) (by omega) (by omega)];refine Cjb (by omega) (Cjb (by omega) ?_);rw[show toNat ((i:Int)-1)=i-1 by omega,decide_eq_true (show 0<i by omega),cond_true];have et:(!(Op.bytesLess (l.getD (i-1) Ju).1.toList (l.getD i Ju).1.toList)) = !(tlt (l.getD (i-1) Ju).1 (l.getD i Ju).1):=rfl;refine Clb (λ ht=>?_) (λ ht=>?_)
   ·have ht':(!(tlt (l.getD (i-1) Ju).1 (l.getD i Ju).1))=true:=ht;rw[Wb]at ht';exact Cfb (by rw[ht'];rfl)
   ·have ht':(!(tlt (l.getD (i-1) Ju).1 (l.getD i Ju).1))=false:=ht;rw[Yg]at ht';rw[ht',Wf];exact h1
  ·rw[decide_eq_false (show ¬ 0<i by omega),cond_false,Wf];exact h1
def I3a (l:List Row) (hf:Few l) (hs:Ara l):Tot (λ k=>Df k l) (λ r=>r=I4 l):=by
 unfold Df I4;refine Cqb (Fra l hf hs _ 0 rfl (Vu _)) ?_;rw[Yu];show Tot _ (λ r=>r=(chk none l&&_))
 cases hc:chk none l with
 |true=>rw[show chk (D2a l 0) l=true from hc];exact Cfb (by rw[Wf])
 |false=>rw[show chk (D2a l 0) l=false from hc];exact Cfb rfl
def Fsa:∀ (p:Option ByteArray) (l:List Row),chk p l=true↔Bq l∧(∀ r∈l,Lo r=true)∧(∀ q,p=some q→∀ r∈l,tlt q r.1=true)
 |p,[]=>by
  have:chk p []=true:=by cases p<;>rfl
  simp[this,Bq]
 |none,r::l=>by
  simp only[chk,Va,Fsa (some r.1) l,Bq,Wa];constructor
  ·rintro⟨h1,h2,h3,h4⟩;exact⟨⟨λ a ha=>h4 _ rfl a ha,h2⟩,λ a ha=>by rcases Vk.1 ha with rfl|ha;exact h1;exact h3 a ha,λ q hq=>by cases hq⟩
  ·rintro⟨⟨h1,h2⟩,h3,_⟩;exact⟨h3 r (by simp),h2,λ a ha=>h3 a (Vd _ ha),λ q hq a ha=>by cases hq;exact h1 a ha⟩
 |some q,r::l=>by
  simp only[chk,Va,Fsa (some r.1) l,Bq,Wa];constructor
  ·rintro⟨h1,h0,h2,h3,h4⟩;refine⟨⟨λ a ha=>h4 _ rfl a ha,h2⟩,λ a ha=>by rcases Vk.1 ha with rfl|ha;exact h1;exact h3 a ha,λ q' hq a ha=>?_⟩;cases hq;rcases Vk.1 ha with rfl|ha
   ·exact h0
   ·exact Iy h0 (h4 _ rfl a ha)
  ·rintro⟨⟨h1,h2⟩,h3,h4⟩;exact⟨h3 r (by simp),h4 q rfl r (by simp),h2,λ a ha=>h3 a (Vd _ ha),λ q' hq a ha=>by cases hq;exact h1 a ha⟩
def Im {l:List Row}:I4 l=true↔Bq l∧(∀ r∈l,Lo r=true)∧l.length≤60:=by
 unfold I4;simp only[Va,Fsa,decide_eq_true_eq];constructor
 ·rintro⟨⟨h1,h2,_⟩,h3⟩;exact⟨h1,h2,by omega⟩
 ·rintro⟨h1,h2,h3⟩;exact⟨⟨h1,h2,λ q hq=>by cases hq⟩,by omega⟩
def N8 (a b:List Row):List Row:=b.foldl mrg a
def Asa {a b:List Row} {r:Row} (h:r∈N8 a b):r∈a∨r∈b:=by
 induction b generalizing a with
 |nil=>exact .inl h
 |cons x b ih=>
  rcases ih (a:=mrg a x) h with h|h
  ·rcases Nxa h with rfl|h
   ·exact .inr (by simp)
   ·exact .inl h
  ·exact .inr (Vd _ h)
def Jl {a b:List Row} (h:Bq a):Bq (N8 a b):=by
 induction b generalizing a with
 |nil=>exact h
 |cons x b ih=>exact ih (Ow h)
def Ata (b:List Row) (hb:Few b):∀ (n i:Nat) (a:List Row),b.length-i=n→i≤b.length→a.length+(b.length-i)≤1000000000000→
  Tot (λ k=>Cz k a b (b.length:Int) (i:Int)) (λ r=>r=N8 a (b.drop i)):=by
 unfold Few at hb;intro n
 induction n with
 |zero=>
  intro i a hn hi hf;refine Tot.succ ?_;simp only[Cz];refine Ckb (by omega) (Cfb ?_);rw[Yr (by omega)];rfl
 |succ n ih=>
  intro i a hn hi hf
  have hlt:i<b.length:=by omega
  refine Tot.succ ?_;simp only[Cz];refine Cjb (by omega) (Cjb (by omega) (Cjb (by omega) ?_));rw[show toNat (i:Int)=i from Vj i,w64 (n:=(i:Int)+1) (by omega) (by omega),C8 (d:=Ju) hlt];refine Cqb (Nwa a (b.getD i Ju) (by unfold Few;omega)) ?_;have:=Wya a (b.getD i Ju);exact ih (i+1) (mrg a (b.getD i Ju)) (by omega) (by omega) (by omega)
def K7a (a b:List Row) (hf:a.length+b.length≤1000000000000):Tot (λ k=>C5 k a b) (λ r=>r=N8 a b):=by
 unfold C5;refine Cgb (Crb (Q:=λ r=>r=a) (Qm a (by unfold Few;omega)) rfl) ?_;rintro r rfl;refine Cgb (Ata b (by unfold Few;omega) _ 0 r rfl (Vu _) (by omega)) ?_;rintro y rfl;rw[Yu];exact Cfb rfl
def Ge (l:List Row) (s:ByteArray):Option Row:=l.find? (λ r=>teq r.1 s)
def mx (a b:Row):Row:=bif Ie a b then b else a
def Uo (a b:Row):Ie a b=true↔a.2.1.1<b.2.1.1∨(a.2.1.1=b.2.1.1∧(a.2.1.2.1<b.2.1.2.1∨(a.2.1.2.1=b.2.1.2.1∧(a.2.1.2.2<b.2.1.2.2∨(a.2.1.2.2=b.2.1.2.2∧((a.2.2.1=false∧b.2.2.1=true)∨(a.2.2.1=b.2.2.1∧a.2.2.2<b.2.2.2))))))):=by
 unfold Ie
 cases hs:(!((a.2.1.1==b.2.1.1)&&((a.2.1.2.1==b.2.1.2.1)&&(a.2.1.2.2==b.2.1.2.2)))) with
 |true=>
  rw[cond_true,Ln]
  have hne:¬ (a.2.1.1=b.2.1.1∧a.2.1.2.1=b.2.1.2.1∧a.2.1.2.2=b.2.1.2.2):=by
   intro ⟨h1,h2,h3⟩;rw[h1,h2,h3]at hs;simp at hs
  omega
 |false=>
  rw[cond_false];simp only[Yg,Va,beq_iff_eq]at hs;obtain⟨h1,h2,h3⟩:=hs
  cases ha:a.2.2.1<;>cases hb:b.2.2.1<;>simp[h1,h2,h3]
def Pp {a b:Row} (h:Ie a b=true):Ie b a=false:=by
 cases hb:Ie b a
 ·rfl
 rw[Uo]at h hb
 cases ha:a.2.2.1<;>cases hb':b.2.2.1<;>simp only[ha,hb']at h hb<;>simp at h hb<;>omega
def O0a {a b:Row} (hn:a.1=b.1) (h:Ie a b=false) (h':Ie b a=false):a=b:=by
 have h1:¬ Ie a b=true:=by rw[h];decide
 have h2:¬ Ie b a=true:=by rw[h'];decide
 rw[Uo]at h1 h2;obtain⟨n,⟨t,s,d⟩,e,z⟩:=a;obtain⟨n',⟨t',s',d'⟩,e',z'⟩:=b;simp only at hn h1 h2;subst hn
 have hd:e=e'∧t=t'∧s=s'∧d=d'∧z=z':=by
  cases e<;>cases e'<;>simp at h1 h2 ⊢ <;> omega
 obtain⟨rfl,rfl,rfl,rfl,rfl⟩:=hd;rfl
def Wza (a b:Row):mx (mx a b) b=mx a b:=by
 unfold mx
 cases h:Ie a b with
 |true=>
  have:Ie b b=false:=by
   cases hb:Ie b b with
   |false=>rfl
   |true=>have:=Pp hb;rw[hb]at this;cases this
  rw[cond_true,this];rfl
 |false=>rw[cond_false,h];rfl
def Jm {l:List Row} {s:ByteArray} {r:Row} (h:Ge l s=some r):r∈l∧r.1=s:=by
 unfold Ge at h;exact⟨F8b h,Cn.1 (List.find?_some (p:=λ r:Row=>teq r.1 s) h)⟩
def Iz {l:List Row} (hs:Bq l) {r:Row} (h:r∈l):Ge l r.1=some r:=by
 induction l with
 |nil=>simp at h
 |cons a l ih=>
  unfold Bq at hs;rw[Wa]at hs;unfold Ge;rw[Drb];rcases Vk.1 h with rfl|h
  ·rw[Cn.2 rfl]
  ·have:teq a.1 r.1=false:=by
    cases ht:teq a.1 r.1
    ·rfl
    have h1:=hs.1 r h;rw[Cn.1 ht,Ek]at h1;cases h1
   rw[this];exact ih hs.2 h
def Uq:∀ {l m:List Row},Bq l→Bq m→(∀ s,Ge l s=Ge m s)→l=m
 |[],[],_,_,_=>rfl
 |[],b::m,_,hm,h=>by
  have:=Iz hm (r:=b) (by simp);rw[← h]at this;simp[Ge]at this
 |a::l,[],hl,_,h=>by
  have:=Iz hl (r:=a) (by simp);rw[h]at this;simp[Ge]at this
 |a::l,b::m,hl,hm,h=>by
  have hl':=hl;have hm':=hm;unfold Bq at hl hm;rw[Wa]at hl hm;have ha:=Iz hl' (r:=a) (by simp);have hb:=Iz hm' (r:=b) (by simp);have ea:a∈b::m:=(Jm (by rw[← h];exact ha)).1;have eb:b∈a::l:=(Jm (by rw[h];exact hb)).1
  have hab:a=b:=by
   rcases Vk.1 ea with rfl|ea
   ·rfl
   ·rcases Vk.1 eb with rfl|eb
    ·rfl
    ·have h1:=hm.1 a ea;have h2:=hl.1 b eb;rw[Nw h1]at h2;cases h2
  subst hab;rw[Uq (l:=l) (m:=m) hl.2 hm.2 (λ s=>?_)];have hs:=h s;unfold Ge at hs ⊢;rw[Drb,Drb]at hs;cases ht:teq a.1 s
  ·rw[ht]at hs;exact hs
  have none:∀ (k:List Row),(∀ r∈k,tlt a.1 r.1=true)→k.find? (λ r=>teq r.1 s)=none:=by
   intro k hk;rw[List.find?_eq_none];intro r hr;rw[Cn];intro e;have:=hk r hr;rw[e,← Cn.1 ht,Ek]at this;cases this
  rw[none l hl.1,none m hm.1]
def D3a {l:List Row} {x:Row} (hs:Bq l) (s:ByteArray):Ge (mrg l x) s=bif teq x.1 s then (match Ge l s with|some r=>some (mx r x)|none=>some x) else Ge l s:=by
 have hsm:=Ow (x:=x) hs
 have hget:∀ j (hj:j<l.length),l.getD j Ju=l[j]:=λ j hj=>by rw[Vb,Vg hj];rfl
 cases ht:teq x.1 s with
 |true=>
  have hxs:=Cn.1 ht;rw[cond_true];unfold mrg;split
  ·rename_i j hj;obtain⟨_,h2,h3⟩:=Ov l 0 j hj;rw[E7b]at h3
   have hjl:j<l.length:=by omega
   have hname:(l.getD j Ju).1=x.1:=Cn.1 h3;have hmem:l.getD j Ju∈l:=A3 hjl
   have hlk:Ge l s=some (l.getD j Ju):=by rw[← hxs,← hname];exact Iz hs hmem
   rw[hlk];show Ge (bif Ie (l.getD j Ju) x then l.set j x else l) s=some (mx (l.getD j Ju) x);unfold mx;cases hb:Ie (l.getD j Ju) x
   ·rw[cond_false];exact hlk
   rw[cond_true];have:x∈l.set j x:=List.mem_set hjl x
   have hsm':Bq (l.set j x):=by
    have:=hsm;unfold mrg at this;rw[hj]at this;simp only[hb,cond_true]at this;exact this
   rw[← hxs];exact Iz hsm' this
  ·rename_i hj
   have hno:Ge l s=none:=by
    cases hl:Ge l s with
    |none=>rfl
    |some r=>
     obtain⟨h1,h2⟩:=Jm hl;exact(Rq l 0 hj r h1 (h2.trans hxs.symm)).elim
   rw[hno]
   have hx:x∈mrg l x:=by unfold mrg;rw[hj];simp
   have:=Iz hsm hx;unfold mrg at this;rw[hj]at this;rw[← hxs];exact this
 |false=>
  rw[cond_false]
  cases hl:Ge l s with
  |some r=>
   obtain⟨h1,h2⟩:=Jm hl
   have hr:r∈mrg l x:=by
    unfold mrg;split
    ·rename_i j hj;cases hb:Ie (l.getD j Ju) x
     ·exact h1
     rw[cond_true];obtain⟨i,hi,e⟩:=E2b h1;obtain⟨_,q2,q3⟩:=Ov l 0 j hj;rw[E7b]at q3
     have hij:i≠j:=by
      rintro rfl;rw[hget i hi,e]at q3;have:=Cn.1 q3;rw[Cn.2 (this.symm.trans h2)]at ht;cases ht
     rw[Yn];exact⟨i,by rw[Vv];exact hi,by rw[List.getElem_set_ne (E1b hij)];exact e⟩
    ·have:r∈l.take (Aoa l x.1 l.length)++l.drop (Aoa l x.1 l.length):=by rw[Wi];exact h1
     rcases Vm.1 this with h|h
     ·exact Vy _ h
     ·exact Vn _ (Vd _ h)
   rw[← h2];exact Iz hsm hr
  |none=>
   cases hm:Ge (mrg l x) s with
   |none=>rfl
   |some r=>
    exfalso;obtain⟨h1,h2⟩:=Jm hm;rcases Nxa h1 with rfl|h1
    ·rw[Cn.2 h2]at ht;cases ht
    ·have:=Iz hs h1;rw[h2,hl]at this;cases this
def cmb:Option Row→Option Row→Option Row
 |some a,some b=>some (mx a b)
 |some a,none=>some a
 |none,y=>y
def Rr {a b:List Row} (ha:Bq a) (hb:Bq b) (s:ByteArray):Ge (N8 a b) s=cmb (Ge a s) (Ge b s):=by
 induction b generalizing a with
 |nil=>show Ge a s=cmb (Ge a s) none;cases Ge a s<;>rfl
 |cons x b ih=>
  have hb':=hb;unfold Bq at hb;rw[Wa]at hb;show Ge (N8 (mrg a x) b) s=_;rw[ih (Ow ha) hb.2,D3a ha s]
  have e:Ge (x::b) s=bif teq x.1 s then some x else Ge b s:=by
   unfold Ge;rw[Drb]
   cases teq x.1 s<;>rfl
  rw[e];cases ht:teq x.1 s
  ·rfl
  have hno:Ge b s=none:=by
   cases hl:Ge b s with
   |none=>rfl
   |some r=>
    obtain⟨h1,h2⟩:=Jm hl;have:=hb.1 r h1;rw[h2,← Cn.1 ht,Ek]at this;cases this
  rw[hno]
  cases Ge a s<;>rfl
def Xp {l:List Row} {s:ByteArray}:∀ r,Ge l s=some r→r.1=s:=λ r h=>(Jm h).2
def O1a {a b:List Row} (ha:Bq a) (hb:Bq b):N8 (N8 a b) b=N8 a b:=
 Uq (Jl (Jl ha)) (Jl ha) λ s=>by
  rw[Rr (Jl ha) hb,Rr ha hb]
  cases Ge a s<;>cases Ge b s<;>first|rfl|skip
  ·rename_i b;show some (mx b b)=some b;unfold mx;cases Ie b b<;>rfl
  ·rename_i a b;show some (mx (mx a b) b)=some (mx a b);rw[Wza]

def Aua:Nat→Nat→List Int
 |0,n=>[(n:Int)]
 |f+1,n=>if n≤127 then [(n:Int)] else ((n % 128+128:Nat):Int)::Aua f (n/128)
def Mc (n:Nat):List Int:=Aua 4 n
def T9:Nat→Nat→Nat→List Int→Option (Nat×Nat)
 |0,_,_,_=>none
 |_+1,_,_,[]=>none
 |f+1,k,acc,x::l=>if 128≤x then T9 f (k+1) (acc+x.toNat % 128*128 ^ k) l
  else if (x=0∧0<k)∨1000000000<acc+x.toNat % 128*128 ^ k then none else some (acc+x.toNat % 128*128 ^ k,k+1)
def Xq (l:List Int) (p:Nat):Option (Nat×Nat):=match T9 5 0 0 (l.drop p) with
 |some (n,c)=>some (n,p+c)
 |none=>none
def O2a:∀ (f n:Nat),(Aua f n).length≤f+1∧0<(Aua f n).length
 |0,n=>by simp[Aua]
 |f+1,n=>by
  unfold Aua;split
  ·simp
  ·have:=O2a f (n/128);simp only[Vh];omega
def Pq:∀ (f k acc:Nat) (l:List Int) (n c:Nat),Ax l→T9 f k acc l=some (n,c)→acc<128 ^ k→k<c∧c≤k+f∧c-k≤l.length∧n≤1000000000
 |0,_,_,_,_,_,_,h,_=>by simp[T9]at h
 |_+1,_,_,[],_,_,_,h,_=>by simp[T9]at h
 |f+1,k,acc,x::l,n,c,hb,h,ha=>by
  have hx:=hb x (by simp);unfold T9 at h;split at h
  ·have h1:acc+x.toNat % 128*128 ^ k<128 ^ (k+1):=by
    have h2:x.toNat % 128≤127:=by omega
    have h3:=Wk (128 ^ k) h2;rw[D8b];omega
   have:=Pq f (k+1) _ l n c (λ y hy=>hb y (Vd _ hy)) h h1;simp only[Vh];omega
  ·split at h
   ·cases h
   ·simp only[Vc,Vx]at h;obtain⟨rfl,rfl⟩:=h;simp only[Vh];omega
def O3a:∀ (f k acc:Nat) (l:List Int) (n c:Nat),Ax l→T9 (f+1) k acc l=some (n,c)→acc<128 ^ k→∃ m,n=acc+m*128 ^ k∧l=Aua f m++l.drop (c-k)∧(m=0→c=k+1∧(0<k→False))∧m<128 ^ (f+1)
 |0,k,acc,[],n,c,hb,h,ha=>by simp[T9]at h
 |_+1,k,acc,[],n,c,hb,h,ha=>by simp[T9]at h
 |0,k,acc,x::l,n,c,hb,h,ha=>by
  have hx:=hb x (by simp);unfold T9 at h;split at h
  ·simp[T9]at h
  ·rename_i h128;split at h
   ·cases h
   ·rename_i hz;simp only[Vc,Vx]at h;obtain⟨rfl,rfl⟩:=h;have hm:x.toNat % 128=x.toNat:=D6b (by omega);refine⟨x.toNat,by rw[hm],?_,λ h0=>⟨rfl,λ hk=>hz (.inl ⟨by omega,hk⟩)⟩,by omega⟩;rw[show k+1-k=1 by omega];show x::l=[((x.toNat:Nat):Int)]++l;rw[show ((x.toNat:Nat):Int)=x by omega];rfl
 |f+1,k,acc,x::l,n,c,hb,h,ha=>by
  have hx:=hb x (by simp);have hb':Ax l:=λ y hy=>hb y (Vd _ hy);unfold T9 at h;split at h
  ·rename_i h128
   have h1:acc+x.toNat % 128*128 ^ k<128 ^ (k+1):=by
    have h2:x.toNat % 128≤127:=by omega
    have h3:=Wk (128 ^ k) h2;rw[D8b];omega
   obtain⟨m,e1,e2,e3,e4⟩:=O3a f (k+1) _ l n c hb' h h1;have hbd:=Pq (f+1) (k+1) _ l n c hb' h h1;have hm0:m≠0:=λ h0=>(e3 h0).2 (by omega);refine⟨x.toNat % 128+m*128,?_,?_,λ h0=>by omega,?_⟩
   ·rw[e1,D8b,Zd]
    have:m*128*128 ^ k=m*(128 ^ k*128):=by rw[Nat.mul_assoc,Nat.mul_comm 128]
    omega
   ·unfold Aua;rw[if_neg (by omega),show (x.toNat % 128+m*128)/128=m by omega,show (x.toNat % 128+m*128) % 128=x.toNat % 128 by omega,show c-k=(c-(k+1))+1 by omega,List.drop_succ_cons,List.cons_append,← e2];congr 1;omega
   ·rw[D8b];omega
  ·rename_i h128;split at h
   ·cases h
   ·rename_i hz;simp only[Vc,Vx]at h;obtain⟨rfl,rfl⟩:=h;have hm:x.toNat % 128=x.toNat:=D6b (by omega)
    have hp:128≤128 ^ (f+1+1):=by
     have:=Nat.pow_le_pow_right (show 0<128 by decide) (show 1≤f+1+1 by omega)
     simpa using this
    refine⟨x.toNat,by rw[hm],?_,λ h0=>⟨rfl,λ hk=>hz (.inl ⟨by omega,hk⟩)⟩,by omega⟩;rw[show k+1-k=1 by omega];unfold Aua;rw[if_pos (by omega)];show x::l=[((x.toNat:Nat):Int)]++l;rw[show ((x.toNat:Nat):Int)=x by omega];rfl
def O4a:∀ (f k acc m:Nat) (rest:List Int),m<128 ^ (f+1)→(0<k→0<m)→acc+m*128 ^ k≤1000000000→T9 (f+1) k acc (Aua f m++rest)=some (acc+m*128 ^ k,k+(Aua f m).length)
 |0,k,acc,m,rest,hm,hk,hn=>by
  show T9 1 k acc ((m:Int)::rest)=_;unfold T9
  have h1:m<128:=by simpa using hm
  rw[if_neg (by omega),if_neg (by
   rw[show (m:Int).toNat % 128=m by rw[Vj];exact D6b h1]
   omega)]
  rw[show (m:Int).toNat % 128=m by rw[Vj];exact D6b h1];rfl
 |f+1,k,acc,m,rest,hm,hk,hn=>by
  unfold Aua
  by_cases h:m≤127
  ·rw[if_pos h];show T9 (f+2) k acc ((m:Int)::rest)=_;unfold T9
   rw[if_neg (by omega),if_neg (by
    rw[show (m:Int).toNat % 128=m by rw[Vj];exact D6b (by omega)]
    omega)]
   rw[show (m:Int).toNat % 128=m by rw[Vj];exact D6b (by omega)];rfl
  ·rw[if_neg h];show T9 (f+2) k acc (((m % 128+128:Nat):Int)::(Aua f (m/128)++rest))=_;unfold T9
   have e1:(((m % 128+128:Nat):Int)).toNat % 128=m % 128:=by rw[Vj];omega
   rw[if_pos (by omega),e1]
   have hmod:m=m % 128+m/128*128:=by omega
   have hm2:m/128<128 ^ (f+1):=by rw[D8b]at hm;omega
   have e2:acc+m % 128*128 ^ k+m/128*128 ^ (k+1)=acc+m*128 ^ k:=by
    have h2:m*128 ^ k=(m % 128+m/128*128)*128 ^ k:=by rw[← hmod]
    rw[h2,Zd,D8b]
    have:m/128*128*128 ^ k=m/128*(128 ^ k*128):=by rw[Nat.mul_assoc,Nat.mul_comm 128]
    omega
   rw[O4a f (k+1) (acc+m % 128*128 ^ k) (m/128) rest hm2 (λ _=>by omega) (by rw[e2];exact hn),e2,Vh];simp only[Vc,Vx,true_and];omega
def I4a (pre:List Int) (n:Nat) (rest:List Int) (hn:n≤1000000000):Xq (pre++(Mc n++rest)) pre.length=some (n,pre.length+(Mc n).length):=by
 unfold Xq;rw[Zm];have:=O4a 4 0 0 n rest (by omega) (by omega) (by omega);unfold Mc;rw[this];simp
def Fta {l:List Int} {p n q:Nat} (hb:Ax l) (h:Xq l p=some (n,q)):l.drop p=Mc n++l.drop q∧n≤1000000000∧p<q∧q≤l.length:=by
 unfold Xq at h;split at h
 ·rename_i m c hd;simp only[Vc,Vx]at h;obtain⟨rfl,rfl⟩:=h;have hb':Ax (l.drop p):=λ y hy=>hb y (Zp hy);have hbd:=Pq 5 0 0 _ _ _ hb' hd (by decide);obtain⟨m',e1,e2,_,_⟩:=O3a 4 0 0 _ _ _ hb' hd (by decide)
  have e3:m=m':=by rw[e1];simp
  subst e3;rw[We]at hbd;refine⟨?_,hbd.2.2.2,by omega,by omega⟩;rw[E7b,Yo]at e2;exact e2
 ·cases h
def Cbb (i:Nat) (hi:i<5):(2:Int) ^ (min (toNat (wrap .i64 (7*(i:Int)))) (IntKind.bits .i64))=((128 ^ i:Nat):Int):=by
 have:i=0∨i=1∨i=2∨i=3∨i=4:=by omega
 rcases this with rfl|rfl|rfl|rfl|rfl<;>decide
def sh7 (i:Nat) (hi:i<5):¬ (wrap .i64 (7*(i:Int))<0)∧¬ (wrap .u64 (wrap .i64 (7*(i:Int)))<0):=by
 have:i=0∨i=1∨i=2∨i=3∨i=4:=by omega
 rcases this with rfl|rfl|rfl|rfl|rfl<;>decide
def Ur (i:Nat) (hi:i≤5):128 ^ i≤34359738368:=by
 have:=Nat.pow_le_pow_right (show 0<128 by decide) hi
 simpa using this
def Uja (l:List Int) (p:Int):Int×Int×Bool:=if p<0 then (0,0,false) else match Xq l p.toNat with
 |some (n,q)=>((n:Int),(q:Int),true)
 |none=>(0,0,false)
def C2b (p:Nat):Option (Nat×Nat)→Int×Int×Bool
 |some (n,c)=>((n:Int),((p+c:Nat):Int),true)
 |none=>(0,0,false)
def O5a (r:Sum (Int×Int×Bool) Unit):Int×Int×Bool:=Sum.elim (λ y=>y) (λ _=>(0,0,false)) r
def Us {l:List Int} {p:Nat} (h:p<l.length):l.drop p=l.getD p 0::l.drop (p+1):=C8 h
def K8a (l:List Int) (hb:Ax l) (hl:l.length≤1000000000000) (p:Nat) (hp:p≤1000000000000):∀ (f i acc:Nat),f+i=5→acc<128 ^ i→
  Tot (λ k=>Ee k l (p:Int) (acc:Int) (i:Int)) (λ r=>O5a r=C2b p (T9 f i acc (l.drop (p+i)))):=by
 intro f
 induction f with
 |zero=>
  intro i acc hi ha;refine Tot.succ ?_;simp only[Ee];exact Ckb (by omega) (Cfb rfl)
 |succ f ih=>
  intro i acc hi ha
  have hi5:i<5:=by omega
  refine Tot.succ ?_;simp only[Ee];refine Cjb (by omega) (Cjb (by omega) ?_);rw[w64 (n:=(l.length:Int)-(i:Int)) (by omega) (by omega),w64 (n:=(p:Int)+(i:Int)) (by omega) (by omega),show toNat ((p:Int)+(i:Int))=p+i by omega];refine Cmb (λ h=>?_) (λ h=>?_)
  ·have hlt:p+i<l.length:=by omega
   refine Cjb (by omega) (Cjb (by omega) ?_);have hx:=hb (l.getD (p+i) 0) (A3 hlt);rw[Us hlt,Cbb i hi5]
   have he:T9 (f+1) i acc (l.getD (p+i) 0::l.drop (p+i+1))=if 128≤l.getD (p+i) 0 then T9 f (i+1) (acc+(l.getD (p+i) 0).toNat % 128*128 ^ i) (l.drop (p+i+1)) else if (l.getD (p+i) 0=0∧0<i)∨1000000000<acc+(l.getD (p+i) 0).toNat % 128*128 ^ i then none else some (acc+(l.getD (p+i) 0).toNat % 128*128 ^ i,i+1):=rfl
   rw[he];generalize l.getD (p+i) 0=x at hx ⊢;obtain⟨v,rfl⟩:∃ v:Nat,x=(v:Int):=⟨x.toNat,by omega⟩;rw[Vj];have hp1:=Ur i (by omega);have hmul:v % 128*128 ^ i≤127*34359738368:=Nat.mul_le_mul (by omega) hp1;rw[w64 (n:=(v:Int)) (by omega) (by omega)]
   have e1:Int.tmod (v:Int) 128*((128 ^ i:Nat):Int)=((v % 128*128 ^ i:Nat):Int):=by
    rw[Cvb (by omega)]
    push_cast
    rfl
   rw[e1,w64 (n:=((v % 128*128 ^ i:Nat):Int)) (by omega) (by omega),← Int.natCast_add,w64 (n:=((acc+v % 128*128 ^ i:Nat):Int)) (by omega) (by omega),w64 (n:=(i:Int)+1) (by omega) (by omega),w64 (n:=(p:Int)+(i:Int)+1) (by omega) (by omega)];refine Ckb (sh7 i hi5).1 ?_;refine Cmb (λ h128=>?_) (λ h128=>?_)
   ·rw[if_pos (by omega)]
    have h1:acc+v % 128*128 ^ i<128 ^ (i+1):=by
     have h2:v % 128≤127:=by omega
     have h3:=Wk (128 ^ i) h2;rw[D8b];omega
    have:=ih (i+1) (acc+v % 128*128 ^ i) (by omega) h1;rw[show p+(i+1)=p+i+1 by omega]at this;exact this
   ·rw[if_neg (by omega)]
    have big:Tot (λ _:Nat=>cond (decide (((acc+v % 128*128 ^ i:Nat):Int) > 1000000000)) (some (Sum.inl ((0:Int),(0:Int),false))) (some (Sum.inl (((acc+v % 128*128 ^ i:Nat):Int),(p:Int)+(i:Int)+1,true))):Nat→Option (Sum (Int×Int×Bool) Unit))
      (λ r=>O5a r=if 1000000000<acc+v % 128*128 ^ i then (0,0,false) else (((acc+v % 128*128 ^ i:Nat):Int),((p+(i+1):Nat):Int),true)):=by
     refine Cmb (λ hbig=>?_) (λ hbig=>?_)
     ·rw[if_pos (by omega)];exact Cfb rfl
     ·rw[if_neg (by omega)];refine Cfb ?_;show (_,_,_)=_;rw[show (p:Int)+(i:Int)+1=((p+(i+1):Nat):Int) by omega]
    have goal:∀ c:Prop,[Decidable c]→(if c∨1000000000<acc+v % 128*128 ^ i then none else some (acc+v % 128*128 ^ i,i+1))=if c then none else if 1000000000<acc+v % 128*128 ^ i then (none:Option (Nat×Nat)) else some (acc+v % 128*128 ^ i,i+1):=by
     intro c _
     by_cases h1:c<;>by_cases h2:1000000000<acc+v % 128*128 ^ i<;>simp[h1,h2]
    rw[goal]
    have fin:(C2b p (if 1000000000<acc+v % 128*128 ^ i then (none:Option (Nat×Nat)) else some (acc+v % 128*128 ^ i,i+1)))=if 1000000000<acc+v % 128*128 ^ i then (0,0,false) else (((acc+v % 128*128 ^ i:Nat):Int),((p+(i+1):Nat):Int),true):=by
     split<;>rfl
    refine Clb (λ h0=>?_) (λ h0=>?_)
    ·have hv:v=0:=by
      have:=beq_iff_eq.1 h0;omega
     refine Cmb (λ hi0=>?_) (λ hi0=>?_)
     ·rw[if_pos ⟨by omega,by omega⟩];exact Cfb rfl
     ·rw[if_neg (by omega),fin];exact big
    ·have hv:v≠0:=by
      intro e;subst e;simp at h0
     rw[if_neg (by omega),fin];exact big
  ·refine Cfb ?_;rw[Yr (by omega)];rfl
def O6a (l:List Int) (hb:Ax l) (hl:l.length≤1000000000000) (p:Int) (hp:p≤1000000000000):Tot (λ k=>Fi k l p) (λ r=>r=Uja l p):=by
 unfold Fi Uja
 by_cases h0:p<0
 ·rw[if_pos h0];refine Cgb (Q:=λ r=>r = .inr ()) ?_ ?_
  ·refine Tot.succ ?_;simp only[Ee];exact Cjb (by omega) (Ckb (by omega) (Cfb rfl))
  ·rintro r rfl;exact Cfb rfl
 ·rw[if_neg h0];obtain⟨n,rfl⟩:∃ n:Nat,p=(n:Int):=⟨p.toNat,by omega⟩;rw[Vj];refine Cgb (K8a l hb hl n (by omega) 5 0 0 rfl (by decide)) ?_;intro r hr;unfold Xq;rw[Zv]at hr
  have hr':O5a r=(match (match T9 5 0 0 (l.drop n) with|some (m,c)=>some (m,n+c)|none=>none) with|some (m,q)=>((m:Int),(q:Int),true)|none=>((0:Int),(0:Int),false)):=by
   rw[hr]
   cases T9 5 0 0 (l.drop n) with
   |none=>rfl
   |some mc=>rfl
  rw[← hr']
  cases r with
  |inl y=>exact Cfb rfl
  |inr z=>exact Cfb rfl

def D6 (n:Int):Nat:=(max 0 (min n 1000000000)).toNat
def M3 (n:Int):D6 n≤1000000000:=by unfold D6;omega
def Ut {n:Int} (h0:0≤n) (h1:n≤1000000000):(D6 n:Int)=n:=by unfold D6;omega
def O7a (n:Nat) (h:n≤255):wrap .u8 (n:Int)=(n:Int):=by
 rw[Ebb];omega
def K9a:∀ (f n:Nat) (out:List Int),n<128 ^ (f+1)→f≤4→out.length+f≤1000000000010→
  Tot (λ k=>F3 k out (n:Int)) (λ r=>∃ m:Nat,r.2=(m:Int)∧m≤127∧r.1++[(m:Int)]=out++Aua f n∧r.1.length≤out.length+f):=by
 intro f
 induction f with
 |zero=>
  intro n out hn hf hl;refine Tot.succ ?_;simp only[F3]
  have:n<128:=by simpa using hn
  exact Ckb (by omega) (Cfb ⟨n,rfl,by omega,rfl,by simp⟩)
 |succ f ih=>
  intro n out hn hf hl;have hp:=Ur (f+1+1-1) (by omega);refine Tot.succ ?_;simp only[F3];refine Cmb (λ h=>?_) (λ h=>?_)
  ·have hn2:n/128<128 ^ (f+1):=by rw[D8b]at hn;omega
   have hn3:n<4398046511104:=by
    have:=Ur (f+1) (by omega);rw[D8b]at hn;omega
   have e1:Int.tmod (n:Int) 128+128=((n % 128+128:Nat):Int):=by
    rw[Cvb (by omega)];omega
   have e2:Int.tdiv (n:Int) 128=((n/128:Nat):Int):=by
    rw[Dvb (by omega)];omega
   rw[e1,e2,w64 (n:=((n % 128+128:Nat):Int)) (by omega) (by omega),w64 (n:=((n/128:Nat):Int)) (by omega) (by omega),O7a _ (by omega)];refine Cnb (by simp only[Vh,Vs];omega) ?_;refine(ih (n/128) (out++[((n % 128+128:Nat):Int)]) hn2 (by omega) (by simp only[Vi,Vh,Vs];omega)).mono ?_;rintro r ⟨m,h1,h2,h3,h4⟩;refine⟨m,h1,h2,?_,by simp only[Vi,Vh,Vs]at h4;omega⟩;rw[h3,Vo];congr 1
   conv => { rhs;unfold Aua }
   rw[if_neg (by omega)];rfl
  ·refine Cfb ⟨n,rfl,by omega,?_,by show out.length≤out.length+(f+1);omega⟩;unfold Aua;rw[if_pos (by omega)]
def Uu (out:List Int) (n:Int) (hl:out.length≤1000000000000):Tot (λ k=>Dx k out n) (λ r=>r=out++Mc (D6 n)):=by
 unfold Dx
 have e:(if (0:Int)<(if (1000000000:Int)<n then 1000000000 else n) then (if (1000000000:Int)<n then 1000000000 else n) else 0)=((D6 n:Nat):Int):=by
  unfold D6
  split<;>split<;>omega
 simp only;rw[e];have hc:=M3 n;refine Cgb (K9a 4 (D6 n) out (by omega) (by omega) (by omega)) ?_;rintro r ⟨m,h1,h2,h3,h4⟩;rw[h1,O7a m (by omega)];refine Cnb (by simp only[Vh,Vs];omega) (Cfb h3)
def Kg (n:Nat):(Mc n).length≤5∧0<(Mc n).length:=O2a 4 n
def Xr:∀ (f n:Nat),n<128 ^ (f+1)→Ax (Aua f n)
 |0,n,hn=>by
  intro x hx;simp only[Aua,Vp]at hx
  have:n<128:=by simpa using hn
  omega
 |f+1,n,hn=>by
  unfold Aua;split
  ·intro x hx;simp only[Vp]at hx;omega
  ·intro x hx;rcases Vk.1 hx with rfl|hx
   ·omega
   ·exact Xr f (n/128) (by rw[D8b]at hn;omega) x hx
def Kaa (n:Nat) (hn:n≤1000000000):Ax (Mc n):=Xr 4 n (by omega)
def Xt (s:ByteArray):Ax (bytesOf s):=by
 intro x hx;unfold bytesOf at hx;obtain⟨b,_,rfl⟩:=Yt.1 hx;have:=b.toNat_lt;omega
def Mt (s:ByteArray):(bytesOf s).length=s.size:=by
 unfold bytesOf;rw[Vz];exact Ze
def Ava (s:ByteArray):Ir (bytesOf s)=s:=by
 unfold Ir bytesOf;rw[Dqb]
 have:(λ n:Int=>UInt8.ofNat n.toNat) ∘ (λ b:UInt8=>(b.toNat:Int))=id:=by
  funext b;show UInt8.ofNat ((b.toNat:Int)).toNat=b;rw[Vj];exact UInt8.ofNat_toNat
 rw[this,List.map_id]
def Kh {l:List Int} (h:Ax l):bytesOf (Ir l)=l:=by
 unfold Ir bytesOf;show List.map _ (List.map _ l)=l;rw[Dqb]
 have:∀ x∈l,((λ b:UInt8=>(b.toNat:Int)) ∘ (λ n:Int=>UInt8.ofNat n.toNat)) x=x:=by
  intro x hx;have hb:=h x hx;show ((UInt8.ofNat x.toNat).toNat:Int)=x;rw[UInt8.toNat_ofNat'];omega
 exact(D1b this).trans (List.map_id' l)
def M4 (l:List Int):(Ir l).size=l.length:=by
 unfold Ir;show (List.map _ l).toArray.size=l.length;simp
def txt (s:ByteArray):List Int:=Mc (D6 (s.size:Int))++bytesOf s
def S8a (out:List Int) (s:ByteArray) (hl:out.length≤1000000000000) (hs:s.size≤1000000000000):Tot (λ k=>Gi k out s) (λ r=>r=out++txt s):=by
 unfold Gi txt;refine Cqb (Uu out _ hl) ?_;have:=(Kg (D6 (s.size:Int))).1;refine Cnb (by simp only[Vi];omega) (Cfb ?_);rw[Vo]
def L5a (l:List Int) (p:Nat):Option (ByteArray×Nat):=match Xq l p with
 |some (n,q)=>if q+n≤l.length then some (Ir ((l.drop q).take n),q+n) else none
 |none=>none
def B3b (l:List Int) (p:Int):ByteArray×Int×Bool:=if p<0 then ((⟨#[]⟩:ByteArray),0,false) else match L5a l p.toNat with
 |some (s,q)=>(s,(q:Int),true)
 |none=>((⟨#[]⟩:ByteArray),0,false)
def Kba (l:List Int) (hb:Ax l) (p:Int):Uja l p=(0,0,false)∨∃ n q,0≤p∧Xq l p.toNat=some (n,q)∧Uja l p=((n:Int),(q:Int),true)∧n≤1000000000∧q≤l.length:=by
 unfold Uja
 by_cases h:p<0
 ·rw[if_pos h];exact .inl rfl
 ·rw[if_neg h]
  cases hg:Xq l p.toNat with
  |none=>exact .inl rfl
  |some nq=>
   obtain⟨n,q⟩:=nq;have:=Fta hb hg;exact .inr ⟨n,q,by omega,rfl,rfl,this.2.1,this.2.2.2⟩
def I5a (l:List Int) (hb:Ax l) (hl:l.length≤1000000000000) (p:Int) (hp:p≤1000000000000):Tot (λ k=>Gg k l p) (λ r=>r=B3b l p):=by
 unfold Gg;refine Cqb (O6a l hb hl p hp) ?_;unfold B3b L5a;rcases Kba l hb p with h|⟨n,q,h0,hg,h,hn,hq⟩
 ·rw[h];refine Cib rfl (Cfb ?_);unfold Uja at h;split
  ·rfl
  ·rename_i h0;rw[if_neg h0]at h
   cases hg:Xq l p.toNat with
   |none=>rfl
   |some nq=>rw[hg]at h;simp at h
 ·rw[h];refine Chb rfl ?_;rw[if_neg (by omega),hg];simp only;rw[w64 (n:=(l.length:Int)-(q:Int)) (by omega) (by omega),w64 (n:=(q:Int)+(n:Int)) (by omega) (by omega)];refine Cmb (λ hgt=>?_) (λ hgt=>?_)
  ·rw[if_neg (by omega)];exact Cfb rfl
  ·rw[if_pos (by omega)];refine Cjb (by omega) (Cjb (by omega) (Cjb (by omega) (Cfb ?_)));rw[show toNat ((q:Int)+(n:Int))=q+n by omega,Vj,Dyb,show q+n-q=n by omega];simp only[Vx,true_and,and_true]
   push_cast
   rfl
def O8a {l:List Int} {p q:Nat} {s:ByteArray} (hb:Ax l) (h:L5a l p=some (s,q)):l.drop p=txt s++l.drop q∧s.size≤1000000000∧p<q∧q≤l.length:=by
 unfold L5a at h;split at h
 ·rename_i n q0 hg;obtain⟨h1,h2,h3,h4⟩:=Fta hb hg;split at h
  ·rename_i hle;simp only[Vc,Vx]at h;obtain⟨rfl,rfl⟩:=h
   have hlen:((l.drop q0).take n).length=n:=by rw[Vq,We];omega
   have hbb:Ax ((l.drop q0).take n):=λ x hx=>hb x (Zp (Csb hx));refine⟨?_,by rw[M4,hlen];exact h2,by omega,by omega⟩;unfold txt;rw[M4,hlen,Kh hbb,h1,show D6 (n:Int)=n by unfold D6;omega,Vo];congr 1;rw[← Yo,Wi]
  ·cases h
 ·cases h
def S9a (pre:List Int) (s:ByteArray) (rest:List Int) (hs:s.size≤1000000000):L5a (pre++(txt s++rest)) pre.length=some (s,pre.length+(txt s).length):=by
 unfold L5a txt
 have hc:D6 (s.size:Int)=s.size:=by unfold D6;omega
 rw[hc,Vo,I4a pre s.size _ hs];simp only;rw[if_pos (by simp only[Vi,Mt];omega)]
 have e:(pre++(Mc s.size++(bytesOf s++rest))).drop (pre.length+(Mc s.size).length)=bytesOf s++rest:=by
  rw[← Vo,← Vi,Zm]
 rw[e,Eab (Mt s),Ava];simp only[Vi,Mt,Vc,Vx,true_and];omega

def Fua (b:Bool):Int:=bif b then 1 else 0
def X0a (b:Bool):Js b=some (Fua b):=by cases b<;>rfl
def Uka (s:Stp):List Int:=Mc (D6 s.1)++(Mc (D6 s.2.1)++Mc (D6 s.2.2))
def Saa (s:Stp):(Uka s).length≤15:=by
 unfold Uka;have h1:=(Kg (D6 s.1)).1;have h2:=(Kg (D6 s.2.1)).1;have h3:=(Kg (D6 s.2.2)).1;simp only[Vi];omega
def Kca (out:List Int) (s:Stp) (b:Bool) (hl:out.length≤999999999900):Tot (λ k=>Fp k out s b) (λ r=>r=out++(Uka s++Mc (D6 (Fua b)))):=by
 have h1:=(Kg (D6 s.1)).1;have h2:=(Kg (D6 s.2.1)).1;have h3:=(Kg (D6 s.2.2)).1;unfold Fp Uka;refine Cqb (Uu out s.1 (by omega)) ?_;refine Cqb (Uu _ s.2.1 (by simp only[Vi];omega)) ?_;refine Cqb (Uu _ s.2.2 (by simp only[Vi];omega)) ?_;refine Cqb (Crb (Q:=λ y=>y=Fua b) (X0a b) rfl) ?_;refine Cqb (Uu _ (Fua b) (by simp only[Vi];omega)) ?_;exact Cfb (by simp only[Vo])
def Uv {s:ByteArray} (h:B8 s=true):1≤s.size∧s.size≤20:=by
 unfold B8 at h;rw[Va,Dg]at h;omega
def Xu {r:Row} (h:Lo r=true):B8 r.1=true:=by
 unfold Lo at h;rw[Va]at h;exact h.1
def X1a (s:ByteArray):(txt s).length≤5+s.size:=by
 have h1:=(Kg (D6 (s.size:Int))).1;unfold txt;simp only[Vi,Mt];omega

def Sba (l:List Int) (p:Nat):Uja l (p:Int)=match Xq l p with
 |some (n,q)=>((n:Int),(q:Int),true)
 |none=>(0,0,false):=by
 unfold Uja;rw[if_neg (by omega),Vj]
 all_goals cases Xq l p<;>rfl
def Sca (l:List Int) (p:Nat):B3b l (p:Int)=match L5a l p with
 |some (s,q)=>(s,(q:Int),true)
 |none=>((⟨#[]⟩:ByteArray),0,false):=by
 unfold B3b;rw[if_neg (by omega),Vj]
 all_goals cases L5a l p<;>rfl
def Wt (l:List Int) (hb:Ax l) (hl:l.length≤1000000000000) (p:Nat) (hp:p≤l.length) (bad:Bool):
  Tot (λ k=>Ch k (l,(p:Int),bad)) (λ r=>(bad=false∧∃ n q:Nat,Xq l p=some (n,q)∧q≤l.length∧r=((n:Int),l,(q:Int),false))∨((bad=true∨Xq l p=none)∧r=(0,l,(p:Int),true))):=by
 unfold Ch;refine Cqb (O6a l hb hl (p:Int) (by omega)) ?_;refine Clb (λ h=>Cfb (.inr ⟨.inl h,rfl⟩)) (λ h=>?_);rw[Sba]
 cases hg:Xq l p with
 |none=>exact Cib rfl (Cfb (.inr ⟨.inr rfl,rfl⟩))
 |some nq=>
  obtain⟨n,q⟩:=nq;simp only at h;subst h;exact Chb rfl (Cfb (.inl ⟨rfl,n,q,rfl,(Fta hb hg).2.2.2,rfl⟩))
def Bjb (l:List Int) (hb:Ax l) (hl:l.length≤1000000000000) (p:Nat) (hp:p≤l.length):
  Tot (λ k=>Cc k (l,(p:Int),false)) (λ r=>(∃ (s:ByteArray) (q:Nat),L5a l p=some (s,q)∧q≤l.length∧r=(s,l,(q:Int),false))∨(L5a l p=none∧r=((⟨#[]⟩:ByteArray),l,(p:Int),true))):=by
 unfold Cc;refine Cqb (I5a l hb hl (p:Int) (by omega)) ?_;refine Chb rfl ?_;rw[Sca]
 cases hg:L5a l p with
 |none=>exact Cib rfl (Cfb (.inr ⟨rfl,rfl⟩))
 |some nq=>
  obtain⟨n,q⟩:=nq;exact Chb rfl (Cfb (.inl ⟨n,q,rfl,(O8a hb hg).2.2.2,rfl⟩))
def Uw (l:List Int) (p:Nat):Option ((Stp×Bool)×Nat):=
 (Xq l p).bind λ b=>(Xq l b.2).bind λ c=>(Xq l c.2).bind λ d=>(Xq l d.2).bind λ e=>bif decide (1<e.1) then none else
  some ((((b.1:Int),(c.1:Int),(d.1:Int)),(e.1:Int)==1),e.2)
def Bkb (l:List Int) (hb:Ax l) (hl:l.length≤1000000000000) (p:Nat) (hp:p≤l.length) (bad:Bool):
  Tot (λ k=>Cu k (l,(p:Int),bad)) (λ r=>(bad=false∧∃ (x:Stp×Bool) (q:Nat),Uw l p=some (x,q)∧q≤l.length∧r=(x.1,x.2,l,(q:Int),false))∨((bad=true∨Uw l p=none)∧∃ s b,∃ q:Nat,q≤l.length∧r=(s,b,l,(q:Int),true))):=by
 unfold Cu
 have nx:∀ {o:Option (Nat×Nat)} {f:Nat×Nat→Option ((Stp×Bool)×Nat)},o=none→o.bind f=none:=by
  intro o f h;rw[h];rfl
 refine Cgb (Wt l hb hl p hp bad) ?_;rintro r (⟨h0,n1,p1,h1,l1,rfl⟩|⟨h1,rfl⟩)
 ·simp only;refine Cgb (Wt l hb hl p1 l1 false) ?_;rintro r (⟨_,n2,p2,h2,l2,rfl⟩|⟨h2,rfl⟩)
  ·simp only;refine Cgb (Wt l hb hl p2 l2 false) ?_;rintro r (⟨_,n3,p3,h3,l3,rfl⟩|⟨h3,rfl⟩)
   ·simp only;refine Cgb (Wt l hb hl p3 l3 false) ?_;rintro r (⟨_,n4,p4,h4,l4,rfl⟩|⟨h4,rfl⟩)
    ·simp only;refine Chb rfl (Cfb ?_)
     have e:Uw l p=bif decide (1<n4) then none else some ((((n1:Int),(n2:Int),(n3:Int)),(n4:Int)==1),p4):=by
      unfold Uw;simp only[h1,h2,h3,h4,Vt]
     cases hd:decide (1<n4) with
     |true=>
      rw[hd,cond_true]at e;refine .inr ⟨.inr e,((n1:Int),(n2:Int),(n3:Int)),((n4:Int)==1),p4,l4,?_⟩;have:decide ((n4:Int) > 1)=true:=decide_eq_true (by have:=of_decide_eq_true hd;omega);rw[this]
     |false=>
      rw[hd,cond_false]at e;refine .inl ⟨h0,_,p4,e,l4,?_⟩;have:decide ((n4:Int) > 1)=false:=decide_eq_false (by have:=of_decide_eq_false hd;omega);rw[this]
    ·refine Cib rfl (Cfb (.inr ⟨.inr ?_,_,_,p3,l3,rfl⟩));have h4':=h4.resolve_left (by simp);unfold Uw;simp only[h1,h2,h3,h4',Vt,Dzb]
   ·simp only;refine Cgb (Wt l hb hl p2 l2 true) ?_;rintro r (⟨hh,_⟩|⟨_,rfl⟩)
    ·cases hh
    ·refine Cib rfl (Cfb (.inr ⟨.inr ?_,_,_,p2,l2,rfl⟩));have h3':=h3.resolve_left (by simp);unfold Uw;simp only[h1,h2,h3',Vt,Dzb]
  ·simp only;refine Cgb (Wt l hb hl p1 l1 true) ?_;rintro r (⟨hh,_⟩|⟨_,rfl⟩)
   ·cases hh
   ·refine Cgb (Wt l hb hl p1 l1 true) ?_;rintro r (⟨hh,_⟩|⟨_,rfl⟩)
    ·cases hh
    ·refine Cib rfl (Cfb (.inr ⟨.inr ?_,_,_,p1,l1,rfl⟩));have h2':=h2.resolve_left (by simp);unfold Uw;simp only[h1,h2',Vt,Dzb]
 ·simp only;refine Cgb (Wt l hb hl p hp true) ?_;rintro r (⟨hh,_⟩|⟨_,rfl⟩)
  ·cases hh
  ·refine Cgb (Wt l hb hl p hp true) ?_;rintro r (⟨hh,_⟩|⟨_,rfl⟩)
   ·cases hh
   ·refine Cgb (Wt l hb hl p hp true) ?_;rintro r (⟨hh,_⟩|⟨_,rfl⟩)
    ·cases hh
    ·refine Cib rfl (Cfb (.inr ⟨?_,_,_,p,hp,rfl⟩));rcases h1 with h1|h1
     ·exact .inl h1
     ·refine .inr ?_;unfold Uw;rw[h1];rfl
def D4a (a b:List Int) (hf:a.length≤1000000000000) (hl:a.length=b.length):∀ (n i:Nat),a.length-i=n→i≤a.length→
  Tot (λ k=>D5 k a b (i:Int)) (λ r=>(r = .inr ()∧a.drop i=b.drop i)∨(r = .inl false∧a.drop i≠b.drop i)):=by
 intro n
 induction n with
 |zero=>
  intro i hd hi;refine Tot.succ ?_;simp only[D5];refine Ckb (by omega) (Cfb (.inl ⟨rfl,?_⟩));rw[Yr (by omega),Yr (by omega)]
 |succ n ih=>
  intro i hd hi
  have h1:i<a.length:=by omega
  refine Tot.succ ?_;simp only[D5];refine Cjb (by omega) (Cjb (by omega) (Cjb (by omega) (Cjb (by omega) (Cjb (by omega) ?_))));rw[show toNat (i:Int)=i from Vj i,w64 (n:=(i:Int)+1) (by omega) (by omega),Us h1,Us (l:=b) (p:=i) (by omega)];refine Clb (λ h=>Cfb (.inr ⟨rfl,?_⟩)) (λ h=>?_)
  ·intro e
   injection e with e _
   rw[e]at h;simp at h
  ·have e:a.getD i 0=b.getD i 0:=by simpa using h
   refine(ih (i+1) (by omega) (by omega)).mono ?_;rintro r (⟨rfl,h⟩|⟨rfl,h⟩)
   ·exact .inl ⟨rfl,by rw[e,h]⟩
   ·refine .inr ⟨rfl,λ q=>h ?_⟩;injection q
def Awa (a b:List Int) (hf:a.length≤1000000000000):Tot (λ k=>Eg k a b) (λ r=>r=decide (a=b)):=by
 unfold Eg;refine Clb (λ h=>Cfb ?_) (λ h=>?_)
 ·have:a≠b:=λ e=>by subst e;simp at h
  rw[decide_eq_false this]
 ·have hl:a.length=b.length:=by
   have:(a.length:Int)=b.length:=by simpa using h
   omega
  refine Cgb (D4a a b hf hl _ 0 rfl (Vu _)) ?_;rintro r (⟨rfl,h⟩|⟨rfl,h⟩)
  ·rw[Yu,Yu]at h;rw[decide_eq_true h];exact Cfb rfl
  ·rw[Yu,Yu]at h;rw[decide_eq_false h];exact Cfb rfl

section
open Go
end

abbrev Nmd:=ByteArray×List Int
abbrev Dsk:=List Nmd×List Nmd
def Hg:Nmd:=((⟨#[]⟩:ByteArray),[])
def Ula (l:List Nmd):Prop:=l.length≤1000000000000∧∀ x∈l,x.2.length≤1000000000000
def B4b (d:Dsk):Prop:=Ula d.1∧Ula d.2
def Hx (l:List Int) (h:l.length≤1000000000000):Af l=some l:=by
 unfold Af;rw[show Nat.ble ((length ([]:List Int)+length l)*1) 140737488355328=true from Zn (by simp only[Vs];omega)];rfl
def Sr (l:List Nmd) (hf:Ula l):∀ (n i:Nat) (acc:List Nmd),l.length-i=n→i≤l.length→acc.length≤i→
  Tot (λ k=>Cd k acc l (l.length:Int) (i:Int)) (λ r=>r=acc++l.drop i):=by
 obtain⟨h1,h2⟩:=hf;intro n
 induction n with
 |zero=>
  intro i acc hd hi ha;refine Tot.succ ?_;simp only[Cd];refine Ckb (by omega) (Cfb ?_);rw[Yr (by omega),Wo]
 |succ n ih=>
  intro i acc hd hi ha
  have hlt:i<l.length:=by omega
  refine Tot.succ ?_;simp only[Cd];refine Cjb (by omega) (Cjb (by omega) (Cjb (by omega) ?_));rw[show toNat (i:Int)=i from Vj i,w64 (n:=(i:Int)+1) (by omega) (by omega),C8 (d:=Hg) hlt];have e0:l.getD i ((⟨#[]⟩:ByteArray),([]:List Int))=l.getD i Hg:=rfl;rw[e0];have hb:=h2 _ (A3 (d:=Hg) hlt);refine Cqb (Crb (Q:=λ r=>r=(l.getD i Hg).2) (Hx _ hb) rfl) ?_;refine Cnb (by simp only[Vh,Vs];omega) ?_;refine(ih (i+1) (acc++[l.getD i Hg]) (by omega) (by omega) (by simp only[Vi,Vh,Vs];omega)).mono ?_;rintro r rfl;rw[Vo];rfl
def Ki (l:List Nmd) (hf:Ula l):Tot (λ k=>B4 k l) (λ r=>r=l):=by
 unfold B4;refine Cgb (Sr l hf _ 0 [] rfl (Vu _) (Vu _)) ?_;intro r hr;rw[Yu,Wn]at hr;exact Cfb hr
def Fm (d:Dsk) (hf:B4b d):Tot (λ k=>A4 k d) (λ r=>r=d):=by
 unfold A4;refine Cqb (Ki d.1 hf.1) ?_;refine Cqb (Ki d.2 hf.2) ?_;exact Cfb rfl
def fnd (l:List Nmd) (s:ByteArray):Option Nat:=l.findIdx? (λ x=>teq x.1 s)
def Sda (l:List Nmd) (s:ByteArray):Int:=match fnd l s with
 |some i=>(i:Int)
 |none => -1
def O9a (l:List Nmd) (s:ByteArray) (hf:l.length≤1000000000000):∀ (n i:Nat),l.length-i=n→i≤l.length→
  Tot (λ k=>Hl k s l (l.length:Int) (i:Int)) (λ r=>r=match fnd (l.drop i) s with|some j => .inl ((i+j:Nat):Int)|none => .inr ()):=by
 intro n
 induction n with
 |zero=>
  intro i hd hi;refine Tot.succ ?_;simp only[Hl];refine Ckb (by omega) (Cfb ?_);rw[Yr (by omega)];rfl
 |succ n ih=>
  intro i hd hi
  have hlt:i<l.length:=by omega
  refine Tot.succ ?_;simp only[Hl];refine Cjb (by omega) (Cjb (by omega) (Cjb (by omega) ?_));rw[show toNat (i:Int)=i from Vj i,w64 (n:=(i:Int)+1) (by omega) (by omega),C8 (d:=Hg) hlt];have e0:l.getD i ((⟨#[]⟩:ByteArray),([]:List Int))=l.getD i Hg:=rfl;rw[e0]
  have e1:fnd (l.getD i Hg::l.drop (i+1)) s=if teq (l.getD i Hg).1 s then some 0 else (fnd (l.drop (i+1)) s).map (· + 1):=by
   unfold fnd;rw[F4b]
  rw[e1];refine Clb (λ h=>?_) (λ h=>?_)
  ·have h':teq (l.getD i Hg).1 s=true:=h;rw[if_pos h'];exact Cfb rfl
  ·have h':¬ (teq (l.getD i Hg).1 s=true):=by
    have:teq (l.getD i Hg).1 s=false:=h;rw[this];simp
   rw[if_neg h'];refine(ih (i+1) (by omega) (by omega)).mono ?_;rintro r rfl
   cases fnd (l.drop (i+1)) s with
   |none=>rfl
   |some j=>
    show Sum.inl _=Sum.inl _;rw[show i+1+j=i+(j+1) by omega]
def Ux (l:List Nmd) (s:ByteArray) (hf:l.length≤1000000000000):Tot (λ k=>Fh k l s) (λ r=>r=Sda l s):=by
 unfold Fh Sda;refine Cqb (O9a l s hf _ 0 rfl (Vu _)) ?_;rw[Yu]
 cases fnd l s with
 |none=>exact Cfb rfl
 |some j=>
  refine Cfb ?_;rw[Wh]
def M5 {l:List Nmd} {s:ByteArray} {i:Nat} (h:fnd l s=some i):i<l.length∧(l.getD i Hg).1=s:=by
 unfold fnd at h;rw[Ecb]at h;obtain⟨h1,h2,_⟩:=h;refine⟨h1,?_⟩;rw[Vb,Vg h1];exact Cn.1 h2
def del (l:List Nmd) (s:ByteArray):List Nmd:=match fnd l s with
 |some i=>l.take i++l.drop (i+1)
 |none=>l
def Qo (l:List Nmd) (s:ByteArray) (hf:l.length≤1000000000000):Tot (λ k=>F7 k l s) (λ r=>r=del l s):=by
 unfold F7 del;refine Cqb (Ux l s hf) ?_;unfold Sda
 cases h:fnd l s with
 |none=>exact Cjb (by decide) (Cfb rfl)
 |some i=>
  have hl:=(M5 h).1;dsimp only;refine Ckb (by omega) (Cjb (by omega) (Cjb (by omega) ?_));rw[w64 (n:=(i:Int)+1) (by omega) (by omega),show toNat (i:Int)=i from Int.toNat_natCast i,show toNat ((i:Int)+1)=i+1 by omega];refine Cnb (by simp only[List.length_nil,List.length_take];omega) ?_;refine Cjb (by omega) (Cjb (by omega) (Cnb (by simp only[List.length_append,List.length_nil,List.length_take,List.length_drop];omega) (Cfb rfl)))

def nOk (x:Nmd):Bool:=B8 x.1&&!(decide ((x.2.length:Int) > 400))
def chn:Option ByteArray→List Nmd→Bool
 |_,[]=>true
 |none,r::l=>nOk r&&chn (some r.1) l
 |some q,r::l=>nOk r&&(tlt q r.1&&chn (some r.1) l)
def H6 (l:List Nmd):Bool:=chn none l&&decide ((l.length:Int)≤60)
def C9 (d:Dsk):Bool:=H6 d.1&&H6 d.2
def D5a (l:List Nmd):Prop:=∀ x∈l,Ky x.1
def Oaa (d:Dsk):Prop:=D5a d.1∧D5a d.2
def D6a (l:List Nmd):Nat→Option ByteArray
 |0=>none
 |i+1=>some (l.getD i Hg).1
def Sea (l:List Nmd) (i:Nat) (h:i<l.length):chn (D6a l i) (l.drop i)=(nOk (l.getD i Hg)&&(bif decide (0<i) then tlt (l.getD (i-1) Hg).1 (l.getD i Hg).1 else true)&&chn (D6a l (i+1)) (l.drop (i+1))):=by
 rw[C8 (d:=Hg) h]
 cases i with
 |zero=>simp[D6a,chn]
 |succ i=>simp[D6a,chn,Fqb]
def D7a (l:List Nmd) (hf:l.length≤1000000000000) (hs:D5a l):∀ (n i:Nat),l.length-i=n→i≤l.length→
  Tot (λ k=>Dj k l l (l.length:Int) (i:Int)) (λ r=>r=bif chn (D6a l i) (l.drop i) then .inr l else .inl false):=by
 intro n
 induction n with
 |zero=>
  intro i hn hi;refine Tot.succ ?_;simp only[Dj];refine Ckb (by omega) (Cfb ?_);rw[Yr (by omega)]
  cases D6a l i<;>rfl
 |succ n ih=>
  intro i hn hi
  have hlt:i<l.length:=by omega
  refine Tot.succ ?_;simp only[Dj];refine Cjb (by omega) (Cjb (by omega) (Cjb (by omega) ?_));rw[show toNat (i:Int)=i from Vj i,w64 (n:=(i:Int)+1) (by omega) (by omega),Sea l i hlt];have h1:=ih (i+1) (by omega) (by omega)
  have e:(((i+1:Nat)):Int)=(i:Int)+1:=by omega
  rw[e]at h1;have e0:l.getD i ((⟨#[]⟩:ByteArray),([]:List Int))=l.getD i Hg:=rfl;rw[e0];refine Cqb (Jv (l.getD i Hg).1 (hs _ (A3 hlt))) ?_;cases hb:B8 (l.getD i Hg).1
  ·exact Cib rfl (Cfb (by rw[show nOk (l.getD i Hg)=false by unfold nOk;rw[hb];rfl];rfl))
  refine Chb rfl ?_;refine Cmb (λ h4=>Cfb (by rw[show nOk (l.getD i Hg)=false by unfold nOk;rw[decide_eq_true h4,hb];rfl];rfl)) (λ h4=>?_)
  have hnk:nOk (l.getD i Hg)=true:=by unfold nOk;rw[hb,decide_eq_false h4];rfl
  rw[hnk,Wf];refine Cmb (λ h0=>?_) (λ h0=>?_)
  ·rw[w64 (n:=(i:Int)-1) (by omega) (by omega)];refine Cjb (by omega) (Cjb (by omega) ?_);rw[show toNat ((i:Int)-1)=i-1 by omega,decide_eq_true (show 0<i by omega),cond_true];refine Clb (λ ht=>?_) (λ ht=>?_)
   ·have ht':(!(tlt (l.getD (i-1) Hg).1 (l.getD i Hg).1))=true:=ht;rw[Wb]at ht';exact Cfb (by rw[ht'];rfl)
   ·have ht':(!(tlt (l.getD (i-1) Hg).1 (l.getD i Hg).1))=false:=ht;rw[Yg]at ht';rw[ht',Wf];exact h1
  ·rw[decide_eq_false (show ¬ 0<i by omega),cond_false,Wf];exact h1
def D8a (l:List Nmd) (hf:l.length≤1000000000000) (hs:D5a l):Tot (λ k=>Dc k l) (λ r=>r=H6 l):=by
 unfold Dc H6;refine Cqb (D7a l hf hs _ 0 rfl (Vu _)) ?_;rw[Yu];show Tot _ (λ r=>r=(chn none l&&_))
 cases hc:chn none l with
 |true=>rw[show chn (D6a l 0) l=true from hc];exact Cfb (by rw[Wf])
 |false=>rw[show chn (D6a l 0) l=false from hc];exact Cfb rfl
def Ld (d:Dsk) (hf:B4b d) (hs:Oaa d):Tot (λ k=>Aw k d) (λ r=>r=C9 d):=by
 unfold Aw C9;refine Cqb (D8a d.1 hf.1.1 hs.1) ?_;cases h:H6 d.1
 ·exact Chb rfl (Cfb rfl)
 refine Cib rfl (Cqb (D8a d.2 hf.2.1 hs.2) ?_);exact Cfb (by rw[Wf])
def plc (l:List Nmd) (s:ByteArray):Nat:=(l.takeWhile (λ y=>tlt y.1 s)).length
def ins (l:List Nmd) (x:Nmd):List Nmd:=l.take (plc l x.1)++[x]++l.drop (plc l x.1)
def Uma (l:List Nmd) (s:ByteArray):plc l s≤l.length:=(Fhb _).length_le
def Fva (l:List Nmd) (s:ByteArray) (b:List Int) (hf:l.length≤1000000000000):∀ (n i:Nat),l.length-i=n→i≤l.length→
  Tot (λ k=>H2 k l (i:Int) s b) (λ r=>r=(l,((i+plc (l.drop i) s:Nat):Int),s,b)):=by
 intro n
 induction n with
 |zero=>
  intro i hd hi;refine Tot.succ ?_;simp only[H2];refine Ckb (by omega) (Cfb ?_);rw[Yr (by omega)];rfl
 |succ n ih=>
  intro i hd hi
  have hlt:i<l.length:=by omega
  refine Tot.succ ?_;simp only[H2];refine Cjb (by omega) (Cjb (by omega) (Cjb (by omega) ?_));rw[show toNat (i:Int)=i from Vj i,w64 (n:=(i:Int)+1) (by omega) (by omega),C8 (d:=Hg) hlt];have e0:l.getD i ((⟨#[]⟩:ByteArray),([]:List Int))=l.getD i Hg:=rfl;rw[e0]
  have e1:plc (l.getD i Hg::l.drop (i+1)) s=if tlt (l.getD i Hg).1 s then plc (l.drop (i+1)) s+1 else 0:=by
   unfold plc;rw[Zo]
   split<;>rfl
  rw[e1];refine Clb (λ h=>?_) (λ h=>?_)
  ·have h':tlt (l.getD i Hg).1 s=true:=h;rw[if_pos h'];refine(ih (i+1) (by omega) (by omega)).mono ?_;rintro r rfl;rw[show i+1+plc (l.drop (i+1)) s=i+(plc (l.drop (i+1)) s+1) by omega]
  ·have h':¬ (tlt (l.getD i Hg).1 s=true):=by
    have:tlt (l.getD i Hg).1 s=false:=h;rw[this];simp
   rw[if_neg h'];exact Cfb rfl
def I6a (l:List Nmd) (x:Nmd) (hf:l.length≤1000000000000):Tot (λ k=>Hv k l x) (λ r=>r=ins l x):=by
 unfold Hv ins;refine Cgb (Fva l x.1 x.2 hf _ 0 rfl (Nat.zero_le _)) ?_;intro r hr;rw[List.drop_zero,Nat.zero_add]at hr;subst hr;have hp:=Uma l x.1;dsimp only;refine Cjb (by omega) (Cjb (by omega) ?_);rw[show toNat ((plc l x.1:Nat):Int)=plc l x.1 from Int.toNat_natCast _];refine Cnb (by simp only[List.length_nil,List.length_take];omega) ?_;refine Cnb (by simp only[List.length_append,List.length_nil,List.length_take,List.length_cons];omega) ?_;refine Cjb (by omega) (Cjb (by omega) (Cnb (by simp only[List.length_append,List.length_nil,List.length_take,List.length_drop,List.length_cons];omega) (Cfb ?_)));rw[List.nil_append]

def cut (l:List Nmd) (s:ByteArray):List Nmd:=l.filter (λ x => !(teq x.1 s))

def rdN (l:List Nmd) (s:ByteArray):List Int×Bool:=match fnd l s with
 |some i=>((l.getD i Hg).2,true)
 |none=>([],false)
def I7a (d:Dsk) (s:ByteArray) (hf:Ula d.1):Tot (λ k=>Dy k d s) (λ r=>r=rdN d.1 s):=by
 unfold Dy rdN;refine Cqb (Ux d.1 s hf.1) ?_;unfold Sda;have hl1:=hf.1
 cases h:fnd d.1 s with
 |none=>exact Cjb (by decide) (Cfb rfl)
 |some i=>
  have hl:=(M5 h).1;dsimp only;refine Ckb (by omega) (Cjb (by omega) (Cjb (by omega) ?_));rw[show toNat (i:Int)=i from Int.toNat_natCast i];have hb:=hf.2 _ (A3 (d:=Hg) hl);refine Cqb (Crb (Q:=λ r=>r=(d.1.getD i Hg).2) (Hx _ hb) rfl) ?_;exact Cfb rfl

def Db (l:List Nmd):Prop:=l.Pairwise (λ a b=>tlt a.1 b.1=true)
def Fwa:∀ (p:Option ByteArray) (l:List Nmd),chn p l=true↔Db l∧(∀ r∈l,nOk r=true)∧(∀ q,p=some q→∀ r∈l,tlt q r.1=true)
 |p,[]=>by
  have:chn p []=true:=by cases p<;>rfl
  simp[this,Db]
 |none,r::l=>by
  simp only[chn,Va,Fwa (some r.1) l,Db,Wa];constructor
  ·rintro⟨h1,h2,h3,h4⟩;exact⟨⟨λ a ha=>h4 _ rfl a ha,h2⟩,λ a ha=>by rcases Vk.1 ha with rfl|ha;exact h1;exact h3 a ha,λ q hq=>by cases hq⟩
  ·rintro⟨⟨h1,h2⟩,h3,_⟩;exact⟨h3 r (by simp),h2,λ a ha=>h3 a (Vd _ ha),λ q hq a ha=>by cases hq;exact h1 a ha⟩
 |some q,r::l=>by
  simp only[chn,Va,Fwa (some r.1) l,Db,Wa];constructor
  ·rintro⟨h1,h0,h2,h3,h4⟩;refine⟨⟨λ a ha=>h4 _ rfl a ha,h2⟩,λ a ha=>by rcases Vk.1 ha with rfl|ha;exact h1;exact h3 a ha,λ q' hq a ha=>?_⟩;cases hq;rcases Vk.1 ha with rfl|ha
   ·exact h0
   ·exact Iy h0 (h4 _ rfl a ha)
  ·rintro⟨⟨h1,h2⟩,h3,h4⟩;exact⟨h3 r (by simp),h4 q rfl r (by simp),h2,λ a ha=>h3 a (Vd _ ha),λ q' hq a ha=>by cases hq;exact h1 a ha⟩
def B5 {l:List Nmd}:H6 l=true↔Db l∧(∀ r∈l,nOk r=true)∧l.length≤60:=by
 unfold H6;simp only[Va,Fwa,decide_eq_true_eq];constructor
 ·rintro⟨⟨h1,h2,_⟩,h3⟩;exact⟨h1,h2,by omega⟩
 ·rintro⟨h1,h2,h3⟩;exact⟨⟨h1,h2,λ q hq=>by cases hq⟩,by omega⟩
def Nx {x:Nmd}:nOk x=true↔B8 x.1=true∧x.2.length≤400:=by
 unfold nOk;simp only[Va,Wb,decide_eq_false_iff_not];constructor
 ·rintro⟨h1,h2⟩;exact⟨h1,by omega⟩
 ·rintro⟨h1,h2⟩;exact⟨h1,by omega⟩
def Se {l:List Nmd} (h:H6 l=true):Ula l∧D5a l:=by
 obtain⟨_,h2,h3⟩:=B5.1 h;refine⟨⟨by omega,λ x hx=>by have:=(Nx.1 (h2 x hx)).2;omega⟩,λ x hx=>?_⟩;have:=Uv (Nx.1 (h2 x hx)).1;unfold Ky;omega
def I8a (y:Nmd) (l:List Nmd) (s:ByteArray):fnd (y::l) s=if teq y.1 s then some 0 else (fnd l s).map (· + 1):=by
 unfold fnd;rw[F4b]
def Sfa {l:List Nmd} {s:ByteArray}:fnd l s=none↔∀ x∈l,x.1≠s:=by
 unfold fnd;rw[List.findIdx?_eq_none_iff];constructor
 ·intro h x hx e;have:=h x hx;rw[Cn.2 e]at this;cases this
 ·intro h x hx
  cases ht:teq x.1 s with
  |false=>rfl
  |true=>exact absurd (Cn.1 ht) (h x hx)
def Ny:∀ {l:List Nmd} {s:ByteArray},Db l→del l s=cut l s
 |[],s,_=>rfl
 |y::l,s,h=>by
  have hc:=Wa.1 h;have ih:=Ny (l:=l) (s:=s) hc.2;unfold del cut at *;rw[I8a,Cub]
  cases ht:teq y.1 s with
  |true=>
   have hno:∀ x∈l,(!(teq x.1 s))=true:=λ x hx=>by
    cases hx2:teq x.1 s
    ·rfl
    have e1:=Cn.1 ht;have e2:=Cn.1 hx2;have:=hc.1 x hx;rw[e1,e2,Ek]at this;cases this
   rw[if_pos rfl,if_neg (by simp)];show []++l=_;rw[Wn,List.filter_eq_self.2 hno]
  |false=>
   rw[if_neg (by simp),if_pos (show (!false)=true from rfl),← ih]
   cases hf:fnd l s with
   |none=>rfl
   |some i=>rfl
def Jn {l:List Nmd} {s:ByteArray} (h:Db l):Db (cut l s):=h.sublist E3b
def Uy {l:List Nmd} {s:ByteArray}:(cut l s).Sublist l:=E3b
def Sf {l:List Nmd} {s:ByteArray} (h:H6 l=true):H6 (cut l s)=true:=by
 obtain⟨h1,h2,h3⟩:=B5.1 h;exact B5.2 ⟨Jn h1,λ x hx=>h2 x (Uy.subset hx),by have:=(Uy (l:=l) (s:=s)).length_le;omega⟩
def X2a {l:List Nmd} {s:ByteArray} {i:Nat} (h:fnd l s=some i):(del l s).length+1=l.length:=by
 have hl:=(M5 h).1;unfold del;rw[h];simp only[Vi,Vq,We];omega

section
open Go
end

def ptl (x:Nmd):Bool→List Nmd→List Nmd
 |p,[]=>bif p then [] else [x]
 |p,y::l=>(bif !p&&!(tlt y.1 x.1) then [x] else [])++((bif !(teq y.1 x.1) then [y] else [])++ptl x (p||!(tlt y.1 x.1)) l)
def Sga (x:Nmd):∀ (l:List Nmd),ptl x true l=cut l x.1:=by
 intro l
 induction l with
 |nil=>rfl
 |cons a l ih=>
  simp only[ptl,Zb,Zc,cond_false,Wn,Bool.true_or,ih,cut,Cub]
  cases teq a.1 x.1<;>simp
def Kda (x:Nmd):∀ {l:List Nmd},Db l→ptl x false l=ins (cut l x.1) x:=by
 intro l
 induction l with
 |nil=>intro _;rfl
 |cons a l ih=>
  intro h;have hl:Db l:=(Wa.1 h).2;have ha:=(Wa.1 h).1;simp only[ptl,Zs,Wf,Feb]
  cases ht:tlt a.1 x.1 with
  |true=>
   have he:teq a.1 x.1=false:=by
    cases hq:teq a.1 x.1 with
    |false=>rfl
    |true=>rw[(Cn.1 hq),Ek]at ht;cases ht
   simp only[he,Zb,Zs,cond_false,cond_true,Wn,ih hl,cut,Cub,if_true];unfold ins plc;rw[Zo,if_pos ht];rfl
  |false=>
   have hc:plc (cut (a::l) x.1) x.1=0:=by
    unfold plc cut;rw[List.length_eq_zero_iff];rw[Cub];cases hq:teq a.1 x.1
    ·rw[Zs,if_pos rfl,Zo,if_neg (by rw[ht];simp)]
    have hx:=(Cn.1 hq);simp only[Zb,Wq,if_false]
    cases hf:l.filter (λ y => !(teq y.1 x.1)) with
    |nil=>rfl
    |cons b m=>
     have hb:b∈l:=by
      have:b∈l.filter (λ y => !(teq y.1 x.1)):=by rw[hf];exact Wj
      exact(Dfb.1 this).1
     have hab:=ha b hb;rw[hx]at hab;rw[Zo,if_neg (by rw[Nw hab];simp)]
   simp only[Zs,cond_true,Sga];unfold ins;rw[hc];simp only[Cxb,Wn,Yu,cut,Cub]
   cases teq a.1 x.1<;>simp

def DIn (d:Dsk):Prop:=(B4b d∧Oaa d)∧d.1.length≤2000000∧d.2.length≤2000000
def P8 {d:Dsk} (h:C9 d=true):DIn d:=by
 unfold C9 at h;rw[Va]at h;have h1:=Se h.1;have h2:=Se h.2;exact⟨⟨⟨h1.1,h2.1⟩,h1.2,h2.2⟩,by have:=(B5.1 h.1).2.2;omega,by have:=(B5.1 h.2).2.2;omega⟩
def Kea (d:Dsk) (s:ByteArray) (hd:B4b d∧Oaa d):Tot (λ k=>Dp k d s) (λ r=>r=bif (fnd d.1 s).isSome&&C9 d then ((del d.1 s,d.2),true) else (d,false)):=by
 unfold Dp;refine Cgb (Fm d hd.1) ?_;rintro r rfl;refine Cgb (Ld r hd.1 hd.2) ?_;rintro b rfl;cases h1:C9 r
 ·refine Cib rfl (Cfb ?_);rw[Yp];rfl
 refine Chb rfl (Cgb (Ux r.1 s hd.1.1.1) ?_);rintro i rfl;unfold Sda
 cases h:fnd r.1 s with
 |none=>exact Cjb (by decide) (Cfb rfl)
 |some i=>
  dsimp only;refine Ckb (by omega) (Cgb (Qo r.1 s hd.1.1.1) ?_);rintro c rfl;exact Cfb rfl
def syI (d:Dsk) (s:ByteArray):List Nmd:=match fnd d.1 s with
 |some i=>ins (del d.2 s) (s,(d.1.getD i Hg).2)
 |none=>del d.2 s
def Xv (l:List Nmd) (s:ByteArray):(del l s).length≤l.length:=by
 cases h:fnd l s with
 |none=>unfold del;rw[h];exact Vw _
 |some i=>have:=X2a h;omega
def X3a (l:List Nmd) (x:Nmd):(ins l x).length=l.length+1:=by
 unfold ins;have:=Uma l x.1;simp only[Vi,Vq,We,Vh,Vs];omega
def Sha (d:Dsk) (s:ByteArray) (hd:DIn d) (hs:Ky s):Tot (λ k=>Bt k d s) (λ r=>r=bif C9 d&&(B8 s&&decide ((syI d s).length≤60)) then ((d.1,syI d s),true) else (d,false)):=by
 unfold Bt;refine Cgb (Fm d hd.1.1) ?_;rintro r rfl;refine Cgb (Ld r hd.1.1 hd.1.2) ?_;rintro b rfl;cases h1:C9 r
 ·exact Cib rfl (Cfb rfl)
 refine Chb rfl (Cgb (Jv s hs) ?_);rintro b rfl;cases h2:B8 s
 ·exact Cib rfl (Cfb rfl)
 refine Chb rfl (Cgb (Qo r.2 s hd.1.1.2.1) ?_);rintro c rfl;refine Cgb (Ux r.1 s hd.1.1.1.1) ?_;rintro i rfl;have hdl:=Xv r.2 s;have hr2:=hd.2.2;have hr1:=hd.2.1
 have e:∀ o,o=syI r s→o.length≤4000000→Tot (λ k=>cond (decide ((length o:Int) > 60)) ((A4 k r).bind λ r9=>some (r9,false)) (some ((r.1,o),true))) (λ q=>q=bif true&&(true&&decide ((syI r s).length≤60)) then ((r.1,syI r s),true) else (r,false)):=by
  rintro o rfl _;refine Cmb (λ h=>?_) (λ h=>?_)
  ·refine Cgb (Fm r hd.1.1) ?_;rintro q rfl;refine Cfb ?_;rw[decide_eq_false (by omega)];rfl
  ·refine Cfb ?_;rw[decide_eq_true (by omega)];rfl
 unfold Sda
 cases h:fnd r.1 s with
 |none=>
  refine Ckb (by decide) (e _ ?_ (by omega));unfold syI;rw[h]
 |some i=>
  have hl:=(M5 h).1;dsimp only;refine Cjb (by omega) (Cjb (by omega) (Cjb (by omega) ?_));rw[show toNat (i:Int)=i from Int.toNat_natCast i];have hb:=hd.1.1.1.2 _ (A3 (d:=Hg) hl);refine Cgb (Crb (Q:=λ q=>q=(r.1.getD i Hg).2) (Hx _ hb) rfl) ?_;rintro q rfl;refine Cgb (I6a (del r.2 s) (s,(r.1.getD i Hg).2) (by omega)) ?_;rintro o rfl;refine e _ ?_ (by rw[X3a];omega);unfold syI;rw[h]

section
open Go
end

section
open Go
end

def P9 (p:Nmd→Bool):∀ l:List Nmd,l.take (l.takeWhile p).length=l.takeWhile p∧l.drop (l.takeWhile p).length=l.dropWhile p
 |[]=>⟨rfl,rfl⟩
 |y::l=>by
  obtain⟨h1,h2⟩:=P9 p l;simp only[Zo,E4b]
  cases p y with
  |true=>simp[h1,h2]
  |false=>simp
def D9a {p:Nmd→Bool}:∀ {l:List Nmd} {y:Nmd},y∈l.takeWhile p→p y=true
 |[],y,h=>by simp at h
 |z::l,y,h=>by
  simp only[Zo]at h;cases hz:p z
  ·rw[hz]at h;simp at h
  rw[hz]at h;simp only[if_true]at h;rcases Vk.1 h with rfl|h
  ·exact hz
  ·exact D9a h
def Una (l:List Nmd) (x:Nmd):ins l x=l.takeWhile (λ y=>tlt y.1 x.1)++([x]++l.dropWhile (λ y=>tlt y.1 x.1)):=by
 unfold ins plc;obtain⟨h1,h2⟩:=P9 (λ y=>tlt y.1 x.1) l;rw[h1,h2,Vo]
def Xw {x:Nmd}:∀ {l:List Nmd},Db l→(∀ y∈l,y.1≠x.1)→∀ z∈l.dropWhile (λ y=>tlt y.1 x.1),tlt x.1 z.1=true
 |[],_,_,z,hz=>by simp at hz
 |y::l,hs,hn,z,hz=>by
  obtain⟨h1,h2⟩:=Wa.1 hs;simp only[E4b]at hz
  cases hy:tlt y.1 x.1 with
  |true=>
   rw[hy]at hz;simp only[if_true]at hz;exact Xw h2 (λ w hw=>hn w (Vd _ hw)) z hz
  |false=>
   rw[hy]at hz;simp only[Wq,if_false]at hz
   have hxy:tlt x.1 y.1=true:=by
    cases hh:tlt x.1 y.1 with
    |true=>rfl
    |false=>exact absurd (Um hy hh) (hn y (by simp))
   rcases Vk.1 hz with rfl|hz
   ·exact hxy
   ·exact Iy hxy (h1 z hz)
def Ox {l:List Nmd} {x:Nmd} (hs:Db l) (hn:∀ y∈l,y.1≠x.1):Db (ins l x):=by
 rw[Una]
 have hs':Db (l.takeWhile (λ y=>tlt y.1 x.1)++l.dropWhile (λ y=>tlt y.1 x.1)):=by rw[Dgb];exact hs
 obtain⟨h1,h2,h3⟩:=Zg.1 hs';have h4:∀ y∈l.takeWhile (λ y=>tlt y.1 x.1),tlt y.1 x.1=true:=λ y hy=>D9a (p:=λ y=>tlt y.1 x.1) hy;refine Zg.2 ⟨h1,Wa.2 ⟨λ z hz=>Xw hs hn z hz,h2⟩,λ a ha b hb=>?_⟩;rcases Vk.1 hb with rfl|hb
 ·exact h4 a ha
 ·exact h3 a ha b hb
def Rs {l:List Nmd} {x y:Nmd}:y∈ins l x↔y=x∨y∈l:=by
 rw[Una];have e:=Dgb (p:=λ y:Nmd=>tlt y.1 x.1) (l:=l);constructor
 ·intro h;rcases Vm.1 h with h|h
  ·right;rw[← e];exact Vy _ h
  ·rcases Vk.1 h with h|h
   ·exact .inl h
   ·right;rw[← e];exact Vn _ h
 ·rintro (rfl|h)
  ·exact Vn _ (by simp)
  ·rw[← e]at h;rcases Vm.1 h with h|h
   ·exact Vy _ h
   ·exact Vn _ (Vd _ h)
def Uoa {l:List Nmd} {x:Nmd} (hl:H6 l=true) (hn:∀ y∈l,y.1≠x.1) (hx:nOk x=true):H6 (ins l x)=decide ((ins l x).length≤60):=by
 obtain⟨h1,h2,h3⟩:=B5.1 hl
 by_cases h:(ins l x).length≤60
 ·rw[decide_eq_true h];exact B5.2 ⟨Ox h1 hn,λ y hy=>by rcases Rs.1 hy with rfl|hy;exact hx;exact h2 y hy,h⟩
 ·rw[decide_eq_false h]
  cases hc:H6 (ins l x) with
  |false=>rfl
  |true=>exact absurd (B5.1 hc).2.2 h
def Uz {l:List Nmd} {s:ByteArray}:∀ y∈cut l s,y.1≠s:=λ y hy e=>by
 have:=(Dfb.1 hy).2;simp[e,Cn.2 rfl]at this
def X4a {d:Dsk} {s:ByteArray} (hd:C9 d=true) (hs:B8 s=true):C9 (d.1,syI d s)=decide ((syI d s).length≤60):=by
 have hd':=hd;unfold C9 at hd';rw[Va]at hd';have h2:=B5.1 hd'.2;unfold C9;rw[hd'.1,Wf];unfold syI;rw[Ny h2.1]
 cases h:fnd d.1 s with
 |none=>show H6 (cut d.2 s)=decide ((cut d.2 s).length≤60);rw[Sf hd'.2,decide_eq_true (B5.1 (Sf (s:=s) hd'.2)).2.2]
 |some i=>
  refine Uoa (Sf hd'.2) Uz (Nx.2 ⟨hs,?_⟩);have h1:=(B5.1 hd'.1).2.1 _ (A3 (d:=Hg) (M5 h).1);exact(Nx.1 h1).2
def X5a {l:List Nmd} (hs:Db l) {x y:Nmd} (hx:x∈l) (hy:y∈l) (e:x.1=y.1):x=y:=by
 induction l with
 |nil=>simp at hx
 |cons z l ih=>
  obtain⟨h1,h2⟩:=Wa.1 hs;rcases Vk.1 hx with hx'|hx'
  ·rcases Vk.1 hy with hy'|hy'
   ·rw[hx',hy']
   ·have:=h1 y hy';rw[← hx',e,Ek]at this;cases this
  ·rcases Vk.1 hy with hy'|hy'
   ·have:=h1 x hx';rw[← hy',e,Ek]at this;cases this
   ·exact ih h2 hx' hy'

def wrI (d:Dsk) (s:ByteArray) (b:List Int):List Nmd:=ins (del d.1 s) (s,b)
def Oba (d:Dsk) (s:ByteArray) (b:List Int) (hd:DIn d) (hs:Ky s) (hb:b.length≤1000000000000):Tot (λ k=>D9 k d s b) (λ r=>r=bif C9 d&&(B8 s&&(decide (b.length≤400)&&decide ((wrI d s b).length≤60))) then ((wrI d s b,d.2),true) else (d,false)):=by
 unfold D9;refine Cgb (Fm d hd.1.1) ?_;rintro r rfl;refine Cgb (Ld r hd.1.1 hd.1.2) ?_;rintro b1 rfl;cases h1:C9 r
 ·exact Cib rfl (Cfb rfl)
 refine Chb rfl (Cgb (Jv s hs) ?_);rintro b2 rfl;cases h2:B8 s
 ·exact Cib rfl (Cfb rfl)
 refine Chb rfl (Cmb (λ h=>?_) (λ h=>?_))
 ·rw[decide_eq_false (show ¬ b.length≤400 by omega)];exact Cfb rfl
 ·rw[decide_eq_true (show b.length≤400 by omega)];refine Cgb (Qo r.1 s hd.1.1.1.1) ?_;rintro c rfl;refine Cgb (Crb (Q:=λ x=>x=b) (Hx b hb) rfl) ?_;rintro e rfl;have hdl:=Xv r.1 s;refine Cgb (I6a (del r.1 s) (s,e) (by have:=hd.2.1;omega)) ?_;rintro m rfl;refine Cmb (λ h=>?_) (λ h=>?_)
  ·rw[decide_eq_false (show ¬ (wrI r s e).length≤60 by unfold wrI;omega)];refine Cgb (Fm r hd.1.1) ?_;rintro x rfl;exact Cfb rfl
  ·rw[decide_eq_true (show (wrI r s e).length≤60 by unfold wrI;omega)];exact Cfb rfl
def Sia {d:Dsk} {s:ByteArray} {b:List Int} (hd:C9 d=true) (hs:B8 s=true):ptl (s,b) false d.1=wrI d s b∧C9 (wrI d s b,d.2)=(decide (b.length≤400)&&decide ((wrI d s b).length≤60)):=by
 have hd':=hd;unfold C9 at hd';rw[Va]at hd';have h1:=B5.1 hd'.1
 have e1:wrI d s b=ins (cut d.1 s) (s,b):=by unfold wrI;rw[Ny h1.1]
 refine⟨by rw[e1];exact Kda _ h1.1,?_⟩;unfold C9;rw[hd'.2,Cyb,e1]
 by_cases hb:b.length≤400
 ·rw[decide_eq_true hb,Wf];exact Uoa (Sf hd'.1) Uz (Nx.2 ⟨hs,hb⟩)
 ·rw[decide_eq_false hb,Zc]
  cases hc:H6 (ins (cut d.1 s) (s,b)) with
  |false=>rfl
  |true=>exact absurd (Nx.1 ((B5.1 hc).2.1 (s,b) (Rs.2 (.inl rfl)))).2 hb

def TS (l:List ByteArray):Prop:=l.Pairwise (λ a b=>tlt a b=true)
def pk (l:List Nmd) (s:ByteArray):Option Nmd:=match fnd l s with
 |some i=>some (l.getD i Hg)
 |none=>none
def Le:ByteArray:=⟨#[]⟩
def tpl (l:List ByteArray) (s:ByteArray):Nat:=(l.takeWhile (λ y=>tlt y s)).length
def wt (l:List ByteArray) (s:ByteArray):List ByteArray:=if tpl l s<l.length∧teq (l.getD (tpl l s) Le) s=true then l else l.take (tpl l s)++[s]++l.drop (tpl l s)
def Upa (l:List ByteArray) (s:ByteArray):tpl l s≤l.length:=(Fhb _).length_le
def Ss (l:List ByteArray) (s:ByteArray) (hf:l.length≤1000000000000):∀ (n i:Nat),l.length-i=n→i≤l.length→
  Tot (λ k=>Dn k l s (i:Int)) (λ r=>r=(l,s,((i+tpl (l.drop i) s:Nat):Int))):=by
 intro n
 induction n with
 |zero=>
  intro i hd hi;refine Tot.succ ?_;simp only[Dn];refine Ckb (by omega) (Cfb ?_);rw[Yr (by omega)];rfl
 |succ n ih=>
  intro i hd hi
  have hlt:i<l.length:=by omega
  refine Tot.succ ?_;simp only[Dn];refine Cjb (by omega) (Cjb (by omega) (Cjb (by omega) ?_));rw[show toNat (i:Int)=i from Vj i,w64 (n:=(i:Int)+1) (by omega) (by omega),C8 (d:=Le) hlt];have e0:l.getD i (⟨#[]⟩:ByteArray)=l.getD i Le:=rfl;rw[e0]
  have e1:tpl (l.getD i Le::l.drop (i+1)) s=if tlt (l.getD i Le) s then tpl (l.drop (i+1)) s+1 else 0:=by
   unfold tpl;rw[Zo]
   split<;>rfl
  rw[e1];refine Clb (λ h=>?_) (λ h=>?_)
  ·have h':tlt (l.getD i Le) s=true:=h;rw[if_pos h'];refine(ih (i+1) (by omega) (by omega)).mono ?_;rintro r rfl;rw[show i+1+tpl (l.drop (i+1)) s=i+(tpl (l.drop (i+1)) s+1) by omega]
  ·have h':¬ (tlt (l.getD i Le) s=true):=by
    have:tlt (l.getD i Le) s=false:=h;rw[this];simp
   rw[if_neg h'];exact Cfb rfl
def Mu (l:List ByteArray) (s:ByteArray) (hf:l.length≤1000000000):Tot (λ k=>C1 k l s) (λ r=>r=wt l s):=by
 unfold C1;refine Cgb (Ss l s (by omega) _ 0 rfl (Nat.zero_le _)) ?_;intro r hr;rw[List.drop_zero,Nat.zero_add]at hr;subst hr;have hj:=Upa l s;generalize hjj:tpl l s=j at *;dsimp only
 have hno:¬ (j<l.length∧teq (l.getD j Le) s=true)→Tot (λ k=>cond (decide ((0:Int)≤(j:Int))) (cond (decide ((j:Int)≤(length l:Int))) (cond (Nat.ble ((length ([]:List ByteArray)+length (List.take (toNat (j:Int)) l))*16) 140737488355328) (let v3:List ByteArray:=([]:List ByteArray)++(List.take (toNat (j:Int)) l);cond (Nat.ble ((length v3+length [s])*16) 140737488355328) (cond (decide ((0:Int)≤(j:Int))) (cond (decide ((j:Int)≤(length l:Int))) (cond (Nat.ble ((length (v3++[s])+length (List.drop (toNat (j:Int)) l))*16) 140737488355328) (some ((v3++[s])++(List.drop (toNat (j:Int)) l))) none) none) none) none) none) none) none)
   (λ r=>r=wt l s):=by
  intro hn;refine Cjb (by omega) (Cjb (by omega) ?_);rw[show toNat (j:Int)=j from Vj j];refine Cnb (by simp only[Vs,Vq];omega) ?_;refine Cnb (by simp only[Vi,Vs,Vq,Vh];omega) ?_;refine Cjb (by omega) (Cjb (by omega) (Cnb (by simp only[Vi,Vs,Vq,We,Vh];omega) (Cfb ?_)));unfold wt;rw[hjj,if_neg hn,Wn]
 refine Cmb (λ h=>?_) (λ h=>hno (λ hh=>h (by omega)));refine Cjb (by omega) (Cjb h ?_);rw[show toNat (j:Int)=j from Vj j]at *;refine Clb (λ he=>Cfb ?_) (λ he=>hno (λ hh=>?_))
 ·unfold wt;rw[hjj,if_pos ⟨by omega,he⟩]
 ·have h2:teq (l.getD j Le) s=false:=he;rw[h2]at hh;cases hh.2
def Oca {l:List ByteArray} {s y:ByteArray}:y∈wt l s↔y=s∨y∈l:=by
 unfold wt
 by_cases h:tpl l s<l.length∧teq (l.getD (tpl l s) Le) s=true
 ·rw[if_pos h];refine⟨.inr,λ h'=>?_⟩;rcases h' with rfl|h'
  ·have:=A3 (d:=Le) h.1;rwa [Cn.1 h.2]at this
  ·exact h'
 ·rw[if_neg h];have e:l.take (tpl l s)++l.drop (tpl l s)=l:=Wi _ _;constructor
  ·intro h';rw[Vo]at h';rcases Vm.1 h' with h'|h'
   ·right;rw[← e];exact Vy _ h'
   ·rcases Vm.1 h' with h'|h'
    ·left;simpa using h'
    ·right;rw[← e];exact Vn _ h'
  ·rintro (rfl|h')
   ·simp
   ·rw[← e]at h'
    rcases Vm.1 h' with h'|h'<;>simp[h']
def I9a (p:ByteArray→Bool):∀ l:List ByteArray,l.take (l.takeWhile p).length=l.takeWhile p∧l.drop (l.takeWhile p).length=l.dropWhile p
 |[]=>⟨rfl,rfl⟩
 |y::l=>by
  obtain⟨h1,h2⟩:=I9a p l;simp only[Zo,E4b]
  cases p y with
  |true=>simp[h1,h2]
  |false=>simp
def Xx {p:ByteArray→Bool}:∀ {l:List ByteArray} {y:ByteArray},y∈l.takeWhile p→p y=true
 |[],y,h=>by simp at h
 |z::l,y,h=>by
  simp only[Zo]at h;cases hz:p z
  ·rw[hz]at h;simp at h
  rw[hz]at h;simp only[if_true]at h;rcases Vk.1 h with rfl|h
  ·exact hz
  ·exact Xx h
def V0 {s:ByteArray}:∀ {l:List ByteArray},TS l→(∀ y r,l.dropWhile (λ y=>tlt y s)=y::r→y≠s)→∀ z∈l.dropWhile (λ y=>tlt y s),tlt s z=true
 |[],_,_,z,hz=>by simp at hz
 |y::l,hs,hn,z,hz=>by
  obtain⟨h1,h2⟩:=Wa.1 hs;simp only[E4b]at hz hn
  cases hy:tlt y s with
  |true=>
   rw[hy]at hz hn;simp only[if_true]at hz hn;exact V0 h2 hn z hz
  |false=>
   rw[hy]at hz hn;simp only[Wq,if_false]at hz hn
   have hxy:tlt s y=true:=by
    cases hh:tlt s y with
    |true=>rfl
    |false=>exact absurd (Um hy hh) (hn y l rfl)
   rcases Vk.1 hz with rfl|hz
   ·exact hxy
   ·exact Iy hxy (h1 z hz)
def Daa {l:List ByteArray} {s:ByteArray} (hs:TS l):TS (wt l s):=by
 unfold wt
 by_cases h:tpl l s<l.length∧teq (l.getD (tpl l s) Le) s=true
 ·rw[if_pos h];exact hs
 ·rw[if_neg h];obtain⟨e1,e2⟩:=I9a (λ y=>tlt y s) l
  have hd:∀ y r,l.dropWhile (λ y=>tlt y s)=y::r→y≠s:=by
   intro y r hr hy;rw[← e2]at hr
   have hlt:tpl l s<l.length:=by
    rcases Dob (tpl l s) l.length with h'|h'
    ·exact h'
    ·have:l.drop (tpl l s)=[]:=Yr h';unfold tpl at this;rw[this]at hr;cases hr
   have:l.drop (tpl l s)=l.getD (tpl l s) Le::l.drop (tpl l s+1):=C8 hlt;unfold tpl at this;rw[this]at hr;simp only[Yh]at hr;exact h ⟨hlt,Cn.2 (hr.1.trans hy)⟩
  have e1':l.take (tpl l s)=l.takeWhile (λ y=>tlt y s):=e1;have e2':l.drop (tpl l s)=l.dropWhile (λ y=>tlt y s):=e2;rw[e1',e2',Vo]
  have hs':TS (l.takeWhile (λ y=>tlt y s)++l.dropWhile (λ y=>tlt y s)):=by rw[Dgb];exact hs
  obtain⟨h1,h2,h3⟩:=Zg.1 hs';refine Zg.2 ⟨h1,Wa.2 ⟨λ z hz=>V0 hs hd z hz,h2⟩,λ a ha b hb=>?_⟩;rcases Vk.1 hb with rfl|hb
  ·exact Xx (p:=λ y=>tlt y b) ha
  ·exact h3 a ha b hb

def Iaa {l:List ByteArray} {s:ByteArray}:(wt l s).length≤l.length+1:=by
 unfold wt;have:=Upa l s;split
 ·omega
 ·simp only[Vi,Vq,We,Vh,Vs];omega

section
variable {α σ R:Type} {a b:α} {p:Prop} [Decidable p]
def dT (h:p):cond (decide p) a b=a:=by rw[decide_eq_true h];rfl
def dF (h:¬ p):cond (decide p) a b=b:=by rw[decide_eq_false h];rfl
def bT {m n:Nat} (h:m≤n):cond (Nat.ble m n) a b=a:=by rw[Zn h];rfl
def Cob {L:Nat→Int→σ→Option R} {Q:R→Prop} (n:Nat) (I:Nat→σ→Prop) (hend:∀ s,I n s→Tot (λ k=>L (k+1) (n:Int) s) Q)
  (Dwa:∀ i s,i<n→I i s→(∀ s',I (i+1) s'→Tot (λ k=>L k ((i:Int)+1) s') Q)→Tot (λ k=>L (k+1) (i:Int) s) Q):
  ∀ (i:Nat) (s:σ),i≤n→I i s→Tot (λ k=>L k (i:Int) s) Q:=by
 suffices h:∀ (m i:Nat) (s:σ),n-i=m→i≤n→I i s→Tot (λ k=>L k (i:Int) s) Q from λ i s hi hs=>h _ i s rfl hi hs
 intro m
 induction m with
 |zero=>
  intro i s hm hi hs
  obtain rfl:i=n:=by omega
  exact Tot.succ (hend s hs)
 |succ m ih=>
  intro i s hm hi hs;refine Tot.succ (Dwa i s (by omega) hs λ s' hs'=>?_);have:=ih (i+1) s' (by omega) (by omega) hs';rwa [show (((i+1:Nat)):Int)=(i:Int)+1 by omega]at this
end
def cst (x:BitVec 32):BitVec 32:=if x.getLsbD 0 then (x >>> 1) ^^^ 2197175160#32 else x >>> 1
def Fxa:Nat→BitVec 32→BitVec 32
 |0,x=>x
 |n+1,x=>Fxa n (cst x)
def cby (x:BitVec 32) (b:Int):BitVec 32:=Fxa 8 (x ^^^ ofInt 32 b)
def Yna (l:List Int):BitVec 32 := ~~~ (l.foldl cby 4294967295#32)
def crc (l:List Int):Int:=((Yna l).toNat:Int)
def Ccb (v:BitVec 32):v.getLsbD 0=decide (v.toNat % 2=1):=by
 rw[BitVec.getLsbD,Nat.testBit_zero]
def Fya (v:BitVec 32):ofInt (IntKind.bits .u32) (v.toNat:Int)=v:=by
 show ofInt 32 (v.toNat:Int)=v;rw[BitVec.ofInt_natCast,BitVec.ofNat_toNat,BitVec.setWidth_eq]
def Blb (v:BitVec 32):wrap .u32 (v.toNat:Int)=(v.toNat:Int):=Fbb _ ⟨by omega,by have:=v.isLt;omega⟩
def sh1 (v:BitVec 32):Int.fdiv (v.toNat:Int) 2=((v >>> 1).toNat:Int):=by
 rw[D4b _ (by omega),BitVec.toNat_ushiftRight,Nat.shiftRight_eq_div_pow];omega
def Bmb (v:BitVec 32):((wrap .u32 ((ofInt (IntKind.bits .u32) (v.toNat:Int) &&& ofInt (IntKind.bits .u32) 1).toNat))==1)=v.getLsbD 0:=by
 show (wrap .u32 (((ofInt 32 (v.toNat:Int) &&& ofInt 32 1).toNat:Nat):Int)==1)=_;rw[show ofInt 32 (v.toNat:Int)=v from Fya v,Blb,Ccb,BitVec.toNat_and,show (ofInt 32 1).toNat=1 from by decide,Nat.and_one_is_mod,Dhb,beq_iff_eq,decide_eq_true_iff];omega
def Bnb (v w:BitVec 32) (x:Int) (h:ofInt 32 x=w):wrap .u32 ((ofInt (IntKind.bits .u32) (v.toNat:Int) ^^^ ofInt (IntKind.bits .u32) x).toNat)=((v ^^^ w).toNat:Int):=by
 show wrap .u32 (((ofInt 32 (v.toNat:Int) ^^^ ofInt 32 x).toNat:Nat):Int)=_;rw[show ofInt 32 (v.toNat:Int)=v from Fya v,h];exact Blb _
def Cdb (K:IntKind) (h:1≤IntKind.bits K):(2:Int) ^ (min (toNat 1) (IntKind.bits K))=2:=by
 rw[show toNat 1=1 from rfl,D0b h];rfl
def Kfa (l:List Int) (x8 x9:Int):∀ (n:Nat) (v:BitVec 32) (i:Int),0≤i→8-i=n→Tot (λ k=>Gv k (v.toNat:Int) l x8 x9 i) (λ r=>r=(((Fxa n v).toNat:Int),l,x8,x9)):=by
 intro n
 induction n with
 |zero=>
  intro v i h0 hn;refine Tot.succ ?_;simp only[Gv];exact Ckb (by omega) (Cfb rfl)
 |succ n ih=>
  intro v i h0 hn;refine Tot.succ ?_;simp only[Gv];refine Cjb (by omega) ?_;rw[w64 (n:=i+1) (by omega) (by omega),Bmb,Cdb _ (by decide),sh1,Bnb _ 2197175160#32 _ (by decide)];have e:Fxa (n+1) v=Fxa n (cst v):=rfl;rw[e];refine Clb (λ h=>?_) (λ h=>?_)
  ·have:=ih (v >>> 1 ^^^ 2197175160#32) (i+1) (by omega) (by omega);rwa [show v >>> 1 ^^^ 2197175160#32=cst v by unfold cst;rw[if_pos h]]at this ⊢
  ·have:=ih (v >>> 1) (i+1) (by omega) (by omega);rwa [show v >>> 1=cst v by unfold cst;rw[if_neg (by rw[h];simp)]]at this ⊢
def Uqa {b:Int} (h:0≤b∧b≤255):b=((ofInt 32 b).toNat:Int):=by
 rw[F2b];omega
def X6a (l:List Int) (hb:Ax l) (hl:l.length≤1000000000000):Tot (λ k=>Ii k l) (λ r=>r=crc l):=by
 unfold Ii;refine Cgb (Q:=λ r=>r=(((l.foldl cby 4294967295#32).toNat:Nat):Int)) ?_ ?_
 ·have:=Cob (L:=λ k i s=>H1 k s l (l.length:Int) i) (Q:=λ r=>r=(((l.foldl cby 4294967295#32).toNat:Nat):Int)) l.length (λ i s=>∃ v:BitVec 32,s=(v.toNat:Int)∧(l.drop i).foldl cby v=l.foldl cby 4294967295#32) ?_ ?_ 0 4294967295 (Vu _) ⟨4294967295#32,by decide,by rw[Yu]⟩
  ·exact this
  ·rintro s ⟨v,rfl,hv⟩;simp only[H1];rw[Ye]at hv;exact Ckb (by omega) (Cfb (by rw[← hv];rfl))
  ·rintro i s hi ⟨v,rfl,hv⟩ next;simp only[H1];have hx:=hb _ (A3 (d:=0) hi);refine Cjb (by omega) (Cjb (by omega) (Cjb (by omega) ?_));rw[Vj,Fbb _ ⟨hx.1,by omega⟩,Bnb v _ _ rfl];refine Cqb (Kfa l _ _ 8 _ 0 (by decide) (by decide)) ?_;simp only;rw[w64 (n:=(i:Int)+1) (by omega) (by omega)];refine next _ ⟨_,rfl,?_⟩;rw[C8 (d:=0) hi,Za]at hv;exact hv
 ·rintro r rfl;refine Cfb ?_;unfold crc Yna
  have hm:ofInt 32 (if IntKind.signed .u32 then -1 else IntKind.max .u32)=BitVec.allOnes 32:=by decide
  have e:BitVec.allOnes 32 ^^^ l.foldl cby 4294967295#32 = ~~~ (l.foldl cby 4294967295#32):=by rw[Fkb];exact BitVec.xor_allOnes
  show wrap .i64 (wrap .u32 (((ofInt 32 (if IntKind.signed .u32 then -1 else IntKind.max .u32) ^^^ ofInt 32 ((l.foldl cby 4294967295#32).toNat:Int)).toNat:Nat):Int))=_;rw[show ofInt 32 ((l.foldl cby 4294967295#32).toNat:Int)=l.foldl cby 4294967295#32 from Fya _,hm,e];have:=(~~~ (l.foldl cby 4294967295#32)).isLt;rw[Blb,w64 (by omega) (by omega)]

end Go.Proofs.YtcpligincipmhaaGreat.Vf
