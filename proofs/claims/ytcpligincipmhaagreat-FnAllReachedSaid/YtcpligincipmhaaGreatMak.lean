import Derived.Test.YtcpligincipmhaaGreatMaj
set_option linter.all false
namespace Go.Proofs.YtcpligincipmhaaGreat.Vf
open Go
open List (length getD)
open Int (toNat)
open Go.IntKind (wrap)
open BitVec (ofInt)
def Wg:=@Bool.true_and
def Wm:=@List.drop_length
def Xs:=@Bool.and_false
def Ye:=@Bool.not_eq_false'
def Yh:=@List.mem_iff_getElem
def Yt:=@Bool.not_true
def Zb:=@Bool.false_and
def Zn:=@List.takeWhile_cons
def Zu:=@Bool.not_false
def C7b:=@List.filter_cons
def Cib:=@Int.fdiv_eq_ediv_of_nonneg
def Cnb:=@Nat.pow_succ
def Cub:=@List.find?_cons
def Cvb:=@List.mem_filter
def Cwb:=@List.takeWhile_append_dropWhile
def Cxb:=@Bool.eq_iff_iff
def Dcb:=@Option.bind_none
def Dfb:=@List.filter_sublist
def Dgb:=@List.dropWhile_cons
def Dlb:=@IntKind.wrap_u8
def Dmb:=@List.findIdx?_eq_some_iff_getElem
def Dnb:=@Bool.false_or
def Dzb:=@List.not_mem_nil
def Ecb:=@Int.tdiv_eq_ediv_of_nonneg
def Ekb:=@List.mem_of_find?_eq_some
def Enb:=@Go.IntWalk.u32_in
def Etb:=@List.takeWhile_sublist
def Exb:=@BitVec.xor_comm
def F5b:=@Bool.true_or

def inR (n lo hi:Int):Bool:=decide (n≥lo)&&decide (n≤hi)
def Nt (n lo hi:Int):C3 n lo hi=some (inR n lo hi):=by
 unfold C3 inR
 cases decide (n≥lo)<;>rfl
def Hca (n lo hi:Int):El n lo hi=some (inR n lo hi):=by
 unfold El inR
 cases decide (n≥lo)<;>rfl
def Fx {n lo hi:Int}:inR n lo hi=true↔lo≤n∧n≤hi:=by
 unfold inR;simp
def Cja (c:Int):Bool:=inR c 97 122||(inR c 48 57||(!(c != 45)||(!(c != 95)||!(c != 47))))
def Lz (s:ByteArray):Prop:=s.size≤4611686018427387904
def Pb (s:ByteArray):s.data.toList.length=s.size:=Zd
def N6a (s:ByteArray) (i:Int):0≤bt s i∧bt s i≤255:=by
 unfold bt;have:=(s.data.toList.getD i.toNat 0).toNat_lt;omega
def Atb (s:ByteArray) (i:Nat) (h:i<s.size):bt s (i:Int)=((s.data.toList[i]'(by rw[Pb];exact h)).toNat:Int):=by
 unfold bt;rw[Vj,Vb,Ve (by rw[Pb];exact h)];rfl
def bOk (b:UInt8):Bool:=Cja (b.toNat:Int)
def F2a (s:ByteArray) (hs:Lz s):∀ (n i:Nat),s.size-i=n→i≤s.size→
  Tot (λ k=>Aj k s (i:Int)) (λ r=>r=bif (s.data.toList.drop i).all bOk then .inr s else .inl false):=by
 unfold Lz at hs;have hsz:=Pb s;intro n
 induction n with
 |zero=>
  intro i hn hi;refine Tot.succ ?_;simp only[Aj];refine Bwb (by omega) (Brb ?_);rw[Za (by omega)];rfl
 |succ n ih=>
  intro i hn hi
  have hlt:i<s.size:=by omega
  refine Tot.succ ?_;simp only[Aj];refine Bvb (by omega) (Bvb (by omega) (Bvb (by omega) ?_));rw[w64 (n:=(i:Int)+1) (by omega) (by omega)]
  have hb:bOk (s.data.toList[i]'(by omega))=Cja (bt s (i:Int)):=by rw[Atb s i hlt];rfl
  rw[Zi (by omega),D7b,hb];generalize bt s (i:Int)=c;have h1:=ih (i+1) (by omega) (by omega)
  have e:(((i+1:Nat)):Int)=(i:Int)+1:=by omega
  rw[e]at h1
  cases hc:Cja c with
  |true=>
   rw[Wg];refine h1.mono (λ r hr=>hr) |> λ h=>?_;obtain⟨r,K,h2,h3⟩:=h;refine⟨r,K,λ k hk=>?_,h3⟩;rw[← h2 k hk];unfold Cja inR at hc
   revert hc
   cases decide (c≥97)<;>cases decide (c≤122)<;>cases decide (c≥48)<;>cases decide (c≤57)<;>cases (c != 45)<;>cases (c != 95)<;>cases (c != 47)<;>first|(intro _;rfl)|(intro hc;cases hc)
  |false=>
   rw[Zb];refine⟨.inl false,0,λ k _=>?_,rfl⟩;unfold Cja inR at hc
   revert hc
   cases decide (c≥97)<;>cases decide (c≤122)<;>cases decide (c≥48)<;>cases decide (c≤57)<;>cases (c != 45)<;>cases (c != 95)<;>cases (c != 47)<;>first|(intro _;rfl)|(intro hc;cases hc)
def B0 (s:ByteArray):Bool:=s.data.toList.all bOk&&inR (s.size:Int) 1 20
def Ke (s:ByteArray) (hs:Lz s):Tot (λ k=>Ad k s) (λ r=>r=B0 s):=by
 unfold Ad B0;refine C3b (F2a s hs _ 0 rfl (Vv _)) ?_;rw[Zf]
 cases s.data.toList.all bOk with
 |true=>exact C4b (a:=inR (s.size:Int) 1 20) (by simp only[cond_true,Dwb,Nt,Vu]) (by rw[Wg])
 |false=>exact Brb rfl
def Gj (s:Stp):Bool:=inR s.1 0 1000000000&&(inR s.2.1 0 1000000&&inR s.2.2 0 20)
def Qc (s:Stp):Br s=some (Gj s):=by
 unfold Br Gj;simp only[Nt,Vu]
 cases inR s.1 0 1000000000<;>cases inR s.2.1 0 1000000<;>rfl
def Lj (x:Row):Bool:=B0 x.1&&(Gj x.2.1&&(inR x.2.2.2 0 200&&(!x.2.2.1||x.2.2.2==0)))
def N7a (x:Row) (hs:Lz x.1):Tot (λ k=>Gg k x) (λ r=>r=Lj x):=by
 unfold Gg Lj;refine C3b (Ke x.1 hs) ?_;cases B0 x.1
 ·exact Brb rfl
 refine C4b (a:=Gj x.2.1&&(inR x.2.2.2 0 200&&(!x.2.2.1||x.2.2.2==0))) ?_ (by rw[Wg]);simp only[cond_true,Qc,Nt,Vu]
 cases Gj x.2.1<;>cases inR x.2.2.2 0 200<;>cases x.2.2.1<;>rfl
def chk:Option ByteArray→List Row→Bool
 |_,[]=>true
 |none,r::l=>Lj r&&chk (some r.1) l
 |some q,r::l=>Lj r&&(tlt q r.1&&chk (some r.1) l)
def Ho (l:List Row):Bool:=chk none l&&decide ((l.length:Int)≤60)
def A9a (l:List Row):Prop:=∀ r∈l,Lz r.1
def Cka (l:List Row):Nat→Option ByteArray
 |0=>none
 |i+1=>some (l.getD i Jt).1
def Rea (l:List Row) (i:Nat) (h:i<l.length):chk (Cka l i) (l.drop i)=(Lj (l.getD i Jt)&&(bif decide (0<i) then tlt (l.getD (i-1) Jt).1 (l.getD i Jt).1 else true)&&chk (Cka l (i+1)) (l.drop (i+1))):=by
 rw[Bo (d:=Jt) h]
 cases i with
 |zero=>simp[Cka,chk]
 |succ i=>simp[Cka,chk,F2b]
def A3 {α:Type} {l:List α} {i:Nat} {d:α} (h1:i<l.length):l.getD i d∈l:=by
 rw[Vb,Ve h1];exact Dyb h1
def F3a (l:List Row) (hf:Few l) (hs:A9a l):∀ (n i:Nat),l.length-i=n→i≤l.length→
  Tot (λ k=>E8 k l l (l.length:Int) (i:Int)) (λ r=>r=bif chk (Cka l i) (l.drop i) then .inr l else .inl false):=by
 unfold Few at hf;intro n
 induction n with
 |zero=>
  intro i hn hi;refine Tot.succ ?_;simp only[E8];refine Bwb (by omega) (Brb ?_);rw[Za (by omega)]
  cases Cka l i<;>rfl
 |succ n ih=>
  intro i hn hi
  have hlt:i<l.length:=by omega
  refine Tot.succ ?_;simp only[E8];refine Bvb (by omega) (Bvb (by omega) (Bvb (by omega) ?_));rw[show toNat (i:Int)=i from Vj i,w64 (n:=(i:Int)+1) (by omega) (by omega),Rea l i hlt];have h1:=ih (i+1) (by omega) (by omega)
  have e:(((i+1:Nat)):Int)=(i:Int)+1:=by omega
  rw[e]at h1;refine C3b (N7a (l.getD i Jt) (hs _ (A3 hlt))) ?_;cases hb:Lj (l.getD i Jt)
  ·exact Bub rfl (Brb (by simp))
  refine Btb rfl ?_;rw[Wg];refine Byb (λ h0=>?_) (λ h0=>?_)
  ·rw[w64 (n:=(i:Int)-1) (by omega) (by omega)];refine Bvb (by omega) (Bvb (by omega) ?_);rw[show toNat ((i:Int)-1)=i-1 by omega,decide_eq_true (show 0<i by omega),cond_true];have et:(!(Op.bytesLess (l.getD (i-1) Jt).1.toList (l.getD i Jt).1.toList)) = !(tlt (l.getD (i-1) Jt).1 (l.getD i Jt).1):=rfl;refine Bxb (λ ht=>?_) (λ ht=>?_)
   ·have ht':(!(tlt (l.getD (i-1) Jt).1 (l.getD i Jt).1))=true:=ht;rw[Vz]at ht';exact Brb (by rw[ht'];rfl)
   ·have ht':(!(tlt (l.getD (i-1) Jt).1 (l.getD i Jt).1))=false:=ht;rw[Ye]at ht';rw[ht',Wg];exact h1
  ·rw[decide_eq_false (show ¬ 0<i by omega),cond_false,Wg];exact h1
def Hda (l:List Row) (hf:Few l) (hs:A9a l):Tot (λ k=>Da k l) (λ r=>r=Ho l):=by
 unfold Da Ho;refine C3b (F3a l hf hs _ 0 rfl (Vv _)) ?_;rw[Zf];show Tot _ (λ r=>r=(chk none l&&_))
 cases hc:chk none l with
 |true=>rw[show chk (Cka l 0) l=true from hc];exact Brb (by rw[Wg])
 |false=>rw[show chk (Cka l 0) l=false from hc];exact Brb rfl
def F4a:∀ (p:Option ByteArray) (l:List Row),chk p l=true↔Ay l∧(∀ r∈l,Lj r=true)∧(∀ q,p=some q→∀ r∈l,tlt q r.1=true)
 |p,[]=>by
  have:chk p []=true:=by cases p<;>rfl
  simp[this,Ay]
 |none,r::l=>by
  simp only[chk,Va,F4a (some r.1) l,Ay,Wa];constructor
  ·rintro⟨h1,h2,h3,h4⟩;exact⟨⟨λ a ha=>h4 _ rfl a ha,h2⟩,λ a ha=>by rcases Vl.1 ha with rfl|ha;exact h1;exact h3 a ha,λ q hq=>by cases hq⟩
  ·rintro⟨⟨h1,h2⟩,h3,_⟩;exact⟨h3 r (by simp),h2,λ a ha=>h3 a (Vd _ ha),λ q hq a ha=>by cases hq;exact h1 a ha⟩
 |some q,r::l=>by
  simp only[chk,Va,F4a (some r.1) l,Ay,Wa];constructor
  ·rintro⟨h1,h0,h2,h3,h4⟩;refine⟨⟨λ a ha=>h4 _ rfl a ha,h2⟩,λ a ha=>by rcases Vl.1 ha with rfl|ha;exact h1;exact h3 a ha,λ q' hq a ha=>?_⟩;cases hq;rcases Vl.1 ha with rfl|ha
   ·exact h0
   ·exact Iz h0 (h4 _ rfl a ha)
  ·rintro⟨⟨h1,h2⟩,h3,h4⟩;exact⟨h3 r (by simp),h4 q rfl r (by simp),h2,λ a ha=>h3 a (Vd _ ha),λ q' hq a ha=>by cases hq;exact h1 a ha⟩
def I5 {l:List Row}:Ho l=true↔Ay l∧(∀ r∈l,Lj r=true)∧l.length≤60:=by
 unfold Ho;simp only[Va,F4a,decide_eq_true_eq];constructor
 ·rintro⟨⟨h1,h2,_⟩,h3⟩;exact⟨h1,h2,by omega⟩
 ·rintro⟨h1,h2,h3⟩;exact⟨⟨h1,h2,λ q hq=>by cases hq⟩,by omega⟩
def Ky (a b:List Row):List Row:=b.foldl mrg a
def Aaa {a b:List Row} {r:Row} (h:r∈Ky a b):r∈a∨r∈b:=by
 induction b generalizing a with
 |nil=>exact .inl h
 |cons x b ih=>
  rcases ih (a:=mrg a x) h with h|h
  ·rcases N5a h with rfl|h
   ·exact .inr (by simp)
   ·exact .inl h
  ·exact .inr (Vd _ h)
def J3 {a b:List Row} (h:Ay a):Ay (Ky a b):=by
 induction b generalizing a with
 |nil=>exact h
 |cons x b ih=>exact ih (Oi h)
def Aba (b:List Row) (hb:Few b):∀ (n i:Nat) (a:List Row),b.length-i=n→i≤b.length→a.length+(b.length-i)≤1000000000000→
  Tot (λ k=>Cu k a b (b.length:Int) (i:Int)) (λ r=>r=Ky a (b.drop i)):=by
 unfold Few at hb;intro n
 induction n with
 |zero=>
  intro i a hn hi hf;refine Tot.succ ?_;simp only[Cu];refine Bwb (by omega) (Brb ?_);rw[Za (by omega)];rfl
 |succ n ih=>
  intro i a hn hi hf
  have hlt:i<b.length:=by omega
  refine Tot.succ ?_;simp only[Cu];refine Bvb (by omega) (Bvb (by omega) (Bvb (by omega) ?_));rw[show toNat (i:Int)=i from Vj i,w64 (n:=(i:Int)+1) (by omega) (by omega),Bo (d:=Jt) hlt];refine C3b (N4a a (b.getD i Jt) (by unfold Few;omega)) ?_;have:=W9a a (b.getD i Jt);exact ih (i+1) (mrg a (b.getD i Jt)) (by omega) (by omega) (by omega)
def X8 (a b:List Row) (hf:a.length+b.length≤1000000000000):Tot (λ k=>Bb k a b) (λ r=>r=Ky a b):=by
 unfold Bb;refine Bsb (C4b (Q:=λ r=>r=a) (Qb a (by unfold Few;omega)) rfl) ?_;rintro r rfl;refine Bsb (Aba b (by unfold Few;omega) _ 0 r rfl (Vv _) (by omega)) ?_;rintro y rfl;rw[Zf];exact Brb rfl
def Fs (l:List Row) (s:ByteArray):Option Row:=l.find? (λ r=>teq r.1 s)
def mx (a b:Row):Row:=bif I6 a b then b else a
def Qd (a b:Row):I6 a b=true↔a.2.1.1<b.2.1.1∨(a.2.1.1=b.2.1.1∧(a.2.1.2.1<b.2.1.2.1∨(a.2.1.2.1=b.2.1.2.1∧(a.2.1.2.2<b.2.1.2.2∨(a.2.1.2.2=b.2.1.2.2∧((a.2.2.1=false∧b.2.2.1=true)∨(a.2.2.1=b.2.2.1∧a.2.2.2<b.2.2.2))))))):=by
 unfold I6
 cases hs:(!((a.2.1.1==b.2.1.1)&&((a.2.1.2.1==b.2.1.2.1)&&(a.2.1.2.2==b.2.1.2.2)))) with
 |true=>
  rw[cond_true,Ks]
  have hne:¬ (a.2.1.1=b.2.1.1∧a.2.1.2.1=b.2.1.2.1∧a.2.1.2.2=b.2.1.2.2):=by
   intro ⟨h1,h2,h3⟩;rw[h1,h2,h3]at hs;simp at hs
  omega
 |false=>
  rw[cond_false];simp only[Ye,Va,beq_iff_eq]at hs;obtain⟨h1,h2,h3⟩:=hs
  cases ha:a.2.2.1<;>cases hb:b.2.2.1<;>simp[h1,h2,h3]
def Pc {a b:Row} (h:I6 a b=true):I6 b a=false:=by
 cases hb:I6 b a
 ·rfl
 rw[Qd]at h hb
 cases ha:a.2.2.1<;>cases hb':b.2.2.1<;>simp only[ha,hb']at h hb<;>simp at h hb<;>omega
def N8a {a b:Row} (hn:a.1=b.1) (h:I6 a b=false) (h':I6 b a=false):a=b:=by
 have h1:¬ I6 a b=true:=by rw[h];decide
 have h2:¬ I6 b a=true:=by rw[h'];decide
 rw[Qd]at h1 h2;obtain⟨n,⟨t,s,d⟩,e,z⟩:=a;obtain⟨n',⟨t',s',d'⟩,e',z'⟩:=b;simp only at hn h1 h2;subst hn
 have hd:e=e'∧t=t'∧s=s'∧d=d'∧z=z':=by
  cases e<;>cases e'<;>simp at h1 h2 ⊢ <;> omega
 obtain⟨rfl,rfl,rfl,rfl,rfl⟩:=hd;rfl
def Waa (a b:Row):mx (mx a b) b=mx a b:=by
 unfold mx
 cases h:I6 a b with
 |true=>
  have:I6 b b=false:=by
   cases hb:I6 b b with
   |false=>rfl
   |true=>have:=Pc hb;rw[hb]at this;cases this
  rw[cond_true,this];rfl
 |false=>rw[cond_false,h];rfl
def Hp {l:List Row} {s:ByteArray} {r:Row} (h:Fs l s=some r):r∈l∧r.1=s:=by
 unfold Fs at h;exact⟨Ekb h,C6.1 (List.find?_some (p:=λ r:Row=>teq r.1 s) h)⟩
def Hq {l:List Row} (hs:Ay l) {r:Row} (h:r∈l):Fs l r.1=some r:=by
 induction l with
 |nil=>simp at h
 |cons a l ih=>
  unfold Ay at hs;rw[Wa]at hs;unfold Fs;rw[Cub];rcases Vl.1 h with rfl|h
  ·rw[C6.2 rfl]
  ·have:teq a.1 r.1=false:=by
    cases ht:teq a.1 r.1
    ·rfl
    have h1:=hs.1 r h;rw[C6.1 ht,Eg]at h1;cases h1
   rw[this];exact ih hs.2 h
def Qe:∀ {l m:List Row},Ay l→Ay m→(∀ s,Fs l s=Fs m s)→l=m
 |[],[],_,_,_=>rfl
 |[],b::m,_,hm,h=>by
  have:=Hq hm (r:=b) (by simp);rw[← h]at this;simp[Fs]at this
 |a::l,[],hl,_,h=>by
  have:=Hq hl (r:=a) (by simp);rw[h]at this;simp[Fs]at this
 |a::l,b::m,hl,hm,h=>by
  have hl':=hl;have hm':=hm;unfold Ay at hl hm;rw[Wa]at hl hm;have ha:=Hq hl' (r:=a) (by simp);have hb:=Hq hm' (r:=b) (by simp);have ea:a∈b::m:=(Hp (by rw[← h];exact ha)).1;have eb:b∈a::l:=(Hp (by rw[h];exact hb)).1
  have hab:a=b:=by
   rcases Vl.1 ea with rfl|ea
   ·rfl
   ·rcases Vl.1 eb with rfl|eb
    ·rfl
    ·have h1:=hm.1 a ea;have h2:=hl.1 b eb;rw[Qa h1]at h2;cases h2
  subst hab;rw[Qe (l:=l) (m:=m) hl.2 hm.2 (λ s=>?_)];have hs:=h s;unfold Fs at hs ⊢;rw[Cub,Cub]at hs;cases ht:teq a.1 s
  ·rw[ht]at hs;exact hs
  have none:∀ (k:List Row),(∀ r∈k,tlt a.1 r.1=true)→k.find? (λ r=>teq r.1 s)=none:=by
   intro k hk;rw[List.find?_eq_none];intro r hr;rw[C6];intro e;have:=hk r hr;rw[e,← C6.1 ht,Eg]at this;cases this
  rw[none l hl.1,none m hm.1]
def Cla {l:List Row} {x:Row} (hs:Ay l) (s:ByteArray):Fs (mrg l x) s=bif teq x.1 s then (match Fs l s with|some r=>some (mx r x)|none=>some x) else Fs l s:=by
 have hsm:=Oi (x:=x) hs
 have hget:∀ j (hj:j<l.length),l.getD j Jt=l[j]:=λ j hj=>by rw[Vb,Ve hj];rfl
 cases ht:teq x.1 s with
 |true=>
  have hxs:=C6.1 ht;rw[cond_true];unfold mrg;split
  ·rename_i j hj;obtain⟨_,h2,h3⟩:=Oh l 0 j hj;rw[Dib]at h3
   have hjl:j<l.length:=by omega
   have hname:(l.getD j Jt).1=x.1:=C6.1 h3;have hmem:l.getD j Jt∈l:=A3 hjl
   have hlk:Fs l s=some (l.getD j Jt):=by rw[← hxs,← hname];exact Hq hs hmem
   rw[hlk];show Fs (bif I6 (l.getD j Jt) x then l.set j x else l) s=some (mx (l.getD j Jt) x);unfold mx;cases hb:I6 (l.getD j Jt) x
   ·rw[cond_false];exact hlk
   rw[cond_true];have:x∈l.set j x:=List.mem_set hjl x
   have hsm':Ay (l.set j x):=by
    have:=hsm;unfold mrg at this;rw[hj]at this;simp only[hb,cond_true]at this;exact this
   rw[← hxs];exact Hq hsm' this
  ·rename_i hj
   have hno:Fs l s=none:=by
    cases hl:Fs l s with
    |none=>rfl
    |some r=>
     obtain⟨h1,h2⟩:=Hp hl;exact(Rf l 0 hj r h1 (h2.trans hxs.symm)).elim
   rw[hno]
   have hx:x∈mrg l x:=by unfold mrg;rw[hj];simp
   have:=Hq hsm hx;unfold mrg at this;rw[hj]at this;rw[← hxs];exact this
 |false=>
  rw[cond_false]
  cases hl:Fs l s with
  |some r=>
   obtain⟨h1,h2⟩:=Hp hl
   have hr:r∈mrg l x:=by
    unfold mrg;split
    ·rename_i j hj;cases hb:I6 (l.getD j Jt) x
     ·exact h1
     rw[cond_true];obtain⟨i,hi,e⟩:=Deb h1;obtain⟨_,q2,q3⟩:=Oh l 0 j hj;rw[Dib]at q3
     have hij:i≠j:=by
      rintro rfl;rw[hget i hi,e]at q3;have:=C6.1 q3;rw[C6.2 (this.symm.trans h2)]at ht;cases ht
     rw[Yh];exact⟨i,by rw[Vt];exact hi,by rw[List.getElem_set_ne (Ddb hij)];exact e⟩
    ·have:r∈l.take (A6a l x.1 l.length)++l.drop (A6a l x.1 l.length):=by rw[Wh];exact h1
     rcases Vm.1 this with h|h
     ·exact Vx _ h
     ·exact Vo _ (Vd _ h)
   rw[← h2];exact Hq hsm hr
  |none=>
   cases hm:Fs (mrg l x) s with
   |none=>rfl
   |some r=>
    exfalso;obtain⟨h1,h2⟩:=Hp hm;rcases N5a h1 with rfl|h1
    ·rw[C6.2 h2]at ht;cases ht
    ·have:=Hq hs h1;rw[h2,hl]at this;cases this
def cmb:Option Row→Option Row→Option Row
 |some a,some b=>some (mx a b)
 |some a,none=>some a
 |none,y=>y
def M0 {a b:List Row} (ha:Ay a) (hb:Ay b) (s:ByteArray):Fs (Ky a b) s=cmb (Fs a s) (Fs b s):=by
 induction b generalizing a with
 |nil=>show Fs a s=cmb (Fs a s) none;cases Fs a s<;>rfl
 |cons x b ih=>
  have hb':=hb;unfold Ay at hb;rw[Wa]at hb;show Fs (Ky (mrg a x) b) s=_;rw[ih (Oi ha) hb.2,Cla ha s]
  have e:Fs (x::b) s=bif teq x.1 s then some x else Fs b s:=by
   unfold Fs;rw[Cub]
   cases teq x.1 s<;>rfl
  rw[e];cases ht:teq x.1 s
  ·rfl
  have hno:Fs b s=none:=by
   cases hl:Fs b s with
   |none=>rfl
   |some r=>
    obtain⟨h1,h2⟩:=Hp hl;have:=hb.1 r h1;rw[h2,← C6.1 ht,Eg]at this;cases this
  rw[hno]
  cases Fs a s<;>rfl
def X9 {l:List Row} {s:ByteArray}:∀ r,Fs l s=some r→r.1=s:=λ r h=>(Hp h).2
def N9a {a b:List Row} (ha:Ay a) (hb:Ay b):Ky (Ky a b) b=Ky a b:=
 Qe (J3 (J3 ha)) (J3 ha) λ s=>by
  rw[M0 (J3 ha) hb,M0 ha hb]
  cases Fs a s<;>cases Fs b s<;>first|rfl|skip
  ·rename_i b;show some (mx b b)=some b;unfold mx;cases I6 b b<;>rfl
  ·rename_i a b;show some (mx (mx a b) b)=some (mx a b);rw[Waa]

def Aca:Nat→Nat→List Int
 |0,n=>[(n:Int)]
 |f+1,n=>if n≤127 then [(n:Int)] else ((n % 128+128:Nat):Int)::Aca f (n/128)
def Md (n:Nat):List Int:=Aca 4 n
def St:Nat→Nat→Nat→List Int→Option (Nat×Nat)
 |0,_,_,_=>none
 |_+1,_,_,[]=>none
 |f+1,k,acc,x::l=>if 128≤x then St f (k+1) (acc+x.toNat % 128*128 ^ k) l
  else if (x=0∧0<k)∨1000000000<acc+x.toNat % 128*128 ^ k then none else some (acc+x.toNat % 128*128 ^ k,k+1)
def Xa (l:List Int) (p:Nat):Option (Nat×Nat):=match St 5 0 0 (l.drop p) with
 |some (n,c)=>some (n,p+c)
 |none=>none
def Naa:∀ (f n:Nat),(Aca f n).length≤f+1∧0<(Aca f n).length
 |0,n=>by simp[Aca]
 |f+1,n=>by
  unfold Aca;split
  ·simp
  ·have:=Naa f (n/128);simp only[Vh];omega
def Pd:∀ (f k acc:Nat) (l:List Int) (n c:Nat),Aq l→St f k acc l=some (n,c)→acc<128 ^ k→k<c∧c≤k+f∧c-k≤l.length∧n≤1000000000
 |0,_,_,_,_,_,_,h,_=>by simp[St]at h
 |_+1,_,_,[],_,_,_,h,_=>by simp[St]at h
 |f+1,k,acc,x::l,n,c,hb,h,ha=>by
  have hx:=hb x (by simp);unfold St at h;split at h
  ·have h1:acc+x.toNat % 128*128 ^ k<128 ^ (k+1):=by
    have h2:x.toNat % 128≤127:=by omega
    have h3:=Wj (128 ^ k) h2;rw[Cnb];omega
   have:=Pd f (k+1) _ l n c (λ y hy=>hb y (Vd _ hy)) h h1;simp only[Vh];omega
  ·split at h
   ·cases h
   ·simp only[Vc,Vy]at h;obtain⟨rfl,rfl⟩:=h;simp only[Vh];omega
def Nba:∀ (f k acc:Nat) (l:List Int) (n c:Nat),Aq l→St (f+1) k acc l=some (n,c)→acc<128 ^ k→∃ m,n=acc+m*128 ^ k∧l=Aca f m++l.drop (c-k)∧(m=0→c=k+1∧(0<k→False))∧m<128 ^ (f+1)
 |0,k,acc,[],n,c,hb,h,ha=>by simp[St]at h
 |_+1,k,acc,[],n,c,hb,h,ha=>by simp[St]at h
 |0,k,acc,x::l,n,c,hb,h,ha=>by
  have hx:=hb x (by simp);unfold St at h;split at h
  ·simp[St]at h
  ·rename_i h128;split at h
   ·cases h
   ·rename_i hz;simp only[Vc,Vy]at h;obtain⟨rfl,rfl⟩:=h;have hm:x.toNat % 128=x.toNat:=Ckb (by omega);refine⟨x.toNat,by rw[hm],?_,λ h0=>⟨rfl,λ hk=>hz (.inl ⟨by omega,hk⟩)⟩,by omega⟩;rw[show k+1-k=1 by omega];show x::l=[((x.toNat:Nat):Int)]++l;rw[show ((x.toNat:Nat):Int)=x by omega];rfl
 |f+1,k,acc,x::l,n,c,hb,h,ha=>by
  have hx:=hb x (by simp);have hb':Aq l:=λ y hy=>hb y (Vd _ hy);unfold St at h;split at h
  ·rename_i h128
   have h1:acc+x.toNat % 128*128 ^ k<128 ^ (k+1):=by
    have h2:x.toNat % 128≤127:=by omega
    have h3:=Wj (128 ^ k) h2;rw[Cnb];omega
   obtain⟨m,e1,e2,e3,e4⟩:=Nba f (k+1) _ l n c hb' h h1;have hbd:=Pd (f+1) (k+1) _ l n c hb' h h1;have hm0:m≠0:=λ h0=>(e3 h0).2 (by omega);refine⟨x.toNat % 128+m*128,?_,?_,λ h0=>by omega,?_⟩
   ·rw[e1,Cnb,Zc]
    have:m*128*128 ^ k=m*(128 ^ k*128):=by rw[Nat.mul_assoc,Nat.mul_comm 128]
    omega
   ·unfold Aca;rw[if_neg (by omega),show (x.toNat % 128+m*128)/128=m by omega,show (x.toNat % 128+m*128) % 128=x.toNat % 128 by omega,show c-k=(c-(k+1))+1 by omega,List.drop_succ_cons,List.cons_append,← e2];congr 1;omega
   ·rw[Cnb];omega
  ·rename_i h128;split at h
   ·cases h
   ·rename_i hz;simp only[Vc,Vy]at h;obtain⟨rfl,rfl⟩:=h;have hm:x.toNat % 128=x.toNat:=Ckb (by omega)
    have hp:128≤128 ^ (f+1+1):=by
     have:=Nat.pow_le_pow_right (show 0<128 by decide) (show 1≤f+1+1 by omega)
     simpa using this
    refine⟨x.toNat,by rw[hm],?_,λ h0=>⟨rfl,λ hk=>hz (.inl ⟨by omega,hk⟩)⟩,by omega⟩;rw[show k+1-k=1 by omega];unfold Aca;rw[if_pos (by omega)];show x::l=[((x.toNat:Nat):Int)]++l;rw[show ((x.toNat:Nat):Int)=x by omega];rfl
def Nca:∀ (f k acc m:Nat) (rest:List Int),m<128 ^ (f+1)→(0<k→0<m)→acc+m*128 ^ k≤1000000000→St (f+1) k acc (Aca f m++rest)=some (acc+m*128 ^ k,k+(Aca f m).length)
 |0,k,acc,m,rest,hm,hk,hn=>by
  show St 1 k acc ((m:Int)::rest)=_;unfold St
  have h1:m<128:=by simpa using hm
  rw[if_neg (by omega),if_neg (by
   rw[show (m:Int).toNat % 128=m by rw[Vj];exact Ckb h1]
   omega)]
  rw[show (m:Int).toNat % 128=m by rw[Vj];exact Ckb h1];rfl
 |f+1,k,acc,m,rest,hm,hk,hn=>by
  unfold Aca
  by_cases h:m≤127
  ·rw[if_pos h];show St (f+2) k acc ((m:Int)::rest)=_;unfold St
   rw[if_neg (by omega),if_neg (by
    rw[show (m:Int).toNat % 128=m by rw[Vj];exact Ckb (by omega)]
    omega)]
   rw[show (m:Int).toNat % 128=m by rw[Vj];exact Ckb (by omega)];rfl
  ·rw[if_neg h];show St (f+2) k acc (((m % 128+128:Nat):Int)::(Aca f (m/128)++rest))=_;unfold St
   have e1:(((m % 128+128:Nat):Int)).toNat % 128=m % 128:=by rw[Vj];omega
   rw[if_pos (by omega),e1]
   have hmod:m=m % 128+m/128*128:=by omega
   have hm2:m/128<128 ^ (f+1):=by rw[Cnb]at hm;omega
   have e2:acc+m % 128*128 ^ k+m/128*128 ^ (k+1)=acc+m*128 ^ k:=by
    have h2:m*128 ^ k=(m % 128+m/128*128)*128 ^ k:=by rw[← hmod]
    rw[h2,Zc,Cnb]
    have:m/128*128*128 ^ k=m/128*(128 ^ k*128):=by rw[Nat.mul_assoc,Nat.mul_comm 128]
    omega
   rw[Nca f (k+1) (acc+m % 128*128 ^ k) (m/128) rest hm2 (λ _=>by omega) (by rw[e2];exact hn),e2,Vh];simp only[Vc,Vy,true_and];omega
def Hea (pre:List Int) (n:Nat) (rest:List Int) (hn:n≤1000000000):Xa (pre++(Md n++rest)) pre.length=some (n,pre.length+(Md n).length):=by
 unfold Xa;rw[Zl];have:=Nca 4 0 0 n rest (by omega) (by omega) (by omega);unfold Md;rw[this];simp
def F5a {l:List Int} {p n q:Nat} (hb:Aq l) (h:Xa l p=some (n,q)):l.drop p=Md n++l.drop q∧n≤1000000000∧p<q∧q≤l.length:=by
 unfold Xa at h;split at h
 ·rename_i m c hd;simp only[Vc,Vy]at h;obtain⟨rfl,rfl⟩:=h;have hb':Aq (l.drop p):=λ y hy=>hb y (Zq hy);have hbd:=Pd 5 0 0 _ _ _ hb' hd (by decide);obtain⟨m',e1,e2,_,_⟩:=Nba 4 0 0 _ _ _ hb' hd (by decide)
  have e3:m=m':=by rw[e1];simp
  subst e3;rw[Wf]at hbd;refine⟨?_,hbd.2.2.2,by omega,by omega⟩;rw[Dib,Yp]at e2;exact e2
 ·cases h
def Bnb (i:Nat) (hi:i<5):(2:Int) ^ (min (toNat (wrap .i64 (7*(i:Int)))) (IntKind.bits .i64))=((128 ^ i:Nat):Int):=by
 have:i=0∨i=1∨i=2∨i=3∨i=4:=by omega
 rcases this with rfl|rfl|rfl|rfl|rfl<;>decide
def sh7 (i:Nat) (hi:i<5):¬ (wrap .i64 (7*(i:Int))<0)∧¬ (wrap .u64 (wrap .i64 (7*(i:Int)))<0):=by
 have:i=0∨i=1∨i=2∨i=3∨i=4:=by omega
 rcases this with rfl|rfl|rfl|rfl|rfl<;>decide
def U5 (i:Nat) (hi:i≤5):128 ^ i≤34359738368:=by
 have:=Nat.pow_le_pow_right (show 0<128 by decide) hi
 simpa using this
def Tra (l:List Int) (p:Int):Int×Int×Bool:=if p<0 then (0,0,false) else match Xa l p.toNat with
 |some (n,q)=>((n:Int),(q:Int),true)
 |none=>(0,0,false)
def Beb (p:Nat):Option (Nat×Nat)→Int×Int×Bool
 |some (n,c)=>((n:Int),((p+c:Nat):Int),true)
 |none=>(0,0,false)
def Nda (r:Sum (Int×Int×Bool) Unit):Int×Int×Bool:=Sum.elim (λ y=>y) (λ _=>(0,0,false)) r
def Nea {l:List Int} {p:Nat} (h:p<l.length):l.drop p=l.getD p 0::l.drop (p+1):=Bo h
def Jha (l:List Int) (hb:Aq l) (hl:l.length≤1000000000000) (p:Nat) (hp:p≤1000000000000):∀ (f i acc:Nat),f+i=5→acc<128 ^ i→
  Tot (λ k=>E9 k l (p:Int) (acc:Int) (i:Int)) (λ r=>Nda r=Beb p (St f i acc (l.drop (p+i)))):=by
 intro f
 induction f with
 |zero=>
  intro i acc hi ha;refine Tot.succ ?_;simp only[E9];exact Bwb (by omega) (Brb rfl)
 |succ f ih=>
  intro i acc hi ha
  have hi5:i<5:=by omega
  refine Tot.succ ?_;simp only[E9];refine Bvb (by omega) (Bvb (by omega) ?_);rw[w64 (n:=(l.length:Int)-(i:Int)) (by omega) (by omega),w64 (n:=(p:Int)+(i:Int)) (by omega) (by omega),show toNat ((p:Int)+(i:Int))=p+i by omega];refine Byb (λ h=>?_) (λ h=>?_)
  ·have hlt:p+i<l.length:=by omega
   refine Bvb (by omega) (Bvb (by omega) ?_);have hx:=hb (l.getD (p+i) 0) (A3 hlt);rw[Nea hlt,Bnb i hi5]
   have he:St (f+1) i acc (l.getD (p+i) 0::l.drop (p+i+1))=if 128≤l.getD (p+i) 0 then St f (i+1) (acc+(l.getD (p+i) 0).toNat % 128*128 ^ i) (l.drop (p+i+1)) else if (l.getD (p+i) 0=0∧0<i)∨1000000000<acc+(l.getD (p+i) 0).toNat % 128*128 ^ i then none else some (acc+(l.getD (p+i) 0).toNat % 128*128 ^ i,i+1):=rfl
   rw[he];generalize l.getD (p+i) 0=x at hx ⊢;obtain⟨v,rfl⟩:∃ v:Nat,x=(v:Int):=⟨x.toNat,by omega⟩;rw[Vj];have hp1:=U5 i (by omega);have hmul:v % 128*128 ^ i≤127*34359738368:=Nat.mul_le_mul (by omega) hp1;rw[w64 (n:=(v:Int)) (by omega) (by omega)]
   have e1:Int.tmod (v:Int) 128*((128 ^ i:Nat):Int)=((v % 128*128 ^ i:Nat):Int):=by
    rw[Chb (by omega)]
    push_cast
    rfl
   rw[e1,w64 (n:=((v % 128*128 ^ i:Nat):Int)) (by omega) (by omega),← Int.natCast_add,w64 (n:=((acc+v % 128*128 ^ i:Nat):Int)) (by omega) (by omega),w64 (n:=(i:Int)+1) (by omega) (by omega),w64 (n:=(p:Int)+(i:Int)+1) (by omega) (by omega)];refine Bwb (sh7 i hi5).1 ?_;refine Byb (λ h128=>?_) (λ h128=>?_)
   ·rw[if_pos (by omega)]
    have h1:acc+v % 128*128 ^ i<128 ^ (i+1):=by
     have h2:v % 128≤127:=by omega
     have h3:=Wj (128 ^ i) h2;rw[Cnb];omega
    have:=ih (i+1) (acc+v % 128*128 ^ i) (by omega) h1;rw[show p+(i+1)=p+i+1 by omega]at this;exact this
   ·rw[if_neg (by omega)]
    have big:Tot (λ _:Nat=>cond (decide (((acc+v % 128*128 ^ i:Nat):Int) > 1000000000)) (some (Sum.inl ((0:Int),(0:Int),false))) (some (Sum.inl (((acc+v % 128*128 ^ i:Nat):Int),(p:Int)+(i:Int)+1,true))):Nat→Option (Sum (Int×Int×Bool) Unit))
      (λ r=>Nda r=if 1000000000<acc+v % 128*128 ^ i then (0,0,false) else (((acc+v % 128*128 ^ i:Nat):Int),((p+(i+1):Nat):Int),true)):=by
     refine Byb (λ hbig=>?_) (λ hbig=>?_)
     ·rw[if_pos (by omega)];exact Brb rfl
     ·rw[if_neg (by omega)];refine Brb ?_;show (_,_,_)=_;rw[show (p:Int)+(i:Int)+1=((p+(i+1):Nat):Int) by omega]
    have goal:∀ c:Prop,[Decidable c]→(if c∨1000000000<acc+v % 128*128 ^ i then none else some (acc+v % 128*128 ^ i,i+1))=if c then none else if 1000000000<acc+v % 128*128 ^ i then (none:Option (Nat×Nat)) else some (acc+v % 128*128 ^ i,i+1):=by
     intro c _
     by_cases h1:c<;>by_cases h2:1000000000<acc+v % 128*128 ^ i<;>simp[h1,h2]
    rw[goal]
    have fin:(Beb p (if 1000000000<acc+v % 128*128 ^ i then (none:Option (Nat×Nat)) else some (acc+v % 128*128 ^ i,i+1)))=if 1000000000<acc+v % 128*128 ^ i then (0,0,false) else (((acc+v % 128*128 ^ i:Nat):Int),((p+(i+1):Nat):Int),true):=by
     split<;>rfl
    refine Bxb (λ h0=>?_) (λ h0=>?_)
    ·have hv:v=0:=by
      have:=beq_iff_eq.1 h0;omega
     refine Byb (λ hi0=>?_) (λ hi0=>?_)
     ·rw[if_pos ⟨by omega,by omega⟩];exact Brb rfl
     ·rw[if_neg (by omega),fin];exact big
    ·have hv:v≠0:=by
      intro e;subst e;simp at h0
     rw[if_neg (by omega),fin];exact big
  ·refine Brb ?_;rw[Za (by omega)];rfl
def Nfa (l:List Int) (hb:Aq l) (hl:l.length≤1000000000000) (p:Int) (hp:p≤1000000000000):Tot (λ k=>F7 k l p) (λ r=>r=Tra l p):=by
 unfold F7 Tra
 by_cases h0:p<0
 ·rw[if_pos h0];refine Bsb (Q:=λ r=>r = .inr ()) ?_ ?_
  ·refine Tot.succ ?_;simp only[E9];exact Bvb (by omega) (Bwb (by omega) (Brb rfl))
  ·rintro r rfl;exact Brb rfl
 ·rw[if_neg h0];obtain⟨n,rfl⟩:∃ n:Nat,p=(n:Int):=⟨p.toNat,by omega⟩;rw[Vj];refine Bsb (Jha l hb hl n (by omega) 5 0 0 rfl (by decide)) ?_;intro r hr;unfold Xa;rw[Zy]at hr
  have hr':Nda r=(match (match St 5 0 0 (l.drop n) with|some (m,c)=>some (m,n+c)|none=>none) with|some (m,q)=>((m:Int),(q:Int),true)|none=>((0:Int),(0:Int),false)):=by
   rw[hr]
   cases St 5 0 0 (l.drop n) with
   |none=>rfl
   |some mc=>rfl
  rw[← hr']
  cases r with
  |inl y=>exact Brb rfl
  |inr z=>exact Brb rfl

def Cv (n:Int):Nat:=(max 0 (min n 1000000000)).toNat
def M1 (n:Int):Cv n≤1000000000:=by unfold Cv;omega
def U6 {n:Int} (h0:0≤n) (h1:n≤1000000000):(Cv n:Int)=n:=by unfold Cv;omega
def Tsa (n:Nat) (h:n≤255):wrap .u8 (n:Int)=(n:Int):=by
 rw[Dlb];omega
def Jia:∀ (f n:Nat) (out:List Int),n<128 ^ (f+1)→f≤4→out.length+f≤1000000000010→
  Tot (λ k=>Et k out (n:Int)) (λ r=>∃ m:Nat,r.2=(m:Int)∧m≤127∧r.1++[(m:Int)]=out++Aca f n∧r.1.length≤out.length+f):=by
 intro f
 induction f with
 |zero=>
  intro n out hn hf hl;refine Tot.succ ?_;simp only[Et]
  have:n<128:=by simpa using hn
  exact Bwb (by omega) (Brb ⟨n,rfl,by omega,rfl,by simp⟩)
 |succ f ih=>
  intro n out hn hf hl;have hp:=U5 (f+1+1-1) (by omega);refine Tot.succ ?_;simp only[Et];refine Byb (λ h=>?_) (λ h=>?_)
  ·have hn2:n/128<128 ^ (f+1):=by rw[Cnb]at hn;omega
   have hn3:n<4398046511104:=by
    have:=U5 (f+1) (by omega);rw[Cnb]at hn;omega
   have e1:Int.tmod (n:Int) 128+128=((n % 128+128:Nat):Int):=by
    rw[Chb (by omega)];omega
   have e2:Int.tdiv (n:Int) 128=((n/128:Nat):Int):=by
    rw[Ecb (by omega)];omega
   rw[e1,e2,w64 (n:=((n % 128+128:Nat):Int)) (by omega) (by omega),w64 (n:=((n/128:Nat):Int)) (by omega) (by omega),Tsa _ (by omega)];refine Bzb (by simp only[Vh,Vq];omega) ?_;refine(ih (n/128) (out++[((n % 128+128:Nat):Int)]) hn2 (by omega) (by simp only[Vi,Vh,Vq];omega)).mono ?_;rintro r ⟨m,h1,h2,h3,h4⟩;refine⟨m,h1,h2,?_,by simp only[Vi,Vh,Vq]at h4;omega⟩;rw[h3,Vp];congr 1
   conv => { rhs;unfold Aca }
   rw[if_neg (by omega)];rfl
  ·refine Brb ⟨n,rfl,by omega,?_,by show out.length≤out.length+(f+1);omega⟩;unfold Aca;rw[if_pos (by omega)]
def U7 (out:List Int) (n:Int) (hl:out.length≤1000000000000):Tot (λ k=>Dt k out n) (λ r=>r=out++Md (Cv n)):=by
 unfold Dt
 have e:(if (0:Int)<(if (1000000000:Int)<n then 1000000000 else n) then (if (1000000000:Int)<n then 1000000000 else n) else 0)=((Cv n:Nat):Int):=by
  unfold Cv
  split<;>split<;>omega
 simp only;rw[e];have hc:=M1 n;refine Bsb (Jia 4 (Cv n) out (by omega) (by omega) (by omega)) ?_;rintro r ⟨m,h1,h2,h3,h4⟩;rw[h1,Tsa m (by omega)];refine Bzb (by simp only[Vh,Vq];omega) (Brb h3)
def Kf (n:Nat):(Md n).length≤5∧0<(Md n).length:=Naa 4 n
def Xb:∀ (f n:Nat),n<128 ^ (f+1)→Aq (Aca f n)
 |0,n,hn=>by
  intro x hx;simp only[Aca,Vn]at hx
  have:n<128:=by simpa using hn
  omega
 |f+1,n,hn=>by
  unfold Aca;split
  ·intro x hx;simp only[Vn]at hx;omega
  ·intro x hx;rcases Vl.1 hx with rfl|hx
   ·omega
   ·exact Xb f (n/128) (by rw[Cnb]at hn;omega) x hx
def Jja (n:Nat) (hn:n≤1000000000):Aq (Md n):=Xb 4 n (by omega)
def Xc (s:ByteArray):Aq (bytesOf s):=by
 intro x hx;unfold bytesOf at hx;obtain⟨b,_,rfl⟩:=Yw.1 hx;have:=b.toNat_lt;omega
def Mv (s:ByteArray):(bytesOf s).length=s.size:=by
 unfold bytesOf;rw[Wc];exact Zd
def Ada (s:ByteArray):Jc (bytesOf s)=s:=by
 unfold Jc bytesOf;rw[D3b]
 have:(λ n:Int=>UInt8.ofNat n.toNat) ∘ (λ b:UInt8=>(b.toNat:Int))=id:=by
  funext b;show UInt8.ofNat ((b.toNat:Int)).toNat=b;rw[Vj];exact UInt8.ofNat_toNat
 rw[this,List.map_id]
def Kg {l:List Int} (h:Aq l):bytesOf (Jc l)=l:=by
 unfold Jc bytesOf;show List.map _ (List.map _ l)=l;rw[D3b]
 have:∀ x∈l,((λ b:UInt8=>(b.toNat:Int)) ∘ (λ n:Int=>UInt8.ofNat n.toNat)) x=x:=by
  intro x hx;have hb:=h x hx;show ((UInt8.ofNat x.toNat).toNat:Int)=x;rw[UInt8.toNat_ofNat'];omega
 exact(Cdb this).trans (List.map_id' l)
def M2 (l:List Int):(Jc l).size=l.length:=by
 unfold Jc;show (List.map _ l).toArray.size=l.length;simp
def txt (s:ByteArray):List Int:=Md (Cv (s.size:Int))++bytesOf s
def Rfa (out:List Int) (s:ByteArray) (hl:out.length≤1000000000000) (hs:s.size≤1000000000000):Tot (λ k=>Ga k out s) (λ r=>r=out++txt s):=by
 unfold Ga txt;refine C3b (U7 out _ hl) ?_;have:=(Kf (Cv (s.size:Int))).1;refine Bzb (by simp only[Vi];omega) (Brb ?_);rw[Vp]
def Kea (l:List Int) (p:Nat):Option (ByteArray×Nat):=match Xa l p with
 |some (n,q)=>if q+n≤l.length then some (Jc ((l.drop q).take n),q+n) else none
 |none=>none
def Adb (l:List Int) (p:Int):ByteArray×Int×Bool:=if p<0 then ((⟨#[]⟩:ByteArray),0,false) else match Kea l p.toNat with
 |some (s,q)=>(s,(q:Int),true)
 |none=>((⟨#[]⟩:ByteArray),0,false)
def Jka (l:List Int) (hb:Aq l) (p:Int):Tra l p=(0,0,false)∨∃ n q,0≤p∧Xa l p.toNat=some (n,q)∧Tra l p=((n:Int),(q:Int),true)∧n≤1000000000∧q≤l.length:=by
 unfold Tra
 by_cases h:p<0
 ·rw[if_pos h];exact .inl rfl
 ·rw[if_neg h]
  cases hg:Xa l p.toNat with
  |none=>exact .inl rfl
  |some nq=>
   obtain⟨n,q⟩:=nq;have:=F5a hb hg;exact .inr ⟨n,q,by omega,rfl,rfl,this.2.1,this.2.2.2⟩
def Hfa (l:List Int) (hb:Aq l) (hl:l.length≤1000000000000) (p:Int) (hp:p≤1000000000000):Tot (λ k=>G9 k l p) (λ r=>r=Adb l p):=by
 unfold G9;refine C3b (Nfa l hb hl p hp) ?_;unfold Adb Kea;rcases Jka l hb p with h|⟨n,q,h0,hg,h,hn,hq⟩
 ·rw[h];refine Bub rfl (Brb ?_);unfold Tra at h;split
  ·rfl
  ·rename_i h0;rw[if_neg h0]at h
   cases hg:Xa l p.toNat with
   |none=>rfl
   |some nq=>rw[hg]at h;simp at h
 ·rw[h];refine Btb rfl ?_;rw[if_neg (by omega),hg];simp only;rw[w64 (n:=(l.length:Int)-(q:Int)) (by omega) (by omega),w64 (n:=(q:Int)+(n:Int)) (by omega) (by omega)];refine Byb (λ hgt=>?_) (λ hgt=>?_)
  ·rw[if_neg (by omega)];exact Brb rfl
  ·rw[if_pos (by omega)];refine Bvb (by omega) (Bvb (by omega) (Bvb (by omega) (Brb ?_)));rw[show toNat ((q:Int)+(n:Int))=q+n by omega,Vj,Dbb,show q+n-q=n by omega];simp only[Vy,true_and,and_true]
   push_cast
   rfl
def Nga {l:List Int} {p q:Nat} {s:ByteArray} (hb:Aq l) (h:Kea l p=some (s,q)):l.drop p=txt s++l.drop q∧s.size≤1000000000∧p<q∧q≤l.length:=by
 unfold Kea at h;split at h
 ·rename_i n q0 hg;obtain⟨h1,h2,h3,h4⟩:=F5a hb hg;split at h
  ·rename_i hle;simp only[Vc,Vy]at h;obtain⟨rfl,rfl⟩:=h
   have hlen:((l.drop q0).take n).length=n:=by rw[Vs,Wf];omega
   have hbb:Aq ((l.drop q0).take n):=λ x hx=>hb x (Zq (Zw hx));refine⟨?_,by rw[M2,hlen];exact h2,by omega,by omega⟩;unfold txt;rw[M2,hlen,Kg hbb,h1,show Cv (n:Int)=n by unfold Cv;omega,Vp];congr 1;rw[← Yp,Wh]
  ·cases h
 ·cases h
def Rga (pre:List Int) (s:ByteArray) (rest:List Int) (hs:s.size≤1000000000):Kea (pre++(txt s++rest)) pre.length=some (s,pre.length+(txt s).length):=by
 unfold Kea txt
 have hc:Cv (s.size:Int)=s.size:=by unfold Cv;omega
 rw[hc,Vp,Hea pre s.size _ hs];simp only;rw[if_pos (by simp only[Vi,Mv];omega)]
 have e:(pre++(Md s.size++(bytesOf s++rest))).drop (pre.length+(Md s.size).length)=bytesOf s++rest:=by
  rw[← Vp,← Vi,Zl]
 rw[e,Dkb (Mv s),Ada];simp only[Vi,Mv,Vc,Vy,true_and];omega

def F6a (b:Bool):Int:=bif b then 1 else 0
def Wba (b:Bool):Jr b=some (F6a b):=by cases b<;>rfl
def Tta (s:Stp):List Int:=Md (Cv s.1)++(Md (Cv s.2.1)++Md (Cv s.2.2))
def Rha (s:Stp):(Tta s).length≤15:=by
 unfold Tta;have h1:=(Kf (Cv s.1)).1;have h2:=(Kf (Cv s.2.1)).1;have h3:=(Kf (Cv s.2.2)).1;simp only[Vi];omega
def Jla (out:List Int) (s:Stp) (b:Bool) (hl:out.length≤999999999900):Tot (λ k=>Fm k out s b) (λ r=>r=out++(Tta s++Md (Cv (F6a b)))):=by
 have h1:=(Kf (Cv s.1)).1;have h2:=(Kf (Cv s.2.1)).1;have h3:=(Kf (Cv s.2.2)).1;unfold Fm Tta;refine C3b (U7 out s.1 (by omega)) ?_;refine C3b (U7 _ s.2.1 (by simp only[Vi];omega)) ?_;refine C3b (U7 _ s.2.2 (by simp only[Vi];omega)) ?_;refine C3b (C4b (Q:=λ y=>y=F6a b) (Wba b) rfl) ?_;refine C3b (U7 _ (F6a b) (by simp only[Vi];omega)) ?_;exact Brb (by simp only[Vp])
def U8 {s:ByteArray} (h:B0 s=true):1≤s.size∧s.size≤20:=by
 unfold B0 at h;rw[Va,Fx]at h;omega
def Xd {r:Row} (h:Lj r=true):B0 r.1=true:=by
 unfold Lj at h;rw[Va]at h;exact h.1
def Wca (s:ByteArray):(txt s).length≤5+s.size:=by
 have h1:=(Kf (Cv (s.size:Int))).1;unfold txt;simp only[Vi,Mv];omega

def Ria (l:List Int) (p:Nat):Tra l (p:Int)=match Xa l p with
 |some (n,q)=>((n:Int),(q:Int),true)
 |none=>(0,0,false):=by
 unfold Tra;rw[if_neg (by omega),Vj]
 all_goals cases Xa l p<;>rfl
def Rja (l:List Int) (p:Nat):Adb l (p:Int)=match Kea l p with
 |some (s,q)=>(s,(q:Int),true)
 |none=>((⟨#[]⟩:ByteArray),0,false):=by
 unfold Adb;rw[if_neg (by omega),Vj]
 all_goals cases Kea l p<;>rfl
def V7 (l:List Int) (hb:Aq l) (hl:l.length≤1000000000000) (p:Nat) (hp:p≤l.length) (bad:Bool):
  Tot (λ k=>Ce k (l,(p:Int),bad)) (λ r=>(bad=false∧∃ n q:Nat,Xa l p=some (n,q)∧q≤l.length∧r=((n:Int),l,(q:Int),false))∨((bad=true∨Xa l p=none)∧r=(0,l,(p:Int),true))):=by
 unfold Ce;refine C3b (Nfa l hb hl (p:Int) (by omega)) ?_;refine Bxb (λ h=>Brb (.inr ⟨.inl h,rfl⟩)) (λ h=>?_);rw[Ria]
 cases hg:Xa l p with
 |none=>exact Bub rfl (Brb (.inr ⟨.inr rfl,rfl⟩))
 |some nq=>
  obtain⟨n,q⟩:=nq;simp only at h;subst h;exact Btb rfl (Brb (.inl ⟨rfl,n,q,rfl,(F5a hb hg).2.2.2,rfl⟩))
def Aub (l:List Int) (hb:Aq l) (hl:l.length≤1000000000000) (p:Nat) (hp:p≤l.length):
  Tot (λ k=>Ca k (l,(p:Int),false)) (λ r=>(∃ (s:ByteArray) (q:Nat),Kea l p=some (s,q)∧q≤l.length∧r=(s,l,(q:Int),false))∨(Kea l p=none∧r=((⟨#[]⟩:ByteArray),l,(p:Int),true))):=by
 unfold Ca;refine C3b (Hfa l hb hl (p:Int) (by omega)) ?_;refine Btb rfl ?_;rw[Rja]
 cases hg:Kea l p with
 |none=>exact Bub rfl (Brb (.inr ⟨rfl,rfl⟩))
 |some nq=>
  obtain⟨n,q⟩:=nq;exact Btb rfl (Brb (.inl ⟨n,q,rfl,(Nga hb hg).2.2.2,rfl⟩))
def U9 (l:List Int) (p:Nat):Option ((Stp×Bool)×Nat):=
 (Xa l p).bind λ b=>(Xa l b.2).bind λ c=>(Xa l c.2).bind λ d=>(Xa l d.2).bind λ e=>bif decide (1<e.1) then none else
  some ((((b.1:Int),(c.1:Int),(d.1:Int)),(e.1:Int)==1),e.2)
def Avb (l:List Int) (hb:Aq l) (hl:l.length≤1000000000000) (p:Nat) (hp:p≤l.length) (bad:Bool):
  Tot (λ k=>Cs k (l,(p:Int),bad)) (λ r=>(bad=false∧∃ (x:Stp×Bool) (q:Nat),U9 l p=some (x,q)∧q≤l.length∧r=(x.1,x.2,l,(q:Int),false))∨((bad=true∨U9 l p=none)∧∃ s b,∃ q:Nat,q≤l.length∧r=(s,b,l,(q:Int),true))):=by
 unfold Cs
 have nx:∀ {o:Option (Nat×Nat)} {f:Nat×Nat→Option ((Stp×Bool)×Nat)},o=none→o.bind f=none:=by
  intro o f h;rw[h];rfl
 refine Bsb (V7 l hb hl p hp bad) ?_;rintro r (⟨h0,n1,p1,h1,l1,rfl⟩|⟨h1,rfl⟩)
 ·simp only;refine Bsb (V7 l hb hl p1 l1 false) ?_;rintro r (⟨_,n2,p2,h2,l2,rfl⟩|⟨h2,rfl⟩)
  ·simp only;refine Bsb (V7 l hb hl p2 l2 false) ?_;rintro r (⟨_,n3,p3,h3,l3,rfl⟩|⟨h3,rfl⟩)
   ·simp only;refine Bsb (V7 l hb hl p3 l3 false) ?_;rintro r (⟨_,n4,p4,h4,l4,rfl⟩|⟨h4,rfl⟩)
    ·simp only;refine Btb rfl (Brb ?_)
     have e:U9 l p=bif decide (1<n4) then none else some ((((n1:Int),(n2:Int),(n3:Int)),(n4:Int)==1),p4):=by
      unfold U9;simp only[h1,h2,h3,h4,Vu]
     cases hd:decide (1<n4) with
     |true=>
      rw[hd,cond_true]at e;refine .inr ⟨.inr e,((n1:Int),(n2:Int),(n3:Int)),((n4:Int)==1),p4,l4,?_⟩;have:decide ((n4:Int) > 1)=true:=decide_eq_true (by have:=of_decide_eq_true hd;omega);rw[this]
     |false=>
      rw[hd,cond_false]at e;refine .inl ⟨h0,_,p4,e,l4,?_⟩;have:decide ((n4:Int) > 1)=false:=decide_eq_false (by have:=of_decide_eq_false hd;omega);rw[this]
    ·refine Bub rfl (Brb (.inr ⟨.inr ?_,_,_,p3,l3,rfl⟩));have h4':=h4.resolve_left (by simp);unfold U9;simp only[h1,h2,h3,h4',Vu,Dcb]
   ·simp only;refine Bsb (V7 l hb hl p2 l2 true) ?_;rintro r (⟨hh,_⟩|⟨_,rfl⟩)
    ·cases hh
    ·refine Bub rfl (Brb (.inr ⟨.inr ?_,_,_,p2,l2,rfl⟩));have h3':=h3.resolve_left (by simp);unfold U9;simp only[h1,h2,h3',Vu,Dcb]
  ·simp only;refine Bsb (V7 l hb hl p1 l1 true) ?_;rintro r (⟨hh,_⟩|⟨_,rfl⟩)
   ·cases hh
   ·refine Bsb (V7 l hb hl p1 l1 true) ?_;rintro r (⟨hh,_⟩|⟨_,rfl⟩)
    ·cases hh
    ·refine Bub rfl (Brb (.inr ⟨.inr ?_,_,_,p1,l1,rfl⟩));have h2':=h2.resolve_left (by simp);unfold U9;simp only[h1,h2',Vu,Dcb]
 ·simp only;refine Bsb (V7 l hb hl p hp true) ?_;rintro r (⟨hh,_⟩|⟨_,rfl⟩)
  ·cases hh
  ·refine Bsb (V7 l hb hl p hp true) ?_;rintro r (⟨hh,_⟩|⟨_,rfl⟩)
   ·cases hh
   ·refine Bsb (V7 l hb hl p hp true) ?_;rintro r (⟨hh,_⟩|⟨_,rfl⟩)
    ·cases hh
    ·refine Bub rfl (Brb (.inr ⟨?_,_,_,p,hp,rfl⟩));rcases h1 with h1|h1
     ·exact .inl h1
     ·refine .inr ?_;unfold U9;rw[h1];rfl

section
open Go
end

abbrev Nmd:=ByteArray×List Int
abbrev Dsk:=List Nmd×List Nmd
def Jd:Nmd:=((⟨#[]⟩:ByteArray),[])
def Tua (l:List Nmd):Prop:=l.length≤1000000000000∧∀ x∈l,x.2.length≤1000000000000
def Aeb (d:Dsk):Prop:=Tua d.1∧Tua d.2
def Im (l:List Int) (h:l.length≤1000000000000):Ah l=some l:=by
 unfold Ah;rw[show Nat.ble ((length ([]:List Int)+length l)*1) 140737488355328=true from Zm (by simp only[Vq];omega)];rfl
def Sa (l:List Nmd) (hf:Tua l):∀ (n i:Nat) (acc:List Nmd),l.length-i=n→i≤l.length→acc.length≤i→
  Tot (λ k=>Co k acc l (l.length:Int) (i:Int)) (λ r=>r=acc++l.drop i):=by
 obtain⟨h1,h2⟩:=hf;intro n
 induction n with
 |zero=>
  intro i acc hd hi ha;refine Tot.succ ?_;simp only[Co];refine Bwb (by omega) (Brb ?_);rw[Za (by omega),Yf]
 |succ n ih=>
  intro i acc hd hi ha
  have hlt:i<l.length:=by omega
  refine Tot.succ ?_;simp only[Co];refine Bvb (by omega) (Bvb (by omega) (Bvb (by omega) ?_));rw[show toNat (i:Int)=i from Vj i,w64 (n:=(i:Int)+1) (by omega) (by omega),Bo (d:=Jd) hlt];have e0:l.getD i ((⟨#[]⟩:ByteArray),([]:List Int))=l.getD i Jd:=rfl;rw[e0];have hb:=h2 _ (A3 (d:=Jd) hlt);refine C3b (C4b (Q:=λ r=>r=(l.getD i Jd).2) (Im _ hb) rfl) ?_;refine Bzb (by simp only[Vh,Vq];omega) ?_;refine(ih (i+1) (acc++[l.getD i Jd]) (by omega) (by omega) (by simp only[Vi,Vh,Vq];omega)).mono ?_;rintro r rfl;rw[Vp];rfl
def Qf (l:List Nmd) (hf:Tua l):Tot (λ k=>Bt k l) (λ r=>r=l):=by
 unfold Bt;refine Bsb (Sa l hf _ 0 [] rfl (Vv _) (Vv _)) ?_;intro r hr;rw[Zf,Wn]at hr;exact Brb hr
def Ge (d:Dsk) (hf:Aeb d):Tot (λ k=>A5 k d) (λ r=>r=d):=by
 unfold A5;refine C3b (Qf d.1 hf.1) ?_;refine C3b (Qf d.2 hf.2) ?_;exact Brb rfl
def fnd (l:List Nmd) (s:ByteArray):Option Nat:=l.findIdx? (λ x=>teq x.1 s)
def Wda (l:List Nmd) (s:ByteArray):Int:=match fnd l s with
 |some i=>(i:Int)
 |none => -1
def Nha (l:List Nmd) (s:ByteArray) (hf:l.length≤1000000000000):∀ (n i:Nat),l.length-i=n→i≤l.length→
  Tot (λ k=>Hi k s l (l.length:Int) (i:Int)) (λ r=>r=match fnd (l.drop i) s with|some j => .inl ((i+j:Nat):Int)|none => .inr ()):=by
 intro n
 induction n with
 |zero=>
  intro i hd hi;refine Tot.succ ?_;simp only[Hi];refine Bwb (by omega) (Brb ?_);rw[Za (by omega)];rfl
 |succ n ih=>
  intro i hd hi
  have hlt:i<l.length:=by omega
  refine Tot.succ ?_;simp only[Hi];refine Bvb (by omega) (Bvb (by omega) (Bvb (by omega) ?_));rw[show toNat (i:Int)=i from Vj i,w64 (n:=(i:Int)+1) (by omega) (by omega),Bo (d:=Jd) hlt];have e0:l.getD i ((⟨#[]⟩:ByteArray),([]:List Int))=l.getD i Jd:=rfl;rw[e0]
  have e1:fnd (l.getD i Jd::l.drop (i+1)) s=if teq (l.getD i Jd).1 s then some 0 else (fnd (l.drop (i+1)) s).map (· + 1):=by
   unfold fnd;rw[List.findIdx?_cons]
  rw[e1];refine Bxb (λ h=>?_) (λ h=>?_)
  ·have h':teq (l.getD i Jd).1 s=true:=h;rw[if_pos h'];exact Brb rfl
  ·have h':¬ (teq (l.getD i Jd).1 s=true):=by
    have:teq (l.getD i Jd).1 s=false:=h;rw[this];simp
   rw[if_neg h'];refine(ih (i+1) (by omega) (by omega)).mono ?_;rintro r rfl
   cases fnd (l.drop (i+1)) s with
   |none=>rfl
   |some j=>
    show Sum.inl _=Sum.inl _;rw[show i+1+j=i+(j+1) by omega]
def Hga (l:List Nmd) (s:ByteArray) (hf:l.length≤1000000000000):Tot (λ k=>H9 k l s) (λ r=>r=Wda l s):=by
 unfold H9 Wda;refine C3b (Nha l s hf _ 0 rfl (Vv _)) ?_;rw[Zf]
 cases fnd l s with
 |none=>exact Brb rfl
 |some j=>
  refine Brb ?_;rw[Wi]
def Ru {l:List Nmd} {s:ByteArray} {i:Nat} (h:fnd l s=some i):i<l.length∧(l.getD i Jd).1=s:=by
 unfold fnd at h;rw[Dmb]at h;obtain⟨h1,h2,_⟩:=h;refine⟨h1,?_⟩;rw[Vb,Ve h1];exact C6.1 h2
def del (l:List Nmd) (s:ByteArray):List Nmd:=match fnd l s with
 |some i=>l.take i++l.drop (i+1)
 |none=>l
def Qg (l:List Nmd) (s:ByteArray) (hf:l.length≤1000000000000):Tot (λ k=>Eu k l s) (λ r=>r=del l s):=by
 unfold Eu del;refine C3b (Hga l s hf) ?_;unfold Wda
 cases h:fnd l s with
 |none=>exact Bvb (by decide) (Brb rfl)
 |some i=>
  have hl:=(Ru h).1;dsimp only;refine Bwb (by omega) (Bvb (by omega) (Bvb (by omega) ?_));rw[w64 (n:=(i:Int)+1) (by omega) (by omega),show toNat (i:Int)=i from Int.toNat_natCast i,show toNat ((i:Int)+1)=i+1 by omega];refine Bzb (by simp only[List.length_nil,List.length_take];omega) ?_;refine Bvb (by omega) (Bvb (by omega) (Bzb (by simp only[List.length_append,List.length_nil,List.length_take,List.length_drop];omega) (Brb rfl)))

def nOk (x:Nmd):Bool:=B0 x.1&&!(decide ((x.2.length:Int) > 400))
def chn:Option ByteArray→List Nmd→Bool
 |_,[]=>true
 |none,r::l=>nOk r&&chn (some r.1) l
 |some q,r::l=>nOk r&&(tlt q r.1&&chn (some r.1) l)
def Gz (l:List Nmd):Bool:=chn none l&&decide ((l.length:Int)≤60)
def C7 (d:Dsk):Bool:=Gz d.1&&Gz d.2
def Cma (l:List Nmd):Prop:=∀ x∈l,Lz x.1
def Nia (d:Dsk):Prop:=Cma d.1∧Cma d.2
def Cna (l:List Nmd):Nat→Option ByteArray
 |0=>none
 |i+1=>some (l.getD i Jd).1
def Rka (l:List Nmd) (i:Nat) (h:i<l.length):chn (Cna l i) (l.drop i)=(nOk (l.getD i Jd)&&(bif decide (0<i) then tlt (l.getD (i-1) Jd).1 (l.getD i Jd).1 else true)&&chn (Cna l (i+1)) (l.drop (i+1))):=by
 rw[Bo (d:=Jd) h]
 cases i with
 |zero=>simp[Cna,chn]
 |succ i=>simp[Cna,chn,F2b]
def Coa (l:List Nmd) (hf:l.length≤1000000000000) (hs:Cma l):∀ (n i:Nat),l.length-i=n→i≤l.length→
  Tot (λ k=>De k l l (l.length:Int) (i:Int)) (λ r=>r=bif chn (Cna l i) (l.drop i) then .inr l else .inl false):=by
 intro n
 induction n with
 |zero=>
  intro i hn hi;refine Tot.succ ?_;simp only[De];refine Bwb (by omega) (Brb ?_);rw[Za (by omega)]
  cases Cna l i<;>rfl
 |succ n ih=>
  intro i hn hi
  have hlt:i<l.length:=by omega
  refine Tot.succ ?_;simp only[De];refine Bvb (by omega) (Bvb (by omega) (Bvb (by omega) ?_));rw[show toNat (i:Int)=i from Vj i,w64 (n:=(i:Int)+1) (by omega) (by omega),Rka l i hlt];have h1:=ih (i+1) (by omega) (by omega)
  have e:(((i+1:Nat)):Int)=(i:Int)+1:=by omega
  rw[e]at h1;have e0:l.getD i ((⟨#[]⟩:ByteArray),([]:List Int))=l.getD i Jd:=rfl;rw[e0];refine C3b (Ke (l.getD i Jd).1 (hs _ (A3 hlt))) ?_;cases hb:B0 (l.getD i Jd).1
  ·exact Bub rfl (Brb (by rw[show nOk (l.getD i Jd)=false by unfold nOk;rw[hb];rfl];rfl))
  refine Btb rfl ?_;refine Byb (λ h4=>Brb (by rw[show nOk (l.getD i Jd)=false by unfold nOk;rw[decide_eq_true h4,hb];rfl];rfl)) (λ h4=>?_)
  have hnk:nOk (l.getD i Jd)=true:=by unfold nOk;rw[hb,decide_eq_false h4];rfl
  rw[hnk,Wg];refine Byb (λ h0=>?_) (λ h0=>?_)
  ·rw[w64 (n:=(i:Int)-1) (by omega) (by omega)];refine Bvb (by omega) (Bvb (by omega) ?_);rw[show toNat ((i:Int)-1)=i-1 by omega,decide_eq_true (show 0<i by omega),cond_true];refine Bxb (λ ht=>?_) (λ ht=>?_)
   ·have ht':(!(tlt (l.getD (i-1) Jd).1 (l.getD i Jd).1))=true:=ht;rw[Vz]at ht';exact Brb (by rw[ht'];rfl)
   ·have ht':(!(tlt (l.getD (i-1) Jd).1 (l.getD i Jd).1))=false:=ht;rw[Ye]at ht';rw[ht',Wg];exact h1
  ·rw[decide_eq_false (show ¬ 0<i by omega),cond_false,Wg];exact h1
def Cpa (l:List Nmd) (hf:l.length≤1000000000000) (hs:Cma l):Tot (λ k=>D5 k l) (λ r=>r=Gz l):=by
 unfold D5 Gz;refine C3b (Coa l hf hs _ 0 rfl (Vv _)) ?_;rw[Zf];show Tot _ (λ r=>r=(chn none l&&_))
 cases hc:chn none l with
 |true=>rw[show chn (Cna l 0) l=true from hc];exact Brb (by rw[Wg])
 |false=>rw[show chn (Cna l 0) l=false from hc];exact Brb rfl
def Oj (d:Dsk) (hf:Aeb d) (hs:Nia d):Tot (λ k=>Bg k d) (λ r=>r=C7 d):=by
 unfold Bg C7;refine C3b (Cpa d.1 hf.1.1 hs.1) ?_;cases h:Gz d.1
 ·exact Btb rfl (Brb rfl)
 refine Bub rfl (C3b (Cpa d.2 hf.2.1 hs.2) ?_);exact Brb (by rw[Wg])
def plc (l:List Nmd) (s:ByteArray):Nat:=(l.takeWhile (λ y=>tlt y.1 s)).length
def ins (l:List Nmd) (x:Nmd):List Nmd:=l.take (plc l x.1)++[x]++l.drop (plc l x.1)
def Tva (l:List Nmd) (s:ByteArray):plc l s≤l.length:=(Etb _).length_le
def F7a (l:List Nmd) (s:ByteArray) (b:List Int) (hf:l.length≤1000000000000):∀ (n i:Nat),l.length-i=n→i≤l.length→
  Tot (λ k=>Gv k l (i:Int) s b) (λ r=>r=(l,((i+plc (l.drop i) s:Nat):Int),s,b)):=by
 intro n
 induction n with
 |zero=>
  intro i hd hi;refine Tot.succ ?_;simp only[Gv];refine Bwb (by omega) (Brb ?_);rw[Za (by omega)];rfl
 |succ n ih=>
  intro i hd hi
  have hlt:i<l.length:=by omega
  refine Tot.succ ?_;simp only[Gv];refine Bvb (by omega) (Bvb (by omega) (Bvb (by omega) ?_));rw[show toNat (i:Int)=i from Vj i,w64 (n:=(i:Int)+1) (by omega) (by omega),Bo (d:=Jd) hlt];have e0:l.getD i ((⟨#[]⟩:ByteArray),([]:List Int))=l.getD i Jd:=rfl;rw[e0]
  have e1:plc (l.getD i Jd::l.drop (i+1)) s=if tlt (l.getD i Jd).1 s then plc (l.drop (i+1)) s+1 else 0:=by
   unfold plc;rw[Zn]
   split<;>rfl
  rw[e1];refine Bxb (λ h=>?_) (λ h=>?_)
  ·have h':tlt (l.getD i Jd).1 s=true:=h;rw[if_pos h'];refine(ih (i+1) (by omega) (by omega)).mono ?_;rintro r rfl;rw[show i+1+plc (l.drop (i+1)) s=i+(plc (l.drop (i+1)) s+1) by omega]
  ·have h':¬ (tlt (l.getD i Jd).1 s=true):=by
    have:tlt (l.getD i Jd).1 s=false:=h;rw[this];simp
   rw[if_neg h'];exact Brb rfl
def Hha (l:List Nmd) (x:Nmd) (hf:l.length≤1000000000000):Tot (λ k=>Hw k l x) (λ r=>r=ins l x):=by
 unfold Hw ins;refine Bsb (F7a l x.1 x.2 hf _ 0 rfl (Nat.zero_le _)) ?_;intro r hr;rw[List.drop_zero,Nat.zero_add]at hr;subst hr;have hp:=Tva l x.1;dsimp only;refine Bvb (by omega) (Bvb (by omega) ?_);rw[show toNat ((plc l x.1:Nat):Int)=plc l x.1 from Int.toNat_natCast _];refine Bzb (by simp only[List.length_nil,List.length_take];omega) ?_;refine Bzb (by simp only[List.length_append,List.length_nil,List.length_take,List.length_cons];omega) ?_;refine Bvb (by omega) (Bvb (by omega) (Bzb (by simp only[List.length_append,List.length_nil,List.length_take,List.length_drop,List.length_cons];omega) (Brb ?_)));rw[List.nil_append]

def cut (l:List Nmd) (s:ByteArray):List Nmd:=l.filter (λ x => !(teq x.1 s))

def rdN (l:List Nmd) (s:ByteArray):List Int×Bool:=match fnd l s with
 |some i=>((l.getD i Jd).2,true)
 |none=>([],false)
def Hia (d:Dsk) (s:ByteArray) (hf:Tua d.1):Tot (λ k=>Dw k d s) (λ r=>r=rdN d.1 s):=by
 unfold Dw rdN;refine C3b (Hga d.1 s hf.1) ?_;unfold Wda;have hl1:=hf.1
 cases h:fnd d.1 s with
 |none=>exact Bvb (by decide) (Brb rfl)
 |some i=>
  have hl:=(Ru h).1;dsimp only;refine Bwb (by omega) (Bvb (by omega) (Bvb (by omega) ?_));rw[show toNat (i:Int)=i from Int.toNat_natCast i];have hb:=hf.2 _ (A3 (d:=Jd) hl);refine C3b (C4b (Q:=λ r=>r=(d.1.getD i Jd).2) (Im _ hb) rfl) ?_;exact Brb rfl

def Cz (l:List Nmd):Prop:=l.Pairwise (λ a b=>tlt a.1 b.1=true)
def F8a:∀ (p:Option ByteArray) (l:List Nmd),chn p l=true↔Cz l∧(∀ r∈l,nOk r=true)∧(∀ q,p=some q→∀ r∈l,tlt q r.1=true)
 |p,[]=>by
  have:chn p []=true:=by cases p<;>rfl
  simp[this,Cz]
 |none,r::l=>by
  simp only[chn,Va,F8a (some r.1) l,Cz,Wa];constructor
  ·rintro⟨h1,h2,h3,h4⟩;exact⟨⟨λ a ha=>h4 _ rfl a ha,h2⟩,λ a ha=>by rcases Vl.1 ha with rfl|ha;exact h1;exact h3 a ha,λ q hq=>by cases hq⟩
  ·rintro⟨⟨h1,h2⟩,h3,_⟩;exact⟨h3 r (by simp),h2,λ a ha=>h3 a (Vd _ ha),λ q hq a ha=>by cases hq;exact h1 a ha⟩
 |some q,r::l=>by
  simp only[chn,Va,F8a (some r.1) l,Cz,Wa];constructor
  ·rintro⟨h1,h0,h2,h3,h4⟩;refine⟨⟨λ a ha=>h4 _ rfl a ha,h2⟩,λ a ha=>by rcases Vl.1 ha with rfl|ha;exact h1;exact h3 a ha,λ q' hq a ha=>?_⟩;cases hq;rcases Vl.1 ha with rfl|ha
   ·exact h0
   ·exact Iz h0 (h4 _ rfl a ha)
  ·rintro⟨⟨h1,h2⟩,h3,h4⟩;exact⟨h3 r (by simp),h4 q rfl r (by simp),h2,λ a ha=>h3 a (Vd _ ha),λ q' hq a ha=>by cases hq;exact h1 a ha⟩
def B5 {l:List Nmd}:Gz l=true↔Cz l∧(∀ r∈l,nOk r=true)∧l.length≤60:=by
 unfold Gz;simp only[Va,F8a,decide_eq_true_eq];constructor
 ·rintro⟨⟨h1,h2,_⟩,h3⟩;exact⟨h1,h2,by omega⟩
 ·rintro⟨h1,h2,h3⟩;exact⟨⟨h1,h2,λ q hq=>by cases hq⟩,by omega⟩
def Nu {x:Nmd}:nOk x=true↔B0 x.1=true∧x.2.length≤400:=by
 unfold nOk;simp only[Va,Vz,decide_eq_false_iff_not];constructor
 ·rintro⟨h1,h2⟩;exact⟨h1,by omega⟩
 ·rintro⟨h1,h2⟩;exact⟨h1,by omega⟩
def Rv {l:List Nmd} (h:Gz l=true):Tua l∧Cma l:=by
 obtain⟨_,h2,h3⟩:=B5.1 h;refine⟨⟨by omega,λ x hx=>by have:=(Nu.1 (h2 x hx)).2;omega⟩,λ x hx=>?_⟩;have:=U8 (Nu.1 (h2 x hx)).1;unfold Lz;omega
def Hja (y:Nmd) (l:List Nmd) (s:ByteArray):fnd (y::l) s=if teq y.1 s then some 0 else (fnd l s).map (· + 1):=by
 unfold fnd;rw[List.findIdx?_cons]
def Rla {l:List Nmd} {s:ByteArray}:fnd l s=none↔∀ x∈l,x.1≠s:=by
 unfold fnd;rw[List.findIdx?_eq_none_iff];constructor
 ·intro h x hx e;have:=h x hx;rw[C6.2 e]at this;cases this
 ·intro h x hx
  cases ht:teq x.1 s with
  |false=>rfl
  |true=>exact absurd (C6.1 ht) (h x hx)
def Nv:∀ {l:List Nmd} {s:ByteArray},Cz l→del l s=cut l s
 |[],s,_=>rfl
 |y::l,s,h=>by
  have hc:=Wa.1 h;have ih:=Nv (l:=l) (s:=s) hc.2;unfold del cut at *;rw[Hja,C7b]
  cases ht:teq y.1 s with
  |true=>
   have hno:∀ x∈l,(!(teq x.1 s))=true:=λ x hx=>by
    cases hx2:teq x.1 s
    ·rfl
    have e1:=C6.1 ht;have e2:=C6.1 hx2;have:=hc.1 x hx;rw[e1,e2,Eg]at this;cases this
   rw[if_pos rfl,if_neg (by simp)];show []++l=_;rw[Wn,List.filter_eq_self.2 hno]
  |false=>
   rw[if_neg (by simp),if_pos (show (!false)=true from rfl),← ih]
   cases hf:fnd l s with
   |none=>rfl
   |some i=>rfl
def Jp {l:List Nmd} {s:ByteArray} (h:Cz l):Cz (cut l s):=h.sublist Dfb
def Ua {l:List Nmd} {s:ByteArray}:(cut l s).Sublist l:=Dfb
def Rw {l:List Nmd} {s:ByteArray} (h:Gz l=true):Gz (cut l s)=true:=by
 obtain⟨h1,h2,h3⟩:=B5.1 h;exact B5.2 ⟨Jp h1,λ x hx=>h2 x (Ua.subset hx),by have:=(Ua (l:=l) (s:=s)).length_le;omega⟩
def Wea {l:List Nmd} {s:ByteArray} {i:Nat} (h:fnd l s=some i):(del l s).length+1=l.length:=by
 have hl:=(Ru h).1;unfold del;rw[h];simp only[Vi,Vs,Wf];omega

section
open Go
end

def ptl (x:Nmd):Bool→List Nmd→List Nmd
 |p,[]=>bif p then [] else [x]
 |p,y::l=>(bif !p&&!(tlt y.1 x.1) then [x] else [])++((bif !(teq y.1 x.1) then [y] else [])++ptl x (p||!(tlt y.1 x.1)) l)
def Rma (x:Nmd):∀ (l:List Nmd),ptl x true l=cut l x.1:=by
 intro l
 induction l with
 |nil=>rfl
 |cons a l ih=>
  simp only[ptl,Yt,Zb,cond_false,Wn,F5b,ih,cut,C7b]
  cases teq a.1 x.1<;>simp
def Jma (x:Nmd):∀ {l:List Nmd},Cz l→ptl x false l=ins (cut l x.1) x:=by
 intro l
 induction l with
 |nil=>intro _;rfl
 |cons a l ih=>
  intro h;have hl:Cz l:=(Wa.1 h).2;have ha:=(Wa.1 h).1;simp only[ptl,Zu,Wg,Dnb]
  cases ht:tlt a.1 x.1 with
  |true=>
   have he:teq a.1 x.1=false:=by
    cases hq:teq a.1 x.1 with
    |false=>rfl
    |true=>rw[(C6.1 hq),Eg]at ht;cases ht
   simp only[he,Yt,Zu,cond_false,cond_true,Wn,ih hl,cut,C7b,if_true];unfold ins plc;rw[Zn,if_pos ht];rfl
  |false=>
   have hc:plc (cut (a::l) x.1) x.1=0:=by
    unfold plc cut;rw[List.length_eq_zero_iff];rw[C7b];cases hq:teq a.1 x.1
    ·rw[Zu,if_pos rfl,Zn,if_neg (by rw[ht];simp)]
    have hx:=(C6.1 hq);simp only[Yt,Wq,if_false]
    cases hf:l.filter (λ y => !(teq y.1 x.1)) with
    |nil=>rfl
    |cons b m=>
     have hb:b∈l:=by
      have:b∈l.filter (λ y => !(teq y.1 x.1)):=by rw[hf];exact Wl
      exact(Cvb.1 this).1
     have hab:=ha b hb;rw[hx]at hab;rw[Zn,if_neg (by rw[Qa hab];simp)]
   simp only[Zu,cond_true,Rma];unfold ins;rw[hc];simp only[Zz,Wn,Zf,cut,C7b]
   cases teq a.1 x.1<;>simp

def DIn (d:Dsk):Prop:=(Aeb d∧Nia d)∧d.1.length≤2000000∧d.2.length≤2000000
def Ub {d:Dsk} (h:C7 d=true):DIn d:=by
 unfold C7 at h;rw[Va]at h;have h1:=Rv h.1;have h2:=Rv h.2;exact⟨⟨⟨h1.1,h2.1⟩,h1.2,h2.2⟩,by have:=(B5.1 h.1).2.2;omega,by have:=(B5.1 h.2).2.2;omega⟩
def Jna (d:Dsk) (s:ByteArray) (hd:Aeb d∧Nia d):Tot (λ k=>Dk k d s) (λ r=>r=bif (fnd d.1 s).isSome&&C7 d then ((del d.1 s,d.2),true) else (d,false)):=by
 unfold Dk;refine Bsb (Ge d hd.1) ?_;rintro r rfl;refine Bsb (Oj r hd.1 hd.2) ?_;rintro b rfl;cases h1:C7 r
 ·refine Bub rfl (Brb ?_);rw[Xs];rfl
 refine Btb rfl (Bsb (Hga r.1 s hd.1.1.1) ?_);rintro i rfl;unfold Wda
 cases h:fnd r.1 s with
 |none=>exact Bvb (by decide) (Brb rfl)
 |some i=>
  dsimp only;refine Bwb (by omega) (Bsb (Qg r.1 s hd.1.1.1) ?_);rintro c rfl;exact Brb rfl
def syI (d:Dsk) (s:ByteArray):List Nmd:=match fnd d.1 s with
 |some i=>ins (del d.2 s) (s,(d.1.getD i Jd).2)
 |none=>del d.2 s
def Xe (l:List Nmd) (s:ByteArray):(del l s).length≤l.length:=by
 cases h:fnd l s with
 |none=>unfold del;rw[h];exact Vw _
 |some i=>have:=Wea h;omega
def Wfa (l:List Nmd) (x:Nmd):(ins l x).length=l.length+1:=by
 unfold ins;have:=Tva l x.1;simp only[Vi,Vs,Wf,Vh,Vq];omega
def Rna (d:Dsk) (s:ByteArray) (hd:DIn d) (hs:Lz s):Tot (λ k=>Bp k d s) (λ r=>r=bif C7 d&&(B0 s&&decide ((syI d s).length≤60)) then ((d.1,syI d s),true) else (d,false)):=by
 unfold Bp;refine Bsb (Ge d hd.1.1) ?_;rintro r rfl;refine Bsb (Oj r hd.1.1 hd.1.2) ?_;rintro b rfl;cases h1:C7 r
 ·exact Bub rfl (Brb rfl)
 refine Btb rfl (Bsb (Ke s hs) ?_);rintro b rfl;cases h2:B0 s
 ·exact Bub rfl (Brb rfl)
 refine Btb rfl (Bsb (Qg r.2 s hd.1.1.2.1) ?_);rintro c rfl;refine Bsb (Hga r.1 s hd.1.1.1.1) ?_;rintro i rfl;have hdl:=Xe r.2 s;have hr2:=hd.2.2;have hr1:=hd.2.1
 have e:∀ o,o=syI r s→o.length≤4000000→Tot (λ k=>cond (decide ((length o:Int) > 60)) ((A5 k r).bind λ r9=>some (r9,false)) (some ((r.1,o),true))) (λ q=>q=bif true&&(true&&decide ((syI r s).length≤60)) then ((r.1,syI r s),true) else (r,false)):=by
  rintro o rfl _;refine Byb (λ h=>?_) (λ h=>?_)
  ·refine Bsb (Ge r hd.1.1) ?_;rintro q rfl;refine Brb ?_;rw[decide_eq_false (by omega)];rfl
  ·refine Brb ?_;rw[decide_eq_true (by omega)];rfl
 unfold Wda
 cases h:fnd r.1 s with
 |none=>
  refine Bwb (by decide) (e _ ?_ (by omega));unfold syI;rw[h]
 |some i=>
  have hl:=(Ru h).1;dsimp only;refine Bvb (by omega) (Bvb (by omega) (Bvb (by omega) ?_));rw[show toNat (i:Int)=i from Int.toNat_natCast i];have hb:=hd.1.1.1.2 _ (A3 (d:=Jd) hl);refine Bsb (C4b (Q:=λ q=>q=(r.1.getD i Jd).2) (Im _ hb) rfl) ?_;rintro q rfl;refine Bsb (Hha (del r.2 s) (s,(r.1.getD i Jd).2) (by omega)) ?_;rintro o rfl;refine e _ ?_ (by rw[Wfa];omega);unfold syI;rw[h]

section
open Go
end

section
open Go
end

def Ov (p:Nmd→Bool):∀ l:List Nmd,l.take (l.takeWhile p).length=l.takeWhile p∧l.drop (l.takeWhile p).length=l.dropWhile p
 |[]=>⟨rfl,rfl⟩
 |y::l=>by
  obtain⟨h1,h2⟩:=Ov p l;simp only[Zn,Dgb]
  cases p y with
  |true=>simp[h1,h2]
  |false=>simp
def Cqa {p:Nmd→Bool}:∀ {l:List Nmd} {y:Nmd},y∈l.takeWhile p→p y=true
 |[],y,h=>by simp at h
 |z::l,y,h=>by
  simp only[Zn]at h;cases hz:p z
  ·rw[hz]at h;simp at h
  rw[hz]at h;simp only[if_true]at h;rcases Vl.1 h with rfl|h
  ·exact hz
  ·exact Cqa h
def Twa (l:List Nmd) (x:Nmd):ins l x=l.takeWhile (λ y=>tlt y.1 x.1)++([x]++l.dropWhile (λ y=>tlt y.1 x.1)):=by
 unfold ins plc;obtain⟨h1,h2⟩:=Ov (λ y=>tlt y.1 x.1) l;rw[h1,h2,Vp]
def Xf {x:Nmd}:∀ {l:List Nmd},Cz l→(∀ y∈l,y.1≠x.1)→∀ z∈l.dropWhile (λ y=>tlt y.1 x.1),tlt x.1 z.1=true
 |[],_,_,z,hz=>by simp at hz
 |y::l,hs,hn,z,hz=>by
  obtain⟨h1,h2⟩:=Wa.1 hs;simp only[Dgb]at hz
  cases hy:tlt y.1 x.1 with
  |true=>
   rw[hy]at hz;simp only[if_true]at hz;exact Xf h2 (λ w hw=>hn w (Vd _ hw)) z hz
  |false=>
   rw[hy]at hz;simp only[Wq,if_false]at hz
   have hxy:tlt x.1 y.1=true:=by
    cases hh:tlt x.1 y.1 with
    |true=>rfl
    |false=>exact absurd (U3 hy hh) (hn y (by simp))
   rcases Vl.1 hz with rfl|hz
   ·exact hxy
   ·exact Iz hxy (h1 z hz)
def Ol {l:List Nmd} {x:Nmd} (hs:Cz l) (hn:∀ y∈l,y.1≠x.1):Cz (ins l x):=by
 rw[Twa]
 have hs':Cz (l.takeWhile (λ y=>tlt y.1 x.1)++l.dropWhile (λ y=>tlt y.1 x.1)):=by rw[Cwb];exact hs
 obtain⟨h1,h2,h3⟩:=Zg.1 hs';have h4:∀ y∈l.takeWhile (λ y=>tlt y.1 x.1),tlt y.1 x.1=true:=λ y hy=>Cqa (p:=λ y=>tlt y.1 x.1) hy;refine Zg.2 ⟨h1,Wa.2 ⟨λ z hz=>Xf hs hn z hz,h2⟩,λ a ha b hb=>?_⟩;rcases Vl.1 hb with rfl|hb
 ·exact h4 a ha
 ·exact h3 a ha b hb
def Rg {l:List Nmd} {x y:Nmd}:y∈ins l x↔y=x∨y∈l:=by
 rw[Twa];have e:=Cwb (p:=λ y:Nmd=>tlt y.1 x.1) (l:=l);constructor
 ·intro h;rcases Vm.1 h with h|h
  ·right;rw[← e];exact Vx _ h
  ·rcases Vl.1 h with h|h
   ·exact .inl h
   ·right;rw[← e];exact Vo _ h
 ·rintro (rfl|h)
  ·exact Vo _ (by simp)
  ·rw[← e]at h;rcases Vm.1 h with h|h
   ·exact Vx _ h
   ·exact Vo _ (Vd _ h)
def Txa {l:List Nmd} {x:Nmd} (hl:Gz l=true) (hn:∀ y∈l,y.1≠x.1) (hx:nOk x=true):Gz (ins l x)=decide ((ins l x).length≤60):=by
 obtain⟨h1,h2,h3⟩:=B5.1 hl
 by_cases h:(ins l x).length≤60
 ·rw[decide_eq_true h];exact B5.2 ⟨Ol h1 hn,λ y hy=>by rcases Rg.1 hy with rfl|hy;exact hx;exact h2 y hy,h⟩
 ·rw[decide_eq_false h]
  cases hc:Gz (ins l x) with
  |false=>rfl
  |true=>exact absurd (B5.1 hc).2.2 h
def Uc {l:List Nmd} {s:ByteArray}:∀ y∈cut l s,y.1≠s:=λ y hy e=>by
 have:=(Cvb.1 hy).2;simp[e,C6.2 rfl]at this
def Wga {d:Dsk} {s:ByteArray} (hd:C7 d=true) (hs:B0 s=true):C7 (d.1,syI d s)=decide ((syI d s).length≤60):=by
 have hd':=hd;unfold C7 at hd';rw[Va]at hd';have h2:=B5.1 hd'.2;unfold C7;rw[hd'.1,Wg];unfold syI;rw[Nv h2.1]
 cases h:fnd d.1 s with
 |none=>show Gz (cut d.2 s)=decide ((cut d.2 s).length≤60);rw[Rw hd'.2,decide_eq_true (B5.1 (Rw (s:=s) hd'.2)).2.2]
 |some i=>
  refine Txa (Rw hd'.2) Uc (Nu.2 ⟨hs,?_⟩);have h1:=(B5.1 hd'.1).2.1 _ (A3 (d:=Jd) (Ru h).1);exact(Nu.1 h1).2
def Wha {l:List Nmd} (hs:Cz l) {x y:Nmd} (hx:x∈l) (hy:y∈l) (e:x.1=y.1):x=y:=by
 induction l with
 |nil=>simp at hx
 |cons z l ih=>
  obtain⟨h1,h2⟩:=Wa.1 hs;rcases Vl.1 hx with hx'|hx'
  ·rcases Vl.1 hy with hy'|hy'
   ·rw[hx',hy']
   ·have:=h1 y hy';rw[← hx',e,Eg]at this;cases this
  ·rcases Vl.1 hy with hy'|hy'
   ·have:=h1 x hx';rw[← hy',e,Eg]at this;cases this
   ·exact ih h2 hx' hy'

def wrI (d:Dsk) (s:ByteArray) (b:List Int):List Nmd:=ins (del d.1 s) (s,b)
def Nja (d:Dsk) (s:ByteArray) (b:List Int) (hd:DIn d) (hs:Lz s) (hb:b.length≤1000000000000):Tot (λ k=>Cy k d s b) (λ r=>r=bif C7 d&&(B0 s&&(decide (b.length≤400)&&decide ((wrI d s b).length≤60))) then ((wrI d s b,d.2),true) else (d,false)):=by
 unfold Cy;refine Bsb (Ge d hd.1.1) ?_;rintro r rfl;refine Bsb (Oj r hd.1.1 hd.1.2) ?_;rintro b1 rfl;cases h1:C7 r
 ·exact Bub rfl (Brb rfl)
 refine Btb rfl (Bsb (Ke s hs) ?_);rintro b2 rfl;cases h2:B0 s
 ·exact Bub rfl (Brb rfl)
 refine Btb rfl (Byb (λ h=>?_) (λ h=>?_))
 ·rw[decide_eq_false (show ¬ b.length≤400 by omega)];exact Brb rfl
 ·rw[decide_eq_true (show b.length≤400 by omega)];refine Bsb (Qg r.1 s hd.1.1.1.1) ?_;rintro c rfl;refine Bsb (C4b (Q:=λ x=>x=b) (Im b hb) rfl) ?_;rintro e rfl;have hdl:=Xe r.1 s;refine Bsb (Hha (del r.1 s) (s,e) (by have:=hd.2.1;omega)) ?_;rintro m rfl;refine Byb (λ h=>?_) (λ h=>?_)
  ·rw[decide_eq_false (show ¬ (wrI r s e).length≤60 by unfold wrI;omega)];refine Bsb (Ge r hd.1.1) ?_;rintro x rfl;exact Brb rfl
  ·rw[decide_eq_true (show (wrI r s e).length≤60 by unfold wrI;omega)];exact Brb rfl
def Roa {d:Dsk} {s:ByteArray} {b:List Int} (hd:C7 d=true) (hs:B0 s=true):ptl (s,b) false d.1=wrI d s b∧C7 (wrI d s b,d.2)=(decide (b.length≤400)&&decide ((wrI d s b).length≤60)):=by
 have hd':=hd;unfold C7 at hd';rw[Va]at hd';have h1:=B5.1 hd'.1
 have e1:wrI d s b=ins (cut d.1 s) (s,b):=by unfold wrI;rw[Nv h1.1]
 refine⟨by rw[e1];exact Jma _ h1.1,?_⟩;unfold C7;rw[hd'.2,C9b,e1]
 by_cases hb:b.length≤400
 ·rw[decide_eq_true hb,Wg];exact Txa (Rw hd'.1) Uc (Nu.2 ⟨hs,hb⟩)
 ·rw[decide_eq_false hb,Zb]
  cases hc:Gz (ins (cut d.1 s) (s,b)) with
  |false=>rfl
  |true=>exact absurd (Nu.1 ((B5.1 hc).2.1 (s,b) (Rg.2 (.inl rfl)))).2 hb

def TS (l:List ByteArray):Prop:=l.Pairwise (λ a b=>tlt a b=true)
def pk (l:List Nmd) (s:ByteArray):Option Nmd:=match fnd l s with
 |some i=>some (l.getD i Jd)
 |none=>none
def Me:ByteArray:=⟨#[]⟩
def tpl (l:List ByteArray) (s:ByteArray):Nat:=(l.takeWhile (λ y=>tlt y s)).length
def wt (l:List ByteArray) (s:ByteArray):List ByteArray:=if tpl l s<l.length∧teq (l.getD (tpl l s) Me) s=true then l else l.take (tpl l s)++[s]++l.drop (tpl l s)
def Tya (l:List ByteArray) (s:ByteArray):tpl l s≤l.length:=(Etb _).length_le
def Sc (l:List ByteArray) (s:ByteArray) (hf:l.length≤1000000000000):∀ (n i:Nat),l.length-i=n→i≤l.length→
  Tot (λ k=>Dj k l s (i:Int)) (λ r=>r=(l,s,((i+tpl (l.drop i) s:Nat):Int))):=by
 intro n
 induction n with
 |zero=>
  intro i hd hi;refine Tot.succ ?_;simp only[Dj];refine Bwb (by omega) (Brb ?_);rw[Za (by omega)];rfl
 |succ n ih=>
  intro i hd hi
  have hlt:i<l.length:=by omega
  refine Tot.succ ?_;simp only[Dj];refine Bvb (by omega) (Bvb (by omega) (Bvb (by omega) ?_));rw[show toNat (i:Int)=i from Vj i,w64 (n:=(i:Int)+1) (by omega) (by omega),Bo (d:=Me) hlt];have e0:l.getD i (⟨#[]⟩:ByteArray)=l.getD i Me:=rfl;rw[e0]
  have e1:tpl (l.getD i Me::l.drop (i+1)) s=if tlt (l.getD i Me) s then tpl (l.drop (i+1)) s+1 else 0:=by
   unfold tpl;rw[Zn]
   split<;>rfl
  rw[e1];refine Bxb (λ h=>?_) (λ h=>?_)
  ·have h':tlt (l.getD i Me) s=true:=h;rw[if_pos h'];refine(ih (i+1) (by omega) (by omega)).mono ?_;rintro r rfl;rw[show i+1+tpl (l.drop (i+1)) s=i+(tpl (l.drop (i+1)) s+1) by omega]
  ·have h':¬ (tlt (l.getD i Me) s=true):=by
    have:tlt (l.getD i Me) s=false:=h;rw[this];simp
   rw[if_neg h'];exact Brb rfl
def Aea (l:List ByteArray) (s:ByteArray) (hf:l.length≤1000000000):Tot (λ k=>F4 k l s) (λ r=>r=wt l s):=by
 unfold F4;refine Bsb (Sc l s (by omega) _ 0 rfl (Nat.zero_le _)) ?_;intro r hr;rw[List.drop_zero,Nat.zero_add]at hr;subst hr;have hj:=Tya l s;generalize hjj:tpl l s=j at *;dsimp only
 have hno:¬ (j<l.length∧teq (l.getD j Me) s=true)→Tot (λ k=>cond (decide ((0:Int)≤(j:Int))) (cond (decide ((j:Int)≤(length l:Int))) (cond (Nat.ble ((length ([]:List ByteArray)+length (List.take (toNat (j:Int)) l))*16) 140737488355328) (let v3:List ByteArray:=([]:List ByteArray)++(List.take (toNat (j:Int)) l);cond (Nat.ble ((length v3+length [s])*16) 140737488355328) (cond (decide ((0:Int)≤(j:Int))) (cond (decide ((j:Int)≤(length l:Int))) (cond (Nat.ble ((length (v3++[s])+length (List.drop (toNat (j:Int)) l))*16) 140737488355328) (some ((v3++[s])++(List.drop (toNat (j:Int)) l))) none) none) none) none) none) none) none)
   (λ r=>r=wt l s):=by
  intro hn;refine Bvb (by omega) (Bvb (by omega) ?_);rw[show toNat (j:Int)=j from Vj j];refine Bzb (by simp only[Vq,Vs];omega) ?_;refine Bzb (by simp only[Vi,Vq,Vs,Vh];omega) ?_;refine Bvb (by omega) (Bvb (by omega) (Bzb (by simp only[Vi,Vq,Vs,Wf,Vh];omega) (Brb ?_)));unfold wt;rw[hjj,if_neg hn,Wn]
 refine Byb (λ h=>?_) (λ h=>hno (λ hh=>h (by omega)));refine Bvb (by omega) (Bvb h ?_);rw[show toNat (j:Int)=j from Vj j]at *;refine Bxb (λ he=>Brb ?_) (λ he=>hno (λ hh=>?_))
 ·unfold wt;rw[hjj,if_pos ⟨by omega,he⟩]
 ·have h2:teq (l.getD j Me) s=false:=he;rw[h2]at hh;cases hh.2
def Tza {l:List ByteArray} {s y:ByteArray}:y∈wt l s↔y=s∨y∈l:=by
 unfold wt
 by_cases h:tpl l s<l.length∧teq (l.getD (tpl l s) Me) s=true
 ·rw[if_pos h];refine⟨.inr,λ h'=>?_⟩;rcases h' with rfl|h'
  ·have:=A3 (d:=Me) h.1;rwa [C6.1 h.2]at this
  ·exact h'
 ·rw[if_neg h];have e:l.take (tpl l s)++l.drop (tpl l s)=l:=Wh _ _;constructor
  ·intro h';rw[Vp]at h';rcases Vm.1 h' with h'|h'
   ·right;rw[← e];exact Vx _ h'
   ·rcases Vm.1 h' with h'|h'
    ·left;simpa using h'
    ·right;rw[← e];exact Vo _ h'
  ·rintro (rfl|h')
   ·simp
   ·rw[← e]at h'
    rcases Vm.1 h' with h'|h'<;>simp[h']
def Hka (p:ByteArray→Bool):∀ l:List ByteArray,l.take (l.takeWhile p).length=l.takeWhile p∧l.drop (l.takeWhile p).length=l.dropWhile p
 |[]=>⟨rfl,rfl⟩
 |y::l=>by
  obtain⟨h1,h2⟩:=Hka p l;simp only[Zn,Dgb]
  cases p y with
  |true=>simp[h1,h2]
  |false=>simp
def Xg {p:ByteArray→Bool}:∀ {l:List ByteArray} {y:ByteArray},y∈l.takeWhile p→p y=true
 |[],y,h=>by simp at h
 |z::l,y,h=>by
  simp only[Zn]at h;cases hz:p z
  ·rw[hz]at h;simp at h
  rw[hz]at h;simp only[if_true]at h;rcases Vl.1 h with rfl|h
  ·exact hz
  ·exact Xg h
def Ud {s:ByteArray}:∀ {l:List ByteArray},TS l→(∀ y r,l.dropWhile (λ y=>tlt y s)=y::r→y≠s)→∀ z∈l.dropWhile (λ y=>tlt y s),tlt s z=true
 |[],_,_,z,hz=>by simp at hz
 |y::l,hs,hn,z,hz=>by
  obtain⟨h1,h2⟩:=Wa.1 hs;simp only[Dgb]at hz hn
  cases hy:tlt y s with
  |true=>
   rw[hy]at hz hn;simp only[if_true]at hz hn;exact Ud h2 hn z hz
  |false=>
   rw[hy]at hz hn;simp only[Wq,if_false]at hz hn
   have hxy:tlt s y=true:=by
    cases hh:tlt s y with
    |true=>rfl
    |false=>exact absurd (U3 hy hh) (hn y l rfl)
   rcases Vl.1 hz with rfl|hz
   ·exact hxy
   ·exact Iz hxy (h1 z hz)
def Nka {l:List ByteArray} {s:ByteArray} (hs:TS l):TS (wt l s):=by
 unfold wt
 by_cases h:tpl l s<l.length∧teq (l.getD (tpl l s) Me) s=true
 ·rw[if_pos h];exact hs
 ·rw[if_neg h];obtain⟨e1,e2⟩:=Hka (λ y=>tlt y s) l
  have hd:∀ y r,l.dropWhile (λ y=>tlt y s)=y::r→y≠s:=by
   intro y r hr hy;rw[← e2]at hr
   have hlt:tpl l s<l.length:=by
    rcases D2b (tpl l s) l.length with h'|h'
    ·exact h'
    ·have:l.drop (tpl l s)=[]:=Za h';unfold tpl at this;rw[this]at hr;cases hr
   have:l.drop (tpl l s)=l.getD (tpl l s) Me::l.drop (tpl l s+1):=Bo hlt;unfold tpl at this;rw[this]at hr;simp only[Yj]at hr;exact h ⟨hlt,C6.2 (hr.1.trans hy)⟩
  have e1':l.take (tpl l s)=l.takeWhile (λ y=>tlt y s):=e1;have e2':l.drop (tpl l s)=l.dropWhile (λ y=>tlt y s):=e2;rw[e1',e2',Vp]
  have hs':TS (l.takeWhile (λ y=>tlt y s)++l.dropWhile (λ y=>tlt y s)):=by rw[Cwb];exact hs
  obtain⟨h1,h2,h3⟩:=Zg.1 hs';refine Zg.2 ⟨h1,Wa.2 ⟨λ z hz=>Ud hs hd z hz,h2⟩,λ a ha b hb=>?_⟩;rcases Vl.1 hb with rfl|hb
  ·exact Xg (p:=λ y=>tlt y b) ha
  ·exact h3 a ha b hb

def U0a {l:List ByteArray} {s:ByteArray}:(wt l s).length≤l.length+1:=by
 unfold wt;have:=Tya l s;split
 ·omega
 ·simp only[Vi,Vs,Wf,Vh,Vq];omega

section
variable {α σ R:Type} {a b:α} {p:Prop} [Decidable p]
def dT (h:p):cond (decide p) a b=a:=by rw[decide_eq_true h];rfl
def dF (h:¬ p):cond (decide p) a b=b:=by rw[decide_eq_false h];rfl
def bT {m n:Nat} (h:m≤n):cond (Nat.ble m n) a b=a:=by rw[Zm h];rfl
def C0b {L:Nat→Int→σ→Option R} {Q:R→Prop} (n:Nat) (I:Nat→σ→Prop) (hend:∀ s,I n s→Tot (λ k=>L (k+1) (n:Int) s) Q)
  (V9:∀ i s,i<n→I i s→(∀ s',I (i+1) s'→Tot (λ k=>L k ((i:Int)+1) s') Q)→Tot (λ k=>L (k+1) (i:Int) s) Q):
  ∀ (i:Nat) (s:σ),i≤n→I i s→Tot (λ k=>L k (i:Int) s) Q:=by
 suffices h:∀ (m i:Nat) (s:σ),n-i=m→i≤n→I i s→Tot (λ k=>L k (i:Int) s) Q from λ i s hi hs=>h _ i s rfl hi hs
 intro m
 induction m with
 |zero=>
  intro i s hm hi hs
  obtain rfl:i=n:=by omega
  exact Tot.succ (hend s hs)
 |succ m ih=>
  intro i s hm hi hs;refine Tot.succ (V9 i s (by omega) hs λ s' hs'=>?_);have:=ih (i+1) s' (by omega) (by omega) hs';rwa [show (((i+1:Nat)):Int)=(i:Int)+1 by omega]at this
end
def cst (x:BitVec 32):BitVec 32:=if x.getLsbD 0 then (x >>> 1) ^^^ 2197175160#32 else x >>> 1
def F9a:Nat→BitVec 32→BitVec 32
 |0,x=>x
 |n+1,x=>F9a n (cst x)
def cby (x:BitVec 32) (b:Int):BitVec 32:=F9a 8 (x ^^^ ofInt 32 b)
def Xsa (l:List Int):BitVec 32 := ~~~ (l.foldl cby 4294967295#32)
def crc (l:List Int):Int:=((Xsa l).toNat:Int)
def Bob (v:BitVec 32):v.getLsbD 0=decide (v.toNat % 2=1):=by
 rw[BitVec.getLsbD,Nat.testBit_zero]
def Faa (v:BitVec 32):ofInt (IntKind.bits .u32) (v.toNat:Int)=v:=by
 show ofInt 32 (v.toNat:Int)=v;rw[BitVec.ofInt_natCast,BitVec.ofNat_toNat,BitVec.setWidth_eq]
def Awb (v:BitVec 32):wrap .u32 (v.toNat:Int)=(v.toNat:Int):=Enb _ ⟨by omega,by have:=v.isLt;omega⟩
def sh1 (v:BitVec 32):Int.fdiv (v.toNat:Int) 2=((v >>> 1).toNat:Int):=by
 rw[Cib _ (by omega),BitVec.toNat_ushiftRight,Nat.shiftRight_eq_div_pow];omega
def Axb (v:BitVec 32):((wrap .u32 ((ofInt (IntKind.bits .u32) (v.toNat:Int) &&& ofInt (IntKind.bits .u32) 1).toNat))==1)=v.getLsbD 0:=by
 show (wrap .u32 (((ofInt 32 (v.toNat:Int) &&& ofInt 32 1).toNat:Nat):Int)==1)=_;rw[show ofInt 32 (v.toNat:Int)=v from Faa v,Awb,Bob,BitVec.toNat_and,show (ofInt 32 1).toNat=1 from by decide,Nat.and_one_is_mod,Cxb,beq_iff_eq,decide_eq_true_iff];omega
def Ayb (v w:BitVec 32) (x:Int) (h:ofInt 32 x=w):wrap .u32 ((ofInt (IntKind.bits .u32) (v.toNat:Int) ^^^ ofInt (IntKind.bits .u32) x).toNat)=((v ^^^ w).toNat:Int):=by
 show wrap .u32 (((ofInt 32 (v.toNat:Int) ^^^ ofInt 32 x).toNat:Nat):Int)=_;rw[show ofInt 32 (v.toNat:Int)=v from Faa v,h];exact Awb _
def Bpb (K:IntKind) (h:1≤IntKind.bits K):(2:Int) ^ (min (toNat 1) (IntKind.bits K))=2:=by
 rw[show toNat 1=1 from rfl,Cab h];rfl
def Joa (l:List Int) (x8 x9:Int):∀ (n:Nat) (v:BitVec 32) (i:Int),0≤i→8-i=n→Tot (λ k=>Gi k (v.toNat:Int) l x8 x9 i) (λ r=>r=(((F9a n v).toNat:Int),l,x8,x9)):=by
 intro n
 induction n with
 |zero=>
  intro v i h0 hn;refine Tot.succ ?_;simp only[Gi];exact Bwb (by omega) (Brb rfl)
 |succ n ih=>
  intro v i h0 hn;refine Tot.succ ?_;simp only[Gi];refine Bvb (by omega) ?_;rw[w64 (n:=i+1) (by omega) (by omega),Axb,Bpb _ (by decide),sh1,Ayb _ 2197175160#32 _ (by decide)];have e:F9a (n+1) v=F9a n (cst v):=rfl;rw[e];refine Bxb (λ h=>?_) (λ h=>?_)
  ·have:=ih (v >>> 1 ^^^ 2197175160#32) (i+1) (by omega) (by omega);rwa [show v >>> 1 ^^^ 2197175160#32=cst v by unfold cst;rw[if_pos h]]at this ⊢
  ·have:=ih (v >>> 1) (i+1) (by omega) (by omega);rwa [show v >>> 1=cst v by unfold cst;rw[if_neg (by rw[h];simp)]]at this ⊢
def U1a {b:Int} (h:0≤b∧b≤255):b=((ofInt 32 b).toNat:Int):=by
 rw[Egb];omega
def Wia (l:List Int) (hb:Aq l) (hl:l.length≤1000000000000):Tot (λ k=>Ii k l) (λ r=>r=crc l):=by
 unfold Ii;refine Bsb (Q:=λ r=>r=(((l.foldl cby 4294967295#32).toNat:Nat):Int)) ?_ ?_
 ·have:=C0b (L:=λ k i s=>Gu k s l (l.length:Int) i) (Q:=λ r=>r=(((l.foldl cby 4294967295#32).toNat:Nat):Int)) l.length (λ i s=>∃ v:BitVec 32,s=(v.toNat:Int)∧(l.drop i).foldl cby v=l.foldl cby 4294967295#32) ?_ ?_ 0 4294967295 (Vv _) ⟨4294967295#32,by decide,by rw[Zf]⟩
  ·exact this
  ·rintro s ⟨v,rfl,hv⟩;simp only[Gu];rw[Wm]at hv;exact Bwb (by omega) (Brb (by rw[← hv];rfl))
  ·rintro i s hi ⟨v,rfl,hv⟩ next;simp only[Gu];have hx:=hb _ (A3 (d:=0) hi);refine Bvb (by omega) (Bvb (by omega) (Bvb (by omega) ?_));rw[Vj,Enb _ ⟨hx.1,by omega⟩,Ayb v _ _ rfl];refine C3b (Joa l _ _ 8 _ 0 (by decide) (by decide)) ?_;simp only;rw[w64 (n:=(i:Int)+1) (by omega) (by omega)];refine next _ ⟨_,rfl,?_⟩;rw[Bo (d:=0) hi,Ys]at hv;exact hv
 ·rintro r rfl;refine Brb ?_;unfold crc Xsa
  have hm:ofInt 32 (if IntKind.signed .u32 then -1 else IntKind.max .u32)=BitVec.allOnes 32:=by decide
  have e:BitVec.allOnes 32 ^^^ l.foldl cby 4294967295#32 = ~~~ (l.foldl cby 4294967295#32):=by rw[Exb];exact BitVec.xor_allOnes
  show wrap .i64 (wrap .u32 (((ofInt 32 (if IntKind.signed .u32 then -1 else IntKind.max .u32) ^^^ ofInt 32 ((l.foldl cby 4294967295#32).toNat:Int)).toNat:Nat):Int))=_;rw[show ofInt 32 ((l.foldl cby 4294967295#32).toNat:Int)=l.foldl cby 4294967295#32 from Faa _,hm,e];have:=(~~~ (l.foldl cby 4294967295#32)).isLt;rw[Awb,w64 (by omega) (by omega)]

def Z1a:Fil:=(((0:Int),((0:Int),(0:Int))),(false,([]:List Int)))
def D8 (f:Fil):Bool:=Gj f.1&&(decide ((f.2.2.length:Int)≤200)&&(!f.2.1||((f.2.2.length:Int)==0)))
def Su (f:Fil):Cn f=some (D8 f):=by
 unfold Cn D8;rw[Qc];simp only[Vu]
 cases Gj f.1<;>cases decide ((length f.2.2:Int)≤200)<;>cases f.2.1<;>rfl
def Gr {f:Fil}:D8 f=true↔Gj f.1=true∧f.2.2.length≤200∧(f.2.1=true→f.2.2=[]):=by
 unfold D8;rw[Va,Va,decide_eq_true_iff]
 have:(!f.2.1||((f.2.2.length:Int)==0))=true↔(f.2.1=true→f.2.2=[]):=by
  cases f.2.1 with
  |false=>simp
  |true=>simp
 rw[this];constructor
 ·rintro⟨h1,h2,h3⟩;exact⟨h1,by omega,h3⟩
 ·rintro⟨h1,h2,h3⟩;exact⟨h1,by omega,h3⟩
def Nla (a b:Fil):Hh a b=some (sle b.1 a.1):=by unfold Hh;rw[A5a];rfl
def hdF (s:Stp) (d:Bool):List Int:=Tta s++Md (Cv (F6a d))
def Mw (f:Fil):List Int:=hdF f.1 f.2.1++txt (Jc f.2.2)
def c4 (c:Int):List Int:=[wrap .u8 (Int.fdiv c (2 ^ (min (toNat 24) (IntKind.bits .i64)))),wrap .u8 (Int.fdiv c (2 ^ (min (toNat 16) (IntKind.bits .i64)))),wrap .u8 (Int.fdiv c (2 ^ (min (toNat 8) (IntKind.bits .i64)))),wrap .u8 c]
def H0 (f:Fil):List Int:=bif D8 f then Mw f++c4 (crc (Mw f)) else []
def M3 {a b:List Int} (ha:Aq a) (hb:Aq b):Aq (a++b):=λ x hx=>(Vm.1 hx).elim (ha x) (hb x)
def Nw (n:Int):Aq (Md (Cv n)):=Jja _ (M1 n)
def Nma (s:Stp) (d:Bool):Aq (hdF s d):=M3 (M3 (Nw _) (M3 (Nw _) (Nw _))) (Nw _)
def Pe (f:Fil):Aq (Mw f):=M3 (Nma _ _) (M3 (Nw _) (Xc _))
def Rpa (c:Int):Aq (c4 c):=by
 intro x hx;simp only[c4,Vl,Dzb,or_false]at hx
 rcases hx with rfl|rfl|rfl|rfl<;>exact N0a _
def Rh (f:Fil):Aq (H0 f):=by
 unfold H0
 cases D8 f with
 |false=>intro x hx;simp at hx
 |true=>exact M3 (Pe f) (Rpa _)
def Nna (s:Stp) (d:Bool):(hdF s d).length≤20:=by
 have h1:=Rha s;have h2:=(Kf (Cv (F6a d))).1;unfold hdF;rw[Vi];omega
def Cra (f:Fil):(Mw f).length≤25+f.2.2.length:=by
 have h1:=Nna f.1 f.2.1;have h2:=Wca (Jc f.2.2);have h3:(Jc f.2.2).size=f.2.2.length:=M2 _;unfold Mw;rw[Vi];omega
def Sw (f:Fil):(H0 f).length≤229:=by
 unfold H0;cases h:D8 f
 ·simp
 have h1:=Cra f;have h2:=(Gr.1 h).2.1;rw[cond_true,Vi];simp only[c4,Vh,Vq];omega
def Mx (f:Fil):Tot (λ k=>Dq k f) (λ r=>r=H0 f):=by
 unfold Dq H0;refine C3b (C4b (Q:=λ b=>b=D8 f) (Su f) rfl) ?_;cases h:D8 f
 ·exact Bub rfl (Brb rfl)
 have h2:=(Gr.1 h).2.1;have h3:(Jc f.2.2).size=f.2.2.length:=M2 _;have h4:=Nna f.1 f.2.1;have h5:=Cra f;refine Btb rfl (C3b (Jla [] f.1 f.2.1 (by simp)) ?_);rw[Wn];refine C3b (Rfa _ _ (by unfold hdF at h4;omega) (by omega)) ?_;have e:Tta f.1++Md (Cv (F6a f.2.1))++txt (Jc f.2.2)=Mw f:=rfl;rw[e];refine C3b (Wia _ (Pe f) (by omega)) ?_;exact Bzb (by simp only[Vh,Vq];omega) (Brb rfl)
def K6 (b:List Int):Option Fil:=(U9 b 0).bind λ a=>(Kea b a.2).bind λ t=>bif D8 (a.1.1,a.1.2,bytesOf t.1)&&decide (H0 (a.1.1,a.1.2,bytesOf t.1)=b) then some (a.1.1,a.1.2,bytesOf t.1) else none
def Afa (b:List Int):Fil×Bool:=match K6 b with
 |some f=>(f,true)
 |none=>(Z1a,false)
def Aga {b:List Int} {f:Fil} (h:K6 b=some f):D8 f=true∧Aq f.2.2∧H0 f=b:=by
 unfold K6 at h;simp only[Eqb]at h;obtain⟨a,_,t,_,h⟩:=h;cases hc:(D8 (a.1.1,a.1.2,bytesOf t.1)&&decide (H0 (a.1.1,a.1.2,bytesOf t.1)=b))
 ·rw[hc]at h;cases h
 rw[hc]at h;simp only[cond_true,Vc]at h;subst h;rw[Va,decide_eq_true_iff]at hc;exact⟨hc.1,Xc _,hc.2⟩
def Noa (s:Stp) (d:Bool) (rest:List Int) (h:Gj s=true):U9 (hdF s d++rest) 0=some ((s,d),(hdF s d).length):=by
 obtain⟨t,c,n⟩:=s;unfold Gj at h;simp only[Va,Fx]at h;obtain⟨⟨t0,t1⟩,⟨c0,c1⟩,n0,n1⟩:=h;have ht:=U6 t0 t1;have hc:=U6 c0 (show c≤1000000000 by omega);have hn:=U6 n0 (show n≤1000000000 by omega)
 have hbit:(((Cv (F6a d):Nat):Int)==1)=d:=by cases d<;>decide
 have hbit2:¬ (1<Cv (F6a d)):=by cases d<;>decide
 have k:∀ (a:List Int) (n:Nat) (b:List Int),n≤1000000000→Xa (a++(Md n++b)) a.length=some (n,(a++Md n).length):=λ a n b hn=>by rw[Hea a n b hn,Vi]
 have e0:hdF (t,c,n) d++rest=Md (Cv t)++(Md (Cv c)++(Md (Cv n)++(Md (Cv (F6a d))++rest))):=by
  unfold hdF Tta;simp only[Vp]
 have el:(hdF (t,c,n) d).length=(Md (Cv t)).length+(Md (Cv c)).length+(Md (Cv n)).length+(Md (Cv (F6a d))).length:=by
  unfold hdF Tta;simp only[Vi];omega
 have g1:=k [] (Cv t) (Md (Cv c)++(Md (Cv n)++(Md (Cv (F6a d))++rest))) (M1 t);have g2:=k (Md (Cv t)) (Cv c) (Md (Cv n)++(Md (Cv (F6a d))++rest)) (M1 c);have g3:=k (Md (Cv t)++Md (Cv c)) (Cv n) (Md (Cv (F6a d))++rest) (M1 n);have g4:=k (Md (Cv t)++Md (Cv c)++Md (Cv n)) (Cv (F6a d)) rest (M1 _);simp only[Vp,Wn,Vq]at g1 g2 g3 g4;simp only[Vi]at g1 g2 g3 g4;unfold U9;rw[e0,el];simp only[Zj]at g1 g2 g3 g4 ⊢;simp only[g1,g2,g3,g4,Vu,decide_eq_false hbit2,cond_false];rw[ht,hc,hn,hbit]
def My {f:Fil} (h:D8 f=true) (hb:Aq f.2.2):K6 (H0 f)=some f:=by
 obtain⟨h1,h2,h3⟩:=Gr.1 h
 have e:H0 f=hdF f.1 f.2.1++(txt (Jc f.2.2)++c4 (crc (Mw f))):=by
  unfold H0;rw[h,cond_true];unfold Mw;rw[Vp]
 have g1:=Noa f.1 f.2.1 (txt (Jc f.2.2)++c4 (crc (Mw f))) h1;have g2:=Rga (hdF f.1 f.2.1) (Jc f.2.2) (c4 (crc (Mw f))) (by rw[M2];omega);rw[← e]at g1 g2;unfold K6;simp only[g1,g2,Vu];rw[Kg hb];have e1:(f.1,f.2.1,f.2.2)=f:=rfl;rw[e1,h,decide_eq_true rfl];rfl
def Csa {a b:List Int} (ha:Aq a) (hb:Aq b):((Jc a).toList==(Jc b).toList)=decide (a=b):=by
 have:teq (Jc a) (Jc b)=decide (a=b):=by
  rw[Cxb,C6,decide_eq_true_iff];constructor
  ·intro h;have:=congrArg bytesOf h;rwa [Kg ha,Kg hb]at this
  ·rintro rfl;rfl
 exact this
def Rqa (l:List Int) (hb:Aq l) (hl:l.length≤1000000000000) (p:Int) (hp:p≤1000000000000):
  Tot (λ k=>Ca k (l,p,true)) (λ r=>r=((⟨#[]⟩:ByteArray),l,p,true)):=by
 unfold Ca;refine C3b (Hfa l hb hl p hp) ?_;exact Bub rfl (Brb rfl)
def Rra {f:Fil}:(((H0 f).length:Int)==0) = !(D8 f):=by
 unfold H0;cases h:D8 f
 ·rfl
 rw[cond_true,Vi,Yt,beq_eq_false_iff_ne];simp only[c4,Vh,Vq];omega
def Mz (b:List Int) (hb:Aq b) (hl:b.length≤1000000000000):Tot (λ k=>D6 k b) (λ r=>r=Afa b):=by
 unfold D6;refine Bsb (Avb b hb hl 0 (Vv _) false) ?_;rintro r (⟨_,⟨s,d⟩,q,h1,h2,rfl⟩|⟨h1,s,d,q,h2,rfl⟩)
 ·refine Bsb (Aub b hb hl q h2) ?_;rintro r (⟨t,q2,h3,h4,rfl⟩|⟨h3,rfl⟩)
  ·have hsz:=(Nga hb h3).2.1;refine Bzb (by dsimp only;omega) (C3b (Mx _) ?_);refine Btb rfl ?_
   have e:Afa b=bif D8 (s,d,bytesOf t)&&decide (H0 (s,d,bytesOf t)=b) then ((s,d,bytesOf t),true) else (Z1a,false):=by
    unfold Afa K6;simp only[h1,h3,Vu]
    cases D8 (s,d,bytesOf t)&&decide (H0 (s,d,bytesOf t)=b)<;>rfl
   simp only;rw[e,Rra];cases hf:D8 (s,d,bytesOf t)
   ·exact Bub rfl (Brb rfl)
   refine Btb rfl ?_;rw[Csa (Rh _) hb]
   cases decide (H0 (s,d,bytesOf t)=b) with
   |false=>exact Bub rfl (Brb rfl)
   |true=>exact Btb rfl (Brb rfl)
  ·refine Bzb (Vv _) (C3b (Mx _) ?_);refine Bub rfl (Brb ?_);unfold Afa K6;simp only[h1,h3,Vu,Dcb];rfl
 ·refine C3b (Rqa b hb hl q (by omega)) ?_;refine Bzb (Vv _) (C3b (Mx _) ?_);refine Bub rfl (Brb ?_);unfold Afa K6;simp only[h1.resolve_left (by simp),Dcb];rfl

end Go.Proofs.YtcpligincipmhaaGreat.Vf
