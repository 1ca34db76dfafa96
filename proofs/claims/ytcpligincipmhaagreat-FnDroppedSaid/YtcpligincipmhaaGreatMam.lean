import Derived.Test.YtcpligincipmhaaGreatMal
set_option linter.all false
namespace Go.Proofs.YtcpligincipmhaaGreat.Vf
open Go
open List (length getD)
open Int (toNat)
open Go.IntKind (wrap)
open BitVec (ofInt)
def Yr:=@Bool.and_false
def Zb:=@Bool.not_true
def Zg:=@List.mem_iff_getElem
def H5b:=@Bool.false_or
def Hdb:=@List.mem_filter
def Heb:=@List.takeWhile_append_dropWhile
def Hrb:=@Bool.not_false
def Htb:=@List.dropWhile_cons
def I6b:=@Bool.eq_iff_iff
def Iub:=@List.filter_sublist
def J5b:=@List.findIdx?_eq_none_iff
def J8b:=@Go.IntWalk.u32_in
def Jab:=@List.append_cancel_left
def Jib:=@Bool.true_or
def Jjb:=@BitVec.xor_comm
def Jkb:=@BitVec.eq_of_toNat_eq
def Jnb:=@Nat.mod_lt

def Gw (l:List Nmd):Prop:=l.Pairwise (λ a b=>tlt a.1 b.1=true)
def Jua:∀ (p:Option ByteArray) (l:List Nmd),chn p l=true↔Gw l∧(∀ r∈l,nOk r=true)∧(∀ q,p=some q→∀ r∈l,tlt q r.1=true)
 |p,[]=>by
  have:chn p []=true:=by cases p<;>rfl
  simp[this,Gw]
 |none,r::l=>by
  simp only[chn,Va,Jua (some r.1) l,Gw,Wi];constructor
  ·rintro⟨h1,h2,h3,h4⟩;exact⟨⟨λ a ha=>h4 _ rfl a ha,h2⟩,λ a ha=>by rcases Vl.1 ha with rfl|ha;exact h1;exact h3 a ha,λ q hq=>by cases hq⟩
  ·rintro⟨⟨h1,h2⟩,h3,_⟩;exact⟨h3 r (by simp),h2,λ a ha=>h3 a (Vi _ ha),λ q hq a ha=>by cases hq;exact h1 a ha⟩
 |some q,r::l=>by
  simp only[chn,Va,Jua (some r.1) l,Gw,Wi];constructor
  ·rintro⟨h1,h0,h2,h3,h4⟩;refine⟨⟨λ a ha=>h4 _ rfl a ha,h2⟩,λ a ha=>by rcases Vl.1 ha with rfl|ha;exact h1;exact h3 a ha,λ q' hq a ha=>?_⟩;cases hq;rcases Vl.1 ha with rfl|ha
   ·exact h0
   ·exact My h0 (h4 _ rfl a ha)
  ·rintro⟨⟨h1,h2⟩,h3,h4⟩;exact⟨h3 r (by simp),h4 q rfl r (by simp),h2,λ a ha=>h3 a (Vi _ ha),λ q' hq a ha=>by cases hq;exact h1 a ha⟩
def Al {l:List Nmd}:Jc l=true↔Gw l∧(∀ r∈l,nOk r=true)∧l.length≤60:=by
 unfold Jc;simp only[Va,Jua,decide_eq_true_eq];constructor
 ·rintro⟨⟨h1,h2,_⟩,h3⟩;exact⟨h1,h2,by omega⟩
 ·rintro⟨h1,h2,h3⟩;exact⟨⟨h1,h2,λ q hq=>by cases hq⟩,by omega⟩
def Qp {x:Nmd}:nOk x=true↔Ao x.1=true∧x.2.length≤400:=by
 unfold nOk;simp only[Va,Vv,decide_eq_false_iff_not];constructor
 ·rintro⟨h1,h2⟩;exact⟨h1,by omega⟩
 ·rintro⟨h1,h2⟩;exact⟨h1,by omega⟩
def Wx {l:List Nmd} (h:Jc l=true):Cva l∧Ou l:=by
 obtain⟨_,h2,h3⟩:=Al.1 h;refine⟨⟨by omega,λ x hx=>by have:=(Qp.1 (h2 x hx)).2;omega⟩,λ x hx=>?_⟩;have:=Apa (Qp.1 (h2 x hx)).1;unfold Jr;omega
def Mqa (y:Nmd) (l:List Nmd) (s:ByteArray):fnd (y::l) s=if teq y.1 s then some 0 else (fnd l s).map (· + 1):=by
 unfold fnd;rw[I4b]
def Wqa {l:List Nmd} {s:ByteArray}:fnd l s=none↔∀ x∈l,x.1≠s:=by
 unfold fnd;rw[J5b];constructor
 ·intro h x hx e;have:=h x hx;rw[Jq.2 e]at this;cases this
 ·intro h x hx
  cases ht:teq x.1 s with
  |false=>rfl
  |true=>exact absurd (Jq.1 ht) (h x hx)
def V9:∀ {l:List Nmd} {s:ByteArray},Gw l→del l s=cut l s
 |[],s,_=>rfl
 |y::l,s,h=>by
  have hc:=Wi.1 h;have ih:=V9 (l:=l) (s:=s) hc.2;unfold del cut at *;rw[Mqa,Gob]
  cases ht:teq y.1 s with
  |true=>
   have hno:∀ x∈l,(!(teq x.1 s))=true:=λ x hx=>by
    cases hx2:teq x.1 s
    ·rfl
    have e1:=Jq.1 ht;have e2:=Jq.1 hx2;have:=hc.1 x hx;rw[e1,e2,Lm]at this;cases this
   rw[if_pos rfl,if_neg (by simp)];show []++l=_;rw[Wb,List.filter_eq_self.2 hno]
  |false=>
   rw[if_neg (by simp),if_pos (show (!false)=true from rfl),← ih]
   cases hf:fnd l s with
   |none=>rfl
   |some i=>rfl
def Nr {l:List Nmd} {s:ByteArray} (h:Gw l):Gw (cut l s):=h.sublist Iub
def Ov {l:List Nmd} {s:ByteArray}:(cut l s).Sublist l:=Iub
def Wy {l:List Nmd} {s:ByteArray} (h:Jc l=true):Jc (cut l s)=true:=by
 obtain⟨h1,h2,h3⟩:=Al.1 h;exact Al.2 ⟨Nr h1,λ x hx=>h2 x (Ov.subset hx),by have:=(Ov (l:=l) (s:=s)).length_le;omega⟩
def B7b {l:List Nmd} {s:ByteArray} {i:Nat} (h:fnd l s=some i):(del l s).length+1=l.length:=by
 have hl:=(Ot h).1;unfold del;rw[h];simp only[Vd,Vu,Wh];omega
def Sla {l m:List Nmd} (h:m.Sublist l) (hf:Cva l):Cva m:=⟨by have:=h.length_le;have:=hf.1;omega,λ x hx=>hf.2 x (h.subset hx)⟩
def Gwa {l m:List Nmd} (h:m.Sublist l) (hf:Ou l):Ou m:=λ x hx=>hf x (h.subset hx)

def Ooa (l:List Int) (x4:Int):∀ (n:Nat) (x3 i:Int),0≤i→8-i=n→Tot (λ k=>I3 k l x3 x4 i) (λ r=>r.1=l∧r.2.2=x4):=by
 intro n
 induction n with
 |zero=>
  intro x3 i h0 hn;refine Tot.succ ?_;simp only[I3];exact Geb (by omega) (G9b ⟨rfl,rfl⟩)
 |succ n ih=>
  intro x3 i h0 hn;refine Tot.succ ?_;simp only[I3];refine Gdb (by omega) ?_;rw[w64 (n:=i+1) (by omega) (by omega)];exact Gfb (λ _=>ih _ (i+1) (by omega) (by omega)) (λ _=>ih _ (i+1) (by omega) (by omega))
def Opa (l:List Int) (hl:l.length≤1000000000000):∀ (n i:Nat) (x3:Int),l.length-i=n→i≤l.length→Tot (λ k=>Ii k l x3 (i:Int)) (λ _=>True):=by
 intro n
 induction n with
 |zero=>
  intro i x3 hd hi;refine Tot.succ ?_;simp only[Ii];exact Geb (by omega) (G9b trivial)
 |succ n ih=>
  intro i x3 hd hi;refine Tot.succ ?_;simp only[Ii];refine Gdb (by omega) (Gdb (by omega) (Gdb (by omega) ?_));refine Gab (Ooa l (i:Int) 8 _ 0 (by decide) (by decide)) ?_;rintro⟨a,b,c⟩ ⟨h1,h2⟩;simp only at h1 h2;subst h1 h2;dsimp only;rw[w64 (n:=(i:Int)+1) (by omega) (by omega)];exact ih (i+1) b (by omega) (by omega)
def Jva (l:List Int) (hl:l.length≤1000000000000):Tot (λ k=>Lt k l) (λ _=>True):=by
 unfold Lt;refine Gab (Opa l hl _ 0 _ rfl (Vt _)) (λ r _=>G9b trivial)
def Ara (f:Fil) (hf:Yva f):Tot (λ k=>Bh k f) (λ r=>r.length≤2000000):=by
 unfold Bh
 have hfo:∃ b,Bx f=some b:=by
  unfold Bx;rw[Rm];simp only[Vn]
  cases Ep f.1<;>cases decide ((length f.2.2:Int)≤200)<;>cases f.2.1<;>exact⟨_,rfl⟩
 obtain⟨b,hb⟩:=hfo
 have hl:f.2.2.length≤9:=by have:=hf.2.2.1;omega
 refine Glb (Gmb (Q:=λ r=>r=b) hb rfl) ?_;refine Gfb (λ _=>G9b (by simp)) (λ _=>?_);refine Glb (Cta [] f.1 (by simp)) ?_;refine Glb (Gmb (Q:=λ r=>r=Bna f.2.1) (Mja _) rfl) ?_;have h1:=Eda f.1;refine Glb (V8 _ _ (by simp only[Vd,Vj];omega)) ?_;have h2:=(Mn (Bn (Bna f.2.1))).1;have h3:(La f.2.2).size=f.2.2.length:=Nq _;refine Glb (Mga _ _ (by simp only[Vd,Vj];omega) (by omega)) ?_;have h4:=Sfa (La f.2.2);refine Gab (Jva _ (by simp only[Vd,Vj];omega)) (λ q _=>?_);refine Ghb (by simp only[Vd,Vb,Vj];omega) (G9b ?_);simp only[Vd,Vb,Vj];omega
def Eea (d out:Dsk) (s:ByteArray) (hd:Yya d∧Cwa d) (ho:Yya out∧Cwa out) (hs:Jr s):Tot (λ k=>Ei k d out s) (λ r=>r=bif Ap d&&(Ao s&&Ap out) then (out,true) else (d,false)):=by
 unfold Ei;refine Glb (Qo d hd.1 hd.2) ?_
 cases h1:Ap d with
 |false=>
  refine Gcb rfl (Glb (M5 d hd.1) ?_);exact G9b rfl
 |true=>
  refine Gbb rfl (Glb (Pd s hs) ?_)
  cases h2:Ao s with
  |false=>
   refine Gcb rfl (Glb (M5 d hd.1) ?_);exact G9b rfl
  |true=>
   refine Gbb rfl (Glb (Qo out ho.1 ho.2) ?_)
   cases h3:Ap out with
   |false=>
    refine Gcb rfl (Glb (M5 d hd.1) ?_);exact G9b rfl
   |true=>exact Gbb rfl (G9b rfl)
def Cya (d:Dsk) (s:ByteArray) (hd:Yya d∧Cwa d) (hs:Jr s):Tot (λ k=>Bf k d s) (λ r=>r=bif (fnd d.1 s).isSome&&(Ap d&&(Ao s&&Ap (cut d.1 s,d.2))) then ((cut d.1 s,d.2),true) else (d,false)):=by
 unfold Bf;refine Gab (M5 d hd.1) ?_;rintro r rfl;refine Gab (Cxa r.1 s hd.1.1.1) ?_;rintro i rfl;unfold I7a
 cases h:fnd r.1 s with
 |none=>exact Gdb (by decide) (G9b rfl)
 |some i=>
  dsimp only;refine Geb (by omega) (Gab (Ska r.1 s hd.1.1.1) ?_);rintro c rfl;refine Gab (Eea r (cut r.1 s,r.2) s hd ⟨⟨Sla Ov hd.1.1,hd.1.2⟩,Gwa Ov hd.2.1,hd.2.2⟩ hs) ?_;rintro e rfl;exact G9b rfl

def ptl (x:Nmd):Bool→List Nmd→List Nmd
 |p,[]=>bif p then [] else [x]
 |p,y::l=>(bif !p&&!(tlt y.1 x.1) then [x] else [])++((bif !(teq y.1 x.1) then [y] else [])++ptl x (p||!(tlt y.1 x.1)) l)
def Jwa (l:List Nmd) (s:ByteArray) (b:List Int) (hf:l.length≤1000000000000):∀ (n i:Nat) (acc:List Nmd) (p:Bool),l.length-i=n→i≤l.length→acc.length≤2*i→
  Tot (λ k=>Ck k l s acc p (i:Int) s b) (λ r=>r.1++(bif r.2.1 then [] else [(s,b)])=acc++ptl (s,b) p (l.drop i)∧r.2.2=(s,b)∧r.1.length≤2*l.length):=by
 intro n
 induction n with
 |zero=>
  intro i acc p hd hi ha;refine Tot.succ ?_;simp only[Ck];refine Geb (by omega) (G9b ?_);rw[List.drop_of_length_le (by omega)];exact⟨rfl,rfl,by dsimp only;omega⟩
 |succ n ih=>
  intro i acc p hd hi ha
  have hlt:i<l.length:=by omega
  refine Tot.succ ?_;simp only[Ck];refine Gdb (by omega) ?_;rw[show toNat (i:Int)=i from Vg i,w64 (n:=(i:Int)+1) (by omega) (by omega),Au (d:=Er) hlt];have e0:l.getD i ((⟨#[]⟩:ByteArray),([]:List Int))=l.getD i Er:=rfl;rw[e0]
  have B2:∀ (ac:List Nmd) (q:Bool),ac.length≤2*i+1→Tot (λ k=>cond (decide ((0:Int)≤i)) (cond (decide ((i:Int)<(length l:Int))) (cond (!((l.getD i Er).1.toList==s.toList)) (cond (decide ((0:Int)≤i)) (cond (decide ((i:Int)<(length l:Int))) (cond (Nat.ble ((length ac+length [l.getD i Er])*40) 140737488355328) (Ck k l s (ac++[l.getD i Er]) q ((i:Int)+1) s b) none) none) none) (Ck k l s ac q ((i:Int)+1) s b)) none) none)
    (λ r=>r.1++(bif r.2.1 then [] else [(s,b)])=ac++((bif !(teq (l.getD i Er).1 s) then [l.getD i Er] else [])++ptl (s,b) q (l.drop (i+1)))∧r.2.2=(s,b)∧r.1.length≤2*l.length):=by
   intro ac q hac;refine Gdb (by omega) (Gdb (by omega) (Gfb (λ h=>?_) (λ h=>?_)))
   ·have h':(!(teq (l.getD i Er).1 s))=true:=h;rw[h'];refine Gdb (by omega) (Gdb (by omega) (Ghb (by simp only[Vb,Vj];omega) ?_));refine(ih (i+1) (ac++[l.getD i Er]) q (by omega) (by omega) (by simp only[Vd,Vb,Vj];omega)).mono ?_;rintro r ⟨h1,h2,h3⟩;refine⟨?_,h2,h3⟩;rw[h1,Vp];rfl
   ·have h':(!(teq (l.getD i Er).1 s))=false:=h;rw[h'];exact ih (i+1) ac q (by omega) (by omega) (by omega)
  cases p with
  |true=>
   refine Gbb rfl ?_;refine(B2 acc true (by omega)).mono ?_;rintro r ⟨h1,h2,h3⟩;exact⟨h1,h2,h3⟩
  |false=>
   refine Gcb rfl (Gdb (by omega) (Gdb (by omega) (Gfb (λ h=>?_) (λ h=>?_))))
   ·have h':(!(tlt (l.getD i Er).1 s))=true:=h;refine Ghb (by simp only[Vb,Vj];omega) ?_;refine(B2 (acc++[(s,b)]) true (by simp only[Vd,Vb,Vj];omega)).mono ?_;rintro r ⟨h1,h2,h3⟩;refine⟨?_,h2,h3⟩;rw[h1];simp only[ptl,h',Hrb,Bool.and_self,H5b,cond_true,Vp]
   ·have h':(!(tlt (l.getD i Er).1 s))=false:=h;refine(B2 acc false (by omega)).mono ?_;rintro r ⟨h1,h2,h3⟩;refine⟨?_,h2,h3⟩;rw[h1];simp only[ptl,h',Hrb,Yr,H5b,cond_false,Wb]
def Efa (l:List Nmd) (s:ByteArray) (b:List Int) (hf:l.length≤1000000000000) (hb:b.length≤1000000000000):Tot (λ k=>Ft k l s b) (λ r=>r=ptl (s,b) false l):=by
 unfold Ft;refine Ghb (Jta b hb) ?_;rw[List.nil_append];refine Gab (Jwa l s b hf _ 0 [] false rfl (Nat.zero_le _) (Nat.zero_le _)) ?_;rintro⟨r,q,x,y⟩ ⟨h1,h2,h3⟩;rw[List.drop_zero,List.nil_append]at h1;dsimp only at h1 h2 h3;dsimp only
 cases q with
 |true=>
  refine Gbb rfl (G9b ?_);rw[← h1];simp
 |false=>
  refine Gcb rfl (Ghb (by simp only[Vb,Vj];omega) (G9b ?_));rw[← h1];obtain⟨rfl,rfl⟩:=Prod.mk.inj h2;rfl
def Sma (x:Nmd):∀ (p:Bool) (l:List Nmd),∀ y∈ptl x p l,y∈l∨y=x:=by
 intro p l
 induction l generalizing p with
 |nil=>intro y hy;cases p<;>simp_all [ptl]
 |cons a l ih=>
  intro y hy;simp only[ptl,Vo]at hy;rcases hy with hy|hy|hy
  ·revert hy;cases (!p&&!(tlt a.1 x.1))<;>simp_all
  ·revert hy;cases (!(teq a.1 x.1))<;>simp_all
  ·rcases ih _ y hy with h|h
   ·exact Or.inl (Vi _ h)
   ·exact Or.inr h
def B8b (x:Nmd):∀ (p:Bool) (l:List Nmd),(ptl x p l).length≤l.length+(bif p then 0 else 1):=by
 intro p l
 induction l generalizing p with
 |nil=>cases p<;>simp[ptl]
 |cons a l ih=>
  simp only[ptl,Vd,Vb];have:=ih (p||!(tlt a.1 x.1))
  revert this
  cases p<;>cases tlt a.1 x.1<;>cases teq a.1 x.1<;>simp<;>omega
def Wra (x:Nmd):∀ (l:List Nmd),ptl x true l=cut l x.1:=by
 intro l
 induction l with
 |nil=>rfl
 |cons a l ih=>
  simp only[ptl,Zb,Zs,cond_false,Wb,Jib,ih,cut,Gob]
  cases teq a.1 x.1<;>simp
def Vr (x:Nmd):∀ {l:List Nmd},Gw l→ptl x false l=ins (cut l x.1) x:=by
 intro l
 induction l with
 |nil=>intro _;rfl
 |cons a l ih=>
  intro h;have hl:Gw l:=(Wi.1 h).2;have ha:=(Wi.1 h).1;simp only[ptl,Hrb,Vy,H5b]
  cases ht:tlt a.1 x.1 with
  |true=>
   have he:teq a.1 x.1=false:=by
    cases hq:teq a.1 x.1 with
    |false=>rfl
    |true=>rw[(Jq.1 hq),Lm]at ht;cases ht
   simp only[he,Zb,Hrb,cond_false,cond_true,Wb,ih hl,cut,Gob,if_true];unfold ins plc;rw[Zw,if_pos ht];rfl
  |false=>
   have hc:plc (cut (a::l) x.1) x.1=0:=by
    unfold plc cut;rw[List.length_eq_zero_iff];rw[Gob];cases hq:teq a.1 x.1
    ·rw[Hrb,if_pos rfl,Zw,if_neg (by rw[ht];simp)]
    have hx:=(Jq.1 hq);simp only[Zb,Xs,if_false]
    cases hf:l.filter (λ y => !(teq y.1 x.1)) with
    |nil=>rfl
    |cons b m=>
     have hb:b∈l:=by
      have:b∈l.filter (λ y => !(teq y.1 x.1)):=by rw[hf];exact Yu
      exact(Hdb.1 this).1
     have hab:=ha b hb;rw[hx]at hab;rw[Zw,if_neg (by rw[Aia hab];simp)]
   simp only[Hrb,cond_true,Wra];unfold ins;rw[hc];simp only[Gub,Wb,Yd,cut,Gob]
   cases teq a.1 x.1<;>simp

def Sna {l:List Nmd} {x:Nmd} {p:Bool} (hl:Cva l) (hl':l.length≤999999999999) (hx:x.2.length≤1000000000000):Cva (ptl x p l):=by
 refine⟨?_,λ y hy=>?_⟩
 ·have:=B8b x p l
  revert this
  cases p<;>simp<;>omega
 ·rcases Sma x p l y hy with h|rfl
  ·exact hl.2 y h
  ·exact hx
def Gxa {l:List Nmd} {x:Nmd} {p:Bool} (hl:Ou l) (hx:Jr x.1):Ou (ptl x p l):=by
 intro y hy;rcases Sma x p l y hy with h|rfl
 ·exact hl y h
 ·exact hx
def DIn (d:Dsk):Prop:=(Yya d∧Cwa d)∧d.1.length≤2000000∧d.2.length≤2000000
def Nz {d:Dsk} (h:Ap d=true):DIn d:=by
 unfold Ap at h;rw[Va]at h;have h1:=Wx h.1;have h2:=Wx h.2;exact⟨⟨⟨h1.1,h2.1⟩,h1.2,h2.2⟩,by have:=(Al.1 h.1).2.2;omega,by have:=(Al.1 h.2).2.2;omega⟩
def Gya (d:Dsk) (s:ByteArray) (b:List Int) (hd:DIn d) (hs:Jr s) (hb:b.length≤1000000000000):Tot (λ k=>Bd k d s b) (λ r=>r=bif Ap d&&(Ao s&&Ap (ptl (s,b) false d.1,d.2)) then ((ptl (s,b) false d.1,d.2),true) else (d,false)):=by
 unfold Bd;refine Gab (M5 d hd.1.1) ?_;rintro r rfl;refine Gab (Efa r.1 s b hd.1.1.1.1 hb) ?_;rintro c rfl;refine Gab (Eea r (ptl (s,b) false r.1,r.2) s hd.1 ⟨⟨Sna hd.1.1.1 (by have:=hd.2.1;omega) hb,hd.1.1.2⟩,Gxa hd.1.2.1 hs,hd.1.2.2⟩ hs) ?_;rintro e rfl;exact G9b rfl
def syS (d:Dsk) (s:ByteArray):List Nmd:=match fnd d.1 s with
 |some i=>ptl (s,(d.1.getD i Er).2) false (cut d.2 s)
 |none=>cut d.2 s
def Dwb {d:Dsk} {s:ByteArray} (hd:DIn d) (hs:Jr s):Cva (syS d s)∧Ou (syS d s):=by
 unfold syS;have h1:=Sla (Ov (l:=d.2) (s:=s)) hd.1.1.2;have h2:=Gwa (Ov (l:=d.2) (s:=s)) hd.1.2.2
 cases h:fnd d.1 s with
 |none=>exact⟨h1,h2⟩
 |some i=>
  have hb:=hd.1.1.1.2 _ (A4 (d:=Er) (Ot h).1);have hc:(cut d.2 s).length≤d.2.length:=(Ov (l:=d.2) (s:=s)).length_le;exact⟨Sna h1 (by have:=hd.2.2;omega) hb,Gxa h2 hs⟩
def Mra (d:Dsk) (s:ByteArray) (hd:DIn d) (hs:Jr s):Tot (λ k=>Aq k d s) (λ r=>r=bif Ap d&&(Ao s&&Ap (d.1,syS d s)) then ((d.1,syS d s),true) else (d,false)):=by
 unfold Aq;have hin:=Dwb hd hs;refine Gab (M5 d hd.1.1) ?_;rintro r rfl;refine Gab (Mpa r s hd.1.1.1) ?_;rintro b rfl;refine Gab (Ska r.2 s hd.1.1.2.1) ?_;rintro c rfl
 have e:∀ o,o=syS r s→Tot (λ k=>(Ei k r (r.1,o) s).bind λ r5=>some (r5.1,r5.2)) (λ q=>q=bif Ap r&&(Ao s&&Ap (r.1,syS r s)) then ((r.1,syS r s),true) else (r,false)):=by
  rintro o rfl;refine Gab (Eea r (r.1,syS r s) s hd.1 ⟨⟨hd.1.1.1,hin.1⟩,hd.1.2.1,hin.2⟩ hs) ?_;rintro e rfl;exact G9b rfl
 have hc:(cut r.2 s).length≤r.2.length:=(Ov (l:=r.2) (s:=s)).length_le
 cases h:fnd r.1 s with
 |none=>
  have h':rdN r.1 s=([],false):=by unfold rdN;rw[h]
  rw[h'];refine Gbb rfl (e _ ?_);unfold syS;rw[h]
 |some i=>
  have h':rdN r.1 s=((r.1.getD i Er).2,true):=by unfold rdN;rw[h]
  rw[h'];have hb:=hd.1.1.1.2 _ (A4 (d:=Er) (Ot h).1);refine Gcb rfl (Gab (Efa (cut r.2 s) s _ (by have:=hd.2.2;omega) hb) ?_);rintro o rfl;refine e _ ?_;unfold syS;rw[h]
def syI (d:Dsk) (s:ByteArray):List Nmd:=match fnd d.1 s with
 |some i=>ins (del d.2 s) (s,(d.1.getD i Er).2)
 |none=>del d.2 s
def Cza (l:List Nmd) (s:ByteArray):(del l s).length≤l.length:=by
 cases h:fnd l s with
 |none=>unfold del;rw[h];exact Vw _
 |some i=>have:=B7b h;omega
def B9b (l:List Nmd) (x:Nmd):(ins l x).length=l.length+1:=by
 unfold ins;have:=Yza l x.1;simp only[Vd,Vu,Wh,Vb,Vj];omega
def Wsa (d:Dsk) (s:ByteArray) (hd:DIn d) (hs:Jr s):Tot (λ k=>Dm k d s) (λ r=>r=bif Ap d&&(Ao s&&decide ((syI d s).length≤60)) then ((d.1,syI d s),true) else (d,false)):=by
 unfold Dm;refine Gab (L6 d hd.1.1) ?_;rintro r rfl;refine Gab (Xw r hd.1.1 hd.1.2) ?_;rintro b rfl;cases h1:Ap r
 ·exact Gcb rfl (G9b rfl)
 refine Gbb rfl (Gab (Nx s hs) ?_);rintro b rfl;cases h2:Ao s
 ·exact Gcb rfl (G9b rfl)
 refine Gbb rfl (Gab (Mla r.2 s hd.1.1.2.1) ?_);rintro c rfl;refine Gab (Sia r.1 s hd.1.1.1.1) ?_;rintro i rfl;have hdl:=Cza r.2 s;have hr2:=hd.2.2;have hr1:=hd.2.1
 have e:∀ o,o=syI r s→o.length≤4000000→Tot (λ k=>cond (decide ((length o:Int) > 60)) ((Af k r).bind λ r9=>some (r9,false)) (some ((r.1,o),true))) (λ q=>q=bif true&&(true&&decide ((syI r s).length≤60)) then ((r.1,syI r s),true) else (r,false)):=by
  rintro o rfl _;refine Ggb (λ h=>?_) (λ h=>?_)
  ·refine Gab (L6 r hd.1.1) ?_;rintro q rfl;refine G9b ?_;rw[decide_eq_false (by omega)];rfl
  ·refine G9b ?_;rw[decide_eq_true (by omega)];rfl
 unfold I7a
 cases h:fnd r.1 s with
 |none=>
  refine Geb (by decide) (e _ ?_ (by omega));unfold syI;rw[h]
 |some i=>
  have hl:=(Ot h).1;dsimp only;refine Gdb (by omega) (Gdb (by omega) (Gdb (by omega) ?_));rw[show toNat (i:Int)=i from Int.toNat_natCast i];have hb:=hd.1.1.1.2 _ (A4 (d:=Er) hl);refine Gab (Gmb (Q:=λ q=>q=(r.1.getD i Er).2) (Nf _ hb) rfl) ?_;rintro q rfl;refine Gab (Mna (del r.2 s) (s,(r.1.getD i Er).2) (by omega)) ?_;rintro o rfl;refine e _ ?_ (by rw[B9b];omega);unfold syI;rw[h]

def Soa {d o:Dsk} {b:Bool} (hd:Ap d=true):Ap (bif Ap d&&(b&&Ap o) then (o,true) else (d,false)).1=true:=by
 cases b<;>cases h:Ap o<;>simp[hd,h]
def Wta {d o:Dsk} {a b:Bool} (hd:Ap d=true):Ap (bif a&&(Ap d&&(b&&Ap o)) then (o,true) else (d,false)).1=true:=by
 cases a<;>cases b<;>cases h:Ap o<;>simp[hd,h]
def Spa:∀ (n:Nat) (i:Int) (c:Cur) (a0 a1:List Nmd) (d:Dsk),i=n→n≤6→Ct c→Ap d=true→
  Tot (λ k=>B4 k i c.1 c.2.1 c.2.2 a0 a1 d.1 d.2) (λ r=>Ap (r.2.2.1,r.2.2.2.1)=true∧Ct r.2.2.2.2):=by
 intro n
 induction n with
 |zero=>
  intro i c a0 a1 d hi h6 hc hd;refine Tot.succ ?_;simp only[B4];exact Geb (by omega) (G9b ⟨hd,hc⟩)
 |succ n ih=>
  intro i c a0 a1 d hi h6 hc hd;refine Tot.succ ?_;simp only[B4];refine Gdb (by omega) ?_;rw[w64 (n:=i-1) (by omega) (by omega)];obtain⟨s,c1,e1,hs,k1⟩:=Oo c hc;refine Glb (Gmb (Q:=λ r=>r=(s,c1)) e1 rfl) ?_;obtain⟨x,c2,e2,_,_,_,k2⟩:=Av c1 k1 6 (by decide);refine Glb (Gmb (Q:=λ r=>r=(x,c2)) e2 rfl) ?_;dsimp only;have hin:=Nz hd;have hsh:=(Md s hs).1
  have wr:Tot (λ k=>(Cf k c2).bind λ r5=>(Bh k r5.1).bind λ r6=>(Bd k (d.1,d.2) s r6).bind λ r7=>B4 k (i-1) r5.2.1 r5.2.2.1 r5.2.2.2 a0 a1 r7.1.1 r7.1.2) (λ r=>Ap (r.2.2.1,r.2.2.2.1)=true∧Ct r.2.2.2.2):=by
   refine Gab (Q3 c2 k2) (λ f hf=>?_);refine Gab (Ara f.1 hf.1) (λ b hb=>?_);refine Gab (Gya d s b hin hsh (by omega)) (λ q hq=>?_);have hq':=Soa (d:=d) (o:=(ptl (s,b) false d.1,d.2)) (b:=Ao s) hd;rw[← hq]at hq';exact ih (i-1) f.2 a0 a1 q.1 (by omega) (by omega) hf.2 hq'
  have sy:Tot (λ k=>(Aq k (d.1,d.2) s).bind λ r4=>B4 k (i-1) c2.1 c2.2.1 c2.2.2 a0 a1 r4.1.1 r4.1.2) (λ r=>Ap (r.2.2.1,r.2.2.2.1)=true∧Ct r.2.2.2.2):=by
   refine Gab (Mra d s hin hsh) (λ q hq=>?_);have hq':=Soa (d:=d) (o:=(d.1,syS d s)) (b:=Ao s) hd;rw[← hq]at hq';exact ih (i-1) c2 a0 a1 q.1 (by omega) (by omega) k2 hq'
  refine Gfb (λ _=>?_) (λ _=>Gfb (λ h=>Gfb (λ _=>sy) (λ _=>wr)) (λ _=>Gfb (λ _=>sy) (λ _=>wr)));refine Gab (Cya d s hin.1 hsh) (λ q hq=>?_);have hq':=Wta (d:=d) (o:=(cut d.1 s,d.2)) (a:=(fnd d.1 s).isSome) (b:=Ao s) hd;rw[← hq]at hq';exact ih (i-1) c2 a0 a1 q.1 (by omega) (by omega) k2 hq'
def Sqa (c:Cur) (hc:Ct c):Tot (λ k=>Fi k c) (λ r=>Ap r.1=true∧Ct r.2):=by
 unfold Fi;obtain⟨x,c2,e2,h0,h1,_,k2⟩:=Av c hc 7 (by decide);have h1:=h1 (by decide);refine Glb (Gmb (Q:=λ r=>r=(x,c2)) e2 rfl) ?_;refine Gab (Spa x.toNat x c2 [] [] ([],[]) (by omega) (by omega) k2 (by decide)) (λ r hr=>?_);exact G9b hr
def Pf (c:Cur) (hc:Ct c):∃ x c',Dd c=some (x,c')∧Jr x∧Ct c':=by
 obtain⟨b,c1,e1,k1⟩:=On c hc 5 (by decide);unfold Dd
 cases b with
 |true=>
  obtain⟨x,c',e,hx,k⟩:=M5a c1 k1 [(⟨#[]⟩:ByteArray),(⟨#[65]⟩:ByteArray),(⟨#[97,32,98]⟩:ByteArray),(⟨#[116,119,101,110,116,121,111,110,101,98,121,116,101,115,116,119,101,110,116,121,111]⟩:ByteArray),(⟨#[116,119,101,110,116,121,98,121,116,101,115,116,119,101,110,116,121,98,121,116]⟩:ByteArray),(⟨#[47]⟩:ByteArray)] (by decide) (by decide);refine⟨x,c',by simp only[e1,e,Vn,cond_true],?_,k⟩;simp only[Vl,Zr,or_false]at hx;unfold Jr
  rcases hx with rfl|rfl|rfl|rfl|rfl|rfl<;>decide
 |false=>
  obtain⟨x,c',e,hx,k⟩:=Oo c1 k1;exact⟨x,c',by simp only[e1,e,Vn,cond_false],(Md x hx).1,k⟩
def Sra {l:List Nmd} {x:Nmd} (h:Cva l) (hl:l.length≤999) (hx:x.2.length≤1000000000000):Cva (l++[x]):=by
 refine⟨by simp only[Vd,Vb,Vj];omega,λ y hy=>?_⟩;rcases Vo.1 hy with hy|hy
 ·exact h.2 y hy
 ·rw[Vs.1 hy];exact hx
def Gza {l:List Nmd} {x:Nmd} (h:Ou l) (hx:Jr x.1):Ou (l++[x]):=by
 intro y hy;rcases Vo.1 hy with hy|hy
 ·exact h y hy
 ·rw[Vs.1 hy];exact hx
def Wua (c:Cur) (hc:Ct c):Tot (λ k=>Jt k c) (λ r=>DIn r.1∧Ct r.2):=by
 unfold Jt;refine Gab (Sqa c hc) (λ d hd=>?_);obtain⟨hd,k0⟩:=hd;have hin:=Nz hd;have hd':=hd;unfold Ap at hd';rw[Va]at hd';have g1:=(Al.1 hd'.1).2.2;have g2:=(Al.1 hd'.2).2.2;obtain⟨x,c2,e2,_,_,_,k2⟩:=Av d.2 k0 12 (by decide);refine Glb (Gmb (Q:=λ r=>r=(x,c2)) e2 rfl) ?_;refine Gfb (λ _=>?_) (λ _=>Gfb (λ _=>?_) (λ _=>G9b ⟨hin,k2⟩))
 ·obtain⟨s,c3,e3,hs,k3⟩:=Pf c2 k2;refine Glb (Gmb (Q:=λ r=>r=(s,c3)) e3 rfl) ?_;refine Ghb (by simp only[Vb,Vj];omega) (G9b ⟨⟨⟨⟨Sra hin.1.1.1 (by omega) (Vt _),hin.1.1.2⟩,Gza hin.1.2.1 hs,hin.1.2.2⟩,?_,hin.2.2⟩,k3⟩);simp only[Vd,Vb,Vj];omega
 ·obtain⟨s,c3,e3,hs,k3⟩:=Pf c2 k2;refine Glb (Gmb (Q:=λ r=>r=(s,c3)) e3 rfl) ?_;obtain⟨y,c4,e4,y0,y1,_,k4⟩:=Av c3 k3 2 (by decide);have y1:=y1 (by decide);refine Glb (Gmb (Q:=λ r=>r=(y,c4)) e4 rfl) ?_;dsimp only;rw[w64 (n:=400+y) (by omega) (by omega)];refine Gdb rfl (Gdb (by omega) (Gdb (by omega) (Ghb (by simp only[List.length_cons,List.length_nil];omega) (G9b ⟨⟨⟨⟨hin.1.1.1,Sra hin.1.1.2 (by omega) ?_⟩,hin.1.2.1,Gza hin.1.2.2 hs⟩,hin.2.1,?_⟩,k4⟩))))
  ·simp only[Jeb];omega
  ·simp only[Vd,Vb,Vj];omega

section
open Go
end

def Sn (p:Nmd→Bool):∀ l:List Nmd,l.take (l.takeWhile p).length=l.takeWhile p∧l.drop (l.takeWhile p).length=l.dropWhile p
 |[]=>⟨rfl,rfl⟩
 |y::l=>by
  obtain⟨h1,h2⟩:=Sn p l;simp only[Zw,Htb]
  cases p y with
  |true=>simp[h1,h2]
  |false=>simp
def H0a {p:Nmd→Bool}:∀ {l:List Nmd} {y:Nmd},y∈l.takeWhile p→p y=true
 |[],y,h=>by simp at h
 |z::l,y,h=>by
  simp only[Zw]at h;cases hz:p z
  ·rw[hz]at h;simp at h
  rw[hz]at h;simp only[if_true]at h;rcases Vl.1 h with rfl|h
  ·exact hz
  ·exact H0a h
def Z0a (l:List Nmd) (x:Nmd):ins l x=l.takeWhile (λ y=>tlt y.1 x.1)++([x]++l.dropWhile (λ y=>tlt y.1 x.1)):=by
 unfold ins plc;obtain⟨h1,h2⟩:=Sn (λ y=>tlt y.1 x.1) l;rw[h1,h2,Vp]
def D0a {x:Nmd}:∀ {l:List Nmd},Gw l→(∀ y∈l,y.1≠x.1)→∀ z∈l.dropWhile (λ y=>tlt y.1 x.1),tlt x.1 z.1=true
 |[],_,_,z,hz=>by simp at hz
 |y::l,hs,hn,z,hz=>by
  obtain⟨h1,h2⟩:=Wi.1 hs;simp only[Htb]at hz
  cases hy:tlt y.1 x.1 with
  |true=>
   rw[hy]at hz;simp only[if_true]at hz;exact D0a h2 (λ w hw=>hn w (Vi _ hw)) z hz
  |false=>
   rw[hy]at hz;simp only[Xs,if_false]at hz
   have hxy:tlt x.1 y.1=true:=by
    cases hh:tlt x.1 y.1 with
    |true=>rfl
    |false=>exact absurd (Aha hy hh) (hn y (by simp))
   rcases Vl.1 hz with rfl|hz
   ·exact hxy
   ·exact My hxy (h1 z hz)
def Sc {l:List Nmd} {x:Nmd} (hs:Gw l) (hn:∀ y∈l,y.1≠x.1):Gw (ins l x):=by
 rw[Z0a]
 have hs':Gw (l.takeWhile (λ y=>tlt y.1 x.1)++l.dropWhile (λ y=>tlt y.1 x.1)):=by rw[Heb];exact hs
 obtain⟨h1,h2,h3⟩:=Zc.1 hs';have h4:∀ y∈l.takeWhile (λ y=>tlt y.1 x.1),tlt y.1 x.1=true:=λ y hy=>H0a (p:=λ y=>tlt y.1 x.1) hy;refine Zc.2 ⟨h1,Wi.2 ⟨λ z hz=>D0a hs hn z hz,h2⟩,λ a ha b hb=>?_⟩;rcases Vl.1 hb with rfl|hb
 ·exact h4 a ha
 ·exact h3 a ha b hb
def W0 {l:List Nmd} {x y:Nmd}:y∈ins l x↔y=x∨y∈l:=by
 rw[Z0a];have e:=Heb (p:=λ y:Nmd=>tlt y.1 x.1) (l:=l);constructor
 ·intro h;rcases Vo.1 h with h|h
  ·right;rw[← e];exact Wa _ h
  ·rcases Vl.1 h with h|h
   ·exact .inl h
   ·right;rw[← e];exact Vq _ h
 ·rintro (rfl|h)
  ·exact Vq _ (by simp)
  ·rw[← e]at h;rcases Vo.1 h with h|h
   ·exact Wa _ h
   ·exact Vq _ (Vi _ h)
def Z1a {l:List Nmd} {x:Nmd} (hl:Jc l=true) (hn:∀ y∈l,y.1≠x.1) (hx:nOk x=true):Jc (ins l x)=decide ((ins l x).length≤60):=by
 obtain⟨h1,h2,h3⟩:=Al.1 hl
 by_cases h:(ins l x).length≤60
 ·rw[decide_eq_true h];exact Al.2 ⟨Sc h1 hn,λ y hy=>by rcases W0.1 hy with rfl|hy;exact hx;exact h2 y hy,h⟩
 ·rw[decide_eq_false h]
  cases hc:Jc (ins l x) with
  |false=>rfl
  |true=>exact absurd (Al.1 hc).2.2 h
def Asa {l:List Nmd} {s:ByteArray}:∀ y∈cut l s,y.1≠s:=λ y hy e=>by
 have:=(Hdb.1 hy).2;simp[e,Jq.2 rfl]at this
def Bab {l:List Nmd} {s:ByteArray}:cut (cut l s) s=cut l s:=by
 unfold cut;rw[List.filter_filter];congr 1;funext x;simp
def Bbb {d:Dsk} {s:ByteArray} (hd:Ap d=true):syS d s=syI d s:=by
 unfold Ap at hd;rw[Va]at hd;have hs:=(Al.1 hd.2).1;unfold syS syI;rw[V9 hs]
 cases fnd d.1 s with
 |none=>rfl
 |some i=>
  show ptl _ false (cut d.2 s)=ins (cut d.2 s) _;rw[Vr _ (Nr hs)];show ins (cut (cut d.2 s) s) _=_;rw[Bab]
def Ssa {d:Dsk} {s:ByteArray} (hd:Ap d=true) (hs:Ao s=true):Ap (d.1,syI d s)=decide ((syI d s).length≤60):=by
 have hd':=hd;unfold Ap at hd';rw[Va]at hd';have h2:=Al.1 hd'.2;unfold Ap;rw[hd'.1,Vy];unfold syI;rw[V9 h2.1]
 cases h:fnd d.1 s with
 |none=>show Jc (cut d.2 s)=decide ((cut d.2 s).length≤60);rw[Wy hd'.2,decide_eq_true (Al.1 (Wy (s:=s) hd'.2)).2.2]
 |some i=>
  refine Z1a (Wy hd'.2) Asa (Qp.2 ⟨hs,?_⟩);have h1:=(Al.1 hd'.1).2.1 _ (A4 (d:=Er) (Ot h).1);exact(Qp.1 h1).2
def Bcb {l:List Nmd} (hs:Gw l) {x y:Nmd} (hx:x∈l) (hy:y∈l) (e:x.1=y.1):x=y:=by
 induction l with
 |nil=>simp at hx
 |cons z l ih=>
  obtain⟨h1,h2⟩:=Wi.1 hs;rcases Vl.1 hx with hx'|hx'
  ·rcases Vl.1 hy with hy'|hy'
   ·rw[hx',hy']
   ·have:=h1 y hy';rw[← hx',e,Lm]at this;cases this
  ·rcases Vl.1 hy with hy'|hy'
   ·have:=h1 x hx';rw[← hy',e,Lm]at this;cases this
   ·exact ih h2 hx' hy'

def wrI (d:Dsk) (s:ByteArray) (b:List Int):List Nmd:=ins (del d.1 s) (s,b)
def Sta (d:Dsk) (s:ByteArray) (b:List Int) (hd:DIn d) (hs:Jr s) (hb:b.length≤1000000000000):Tot (λ k=>Eb k d s b) (λ r=>r=bif Ap d&&(Ao s&&(decide (b.length≤400)&&decide ((wrI d s b).length≤60))) then ((wrI d s b,d.2),true) else (d,false)):=by
 unfold Eb;refine Gab (L6 d hd.1.1) ?_;rintro r rfl;refine Gab (Xw r hd.1.1 hd.1.2) ?_;rintro b1 rfl;cases h1:Ap r
 ·exact Gcb rfl (G9b rfl)
 refine Gbb rfl (Gab (Nx s hs) ?_);rintro b2 rfl;cases h2:Ao s
 ·exact Gcb rfl (G9b rfl)
 refine Gbb rfl (Ggb (λ h=>?_) (λ h=>?_))
 ·rw[decide_eq_false (show ¬ b.length≤400 by omega)];exact G9b rfl
 ·rw[decide_eq_true (show b.length≤400 by omega)];refine Gab (Mla r.1 s hd.1.1.1.1) ?_;rintro c rfl;refine Gab (Gmb (Q:=λ x=>x=b) (Nf b hb) rfl) ?_;rintro e rfl;have hdl:=Cza r.1 s;refine Gab (Mna (del r.1 s) (s,e) (by have:=hd.2.1;omega)) ?_;rintro m rfl;refine Ggb (λ h=>?_) (λ h=>?_)
  ·rw[decide_eq_false (show ¬ (wrI r s e).length≤60 by unfold wrI;omega)];refine Gab (L6 r hd.1.1) ?_;rintro x rfl;exact G9b rfl
  ·rw[decide_eq_true (show (wrI r s e).length≤60 by unfold wrI;omega)];exact G9b rfl
def Msa {d:Dsk} {s:ByteArray} {b:List Int} (hd:Ap d=true) (hs:Ao s=true):ptl (s,b) false d.1=wrI d s b∧Ap (wrI d s b,d.2)=(decide (b.length≤400)&&decide ((wrI d s b).length≤60)):=by
 have hd':=hd;unfold Ap at hd';rw[Va]at hd';have h1:=Al.1 hd'.1
 have e1:wrI d s b=ins (cut d.1 s) (s,b):=by unfold wrI;rw[V9 h1.1]
 refine⟨by rw[e1];exact Vr _ h1.1,?_⟩;unfold Ap;rw[hd'.2,I1b,e1]
 by_cases hb:b.length≤400
 ·rw[decide_eq_true hb,Vy];exact Z1a (Wy hd'.1) Asa (Qp.2 ⟨hs,hb⟩)
 ·rw[decide_eq_false hb,Zs]
  cases hc:Jc (ins (cut d.1 s) (s,b)) with
  |false=>rfl
  |true=>exact absurd (Qp.1 ((Al.1 hc).2.1 (s,b) (W0.2 (.inl rfl)))).2 hb

def TS (l:List ByteArray):Prop:=l.Pairwise (λ a b=>tlt a b=true)
def pk (l:List Nmd) (s:ByteArray):Option Nmd:=match fnd l s with
 |some i=>some (l.getD i Er)
 |none=>none
def P3:ByteArray:=⟨#[]⟩
def tpl (l:List ByteArray) (s:ByteArray):Nat:=(l.takeWhile (λ y=>tlt y s)).length
def wt (l:List ByteArray) (s:ByteArray):List ByteArray:=if tpl l s<l.length∧teq (l.getD (tpl l s) P3) s=true then l else l.take (tpl l s)++[s]++l.drop (tpl l s)
def Dxb (l:List ByteArray) (s:ByteArray):tpl l s≤l.length:=(Jdb _).length_le
def Mta {l:List ByteArray} {s y:ByteArray}:y∈wt l s↔y=s∨y∈l:=by
 unfold wt
 by_cases h:tpl l s<l.length∧teq (l.getD (tpl l s) P3) s=true
 ·rw[if_pos h];refine⟨.inr,λ h'=>?_⟩;rcases h' with rfl|h'
  ·have:=A4 (d:=P3) h.1;rwa [Jq.1 h.2]at this
  ·exact h'
 ·rw[if_neg h];have e:l.take (tpl l s)++l.drop (tpl l s)=l:=Wm _ _;constructor
  ·intro h';rw[Vp]at h';rcases Vo.1 h' with h'|h'
   ·right;rw[← e];exact Wa _ h'
   ·rcases Vo.1 h' with h'|h'
    ·left;simpa using h'
    ·right;rw[← e];exact Vq _ h'
  ·rintro (rfl|h')
   ·simp
   ·rw[← e]at h'
    rcases Vo.1 h' with h'|h'<;>simp[h']
def Mua (p:ByteArray→Bool):∀ l:List ByteArray,l.take (l.takeWhile p).length=l.takeWhile p∧l.drop (l.takeWhile p).length=l.dropWhile p
 |[]=>⟨rfl,rfl⟩
 |y::l=>by
  obtain⟨h1,h2⟩:=Mua p l;simp only[Zw,Htb]
  cases p y with
  |true=>simp[h1,h2]
  |false=>simp
def D1a {p:ByteArray→Bool}:∀ {l:List ByteArray} {y:ByteArray},y∈l.takeWhile p→p y=true
 |[],y,h=>by simp at h
 |z::l,y,h=>by
  simp only[Zw]at h;cases hz:p z
  ·rw[hz]at h;simp at h
  rw[hz]at h;simp only[if_true]at h;rcases Vl.1 h with rfl|h
  ·exact hz
  ·exact D1a h
def Ata {s:ByteArray}:∀ {l:List ByteArray},TS l→(∀ y r,l.dropWhile (λ y=>tlt y s)=y::r→y≠s)→∀ z∈l.dropWhile (λ y=>tlt y s),tlt s z=true
 |[],_,_,z,hz=>by simp at hz
 |y::l,hs,hn,z,hz=>by
  obtain⟨h1,h2⟩:=Wi.1 hs;simp only[Htb]at hz hn
  cases hy:tlt y s with
  |true=>
   rw[hy]at hz hn;simp only[if_true]at hz hn;exact Ata h2 hn z hz
  |false=>
   rw[hy]at hz hn;simp only[Xs,if_false]at hz hn
   have hxy:tlt s y=true:=by
    cases hh:tlt s y with
    |true=>rfl
    |false=>exact absurd (Aha hy hh) (hn y l rfl)
   rcases Vl.1 hz with rfl|hz
   ·exact hxy
   ·exact My hxy (h1 z hz)
def Ro {l:List ByteArray} {s:ByteArray} (hs:TS l):TS (wt l s):=by
 unfold wt
 by_cases h:tpl l s<l.length∧teq (l.getD (tpl l s) P3) s=true
 ·rw[if_pos h];exact hs
 ·rw[if_neg h];obtain⟨e1,e2⟩:=Mua (λ y=>tlt y s) l
  have hd:∀ y r,l.dropWhile (λ y=>tlt y s)=y::r→y≠s:=by
   intro y r hr hy;rw[← e2]at hr
   have hlt:tpl l s<l.length:=by
    rcases Hlb (tpl l s) l.length with h'|h'
    ·exact h'
    ·have:l.drop (tpl l s)=[]:=Wo h';unfold tpl at this;rw[this]at hr;cases hr
   have:l.drop (tpl l s)=l.getD (tpl l s) P3::l.drop (tpl l s+1):=Au hlt;unfold tpl at this;rw[this]at hr;simp only[Yl]at hr;exact h ⟨hlt,Jq.2 (hr.1.trans hy)⟩
  have e1':l.take (tpl l s)=l.takeWhile (λ y=>tlt y s):=e1;have e2':l.drop (tpl l s)=l.dropWhile (λ y=>tlt y s):=e2;rw[e1',e2',Vp]
  have hs':TS (l.takeWhile (λ y=>tlt y s)++l.dropWhile (λ y=>tlt y s)):=by rw[Heb];exact hs
  obtain⟨h1,h2,h3⟩:=Zc.1 hs';refine Zc.2 ⟨h1,Wi.2 ⟨λ z hz=>Ata hs hd z hz,h2⟩,λ a ha b hb=>?_⟩;rcases Vl.1 hb with rfl|hb
  ·exact D1a (p:=λ y=>tlt y b) ha
  ·exact h3 a ha b hb

def Sua {l:List ByteArray} {s:ByteArray}:(wt l s).length≤l.length+1:=by
 unfold wt;have:=Dxb l s;split
 ·omega
 ·simp only[Vd,Vu,Wh,Vb,Vj];omega

section
variable {α σ R:Type} {a b:α} {p:Prop} [Decidable p]
def dT (h:p):cond (decide p) a b=a:=by rw[decide_eq_true h];rfl
def dF (h:¬ p):cond (decide p) a b=b:=by rw[decide_eq_false h];rfl
def bT {m n:Nat} (h:m≤n):cond (Nat.ble m n) a b=a:=by rw[Zj h];rfl
def Gib {L:Nat→Int→σ→Option R} {Q:R→Prop} (n:Nat) (I:Nat→σ→Prop) (hend:∀ s,I n s→Tot (λ k=>L (k+1) (n:Int) s) Q)
  (Kda:∀ i s,i<n→I i s→(∀ s',I (i+1) s'→Tot (λ k=>L k ((i:Int)+1) s') Q)→Tot (λ k=>L (k+1) (i:Int) s) Q):
  ∀ (i:Nat) (s:σ),i≤n→I i s→Tot (λ k=>L k (i:Int) s) Q:=by
 suffices h:∀ (m i:Nat) (s:σ),n-i=m→i≤n→I i s→Tot (λ k=>L k (i:Int) s) Q from λ i s hi hs=>h _ i s rfl hi hs
 intro m
 induction m with
 |zero=>
  intro i s hm hi hs
  obtain rfl:i=n:=by omega
  exact Tot.succ (hend s hs)
 |succ m ih=>
  intro i s hm hi hs;refine Tot.succ (Kda i s (by omega) hs λ s' hs'=>?_);have:=ih (i+1) s' (by omega) (by omega) hs';rwa [show (((i+1:Nat)):Int)=(i:Int)+1 by omega]at this
end
def cst (x:BitVec 32):BitVec 32:=if x.getLsbD 0 then (x >>> 1) ^^^ 2197175160#32 else x >>> 1
def Bpa:Nat→BitVec 32→BitVec 32
 |0,x=>x
 |n+1,x=>Bpa n (cst x)
def cby (x:BitVec 32) (b:Int):BitVec 32:=Bpa 8 (x ^^^ ofInt 32 b)
def Cqb (l:List Int):BitVec 32 := ~~~ (l.foldl cby 4294967295#32)
def crc (l:List Int):Int:=((Cqb l).toNat:Int)
def Fwb (v:BitVec 32):v.getLsbD 0=decide (v.toNat % 2=1):=by
 rw[BitVec.getLsbD,Nat.testBit_zero]
def Jxa (v:BitVec 32):ofInt (IntKind.bits .u32) (v.toNat:Int)=v:=by
 show ofInt 32 (v.toNat:Int)=v;rw[BitVec.ofInt_natCast,BitVec.ofNat_toNat,BitVec.setWidth_eq]
def Jya (n:Nat) (h:n<4294967296):(ofInt (IntKind.bits .i64) (n:Int)).toNat=n:=Rn n (by omega)
def Fcb (v:BitVec 32):wrap .u32 (v.toNat:Int)=(v.toNat:Int):=J8b _ ⟨by omega,by have:=v.isLt;omega⟩
def sh1 (v:BitVec 32):Int.fdiv (v.toNat:Int) 2=((v >>> 1).toNat:Int):=by
 rw[Gqb _ (by omega),BitVec.toNat_ushiftRight,Nat.shiftRight_eq_div_pow];omega
def Fdb (v:BitVec 32):((wrap .u32 ((ofInt (IntKind.bits .u32) (v.toNat:Int) &&& ofInt (IntKind.bits .u32) 1).toNat))==1)=v.getLsbD 0:=by
 show (wrap .u32 (((ofInt 32 (v.toNat:Int) &&& ofInt 32 1).toNat:Nat):Int)==1)=_;rw[show ofInt 32 (v.toNat:Int)=v from Jxa v,Fcb,Fwb,Hsb,show (ofInt 32 1).toNat=1 from by decide,Nat.and_one_is_mod,I6b,beq_iff_eq,decide_eq_true_iff];omega
def Feb (v:BitVec 32):((wrap .i64 ((ofInt (IntKind.bits .i64) (v.toNat:Int) &&& ofInt (IntKind.bits .i64) 1).toNat))==1)=v.getLsbD 0:=by
 have:=v.isLt;rw[Fwb,Hsb,Jya _ v.isLt,show (ofInt (IntKind.bits .i64) 1).toNat=1 from by decide,Nat.and_one_is_mod,w64 (by omega) (by omega),I6b,beq_iff_eq,decide_eq_true_iff];omega
def Ffb (v w:BitVec 32) (x:Int) (h:ofInt 32 x=w):wrap .u32 ((ofInt (IntKind.bits .u32) (v.toNat:Int) ^^^ ofInt (IntKind.bits .u32) x).toNat)=((v ^^^ w).toNat:Int):=by
 show wrap .u32 (((ofInt 32 (v.toNat:Int) ^^^ ofInt 32 x).toNat:Nat):Int)=_;rw[show ofInt 32 (v.toNat:Int)=v from Jxa v,h];exact Fcb _
def Exb (v w:BitVec 32):wrap .i64 ((ofInt (IntKind.bits .i64) (v.toNat:Int) ^^^ ofInt (IntKind.bits .i64) (w.toNat:Int)).toNat)=((v ^^^ w).toNat:Int):=by
 have:=(v ^^^ w).isLt;rw[BitVec.toNat_xor,Jya _ v.isLt,Jya _ w.isLt,← BitVec.toNat_xor];exact w64 (by omega) (by omega)
def Fxb (K:IntKind) (h:1≤IntKind.bits K):(2:Int) ^ (min (toNat 1) (IntKind.bits K))=2:=by
 rw[show toNat 1=1 from rfl,Zu h];rfl
def Oqa (l:List Int) (x8 x9:Int):∀ (n:Nat) (v:BitVec 32) (i:Int),0≤i→8-i=n→Tot (λ k=>Jw k (v.toNat:Int) l x8 x9 i) (λ r=>r=(((Bpa n v).toNat:Int),l,x8,x9)):=by
 intro n
 induction n with
 |zero=>
  intro v i h0 hn;refine Tot.succ ?_;simp only[Jw];exact Geb (by omega) (G9b rfl)
 |succ n ih=>
  intro v i h0 hn;refine Tot.succ ?_;simp only[Jw];refine Gdb (by omega) ?_;rw[w64 (n:=i+1) (by omega) (by omega),Fdb,Fxb _ (by decide),sh1,Ffb _ 2197175160#32 _ (by decide)];have e:Bpa (n+1) v=Bpa n (cst v):=rfl;rw[e];refine Gfb (λ h=>?_) (λ h=>?_)
  ·have:=ih (v >>> 1 ^^^ 2197175160#32) (i+1) (by omega) (by omega);rwa [show v >>> 1 ^^^ 2197175160#32=cst v by unfold cst;rw[if_pos h]]at this ⊢
  ·have:=ih (v >>> 1) (i+1) (by omega) (by omega);rwa [show v >>> 1=cst v by unfold cst;rw[if_neg (by rw[h];simp)]]at this ⊢
def Jza (l:List Int) (x4:Int):∀ (n:Nat) (v:BitVec 32) (i:Int),0≤i→8-i=n→Tot (λ k=>I3 k l (v.toNat:Int) x4 i) (λ r=>r=(l,((Bpa n v).toNat:Int),x4)):=by
 intro n
 induction n with
 |zero=>
  intro v i h0 hn;refine Tot.succ ?_;simp only[I3];exact Geb (by omega) (G9b rfl)
 |succ n ih=>
  intro v i h0 hn;refine Tot.succ ?_;simp only[I3]
  have hp:(2197175160:Int)=((2197175160#32:BitVec 32).toNat:Int):=by decide
  refine Gdb (by omega) ?_;rw[w64 (n:=i+1) (by omega) (by omega),Feb,Fxb _ (by decide),sh1,hp,Exb];have e:Bpa (n+1) v=Bpa n (cst v):=rfl;rw[e];refine Gfb (λ h=>?_) (λ h=>?_)
  ·have:=ih (v >>> 1 ^^^ 2197175160#32) (i+1) (by omega) (by omega);rwa [show v >>> 1 ^^^ 2197175160#32=cst v by unfold cst;rw[if_pos h]]at this ⊢
  ·have:=ih (v >>> 1) (i+1) (by omega) (by omega);rwa [show v >>> 1=cst v by unfold cst;rw[if_neg (by rw[h];simp)]]at this ⊢
def Mva {b:Int} (h:0≤b∧b≤255):b=((ofInt 32 b).toNat:Int):=by
 rw[I2b];omega
def Bdb (l:List Int) (hb:Aj l) (hl:l.length≤1000000000000):Tot (λ k=>Mh k l) (λ r=>r=crc l):=by
 unfold Mh;refine Gab (Q:=λ r=>r=(((l.foldl cby 4294967295#32).toNat:Nat):Int)) ?_ ?_
 ·have:=Gib (L:=λ k i s=>Kl k s l (l.length:Int) i) (Q:=λ r=>r=(((l.foldl cby 4294967295#32).toNat:Nat):Int)) l.length (λ i s=>∃ v:BitVec 32,s=(v.toNat:Int)∧(l.drop i).foldl cby v=l.foldl cby 4294967295#32) ?_ ?_ 0 4294967295 (Vt _) ⟨4294967295#32,by decide,by rw[Yd]⟩
  ·exact this
  ·rintro s ⟨v,rfl,hv⟩;simp only[Kl];rw[Wf]at hv;exact Geb (by omega) (G9b (by rw[← hv];rfl))
  ·rintro i s hi ⟨v,rfl,hv⟩ next;simp only[Kl];have hx:=hb _ (A4 (d:=0) hi);refine Gdb (by omega) (Gdb (by omega) (Gdb (by omega) ?_));rw[Vg,J8b _ ⟨hx.1,by omega⟩,Ffb v _ _ rfl];refine Glb (Oqa l _ _ 8 _ 0 (by decide) (by decide)) ?_;simp only;rw[w64 (n:=(i:Int)+1) (by omega) (by omega)];refine next _ ⟨_,rfl,?_⟩;rw[Au (d:=0) hi,Ze]at hv;exact hv
 ·rintro r rfl;refine G9b ?_;unfold crc Cqb
  have hm:ofInt 32 (if IntKind.signed .u32 then -1 else IntKind.max .u32)=BitVec.allOnes 32:=by decide
  have e:BitVec.allOnes 32 ^^^ l.foldl cby 4294967295#32 = ~~~ (l.foldl cby 4294967295#32):=by rw[Jjb];exact BitVec.xor_allOnes
  show wrap .i64 (wrap .u32 (((ofInt 32 (if IntKind.signed .u32 then -1 else IntKind.max .u32) ^^^ ofInt 32 ((l.foldl cby 4294967295#32).toNat:Int)).toNat:Nat):Int))=_;rw[show ofInt 32 ((l.foldl cby 4294967295#32).toNat:Int)=l.foldl cby 4294967295#32 from Jxa _,hm,e];have:=(~~~ (l.foldl cby 4294967295#32)).isLt;rw[Fcb,w64 (by omega) (by omega)]
def Beb (l:List Int) (hb:Aj l) (hl:l.length≤1000000000000):Tot (λ k=>Lt k l) (λ r=>r=crc l):=by
 unfold Lt;refine Gab (Q:=λ r=>r=(((l.foldl cby 4294967295#32).toNat:Nat):Int)) ?_ ?_
 ·have:=Gib (L:=λ k i s=>Ii k l s i) (Q:=λ r=>r=(((l.foldl cby 4294967295#32).toNat:Nat):Int)) l.length (λ i s=>∃ v:BitVec 32,s=(v.toNat:Int)∧(l.drop i).foldl cby v=l.foldl cby 4294967295#32) ?_ ?_ 0 4294967295 (Vt _) ⟨4294967295#32,by decide,by rw[Yd]⟩
  ·exact this
  ·rintro s ⟨v,rfl,hv⟩;simp only[Ii];rw[Wf]at hv;exact Geb (by omega) (G9b (by rw[← hv];rfl))
  ·rintro i s hi ⟨v,rfl,hv⟩ next;simp only[Ii];have hx:=hb _ (A4 (d:=0) hi);refine Gdb (by omega) (Gdb (by omega) (Gdb (by omega) ?_));rw[Vg,w64 (n:=l.getD i 0) (by omega) (by omega),Mva hx,Exb];refine Glb (Jza l _ 8 _ 0 (by decide) (by decide)) ?_;simp only;rw[w64 (n:=(i:Int)+1) (by omega) (by omega)];refine next _ ⟨_,rfl,?_⟩;rw[Au (d:=0) hi,Ze]at hv;exact hv
 ·rintro r rfl;refine G9b ?_
  have hp:(4294967295:Int)=((BitVec.allOnes 32:BitVec 32).toNat:Int):=by decide
  rw[hp,Exb,BitVec.xor_allOnes];rfl

def Aua:Fil:=(((0:Int),((0:Int),(0:Int))),(false,([]:List Int)))
def Cu (f:Fil):Bool:=Ep f.1&&(decide ((f.2.2.length:Int)≤200)&&(!f.2.1||((f.2.2.length:Int)==0)))
def Xx (f:Fil):Dy f=some (Cu f):=by
 unfold Dy Cu;rw[U6];simp only[Vn]
 cases Ep f.1<;>cases decide ((length f.2.2:Int)≤200)<;>cases f.2.1<;>rfl
def Ua (f:Fil):Bx f=some (Cu f):=by
 unfold Bx Cu;rw[Rm];simp only[Vn]
 cases Ep f.1<;>cases decide ((length f.2.2:Int)≤200)<;>cases f.2.1<;>rfl
def J9 {f:Fil}:Cu f=true↔Ep f.1=true∧f.2.2.length≤200∧(f.2.1=true→f.2.2=[]):=by
 unfold Cu;rw[Va,Va,decide_eq_true_iff]
 have:(!f.2.1||((f.2.2.length:Int)==0))=true↔(f.2.1=true→f.2.2=[]):=by
  cases f.2.1 with
  |false=>simp
  |true=>simp
 rw[this];constructor
 ·rintro⟨h1,h2,h3⟩;exact⟨h1,by omega,h3⟩
 ·rintro⟨h1,h2,h3⟩;exact⟨h1,by omega,h3⟩
def H1a (a b:Fil):Jv a b=some (sle b.1 a.1):=by unfold Jv;rw[M8a];rfl
def Sva (a b:Fil):Lh a b=some (sle b.1 a.1):=by unfold Lh;rw[E7a];rfl
def hdF (s:Stp) (d:Bool):List Int:=Pia s++Pn (Bn (Bna d))
def Po (f:Fil):List Int:=hdF f.1 f.2.1++txt (La f.2.2)
def c4 (c:Int):List Int:=[wrap .u8 (Int.fdiv c (2 ^ (min (toNat 24) (IntKind.bits .i64)))),wrap .u8 (Int.fdiv c (2 ^ (min (toNat 16) (IntKind.bits .i64)))),wrap .u8 (Int.fdiv c (2 ^ (min (toNat 8) (IntKind.bits .i64)))),wrap .u8 c]
def Lr (f:Fil):List Int:=bif Cu f then Po f++c4 (crc (Po f)) else []
def Q5 {a b:List Int} (ha:Aj a) (hb:Aj b):Aj (a++b):=λ x hx=>(Vo.1 hx).elim (ha x) (hb x)
def Rp (n:Int):Aj (Pn (Bn n)):=Ola _ (Oq n)
def Swa (s:Stp) (d:Bool):Aj (hdF s d):=Q5 (Q5 (Rp _) (Q5 (Rp _) (Rp _))) (Rp _)
def Qq (f:Fil):Aj (Po f):=Q5 (Swa _ _) (Q5 (Rp _) (Cra _))
def Wva (c:Int):Aj (c4 c):=by
 intro x hx;simp only[c4,Vl,Zr,or_false]at hx
 rcases hx with rfl|rfl|rfl|rfl<;>exact Gha _
def Q6 (f:Fil):Aj (Lr f):=by
 unfold Lr
 cases Cu f with
 |false=>intro x hx;simp at hx
 |true=>exact Q5 (Qq f) (Wva _)
def K0a (s:Stp) (d:Bool):(hdF s d).length≤20:=by
 have h1:=Eda s;have h2:=(Mn (Bn (Bna d))).1;unfold hdF;rw[Vd];omega
def Ava (f:Fil):(Po f).length≤25+f.2.2.length:=by
 have h1:=K0a f.1 f.2.1;have h2:=Sfa (La f.2.2);have h3:(La f.2.2).size=f.2.2.length:=Nq _;unfold Po;rw[Vd];omega
def Xy (f:Fil):(Lr f).length≤229:=by
 unfold Lr;cases h:Cu f
 ·simp
 have h1:=Ava f;have h2:=(J9.1 h).2.1;rw[cond_true,Vd];simp only[c4,Vb,Vj];omega
def Qr (f:Fil):Tot (λ k=>Fg k f) (λ r=>r=Lr f):=by
 unfold Fg Lr;refine Glb (Gmb (Q:=λ b=>b=Cu f) (Xx f) rfl) ?_;cases h:Cu f
 ·exact Gcb rfl (G9b rfl)
 have h2:=(J9.1 h).2.1;have h3:(La f.2.2).size=f.2.2.length:=Nq _;have h4:=K0a f.1 f.2.1;have h5:=Ava f;refine Gbb rfl (Glb (Oma [] f.1 f.2.1 (by simp)) ?_);rw[Wb];refine Glb (Wna _ _ (by unfold hdF at h4;omega) (by omega)) ?_;have e:Pia f.1++Pn (Bn (Bna f.2.1))++txt (La f.2.2)=Po f:=rfl;rw[e];refine Glb (Bdb _ (Qq f) (by omega)) ?_;exact Ghb (by simp only[Vb,Vj];omega) (G9b rfl)
def T4 (f:Fil):Tot (λ k=>Bh k f) (λ r=>r=Lr f):=by
 unfold Bh Lr;refine Glb (Gmb (Q:=λ b=>b=Cu f) (Ua f) rfl) ?_;cases h:Cu f
 ·exact Gcb rfl (G9b rfl)
 have h2:=(J9.1 h).2.1;have h3:(La f.2.2).size=f.2.2.length:=Nq _;have h4:=K0a f.1 f.2.1;have h5:=Ava f;have h6:=Eda f.1;refine Gbb rfl (Glb (Cta [] f.1 (by simp)) ?_);rw[Wb];refine Glb (Gmb (Q:=λ r=>r=Bna f.2.1) (Mja _) rfl) ?_;refine Glb (V8 _ _ (by omega)) ?_;refine Glb (Mga _ _ (by unfold hdF at h4;omega) (by omega)) ?_;have e:Pia f.1++Pn (Bn (Bna f.2.1))++txt (La f.2.2)=Po f:=rfl;rw[e];refine Glb (Beb _ (Qq f) (by omega)) ?_;exact Ghb (by simp only[Vb,Vj];omega) (G9b rfl)
def O3 (b:List Int):Option Fil:=(Qx b 0).bind λ a=>(Mha b a.2).bind λ t=>bif Cu (a.1.1,a.1.2,bytesOf t.1)&&decide (Lr (a.1.1,a.1.2,bytesOf t.1)=b) then some (a.1.1,a.1.2,bytesOf t.1) else none
def T5 (b:List Int):Fil×Bool:=match O3 b with
 |some f=>(f,true)
 |none=>(Aua,false)
def K1a {b:List Int} {f:Fil} (h:O3 b=some f):Cu f=true∧Aj f.2.2∧Lr f=b:=by
 unfold O3 at h;simp only[I0b]at h;obtain⟨a,_,t,_,h⟩:=h;cases hc:(Cu (a.1.1,a.1.2,bytesOf t.1)&&decide (Lr (a.1.1,a.1.2,bytesOf t.1)=b))
 ·rw[hc]at h;cases h
 rw[hc]at h;simp only[cond_true,Ve]at h;subst h;rw[Va,decide_eq_true_iff]at hc;exact⟨hc.1,Cra _,hc.2⟩
def Sxa (s:Stp) (d:Bool) (rest:List Int) (h:Ep s=true):Qx (hdF s d++rest) 0=some ((s,d),(hdF s d).length):=by
 obtain⟨t,c,n⟩:=s;unfold Ep at h;simp only[Va,Dg]at h;obtain⟨⟨t0,t1⟩,⟨c0,c1⟩,n0,n1⟩:=h;have ht:=Ana t0 t1;have hc:=Ana c0 (show c≤1000000000 by omega);have hn:=Ana n0 (show n≤1000000000 by omega)
 have hbit:(((Bn (Bna d):Nat):Int)==1)=d:=by cases d<;>decide
 have hbit2:¬ (1<Bn (Bna d)):=by cases d<;>decide
 have k:∀ (a:List Int) (n:Nat) (b:List Int),n≤1000000000→Pq (a++(Pn n++b)) a.length=some (n,(a++Pn n).length):=λ a n b hn=>by rw[Mea a n b hn,Vd]
 have e0:hdF (t,c,n) d++rest=Pn (Bn t)++(Pn (Bn c)++(Pn (Bn n)++(Pn (Bn (Bna d))++rest))):=by
  unfold hdF Pia;simp only[Vp]
 have el:(hdF (t,c,n) d).length=(Pn (Bn t)).length+(Pn (Bn c)).length+(Pn (Bn n)).length+(Pn (Bn (Bna d))).length:=by
  unfold hdF Pia;simp only[Vd];omega
 have g1:=k [] (Bn t) (Pn (Bn c)++(Pn (Bn n)++(Pn (Bn (Bna d))++rest))) (Oq t);have g2:=k (Pn (Bn t)) (Bn c) (Pn (Bn n)++(Pn (Bn (Bna d))++rest)) (Oq c);have g3:=k (Pn (Bn t)++Pn (Bn c)) (Bn n) (Pn (Bn (Bna d))++rest) (Oq n);have g4:=k (Pn (Bn t)++Pn (Bn c)++Pn (Bn n)) (Bn (Bna d)) rest (Oq _);simp only[Vp,Wb,Vj]at g1 g2 g3 g4;simp only[Vd]at g1 g2 g3 g4;unfold Qx;rw[e0,el];simp only[Zf]at g1 g2 g3 g4 ⊢;simp only[g1,g2,g3,g4,Vn,decide_eq_false hbit2,cond_false];rw[ht,hc,hn,hbit]
def Wwa {l:List Int} {q:Nat} {s:Stp} {d:Bool} (hb:Aj l) (h:Qx l 0=some ((s,d),q)):l=hdF s d++l.drop q∧q≤l.length:=by
 unfold Qx at h;simp only[I0b]at h;obtain⟨⟨t,p2⟩,h2,⟨c,p3⟩,h3,⟨n,p4⟩,h4,⟨e,p5⟩,h5,h⟩:=h;obtain⟨b1,b2,b3,b4⟩:=T3 hb h2;obtain⟨c1,c2,c3,c4⟩:=T3 hb h3;obtain⟨d1,d2,d3,d4⟩:=T3 hb h4;obtain⟨e1,e2,e3,e4⟩:=T3 hb h5;cases hd:decide (1<e)
 case true=>simp only[hd,cond_true]at h;cases h
 simp only[hd,cond_false,Ve,Vx]at h;obtain⟨⟨⟨rfl,rfl,rfl⟩,rfl⟩,rfl⟩:=h
 have he:e≤1:=by
  have:=of_decide_eq_false hd;omega
 have hbit:Bn (Bna ((e:Int)==1))=e:=by
  have:e=0∨e=1:=by omega
  rcases this with rfl|rfl<;>decide
 have k:∀ n:Nat,n≤1000000000→Bn (n:Int)=n:=λ n hn=>by unfold Bn;omega
 simp only at b1 b2 c1 c2 d1 d2 e1 e2;refine⟨?_,e4⟩;rw[Yd]at b1;unfold hdF Pia;simp only;rw[k t b2,k c c2,k n d2,hbit,Vp,Vp,Vp,← e1,← d1,← c1,← b1]
def Ub {f:Fil} (h:Cu f=true) (hb:Aj f.2.2):O3 (Lr f)=some f:=by
 obtain⟨h1,h2,h3⟩:=J9.1 h
 have e:Lr f=hdF f.1 f.2.1++(txt (La f.2.2)++c4 (crc (Po f))):=by
  unfold Lr;rw[h,cond_true];unfold Po;rw[Vp]
 have g1:=Sxa f.1 f.2.1 (txt (La f.2.2)++c4 (crc (Po f))) h1;have g2:=Woa (hdF f.1 f.2.1) (La f.2.2) (c4 (crc (Po f))) (by rw[Nq];omega);rw[← e]at g1 g2;unfold O3;simp only[g1,g2,Vn];rw[Oe hb];have e1:(f.1,f.2.1,f.2.2)=f:=rfl;rw[e1,h,decide_eq_true rfl];rfl
def Uc {a b:List Int} (ha:Aj a) (hb:Aj b):((La a).toList==(La b).toList)=decide (a=b):=by
 have:teq (La a) (La b)=decide (a=b):=by
  rw[I6b,Jq,decide_eq_true_iff];constructor
  ·intro h;have:=congrArg bytesOf h;rwa [Oe ha,Oe hb]at this
  ·rintro rfl;rfl
 exact this
def Wxa (l:List Int) (hb:Aj l) (hl:l.length≤1000000000000) (p:Int) (hp:p≤1000000000000):
  Tot (λ k=>Cy k (l,p,true)) (λ r=>r=((⟨#[]⟩:ByteArray),l,p,true)):=by
 unfold Cy;refine Glb (Mia l hb hl p hp) ?_;exact Gcb rfl (G9b rfl)
def Wya {f:Fil}:(((Lr f).length:Int)==0) = !(Cu f):=by
 unfold Lr;cases h:Cu f
 ·rfl
 rw[cond_true,Vd,Zb,beq_eq_false_iff_ne];simp only[c4,Vb,Vj];omega
def T6 (b:List Int) (hb:Aj b) (hl:b.length≤1000000000000):Tot (λ k=>H9 k b) (λ r=>r=T5 b):=by
 unfold H9;refine Gab (Fbb b hb hl 0 (Vt _) false) ?_;rintro r (⟨_,⟨s,d⟩,q,h1,h2,rfl⟩|⟨h1,s,d,q,h2,rfl⟩)
 ·refine Gab (Fab b hb hl q h2) ?_;rintro r (⟨t,q2,h3,h4,rfl⟩|⟨h3,rfl⟩)
  ·have hsz:=(Jra hb h3).2.1;refine Ghb (by dsimp only;omega) (Glb (Qr _) ?_);refine Gbb rfl ?_
   have e:T5 b=bif Cu (s,d,bytesOf t)&&decide (Lr (s,d,bytesOf t)=b) then ((s,d,bytesOf t),true) else (Aua,false):=by
    unfold T5 O3;simp only[h1,h3,Vn]
    cases Cu (s,d,bytesOf t)&&decide (Lr (s,d,bytesOf t)=b)<;>rfl
   simp only;rw[e,Wya];cases hf:Cu (s,d,bytesOf t)
   ·exact Gcb rfl (G9b rfl)
   refine Gbb rfl ?_;rw[Uc (Q6 _) hb]
   cases decide (Lr (s,d,bytesOf t)=b) with
   |false=>exact Gcb rfl (G9b rfl)
   |true=>exact Gbb rfl (G9b rfl)
  ·refine Ghb (Vt _) (Glb (Qr _) ?_);refine Gcb rfl (G9b ?_);unfold T5 O3;simp only[h1,h3,Vn,H3b];rfl
 ·refine Glb (Wxa b hb hl q (by omega)) ?_;refine Ghb (Vt _) (Glb (Qr _) ?_);refine Gcb rfl (G9b ?_);unfold T5 O3;simp only[h1.resolve_left (by simp),H3b];rfl
def T7 (b:List Int) (hb:Aj b) (hl:b.length≤1000000000000):Tot (λ k=>Ed k b) (λ r=>r=T5 b):=by
 have none_of:O3 b=none→T5 b=(Aua,false):=λ h=>by unfold T5;rw[h]
 unfold Ed;refine Gab (B6b b hb hl 0) ?_;rintro r (⟨n1,p1,n2,p2,n3,p3,_,g1,g2,g3,rfl⟩|⟨h,hr⟩)
 ·refine Glb (V7 b hb hl (p3:Int)) ?_;rw[Xv];have g1':Pq b 0=some (n1,p1):=g1
  cases g4:Pq b p3 with
  |none=>
   refine Glb (Eca b hb hl 0) ?_;refine Gbb rfl (Gcb rfl (G9b (none_of ?_).symm));unfold O3 Qx;simp only[g1',g2,g3,g4,Vn,H3b]
  |some x=>
   obtain⟨n4,p4⟩:=x;simp only
   have es:Qx b 0=bif decide (1<n4) then none else some ((((n1:Int),(n2:Int),(n3:Int)),(n4:Int)==1),p4):=by
    unfold Qx;simp only[g1',g2,g3,g4,Vn]
   refine Glb (Eca b hb hl (p4:Int)) ?_;rw[Mka];refine Gbb rfl (Gbb rfl ?_)
   cases g5:Mha b p4 with
   |none=>
    refine Gcb rfl (G9b (none_of ?_).symm);unfold O3;rw[es]
    cases decide (1<n4) with
    |true=>rfl
    |false=>simp only[cond_false,Vn,g5,H3b]
   |some y=>
    obtain⟨t,q⟩:=y;refine Gbb rfl (Ggb (λ h=>G9b (none_of ?_).symm) (λ h=>?_))
    ·unfold O3;rw[es,decide_eq_true (by omega)];rfl
    ·rw[decide_eq_false (by omega),cond_false]at es;have hq:=Jra hb g5;simp only;rw[w64 (n:=(q:Int)+4) (by omega) (by omega)]
     have ef:O3 b=bif Cu (((n1:Int),(n2:Int),(n3:Int)),(n4:Int)==1,bytesOf t)&&decide (Lr (((n1:Int),(n2:Int),(n3:Int)),(n4:Int)==1,bytesOf t)=b) then some (((n1:Int),(n2:Int),(n3:Int)),(n4:Int)==1,bytesOf t) else none:=by
      unfold O3;simp only[es,g5,Vn]
     refine Gfb (λ h4=>G9b (none_of ?_).symm) (λ h4=>?_)
     ·rw[ef];cases hc:(Cu (((n1:Int),(n2:Int),(n3:Int)),(n4:Int)==1,bytesOf t)&&decide (Lr (((n1:Int),(n2:Int),(n3:Int)),(n4:Int)==1,bytesOf t)=b))
      ·rfl
      exfalso;rw[Va,decide_eq_true_iff]at hc;have a1:=(Wwa hb es).1;rw[hq.1]at a1;have a2:=hc.2;unfold Lr at a2;rw[hc.1,cond_true]at a2;unfold Po at a2;simp only at a2;rw[U8,Vp]at a2;rw[← a2]at a1;have a3:=Jab (Jab a1);have a4:=congrArg length a3;rw[a2,Wh]at a4;simp only[c4,Vb,Vj]at a4
      have:(q:Int)+4=(b.length:Int):=by omega
      simp[this]at h4
     ·refine Ghb (by simp only[Vj];omega) ?_;rw[Wb];refine Glb (Gmb (Q:=λ r=>r=Cu (((n1:Int),(n2:Int),(n3:Int)),(n4:Int)==1,bytesOf t)) (Ua _) rfl) ?_;unfold T5;rw[ef];cases hf:Cu (((n1:Int),(n2:Int),(n3:Int)),(n4:Int)==1,bytesOf t)
      ·exact Gcb rfl (G9b rfl)
      refine Gbb rfl (Glb (T4 _) ?_);rw[Uc (Q6 _) hb,Vy]
      cases decide (Lr (((n1:Int),(n2:Int),(n3:Int)),(n4:Int)==1,bytesOf t)=b) with
      |false=>exact Gcb rfl (G9b rfl)
      |true=>exact Gbb rfl (G9b rfl)
 ·obtain⟨r1,r2,r3⟩:=r;simp only at hr;subst hr;refine Glb (V7 b hb hl _) ?_;refine Glb (Eca b hb hl _) ?_;refine Gcb rfl (G9b (none_of ?_).symm);unfold O3;rw[Sga (p:=0) (h.resolve_right (by omega))];rfl

def gt (l:List Nmd) (s:ByteArray):Option (List Int):=match fnd l s with
 |some i=>some (l.getD i Er).2
 |none=>none
def K2a (y:Nmd) (l:List Nmd) (s:ByteArray):gt (y::l) s=if y.1=s then some y.2 else gt l s:=by
 unfold gt;rw[Mqa]
 by_cases h:y.1=s
 ·rw[if_pos (Jq.2 h),if_pos h];rfl
 ·rw[if_neg (λ c=>h (Jq.1 c)),if_neg h]
  cases fnd l s<;>rfl
def Ow {l:List Nmd} {s:ByteArray} {b:List Int} (h:gt l s=some b):(s,b)∈l:=by
 induction l with
 |nil=>cases h
 |cons y l ih=>
  rw[K2a]at h
  by_cases e:y.1=s
  ·rw[if_pos e]at h;cases h;subst e;exact Yu
  ·rw[if_neg e]at h;exact Vi _ (ih h)
def Ns {l:List Nmd} {s:ByteArray}:gt l s=none↔∀ x∈l,x.1≠s:=by
 rw[← Wqa];unfold gt
 cases fnd l s with
 |none=>simp
 |some i=>simp
def Sya {l:List Nmd} (hs:Gw l) {x:Nmd} (hx:x∈l):gt l x.1=some x.2:=by
 cases h:gt l x.1 with
 |none=>exact absurd rfl (Ns.1 h x hx)
 |some b=>rw[show x=(x.1,b) from Bcb hs hx (Ow h) rfl]
def H2a {l:List Nmd} (hs:Gw l) {s:ByteArray} {b:List Int}:gt l s=some b↔(s,b)∈l:=⟨Ow,λ h=>Sya hs h⟩
def H3a {l:List Nmd} {s:ByteArray}:(gt l s).isSome=(fnd l s).isSome:=by
 unfold gt
 cases fnd l s<;>rfl
def Ud {l:List Nmd} (hs:Gw l) {s t:ByteArray}:gt (cut l s) t=if s=t then none else gt l t:=by
 by_cases h:s=t
 ·subst h;rw[if_pos rfl,Ns];exact Asa
 ·rw[if_neg h]
  cases hg:gt l t with
  |none=>exact Ns.2 λ x hx=>Ns.1 hg x (Ov.subset hx)
  |some b=>
   rw[H2a (Nr hs)];refine Hdb.2 ⟨Ow hg,?_⟩
   cases ht:teq t s with
   |false=>simp[ht]
   |true=>exact absurd (Jq.1 ht).symm h
def Z2a {l:List Nmd} (hs:Gw l) {x:Nmd} (hn:∀ y∈l,y.1≠x.1) {t:ByteArray}:gt (ins l x) t=if x.1=t then some x.2 else gt l t:=by
 have hi:=Sc hs hn
 by_cases h:x.1=t
 ·subst h;rw[if_pos rfl,H2a hi];exact W0.2 (.inl rfl)
 ·rw[if_neg h]
  cases hg:gt l t with
  |none=>
   refine Ns.2 λ y hy=>?_;rcases W0.1 hy with rfl|hy
   ·exact h
   ·exact Ns.1 hg y hy
  |some b=>
   rw[H2a hi];exact W0.2 (.inr (Ow hg))
def Z3a:∀ {l m:List Nmd},Gw l→Gw m→(∀ s,gt l s=gt m s)→l=m:=by
 have key:∀ {l m:List Nmd},Gw l→Gw m→(∀ s,gt l s=gt m s)→∀ x∈l,x∈m:=λ hl hm h x hx=>by
  have:=h x.1;rw[Sya hl hx]at this;exact Ow this.symm
 intro l m hl hm h;have h1:∀ x,x∈l↔x∈m:=λ x=>⟨key hl hm h x,key hm hl (λ s=>(h s).symm) x⟩;clear h key
 induction l generalizing m with
 |nil=>
  cases m with
  |nil=>rfl
  |cons y m=>exact absurd ((h1 y).2 (by simp)) (by simp)
 |cons x l ih=>
  cases m with
  |nil=>exact absurd ((h1 x).1 (by simp)) (by simp)
  |cons y m=>
   obtain⟨a1,a2⟩:=Wi.1 hl;obtain⟨b1,b2⟩:=Wi.1 hm
   have e:x=y:=by
    rcases Vl.1 ((h1 x).1 (by simp)) with h|h
    ·exact h
    ·rcases Vl.1 ((h1 y).2 (by simp)) with h'|h'
     ·exact h'.symm
     ·have c1:=a1 y h';rw[Aia (b1 x h)]at c1;cases c1
   subst e;congr 1;refine ih a2 b2 λ z=>⟨λ hz=>?_,λ hz=>?_⟩
   ·rcases Vl.1 ((h1 z).1 (Vi _ hz)) with rfl|h
    ·have c:=a1 z hz;rw[Lm]at c;cases c
    ·exact h
   ·rcases Vl.1 ((h1 z).2 (Vi _ hz)) with rfl|h
    ·have c:=b1 z hz;rw[Lm]at c;cases c
    ·exact h
def Sza (l:List Nmd) (s:ByteArray):rdN l s=match gt l s with|some b=>(b,true)|none=>([],false):=by
 unfold rdN gt
 cases fnd l s<;>rfl
def J0 {s:ByteArray} (h:Ao s=true):Jr s:=by
 have:=(Apa h).2;unfold Jr;omega
def Ec {d:Dsk}:Ap d=true↔Jc d.1=true∧Jc d.2=true:=by
 unfold Ap;rw[Va]
def Ng {d:Dsk} (h:Ap d=true):Gw d.1:=(Al.1 (Ec.1 h).1).1
def Rq {d:Dsk} (h:Ap d=true):Gw d.2:=(Al.1 (Ec.1 h).2).1
def LB (l:List Nmd):Prop:=∀ x∈l,Aj x.2
def DB (d:Dsk):Prop:=LB d.1∧LB d.2
def LB.cut {l:List Nmd} (h:LB l) (s:ByteArray):LB (cut l s):=λ x hx=>h x (Ov.subset hx)
def LB.ins {l:List Nmd} (h:LB l) {x:Nmd} (hx:Aj x.2):LB (ins l x):=λ y hy=>by
 rcases W0.1 hy with rfl|hy
 ·exact hx
 ·exact h y hy
def LB.gt {l:List Nmd} (h:LB l) {s:ByteArray} {b:List Int} (hg:gt l s=some b):Aj b:=h _ (Ow hg)
def Nh:Aj []:=λ x hx=>by cases hx
def wr (l:List Nmd) (s:ByteArray) (b:List Int):List Nmd:=ins (cut l s) (s,b)
def sy (d:Dsk) (s:ByteArray):List Nmd:=match gt d.1 s with
 |some b=>wr d.2 s b
 |none=>cut d.2 s
def wrD (d:Dsk) (s:ByteArray) (b:List Int):Dsk×Bool:=bif decide (b.length≤400)&&decide ((wr d.1 s b).length≤60) then ((wr d.1 s b,d.2),true) else (d,false)
def syD (d:Dsk) (s:ByteArray):Dsk×Bool:=bif decide ((sy d s).length≤60) then ((d.1,sy d s),true) else (d,false)
def rmD (d:Dsk) (s:ByteArray):Dsk×Bool:=bif (gt d.1 s).isSome then ((cut d.1 s,d.2),true) else (d,false)
section
variable {d:Dsk} {s:ByteArray} {b:List Int}
def T0a (hd:Ap d=true):wrI d s b=wr d.1 s b:=by
 unfold wrI wr;rw[V9 (Ng hd)]
def T1a (hd:Ap d=true):syI d s=sy d s:=by
 unfold syI sy gt wr;rw[V9 (Rq hd)]
 cases fnd d.1 s<;>rfl
def Ora (hd:Ap d=true) (hs:Ao s=true) (hb:b.length≤1000000000000):Tot (λ k=>Eb k d s b) (λ r=>r=wrD d s b):=by
 refine(Sta d s b (Nz hd) (J0 hs) hb).mono ?_;rintro r rfl;rw[hd,hs,T0a hd];rfl
def D2a (hd:Ap d=true) (hs:Ao s=true) (hb:b.length≤1000000000000):Tot (λ k=>Bd k d s b) (λ r=>r=wrD d s b):=by
 refine(Gya d s b (Nz hd) (J0 hs) hb).mono ?_;rintro r rfl;obtain⟨h1,h2⟩:=Msa (b:=b) hd hs;rw[hd,hs,h1,h2,T0a hd];rfl
def T2a (hd:Ap d=true) (hs:Ao s=true):Tot (λ k=>Dm k d s) (λ r=>r=syD d s):=by
 refine(Wsa d s (Nz hd) (J0 hs)).mono ?_;rintro r rfl;rw[hd,hs,T1a hd];rfl
def Ue (hd:Ap d=true) (hs:Ao s=true):Tot (λ k=>Aq k d s) (λ r=>r=syD d s):=by
 refine(Mra d s (Nz hd) (J0 hs)).mono ?_;rintro r rfl;rw[hd,hs,Bbb hd,Ssa hd hs,T1a hd];rfl
def Bfb (hd:Ap d=true) (hs:Ao s=true) (hb:b.length≤400) (hl:(wr d.1 s b).length≤60):Ap (wr d.1 s b,d.2)=true:=by
 have:=(Msa (b:=b) hd hs).2;rw[T0a hd,decide_eq_true hb,decide_eq_true hl]at this;exact this
def Fgb (hd:Ap d=true) (hs:Ao s=true) (hl:(sy d s).length≤60):Ap (d.1,sy d s)=true:=by
 have:=Ssa hd hs;rw[T1a hd,decide_eq_true hl]at this;exact this
def Mwa (hd:Ap d=true) (hs:Ao s=true):Ap (wrD d s b).1=true:=by
 unfold wrD;cases hc:decide (b.length≤400)&&decide ((wr d.1 s b).length≤60)
 ·exact hd
 rw[Va,decide_eq_true_iff,decide_eq_true_iff]at hc;exact Bfb hd hs hc.1 hc.2
def Dyb (hd:Ap d=true) (hs:Ao s=true):Ap (syD d s).1=true:=by
 unfold syD
 cases hc:decide ((sy d s).length≤60) with
 |false=>exact hd
 |true=>exact Fgb hd hs (of_decide_eq_true hc)
def Z4a (hd:Ap d=true):Ap (rmD d s).1=true:=by
 unfold rmD
 cases (gt d.1 s).isSome with
 |false=>exact hd
 |true=>exact Ec.2 ⟨Wy (Ec.1 hd).1,(Ec.1 hd).2⟩
def T3a (hd:Ap d=true) (h:(gt d.1 s).isSome=true):Ao s=true:=by
 cases hg:gt d.1 s with
 |none=>rw[hg]at h;cases h
 |some b=>exact(Qp.1 ((Al.1 (Ec.1 hd).1).2.1 _ (Ow hg))).1
def T8 (hd:Ap d=true) (hs:Jr s):Tot (λ k=>Bf k d s) (λ r=>r=rmD d s):=by
 refine(Cya d s (Nz hd).1 hs).mono ?_;rintro r rfl;unfold rmD;rw[hd,← H3a];cases h:(gt d.1 s).isSome
 ·rfl
 have h1:Ap (cut d.1 s,d.2)=true:=by
  have:=Z4a (s:=s) hd;unfold rmD at this;rw[h]at this;exact this
 rw[T3a hd h,h1];rfl
end
def lkD (d:Dsk) (s:ByteArray):Fil×Int:=match gt d.1 s with
 |none=>(Aua,1)
 |some b=>match O3 b with
  |some f=>(f,0)
  |none=>(Aua,2)
def T4a {l:List Nmd} {s:ByteArray} {b:List Int} (h:Cva l) (hg:gt l s=some b):b.length≤1000000000000:=h.2 _ (Ow hg)
def Wza {d:Dsk} (hf:Cva d.1) (hb:LB d.1) (s:ByteArray):Tot (λ k=>M8 k d s) (λ r=>r=lkD d s):=by
 unfold M8 lkD;refine Glb (Moa d s hf) ?_;rw[Sza]
 cases hg:gt d.1 s with
 |none=>exact Gcb rfl (G9b rfl)
 |some b=>
  refine Gbb rfl (Glb (T6 b (hb.gt hg) (T4a hf hg)) ?_);unfold T5;dsimp only
  cases O3 b with
  |none=>exact Gcb rfl (G9b rfl)
  |some f=>exact Gbb rfl (G9b rfl)
def Xz {d:Dsk} (hf:Cva d.1) (hb:LB d.1) (s:ByteArray):Tot (λ k=>I8 k d s) (λ r=>r=lkD d s):=by
 unfold I8 lkD;refine Glb (Mpa d s hf) ?_;rw[Sza]
 cases hg:gt d.1 s with
 |none=>exact Gcb rfl (G9b rfl)
 |some b=>
  refine Gbb rfl (Glb (T7 b (hb.gt hg) (T4a hf hg)) ?_);unfold T5;dsimp only
  cases O3 b with
  |none=>exact Gcb rfl (G9b rfl)
  |some f=>exact Gbb rfl (G9b rfl)
def Ox {d:Dsk} {s:ByteArray} {f:Fil}:lkD d s=(f,0)↔∃ b,gt d.1 s=some b∧O3 b=some f:=by
 unfold lkD
 cases gt d.1 s with
 |none=>simp
 |some b=>cases h:O3 b<;>simp[h]
def old (d:Dsk) (s:ByteArray):Option Fil:=(gt d.1 s).bind O3
def kp1 (d:Dsk) (s:ByteArray) (f:Fil):Option (Dsk×Int):=
 let w:=bif (wrD d s (Lr f)).2 then some ((wrD d s (Lr f)).1,(0:Int)) else none
 match old d s with
 |some o=>bif sle o.1 f.1 then w else some (d,1)
 |none=>w
def kp2 (d:Dsk) (s:ByteArray) (sure:Bool) (x:Dsk×Int):Dsk×Int:=bif sure then (bif (syD x.1 s).2 then ((syD x.1 s).1,x.2) else (d,3)) else x
def Me (d:Dsk) (s:ByteArray) (f:Fil) (sure:Bool):Dsk×Int:=match kp1 d s f with
 |some x=>kp2 d s sure x
 |none=>(d,3)
def keep (d:Dsk) (s:ByteArray) (f:Fil) (sure:Bool):Dsk×Int:=bif Ap d&&(Ao s&&Cu f) then Me d s f sure else (d,2)
def X0a:O3 []=none:=by
 cases h:O3 [] with
 |none=>rfl
 |some f=>
  obtain⟨h1,_,h3⟩:=K1a h;unfold Lr at h3;rw[h1]at h3;simp[c4]at h3
def Dzb {d:Dsk} {s:ByteArray} {f:Fil} (hd:Ap d=true) (hs:Ao s=true) {x:Dsk×Int} (h:kp1 d s f=some x):Ap x.1=true:=by
 have hw:∀ x,(bif (wrD d s (Lr f)).2 then some ((wrD d s (Lr f)).1,(0:Int)) else none)=some x→Ap x.1=true:=by
  intro x h
  cases hc:(wrD d s (Lr f)).2 with
  |false=>rw[hc]at h;cases h
  |true=>rw[hc]at h;cases h;exact Mwa hd hs
 unfold kp1 at h;simp only at h;split at h
 ·rename_i o _
  cases hc:sle o.1 f.1 with
  |false=>rw[hc]at h;cases h;exact hd
  |true=>rw[hc]at h;exact hw _ h
 ·exact hw _ h
def E0b {d:Dsk} {s:ByteArray} (hd:Ap d=true) (hs:Ao s=true) {x:Dsk} {c:Int} (hx:Ap x=true) (sure:Bool):
  Tot (λ k=>cond sure ((Dm k x s).bind λ r=>cond (!r.2) ((Af k d).bind λ q=>some (q,3)) (some (r.1,c))) (some (x,c))) (λ r=>r=kp2 d s sure (x,c)):=by
 unfold kp2;cases sure
 ·exact G9b rfl
 refine Gcb rfl (Glb (T2a hx hs) ?_);cases h:(syD x s).2
 case true=>exact Gbb rfl (G9b rfl)
 refine Gcb rfl (Glb (L6 d (Nz hd).1.1) ?_);exact G9b rfl
def X1a (d:Dsk) (s:ByteArray) (f:Fil) (sure:Bool) (hd:DIn d) (hb:LB d.1) (hs:Jr s):Tot (λ k=>M7 k d s f sure) (λ r=>r=keep d s f sure):=by
 have bad:Tot (λ k=>(Af k d).bind λ r2=>some (r2,(2:Int))) (λ r=>r=(d,2)):=by
  refine Glb (L6 d hd.1.1) ?_;exact G9b rfl
 unfold M7 keep;refine Glb (Xw d hd.1.1 hd.1.2) ?_;cases h1:Ap d
 ·exact Gcb rfl bad
 refine Gbb rfl (Glb (Nx s hs) ?_);cases h2:Ao s
 ·exact Gcb rfl bad
 refine Gbb rfl (Glb (Gmb (Q:=λ b=>b=Cu f) (Xx f) rfl) ?_);cases h3:Cu f
 ·exact Gcb rfl bad
 refine Gbb rfl (Glb (L6 d hd.1.1) ?_);refine Glb (Moa d s hd.1.1.1) ?_;have hlen:=Xy f
 have w:∀ {o:Option Fil},(kp1 d s f=bif (wrD d s (Lr f)).2 then some ((wrD d s (Lr f)).1,(0:Int)) else none)→Tot (λ k=>(Fg k f).bind λ r13=>(Eb k d s r13).bind λ r14=>cond (!r14.2) ((Af k d).bind λ r15=>some (r15,(3:Int))) (cond sure ((Dm k r14.1 s).bind λ r16=>cond (!r16.2) ((Af k d).bind λ r17=>some (r17,3)) (some (r16.1,0))) (some (r14.1,0)))) (λ r=>r=Me d s f sure):=by
  intro _ e;refine Glb (Qr f) ?_;refine Glb (Ora h1 h2 (by omega)) ?_;unfold Me;rw[e]
  cases h4:(wrD d s (Lr f)).2 with
  |false=>
   refine Gcb rfl (Glb (L6 d hd.1.1) ?_);exact G9b rfl
  |true=>exact Gbb rfl (E0b h1 h2 (Mwa h1 h2) sure)
 rw[Sza];have eo:old d s=(gt d.1 s).bind O3:=rfl
 cases hg:gt d.1 s with
 |none=>
  rw[hg]at eo;refine Glb (T6 [] Nh (by simp)) ?_;unfold T5;rw[X0a];refine Gbb rfl (w (o:=none) ?_);unfold kp1;rw[eo];rfl
 |some b=>
  rw[hg]at eo;have eo:old d s=O3 b:=eo;refine Glb (T6 b (hb.gt hg) (T4a hd.1.1.1 hg)) ?_;unfold T5
  cases ho:O3 b with
  |none=>
   refine Gbb rfl (w (o:=none) ?_);unfold kp1;rw[eo,ho]
  |some o=>
   rw[ho]at eo;refine Gcb rfl (Glb (Gmb (Q:=λ b=>b=sle o.1 f.1) (H1a f o) rfl) ?_)
   cases hl:sle o.1 f.1 with
   |true=>
    refine Gbb rfl (w (o:=none) ?_);unfold kp1;simp only[eo,hl,cond_true]
   |false=>
    have e1:Me d s f sure=kp2 d s sure (d,1):=by
     unfold Me kp1;simp only[eo,hl,cond_false]
    refine Gcb rfl ?_;show Tot _ (λ r=>r=Me d s f sure);rw[e1];exact E0b h1 h2 h1 sure
def E1b {d:Dsk} {s:ByteArray} (hd:Ap d=true) (hs:Ao s=true) {x:Dsk} {c:Int} (hx:Ap x=true):
  Tot (λ k=>(Aq k x s).bind λ r=>cond (!r.2) ((A6 k d).bind λ q=>some (q,3)) (some (r.1,c))) (λ r=>r=kp2 d s true (x,c)):=by
 unfold kp2;refine Glb (Ue hx hs) ?_;cases h:(syD x s).2
 case true=>exact Gbb rfl (G9b rfl)
 refine Gcb rfl (Glb (M5 d (Nz hd).1.1) ?_);exact G9b rfl
def Mxa (d:Dsk) (s:ByteArray) (f:Fil) (sure:Bool) (hd:DIn d) (hb:LB d.1) (hs:Jr s):Tot (λ k=>Jy k d s f sure) (λ r=>r=keep d s f sure):=by
 have bad:Tot (λ k=>(A6 k d).bind λ r2=>some (r2,(2:Int))) (λ r=>r=(d,2)):=by
  refine Glb (M5 d hd.1.1) ?_;exact G9b rfl
 unfold Jy keep;refine Glb (Qo d hd.1.1 hd.1.2) ?_;cases h1:Ap d
 ·exact Gcb rfl bad
 refine Gbb rfl (Glb (Pd s hs) ?_);cases h2:Ao s
 ·exact Gcb rfl bad
 refine Gbb rfl (Glb (Gmb (Q:=λ b=>b=Cu f) (Ua f) rfl) ?_);cases h3:Cu f
 ·exact Gcb rfl bad
 refine Gbb rfl (Glb (Xz hd.1.1.1 hb s) ?_);have hlen:=Xy f
 have w:(kp1 d s f=bif (wrD d s (Lr f)).2 then some ((wrD d s (Lr f)).1,(0:Int)) else none)→Tot (λ k=>(Bh k f).bind λ r12=>(Bd k d s r12).bind λ r13=>cond r13.2 (cond sure ((Aq k r13.1 s).bind λ r14=>cond (!r14.2) ((A6 k d).bind λ r15=>some (r15,(3:Int))) (some (r14.1,0))) (cond (!r13.2) ((A6 k d).bind λ r16=>some (r16,3)) (some (r13.1,0)))) (cond (!r13.2) ((A6 k d).bind λ r17=>some (r17,3)) (some (r13.1,0)))) (λ r=>r=Me d s f sure):=by
  intro e;refine Glb (T4 f) ?_;refine Glb (D2a h1 h2 (by omega)) ?_;unfold Me;rw[e]
  cases h4:(wrD d s (Lr f)).2 with
  |false=>
   refine Gbb rfl (Gcb rfl (Glb (M5 d hd.1.1) ?_));exact G9b rfl
  |true=>
   refine Gcb rfl ?_
   cases sure with
   |true=>exact Gcb rfl (E1b h1 h2 (Mwa h1 h2))
   |false=>exact Gbb rfl (Gbb rfl (G9b rfl))
 have eo:old d s=(gt d.1 s).bind O3:=rfl;unfold lkD
 cases hg:gt d.1 s with
 |none=>
  rw[hg]at eo;refine Gbb rfl (w ?_);unfold kp1;rw[eo];rfl
 |some b=>
  rw[hg]at eo;have eo:old d s=O3 b:=eo;simp only
  cases ho:O3 b with
  |none=>
   refine Gbb rfl (w ?_);unfold kp1;rw[eo,ho]
  |some o=>
   rw[ho]at eo;refine Gcb rfl (Glb (Gmb (Q:=λ b=>b=sle o.1 f.1) (Sva f o) rfl) ?_)
   cases hl:sle o.1 f.1 with
   |true=>
    refine Gbb rfl (w ?_);unfold kp1;simp only[eo,hl,cond_true]
   |false=>
    have e1:Me d s f sure=kp2 d s sure (d,1):=by
     unfold Me kp1;simp only[eo,hl,cond_false]
    refine Gcb rfl ?_;show Tot _ (λ r=>r=Me d s f sure);rw[e1];refine Glb (M5 d hd.1.1) ?_
    cases sure with
    |true=>exact Gcb rfl (E1b h1 h2 h1)
    |false=>exact Gbb rfl (G9b rfl)

def DG (d:Dsk):Prop:=Ap d=true∧DB d
def Z5a {d:Dsk} {s:ByteArray} {b:List Int} (hd:Ap d=true) (h:gt d.1 s=some b):b.length≤400:=(Qp.1 ((Al.1 (Ec.1 hd).1).2.1 _ (Ow h))).2
def Z6a {d:Dsk} {s:ByteArray} {b:List Int} (h:DB d) (hb:Aj b):DB (wrD d s b).1:=by
 unfold wrD
 cases decide (b.length≤400)&&decide ((wr d.1 s b).length≤60) with
 |false=>exact h
 |true=>exact⟨(h.1.cut s).ins hb,h.2⟩
def Fhb {d:Dsk} {s:ByteArray} (h:DB d):LB (sy d s):=by
 unfold sy
 cases hg:gt d.1 s with
 |none=>exact h.2.cut s
 |some b=>exact(h.2.cut s).ins (h.1.gt hg)
def E2b {d:Dsk} {s:ByteArray} (h:DB d):DB (syD d s).1:=by
 unfold syD
 cases decide ((sy d s).length≤60) with
 |false=>exact h
 |true=>exact⟨h.1,Fhb h⟩
def E3b {d:Dsk} {s:ByteArray} (h:DB d):DB (rmD d s).1:=by
 unfold rmD
 cases (gt d.1 s).isSome with
 |false=>exact h
 |true=>exact⟨h.1.cut s,h.2⟩
def Fib {d:Dsk} {s:ByteArray} {b:List Int} (h:DG d) (hs:Ao s=true) (hb:Aj b):DG (wrD d s b).1:=⟨Mwa h.1 hs,Z6a h.2 hb⟩
def Bgb {d:Dsk} {s:ByteArray} (h:DG d) (hs:Ao s=true):DG (syD d s).1:=⟨Dyb h.1 hs,E2b h.2⟩
def X2a {d:Dsk} {s:ByteArray} (h:DG d):DG (rmD d s).1:=⟨Z4a h.1,E3b h.2⟩
def E4b {d:Dsk} {s:ByteArray} {f:Fil} (hd:DG d) (hs:Ao s=true) {x:Dsk×Int} (h:kp1 d s f=some x):DG x.1:=by
 refine⟨Dzb hd.1 hs h,?_⟩
 have hw:∀ x,(bif (wrD d s (Lr f)).2 then some ((wrD d s (Lr f)).1,(0:Int)) else none)=some x→DB x.1:=by
  intro x h
  cases hc:(wrD d s (Lr f)).2 with
  |false=>rw[hc]at h;cases h
  |true=>rw[hc]at h;cases h;exact Z6a hd.2 (Q6 f)
 unfold kp1 at h;simp only at h;split at h
 ·rename_i o _
  cases hc:sle o.1 f.1 with
  |false=>rw[hc]at h;cases h;exact hd.2
  |true=>rw[hc]at h;exact hw _ h
 ·exact hw _ h
def Fjb {d:Dsk} {s:ByteArray} {sure:Bool} (hd:DG d) (hs:Ao s=true) {x:Dsk×Int} (hx:DG x.1):DG (kp2 d s sure x).1:=by
 unfold kp2;cases sure
 ·exact hx
 rw[cond_true]
 cases (syD x.1 s).2 with
 |false=>exact hd
 |true=>exact Bgb hx hs
def T5a {d:Dsk} {s:ByteArray} {f:Fil} {sure:Bool} (hd:DG d) (hs:Ao s=true):DG (Me d s f sure).1:=by
 unfold Me
 cases h:kp1 d s f with
 |none=>exact hd
 |some x=>exact Fjb hd hs (E4b hd hs h)
def Z7a {d:Dsk} {s:ByteArray} {f:Fil} {sure:Bool} (hd:DG d):DG (keep d s f sure).1:=by
 unfold keep;cases h:Ao s
 ·rw[hd.1];exact hd
 cases Cu f with
 |false=>rw[hd.1];exact hd
 |true=>rw[hd.1];exact T5a hd h
def Bqa (b:Int) (j:Nat):Int:=((ofInt 8 b ^^^ BitVec.twoPow 8 j).toNat:Int)
def Mya (b:Int) (j:Nat):0≤Bqa b j∧Bqa b j≤255:=by
 unfold Bqa;have:=(ofInt 8 b ^^^ BitVec.twoPow 8 j).isLt;omega
def Bhb (b:Int):∀ j,j<8→wrap .u8 ((ofInt (IntKind.bits .u8) b ^^^ ofInt (IntKind.bits .u8) (wrap .u8 ((1:Int)*2 ^ (min j (IntKind.bits .u8))))).toNat)=Bqa b j:=by
 intro j hj
 have h1:∀ j,j<8→ofInt 8 (wrap .u8 ((1:Int)*2 ^ (min j 8)))=BitVec.twoPow 8 j:=by decide
 show wrap .u8 (((ofInt 8 b ^^^ ofInt 8 (wrap .u8 ((1:Int)*2 ^ (min j 8)))).toNat:Nat):Int)=_;rw[h1 j hj];have:=(ofInt 8 b ^^^ BitVec.twoPow 8 j).isLt;rw[Gqa _ (by omega)];rfl
def X3a {b:Int} (hb:0≤b∧b≤255) {j:Nat} (hj:j<8):Bqa b j≠b:=by
 intro h;unfold Bqa at h
 have h1:b=((ofInt 8 b).toNat:Int):=by rw[I2b];omega
 have h2:(ofInt 8 b ^^^ BitVec.twoPow 8 j).toNat=(ofInt 8 b).toNat:=by omega
 have h3:=Jkb h2
 have h4:BitVec.twoPow 8 j=0#8:=by
  have:=congrArg (λ x=>ofInt 8 b ^^^ x) h3
  simpa[← BitVec.xor_assoc] using this
 have h5:∀ j,j<8→BitVec.twoPow 8 j≠0#8:=by decide
 exact h5 j hj h4
def Nt (l:List Int) (n:Nat):List Int:=l.set (n/8) (Bqa (l.getD (n/8) 0) (n % 8))
def H4a (l:List Int) (n:Nat):(Nt l n).length=l.length:=by unfold Nt;rw[Vz]
def K3a {l:List Int} (h:Aj l) (n:Nat):Aj (Nt l n):=λ x hx=>by
 rcases Yg hx with h'|rfl
 ·exact h x h'
 ·exact Mya _ _
def I8a (d:Dsk) (s:ByteArray) (n:Int):Dsk×Bool:=match gt d.1 s with
 |none=>(d,false)
 |some b=>bif inR n 0 (8*(b.length:Int)-1) then ((wr d.1 s (Nt b n.toNat),bif decide (gt d.2 s=some b) then wr d.2 s (Nt b n.toNat) else d.2),true) else (d,false)
def T6a {l:List Nmd} (hs:Gw l) {s:ByteArray} {i:Nat} (h:fnd l s=some i) (b:List Int):l.set i (s,b)=wr l s b:=by
 obtain⟨hi,hn⟩:=Ot h
 have hm:(l.set i (s,b)).map Prod.fst=l.map Prod.fst:=by
  rw[List.map_set];apply Hnb;intro j
  by_cases hj:i=j
  ·subst hj;rw[I9b (by rw[Wd];exact hi),Gvb,Vk hi];rw[Vc,Vk hi]at hn;exact congrArg some hn.symm
  ·rw[Hab hj]
 have h1:Gw (l.set i (s,b)):=by
  have e:∀ m:List Nmd,Gw m↔(m.map Prod.fst).Pairwise (λ a b=>tlt a b=true):=λ m=>by
   unfold Gw;rw[Zz]
  rw[e,hm,← e];exact hs
 refine Z3a h1 (Sc (Nr hs) Asa) λ t=>?_;have h2:=Z2a (x:=(s,b)) (t:=t) (Nr hs (s:=s)) Asa;unfold wr;rw[h2]
 by_cases ht:s=t
 ·subst ht;rw[if_pos rfl,H2a h1];exact List.mem_set hi _
 ·rw[if_neg ht,Ud hs,if_neg ht]
  cases hg:gt l t with
  |none=>
   refine Ns.2 λ x hx=>?_;rcases Yg hx with h'|rfl
   ·exact Ns.1 hg x h'
   ·exact ht
  |some c=>
   rw[H2a h1];obtain⟨j,hj,e⟩:=Zg.1 (Ow hg)
   have hij:i≠j:=by
    rintro rfl;rw[Vc,Vk hi,Ye,e]at hn;exact ht hn.symm
   refine Zg.2 ⟨j,by rw[Vz];exact hj,?_⟩;rw[List.getElem_set_ne hij];exact e
def H5a {l:List Nmd} {s:ByteArray} {b:List Int} (hs:Gw l) (h:(gt l s).isSome=true):(wr l s b).length=l.length:=by
 rw[H3a]at h;obtain⟨i,hi⟩:=Zm.1 h;rw[← T6a hs hi,Vz]
def E5b {d:Dsk} {s:ByteArray} {n:Int} (h:DG d):DG (I8a d s n).1:=by
 unfold I8a
 cases hg:gt d.1 s with
 |none=>exact h
 |some b=>
  simp only;cases inR n 0 (8*(b.length:Int)-1)
  ·exact h
  have hn:=T3a h.1 (s:=s) (by rw[hg];rfl);have hb:=Z5a h.1 hg;have hbb:=K3a (h.2.1.gt hg) n.toNat;have l1:=H5a (b:=Nt b n.toNat) (Ng h.1) (s:=s) (by rw[hg];rfl);have q1:=Bfb h.1 hn (b:=Nt b n.toNat) (by rw[H4a];exact hb) (by rw[l1];exact(Al.1 (Ec.1 h.1).1).2.2);rw[cond_true];cases hc:decide (gt d.2 s=some b)
  ·exact⟨q1,(h.2.1.cut s).ins hbb,h.2.2⟩
  have hg2:=of_decide_eq_true hc;have l2:=H5a (b:=Nt b n.toNat) (Rq h.1) (s:=s) (by rw[hg2];rfl);have h':Ap (d.2,d.1)=true:=Ec.2 ⟨(Ec.1 h.1).2,(Ec.1 h.1).1⟩;have q2:=Bfb h' hn (b:=Nt b n.toNat) (by rw[H4a];exact hb) (by show (wr d.2 s _).length≤60;rw[l2];exact(Al.1 (Ec.1 h.1).2).2.2);exact⟨Ec.2 ⟨(Ec.1 q1).1,(Ec.1 q2).1⟩,(h.2.1.cut s).ins hbb,(h.2.2.cut s).ins hbb⟩
def Bib {d:Dsk} {s:ByteArray} {n:Int} (h:DG d) (hn:n≤9223372036854775807) (hn0 : -9223372036854775808≤n):Tot (λ k=>Kg k d s n) (λ r=>r=I8a d s n):=by
 have hin:=Nz h.1;unfold Kg;refine Glb (M5 d hin.1.1) ?_;refine Glb (Cxa d.1 s hin.1.1.1.1) ?_;refine Glb (Qo d hin.1.1 hin.1.2) ?_;rw[h.1];refine Gbb rfl ?_;unfold I8a;unfold I7a
 cases hf:fnd d.1 s with
 |none=>
  have hg:gt d.1 s=none:=by unfold gt;rw[hf]
  rw[hg];exact Gdb (by decide) (G9b rfl)
 |some i=>
  have hg:gt d.1 s=some (d.1.getD i Er).2:=by unfold gt;rw[hf]
  have hi:=(Ot hf).1;have hnm:=(Ot hf).2;have hb:=Z5a h.1 hg;rw[hg];have e0:d.1.getD i ((⟨#[]⟩:ByteArray),([]:List Int))=d.1.getD i Er:=rfl;simp only[Vg,e0];refine Geb (by omega) (Gdb (by omega) (Gdb (by omega) ?_));rw[w64 (n:=8*((d.1.getD i Er).2.length:Int)) (by omega) (by omega),w64 (n:=8*((d.1.getD i Er).2.length:Int)-1) (by omega) (by omega)];refine Glb (Gmb (Q:=λ b=>b=inR n 0 (8*((d.1.getD i Er).2.length:Int)-1)) (Ob _ _ _) rfl) ?_;cases hr:inR n 0 (8*((d.1.getD i Er).2.length:Int)-1)
  ·exact Gcb rfl (G9b rfl)
  obtain⟨n0,n1⟩:=Dg.1 hr;obtain⟨m,rfl⟩:∃ m:Nat,n=(m:Int):=⟨n.toNat,by omega⟩
  have hm8:m/8<(d.1.getD i Er).2.length:=by omega
  have et:wrap .i64 (Int.tdiv (m:Int) 8)=((m/8:Nat):Int):=by
   rw[H0b (by omega),w64 (by omega) (by omega)];omega
  have eu:wrap .u64 (Int.tmod (m:Int) 8)=((m % 8:Nat):Int):=by
   have h8:∀ j:Nat,j<8→wrap .u64 (j:Int)=(j:Int):=by decide
   rw[Gpb (by omega),← h8 (m % 8) (by omega)];congr 1
  refine Gbb rfl (Glb (Cxa d.2 s hin.1.1.2.1) ?_);simp only[et,eu,Vg,Bhb _ _ (Jnb m (show 0<8 by omega))]
  have ew:d.1.set i ((d.1.getD i Er).1,Nt (d.1.getD i Er).2 m)=wr d.1 s (Nt (d.1.getD i Er).2 m):=by rw[hnm];exact T6a (Ng h.1) hf _
  have ew':d.1.set i ((d.1.getD i Er).1,(d.1.getD i Er).2.set (m/8) (Bqa ((d.1.getD i Er).2.getD (m/8) 0) (m % 8)))=wr d.1 s (Nt (d.1.getD i Er).2 m):=ew;unfold I7a
  cases hf2:fnd d.2 s with
  |none=>
   have hg2:gt d.2 s=none:=by unfold gt;rw[hf2]
   rw[hg2];refine Geb (by decide) (Gdb (by omega) (Gdb (by omega) (Gdb (by omega) (Gdb (by omega) (Geb (by omega) (Gdb (by omega) (Gdb (by omega) (G9b ?_))))))));rw[ew'];rfl
  |some j=>
   have hg2:gt d.2 s=some (d.2.getD j Er).2:=by unfold gt;rw[hf2]
   have hj:=(Ot hf2).1;have hjn:=(Ot hf2).2;have e1:d.2.getD j ((⟨#[]⟩:ByteArray),([]:List Int))=d.2.getD j Er:=rfl;rw[hg2];simp only[Vg,e1];refine Gdb (by omega) (Gdb (by omega) (Gdb (by omega) (Gdb (by omega) (Gdb (by omega) (Gdb (by omega) (Gdb (by omega) (Gdb (by omega) (Gdb (by omega) (Geb (by omega) (Gdb (by omega) (Gdb (by omega) ?_)))))))))));rw[Uc (h.2.2.gt hg2) (h.2.1.gt hg)];refine Ggb (λ he=>?_) (λ he=>?_)
   ·have hl2:(d.2.getD j Er).2.length=(d.1.getD i Er).2.length:=by rw[he]
    refine Gdb (by omega) (Gdb (by omega) (Gdb (by omega) (Gdb (by omega) (Geb (by omega) (Gdb (by omega) (Gdb (by omega) (G9b ?_)))))))
    have ew2:d.2.set j ((d.2.getD j Er).1,(d.2.getD j Er).2.set (m/8) (Bqa ((d.2.getD j Er).2.getD (m/8) 0) (m % 8)))=wr d.2 s (Nt (d.1.getD i Er).2 m):=by
     rw[hjn,he];exact T6a (Rq h.1) hf2 _
    rw[ew',ew2,he,decide_eq_true rfl];rfl
   ·refine G9b ?_;rw[ew',decide_eq_false (λ c=>he (Jgb c))];rfl
def Osa:∀ (n:Nat) (i:Int) (c:Cur) (a0 a1:List Nmd) (d:Dsk),i=n→n≤6→Ct c→DG d→
  Tot (λ k=>B4 k i c.1 c.2.1 c.2.2 a0 a1 d.1 d.2) (λ r=>DG (r.2.2.1,r.2.2.2.1)∧Ct r.2.2.2.2):=by
 intro n
 induction n with
 |zero=>
  intro i c a0 a1 d hi h6 hc hd;refine Tot.succ ?_;simp only[B4];exact Geb (by omega) (G9b ⟨hd,hc⟩)
 |succ n ih=>
  intro i c a0 a1 d hi h6 hc hd;refine Tot.succ ?_;simp only[B4];refine Gdb (by omega) ?_;rw[w64 (n:=i-1) (by omega) (by omega)];obtain⟨s,c1,e1,hs,k1⟩:=Oo c hc;refine Glb (Gmb (Q:=λ r=>r=(s,c1)) e1 rfl) ?_;obtain⟨x,c2,e2,_,_,_,k2⟩:=Av c1 k1 6 (by decide);refine Glb (Gmb (Q:=λ r=>r=(x,c2)) e2 rfl) ?_;dsimp only;obtain⟨hsh,hsn⟩:=Md s hs
  have wr:Tot (λ k=>(Cf k c2).bind λ r5=>(Bh k r5.1).bind λ r6=>(Bd k (d.1,d.2) s r6).bind λ r7=>B4 k (i-1) r5.2.1 r5.2.2.1 r5.2.2.2 a0 a1 r7.1.1 r7.1.2) (λ r=>DG (r.2.2.1,r.2.2.2.1)∧Ct r.2.2.2.2):=by
   refine Gab (Q3 c2 k2) (λ f hf=>?_);refine Glb (T4 f.1) ?_;refine Glb (D2a hd.1 hsn (by have:=Xy f.1;omega)) ?_;exact ih (i-1) f.2 a0 a1 _ (by omega) (by omega) hf.2 (Fib hd hsn (Q6 _))
  have sy:Tot (λ k=>(Aq k (d.1,d.2) s).bind λ r4=>B4 k (i-1) c2.1 c2.2.1 c2.2.2 a0 a1 r4.1.1 r4.1.2) (λ r=>DG (r.2.2.1,r.2.2.2.1)∧Ct r.2.2.2.2):=by
   refine Glb (Ue hd.1 hsn) ?_;exact ih (i-1) c2 a0 a1 _ (by omega) (by omega) k2 (Bgb hd hsn)
  refine Gfb (λ _=>?_) (λ _=>Gfb (λ h=>Gfb (λ _=>sy) (λ _=>wr)) (λ _=>Gfb (λ _=>sy) (λ _=>wr)));refine Glb (T8 hd.1 hsh) ?_;exact ih (i-1) c2 a0 a1 _ (by omega) (by omega) k2 (X2a hd)
def lb0:LB []:=λ x hx=>by cases hx
def dg0:DG ([],[]):=⟨by decide,⟨lb0,lb0⟩⟩
def Bjb (c:Cur) (hc:Ct c):Tot (λ k=>Fi k c) (λ r=>DG r.1∧Ct r.2):=by
 unfold Fi;obtain⟨x,c2,e2,h0,h1,_,k2⟩:=Av c hc 7 (by decide);have h1:=h1 (by decide);refine Glb (Gmb (Q:=λ r=>r=(x,c2)) e2 rfl) ?_;exact Gab (Osa x.toNat x c2 [] [] ([],[]) (by omega) (by omega) k2 dg0) (λ r hr=>G9b hr)
def Z8a {l:List Nmd} {x:Nmd} (h:LB l) (hx:Aj x.2):LB (l++[x]):=λ y hy=>by
 rcases Vo.1 hy with hy|hy
 ·exact h y hy
 ·rw[Vs.1 hy];exact hx
def H6a (n:Nat):Aj (List.replicate n 0):=λ x hx=>by
 rw[List.eq_of_mem_replicate hx];omega
def E6b (c:Cur) (hc:Ct c):Tot (λ k=>Jt k c) (λ r=>(DIn r.1∧DB r.1)∧Ct r.2):=by
 have h0:=Wua c hc
 have h1:Tot (λ k=>Jt k c) (λ r=>DB r.1):=by
  unfold Jt;refine Gab (Bjb c hc) (λ d hd=>?_);obtain⟨hd,k0⟩:=hd;have hin:=Nz hd.1;have g1:=(Al.1 (Ec.1 hd.1).1).2.2;have g2:=(Al.1 (Ec.1 hd.1).2).2.2;obtain⟨x,c2,e2,_,_,_,k2⟩:=Av d.2 k0 12 (by decide);refine Glb (Gmb (Q:=λ r=>r=(x,c2)) e2 rfl) ?_;refine Gfb (λ _=>?_) (λ _=>Gfb (λ _=>?_) (λ _=>G9b hd.2))
  ·obtain⟨s,c3,e3,hs,k3⟩:=Pf c2 k2;refine Glb (Gmb (Q:=λ r=>r=(s,c3)) e3 rfl) ?_;exact Ghb (by simp only[Vb,Vj];omega) (G9b ⟨Z8a hd.2.1 Nh,hd.2.2⟩)
  ·obtain⟨s,c3,e3,hs,k3⟩:=Pf c2 k2;refine Glb (Gmb (Q:=λ r=>r=(s,c3)) e3 rfl) ?_;obtain⟨y,c4,e4,y0,y1,_,k4⟩:=Av c3 k3 2 (by decide);have y1:=y1 (by decide);refine Glb (Gmb (Q:=λ r=>r=(y,c4)) e4 rfl) ?_;dsimp only;rw[w64 (n:=400+y) (by omega) (by omega)];exact Gdb rfl (Gdb (by omega) (Gdb (by omega) (Ghb (by simp only[List.length_cons,List.length_nil];omega) (G9b ⟨hd.2.1,Z8a hd.2.2 (H6a _)⟩))))
 exact(h0.and h1).mono λ r h=>⟨⟨h.1.1,h.2⟩,h.1.2⟩
def Mza (c:Cur) (hc:Ct c):∃ x c',J6 c=some (x,c')∧Ct c':=by
 obtain⟨s,c1,e1,hs,k1⟩:=Gja c hc;obtain⟨x,c2,e2,_,_,_,k2⟩:=Av c1 k1 10 (by decide);unfold J6;simp only[e1,e2,Vn]
 cases x==0 with
 |true=>
  obtain⟨y,c3,e3,_,k3⟩:=Kz c2 k2 [(-1),1000000001] (by decide) (by decide);exact⟨(y,s.2),c3,by simp only[e3,Vn,cond_true],k3⟩
 |false=>
  cases x==1 with
  |true=>
   obtain⟨y,c3,e3,_,k3⟩:=Kz c2 k2 [(-1),1000000,1000001] (by decide) (by decide);exact⟨(s.1,y,s.2.2),c3,by simp only[e3,Vn,cond_true,cond_false],k3⟩
  |false=>
   cases x==2 with
   |true=>
    obtain⟨y,c3,e3,_,k3⟩:=Kz c2 k2 [(-1),20,21] (by decide) (by decide);exact⟨(s.1,s.2.1,y),c3,by simp only[e3,Vn,cond_true,cond_false],k3⟩
   |false=>exact⟨s,c2,by simp only[cond_false],k2⟩
def T7a (c:Cur) (hc:Ct c):Tot (λ k=>Kw k c) (λ r=>(Aj r.1.2.2∧r.1.2.2.length≤2000000)∧Ct r.2):=by
 unfold Kw;refine Gab (Q3 c hc) ?_;rintro⟨f,c1⟩ ⟨hf,k1⟩
 have hl:f.2.2.length≤9:=by have:=hf.2.2.1;dsimp only at this;omega
 obtain⟨x,c2,e2,_,_,_,k2⟩:=Av c1 k1 12 (by decide);refine Glb (Gmb (Q:=λ r=>r=(x,c2)) e2 rfl) ?_;refine Gfb (λ _=>?_) (λ _=>Gfb (λ _=>G9b ⟨⟨hf.2.1,by dsimp only;omega⟩,k2⟩) (λ _=>Gfb (λ _=>?_) (λ _=>G9b ⟨⟨hf.2.1,by dsimp only;omega⟩,k2⟩)))
 ·obtain⟨y,c3,e3,k3⟩:=Mza c2 k2;refine Glb (Gmb (Q:=λ r=>r=(y,c3)) e3 rfl) ?_;exact G9b ⟨⟨hf.2.1,by dsimp only;omega⟩,k3⟩
 ·obtain⟨y,c4,e4,y0,y1,_,k4⟩:=Av c2 k2 2 (by decide);have y1:=y1 (by decide);refine Glb (Gmb (Q:=λ r=>r=(y,c4)) e4 rfl) ?_;dsimp only;rw[w64 (n:=200+y) (by omega) (by omega)];exact Gdb rfl (Gdb (by omega) (Gdb (by omega) (G9b ⟨⟨H6a _,by dsimp only;rw[List.length_replicate];omega⟩,k4⟩)))

section
variable {d:Dsk} {s:ByteArray} {f:Fil} {sure:Bool}
def X4a (a:Stp):sle a a=false:=Ln a
def Awa (h1:Ap d=true) (h2:Ao s=true) (h3:Cu f=true):keep d s f sure=Me d s f sure:=by unfold keep;rw[h1,h2,h3];rfl
def H7a {x:Dsk} {c:Int}:(kp2 d s sure (x,c)=(d,3))∨(sure=false∧kp2 d s sure (x,c)=(x,c))∨(sure=true∧(sy x s).length≤60∧kp2 d s sure (x,c)=((x.1,sy x s),c)):=by
 unfold kp2 syD;cases sure
 ·exact .inr (.inl ⟨rfl,rfl⟩)
 rw[cond_true]
 by_cases h:(sy x s).length≤60
 ·rw[decide_eq_true h];exact .inr (.inr ⟨rfl,h,rfl⟩)
 ·rw[decide_eq_false h];exact .inl rfl
def T8a (hd:DG d) (hs:Ao s=true):kp1 d s f=none∨(∃ o,old d s=some o∧sle o.1 f.1=false∧kp1 d s f=some (d,1))∨((∀ o,old d s=some o→sle o.1 f.1=true)∧(wr d.1 s (Lr f)).length≤60∧kp1 d s f=some ((wr d.1 s (Lr f),d.2),0)):=by
 have hl:(Lr f).length≤400:=by have:=Xy f;omega
 have w:(bif (wrD d s (Lr f)).2 then some ((wrD d s (Lr f)).1,(0:Int)) else none)=none∨((wr d.1 s (Lr f)).length≤60∧(bif (wrD d s (Lr f)).2 then some ((wrD d s (Lr f)).1,(0:Int)) else none)=some ((wr d.1 s (Lr f),d.2),0)):=by
  unfold wrD;rw[decide_eq_true hl,Vy]
  by_cases h:(wr d.1 s (Lr f)).length≤60
  ·rw[decide_eq_true h];exact .inr ⟨h,rfl⟩
  ·rw[decide_eq_false h];exact .inl rfl
 unfold kp1
 cases ho:old d s with
 |none=>
  rcases w with h|⟨h1,h2⟩
  ·exact .inl h
  ·exact .inr (.inr ⟨λ o h=>(by cases h),h1,h2⟩)
 |some o=>
  simp only;cases hc:sle o.1 f.1
  ·exact .inr (.inl ⟨o,rfl,hc,rfl⟩)
  rcases w with h|⟨h1,h2⟩
  ·exact .inl h
  ·exact .inr (.inr ⟨λ o' h=>(by cases h;exact hc),h1,h2⟩)
def W1 (hd:DG d) (hs:Ao s=true):Me d s f sure=(d,3)∨
  (∃ o,old d s=some o∧sle o.1 f.1=false∧(Me d s f sure).2=1∧DG (Me d s f sure).1∧((sure=false∧(Me d s f sure).1=d)∨(sure=true∧(Me d s f sure).1=(d.1,sy d s))))∨
  ((∀ o,old d s=some o→sle o.1 f.1=true)∧DG (wr d.1 s (Lr f),d.2)∧(Me d s f sure).2=0∧DG (Me d s f sure).1∧((sure=false∧(Me d s f sure).1=(wr d.1 s (Lr f),d.2))∨(sure=true∧(Me d s f sure).1=(wr d.1 s (Lr f),sy (wr d.1 s (Lr f),d.2) s)))):=by
 have hg:=T5a (f:=f) (sure:=sure) hd hs;rcases T8a (f:=f) hd hs with h|⟨o,h1,h2,h⟩|⟨h1,h2,h⟩
 ·exact .inl (by unfold Me;rw[h])
 ·have e:Me d s f sure=kp2 d s sure (d,1):=by unfold Me;rw[h]
  rcases H7a (d:=d) (s:=s) (sure:=sure) (x:=d) (c:=1) with k|⟨k0,k⟩|⟨k0,k1,k⟩
  ·exact .inl (e.trans k)
  ·rw[← e]at k;exact .inr (.inl ⟨o,h1,h2,by rw[k],hg,.inl ⟨k0,by rw[k]⟩⟩)
  ·rw[← e]at k;exact .inr (.inl ⟨o,h1,h2,by rw[k],hg,.inr ⟨k0,by rw[k]⟩⟩)
 ·have e:Me d s f sure=kp2 d s sure ((wr d.1 s (Lr f),d.2),0):=by unfold Me;rw[h]
  have hw:=E4b hd hs h;rcases H7a (d:=d) (s:=s) (sure:=sure) (x:=(wr d.1 s (Lr f),d.2)) (c:=0) with k|⟨k0,k⟩|⟨k0,k1,k⟩
  ·exact .inl (e.trans k)
  ·rw[← e]at k;exact .inr (.inr ⟨h1,hw,by rw[k],hg,.inl ⟨k0,by rw[k]⟩⟩)
  ·rw[← e]at k;exact .inr (.inr ⟨h1,hw,by rw[k],hg,.inr ⟨k0,by rw[k]⟩⟩)
def H8a {l:List Nmd} (hs:Gw l) {s t:ByteArray} {b:List Int}:gt (wr l s b) t=if s=t then some b else gt l t:=by
 unfold wr;rw[Z2a (x:=(s,b)) (Nr hs) Asa]
 by_cases h:s=t
 ·rw[if_pos h,if_pos h]
 ·rw[if_neg h,if_neg h,Ud hs,if_neg h]
def K4a (hd:Ap d=true) {t:ByteArray}:gt (sy d s) t=if s=t then gt d.1 s else gt d.2 t:=by
 unfold sy
 cases h:gt d.1 s with
 |none=>rw[Ud (Rq hd)]
 |some b=>rw[H8a (Rq hd)]
def T9a (hd:DG d) (hs:Ao s=true) (hf:Cu f=true) (hb:Aj f.2.2) (h:(Me d s f true).2=0∨(Me d s f true).2=1):
  ∃ o g b,DG o∧DG (Me d s f true).1∧(Me d s f true).1=(o.1,sy o s)∧gt o.1 s=some b∧O3 b=some g∧sle g.1 f.1=false:=by
 rcases W1 (f:=f) (sure:=true) hd hs with k|⟨o,h1,h2,k,hg,h3⟩|⟨h1,h2,k,hg,h3⟩
 ·rw[k]at h;rcases h with h|h<;>cases h
 ·rcases h3 with⟨h3,_⟩|⟨_,h3⟩
  ·cases h3
  ·have ho:(gt d.1 s).bind O3=some o:=h1
   cases hg1:gt d.1 s with
   |none=>rw[hg1]at ho;cases ho
   |some b=>
    rw[hg1]at ho;exact⟨d,o,b,hd,hg,h3,hg1,ho,h2⟩
 ·rcases h3 with⟨h3,_⟩|⟨_,h3⟩
  ·cases h3
  ·exact⟨(wr d.1 s (Lr f),d.2),f,Lr f,h2,hg,h3,by show gt (wr d.1 s (Lr f)) s=_;rw[H8a (Ng hd.1),if_pos rfl],Ub hf hb,X4a _⟩
end

end Go.Proofs.YtcpligincipmhaaGreat.Vf
