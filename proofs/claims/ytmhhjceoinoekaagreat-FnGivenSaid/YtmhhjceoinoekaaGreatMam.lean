import Derived.Test.YtmhhjceoinoekaaGreatMal
set_option linter.unusedVariables false
set_option linter.unusedSimpArgs false
namespace Go.Proofs.YtmhhjceoinoekaaGreat.Vf
open Go

def Fv (l:List Nmd):Prop:=l.Pairwise (λ a b=>tlt a.1 b.1=true)
theorem Iea:∀ (p:Option ByteArray) (l:List Nmd),chn p l=true↔Fv l∧(∀ r∈l,nOk r=true)∧(∀ q,p=some q→∀ r∈l,tlt q r.1=true)
 |p,[]=>by
  have:chn p []=true:=by cases p<;>rfl
  simp [this,Fv]
 |none,r::l=>by
  simp only [chn,Bool.and_eq_true,Iea (some r.1) l,Fv,List.pairwise_cons]
  constructor
  ·rintro ⟨h1,h2,h3,h4⟩
   exact ⟨⟨λ a ha=>h4 _ rfl a ha,h2⟩,λ a ha=>by rcases List.mem_cons.1 ha with rfl|ha; exact h1; exact h3 a ha,λ q hq=>by cases hq⟩
  ·rintro ⟨⟨h1,h2⟩,h3,_⟩
   exact ⟨h3 r (by simp),h2,λ a ha=>h3 a (List.mem_cons_of_mem _ ha),λ q hq a ha=>by cases hq; exact h1 a ha⟩
 |some q,r::l=>by
  simp only [chn,Bool.and_eq_true,Iea (some r.1) l,Fv,List.pairwise_cons]
  constructor
  ·rintro ⟨h1,h0,h2,h3,h4⟩
   refine ⟨⟨λ a ha=>h4 _ rfl a ha,h2⟩,λ a ha=>by rcases List.mem_cons.1 ha with rfl|ha; exact h1; exact h3 a ha,λ q' hq a ha=>?_⟩
   cases hq
   rcases List.mem_cons.1 ha with rfl|ha
   ·exact h0
   ·exact M9 h0 (h4 _ rfl a ha)
  ·rintro ⟨⟨h1,h2⟩,h3,h4⟩
   exact ⟨h3 r (by simp),h4 q rfl r (by simp),h2,λ a ha=>h3 a (List.mem_cons_of_mem _ ha),λ q' hq a ha=>by cases hq; exact h1 a ha⟩
theorem Af {l:List Nmd}:Io l=true↔Fv l∧(∀ r∈l,nOk r=true)∧l.length≤60:=by
 unfold Io
 simp only [Bool.and_eq_true,Iea,decide_eq_true_eq]
 constructor
 ·rintro ⟨⟨h1,h2,_⟩,h3⟩
  exact ⟨h1,h2,by omega⟩
 ·rintro ⟨h1,h2,h3⟩
  exact ⟨⟨h1,h2,λ q hq=>by cases hq⟩,by omega⟩
theorem Pl {x:Nmd}:nOk x=true↔B1 x.1=true∧x.2.length≤400:=by
 unfold nOk
 simp only [Bool.and_eq_true,Bool.not_eq_true',decide_eq_false_iff_not]
 constructor
 ·rintro ⟨h1,h2⟩; exact ⟨h1,by omega⟩
 ·rintro ⟨h1,h2⟩; exact ⟨h1,by omega⟩
theorem Uh {l:List Nmd} (h:Io l=true):Fja l∧Nn l:=by
 obtain ⟨_,h2,h3⟩:=Af.1 h
 refine ⟨⟨by omega,λ x hx=>by have:=(Pl.1 (h2 x hx)).2; omega⟩,λ x hx=>?_⟩
 have:=Xy (Pl.1 (h2 x hx)).1
 unfold Jv
 omega
theorem L3a (y:Nmd) (l:List Nmd) (s:ByteArray):fnd (y::l) s=if teq y.1 s then some 0 else (fnd l s).map (· + 1):=by
 unfold fnd
 rw [List.findIdx?_cons]
theorem Una {l:List Nmd} {s:ByteArray}:fnd l s=none↔∀ x∈l,x.1≠s:=by
 unfold fnd
 rw [List.findIdx?_eq_none_iff]
 constructor
 ·intro h x hx e
  have:=h x hx
  rw [Ja.2 e] at this
  cases this
 ·intro h x hx
  cases ht:teq x.1 s with
  |false=>rfl
  |true=>exact absurd (Ja.1 ht) (h x hx)
theorem U2:∀ {l:List Nmd} {s:ByteArray},Fv l→del l s=cut l s
 |[],s,_=>rfl
 |y::l,s,h=>by
  have hc:=List.pairwise_cons.1 h
  have ih:=U2 (l:=l) (s:=s) hc.2
  unfold del cut at *
  rw [L3a,List.filter_cons]
  cases ht:teq y.1 s with
  |true=>
   have hno:∀ x∈l,(!(teq x.1 s))=true:=λ x hx=>by
    cases hx2:teq x.1 s with
    |false=>rfl
    |true=>
     have e1:=Ja.1 ht
     have e2:=Ja.1 hx2
     have:=hc.1 x hx
     rw [e1,e2,Km] at this
     cases this
   rw [if_pos rfl,if_neg (by simp)]
   show []++l=_
   rw [List.nil_append,List.filter_eq_self.2 hno]
  |false=>
   rw [if_neg (by simp),if_pos (show (!false)=true from rfl),← ih]
   cases hf:fnd l s with
   |none=>rfl
   |some i=>rfl
theorem Ml {l:List Nmd} {s:ByteArray} (h:Fv l):Fv (cut l s):=h.sublist List.filter_sublist
theorem No {l:List Nmd} {s:ByteArray}:(cut l s).Sublist l:=List.filter_sublist
theorem Ui {l:List Nmd} {s:ByteArray} (h:Io l=true):Io (cut l s)=true:=by
 obtain ⟨h1,h2,h3⟩:=Af.1 h
 exact Af.2 ⟨Ml h1,λ x hx=>h2 x (No.subset hx),by have:=(No (l:=l) (s:=s)).length_le; omega⟩
theorem Qwa {l m:List Nmd} (h:m.Sublist l) (hf:Fja l):Fja m:=⟨by have:=h.length_le; have:=hf.1; omega,λ x hx=>hf.2 x (h.subset hx)⟩
theorem Foa {l m:List Nmd} (h:m.Sublist l) (hf:Nn l):Nn m:=λ x hx=>hf x (h.subset hx)

theorem N4a (l:List Int) (x4:Int):∀ (n:Nat) (x3 i:Int),0≤i→8 - i=n→Tot (λ k=>H9 k l x3 x4 i) (λ r=>r.1=l∧r.2.2=x4):=by
 intro n
 induction n with
 |zero=>
  intro x3 i h0 hn
  refine Tot.succ ?_
  simp only [H9]
  exact Tot.ndec (by omega) (Tot.pure ⟨rfl,rfl⟩)
 |succ n ih=>
  intro x3 i h0 hn
  refine Tot.succ ?_
  simp only [H9]
  refine Tot.dec (by omega) ?_
  rw [w64 (n:=i+1) (by omega) (by omega)]
  exact Tot.ite (λ _=>ih _ (i+1) (by omega) (by omega)) (λ _=>ih _ (i+1) (by omega) (by omega))
theorem N5a (l:List Int) (hl:l.length≤1000000000000):∀ (n i:Nat) (x3:Int),l.length - i=n→i≤l.length→Tot (λ k=>Hl k l x3 (i:Int)) (λ _=>True):=by
 intro n
 induction n with
 |zero=>
  intro i x3 hd hi
  refine Tot.succ ?_
  simp only [Hl]
  exact Tot.ndec (by omega) (Tot.pure trivial)
 |succ n ih=>
  intro i x3 hd hi
  refine Tot.succ ?_
  simp only [Hl]
  refine Tot.dec (by omega) (Tot.dec (by omega) (Tot.dec (by omega) ?_))
  refine Tot.bind (N4a l (i:Int) 8 _ 0 (by decide) (by decide)) ?_
  rintro ⟨a,b,c⟩ ⟨h1,h2⟩
  simp only at h1 h2
  subst h1 h2
  dsimp only
  rw [w64 (n:=(i:Int)+1) (by omega) (by omega)]
  exact ih (i+1) b (by omega) (by omega)
theorem Ifa (l:List Int) (hl:l.length≤1000000000000):Tot (λ k=>Ks k l) (λ _=>True):=by
 unfold Ks
 refine Tot.bind (N5a l hl _ 0 _ rfl (Nat.zero_le _)) (λ r _=>Tot.pure trivial)
theorem Y0 (f:Fil) (hf:Woa f):Tot (λ k=>Bc k f) (λ r=>r.length≤2000000):=by
 unfold Bc
 have hfo:∃ b,Bq f=some b:=by
  unfold Bq
  rw [Qf]
  simp only [Option.bind_some]
  cases Ft f.1<;>cases decide ((List.length f.2.2:Int)≤200)<;>cases f.2.1<;>exact ⟨_,rfl⟩
 obtain ⟨b,hb⟩:=hfo
 have hl:f.2.2.length≤9:=by have:=hf.2.2.1; omega
 refine Tot.bind (Tot.of (Q:=λ r=>r=b) hb rfl) ?_
 rintro r rfl
 refine Tot.ite (λ _=>Tot.pure (by simp)) (λ _=>?_)
 refine Tot.bind (Bia [] f.1 (by simp)) ?_
 rintro a rfl
 refine Tot.bind (Tot.of (Q:=λ r=>r=Ada f.2.1) (Kya _) rfl) ?_
 rintro c rfl
 have h1:=D1a f.1
 refine Tot.bind (U1 _ _ (by simp only [List.length_append,List.length_nil]; omega)) ?_
 rintro d rfl
 have h2:=(Ln (Bh (Ada f.2.1))).1
 have h3:(Kw f.2.2).size=f.2.2.length:=Mj _
 refine Tot.bind (Kva _ _ (by simp only [List.length_append,List.length_nil]; omega) (by omega)) ?_
 rintro e rfl
 have h4:=Qra (Kw f.2.2)
 refine Tot.bind (Ifa _ (by simp only [List.length_append,List.length_nil]; omega)) (λ q _=>?_)
 refine Tot.ble (by simp only [List.length_append,List.length_cons,List.length_nil]; omega) (Tot.pure ?_)
 simp only [List.length_append,List.length_cons,List.length_nil]
 omega
theorem D4a (d out:Dsk) (s:ByteArray) (hd:Yxa d∧Bka d) (ho:Yxa out∧Bka out) (hs:Jv s):Tot (λ k=>Dv k d out s) (λ r=>r=bif Ao d&&(B1 s&&Ao out) then (out,true) else (d,false)):=by
 unfold Dv
 refine Tot.bind (Pk d hd.1 hd.2) ?_
 rintro b rfl
 cases h1:Ao d with
 |false=>
  refine Tot.yes rfl (Tot.bind (L8 d hd.1) ?_)
  rintro r rfl
  exact Tot.pure rfl
 |true=>
  refine Tot.no rfl (Tot.bind (Na s hs) ?_)
  rintro b rfl
  cases h2:B1 s with
  |false=>
   refine Tot.yes rfl (Tot.bind (L8 d hd.1) ?_)
   rintro r rfl
   exact Tot.pure rfl
  |true=>
   refine Tot.no rfl (Tot.bind (Pk out ho.1 ho.2) ?_)
   rintro b rfl
   cases h3:Ao out with
   |false=>
    refine Tot.yes rfl (Tot.bind (L8 d hd.1) ?_)
    rintro r rfl
    exact Tot.pure rfl
   |true=>exact Tot.no rfl (Tot.pure rfl)
theorem Bma (d:Dsk) (s:ByteArray) (hd:Yxa d∧Bka d) (hs:Jv s):Tot (λ k=>Ba k d s) (λ r=>r=bif (fnd d.1 s).isSome&&(Ao d&&(B1 s&&Ao (cut d.1 s,d.2))) then ((cut d.1 s,d.2),true) else (d,false)):=by
 unfold Ba
 refine Tot.bind (L8 d hd.1) ?_
 rintro r rfl
 refine Tot.bind (Bla r.1 s hd.1.1.1) ?_
 rintro i rfl
 unfold L0a
 cases h:fnd r.1 s with
 |none=>exact Tot.dec (by decide) (Tot.pure rfl)
 |some i=>
  dsimp only
  refine Tot.ndec (by omega) (Tot.bind (Qva r.1 s hd.1.1.1) ?_)
  rintro c rfl
  refine Tot.bind (D4a r (cut r.1 s,r.2) s hd ⟨⟨Qwa No hd.1.1,hd.1.2⟩,Foa No hd.2.1,hd.2.2⟩ hs) ?_
  rintro e rfl
  exact Tot.pure rfl

def ptl (x:Nmd):Bool→List Nmd→List Nmd
 |p,[]=>bif p then [] else [x]
 |p,y::l=>(bif !p && !(tlt y.1 x.1) then [x] else [])++((bif !(teq y.1 x.1) then [y] else [])++ptl x (p || !(tlt y.1 x.1)) l)
theorem Iga (l:List Nmd) (s:ByteArray) (b:List Int) (hf:l.length≤1000000000000):∀ (n i:Nat) (acc:List Nmd) (p:Bool),l.length - i=n→i≤l.length→acc.length≤2 * i→
  Tot (λ k=>C7 k l s acc p (i:Int) s b) (λ r=>r.1++(bif r.2.1 then [] else [(s,b)])=acc++ptl (s,b) p (l.drop i)∧r.2.2=(s,b)∧r.1.length≤2 * l.length):=by
 intro n
 induction n with
 |zero=>
  intro i acc p hd hi ha
  refine Tot.succ ?_
  simp only [C7]
  refine Tot.ndec (by omega) (Tot.pure ?_)
  rw [List.drop_of_length_le (by omega)]
  exact ⟨rfl,rfl,by dsimp only; omega⟩
 |succ n ih=>
  intro i acc p hd hi ha
  have hlt:i<l.length:=by omega
  refine Tot.succ ?_
  simp only [C7]
  refine Tot.dec (by omega) ?_
  rw [show Int.toNat (i:Int)=i from Int.toNat_natCast i,w64 (n:=(i:Int)+1) (by omega) (by omega),An (d:=Fu) hlt]
  have e0:l.getD i ((⟨#[]⟩:ByteArray),([]:List Int))=l.getD i Fu:=rfl
  rw [e0]
  have Aw:∀ (ac:List Nmd) (q:Bool),ac.length≤2 * i+1→Tot (λ k=>cond (decide ((0:Int)≤i)) (cond (decide ((i:Int)<(List.length l:Int))) (cond (!((l.getD i Fu).1.toList==s.toList)) (cond (decide ((0:Int)≤i)) (cond (decide ((i:Int)<(List.length l:Int))) (cond (Nat.ble ((List.length ac+List.length [l.getD i Fu]) * 40) 140737488355328) (C7 k l s (ac++[l.getD i Fu]) q ((i:Int)+1) s b) none) none) none) (C7 k l s ac q ((i:Int)+1) s b)) none) none)
    (λ r=>r.1++(bif r.2.1 then [] else [(s,b)])=ac++((bif !(teq (l.getD i Fu).1 s) then [l.getD i Fu] else [])++ptl (s,b) q (l.drop (i+1)))∧r.2.2=(s,b)∧r.1.length≤2 * l.length):=by
   intro ac q hac
   refine Tot.dec (by omega) (Tot.dec (by omega) (Tot.ite (λ h=>?_) (λ h=>?_)))
   ·have h':(!(teq (l.getD i Fu).1 s))=true:=h
    rw [h']
    refine Tot.dec (by omega) (Tot.dec (by omega) (Tot.ble (by simp only [List.length_cons,List.length_nil]; omega) ?_))
    refine (ih (i+1) (ac++[l.getD i Fu]) q (by omega) (by omega) (by simp only [List.length_append,List.length_cons,List.length_nil]; omega)).mono ?_
    rintro r ⟨h1,h2,h3⟩
    refine ⟨?_,h2,h3⟩
    rw [h1,List.append_assoc]
    rfl
   ·have h':(!(teq (l.getD i Fu).1 s))=false:=h
    rw [h']
    exact ih (i+1) ac q (by omega) (by omega) (by omega)
  cases p with
  |true=>
   refine Tot.no rfl ?_
   refine (Aw acc true (by omega)).mono ?_
   rintro r ⟨h1,h2,h3⟩
   exact ⟨h1,h2,h3⟩
  |false=>
   refine Tot.yes rfl (Tot.dec (by omega) (Tot.dec (by omega) (Tot.ite (λ h=>?_) (λ h=>?_))))
   ·have h':(!(tlt (l.getD i Fu).1 s))=true:=h
    refine Tot.ble (by simp only [List.length_cons,List.length_nil]; omega) ?_
    refine (Aw (acc++[(s,b)]) true (by simp only [List.length_append,List.length_cons,List.length_nil]; omega)).mono ?_
    rintro r ⟨h1,h2,h3⟩
    refine ⟨?_,h2,h3⟩
    rw [h1]
    simp only [ptl,h',Bool.not_false,Bool.and_self,Bool.false_or,cond_true,List.append_assoc]
   ·have h':(!(tlt (l.getD i Fu).1 s))=false:=h
    refine (Aw acc false (by omega)).mono ?_
    rintro r ⟨h1,h2,h3⟩
    refine ⟨?_,h2,h3⟩
    rw [h1]
    simp only [ptl,h',Bool.not_false,Bool.and_false,Bool.false_or,cond_false,List.nil_append]
theorem D5a (l:List Nmd) (s:ByteArray) (b:List Int) (hf:l.length≤1000000000000) (hb:b.length≤1000000000000):Tot (λ k=>Ep k l s b) (λ r=>r=ptl (s,b) false l):=by
 unfold Ep
 refine Tot.ble (Ida b hb) ?_
 rw [List.nil_append]
 refine Tot.bind (Iga l s b hf _ 0 [] false rfl (Nat.zero_le _) (Nat.zero_le _)) ?_
 rintro ⟨r,q,x,y⟩ ⟨h1,h2,h3⟩
 rw [List.drop_zero,List.nil_append] at h1
 dsimp only at h1 h2 h3
 dsimp only
 cases q with
 |true=>
  refine Tot.no rfl (Tot.pure ?_)
  rw [← h1]; simp
 |false=>
  refine Tot.yes rfl (Tot.ble (by simp only [List.length_cons,List.length_nil]; omega) (Tot.pure ?_))
  rw [← h1]
  obtain ⟨rfl,rfl⟩:=Prod.mk.inj h2
  rfl
theorem Qxa (x:Nmd):∀ (p:Bool) (l:List Nmd),∀ y∈ptl x p l,y∈l∨y=x:=by
 intro p l
 induction l generalizing p with
 |nil=>intro y hy; cases p<;>simp_all [ptl]
 |cons a l ih=>
  intro y hy
  simp only [ptl,List.mem_append] at hy
  rcases hy with hy|hy|hy
  ·revert hy; cases (!p && !(tlt a.1 x.1))<;>simp_all
  ·revert hy; cases (!(teq a.1 x.1))<;>simp_all
  ·rcases ih _ y hy with h|h
   ·exact Or.inl (List.mem_cons_of_mem _ h)
   ·exact Or.inr h
theorem Yya (x:Nmd):∀ (p:Bool) (l:List Nmd),(ptl x p l).length≤l.length+(bif p then 0 else 1):=by
 intro p l
 induction l generalizing p with
 |nil=>cases p<;>simp [ptl]
 |cons a l ih=>
  simp only [ptl,List.length_append,List.length_cons]
  have:=ih (p || !(tlt a.1 x.1))
  revert this
  cases p<;>cases tlt a.1 x.1<;>cases teq a.1 x.1<;>simp<;>omega
theorem Uoa (x:Nmd):∀ (l:List Nmd),ptl x true l=cut l x.1:=by
 intro l
 induction l with
 |nil=>rfl
 |cons a l ih=>
  simp only [ptl,Bool.not_true,Bool.false_and,cond_false,List.nil_append,Bool.true_or,ih,cut,List.filter_cons]
  cases teq a.1 x.1<;>simp
theorem U3 (x:Nmd):∀ {l:List Nmd},Fv l→ptl x false l=ins (cut l x.1) x:=by
 intro l
 induction l with
 |nil=>intro _; rfl
 |cons a l ih=>
  intro h
  have hl:Fv l:=(List.pairwise_cons.1 h).2
  have ha:=(List.pairwise_cons.1 h).1
  simp only [ptl,Bool.not_false,Bool.true_and,Bool.false_or]
  cases ht:tlt a.1 x.1 with
  |true=>
   have he:teq a.1 x.1=false:=by
    cases hq:teq a.1 x.1 with
    |false=>rfl
    |true=>rw [(Ja.1 hq),Km] at ht; cases ht
   simp only [he,Bool.not_true,Bool.not_false,cond_false,cond_true,List.nil_append,ih hl,cut,List.filter_cons,if_true]
   unfold ins plc
   rw [List.takeWhile_cons,if_pos ht]
   rfl
  |false=>
   have hc:plc (cut (a::l) x.1) x.1=0:=by
    unfold plc cut
    rw [List.length_eq_zero_iff]
    rw [List.filter_cons]
    cases hq:teq a.1 x.1 with
    |false=>rw [Bool.not_false,if_pos rfl,List.takeWhile_cons,if_neg (by rw [ht]; simp)]
    |true=>
     have hx:=(Ja.1 hq)
     simp only [Bool.not_true,Bool.false_eq_true,if_false]
     cases hf:l.filter (λ y => !(teq y.1 x.1)) with
     |nil=>rfl
     |cons b m=>
      have hb:b∈l:=by
       have:b∈l.filter (λ y => !(teq y.1 x.1)):=by rw [hf]; exact List.mem_cons_self
       exact (List.mem_filter.1 this).1
      have hab:=ha b hb
      rw [hx] at hab
      rw [List.takeWhile_cons,if_neg (by rw [Xp hab]; simp)]
   simp only [Bool.not_false,cond_true,Uoa]
   unfold ins
   rw [hc]
   simp only [List.take_zero,List.nil_append,List.drop_zero,cut,List.filter_cons]
   cases teq a.1 x.1<;>simp

theorem Qya {l:List Nmd} {x:Nmd} {p:Bool} (hl:Fja l) (hl':l.length≤999999999999) (hx:x.2.length≤1000000000000):Fja (ptl x p l):=by
 refine ⟨?_,λ y hy=>?_⟩
 ·have:=Yya x p l
  revert this
  cases p<;>simp<;>omega
 ·rcases Qxa x p l y hy with h|rfl
  ·exact hl.2 y h
  ·exact hx
theorem Fpa {l:List Nmd} {x:Nmd} {p:Bool} (hl:Nn l) (hx:Jv x.1):Nn (ptl x p l):=by
 intro y hy
 rcases Qxa x p l y hy with h|rfl
 ·exact hl y h
 ·exact hx
def DIn (d:Dsk):Prop:=(Yxa d∧Bka d)∧d.1.length≤2000000∧d.2.length≤2000000
theorem Nz {d:Dsk} (h:Ao d=true):DIn d:=by
 unfold Ao at h
 rw [Bool.and_eq_true] at h
 have h1:=Uh h.1
 have h2:=Uh h.2
 exact ⟨⟨⟨h1.1,h2.1⟩,h1.2,h2.2⟩,by have:=(Af.1 h.1).2.2; omega,by have:=(Af.1 h.2).2.2; omega⟩
theorem Fqa (d:Dsk) (s:ByteArray) (b:List Int) (hd:DIn d) (hs:Jv s) (hb:b.length≤1000000000000):Tot (λ k=>B7 k d s b) (λ r=>r=bif Ao d&&(B1 s&&Ao (ptl (s,b) false d.1,d.2)) then ((ptl (s,b) false d.1,d.2),true) else (d,false)):=by
 unfold B7
 refine Tot.bind (L8 d hd.1.1) ?_
 rintro r rfl
 refine Tot.bind (D5a r.1 s b hd.1.1.1.1 hb) ?_
 rintro c rfl
 refine Tot.bind (D4a r (ptl (s,b) false r.1,r.2) s hd.1 ⟨⟨Qya hd.1.1.1 (by have:=hd.2.1; omega) hb,hd.1.1.2⟩,Fpa hd.1.2.1 hs,hd.1.2.2⟩ hs) ?_
 rintro e rfl
 exact Tot.pure rfl
def syS (d:Dsk) (s:ByteArray):List Nmd:=match fnd d.1 s with
 |some i=>ptl (s,(d.1.getD i Fu).2) false (cut d.2 s)
 |none=>cut d.2 s
theorem Bhb {d:Dsk} {s:ByteArray} (hd:DIn d) (hs:Jv s):Fja (syS d s)∧Nn (syS d s):=by
 unfold syS
 have h1:=Qwa (No (l:=d.2) (s:=s)) hd.1.1.2
 have h2:=Foa (No (l:=d.2) (s:=s)) hd.1.2.2
 cases h:fnd d.1 s with
 |none=>exact ⟨h1,h2⟩
 |some i=>
  have hb:=hd.1.1.1.2 _ (A4 (d:=Fu) (Pq h).1)
  have hc:(cut d.2 s).length≤d.2.length:=(No (l:=d.2) (s:=s)).length_le
  exact ⟨Qya h1 (by have:=hd.2.2; omega) hb,Fpa h2 hs⟩
theorem L4a (d:Dsk) (s:ByteArray) (hd:DIn d) (hs:Jv s):Tot (λ k=>Ai k d s) (λ r=>r=bif Ao d&&(B1 s&&Ao (d.1,syS d s)) then ((d.1,syS d s),true) else (d,false)):=by
 unfold Ai
 have hin:=Bhb hd hs
 refine Tot.bind (L8 d hd.1.1) ?_
 rintro r rfl
 refine Tot.bind (L2a r s hd.1.1.1) ?_
 rintro b rfl
 refine Tot.bind (Qva r.2 s hd.1.1.2.1) ?_
 rintro c rfl
 have e:∀ o,o=syS r s→Tot (λ k=>(Dv k r (r.1,o) s).bind λ r5=>some (r5.1,r5.2)) (λ q=>q=bif Ao r&&(B1 s&&Ao (r.1,syS r s)) then ((r.1,syS r s),true) else (r,false)):=by
  rintro o rfl
  refine Tot.bind (D4a r (r.1,syS r s) s hd.1 ⟨⟨hd.1.1.1,hin.1⟩,hd.1.2.1,hin.2⟩ hs) ?_
  rintro e rfl
  exact Tot.pure rfl
 have hc:(cut r.2 s).length≤r.2.length:=(No (l:=r.2) (s:=s)).length_le
 cases h:fnd r.1 s with
 |none=>
  have h':rdN r.1 s=([],false):=by unfold rdN; rw [h]
  rw [h']
  refine Tot.no rfl (e _ ?_)
  unfold syS; rw [h]
 |some i=>
  have h':rdN r.1 s=((r.1.getD i Fu).2,true):=by unfold rdN; rw [h]
  rw [h']
  have hb:=hd.1.1.1.2 _ (A4 (d:=Fu) (Pq h).1)
  refine Tot.yes rfl (Tot.bind (D5a (cut r.2 s) s _ (by have:=hd.2.2; omega) hb) ?_)
  rintro o rfl
  refine e _ ?_
  unfold syS; rw [h]
def syI (d:Dsk) (s:ByteArray):List Nmd:=match fnd d.1 s with
 |some i=>ins (del d.2 s) (s,(d.1.getD i Fu).2)
 |none=>del d.2 s

theorem Qza {d o:Dsk} {b:Bool} (hd:Ao d=true):Ao (bif Ao d&&(b&&Ao o) then (o,true) else (d,false)).1=true:=by
 cases b<;>cases h:Ao o<;>simp [hd,h]
theorem Upa {d o:Dsk} {a b:Bool} (hd:Ao d=true):Ao (bif a&&(Ao d&&(b&&Ao o)) then (o,true) else (d,false)).1=true:=by
 cases a<;>cases b<;>cases h:Ao o<;>simp [hd,h]
theorem R0a:∀ (n:Nat) (i:Int) (c:Cur) (a0 a1:List Nmd) (d:Dsk),i=n→n≤6→Ck c→Ao d=true→
  Tot (λ k=>Av k i c.1 c.2.1 c.2.2 a0 a1 d.1 d.2) (λ r=>Ao (r.2.2.1,r.2.2.2.1)=true∧Ck r.2.2.2.2):=by
 intro n
 induction n with
 |zero=>
  intro i c a0 a1 d hi h6 hc hd
  refine Tot.succ ?_
  simp only [Av]
  exact Tot.ndec (by omega) (Tot.pure ⟨hd,hc⟩)
 |succ n ih=>
  intro i c a0 a1 d hi h6 hc hd
  refine Tot.succ ?_
  simp only [Av]
  refine Tot.dec (by omega) ?_
  rw [w64 (n:=i - 1) (by omega) (by omega)]
  obtain ⟨s,c1,e1,hs,k1⟩:=Nl c hc
  refine Tot.bind (Tot.of (Q:=λ r=>r=(s,c1)) e1 rfl) ?_
  rintro r rfl
  obtain ⟨x,c2,e2,_,_,_,k2⟩:=Am c1 k1 6 (by decide)
  refine Tot.bind (Tot.of (Q:=λ r=>r=(x,c2)) e2 rfl) ?_
  rintro r rfl
  dsimp only
  have hin:=Nz hd
  have hsh:=(Le s hs).1
  have wr:Tot (λ k=>(C3 k c2).bind λ r5=>(Bc k r5.1).bind λ r6=>(B7 k (d.1,d.2) s r6).bind λ r7=>Av k (i - 1) r5.2.1 r5.2.2.1 r5.2.2.2 a0 a1 r7.1.1 r7.1.2) (λ r=>Ao (r.2.2.1,r.2.2.2.1)=true∧Ck r.2.2.2.2):=by
   refine Tot.bind (Ox c2 k2) (λ f hf=>?_)
   refine Tot.bind (Y0 f.1 hf.1) (λ b hb=>?_)
   refine Tot.bind (Fqa d s b hin hsh (by omega)) (λ q hq=>?_)
   have hq':=Qza (d:=d) (o:=(ptl (s,b) false d.1,d.2)) (b:=B1 s) hd
   rw [← hq] at hq'
   exact ih (i - 1) f.2 a0 a1 q.1 (by omega) (by omega) hf.2 hq'
  have sy:Tot (λ k=>(Ai k (d.1,d.2) s).bind λ r4=>Av k (i - 1) c2.1 c2.2.1 c2.2.2 a0 a1 r4.1.1 r4.1.2) (λ r=>Ao (r.2.2.1,r.2.2.2.1)=true∧Ck r.2.2.2.2):=by
   refine Tot.bind (L4a d s hin hsh) (λ q hq=>?_)
   have hq':=Qza (d:=d) (o:=(d.1,syS d s)) (b:=B1 s) hd
   rw [← hq] at hq'
   exact ih (i - 1) c2 a0 a1 q.1 (by omega) (by omega) k2 hq'
  refine Tot.ite (λ _=>?_) (λ _=>Tot.ite (λ h=>Tot.ite (λ _=>sy) (λ _=>wr)) (λ _=>Tot.ite (λ _=>sy) (λ _=>wr)))
  refine Tot.bind (Bma d s hin.1 hsh) (λ q hq=>?_)
  have hq':=Upa (d:=d) (o:=(cut d.1 s,d.2)) (a:=(fnd d.1 s).isSome) (b:=B1 s) hd
  rw [← hq] at hq'
  exact ih (i - 1) c2 a0 a1 q.1 (by omega) (by omega) k2 hq'
theorem R1a (c:Cur) (hc:Ck c):Tot (λ k=>Ei k c) (λ r=>Ao r.1=true∧Ck r.2):=by
 unfold Ei
 obtain ⟨x,c2,e2,h0,h1,_,k2⟩:=Am c hc 7 (by decide)
 have h1:=h1 (by decide)
 refine Tot.bind (Tot.of (Q:=λ r=>r=(x,c2)) e2 rfl) ?_
 rintro r rfl
 refine Tot.bind (R0a x.toNat x c2 [] [] ([],[]) (by omega) (by omega) k2 (by decide)) (λ r hr=>?_)
 exact Tot.pure hr
theorem O3 (c:Cur) (hc:Ck c):∃ x c',Cu c=some (x,c')∧Jv x∧Ck c':=by
 obtain ⟨b,c1,e1,k1⟩:=Nk c hc 5 (by decide)
 unfold Cu
 cases b with
 |true=>
  obtain ⟨x,c',e,hx,k⟩:=Kla c1 k1 [(⟨#[]⟩:ByteArray),(⟨#[65]⟩:ByteArray),(⟨#[97,32,98]⟩:ByteArray),(⟨#[116,119,101,110,116,121,111,110,101,98,121,116,101,115,116,119,101,110,116,121,111]⟩:ByteArray),(⟨#[116,119,101,110,116,121,98,121,116,101,115,116,119,101,110,116,121,98,121,116]⟩:ByteArray),(⟨#[47]⟩:ByteArray)] (by decide) (by decide)
  refine ⟨x,c',by simp only [e1,e,Option.bind_some,cond_true],?_,k⟩
  simp only [List.mem_cons,List.not_mem_nil,or_false] at hx
  unfold Jv
  rcases hx with rfl|rfl|rfl|rfl|rfl|rfl<;>decide
 |false=>
  obtain ⟨x,c',e,hx,k⟩:=Nl c1 k1
  exact ⟨x,c',by simp only [e1,e,Option.bind_some,cond_false],(Le x hx).1,k⟩
theorem R2a {l:List Nmd} {x:Nmd} (h:Fja l) (hl:l.length≤999) (hx:x.2.length≤1000000000000):Fja (l++[x]):=by
 refine ⟨by simp only [List.length_append,List.length_cons,List.length_nil]; omega,λ y hy=>?_⟩
 rcases List.mem_append.1 hy with hy|hy
 ·exact h.2 y hy
 ·rw [List.mem_singleton.1 hy]; exact hx
theorem Fra {l:List Nmd} {x:Nmd} (h:Nn l) (hx:Jv x.1):Nn (l++[x]):=by
 intro y hy
 rcases List.mem_append.1 hy with hy|hy
 ·exact h y hy
 ·rw [List.mem_singleton.1 hy]; exact hx
theorem Uqa (c:Cur) (hc:Ck c):Tot (λ k=>J7 k c) (λ r=>DIn r.1∧Ck r.2):=by
 unfold J7
 refine Tot.bind (R1a c hc) (λ d hd=>?_)
 obtain ⟨hd,k0⟩:=hd
 have hin:=Nz hd
 have hd':=hd
 unfold Ao at hd'
 rw [Bool.and_eq_true] at hd'
 have g1:=(Af.1 hd'.1).2.2
 have g2:=(Af.1 hd'.2).2.2
 obtain ⟨x,c2,e2,_,_,_,k2⟩:=Am d.2 k0 12 (by decide)
 refine Tot.bind (Tot.of (Q:=λ r=>r=(x,c2)) e2 rfl) ?_
 rintro r rfl
 refine Tot.ite (λ _=>?_) (λ _=>Tot.ite (λ _=>?_) (λ _=>Tot.pure ⟨hin,k2⟩))
 ·obtain ⟨s,c3,e3,hs,k3⟩:=O3 c2 k2
  refine Tot.bind (Tot.of (Q:=λ r=>r=(s,c3)) e3 rfl) ?_
  rintro r rfl
  refine Tot.ble (by simp only [List.length_cons,List.length_nil]; omega) (Tot.pure ⟨⟨⟨⟨R2a hin.1.1.1 (by omega) (Nat.zero_le _),hin.1.1.2⟩,Fra hin.1.2.1 hs,hin.1.2.2⟩,?_,hin.2.2⟩,k3⟩)
  simp only [List.length_append,List.length_cons,List.length_nil]; omega
 ·obtain ⟨s,c3,e3,hs,k3⟩:=O3 c2 k2
  refine Tot.bind (Tot.of (Q:=λ r=>r=(s,c3)) e3 rfl) ?_
  rintro r rfl
  obtain ⟨y,c4,e4,y0,y1,_,k4⟩:=Am c3 k3 2 (by decide)
  have y1:=y1 (by decide)
  refine Tot.bind (Tot.of (Q:=λ r=>r=(y,c4)) e4 rfl) ?_
  rintro r rfl
  dsimp only
  rw [w64 (n:=400+y) (by omega) (by omega)]
  refine Tot.dec rfl (Tot.dec (by omega) (Tot.dec (by omega) (Tot.ble (by simp only [List.length_cons,List.length_nil]; omega) (Tot.pure ⟨⟨⟨⟨hin.1.1.1,R2a hin.1.1.2 (by omega) ?_⟩,hin.1.2.1,Fra hin.1.2.2 hs⟩,hin.2.1,?_⟩,k4⟩))))
  ·simp only [List.length_replicate]; omega
  ·simp only [List.length_append,List.length_cons,List.length_nil]; omega

section
open Go
end

theorem Rh (p:Nmd→Bool):∀ l:List Nmd,l.take (l.takeWhile p).length=l.takeWhile p∧l.drop (l.takeWhile p).length=l.dropWhile p
 |[]=>⟨rfl,rfl⟩
 |y::l=>by
  obtain ⟨h1,h2⟩:=Rh p l
  simp only [List.takeWhile_cons,List.dropWhile_cons]
  cases p y with
  |true=>simp [h1,h2]
  |false=>simp
theorem Fsa {p:Nmd→Bool}:∀ {l:List Nmd} {y:Nmd},y∈l.takeWhile p→p y=true
 |[],y,h=>by simp at h
 |z::l,y,h=>by
  simp only [List.takeWhile_cons] at h
  cases hz:p z with
  |false=>rw [hz] at h; simp at h
  |true=>
   rw [hz] at h
   simp only [if_true] at h
   rcases List.mem_cons.1 h with rfl|h
   ·exact hz
   ·exact Fsa h
theorem Wra (l:List Nmd) (x:Nmd):ins l x=l.takeWhile (λ y=>tlt y.1 x.1)++([x]++l.dropWhile (λ y=>tlt y.1 x.1)):=by
 unfold ins plc
 obtain ⟨h1,h2⟩:=Rh (λ y=>tlt y.1 x.1) l
 rw [h1,h2,List.append_assoc]
theorem Bna {x:Nmd}:∀ {l:List Nmd},Fv l→(∀ y∈l,y.1≠x.1)→∀ z∈l.dropWhile (λ y=>tlt y.1 x.1),tlt x.1 z.1=true
 |[],_,_,z,hz=>by simp at hz
 |y::l,hs,hn,z,hz=>by
  obtain ⟨h1,h2⟩:=List.pairwise_cons.1 hs
  simp only [List.dropWhile_cons] at hz
  cases hy:tlt y.1 x.1 with
  |true=>
   rw [hy] at hz
   simp only [if_true] at hz
   exact Bna h2 (λ w hw=>hn w (List.mem_cons_of_mem _ hw)) z hz
  |false=>
   rw [hy] at hz
   simp only [Bool.false_eq_true,if_false] at hz
   have hxy:tlt x.1 y.1=true:=by
    cases hh:tlt x.1 y.1 with
    |true=>rfl
    |false=>exact absurd (Xo hy hh) (hn y (by simp))
   rcases List.mem_cons.1 hz with rfl|hz
   ·exact hxy
   ·exact M9 hxy (h1 z hz)
theorem R5 {l:List Nmd} {x:Nmd} (hs:Fv l) (hn:∀ y∈l,y.1≠x.1):Fv (ins l x):=by
 rw [Wra]
 have hs':Fv (l.takeWhile (λ y=>tlt y.1 x.1)++l.dropWhile (λ y=>tlt y.1 x.1)):=by rw [List.takeWhile_append_dropWhile]; exact hs
 obtain ⟨h1,h2,h3⟩:=List.pairwise_append.1 hs'
 have h4:∀ y∈l.takeWhile (λ y=>tlt y.1 x.1),tlt y.1 x.1=true:=λ y hy=>Fsa (p:=λ y=>tlt y.1 x.1) hy
 refine List.pairwise_append.2 ⟨h1,List.pairwise_cons.2 ⟨λ z hz=>Bna hs hn z hz,h2⟩,λ a ha b hb=>?_⟩
 rcases List.mem_cons.1 hb with rfl|hb
 ·exact h4 a ha
 ·exact h3 a ha b hb
theorem U4 {l:List Nmd} {x y:Nmd}:y∈ins l x↔y=x∨y∈l:=by
 rw [Wra]
 have e:=List.takeWhile_append_dropWhile (p:=λ y:Nmd=>tlt y.1 x.1) (l:=l)
 constructor
 ·intro h
  rcases List.mem_append.1 h with h|h
  ·right; rw [← e]; exact List.mem_append_left _ h
  ·rcases List.mem_cons.1 h with h|h
   ·exact .inl h
   ·right; rw [← e]; exact List.mem_append_right _ h
 ·rintro (rfl|h)
  ·exact List.mem_append_right _ (by simp)
  ·rw [← e] at h
   rcases List.mem_append.1 h with h|h
   ·exact List.mem_append_left _ h
   ·exact List.mem_append_right _ (List.mem_cons_of_mem _ h)
theorem Wsa {l:List Nmd} {x:Nmd} (hl:Io l=true) (hn:∀ y∈l,y.1≠x.1) (hx:nOk x=true):Io (ins l x)=decide ((ins l x).length≤60):=by
 obtain ⟨h1,h2,h3⟩:=Af.1 hl
 by_cases h:(ins l x).length≤60
 ·rw [decide_eq_true h]
  exact Af.2 ⟨R5 h1 hn,λ y hy=>by rcases U4.1 hy with rfl|hy; exact hx; exact h2 y hy,h⟩
 ·rw [decide_eq_false h]
  cases hc:Io (ins l x) with
  |false=>rfl
  |true=>exact absurd (Af.1 hc).2.2 h
theorem Y1 {l:List Nmd} {s:ByteArray}:∀ y∈cut l s,y.1≠s:=λ y hy e=>by
 have:=(List.mem_filter.1 hy).2
 simp [e,Ja.2 rfl] at this
theorem Yza {l:List Nmd} {s:ByteArray}:cut (cut l s) s=cut l s:=by
 unfold cut
 rw [List.filter_filter]
 congr 1
 funext x
 simp
theorem Z0a {d:Dsk} {s:ByteArray} (hd:Ao d=true):syS d s=syI d s:=by
 unfold Ao at hd
 rw [Bool.and_eq_true] at hd
 have hs:=(Af.1 hd.2).1
 unfold syS syI
 rw [U2 hs]
 cases fnd d.1 s with
 |none=>rfl
 |some i=>
  show ptl _ false (cut d.2 s)=ins (cut d.2 s) _
  rw [U3 _ (Ml hs)]
  show ins (cut (cut d.2 s) s) _=_
  rw [Yza]
theorem R3a {d:Dsk} {s:ByteArray} (hd:Ao d=true) (hs:B1 s=true):Ao (d.1,syI d s)=decide ((syI d s).length≤60):=by
 have hd':=hd
 unfold Ao at hd'
 rw [Bool.and_eq_true] at hd'
 have h2:=Af.1 hd'.2
 unfold Ao
 rw [hd'.1,Bool.true_and]
 unfold syI
 rw [U2 h2.1]
 cases h:fnd d.1 s with
 |none=>show Io (cut d.2 s)=decide ((cut d.2 s).length≤60); rw [Ui hd'.2,decide_eq_true (Af.1 (Ui (s:=s) hd'.2)).2.2]
 |some i=>
  refine Wsa (Ui hd'.2) Y1 (Pl.2 ⟨hs,?_⟩)
  have h1:=(Af.1 hd'.1).2.1 _ (A4 (d:=Fu) (Pq h).1)
  exact (Pl.1 h1).2
theorem Z1a {l:List Nmd} (hs:Fv l) {x y:Nmd} (hx:x∈l) (hy:y∈l) (e:x.1=y.1):x=y:=by
 induction l with
 |nil=>simp at hx
 |cons z l ih=>
  obtain ⟨h1,h2⟩:=List.pairwise_cons.1 hs
  rcases List.mem_cons.1 hx with hx'|hx'
  ·rcases List.mem_cons.1 hy with hy'|hy'
   ·rw [hx',hy']
   ·have:=h1 y hy'; rw [← hx',e,Km] at this; cases this
  ·rcases List.mem_cons.1 hy with hy'|hy'
   ·have:=h1 x hx'; rw [← hy',e,Km] at this; cases this
   ·exact ih h2 hx' hy'

def wrI (d:Dsk) (s:ByteArray) (b:List Int):List Nmd:=ins (del d.1 s) (s,b)
theorem L5a {d:Dsk} {s:ByteArray} {b:List Int} (hd:Ao d=true) (hs:B1 s=true):ptl (s,b) false d.1=wrI d s b∧Ao (wrI d s b,d.2)=(decide (b.length≤400)&&decide ((wrI d s b).length≤60)):=by
 have hd':=hd
 unfold Ao at hd'
 rw [Bool.and_eq_true] at hd'
 have h1:=Af.1 hd'.1
 have e1:wrI d s b=ins (cut d.1 s) (s,b):=by unfold wrI; rw [U2 h1.1]
 refine ⟨by rw [e1]; exact U3 _ h1.1,?_⟩
 unfold Ao
 rw [hd'.2,Bool.and_true,e1]
 by_cases hb:b.length≤400
 ·rw [decide_eq_true hb,Bool.true_and]
  exact Wsa (Ui hd'.1) Y1 (Pl.2 ⟨hs,hb⟩)
 ·rw [decide_eq_false hb,Bool.false_and]
  cases hc:Io (ins (cut d.1 s) (s,b)) with
  |false=>rfl
  |true=>exact absurd (Pl.1 ((Af.1 hc).2.1 (s,b) (U4.2 (.inl rfl)))).2 hb

def TS (l:List ByteArray):Prop:=l.Pairwise (λ a b=>tlt a b=true)
def pk (l:List Nmd) (s:ByteArray):Option Nmd:=match fnd l s with
 |some i=>some (l.getD i Fu)
 |none=>none
def Og:ByteArray:=⟨#[]⟩
def tpl (l:List ByteArray) (s:ByteArray):Nat:=(l.takeWhile (λ y=>tlt y s)).length
def wt (l:List ByteArray) (s:ByteArray):List ByteArray:=if tpl l s<l.length∧teq (l.getD (tpl l s) Og) s=true then l else l.take (tpl l s)++[s]++l.drop (tpl l s)
theorem Bib (l:List ByteArray) (s:ByteArray):tpl l s≤l.length:=(List.takeWhile_sublist _).length_le
theorem L6a {l:List ByteArray} {s y:ByteArray}:y∈wt l s↔y=s∨y∈l:=by
 unfold wt
 by_cases h:tpl l s<l.length∧teq (l.getD (tpl l s) Og) s=true
 ·rw [if_pos h]
  refine ⟨.inr,λ h'=>?_⟩
  rcases h' with rfl|h'
  ·have:=A4 (d:=Og) h.1
   rwa [Ja.1 h.2] at this
  ·exact h'
 ·rw [if_neg h]
  have e:l.take (tpl l s)++l.drop (tpl l s)=l:=List.take_append_drop _ _
  constructor
  ·intro h'
   rw [List.append_assoc] at h'
   rcases List.mem_append.1 h' with h'|h'
   ·right; rw [← e]; exact List.mem_append_left _ h'
   ·rcases List.mem_append.1 h' with h'|h'
    ·left; simpa using h'
    ·right; rw [← e]; exact List.mem_append_right _ h'
  ·rintro (rfl|h')
   ·simp
   ·rw [← e] at h'
    rcases List.mem_append.1 h' with h'|h'<;>simp [h']
theorem L7a (p:ByteArray→Bool):∀ l:List ByteArray,l.take (l.takeWhile p).length=l.takeWhile p∧l.drop (l.takeWhile p).length=l.dropWhile p
 |[]=>⟨rfl,rfl⟩
 |y::l=>by
  obtain ⟨h1,h2⟩:=L7a p l
  simp only [List.takeWhile_cons,List.dropWhile_cons]
  cases p y with
  |true=>simp [h1,h2]
  |false=>simp
theorem Boa {p:ByteArray→Bool}:∀ {l:List ByteArray} {y:ByteArray},y∈l.takeWhile p→p y=true
 |[],y,h=>by simp at h
 |z::l,y,h=>by
  simp only [List.takeWhile_cons] at h
  cases hz:p z with
  |false=>rw [hz] at h; simp at h
  |true=>
   rw [hz] at h
   simp only [if_true] at h
   rcases List.mem_cons.1 h with rfl|h
   ·exact hz
   ·exact Boa h
theorem Y2 {s:ByteArray}:∀ {l:List ByteArray},TS l→(∀ y r,l.dropWhile (λ y=>tlt y s)=y::r→y≠s)→∀ z∈l.dropWhile (λ y=>tlt y s),tlt s z=true
 |[],_,_,z,hz=>by simp at hz
 |y::l,hs,hn,z,hz=>by
  obtain ⟨h1,h2⟩:=List.pairwise_cons.1 hs
  simp only [List.dropWhile_cons] at hz hn
  cases hy:tlt y s with
  |true=>
   rw [hy] at hz hn
   simp only [if_true] at hz hn
   exact Y2 h2 hn z hz
  |false=>
   rw [hy] at hz hn
   simp only [Bool.false_eq_true,if_false] at hz hn
   have hxy:tlt s y=true:=by
    cases hh:tlt s y with
    |true=>rfl
    |false=>exact absurd (Xo hy hh) (hn y l rfl)
   rcases List.mem_cons.1 hz with rfl|hz
   ·exact hxy
   ·exact M9 hxy (h1 z hz)
theorem Qh {l:List ByteArray} {s:ByteArray} (hs:TS l):TS (wt l s):=by
 unfold wt
 by_cases h:tpl l s<l.length∧teq (l.getD (tpl l s) Og) s=true
 ·rw [if_pos h]; exact hs
 ·rw [if_neg h]
  obtain ⟨e1,e2⟩:=L7a (λ y=>tlt y s) l
  have hd:∀ y r,l.dropWhile (λ y=>tlt y s)=y::r→y≠s:=by
   intro y r hr hy
   rw [← e2] at hr
   have hlt:tpl l s<l.length:=by
    rcases Nat.lt_or_ge (tpl l s) l.length with h'|h'
    ·exact h'
    ·have:l.drop (tpl l s)=[]:=List.drop_of_length_le h'
     unfold tpl at this
     rw [this] at hr
     cases hr
   have:l.drop (tpl l s)=l.getD (tpl l s) Og::l.drop (tpl l s+1):=An hlt
   unfold tpl at this
   rw [this] at hr
   simp only [List.cons.injEq] at hr
   exact h ⟨hlt,Ja.2 (hr.1.trans hy)⟩
  have e1':l.take (tpl l s)=l.takeWhile (λ y=>tlt y s):=e1
  have e2':l.drop (tpl l s)=l.dropWhile (λ y=>tlt y s):=e2
  rw [e1',e2',List.append_assoc]
  have hs':TS (l.takeWhile (λ y=>tlt y s)++l.dropWhile (λ y=>tlt y s)):=by rw [List.takeWhile_append_dropWhile]; exact hs
  obtain ⟨h1,h2,h3⟩:=List.pairwise_append.1 hs'
  refine List.pairwise_append.2 ⟨h1,List.pairwise_cons.2 ⟨λ z hz=>Y2 hs hd z hz,h2⟩,λ a ha b hb=>?_⟩
  rcases List.mem_cons.1 hb with rfl|hb
  ·exact Boa (p:=λ y=>tlt y b) ha
  ·exact h3 a ha b hb

theorem R4a {l:List ByteArray} {s:ByteArray}:(wt l s).length≤l.length+1:=by
 unfold wt
 have:=Bib l s
 split
 ·omega
 ·simp only [List.length_append,List.length_take,List.length_drop,List.length_cons,List.length_nil]; omega

section
variable {α σ R:Type} {a b:α} {p:Prop} [Decidable p]
theorem dT (h:p):cond (decide p) a b=a:=by rw [decide_eq_true h]; rfl
theorem dF (h:¬ p):cond (decide p) a b=b:=by rw [decide_eq_false h]; rfl
theorem bT {m n:Nat} (h:m≤n):cond (Nat.ble m n) a b=a:=by rw [Nat.ble_eq_true_of_le h]; rfl
theorem Tot.up {L:Nat→Int→σ→Option R} {Q:R→Prop} (n:Nat) (I:Nat→σ→Prop) (hend:∀ s,I n s→Tot (λ k=>L (k+1) (n:Int) s) Q)
  (Ixa:∀ i s,i<n→I i s→(∀ s',I (i+1) s'→Tot (λ k=>L k ((i:Int)+1) s') Q)→Tot (λ k=>L (k+1) (i:Int) s) Q):
  ∀ (i:Nat) (s:σ),i≤n→I i s→Tot (λ k=>L k (i:Int) s) Q:=by
 suffices h:∀ (m i:Nat) (s:σ),n - i=m→i≤n→I i s→Tot (λ k=>L k (i:Int) s) Q from λ i s hi hs=>h _ i s rfl hi hs
 intro m
 induction m with
 |zero=>
  intro i s hm hi hs
  obtain rfl:i=n:=by omega
  exact Tot.succ (hend s hs)
 |succ m ih=>
  intro i s hm hi hs
  refine Tot.succ (Ixa i s (by omega) hs λ s' hs'=>?_)
  have:=ih (i+1) s' (by omega) (by omega) hs'
  rwa [show (((i+1:Nat)):Int)=(i:Int)+1 by omega] at this
end
def cst (x:BitVec 32):BitVec 32:=if x.getLsbD 0 then (x >>> 1) ^^^ 2197175160#32 else x >>> 1
def Afa:Nat→BitVec 32→BitVec 32
 |0,x=>x
 |n+1,x=>Afa n (cst x)
def cby (x:BitVec 32) (b:Int):BitVec 32:=Afa 8 (x ^^^ BitVec.ofInt 32 b)
def A9b (l:List Int):BitVec 32 := ~~~ (l.foldl cby 4294967295#32)
def crc (l:List Int):Int:=((A9b l).toNat:Int)
theorem Dfb (v:BitVec 32):v.getLsbD 0=decide (v.toNat % 2=1):=by
 rw [BitVec.getLsbD,Nat.testBit_zero]
theorem Iha (v:BitVec 32):BitVec.ofInt (IntKind.bits .u32) (v.toNat:Int)=v:=by
 show BitVec.ofInt 32 (v.toNat:Int)=v
 rw [BitVec.ofInt_natCast,BitVec.ofNat_toNat,BitVec.setWidth_eq]
theorem Iia (n:Nat) (h:n<4294967296):(BitVec.ofInt (IntKind.bits .i64) (n:Int)).toNat=n:=Qg n (by omega)
theorem Cxb (v:BitVec 32):IntKind.wrap .u32 (v.toNat:Int)=(v.toNat:Int):=Go.IntWalk.u32_in _ ⟨by omega,by have:=v.isLt; omega⟩
theorem sh1 (v:BitVec 32):Int.fdiv (v.toNat:Int) 2=((v >>> 1).toNat:Int):=by
 rw [Int.fdiv_eq_ediv_of_nonneg _ (by omega),BitVec.toNat_ushiftRight,Nat.shiftRight_eq_div_pow]
 omega
theorem Cyb (v:BitVec 32):((IntKind.wrap .u32 ((BitVec.ofInt (IntKind.bits .u32) (v.toNat:Int) &&& BitVec.ofInt (IntKind.bits .u32) 1).toNat))==1)=v.getLsbD 0:=by
 show (IntKind.wrap .u32 (((BitVec.ofInt 32 (v.toNat:Int) &&& BitVec.ofInt 32 1).toNat:Nat):Int)==1)=_
 rw [show BitVec.ofInt 32 (v.toNat:Int)=v from Iha v,Cxb,Dfb,BitVec.toNat_and,show (BitVec.ofInt 32 1).toNat=1 from by decide,Nat.and_one_is_mod,Bool.eq_iff_iff,beq_iff_eq,decide_eq_true_iff]
 omega
theorem Czb (v:BitVec 32):((IntKind.wrap .i64 ((BitVec.ofInt (IntKind.bits .i64) (v.toNat:Int) &&& BitVec.ofInt (IntKind.bits .i64) 1).toNat))==1)=v.getLsbD 0:=by
 have:=v.isLt
 rw [Dfb,BitVec.toNat_and,Iia _ v.isLt,show (BitVec.ofInt (IntKind.bits .i64) 1).toNat=1 from by decide,Nat.and_one_is_mod,w64 (by omega) (by omega),Bool.eq_iff_iff,beq_iff_eq,decide_eq_true_iff]
 omega
theorem D0b (v w:BitVec 32) (x:Int) (h:BitVec.ofInt 32 x=w):IntKind.wrap .u32 ((BitVec.ofInt (IntKind.bits .u32) (v.toNat:Int) ^^^ BitVec.ofInt (IntKind.bits .u32) x).toNat)=((v ^^^ w).toNat:Int):=by
 show IntKind.wrap .u32 (((BitVec.ofInt 32 (v.toNat:Int) ^^^ BitVec.ofInt 32 x).toNat:Nat):Int)=_
 rw [show BitVec.ofInt 32 (v.toNat:Int)=v from Iha v,h]
 exact Cxb _
theorem Chb (v w:BitVec 32):IntKind.wrap .i64 ((BitVec.ofInt (IntKind.bits .i64) (v.toNat:Int) ^^^ BitVec.ofInt (IntKind.bits .i64) (w.toNat:Int)).toNat)=((v ^^^ w).toNat:Int):=by
 have:=(v ^^^ w).isLt
 rw [BitVec.toNat_xor,Iia _ v.isLt,Iia _ w.isLt,← BitVec.toNat_xor]
 exact w64 (by omega) (by omega)
theorem Dgb (K:IntKind) (h:1≤IntKind.bits K):(2:Int) ^ (min (Int.toNat 1) (IntKind.bits K))=2:=by
 rw [show Int.toNat 1=1 from rfl,Nat.min_eq_left h]; rfl
theorem N6a (l:List Int) (x8 x9:Int):∀ (n:Nat) (v:BitVec 32) (i:Int),0≤i→8 - i=n→Tot (λ k=>J9 k (v.toNat:Int) l x8 x9 i) (λ r=>r=(((Afa n v).toNat:Int),l,x8,x9)):=by
 intro n
 induction n with
 |zero=>
  intro v i h0 hn
  refine Tot.succ ?_
  simp only [J9]
  exact Tot.ndec (by omega) (Tot.pure rfl)
 |succ n ih=>
  intro v i h0 hn
  refine Tot.succ ?_
  simp only [J9]
  refine Tot.dec (by omega) ?_
  rw [w64 (n:=i+1) (by omega) (by omega),Cyb,Dgb _ (by decide),sh1,D0b _ 2197175160#32 _ (by decide)]
  have e:Afa (n+1) v=Afa n (cst v):=rfl
  rw [e]
  refine Tot.ite (λ h=>?_) (λ h=>?_)
  ·have:=ih (v >>> 1 ^^^ 2197175160#32) (i+1) (by omega) (by omega)
   rwa [show v >>> 1 ^^^ 2197175160#32=cst v by unfold cst; rw [if_pos h]] at this ⊢
  ·have:=ih (v >>> 1) (i+1) (by omega) (by omega)
   rwa [show v >>> 1=cst v by unfold cst; rw [if_neg (by rw [h]; simp)]] at this ⊢
theorem Ija (l:List Int) (x4:Int):∀ (n:Nat) (v:BitVec 32) (i:Int),0≤i→8 - i=n→Tot (λ k=>H9 k l (v.toNat:Int) x4 i) (λ r=>r=(l,((Afa n v).toNat:Int),x4)):=by
 intro n
 induction n with
 |zero=>
  intro v i h0 hn
  refine Tot.succ ?_
  simp only [H9]
  exact Tot.ndec (by omega) (Tot.pure rfl)
 |succ n ih=>
  intro v i h0 hn
  refine Tot.succ ?_
  simp only [H9]
  have hp:(2197175160:Int)=((2197175160#32:BitVec 32).toNat:Int):=by decide
  refine Tot.dec (by omega) ?_
  rw [w64 (n:=i+1) (by omega) (by omega),Czb,Dgb _ (by decide),sh1,hp,Chb]
  have e:Afa (n+1) v=Afa n (cst v):=rfl
  rw [e]
  refine Tot.ite (λ h=>?_) (λ h=>?_)
  ·have:=ih (v >>> 1 ^^^ 2197175160#32) (i+1) (by omega) (by omega)
   rwa [show v >>> 1 ^^^ 2197175160#32=cst v by unfold cst; rw [if_pos h]] at this ⊢
  ·have:=ih (v >>> 1) (i+1) (by omega) (by omega)
   rwa [show v >>> 1=cst v by unfold cst; rw [if_neg (by rw [h]; simp)]] at this ⊢
theorem L8a {b:Int} (h:0≤b∧b≤255):b=((BitVec.ofInt 32 b).toNat:Int):=by
 rw [BitVec.toNat_ofInt]
 omega
theorem Z2a (l:List Int) (hb:Al l) (hl:l.length≤1000000000000):Tot (λ k=>Lj k l) (λ r=>r=crc l):=by
 unfold Lj
 refine Tot.bind (Q:=λ r=>r=(((l.foldl cby 4294967295#32).toNat:Nat):Int)) ?_ ?_
 ·have:=Tot.up (L:=λ k i s=>Jt k s l (l.length:Int) i) (Q:=λ r=>r=(((l.foldl cby 4294967295#32).toNat:Nat):Int)) l.length (λ i s=>∃ v:BitVec 32,s=(v.toNat:Int)∧(l.drop i).foldl cby v=l.foldl cby 4294967295#32) ?_ ?_ 0 4294967295 (Nat.zero_le _) ⟨4294967295#32,by decide,by rw [List.drop_zero]⟩
  ·exact this
  ·rintro s ⟨v,rfl,hv⟩
   simp only [Jt]
   rw [List.drop_length] at hv
   exact Tot.ndec (by omega) (Tot.pure (by rw [← hv]; rfl))
  ·rintro i s hi ⟨v,rfl,hv⟩ next
   simp only [Jt]
   have hx:=hb _ (A4 (d:=0) hi)
   refine Tot.dec (by omega) (Tot.dec (by omega) (Tot.dec (by omega) ?_))
   rw [Int.toNat_natCast,Go.IntWalk.u32_in _ ⟨hx.1,by omega⟩,D0b v _ _ rfl]
   refine Tot.bind (N6a l _ _ 8 _ 0 (by decide) (by decide)) ?_
   rintro r rfl
   simp only
   rw [w64 (n:=(i:Int)+1) (by omega) (by omega)]
   refine next _ ⟨_,rfl,?_⟩
   rw [An (d:=0) hi,List.foldl_cons] at hv
   exact hv
 ·rintro r rfl
  refine Tot.pure ?_
  unfold crc A9b
  have hm:BitVec.ofInt 32 (if IntKind.signed .u32 then -1 else IntKind.max .u32)=BitVec.allOnes 32:=by decide
  have e:BitVec.allOnes 32 ^^^ l.foldl cby 4294967295#32 = ~~~ (l.foldl cby 4294967295#32):=by rw [BitVec.xor_comm]; exact BitVec.xor_allOnes
  show IntKind.wrap .i64 (IntKind.wrap .u32 (((BitVec.ofInt 32 (if IntKind.signed .u32 then -1 else IntKind.max .u32) ^^^ BitVec.ofInt 32 ((l.foldl cby 4294967295#32).toNat:Int)).toNat:Nat):Int))=_
  rw [show BitVec.ofInt 32 ((l.foldl cby 4294967295#32).toNat:Int)=l.foldl cby 4294967295#32 from Iha _,hm,e]
  have:=(~~~ (l.foldl cby 4294967295#32)).isLt
  rw [Cxb,w64 (by omega) (by omega)]
theorem Z3a (l:List Int) (hb:Al l) (hl:l.length≤1000000000000):Tot (λ k=>Ks k l) (λ r=>r=crc l):=by
 unfold Ks
 refine Tot.bind (Q:=λ r=>r=(((l.foldl cby 4294967295#32).toNat:Nat):Int)) ?_ ?_
 ·have:=Tot.up (L:=λ k i s=>Hl k l s i) (Q:=λ r=>r=(((l.foldl cby 4294967295#32).toNat:Nat):Int)) l.length (λ i s=>∃ v:BitVec 32,s=(v.toNat:Int)∧(l.drop i).foldl cby v=l.foldl cby 4294967295#32) ?_ ?_ 0 4294967295 (Nat.zero_le _) ⟨4294967295#32,by decide,by rw [List.drop_zero]⟩
  ·exact this
  ·rintro s ⟨v,rfl,hv⟩
   simp only [Hl]
   rw [List.drop_length] at hv
   exact Tot.ndec (by omega) (Tot.pure (by rw [← hv]; rfl))
  ·rintro i s hi ⟨v,rfl,hv⟩ next
   simp only [Hl]
   have hx:=hb _ (A4 (d:=0) hi)
   refine Tot.dec (by omega) (Tot.dec (by omega) (Tot.dec (by omega) ?_))
   rw [Int.toNat_natCast,w64 (n:=l.getD i 0) (by omega) (by omega),L8a hx,Chb]
   refine Tot.bind (Ija l _ 8 _ 0 (by decide) (by decide)) ?_
   rintro r rfl
   simp only
   rw [w64 (n:=(i:Int)+1) (by omega) (by omega)]
   refine next _ ⟨_,rfl,?_⟩
   rw [An (d:=0) hi,List.foldl_cons] at hv
   exact hv
 ·rintro r rfl
  refine Tot.pure ?_
  have hp:(4294967295:Int)=((BitVec.allOnes 32:BitVec 32).toNat:Int):=by decide
  rw [hp,Chb,BitVec.xor_allOnes]
  rfl

def W2:Fil:=(((0:Int),((0:Int),(0:Int))),(false,([]:List Int)))
def Fh (f:Fil):Bool:=Ft f.1&&(decide ((f.2.2.length:Int)≤200)&&(!f.2.1 || ((f.2.2.length:Int)==0)))
theorem L9a (f:Fil):Hx f=some (Fh f):=by
 unfold Hx Fh
 rw [Xu]
 simp only [Option.bind_some]
 cases Ft f.1<;>cases decide ((List.length f.2.2:Int)≤200)<;>cases f.2.1<;>rfl
theorem T3 (f:Fil):Bq f=some (Fh f):=by
 unfold Bq Fh
 rw [Qf]
 simp only [Option.bind_some]
 cases Ft f.1<;>cases decide ((List.length f.2.2:Int)≤200)<;>cases f.2.1<;>rfl
theorem Ik {f:Fil}:Fh f=true↔Ft f.1=true∧f.2.2.length≤200∧(f.2.1=true→f.2.2=[]):=by
 unfold Fh
 rw [Bool.and_eq_true,Bool.and_eq_true,decide_eq_true_iff]
 have:(!f.2.1 || ((f.2.2.length:Int)==0))=true↔(f.2.1=true→f.2.2=[]):=by
  cases f.2.1 with
  |false=>simp
  |true=>simp
 rw [this]
 constructor
 ·rintro ⟨h1,h2,h3⟩; exact ⟨h1,by omega,h3⟩
 ·rintro ⟨h1,h2,h3⟩; exact ⟨h1,by omega,h3⟩
theorem R5a (a b:Fil):Kh a b=some (sle b.1 a.1):=by unfold Kh; rw [Koa]; rfl
theorem Fta (a b:Fil):J6 a b=some (sle b.1 a.1):=by unfold J6; rw [Cva]; rfl
def hdF (s:Stp) (d:Bool):List Int:=Nxa s++Oc (Bh (Ada d))
def Od (f:Fil):List Int:=hdF f.1 f.2.1++txt (Kw f.2.2)
def c4 (c:Int):List Int:=[IntKind.wrap .u8 (Int.fdiv c (2 ^ (min (Int.toNat 24) (IntKind.bits .i64)))),IntKind.wrap .u8 (Int.fdiv c (2 ^ (min (Int.toNat 16) (IntKind.bits .i64)))),IntKind.wrap .u8 (Int.fdiv c (2 ^ (min (Int.toNat 8) (IntKind.bits .i64)))),IntKind.wrap .u8 c]
def L6 (f:Fil):List Int:=bif Fh f then Od f++c4 (crc (Od f)) else []
theorem Oz {a b:List Int} (ha:Al a) (hb:Al b):Al (a++b):=λ x hx=>(List.mem_append.1 hx).elim (ha x) (hb x)
theorem Qi (n:Int):Al (Oc (Bh n)):=N1a _ (Nm n)
theorem R6a (s:Stp) (d:Bool):Al (hdF s d):=Oz (Oz (Qi _) (Oz (Qi _) (Qi _))) (Qi _)
theorem Pm (f:Fil):Al (Od f):=Oz (R6a _ _) (Oz (Qi _) (Bga _))
theorem Ura (c:Int):Al (c4 c):=by
 intro x hx
 simp only [c4,List.mem_cons,List.not_mem_nil,or_false] at hx
 rcases hx with rfl|rfl|rfl|rfl<;>exact F7a _
theorem P0 (f:Fil):Al (L6 f):=by
 unfold L6
 cases Fh f with
 |false=>intro x hx; simp at hx
 |true=>exact Oz (Pm f) (Ura _)
theorem Ika (s:Stp) (d:Bool):(hdF s d).length≤20:=by
 have h1:=D1a s
 have h2:=(Ln (Bh (Ada d))).1
 unfold hdF
 rw [List.length_append]
 omega
theorem Y3 (f:Fil):(Od f).length≤25+f.2.2.length:=by
 have h1:=Ika f.1 f.2.1
 have h2:=Qra (Kw f.2.2)
 have h3:(Kw f.2.2).size=f.2.2.length:=Mj _
 unfold Od
 rw [List.length_append]
 omega
theorem D6a (f:Fil):(L6 f).length≤229:=by
 unfold L6
 cases h:Fh f with
 |false=>simp
 |true=>
  have h1:=Y3 f
  have h2:=(Ik.1 h).2.1
  rw [cond_true,List.length_append]
  simp only [c4,List.length_cons,List.length_nil]
  omega
theorem Rv (f:Fil):Tot (λ k=>J3 k f) (λ r=>r=L6 f):=by
 unfold J3 L6
 refine Tot.bind (Tot.of (Q:=λ b=>b=Fh f) (L9a f) rfl) ?_
 rintro b rfl
 cases h:Fh f with
 |false=>exact Tot.yes rfl (Tot.pure rfl)
 |true=>
  have h2:=(Ik.1 h).2.1
  have h3:(Kw f.2.2).size=f.2.2.length:=Mj _
  have h4:=Ika f.1 f.2.1
  have h5:=Y3 f
  refine Tot.no rfl (Tot.bind (N2a [] f.1 f.2.1 (by simp)) ?_)
  rintro r rfl
  rw [List.nil_append]
  refine Tot.bind (Uia _ _ (by unfold hdF at h4; omega) (by omega)) ?_
  rintro r rfl
  have e:Nxa f.1++Oc (Bh (Ada f.2.1))++txt (Kw f.2.2)=Od f:=rfl
  rw [e]
  refine Tot.bind (Z2a _ (Pm f) (by omega)) ?_
  rintro r rfl
  exact Tot.ble (by simp only [List.length_cons,List.length_nil]; omega) (Tot.pure rfl)
theorem Rw (f:Fil):Tot (λ k=>Bc k f) (λ r=>r=L6 f):=by
 unfold Bc L6
 refine Tot.bind (Tot.of (Q:=λ b=>b=Fh f) (T3 f) rfl) ?_
 rintro b rfl
 cases h:Fh f with
 |false=>exact Tot.yes rfl (Tot.pure rfl)
 |true=>
  have h2:=(Ik.1 h).2.1
  have h3:(Kw f.2.2).size=f.2.2.length:=Mj _
  have h4:=Ika f.1 f.2.1
  have h5:=Y3 f
  have h6:=D1a f.1
  refine Tot.no rfl (Tot.bind (Bia [] f.1 (by simp)) ?_)
  rintro r rfl
  rw [List.nil_append]
  refine Tot.bind (Tot.of (Q:=λ r=>r=Ada f.2.1) (Kya _) rfl) ?_
  rintro c rfl
  refine Tot.bind (U1 _ _ (by omega)) ?_
  rintro d rfl
  refine Tot.bind (Kva _ _ (by unfold hdF at h4; omega) (by omega)) ?_
  rintro r rfl
  have e:Nxa f.1++Oc (Bh (Ada f.2.1))++txt (Kw f.2.2)=Od f:=rfl
  rw [e]
  refine Tot.bind (Z3a _ (Pm f) (by omega)) ?_
  rintro r rfl
  exact Tot.ble (by simp only [List.length_cons,List.length_nil]; omega) (Tot.pure rfl)
def O4 (b:List Int):Option Fil:=(Pu b 0).bind λ a=>(Kwa b a.2).bind λ t=>bif Fh (a.1.1,a.1.2,bytesOf t.1)&&decide (L6 (a.1.1,a.1.2,bytesOf t.1)=b) then some (a.1.1,a.1.2,bytesOf t.1) else none
def Ux (b:List Int):Fil×Bool:=match O4 b with
 |some f=>(f,true)
 |none=>(W2,false)
theorem R7a {b:List Int} {f:Fil} (h:O4 b=some f):Fh f=true∧Al f.2.2∧L6 f=b:=by
 unfold O4 at h
 simp only [Option.bind_eq_some_iff] at h
 obtain ⟨a,_,t,_,h⟩:=h
 cases hc:(Fh (a.1.1,a.1.2,bytesOf t.1)&&decide (L6 (a.1.1,a.1.2,bytesOf t.1)=b)) with
 |false=>rw [hc] at h; cases h
 |true=>
  rw [hc] at h
  simp only [cond_true,Option.some.injEq] at h
  subst h
  rw [Bool.and_eq_true,decide_eq_true_iff] at hc
  exact ⟨hc.1,Bga _,hc.2⟩
theorem R8a (s:Stp) (d:Bool) (rest:List Int) (h:Ft s=true):Pu (hdF s d++rest) 0=some ((s,d),(hdF s d).length):=by
 obtain ⟨t,c,n⟩:=s
 unfold Ft at h
 simp only [Bool.and_eq_true,Dz] at h
 obtain ⟨⟨t0,t1⟩,⟨c0,c1⟩,n0,n1⟩:=h
 have ht:=Xw t0 t1
 have hc:=Xw c0 (show c≤1000000000 by omega)
 have hn:=Xw n0 (show n≤1000000000 by omega)
 have hbit:(((Bh (Ada d):Nat):Int)==1)=d:=by cases d<;>decide
 have hbit2:¬ (1<Bh (Ada d)):=by cases d<;>decide
 have k:∀ (a:List Int) (n:Nat) (b:List Int),n≤1000000000→Of (a++(Oc n++b)) a.length=some (n,(a++Oc n).length):=λ a n b hn=>by rw [Kta a n b hn,List.length_append]
 have e0:hdF (t,c,n) d++rest=Oc (Bh t)++(Oc (Bh c)++(Oc (Bh n)++(Oc (Bh (Ada d))++rest))):=by
  unfold hdF Nxa
  simp only [List.append_assoc]
 have el:(hdF (t,c,n) d).length=(Oc (Bh t)).length+(Oc (Bh c)).length+(Oc (Bh n)).length+(Oc (Bh (Ada d))).length:=by
  unfold hdF Nxa
  simp only [List.length_append]
  omega
 have g1:=k [] (Bh t) (Oc (Bh c)++(Oc (Bh n)++(Oc (Bh (Ada d))++rest))) (Nm t)
 have g2:=k (Oc (Bh t)) (Bh c) (Oc (Bh n)++(Oc (Bh (Ada d))++rest)) (Nm c)
 have g3:=k (Oc (Bh t)++Oc (Bh c)) (Bh n) (Oc (Bh (Ada d))++rest) (Nm n)
 have g4:=k (Oc (Bh t)++Oc (Bh c)++Oc (Bh n)) (Bh (Ada d)) rest (Nm _)
 simp only [List.append_assoc,List.nil_append,List.length_nil] at g1 g2 g3 g4
 simp only [List.length_append] at g1 g2 g3 g4
 unfold Pu
 rw [e0,el]
 simp only [Nat.add_assoc] at g1 g2 g3 g4 ⊢
 simp only [g1,g2,g3,g4,Option.bind_some,decide_eq_false hbit2,cond_false]
 rw [ht,hc,hn,hbit]
theorem Usa {l:List Int} {q:Nat} {s:Stp} {d:Bool} (hb:Al l) (h:Pu l 0=some ((s,d),q)):l=hdF s d++l.drop q∧q≤l.length:=by
 unfold Pu at h
 simp only [Option.bind_eq_some_iff] at h
 obtain ⟨⟨t,p2⟩,h2,⟨c,p3⟩,h3,⟨n,p4⟩,h4,⟨e,p5⟩,h5,h⟩:=h
 obtain ⟨b1,b2,b3,b4⟩:=Ru hb h2
 obtain ⟨c1,c2,c3,c4⟩:=Ru hb h3
 obtain ⟨d1,d2,d3,d4⟩:=Ru hb h4
 obtain ⟨e1,e2,e3,e4⟩:=Ru hb h5
 cases hd:decide (1<e) with
 |true=>simp only [hd,cond_true] at h; cases h
 |false=>
  simp only [hd,cond_false,Option.some.injEq,Prod.mk.injEq] at h
  obtain ⟨⟨⟨rfl,rfl,rfl⟩,rfl⟩,rfl⟩:=h
  have he:e≤1:=by
   have:=of_decide_eq_false hd
   omega
  have hbit:Bh (Ada ((e:Int)==1))=e:=by
   have:e=0∨e=1:=by omega
   rcases this with rfl|rfl<;>decide
  have k:∀ n:Nat,n≤1000000000→Bh (n:Int)=n:=λ n hn=>by unfold Bh; omega
  simp only at b1 b2 c1 c2 d1 d2 e1 e2
  refine ⟨?_,e4⟩
  rw [List.drop_zero] at b1
  unfold hdF Nxa
  simp only
  rw [k t b2,k c c2,k n d2,hbit,List.append_assoc,List.append_assoc,List.append_assoc,← e1,← d1,← c1,← b1]
theorem W3 {f:Fil} (h:Fh f=true) (hb:Al f.2.2):O4 (L6 f)=some f:=by
 obtain ⟨h1,h2,h3⟩:=Ik.1 h
 have e:L6 f=hdF f.1 f.2.1++(txt (Kw f.2.2)++c4 (crc (Od f))):=by
  unfold L6
  rw [h,cond_true]
  unfold Od
  rw [List.append_assoc]
 have g1:=R8a f.1 f.2.1 (txt (Kw f.2.2)++c4 (crc (Od f))) h1
 have g2:=Uja (hdF f.1 f.2.1) (Kw f.2.2) (c4 (crc (Od f))) (by rw [Mj]; omega)
 rw [← e] at g1 g2
 unfold O4
 simp only [g1,g2,Option.bind_some]
 rw [Nb hb]
 have e1:(f.1,f.2.1,f.2.2)=f:=rfl
 rw [e1,h,decide_eq_true rfl]
 rfl
theorem Y4 {a b:List Int} (ha:Al a) (hb:Al b):((Kw a).toList==(Kw b).toList)=decide (a=b):=by
 have:teq (Kw a) (Kw b)=decide (a=b):=by
  rw [Bool.eq_iff_iff,Ja,decide_eq_true_iff]
  constructor
  ·intro h
   have:=congrArg bytesOf h
   rwa [Nb ha,Nb hb] at this
  ·rintro rfl; rfl
 exact this
theorem Uta (l:List Int) (hb:Al l) (hl:l.length≤1000000000000) (p:Int) (hp:p≤1000000000000):
  Tot (λ k=>Ci k (l,p,true)) (λ r=>r=((⟨#[]⟩:ByteArray),l,p,true)):=by
 unfold Ci
 refine Tot.bind (Kxa l hb hl p hp) ?_
 rintro r rfl
 exact Tot.yes rfl (Tot.pure rfl)
theorem Uua {f:Fil}:(((L6 f).length:Int)==0) = !(Fh f):=by
 unfold L6
 cases h:Fh f with
 |false=>rfl
 |true=>
  rw [cond_true,List.length_append,Bool.not_true,beq_eq_false_iff_ne]
  simp only [c4,List.length_cons,List.length_nil]
  omega
theorem Ila (b:List Int) (hb:Al b) (hl:b.length≤1000000000000):Tot (λ k=>J4 k b) (λ r=>r=Ux b):=by
 unfold J4
 refine Tot.bind (Cwb b hb hl 0 (Nat.zero_le _) false) ?_
 rintro r (⟨_,⟨s,d⟩,q,h1,h2,rfl⟩|⟨h1,s,d,q,h2,rfl⟩)
 ·refine Tot.bind (Cvb b hb hl q h2) ?_
  rintro r (⟨t,q2,h3,h4,rfl⟩|⟨h3,rfl⟩)
  ·have hsz:=(Ica hb h3).2.1
   refine Tot.ble (by dsimp only; omega) (Tot.bind (Rv _) ?_)
   rintro r rfl
   refine Tot.no rfl ?_
   have e:Ux b=bif Fh (s,d,bytesOf t)&&decide (L6 (s,d,bytesOf t)=b) then ((s,d,bytesOf t),true) else (W2,false):=by
    unfold Ux O4
    simp only [h1,h3,Option.bind_some]
    cases Fh (s,d,bytesOf t)&&decide (L6 (s,d,bytesOf t)=b)<;>rfl
   simp only
   rw [e,Uua]
   cases hf:Fh (s,d,bytesOf t) with
   |false=>exact Tot.yes rfl (Tot.pure rfl)
   |true=>
    refine Tot.no rfl ?_
    rw [Y4 (P0 _) hb]
    cases decide (L6 (s,d,bytesOf t)=b) with
    |false=>exact Tot.yes rfl (Tot.pure rfl)
    |true=>exact Tot.no rfl (Tot.pure rfl)
  ·refine Tot.ble (Nat.zero_le _) (Tot.bind (Rv _) ?_)
   rintro r rfl
   refine Tot.yes rfl (Tot.pure ?_)
   unfold Ux O4
   simp only [h1,h3,Option.bind_some,Option.bind_none]
   rfl
 ·refine Tot.bind (Uta b hb hl q (by omega)) ?_
  rintro r rfl
  refine Tot.ble (Nat.zero_le _) (Tot.bind (Rv _) ?_)
  rintro r rfl
  refine Tot.yes rfl (Tot.pure ?_)
  unfold Ux O4
  simp only [h1.resolve_left (by simp),Option.bind_none]
  rfl
theorem Y5 (b:List Int) (hb:Al b) (hl:b.length≤1000000000000):Tot (λ k=>G5 k b) (λ r=>r=Ux b):=by
 have none_of:O4 b=none→Ux b=(W2,false):=λ h=>by unfold Ux; rw [h]
 unfold G5
 refine Tot.bind (Ywa b hb hl 0) ?_
 rintro r (⟨n1,p1,n2,p2,n3,p3,_,g1,g2,g3,rfl⟩|⟨h,hr⟩)
 ·refine Tot.bind (U0 b hb hl (p3:Int)) ?_
  rintro r rfl
  rw [W1]
  have g1':Of b 0=some (n1,p1):=g1
  cases g4:Of b p3 with
  |none=>
   refine Tot.bind (D0a b hb hl 0) ?_
   rintro r rfl
   refine Tot.no rfl (Tot.yes rfl (Tot.pure (none_of ?_).symm))
   unfold O4 Pu
   simp only [g1',g2,g3,g4,Option.bind_some,Option.bind_none]
  |some x=>
   obtain ⟨n4,p4⟩:=x
   simp only
   have es:Pu b 0=bif decide (1<n4) then none else some ((((n1:Int),(n2:Int),(n3:Int)),(n4:Int)==1),p4):=by
    unfold Pu
    simp only [g1',g2,g3,g4,Option.bind_some]
   refine Tot.bind (D0a b hb hl (p4:Int)) ?_
   rintro r rfl
   rw [Kza]
   refine Tot.no rfl (Tot.no rfl ?_)
   cases g5:Kwa b p4 with
   |none=>
    refine Tot.yes rfl (Tot.pure (none_of ?_).symm)
    unfold O4
    rw [es]
    cases decide (1<n4) with
    |true=>rfl
    |false=>simp only [cond_false,Option.bind_some,g5,Option.bind_none]
   |some y=>
    obtain ⟨t,q⟩:=y
    refine Tot.no rfl (Tot.dite (λ h=>Tot.pure (none_of ?_).symm) (λ h=>?_))
    ·unfold O4
     rw [es,decide_eq_true (by omega)]
     rfl
    ·rw [decide_eq_false (by omega),cond_false] at es
     have hq:=Ica hb g5
     simp only
     rw [w64 (n:=(q:Int)+4) (by omega) (by omega)]
     have ef:O4 b=bif Fh (((n1:Int),(n2:Int),(n3:Int)),(n4:Int)==1,bytesOf t)&&decide (L6 (((n1:Int),(n2:Int),(n3:Int)),(n4:Int)==1,bytesOf t)=b) then some (((n1:Int),(n2:Int),(n3:Int)),(n4:Int)==1,bytesOf t) else none:=by
      unfold O4
      simp only [es,g5,Option.bind_some]
     refine Tot.ite (λ h4=>Tot.pure (none_of ?_).symm) (λ h4=>?_)
     ·rw [ef]
      cases hc:(Fh (((n1:Int),(n2:Int),(n3:Int)),(n4:Int)==1,bytesOf t)&&decide (L6 (((n1:Int),(n2:Int),(n3:Int)),(n4:Int)==1,bytesOf t)=b)) with
      |false=>rfl
      |true=>
       exfalso
       rw [Bool.and_eq_true,decide_eq_true_iff] at hc
       have a1:=(Usa hb es).1
       rw [hq.1] at a1
       have a2:=hc.2
       unfold L6 at a2
       rw [hc.1,cond_true] at a2
       unfold Od at a2
       simp only at a2
       rw [T2,List.append_assoc] at a2
       rw [← a2] at a1
       have a3:=List.append_cancel_left (List.append_cancel_left a1)
       have a4:=congrArg List.length a3
       rw [a2,List.length_drop] at a4
       simp only [c4,List.length_cons,List.length_nil] at a4
       have:(q:Int)+4=(b.length:Int):=by omega
       simp [this] at h4
     ·refine Tot.ble (by simp only [List.length_nil]; omega) ?_
      rw [List.nil_append]
      refine Tot.bind (Tot.of (Q:=λ r=>r=Fh (((n1:Int),(n2:Int),(n3:Int)),(n4:Int)==1,bytesOf t)) (T3 _) rfl) ?_
      rintro r rfl
      unfold Ux
      rw [ef]
      cases hf:Fh (((n1:Int),(n2:Int),(n3:Int)),(n4:Int)==1,bytesOf t) with
      |false=>exact Tot.yes rfl (Tot.pure rfl)
      |true=>
       refine Tot.no rfl (Tot.bind (Rw _) ?_)
       rintro r rfl
       rw [Y4 (P0 _) hb,Bool.true_and]
       cases decide (L6 (((n1:Int),(n2:Int),(n3:Int)),(n4:Int)==1,bytesOf t)=b) with
       |false=>exact Tot.yes rfl (Tot.pure rfl)
       |true=>exact Tot.no rfl (Tot.pure rfl)
 ·obtain ⟨r1,r2,r3⟩:=r
  simp only at hr
  subst hr
  refine Tot.bind (U0 b hb hl _) ?_
  rintro r rfl
  refine Tot.bind (D0a b hb hl _) ?_
  rintro r rfl
  refine Tot.yes rfl (Tot.pure (none_of ?_).symm)
  unfold O4
  rw [Qsa (p:=0) (h.resolve_right (by omega))]
  rfl

def gt (l:List Nmd) (s:ByteArray):Option (List Int):=match fnd l s with
 |some i=>some (l.getD i Fu).2
 |none=>none
theorem Ima (y:Nmd) (l:List Nmd) (s:ByteArray):gt (y::l) s=if y.1=s then some y.2 else gt l s:=by
 unfold gt
 rw [L3a]
 by_cases h:y.1=s
 ·rw [if_pos (Ja.2 h),if_pos h]; rfl
 ·rw [if_neg (λ c=>h (Ja.1 c)),if_neg h]
  cases fnd l s<;>rfl
theorem O5 {l:List Nmd} {s:ByteArray} {b:List Int} (h:gt l s=some b):(s,b)∈l:=by
 induction l with
 |nil=>cases h
 |cons y l ih=>
  rw [Ima] at h
  by_cases e:y.1=s
  ·rw [if_pos e] at h
   cases h
   subst e
   exact List.mem_cons_self
  ·rw [if_neg e] at h
   exact List.mem_cons_of_mem _ (ih h)
theorem Mm {l:List Nmd} {s:ByteArray}:gt l s=none↔∀ x∈l,x.1≠s:=by
 rw [← Una]
 unfold gt
 cases fnd l s with
 |none=>simp
 |some i=>simp
theorem R9a {l:List Nmd} (hs:Fv l) {x:Nmd} (hx:x∈l):gt l x.1=some x.2:=by
 cases h:gt l x.1 with
 |none=>exact absurd rfl (Mm.1 h x hx)
 |some b=>rw [show x=(x.1,b) from Z1a hs hx (O5 h) rfl]
theorem Fua {l:List Nmd} (hs:Fv l) {s:ByteArray} {b:List Int}:gt l s=some b↔(s,b)∈l:=⟨O5,λ h=>R9a hs h⟩
theorem Fva {l:List Nmd} {s:ByteArray}:(gt l s).isSome=(fnd l s).isSome:=by
 unfold gt
 cases fnd l s<;>rfl
theorem T4 {l:List Nmd} (hs:Fv l) {s t:ByteArray}:gt (cut l s) t=if s=t then none else gt l t:=by
 by_cases h:s=t
 ·subst h
  rw [if_pos rfl,Mm]
  exact Y1
 ·rw [if_neg h]
  cases hg:gt l t with
  |none=>exact Mm.2 λ x hx=>Mm.1 hg x (No.subset hx)
  |some b=>
   rw [Fua (Ml hs)]
   refine List.mem_filter.2 ⟨O5 hg,?_⟩
   cases ht:teq t s with
   |false=>simp [ht]
   |true=>exact absurd (Ja.1 ht).symm h
theorem Wta {l:List Nmd} (hs:Fv l) {x:Nmd} (hn:∀ y∈l,y.1≠x.1) {t:ByteArray}:gt (ins l x) t=if x.1=t then some x.2 else gt l t:=by
 have hi:=R5 hs hn
 by_cases h:x.1=t
 ·subst h
  rw [if_pos rfl,Fua hi]
  exact U4.2 (.inl rfl)
 ·rw [if_neg h]
  cases hg:gt l t with
  |none=>
   refine Mm.2 λ y hy=>?_
   rcases U4.1 hy with rfl|hy
   ·exact h
   ·exact Mm.1 hg y hy
  |some b=>
   rw [Fua hi]
   exact U4.2 (.inr (O5 hg))
theorem Wua:∀ {l m:List Nmd},Fv l→Fv m→(∀ s,gt l s=gt m s)→l=m:=by
 have key:∀ {l m:List Nmd},Fv l→Fv m→(∀ s,gt l s=gt m s)→∀ x∈l,x∈m:=λ hl hm h x hx=>by
  have:=h x.1
  rw [R9a hl hx] at this
  exact O5 this.symm
 intro l m hl hm h
 have h1:∀ x,x∈l↔x∈m:=λ x=>⟨key hl hm h x,key hm hl (λ s=>(h s).symm) x⟩
 clear h key
 induction l generalizing m with
 |nil=>
  cases m with
  |nil=>rfl
  |cons y m=>exact absurd ((h1 y).2 (by simp)) (by simp)
 |cons x l ih=>
  cases m with
  |nil=>exact absurd ((h1 x).1 (by simp)) (by simp)
  |cons y m=>
   obtain ⟨a1,a2⟩:=List.pairwise_cons.1 hl
   obtain ⟨b1,b2⟩:=List.pairwise_cons.1 hm
   have e:x=y:=by
    rcases List.mem_cons.1 ((h1 x).1 (by simp)) with h|h
    ·exact h
    ·rcases List.mem_cons.1 ((h1 y).2 (by simp)) with h'|h'
     ·exact h'.symm
     ·have c1:=a1 y h'
      rw [Xp (b1 x h)] at c1
      cases c1
   subst e
   congr 1
   refine ih a2 b2 λ z=>⟨λ hz=>?_,λ hz=>?_⟩
   ·rcases List.mem_cons.1 ((h1 z).1 (List.mem_cons_of_mem _ hz)) with rfl|h
    ·have c:=a1 z hz
     rw [Km] at c
     cases c
    ·exact h
   ·rcases List.mem_cons.1 ((h1 z).2 (List.mem_cons_of_mem _ hz)) with rfl|h
    ·have c:=b1 z hz
     rw [Km] at c
     cases c
    ·exact h
theorem Wva (l:List Nmd) (s:ByteArray):rdN l s=match gt l s with|some b=>(b,true)|none=>([],false):=by
 unfold rdN gt
 cases fnd l s<;>rfl
theorem Jj {s:ByteArray} (h:B1 s=true):Jv s:=by
 have:=(Xy h).2
 unfold Jv
 omega
theorem Dr {d:Dsk}:Ao d=true↔Io d.1=true∧Io d.2=true:=by
 unfold Ao
 rw [Bool.and_eq_true]
theorem Mn {d:Dsk} (h:Ao d=true):Fv d.1:=(Af.1 (Dr.1 h).1).1
theorem Qj {d:Dsk} (h:Ao d=true):Fv d.2:=(Af.1 (Dr.1 h).2).1
def LB (l:List Nmd):Prop:=∀ x∈l,Al x.2
def DB (d:Dsk):Prop:=LB d.1∧LB d.2
theorem LB.cut {l:List Nmd} (h:LB l) (s:ByteArray):LB (cut l s):=λ x hx=>h x (No.subset hx)
theorem LB.ins {l:List Nmd} (h:LB l) {x:Nmd} (hx:Al x.2):LB (ins l x):=λ y hy=>by
 rcases U4.1 hy with rfl|hy
 ·exact hx
 ·exact h y hy
theorem LB.gt {l:List Nmd} (h:LB l) {s:ByteArray} {b:List Int} (hg:gt l s=some b):Al b:=h _ (O5 hg)
theorem Mw:Al []:=λ x hx=>by cases hx
def wr (l:List Nmd) (s:ByteArray) (b:List Int):List Nmd:=ins (cut l s) (s,b)
def sy (d:Dsk) (s:ByteArray):List Nmd:=match gt d.1 s with
 |some b=>wr d.2 s b
 |none=>cut d.2 s
def wrD (d:Dsk) (s:ByteArray) (b:List Int):Dsk×Bool:=bif decide (b.length≤400)&&decide ((wr d.1 s b).length≤60) then ((wr d.1 s b,d.2),true) else (d,false)
def syD (d:Dsk) (s:ByteArray):Dsk×Bool:=bif decide ((sy d s).length≤60) then ((d.1,sy d s),true) else (d,false)
def rmD (d:Dsk) (s:ByteArray):Dsk×Bool:=bif (gt d.1 s).isSome then ((cut d.1 s,d.2),true) else (d,false)
section
variable {d:Dsk} {s:ByteArray} {b:List Int}
theorem Wwa (hd:Ao d=true):wrI d s b=wr d.1 s b:=by
 unfold wrI wr
 rw [U2 (Mn hd)]
theorem Wxa (hd:Ao d=true):syI d s=sy d s:=by
 unfold syI sy gt wr
 rw [U2 (Qj hd)]
 cases fnd d.1 s<;>rfl
theorem Bpa (hd:Ao d=true) (hs:B1 s=true) (hb:b.length≤1000000000000):Tot (λ k=>B7 k d s b) (λ r=>r=wrD d s b):=by
 refine (Fqa d s b (Nz hd) (Jj hs) hb).mono ?_
 rintro r rfl
 obtain ⟨h1,h2⟩:=L5a (b:=b) hd hs
 rw [hd,hs,h1,h2,Wwa hd]
 rfl
theorem T5 (hd:Ao d=true) (hs:B1 s=true):Tot (λ k=>Ai k d s) (λ r=>r=syD d s):=by
 refine (L4a d s (Nz hd) (Jj hs)).mono ?_
 rintro r rfl
 rw [hd,hs,Z0a hd,R3a hd hs,Wxa hd]
 rfl
theorem Z4a (hd:Ao d=true) (hs:B1 s=true) (hb:b.length≤400) (hl:(wr d.1 s b).length≤60):Ao (wr d.1 s b,d.2)=true:=by
 have:=(L5a (b:=b) hd hs).2
 rw [Wwa hd,decide_eq_true hb,decide_eq_true hl] at this
 exact this
theorem D1b (hd:Ao d=true) (hs:B1 s=true) (hl:(sy d s).length≤60):Ao (d.1,sy d s)=true:=by
 have:=R3a hd hs
 rw [Wxa hd,decide_eq_true hl] at this
 exact this
theorem Raa (hd:Ao d=true) (hs:B1 s=true):Ao (wrD d s b).1=true:=by
 unfold wrD
 cases hc:decide (b.length≤400)&&decide ((wr d.1 s b).length≤60) with
 |false=>exact hd
 |true=>
  rw [Bool.and_eq_true,decide_eq_true_iff,decide_eq_true_iff] at hc
  exact Z4a hd hs hc.1 hc.2
theorem Bjb (hd:Ao d=true) (hs:B1 s=true):Ao (syD d s).1=true:=by
 unfold syD
 cases hc:decide ((sy d s).length≤60) with
 |false=>exact hd
 |true=>exact D1b hd hs (of_decide_eq_true hc)
theorem Wya (hd:Ao d=true):Ao (rmD d s).1=true:=by
 unfold rmD
 cases (gt d.1 s).isSome with
 |false=>exact hd
 |true=>exact Dr.2 ⟨Ui (Dr.1 hd).1,(Dr.1 hd).2⟩
theorem Rba (hd:Ao d=true) (h:(gt d.1 s).isSome=true):B1 s=true:=by
 cases hg:gt d.1 s with
 |none=>rw [hg] at h; cases h
 |some b=>exact (Pl.1 ((Af.1 (Dr.1 hd).1).2.1 _ (O5 hg))).1
theorem Rx (hd:Ao d=true) (hs:Jv s):Tot (λ k=>Ba k d s) (λ r=>r=rmD d s):=by
 refine (Bma d s (Nz hd).1 hs).mono ?_
 rintro r rfl
 unfold rmD
 rw [hd,← Fva]
 cases h:(gt d.1 s).isSome with
 |false=>rfl
 |true=>
  have h1:Ao (cut d.1 s,d.2)=true:=by
   have:=Wya (s:=s) hd
   unfold rmD at this
   rw [h] at this
   exact this
  rw [Rba hd h,h1]
  rfl
end
def lkD (d:Dsk) (s:ByteArray):Fil×Int:=match gt d.1 s with
 |none=>(W2,1)
 |some b=>match O4 b with
  |some f=>(f,0)
  |none=>(W2,2)
theorem Wza {l:List Nmd} {s:ByteArray} {b:List Int} (h:Fja l) (hg:gt l s=some b):b.length≤1000000000000:=h.2 _ (O5 hg)
theorem Uva {d:Dsk} (hf:Fja d.1) (hb:LB d.1) (s:ByteArray):Tot (λ k=>La k d s) (λ r=>r=lkD d s):=by
 unfold La lkD
 refine Tot.bind (Uma d s hf) ?_
 rintro r rfl
 rw [Wva]
 cases hg:gt d.1 s with
 |none=>exact Tot.yes rfl (Tot.pure rfl)
 |some b=>
  refine Tot.no rfl (Tot.bind (Ila b (hb.gt hg) (Wza hf hg)) ?_)
  rintro r rfl
  unfold Ux
  dsimp only
  cases O4 b with
  |none=>exact Tot.yes rfl (Tot.pure rfl)
  |some f=>exact Tot.no rfl (Tot.pure rfl)
theorem T6 {d:Dsk} (hf:Fja d.1) (hb:LB d.1) (s:ByteArray):Tot (λ k=>Ey k d s) (λ r=>r=lkD d s):=by
 unfold Ey lkD
 refine Tot.bind (L2a d s hf) ?_
 rintro r rfl
 rw [Wva]
 cases hg:gt d.1 s with
 |none=>exact Tot.yes rfl (Tot.pure rfl)
 |some b=>
  refine Tot.no rfl (Tot.bind (Y5 b (hb.gt hg) (Wza hf hg)) ?_)
  rintro r rfl
  unfold Ux
  dsimp only
  cases O4 b with
  |none=>exact Tot.yes rfl (Tot.pure rfl)
  |some f=>exact Tot.no rfl (Tot.pure rfl)
theorem P3 {d:Dsk} {s:ByteArray} {f:Fil}:lkD d s=(f,0)↔∃ b,gt d.1 s=some b∧O4 b=some f:=by
 unfold lkD
 cases gt d.1 s with
 |none=>simp
 |some b=>cases h:O4 b<;>simp [h]
def old (d:Dsk) (s:ByteArray):Option Fil:=(gt d.1 s).bind O4
def kp1 (d:Dsk) (s:ByteArray) (f:Fil):Option (Dsk×Int):=
 let w:=bif (wrD d s (L6 f)).2 then some ((wrD d s (L6 f)).1,(0:Int)) else none
 match old d s with
 |some o=>bif sle o.1 f.1 then w else some (d,1)
 |none=>w
def kp2 (d:Dsk) (s:ByteArray) (sure:Bool) (x:Dsk×Int):Dsk×Int:=bif sure then (bif (syD x.1 s).2 then ((syD x.1 s).1,x.2) else (d,3)) else x
def Mo (d:Dsk) (s:ByteArray) (f:Fil) (sure:Bool):Dsk×Int:=match kp1 d s f with
 |some x=>kp2 d s sure x
 |none=>(d,3)
def keep (d:Dsk) (s:ByteArray) (f:Fil) (sure:Bool):Dsk×Int:=bif Ao d&&(B1 s&&Fh f) then Mo d s f sure else (d,2)
theorem Bkb {d:Dsk} {s:ByteArray} {f:Fil} (hd:Ao d=true) (hs:B1 s=true) {x:Dsk×Int} (h:kp1 d s f=some x):Ao x.1=true:=by
 have hw:∀ x,(bif (wrD d s (L6 f)).2 then some ((wrD d s (L6 f)).1,(0:Int)) else none)=some x→Ao x.1=true:=by
  intro x h
  cases hc:(wrD d s (L6 f)).2 with
  |false=>rw [hc] at h; cases h
  |true=>rw [hc] at h; cases h; exact Raa hd hs
 unfold kp1 at h
 simp only at h
 split at h
 ·rename_i o _
  cases hc:sle o.1 f.1 with
  |false=>rw [hc] at h; cases h; exact hd
  |true=>rw [hc] at h; exact hw _ h
 ·exact hw _ h
theorem Blb {d:Dsk} {s:ByteArray} (hd:Ao d=true) (hs:B1 s=true) {x:Dsk} {c:Int} (hx:Ao x=true):
  Tot (λ k=>(Ai k x s).bind λ r=>cond (!r.2) ((A6 k d).bind λ q=>some (q,3)) (some (r.1,c))) (λ r=>r=kp2 d s true (x,c)):=by
 unfold kp2
 refine Tot.bind (T5 hx hs) ?_
 rintro r rfl
 cases h:(syD x s).2 with
 |true=>exact Tot.no rfl (Tot.pure rfl)
 |false=>
  refine Tot.yes rfl (Tot.bind (L8 d (Nz hd).1.1) ?_)
  rintro q rfl
  exact Tot.pure rfl
theorem Laa (d:Dsk) (s:ByteArray) (f:Fil) (sure:Bool) (hd:DIn d) (hb:LB d.1) (hs:Jv s):Tot (λ k=>Jc k d s f sure) (λ r=>r=keep d s f sure):=by
 have bad:Tot (λ k=>(A6 k d).bind λ r2=>some (r2,(2:Int))) (λ r=>r=(d,2)):=by
  refine Tot.bind (L8 d hd.1.1) ?_
  rintro q rfl
  exact Tot.pure rfl
 unfold Jc keep
 refine Tot.bind (Pk d hd.1.1 hd.1.2) ?_
 rintro r rfl
 cases h1:Ao d with
 |false=>exact Tot.yes rfl bad
 |true=>
  refine Tot.no rfl (Tot.bind (Na s hs) ?_)
  rintro r rfl
  cases h2:B1 s with
  |false=>exact Tot.yes rfl bad
  |true=>
   refine Tot.no rfl (Tot.bind (Tot.of (Q:=λ b=>b=Fh f) (T3 f) rfl) ?_)
   rintro r rfl
   cases h3:Fh f with
   |false=>exact Tot.yes rfl bad
   |true=>
    refine Tot.no rfl (Tot.bind (T6 hd.1.1.1 hb s) ?_)
    rintro r rfl
    have hlen:=D6a f
    have w:(kp1 d s f=bif (wrD d s (L6 f)).2 then some ((wrD d s (L6 f)).1,(0:Int)) else none)→Tot (λ k=>(Bc k f).bind λ r12=>(B7 k d s r12).bind λ r13=>cond r13.2 (cond sure ((Ai k r13.1 s).bind λ r14=>cond (!r14.2) ((A6 k d).bind λ r15=>some (r15,(3:Int))) (some (r14.1,0))) (cond (!r13.2) ((A6 k d).bind λ r16=>some (r16,3)) (some (r13.1,0)))) (cond (!r13.2) ((A6 k d).bind λ r17=>some (r17,3)) (some (r13.1,0)))) (λ r=>r=Mo d s f sure):=by
     intro e
     refine Tot.bind (Rw f) ?_
     rintro r rfl
     refine Tot.bind (Bpa h1 h2 (by omega)) ?_
     rintro r rfl
     unfold Mo
     rw [e]
     cases h4:(wrD d s (L6 f)).2 with
     |false=>
      refine Tot.no rfl (Tot.yes rfl (Tot.bind (L8 d hd.1.1) ?_))
      rintro q rfl
      exact Tot.pure rfl
     |true=>
      refine Tot.yes rfl ?_
      cases sure with
      |true=>exact Tot.yes rfl (Blb h1 h2 (Raa h1 h2))
      |false=>exact Tot.no rfl (Tot.no rfl (Tot.pure rfl))
    have eo:old d s=(gt d.1 s).bind O4:=rfl
    unfold lkD
    cases hg:gt d.1 s with
    |none=>
     rw [hg] at eo
     refine Tot.no rfl (w ?_)
     unfold kp1
     rw [eo]
     rfl
    |some b=>
     rw [hg] at eo
     have eo:old d s=O4 b:=eo
     simp only
     cases ho:O4 b with
     |none=>
      refine Tot.no rfl (w ?_)
      unfold kp1
      rw [eo,ho]
     |some o=>
      rw [ho] at eo
      refine Tot.yes rfl (Tot.bind (Tot.of (Q:=λ b=>b=sle o.1 f.1) (Fta f o) rfl) ?_)
      rintro r rfl
      cases hl:sle o.1 f.1 with
      |true=>
       refine Tot.no rfl (w ?_)
       unfold kp1
       simp only [eo,hl,cond_true]
      |false=>
       have e1:Mo d s f sure=kp2 d s sure (d,1):=by
        unfold Mo kp1
        simp only [eo,hl,cond_false]
       refine Tot.yes rfl ?_
       show Tot _ (λ r=>r=Mo d s f sure)
       rw [e1]
       refine Tot.bind (L8 d hd.1.1) ?_
       rintro q rfl
       cases sure with
       |true=>exact Tot.yes rfl (Blb h1 h2 h1)
       |false=>exact Tot.no rfl (Tot.pure rfl)

def DG (d:Dsk):Prop:=Ao d=true∧DB d
theorem X0a {d:Dsk} {s:ByteArray} {b:List Int} (hd:Ao d=true) (h:gt d.1 s=some b):b.length≤400:=(Pl.1 ((Af.1 (Dr.1 hd).1).2.1 _ (O5 h))).2
theorem X1a {d:Dsk} {s:ByteArray} {b:List Int} (h:DB d) (hb:Al b):DB (wrD d s b).1:=by
 unfold wrD
 cases decide (b.length≤400)&&decide ((wr d.1 s b).length≤60) with
 |false=>exact h
 |true=>exact ⟨(h.1.cut s).ins hb,h.2⟩
theorem D2b {d:Dsk} {s:ByteArray} (h:DB d):LB (sy d s):=by
 unfold sy
 cases hg:gt d.1 s with
 |none=>exact h.2.cut s
 |some b=>exact (h.2.cut s).ins (h.1.gt hg)
theorem Bmb {d:Dsk} {s:ByteArray} (h:DB d):DB (syD d s).1:=by
 unfold syD
 cases decide ((sy d s).length≤60) with
 |false=>exact h
 |true=>exact ⟨h.1,D2b h⟩
theorem Bnb {d:Dsk} {s:ByteArray} (h:DB d):DB (rmD d s).1:=by
 unfold rmD
 cases (gt d.1 s).isSome with
 |false=>exact h
 |true=>exact ⟨h.1.cut s,h.2⟩
theorem D3b {d:Dsk} {s:ByteArray} {b:List Int} (h:DG d) (hs:B1 s=true) (hb:Al b):DG (wrD d s b).1:=⟨Raa h.1 hs,X1a h.2 hb⟩
theorem Z5a {d:Dsk} {s:ByteArray} (h:DG d) (hs:B1 s=true):DG (syD d s).1:=⟨Bjb h.1 hs,Bmb h.2⟩
theorem Uwa {d:Dsk} {s:ByteArray} (h:DG d):DG (rmD d s).1:=⟨Wya h.1,Bnb h.2⟩
theorem Bob {d:Dsk} {s:ByteArray} {f:Fil} (hd:DG d) (hs:B1 s=true) {x:Dsk×Int} (h:kp1 d s f=some x):DG x.1:=by
 refine ⟨Bkb hd.1 hs h,?_⟩
 have hw:∀ x,(bif (wrD d s (L6 f)).2 then some ((wrD d s (L6 f)).1,(0:Int)) else none)=some x→DB x.1:=by
  intro x h
  cases hc:(wrD d s (L6 f)).2 with
  |false=>rw [hc] at h; cases h
  |true=>rw [hc] at h; cases h; exact X1a hd.2 (P0 f)
 unfold kp1 at h
 simp only at h
 split at h
 ·rename_i o _
  cases hc:sle o.1 f.1 with
  |false=>rw [hc] at h; cases h; exact hd.2
  |true=>rw [hc] at h; exact hw _ h
 ·exact hw _ h
theorem D4b {d:Dsk} {s:ByteArray} {sure:Bool} (hd:DG d) (hs:B1 s=true) {x:Dsk×Int} (hx:DG x.1):DG (kp2 d s sure x).1:=by
 unfold kp2
 cases sure with
 |false=>exact hx
 |true=>
  rw [cond_true]
  cases (syD x.1 s).2 with
  |false=>exact hd
  |true=>exact Z5a hx hs
theorem Rca {d:Dsk} {s:ByteArray} {f:Fil} {sure:Bool} (hd:DG d) (hs:B1 s=true):DG (Mo d s f sure).1:=by
 unfold Mo
 cases h:kp1 d s f with
 |none=>exact hd
 |some x=>exact D4b hd hs (Bob hd hs h)
theorem X2a {d:Dsk} {s:ByteArray} {f:Fil} {sure:Bool} (hd:DG d):DG (keep d s f sure).1:=by
 unfold keep
 cases h:B1 s with
 |false=>rw [hd.1]; exact hd
 |true=>
  cases Fh f with
  |false=>rw [hd.1]; exact hd
  |true=>rw [hd.1]; exact Rca hd h
def Aga (b:Int) (j:Nat):Int:=((BitVec.ofInt 8 b ^^^ BitVec.twoPow 8 j).toNat:Int)
theorem Lba (b:Int) (j:Nat):0≤Aga b j∧Aga b j≤255:=by
 unfold Aga
 have:=(BitVec.ofInt 8 b ^^^ BitVec.twoPow 8 j).isLt
 omega
theorem Z6a (b:Int):∀ j,j<8→IntKind.wrap .u8 ((BitVec.ofInt (IntKind.bits .u8) b ^^^ BitVec.ofInt (IntKind.bits .u8) (IntKind.wrap .u8 ((1:Int) * 2 ^ (min j (IntKind.bits .u8))))).toNat)=Aga b j:=by
 intro j hj
 have h1:∀ j,j<8→BitVec.ofInt 8 (IntKind.wrap .u8 ((1:Int) * 2 ^ (min j 8)))=BitVec.twoPow 8 j:=by decide
 show IntKind.wrap .u8 (((BitVec.ofInt 8 b ^^^ BitVec.ofInt 8 (IntKind.wrap .u8 ((1:Int) * 2 ^ (min j 8)))).toNat:Nat):Int)=_
 rw [h1 j hj]
 have:=(BitVec.ofInt 8 b ^^^ BitVec.twoPow 8 j).isLt
 rw [Fga _ (by omega)]
 rfl
theorem Uxa {b:Int} (hb:0≤b∧b≤255) {j:Nat} (hj:j<8):Aga b j≠b:=by
 intro h
 unfold Aga at h
 have h1:b=((BitVec.ofInt 8 b).toNat:Int):=by rw [BitVec.toNat_ofInt]; omega
 have h2:(BitVec.ofInt 8 b ^^^ BitVec.twoPow 8 j).toNat=(BitVec.ofInt 8 b).toNat:=by omega
 have h3:=BitVec.eq_of_toNat_eq h2
 have h4:BitVec.twoPow 8 j=0#8:=by
  have:=congrArg (λ x=>BitVec.ofInt 8 b ^^^ x) h3
  simpa [← BitVec.xor_assoc] using this
 have h5:∀ j,j<8→BitVec.twoPow 8 j≠0#8:=by decide
 exact h5 j hj h4
def Mp (l:List Int) (n:Nat):List Int:=l.set (n / 8) (Aga (l.getD (n / 8) 0) (n % 8))
theorem Fwa (l:List Int) (n:Nat):(Mp l n).length=l.length:=by unfold Mp; rw [List.length_set]
theorem Ina {l:List Int} (h:Al l) (n:Nat):Al (Mp l n):=λ x hx=>by
 rcases List.mem_or_eq_of_mem_set hx with h'|rfl
 ·exact h x h'
 ·exact Lba _ _
def Gta (d:Dsk) (s:ByteArray) (n:Int):Dsk×Bool:=match gt d.1 s with
 |none=>(d,false)
 |some b=>bif inR n 0 (8 * (b.length:Int) - 1) then ((wr d.1 s (Mp b n.toNat),bif decide (gt d.2 s=some b) then wr d.2 s (Mp b n.toNat) else d.2),true) else (d,false)
theorem Rda {l:List Nmd} (hs:Fv l) {s:ByteArray} {i:Nat} (h:fnd l s=some i) (b:List Int):l.set i (s,b)=wr l s b:=by
 obtain ⟨hi,hn⟩:=Pq h
 have hm:(l.set i (s,b)).map Prod.fst=l.map Prod.fst:=by
  rw [List.map_set]
  apply List.ext_getElem?
  intro j
  by_cases hj:i=j
  ·subst hj
   rw [List.getElem?_set_self (by rw [List.length_map]; exact hi),List.getElem?_map,List.getElem?_eq_getElem hi]
   rw [List.getD_eq_getElem?_getD,List.getElem?_eq_getElem hi] at hn
   exact congrArg some hn.symm
  ·rw [List.getElem?_set_ne hj]
 have h1:Fv (l.set i (s,b)):=by
  have e:∀ m:List Nmd,Fv m↔(m.map Prod.fst).Pairwise (λ a b=>tlt a b=true):=λ m=>by
   unfold Fv
   rw [List.pairwise_map]
  rw [e,hm,← e]
  exact hs
 refine Wua h1 (R5 (Ml hs) Y1) λ t=>?_
 have h2:=Wta (x:=(s,b)) (t:=t) (Ml hs (s:=s)) Y1
 unfold wr
 rw [h2]
 by_cases ht:s=t
 ·subst ht
  rw [if_pos rfl,Fua h1]
  exact List.mem_set hi _
 ·rw [if_neg ht,T4 hs,if_neg ht]
  cases hg:gt l t with
  |none=>
   refine Mm.2 λ x hx=>?_
   rcases List.mem_or_eq_of_mem_set hx with h'|rfl
   ·exact Mm.1 hg x h'
   ·exact ht
  |some c=>
   rw [Fua h1]
   obtain ⟨j,hj,e⟩:=List.mem_iff_getElem.1 (O5 hg)
   have hij:i≠j:=by
    rintro rfl
    rw [List.getD_eq_getElem?_getD,List.getElem?_eq_getElem hi,Option.getD_some,e] at hn
    exact ht hn.symm
   refine List.mem_iff_getElem.2 ⟨j,by rw [List.length_set]; exact hj,?_⟩
   rw [List.getElem_set_ne hij]
   exact e
theorem Fxa {l:List Nmd} {s:ByteArray} {b:List Int} (hs:Fv l) (h:(gt l s).isSome=true):(wr l s b).length=l.length:=by
 rw [Fva] at h
 obtain ⟨i,hi⟩:=Option.isSome_iff_exists.1 h
 rw [← Rda hs hi,List.length_set]
theorem Bpb {d:Dsk} {s:ByteArray} {n:Int} (h:DG d):DG (Gta d s n).1:=by
 unfold Gta
 cases hg:gt d.1 s with
 |none=>exact h
 |some b=>
  simp only
  cases inR n 0 (8 * (b.length:Int) - 1) with
  |false=>exact h
  |true=>
   have hn:=Rba h.1 (s:=s) (by rw [hg]; rfl)
   have hb:=X0a h.1 hg
   have hbb:=Ina (h.2.1.gt hg) n.toNat
   have l1:=Fxa (b:=Mp b n.toNat) (Mn h.1) (s:=s) (by rw [hg]; rfl)
   have q1:=Z4a h.1 hn (b:=Mp b n.toNat) (by rw [Fwa]; exact hb) (by rw [l1]; exact (Af.1 (Dr.1 h.1).1).2.2)
   rw [cond_true]
   cases hc:decide (gt d.2 s=some b) with
   |false=>exact ⟨q1,(h.2.1.cut s).ins hbb,h.2.2⟩
   |true=>
    have hg2:=of_decide_eq_true hc
    have l2:=Fxa (b:=Mp b n.toNat) (Qj h.1) (s:=s) (by rw [hg2]; rfl)
    have h':Ao (d.2,d.1)=true:=Dr.2 ⟨(Dr.1 h.1).2,(Dr.1 h.1).1⟩
    have q2:=Z4a h' hn (b:=Mp b n.toNat) (by rw [Fwa]; exact hb) (by show (wr d.2 s _).length≤60; rw [l2]; exact (Af.1 (Dr.1 h.1).2).2.2)
    exact ⟨Dr.2 ⟨(Dr.1 q1).1,(Dr.1 q2).1⟩,(h.2.1.cut s).ins hbb,(h.2.2.cut s).ins hbb⟩
theorem Z7a {d:Dsk} {s:ByteArray} {n:Int} (h:DG d) (hn:n≤9223372036854775807) (hn0 : -9223372036854775808≤n):Tot (λ k=>Jn k d s n) (λ r=>r=Gta d s n):=by
 have hin:=Nz h.1
 unfold Jn
 refine Tot.bind (L8 d hin.1.1) ?_
 rintro d rfl
 refine Tot.bind (Bla d.1 s hin.1.1.1.1) ?_
 rintro r rfl
 refine Tot.bind (Pk d hin.1.1 hin.1.2) ?_
 rintro r rfl
 rw [h.1]
 refine Tot.no rfl ?_
 unfold Gta
 unfold L0a
 cases hf:fnd d.1 s with
 |none=>
  have hg:gt d.1 s=none:=by unfold gt; rw [hf]
  rw [hg]
  exact Tot.dec (by decide) (Tot.pure rfl)
 |some i=>
  have hg:gt d.1 s=some (d.1.getD i Fu).2:=by unfold gt; rw [hf]
  have hi:=(Pq hf).1
  have hnm:=(Pq hf).2
  have hb:=X0a h.1 hg
  rw [hg]
  have e0:d.1.getD i ((⟨#[]⟩:ByteArray),([]:List Int))=d.1.getD i Fu:=rfl
  simp only [Int.toNat_natCast,e0]
  refine Tot.ndec (by omega) (Tot.dec (by omega) (Tot.dec (by omega) ?_))
  rw [w64 (n:=8 * ((d.1.getD i Fu).2.length:Int)) (by omega) (by omega),w64 (n:=8 * ((d.1.getD i Fu).2.length:Int) - 1) (by omega) (by omega)]
  refine Tot.bind (Tot.of (Q:=λ b=>b=inR n 0 (8 * ((d.1.getD i Fu).2.length:Int) - 1)) (N6 _ _ _) rfl) ?_
  rintro r rfl
  cases hr:inR n 0 (8 * ((d.1.getD i Fu).2.length:Int) - 1) with
  |false=>exact Tot.yes rfl (Tot.pure rfl)
  |true=>
   obtain ⟨n0,n1⟩:=Dz.1 hr
   obtain ⟨m,rfl⟩:∃ m:Nat,n=(m:Int):=⟨n.toNat,by omega⟩
   have hm8:m / 8<(d.1.getD i Fu).2.length:=by omega
   have et:IntKind.wrap .i64 (Int.tdiv (m:Int) 8)=((m / 8:Nat):Int):=by
    rw [Int.tdiv_eq_ediv_of_nonneg (by omega),w64 (by omega) (by omega)]
    omega
   have eu:IntKind.wrap .u64 (Int.tmod (m:Int) 8)=((m % 8:Nat):Int):=by
    have h8:∀ j:Nat,j<8→IntKind.wrap .u64 (j:Int)=(j:Int):=by decide
    rw [Int.tmod_eq_emod_of_nonneg (by omega),← h8 (m % 8) (by omega)]
    congr 1
   refine Tot.no rfl (Tot.bind (Bla d.2 s hin.1.1.2.1) ?_)
   rintro r rfl
   simp only [et,eu,Int.toNat_natCast,Z6a _ _ (Nat.mod_lt m (show 0<8 by omega))]
   have ew:d.1.set i ((d.1.getD i Fu).1,Mp (d.1.getD i Fu).2 m)=wr d.1 s (Mp (d.1.getD i Fu).2 m):=by rw [hnm]; exact Rda (Mn h.1) hf _
   have ew':d.1.set i ((d.1.getD i Fu).1,(d.1.getD i Fu).2.set (m / 8) (Aga ((d.1.getD i Fu).2.getD (m / 8) 0) (m % 8)))=wr d.1 s (Mp (d.1.getD i Fu).2 m):=ew
   unfold L0a
   cases hf2:fnd d.2 s with
   |none=>
    have hg2:gt d.2 s=none:=by unfold gt; rw [hf2]
    rw [hg2]
    refine Tot.ndec (by decide) (Tot.dec (by omega) (Tot.dec (by omega) (Tot.dec (by omega) (Tot.dec (by omega) (Tot.ndec (by omega) (Tot.dec (by omega) (Tot.dec (by omega) (Tot.pure ?_))))))))
    rw [ew']
    rfl
   |some j=>
    have hg2:gt d.2 s=some (d.2.getD j Fu).2:=by unfold gt; rw [hf2]
    have hj:=(Pq hf2).1
    have hjn:=(Pq hf2).2
    have e1:d.2.getD j ((⟨#[]⟩:ByteArray),([]:List Int))=d.2.getD j Fu:=rfl
    rw [hg2]
    simp only [Int.toNat_natCast,e1]
    refine Tot.dec (by omega) (Tot.dec (by omega) (Tot.dec (by omega) (Tot.dec (by omega) (Tot.dec (by omega) (Tot.dec (by omega) (Tot.dec (by omega) (Tot.dec (by omega) (Tot.dec (by omega) (Tot.ndec (by omega) (Tot.dec (by omega) (Tot.dec (by omega) ?_)))))))))))
    rw [Y4 (h.2.2.gt hg2) (h.2.1.gt hg)]
    refine Tot.dite (λ he=>?_) (λ he=>?_)
    ·have hl2:(d.2.getD j Fu).2.length=(d.1.getD i Fu).2.length:=by rw [he]
     refine Tot.dec (by omega) (Tot.dec (by omega) (Tot.dec (by omega) (Tot.dec (by omega) (Tot.ndec (by omega) (Tot.dec (by omega) (Tot.dec (by omega) (Tot.pure ?_)))))))
     have ew2:d.2.set j ((d.2.getD j Fu).1,(d.2.getD j Fu).2.set (m / 8) (Aga ((d.2.getD j Fu).2.getD (m / 8) 0) (m % 8)))=wr d.2 s (Mp (d.1.getD i Fu).2 m):=by
      rw [hjn,he]
      exact Rda (Qj h.1) hf2 _
     rw [ew',ew2,he,decide_eq_true rfl]
     rfl
    ·refine Tot.pure ?_
     rw [ew',decide_eq_false (λ c=>he (Option.some.inj c))]
     rfl
theorem N7a:∀ (n:Nat) (i:Int) (c:Cur) (a0 a1:List Nmd) (d:Dsk),i=n→n≤6→Ck c→DG d→
  Tot (λ k=>Av k i c.1 c.2.1 c.2.2 a0 a1 d.1 d.2) (λ r=>DG (r.2.2.1,r.2.2.2.1)∧Ck r.2.2.2.2):=by
 intro n
 induction n with
 |zero=>
  intro i c a0 a1 d hi h6 hc hd
  refine Tot.succ ?_
  simp only [Av]
  exact Tot.ndec (by omega) (Tot.pure ⟨hd,hc⟩)
 |succ n ih=>
  intro i c a0 a1 d hi h6 hc hd
  refine Tot.succ ?_
  simp only [Av]
  refine Tot.dec (by omega) ?_
  rw [w64 (n:=i - 1) (by omega) (by omega)]
  obtain ⟨s,c1,e1,hs,k1⟩:=Nl c hc
  refine Tot.bind (Tot.of (Q:=λ r=>r=(s,c1)) e1 rfl) ?_
  rintro r rfl
  obtain ⟨x,c2,e2,_,_,_,k2⟩:=Am c1 k1 6 (by decide)
  refine Tot.bind (Tot.of (Q:=λ r=>r=(x,c2)) e2 rfl) ?_
  rintro r rfl
  dsimp only
  obtain ⟨hsh,hsn⟩:=Le s hs
  have wr:Tot (λ k=>(C3 k c2).bind λ r5=>(Bc k r5.1).bind λ r6=>(B7 k (d.1,d.2) s r6).bind λ r7=>Av k (i - 1) r5.2.1 r5.2.2.1 r5.2.2.2 a0 a1 r7.1.1 r7.1.2) (λ r=>DG (r.2.2.1,r.2.2.2.1)∧Ck r.2.2.2.2):=by
   refine Tot.bind (Ox c2 k2) (λ f hf=>?_)
   refine Tot.bind (Rw f.1) ?_
   rintro b rfl
   refine Tot.bind (Bpa hd.1 hsn (by have:=D6a f.1; omega)) ?_
   rintro q rfl
   exact ih (i - 1) f.2 a0 a1 _ (by omega) (by omega) hf.2 (D3b hd hsn (P0 _))
  have sy:Tot (λ k=>(Ai k (d.1,d.2) s).bind λ r4=>Av k (i - 1) c2.1 c2.2.1 c2.2.2 a0 a1 r4.1.1 r4.1.2) (λ r=>DG (r.2.2.1,r.2.2.2.1)∧Ck r.2.2.2.2):=by
   refine Tot.bind (T5 hd.1 hsn) ?_
   rintro q rfl
   exact ih (i - 1) c2 a0 a1 _ (by omega) (by omega) k2 (Z5a hd hsn)
  refine Tot.ite (λ _=>?_) (λ _=>Tot.ite (λ h=>Tot.ite (λ _=>sy) (λ _=>wr)) (λ _=>Tot.ite (λ _=>sy) (λ _=>wr)))
  refine Tot.bind (Rx hd.1 hsh) ?_
  rintro q rfl
  exact ih (i - 1) c2 a0 a1 _ (by omega) (by omega) k2 (Uwa hd)
theorem lb0:LB []:=λ x hx=>by cases hx
theorem dg0:DG ([],[]):=⟨by decide,⟨lb0,lb0⟩⟩
theorem Z8a (c:Cur) (hc:Ck c):Tot (λ k=>Ei k c) (λ r=>DG r.1∧Ck r.2):=by
 unfold Ei
 obtain ⟨x,c2,e2,h0,h1,_,k2⟩:=Am c hc 7 (by decide)
 have h1:=h1 (by decide)
 refine Tot.bind (Tot.of (Q:=λ r=>r=(x,c2)) e2 rfl) ?_
 rintro r rfl
 exact Tot.bind (N7a x.toNat x c2 [] [] ([],[]) (by omega) (by omega) k2 dg0) (λ r hr=>Tot.pure hr)
theorem X3a {l:List Nmd} {x:Nmd} (h:LB l) (hx:Al x.2):LB (l++[x]):=λ y hy=>by
 rcases List.mem_append.1 hy with hy|hy
 ·exact h y hy
 ·rw [List.mem_singleton.1 hy]; exact hx
theorem Fya (n:Nat):Al (List.replicate n 0):=λ x hx=>by
 rw [List.eq_of_mem_replicate hx]
 omega
theorem Bqb (c:Cur) (hc:Ck c):Tot (λ k=>J7 k c) (λ r=>(DIn r.1∧DB r.1)∧Ck r.2):=by
 have h0:=Uqa c hc
 have h1:Tot (λ k=>J7 k c) (λ r=>DB r.1):=by
  unfold J7
  refine Tot.bind (Z8a c hc) (λ d hd=>?_)
  obtain ⟨hd,k0⟩:=hd
  have hin:=Nz hd.1
  have g1:=(Af.1 (Dr.1 hd.1).1).2.2
  have g2:=(Af.1 (Dr.1 hd.1).2).2.2
  obtain ⟨x,c2,e2,_,_,_,k2⟩:=Am d.2 k0 12 (by decide)
  refine Tot.bind (Tot.of (Q:=λ r=>r=(x,c2)) e2 rfl) ?_
  rintro r rfl
  refine Tot.ite (λ _=>?_) (λ _=>Tot.ite (λ _=>?_) (λ _=>Tot.pure hd.2))
  ·obtain ⟨s,c3,e3,hs,k3⟩:=O3 c2 k2
   refine Tot.bind (Tot.of (Q:=λ r=>r=(s,c3)) e3 rfl) ?_
   rintro r rfl
   exact Tot.ble (by simp only [List.length_cons,List.length_nil]; omega) (Tot.pure ⟨X3a hd.2.1 Mw,hd.2.2⟩)
  ·obtain ⟨s,c3,e3,hs,k3⟩:=O3 c2 k2
   refine Tot.bind (Tot.of (Q:=λ r=>r=(s,c3)) e3 rfl) ?_
   rintro r rfl
   obtain ⟨y,c4,e4,y0,y1,_,k4⟩:=Am c3 k3 2 (by decide)
   have y1:=y1 (by decide)
   refine Tot.bind (Tot.of (Q:=λ r=>r=(y,c4)) e4 rfl) ?_
   rintro r rfl
   dsimp only
   rw [w64 (n:=400+y) (by omega) (by omega)]
   exact Tot.dec rfl (Tot.dec (by omega) (Tot.dec (by omega) (Tot.ble (by simp only [List.length_cons,List.length_nil]; omega) (Tot.pure ⟨hd.2.1,X3a hd.2.2 (Fya _)⟩))))
 exact (h0.and h1).mono λ r h=>⟨⟨h.1.1,h.2⟩,h.1.2⟩
theorem Lca (c:Cur) (hc:Ck c):∃ x c',Ih c=some (x,c')∧Ck c':=by
 obtain ⟨s,c1,e1,hs,k1⟩:=Faa c hc
 obtain ⟨x,c2,e2,_,_,_,k2⟩:=Am c1 k1 10 (by decide)
 unfold Ih
 simp only [e1,e2,Option.bind_some]
 cases x==0 with
 |true=>
  obtain ⟨y,c3,e3,_,k3⟩:=Ke c2 k2 [(-1),1000000001] (by decide) (by decide)
  exact ⟨(y,s.2),c3,by simp only [e3,Option.bind_some,cond_true],k3⟩
 |false=>
  cases x==1 with
  |true=>
   obtain ⟨y,c3,e3,_,k3⟩:=Ke c2 k2 [(-1),1000000,1000001] (by decide) (by decide)
   exact ⟨(s.1,y,s.2.2),c3,by simp only [e3,Option.bind_some,cond_true,cond_false],k3⟩
  |false=>
   cases x==2 with
   |true=>
    obtain ⟨y,c3,e3,_,k3⟩:=Ke c2 k2 [(-1),20,21] (by decide) (by decide)
    exact ⟨(s.1,s.2.1,y),c3,by simp only [e3,Option.bind_some,cond_true,cond_false],k3⟩
   |false=>exact ⟨s,c2,by simp only [cond_false],k2⟩
theorem Rea (c:Cur) (hc:Ck c):Tot (λ k=>Jy k c) (λ r=>(Al r.1.2.2∧r.1.2.2.length≤2000000)∧Ck r.2):=by
 unfold Jy
 refine Tot.bind (Ox c hc) ?_
 rintro ⟨f,c1⟩ ⟨hf,k1⟩
 have hl:f.2.2.length≤9:=by have:=hf.2.2.1; dsimp only at this; omega
 obtain ⟨x,c2,e2,_,_,_,k2⟩:=Am c1 k1 12 (by decide)
 refine Tot.bind (Tot.of (Q:=λ r=>r=(x,c2)) e2 rfl) ?_
 rintro r rfl
 refine Tot.ite (λ _=>?_) (λ _=>Tot.ite (λ _=>Tot.pure ⟨⟨hf.2.1,by dsimp only; omega⟩,k2⟩) (λ _=>Tot.ite (λ _=>?_) (λ _=>Tot.pure ⟨⟨hf.2.1,by dsimp only; omega⟩,k2⟩)))
 ·obtain ⟨y,c3,e3,k3⟩:=Lca c2 k2
  refine Tot.bind (Tot.of (Q:=λ r=>r=(y,c3)) e3 rfl) ?_
  rintro r rfl
  exact Tot.pure ⟨⟨hf.2.1,by dsimp only; omega⟩,k3⟩
 ·obtain ⟨y,c4,e4,y0,y1,_,k4⟩:=Am c2 k2 2 (by decide)
  have y1:=y1 (by decide)
  refine Tot.bind (Tot.of (Q:=λ r=>r=(y,c4)) e4 rfl) ?_
  rintro r rfl
  dsimp only
  rw [w64 (n:=200+y) (by omega) (by omega)]
  exact Tot.dec rfl (Tot.dec (by omega) (Tot.dec (by omega) (Tot.pure ⟨⟨Fya _,by dsimp only; rw [List.length_replicate]; omega⟩,k4⟩)))

theorem Fza (a b:Fil) (hf:a.2.2.length≤1000000000000):Tot (λ k=>I1 k a b) (λ r=>r=decide (a=b)):=by
 obtain ⟨⟨a1,a2,a3⟩,a4,a5⟩:=a
 obtain ⟨⟨b1,b2,b3⟩,b4,b5⟩:=b
 unfold I1
 dsimp only at hf ⊢
 have e:decide (((a1,a2,a3),a4,a5)=((b1,b2,b3),b4,b5))=(((a1==b1)&&((a2==b2)&&(a3==b3)))&&((a4==b4)&&decide (a5=b5))):=by
  rw [Bool.eq_iff_iff,decide_eq_true_iff]
  simp only [Prod.mk.injEq,Bool.and_eq_true,beq_iff_eq,decide_eq_true_iff]
 rw [e]
 cases (a1==b1)&&((a2==b2)&&(a3==b3)) with
 |false=>exact Tot.no rfl (Tot.pure rfl)
 |true=>
  refine Tot.yes rfl ?_
  cases a4==b4 with
  |false=>exact Tot.no rfl (Tot.pure rfl)
  |true=>
   refine Tot.yes rfl (Tot.bind (D2a a5 b5 hf) ?_)
   rintro r rfl
   exact Tot.pure (by simp)
section
variable {d:Dsk} {s:ByteArray} {f:Fil} {sure:Bool}
theorem Uya (a:Stp):sle a a=false:=Nd a
theorem G0a (h1:Ao d=true) (h2:B1 s=true) (h3:Fh f=true):keep d s f sure=Mo d s f sure:=by unfold keep; rw [h1,h2,h3]; rfl
theorem G1a {x:Dsk} {c:Int}:(kp2 d s sure (x,c)=(d,3))∨(sure=false∧kp2 d s sure (x,c)=(x,c))∨(sure=true∧(sy x s).length≤60∧kp2 d s sure (x,c)=((x.1,sy x s),c)):=by
 unfold kp2 syD
 cases sure with
 |false=>exact .inr (.inl ⟨rfl,rfl⟩)
 |true=>
  rw [cond_true]
  by_cases h:(sy x s).length≤60
  ·rw [decide_eq_true h]
   exact .inr (.inr ⟨rfl,h,rfl⟩)
  ·rw [decide_eq_false h]
   exact .inl rfl
theorem Rfa (hd:DG d) (hs:B1 s=true):kp1 d s f=none∨(∃ o,old d s=some o∧sle o.1 f.1=false∧kp1 d s f=some (d,1))∨((∀ o,old d s=some o→sle o.1 f.1=true)∧(wr d.1 s (L6 f)).length≤60∧kp1 d s f=some ((wr d.1 s (L6 f),d.2),0)):=by
 have hl:(L6 f).length≤400:=by have:=D6a f; omega
 have w:(bif (wrD d s (L6 f)).2 then some ((wrD d s (L6 f)).1,(0:Int)) else none)=none∨((wr d.1 s (L6 f)).length≤60∧(bif (wrD d s (L6 f)).2 then some ((wrD d s (L6 f)).1,(0:Int)) else none)=some ((wr d.1 s (L6 f),d.2),0)):=by
  unfold wrD
  rw [decide_eq_true hl,Bool.true_and]
  by_cases h:(wr d.1 s (L6 f)).length≤60
  ·rw [decide_eq_true h]; exact .inr ⟨h,rfl⟩
  ·rw [decide_eq_false h]; exact .inl rfl
 unfold kp1
 cases ho:old d s with
 |none=>
  rcases w with h|⟨h1,h2⟩
  ·exact .inl h
  ·exact .inr (.inr ⟨λ o h=>(by cases h),h1,h2⟩)
 |some o=>
  simp only
  cases hc:sle o.1 f.1 with
  |false=>exact .inr (.inl ⟨o,rfl,hc,rfl⟩)
  |true=>
   rcases w with h|⟨h1,h2⟩
   ·exact .inl h
   ·exact .inr (.inr ⟨λ o' h=>(by cases h; exact hc),h1,h2⟩)
theorem Bqa (hd:DG d) (hs:B1 s=true):Mo d s f sure=(d,3)∨
  (∃ o,old d s=some o∧sle o.1 f.1=false∧(Mo d s f sure).2=1∧DG (Mo d s f sure).1∧((sure=false∧(Mo d s f sure).1=d)∨(sure=true∧(Mo d s f sure).1=(d.1,sy d s))))∨
  ((∀ o,old d s=some o→sle o.1 f.1=true)∧DG (wr d.1 s (L6 f),d.2)∧(Mo d s f sure).2=0∧DG (Mo d s f sure).1∧((sure=false∧(Mo d s f sure).1=(wr d.1 s (L6 f),d.2))∨(sure=true∧(Mo d s f sure).1=(wr d.1 s (L6 f),sy (wr d.1 s (L6 f),d.2) s)))):=by
 have hg:=Rca (f:=f) (sure:=sure) hd hs
 rcases Rfa (f:=f) hd hs with h|⟨o,h1,h2,h⟩|⟨h1,h2,h⟩
 ·exact .inl (by unfold Mo; rw [h])
 ·have e:Mo d s f sure=kp2 d s sure (d,1):=by unfold Mo; rw [h]
  rcases G1a (d:=d) (s:=s) (sure:=sure) (x:=d) (c:=1) with k|⟨k0,k⟩|⟨k0,k1,k⟩
  ·exact .inl (e.trans k)
  ·rw [← e] at k
   exact .inr (.inl ⟨o,h1,h2,by rw [k],hg,.inl ⟨k0,by rw [k]⟩⟩)
  ·rw [← e] at k
   exact .inr (.inl ⟨o,h1,h2,by rw [k],hg,.inr ⟨k0,by rw [k]⟩⟩)
 ·have e:Mo d s f sure=kp2 d s sure ((wr d.1 s (L6 f),d.2),0):=by unfold Mo; rw [h]
  have hw:=Bob hd hs h
  rcases G1a (d:=d) (s:=s) (sure:=sure) (x:=(wr d.1 s (L6 f),d.2)) (c:=0) with k|⟨k0,k⟩|⟨k0,k1,k⟩
  ·exact .inl (e.trans k)
  ·rw [← e] at k
   exact .inr (.inr ⟨h1,hw,by rw [k],hg,.inl ⟨k0,by rw [k]⟩⟩)
  ·rw [← e] at k
   exact .inr (.inr ⟨h1,hw,by rw [k],hg,.inr ⟨k0,by rw [k]⟩⟩)
theorem Ioa {l:List Nmd} (hs:Fv l) {s t:ByteArray} {b:List Int}:gt (wr l s b) t=if s=t then some b else gt l t:=by
 unfold wr
 rw [Wta (x:=(s,b)) (Ml hs) Y1]
 by_cases h:s=t
 ·rw [if_pos h,if_pos h]
 ·rw [if_neg h,if_neg h,T4 hs,if_neg h]
theorem Ipa (hd:Ao d=true) {t:ByteArray}:gt (sy d s) t=if s=t then gt d.1 s else gt d.2 t:=by
 unfold sy
 cases h:gt d.1 s with
 |none=>rw [T4 (Qj hd)]
 |some b=>rw [Ioa (Qj hd)]
theorem Rga (hd:DG d) (hs:B1 s=true) (hf:Fh f=true) (hb:Al f.2.2) (h:(Mo d s f true).2=0∨(Mo d s f true).2=1):
  ∃ o g b,DG o∧DG (Mo d s f true).1∧(Mo d s f true).1=(o.1,sy o s)∧gt o.1 s=some b∧O4 b=some g∧sle g.1 f.1=false:=by
 rcases Bqa (f:=f) (sure:=true) hd hs with k|⟨o,h1,h2,k,hg,h3⟩|⟨h1,h2,k,hg,h3⟩
 ·rw [k] at h; rcases h with h|h<;>cases h
 ·rcases h3 with ⟨h3,_⟩|⟨_,h3⟩
  ·cases h3
  ·have ho:(gt d.1 s).bind O4=some o:=h1
   cases hg1:gt d.1 s with
   |none=>rw [hg1] at ho; cases ho
   |some b=>
    rw [hg1] at ho
    exact ⟨d,o,b,hd,hg,h3,hg1,ho,h2⟩
 ·rcases h3 with ⟨h3,_⟩|⟨_,h3⟩
  ·cases h3
  ·exact ⟨(wr d.1 s (L6 f),d.2),f,L6 f,h2,hg,h3,by show gt (wr d.1 s (L6 f)) s=_; rw [Ioa (Mn hd.1),if_pos rfl],W3 hf hb,Uya _⟩
end

end Go.Proofs.YtmhhjceoinoekaaGreat.Vf
