import Derived.Test.YtflokceoeiplcaaGreatMam
section
set_option linter.unusedVariables false
set_option linter.unusedSimpArgs false
namespace Go.Proofs.YtflokceoeiplcaaGreat.Vf
open Go
def Fb (l:List Nmd):Prop:=l.Pairwise (fun a b=>tlt a.1 b.1=true)
theorem Gxa:∀ (p:Option ByteArray) (l:List Nmd),chn p l=true↔Fb l∧(∀ r∈l,nOk r=true)∧(∀ q,p=some q→∀ r∈l,tlt q r.1=true)
 |p,[]=>by
  have:chn p []=true:=by cases p<;>rfl
  simp [this,Fb]
 |none,r::l=>by
  simp only [chn,Bool.and_eq_true,Gxa (some r.1) l,Fb,List.pairwise_cons]
  constructor
  ·rintro ⟨h1,h2,h3,h4⟩
   exact ⟨⟨fun a ha=>h4 _ rfl a ha,h2⟩,fun a ha=>by rcases List.mem_cons.1 ha with rfl|ha; exact h1; exact h3 a ha,fun q hq=>by cases hq⟩
  ·rintro ⟨⟨h1,h2⟩,h3,_⟩
   exact ⟨h3 r (by simp),h2,fun a ha=>h3 a (List.mem_cons_of_mem _ ha),fun q hq a ha=>by cases hq; exact h1 a ha⟩
 |some q,r::l=>by
  simp only [chn,Bool.and_eq_true,Gxa (some r.1) l,Fb,List.pairwise_cons]
  constructor
  ·rintro ⟨h1,h0,h2,h3,h4⟩
   refine ⟨⟨fun a ha=>h4 _ rfl a ha,h2⟩,fun a ha=>by rcases List.mem_cons.1 ha with rfl|ha; exact h1; exact h3 a ha,fun q' hq a ha=>?_⟩
   cases hq
   rcases List.mem_cons.1 ha with rfl|ha
   ·exact h0
   ·exact Lo h0 (h4 _ rfl a ha)
  ·rintro ⟨⟨h1,h2⟩,h3,h4⟩
   exact ⟨h3 r (by simp),h4 q rfl r (by simp),h2,fun a ha=>h3 a (List.mem_cons_of_mem _ ha),fun q' hq a ha=>by cases hq; exact h1 a ha⟩
theorem Ae {l:List Nmd}:Hw l=true↔Fb l∧(∀ r∈l,nOk r=true)∧l.length≤60:=by
 unfold Hw
 simp only [Bool.and_eq_true,Gxa,decide_eq_true_eq]
 constructor
 ·rintro ⟨⟨h1,h2,_⟩,h3⟩
  exact ⟨h1,h2,by omega⟩
 ·rintro ⟨h1,h2,h3⟩
  exact ⟨⟨h1,h2,fun q hq=>by cases hq⟩,by omega⟩
theorem Om {x:Nmd}:nOk x=true↔Ce x.1=true∧x.2.length≤400:=by
 unfold nOk
 simp only [Bool.and_eq_true,Bool.not_eq_true',decide_eq_false_iff_not]
 constructor
 ·rintro ⟨h1,h2⟩; exact ⟨h1,by omega⟩
 ·rintro ⟨h1,h2⟩; exact ⟨h1,by omega⟩
theorem Tl {l:List Nmd} (h:Hw l=true):Gva l∧Nx l:=by
 obtain ⟨_,h2,h3⟩:=Ae.1 h
 refine ⟨⟨by omega,fun x hx=>by have:=(Om.1 (h2 x hx)).2; omega⟩,fun x hx=>?_⟩
 have:=X2 (Om.1 (h2 x hx)).1
 unfold Ky
 omega
theorem Jia (y:Nmd) (l:List Nmd) (s:ByteArray):fnd (y::l) s=if teq y.1 s then some 0 else (fnd l s).map (· + 1):=by
 unfold fnd
 rw [List.findIdx?_cons]
theorem Sta {l:List Nmd} {s:ByteArray}:fnd l s=none↔∀ x∈l,x.1≠s:=by
 unfold fnd
 rw [List.findIdx?_eq_none_iff]
 constructor
 ·intro h x hx e
  have:=h x hx
  rw [Ic.2 e] at this
  cases this
 ·intro h x hx
  cases ht:teq x.1 s with
  |false=>rfl
  |true=>exact absurd (Ic.1 ht) (h x hx)
theorem T7:∀ {l:List Nmd} {s:ByteArray},Fb l→del l s=cut l s
 |[],s,_=>rfl
 |y::l,s,h=>by
  have hc:=List.pairwise_cons.1 h
  have ih:=T7 (l:=l) (s:=s) hc.2
  unfold del cut at *
  rw [Jia,List.filter_cons]
  cases ht:teq y.1 s with
  |true=>
   have hno:∀ x∈l,(!(teq x.1 s))=true:=fun x hx=>by
    cases hx2:teq x.1 s with
    |false=>rfl
    |true=>
     have e1:=Ic.1 ht
     have e2:=Ic.1 hx2
     have:=hc.1 x hx
     rw [e1,e2,Jo] at this
     cases this
   rw [if_pos rfl,if_neg (by simp)]
   show []++l=_
   rw [List.nil_append,List.filter_eq_self.2 hno]
  |false=>
   rw [if_neg (by simp),if_pos (show (!false)=true from rfl),← ih]
   cases hf:fnd l s with
   |none=>rfl
   |some i=>rfl
theorem Ly {l:List Nmd} {s:ByteArray} (h:Fb l):Fb (cut l s):=h.sublist List.filter_sublist
theorem My {l:List Nmd} {s:ByteArray}:(cut l s).Sublist l:=List.filter_sublist
theorem Tm {l:List Nmd} {s:ByteArray} (h:Hw l=true):Hw (cut l s)=true:=by
 obtain ⟨h1,h2,h3⟩:=Ae.1 h
 exact Ae.2 ⟨Ly h1,fun x hx=>h2 x (My.subset hx),by have:=(My (l:=l) (s:=s)).length_le; omega⟩
theorem P6a {l m:List Nmd} (h:m.Sublist l) (hf:Gva l):Gva m:=⟨by have:=h.length_le; have:=hf.1; omega,fun x hx=>hf.2 x (h.subset hx)⟩
theorem E7a {l m:List Nmd} (h:m.Sublist l) (hf:Nx l):Nx m:=fun x hx=>hf x (h.subset hx)
end Go.Proofs.YtflokceoeiplcaaGreat.Vf
end

section
set_option linter.unusedVariables false
set_option linter.unusedSimpArgs false
namespace Go.Proofs.YtflokceoeiplcaaGreat.Vf
open Go
theorem C1a (d out:Dsk) (s:ByteArray) (hd:Wva d∧Ala d) (ho:Wva out∧Ala out) (hs:Ky s):Tot (fun k=>Db k d out s) (fun r=>r=bif B9 d&&(Ce s&&B9 out) then (out,true) else (d,false)):=by
 unfold Db
 refine Tot.bind (Ol d hd.1 hd.2) ?_
 rintro b rfl
 cases h1:B9 d with
 |false=>
  refine Tot.yes rfl (Tot.bind (K8 d hd.1) ?_)
  rintro r rfl
  exact Tot.pure rfl
 |true=>
  refine Tot.no rfl (Tot.bind (Oi s hs) ?_)
  rintro b rfl
  cases h2:Ce s with
  |false=>
   refine Tot.yes rfl (Tot.bind (K8 d hd.1) ?_)
   rintro r rfl
   exact Tot.pure rfl
  |true=>
   refine Tot.no rfl (Tot.bind (Ol out ho.1 ho.2) ?_)
   rintro b rfl
   cases h3:B9 out with
   |false=>
    refine Tot.yes rfl (Tot.bind (K8 d hd.1) ?_)
    rintro r rfl
    exact Tot.pure rfl
   |true=>exact Tot.no rfl (Tot.pure rfl)
theorem Lea (d:Dsk) (s:ByteArray) (hd:Wva d∧Ala d) (hs:Ky s):Tot (fun k=>Bo k d s) (fun r=>r=bif (fnd d.1 s).isSome&&(B9 d&&(Ce s&&B9 (cut d.1 s,d.2))) then ((cut d.1 s,d.2),true) else (d,false)):=by
 unfold Bo
 refine Tot.bind (K8 d hd.1) ?_
 rintro r rfl
 refine Tot.bind (X4 r.1 s hd.1.1.1) ?_
 rintro i rfl
 unfold Fca
 cases h:fnd r.1 s with
 |none=>exact Tot.dec (by decide) (Tot.pure rfl)
 |some i=>
  dsimp only
  refine Tot.ndec (by omega) (Tot.bind (P5a r.1 s hd.1.1.1) ?_)
  rintro c rfl
  refine Tot.bind (C1a r (cut r.1 s,r.2) s hd ⟨⟨P6a My hd.1.1,hd.1.2⟩,E7a My hd.2.1,hd.2.2⟩ hs) ?_
  rintro e rfl
  exact Tot.pure rfl
end Go.Proofs.YtflokceoeiplcaaGreat.Vf
end

section
set_option linter.unusedVariables false
set_option linter.unusedSimpArgs false
namespace Go.Proofs.YtflokceoeiplcaaGreat.Vf
open Go
def ptl (x:Nmd):Bool→List Nmd→List Nmd
 |p,[]=>bif p then [] else [x]
 |p,y::l=>(bif !p && !(tlt y.1 x.1) then [x] else [])++((bif !(teq y.1 x.1) then [y] else [])++ptl x (p || !(tlt y.1 x.1)) l)
theorem Gya (l:List Nmd) (s:ByteArray) (b:List Int) (hf:l.length≤1000000000000):∀ (n i:Nat) (acc:List Nmd) (p:Bool),l.length - i=n→i≤l.length→acc.length≤2 * i→
  Tot (fun k=>Bt k l s acc p (i:Int) s b) (fun r=>r.1++(bif r.2.1 then [] else [(s,b)])=acc++ptl (s,b) p (l.drop i)∧r.2.2=(s,b)∧r.1.length≤2 * l.length):=by
 intro n
 induction n with
 |zero=>
  intro i acc p hd hi ha
  refine Tot.succ ?_
  simp only [Bt]
  refine Tot.ndec (by omega) (Tot.pure ?_)
  rw [List.drop_of_length_le (by omega)]
  exact ⟨rfl,rfl,by dsimp only; omega⟩
 |succ n ih=>
  intro i acc p hd hi ha
  have hlt:i<l.length:=by omega
  refine Tot.succ ?_
  simp only [Bt]
  refine Tot.dec (by omega) ?_
  rw [show Int.toNat (i:Int)=i from Int.toNat_natCast i,w64 (n:=(i:Int)+1) (by omega) (by omega),Am (d:=Ec) hlt]
  have e0:l.getD i ((⟨#[]⟩:ByteArray),([]:List Int))=l.getD i Ec:=rfl
  rw [e0]
  have Ap:∀ (ac:List Nmd) (q:Bool),ac.length≤2 * i+1→Tot (fun k=>cond (decide ((0:Int)≤i)) (cond (decide ((i:Int)<(List.length l:Int))) (cond (!((l.getD i Ec).1.toList==s.toList)) (cond (decide ((0:Int)≤i)) (cond (decide ((i:Int)<(List.length l:Int))) (cond (Nat.ble ((List.length ac+List.length [l.getD i Ec]) * 40) 140737488355328) (Bt k l s (ac++[l.getD i Ec]) q ((i:Int)+1) s b) none) none) none) (Bt k l s ac q ((i:Int)+1) s b)) none) none)
    (fun r=>r.1++(bif r.2.1 then [] else [(s,b)])=ac++((bif !(teq (l.getD i Ec).1 s) then [l.getD i Ec] else [])++ptl (s,b) q (l.drop (i+1)))∧r.2.2=(s,b)∧r.1.length≤2 * l.length):=by
   intro ac q hac
   refine Tot.dec (by omega) (Tot.dec (by omega) (Tot.ite (fun h=>?_) (fun h=>?_)))
   ·have h':(!(teq (l.getD i Ec).1 s))=true:=h
    rw [h']
    refine Tot.dec (by omega) (Tot.dec (by omega) (Tot.ble (by simp only [List.length_cons,List.length_nil]; omega) ?_))
    refine (ih (i+1) (ac++[l.getD i Ec]) q (by omega) (by omega) (by simp only [List.length_append,List.length_cons,List.length_nil]; omega)).mono ?_
    rintro r ⟨h1,h2,h3⟩
    refine ⟨?_,h2,h3⟩
    rw [h1,List.append_assoc]
    rfl
   ·have h':(!(teq (l.getD i Ec).1 s))=false:=h
    rw [h']
    exact ih (i+1) ac q (by omega) (by omega) (by omega)
  cases p with
  |true=>
   refine Tot.no rfl ?_
   refine (Ap acc true (by omega)).mono ?_
   rintro r ⟨h1,h2,h3⟩
   exact ⟨h1,h2,h3⟩
  |false=>
   refine Tot.yes rfl (Tot.dec (by omega) (Tot.dec (by omega) (Tot.ite (fun h=>?_) (fun h=>?_))))
   ·have h':(!(tlt (l.getD i Ec).1 s))=true:=h
    refine Tot.ble (by simp only [List.length_cons,List.length_nil]; omega) ?_
    refine (Ap (acc++[(s,b)]) true (by simp only [List.length_append,List.length_cons,List.length_nil]; omega)).mono ?_
    rintro r ⟨h1,h2,h3⟩
    refine ⟨?_,h2,h3⟩
    rw [h1]
    simp only [ptl,h',Bool.not_false,Bool.and_self,Bool.false_or,cond_true,List.append_assoc]
   ·have h':(!(tlt (l.getD i Ec).1 s))=false:=h
    refine (Ap acc false (by omega)).mono ?_
    rintro r ⟨h1,h2,h3⟩
    refine ⟨?_,h2,h3⟩
    rw [h1]
    simp only [ptl,h',Bool.not_false,Bool.and_false,Bool.false_or,cond_false,List.nil_append]
theorem C2a (l:List Nmd) (s:ByteArray) (b:List Int) (hf:l.length≤1000000000000) (hb:b.length≤1000000000000):Tot (fun k=>Ee k l s b) (fun r=>r=ptl (s,b) false l):=by
 unfold Ee
 refine Tot.ble (Gwa b hb) ?_
 rw [List.nil_append]
 refine Tot.bind (Gya l s b hf _ 0 [] false rfl (Nat.zero_le _) (Nat.zero_le _)) ?_
 rintro ⟨r,q,x,y⟩ ⟨h1,h2,h3⟩
 rw [List.drop_zero,List.nil_append] at h1
 dsimp only at h1 h2 h3
 dsimp only
 cases q with
 |true=>
  refine Tot.no rfl (Tot.pure ?_)
  rw [← h1]; simp
 |false=>
  refine Tot.yes rfl (Tot.ble (by simp only [List.length_cons,List.length_nil]; omega) (Tot.pure ?_))
  rw [← h1]
  obtain ⟨rfl,rfl⟩:=Prod.mk.inj h2
  rfl
theorem P7a (x:Nmd):∀ (p:Bool) (l:List Nmd),∀ y∈ptl x p l,y∈l∨y=x:=by
 intro p l
 induction l generalizing p with
 |nil=>intro y hy; cases p<;>simp_all [ptl]
 |cons a l ih=>
  intro y hy
  simp only [ptl,List.mem_append] at hy
  rcases hy with hy|hy|hy
  ·revert hy; cases (!p && !(tlt a.1 x.1))<;>simp_all
  ·revert hy; cases (!(teq a.1 x.1))<;>simp_all
  ·rcases ih _ y hy with h|h
   ·exact Or.inl (List.mem_cons_of_mem _ h)
   ·exact Or.inr h
theorem Wwa (x:Nmd):∀ (p:Bool) (l:List Nmd),(ptl x p l).length≤l.length+(bif p then 0 else 1):=by
 intro p l
 induction l generalizing p with
 |nil=>cases p<;>simp [ptl]
 |cons a l ih=>
  simp only [ptl,List.length_append,List.length_cons]
  have:=ih (p || !(tlt a.1 x.1))
  revert this
  cases p<;>cases tlt a.1 x.1<;>cases teq a.1 x.1<;>simp<;>omega
theorem Sua (x:Nmd):∀ (l:List Nmd),ptl x true l=cut l x.1:=by
 intro l
 induction l with
 |nil=>rfl
 |cons a l ih=>
  simp only [ptl,Bool.not_true,Bool.false_and,cond_false,List.nil_append,Bool.true_or,ih,cut,List.filter_cons]
  cases teq a.1 x.1<;>simp
theorem T8 (x:Nmd):∀ {l:List Nmd},Fb l→ptl x false l=ins (cut l x.1) x:=by
 intro l
 induction l with
 |nil=>intro _; rfl
 |cons a l ih=>
  intro h
  have hl:Fb l:=(List.pairwise_cons.1 h).2
  have ha:=(List.pairwise_cons.1 h).1
  simp only [ptl,Bool.not_false,Bool.true_and,Bool.false_or]
  cases ht:tlt a.1 x.1 with
  |true=>
   have he:teq a.1 x.1=false:=by
    cases hq:teq a.1 x.1 with
    |false=>rfl
    |true=>rw [(Ic.1 hq),Jo] at ht; cases ht
   simp only [he,Bool.not_true,Bool.not_false,cond_false,cond_true,List.nil_append,ih hl,cut,List.filter_cons,if_true]
   unfold ins plc
   rw [List.takeWhile_cons,if_pos ht]
   rfl
  |false=>
   have hc:plc (cut (a::l) x.1) x.1=0:=by
    unfold plc cut
    rw [List.length_eq_zero_iff]
    rw [List.filter_cons]
    cases hq:teq a.1 x.1 with
    |false=>rw [Bool.not_false,if_pos rfl,List.takeWhile_cons,if_neg (by rw [ht]; simp)]
    |true=>
     have hx:=(Ic.1 hq)
     simp only [Bool.not_true,Bool.false_eq_true,if_false]
     cases hf:l.filter (fun y => !(teq y.1 x.1)) with
     |nil=>rfl
     |cons b m=>
      have hb:b∈l:=by
       have:b∈l.filter (fun y => !(teq y.1 x.1)):=by rw [hf]; exact List.mem_cons_self
       exact (List.mem_filter.1 this).1
      have hab:=ha b hb
      rw [hx] at hab
      rw [List.takeWhile_cons,if_neg (by rw [Wt hab]; simp)]
   simp only [Bool.not_false,cond_true,Sua]
   unfold ins
   rw [hc]
   simp only [List.take_zero,List.nil_append,List.drop_zero,cut,List.filter_cons]
   cases teq a.1 x.1<;>simp
end Go.Proofs.YtflokceoeiplcaaGreat.Vf
end

section
set_option linter.unusedVariables false
set_option linter.unusedSimpArgs false
namespace Go.Proofs.YtflokceoeiplcaaGreat.Vf
open Go
theorem P8a {l:List Nmd} {x:Nmd} {p:Bool} (hl:Gva l) (hl':l.length≤999999999999) (hx:x.2.length≤1000000000000):Gva (ptl x p l):=by
 refine ⟨?_,fun y hy=>?_⟩
 ·have:=Wwa x p l
  revert this
  cases p<;>simp<;>omega
 ·rcases P7a x p l y hy with h|rfl
  ·exact hl.2 y h
  ·exact hx
theorem E8a {l:List Nmd} {x:Nmd} {p:Bool} (hl:Nx l) (hx:Ky x.1):Nx (ptl x p l):=by
 intro y hy
 rcases P7a x p l y hy with h|rfl
 ·exact hl y h
 ·exact hx
def DIn (d:Dsk):Prop:=(Wva d∧Ala d)∧d.1.length≤1000∧d.2.length≤1000
theorem Pn {d:Dsk} (h:B9 d=true):DIn d:=by
 unfold B9 at h
 rw [Bool.and_eq_true] at h
 have h1:=Tl h.1
 have h2:=Tl h.2
 exact ⟨⟨⟨h1.1,h2.1⟩,h1.2,h2.2⟩,by have:=(Ae.1 h.1).2.2; omega,by have:=(Ae.1 h.2).2.2; omega⟩
theorem P9a (d:Dsk) (s:ByteArray) (b:List Int) (hd:DIn d) (hs:Ky s) (hb:b.length≤1000000000000):Tot (fun k=>D5 k d s b) (fun r=>r=bif B9 d&&(Ce s&&B9 (ptl (s,b) false d.1,d.2)) then ((ptl (s,b) false d.1,d.2),true) else (d,false)):=by
 unfold D5
 refine Tot.bind (K8 d hd.1.1) ?_
 rintro r rfl
 refine Tot.bind (C2a r.1 s b hd.1.1.1.1 hb) ?_
 rintro c rfl
 refine Tot.bind (C1a r (ptl (s,b) false r.1,r.2) s hd.1 ⟨⟨P8a hd.1.1.1 (by have:=hd.2.1; omega) hb,hd.1.1.2⟩,E8a hd.1.2.1 hs,hd.1.2.2⟩ hs) ?_
 rintro e rfl
 exact Tot.pure rfl
def syS (d:Dsk) (s:ByteArray):List Nmd:=match fnd d.1 s with
 |some i=>ptl (s,(d.1.getD i Ec).2) false (cut d.2 s)
 |none=>cut d.2 s
theorem Zba {d:Dsk} {s:ByteArray} (hd:DIn d) (hs:Ky s):Gva (syS d s)∧Nx (syS d s):=by
 unfold syS
 have h1:=P6a (My (l:=d.2) (s:=s)) hd.1.1.2
 have h2:=E7a (My (l:=d.2) (s:=s)) hd.1.2.2
 cases h:fnd d.1 s with
 |none=>exact ⟨h1,h2⟩
 |some i=>
  have hb:=hd.1.1.1.2 _ (A3 (d:=Ec) (Pm h).1)
  have hc:(cut d.2 s).length≤d.2.length:=(My (l:=d.2) (s:=s)).length_le
  exact ⟨P8a h1 (by have:=hd.2.2; omega) hb,E8a h2 hs⟩
theorem Sva (d:Dsk) (s:ByteArray) (hd:DIn d) (hs:Ky s):Tot (fun k=>B0 k d s) (fun r=>r=bif B9 d&&(Ce s&&B9 (d.1,syS d s)) then ((d.1,syS d s),true) else (d,false)):=by
 unfold B0
 have hin:=Zba hd hs
 refine Tot.bind (K8 d hd.1.1) ?_
 rintro r rfl
 refine Tot.bind (Jha r s hd.1.1.1) ?_
 rintro b rfl
 refine Tot.bind (P5a r.2 s hd.1.1.2.1) ?_
 rintro c rfl
 have e:∀ o,o=syS r s→Tot (fun k=>(Db k r (r.1,o) s).bind fun r5=>some (r5.1,r5.2)) (fun q=>q=bif B9 r&&(Ce s&&B9 (r.1,syS r s)) then ((r.1,syS r s),true) else (r,false)):=by
  rintro o rfl
  refine Tot.bind (C1a r (r.1,syS r s) s hd.1 ⟨⟨hd.1.1.1,hin.1⟩,hd.1.2.1,hin.2⟩ hs) ?_
  rintro e rfl
  exact Tot.pure rfl
 have hc:(cut r.2 s).length≤r.2.length:=(My (l:=r.2) (s:=s)).length_le
 cases h:fnd r.1 s with
 |none=>
  have h':rdN r.1 s=([],false):=by unfold rdN; rw [h]
  rw [h']
  refine Tot.no rfl (e _ ?_)
  unfold syS; rw [h]
 |some i=>
  have h':rdN r.1 s=((r.1.getD i Ec).2,true):=by unfold rdN; rw [h]
  rw [h']
  have hb:=hd.1.1.1.2 _ (A3 (d:=Ec) (Pm h).1)
  refine Tot.yes rfl (Tot.bind (C2a (cut r.2 s) s _ (by have:=hd.2.2; omega) hb) ?_)
  rintro o rfl
  refine e _ ?_
  unfold syS; rw [h]
def syI (d:Dsk) (s:ByteArray):List Nmd:=match fnd d.1 s with
 |some i=>ins (del d.2 s) (s,(d.1.getD i Ec).2)
 |none=>del d.2 s
end Go.Proofs.YtflokceoeiplcaaGreat.Vf
end

section
set_option linter.unusedVariables false
set_option linter.unusedSimpArgs false
namespace Go.Proofs.YtflokceoeiplcaaGreat.Vf
open Go
end Go.Proofs.YtflokceoeiplcaaGreat.Vf
end

section
set_option linter.unusedVariables false
set_option linter.unusedSimpArgs false
namespace Go.Proofs.YtflokceoeiplcaaGreat.Vf
open Go
end Go.Proofs.YtflokceoeiplcaaGreat.Vf
end

section
set_option linter.unusedVariables false
set_option linter.unusedSimpArgs false
namespace Go.Proofs.YtflokceoeiplcaaGreat.Vf
open Go
theorem Qo (p:Nmd→Bool):∀ l:List Nmd,l.take (l.takeWhile p).length=l.takeWhile p∧l.drop (l.takeWhile p).length=l.dropWhile p
 |[]=>⟨rfl,rfl⟩
 |y::l=>by
  obtain ⟨h1,h2⟩:=Qo p l
  simp only [List.takeWhile_cons,List.dropWhile_cons]
  cases p y with
  |true=>simp [h1,h2]
  |false=>simp
theorem E9a {p:Nmd→Bool}:∀ {l:List Nmd} {y:Nmd},y∈l.takeWhile p→p y=true
 |[],y,h=>by simp at h
 |z::l,y,h=>by
  simp only [List.takeWhile_cons] at h
  cases hz:p z with
  |false=>rw [hz] at h; simp at h
  |true=>
   rw [hz] at h
   simp only [if_true] at h
   rcases List.mem_cons.1 h with rfl|h
   ·exact hz
   ·exact E9a h
theorem Uua (l:List Nmd) (x:Nmd):ins l x=l.takeWhile (fun y=>tlt y.1 x.1)++([x]++l.dropWhile (fun y=>tlt y.1 x.1)):=by
 unfold ins plc
 obtain ⟨h1,h2⟩:=Qo (fun y=>tlt y.1 x.1) l
 rw [h1,h2,List.append_assoc]
theorem Ama {x:Nmd}:∀ {l:List Nmd},Fb l→(∀ y∈l,y.1≠x.1)→∀ z∈l.dropWhile (fun y=>tlt y.1 x.1),tlt x.1 z.1=true
 |[],_,_,z,hz=>by simp at hz
 |y::l,hs,hn,z,hz=>by
  obtain ⟨h1,h2⟩:=List.pairwise_cons.1 hs
  simp only [List.dropWhile_cons] at hz
  cases hy:tlt y.1 x.1 with
  |true=>
   rw [hy] at hz
   simp only [if_true] at hz
   exact Ama h2 (fun w hw=>hn w (List.mem_cons_of_mem _ hw)) z hz
  |false=>
   rw [hy] at hz
   simp only [Bool.false_eq_true,if_false] at hz
   have hxy:tlt x.1 y.1=true:=by
    cases hh:tlt x.1 y.1 with
    |true=>rfl
    |false=>exact absurd (Ws hy hh) (hn y (by simp))
   rcases List.mem_cons.1 hz with rfl|hz
   ·exact hxy
   ·exact Lo hxy (h1 z hz)
theorem Qb {l:List Nmd} {x:Nmd} (hs:Fb l) (hn:∀ y∈l,y.1≠x.1):Fb (ins l x):=by
 rw [Uua]
 have hs':Fb (l.takeWhile (fun y=>tlt y.1 x.1)++l.dropWhile (fun y=>tlt y.1 x.1)):=by rw [List.takeWhile_append_dropWhile]; exact hs
 obtain ⟨h1,h2,h3⟩:=List.pairwise_append.1 hs'
 have h4:∀ y∈l.takeWhile (fun y=>tlt y.1 x.1),tlt y.1 x.1=true:=fun y hy=>E9a (p:=fun y=>tlt y.1 x.1) hy
 refine List.pairwise_append.2 ⟨h1,List.pairwise_cons.2 ⟨fun z hz=>Ama hs hn z hz,h2⟩,fun a ha b hb=>?_⟩
 rcases List.mem_cons.1 hb with rfl|hb
 ·exact h4 a ha
 ·exact h3 a ha b hb
theorem T9 {l:List Nmd} {x y:Nmd}:y∈ins l x↔y=x∨y∈l:=by
 rw [Uua]
 have e:=List.takeWhile_append_dropWhile (p:=fun y:Nmd=>tlt y.1 x.1) (l:=l)
 constructor
 ·intro h
  rcases List.mem_append.1 h with h|h
  ·right; rw [← e]; exact List.mem_append_left _ h
  ·rcases List.mem_cons.1 h with h|h
   ·exact .inl h
   ·right; rw [← e]; exact List.mem_append_right _ h
 ·rintro (rfl|h)
  ·exact List.mem_append_right _ (by simp)
  ·rw [← e] at h
   rcases List.mem_append.1 h with h|h
   ·exact List.mem_append_left _ h
   ·exact List.mem_append_right _ (List.mem_cons_of_mem _ h)
theorem Uva {l:List Nmd} {x:Nmd} (hl:Hw l=true) (hn:∀ y∈l,y.1≠x.1) (hx:nOk x=true):Hw (ins l x)=decide ((ins l x).length≤60):=by
 obtain ⟨h1,h2,h3⟩:=Ae.1 hl
 by_cases h:(ins l x).length≤60
 ·rw [decide_eq_true h]
  exact Ae.2 ⟨Qb h1 hn,fun y hy=>by rcases T9.1 hy with rfl|hy; exact hx; exact h2 y hy,h⟩
 ·rw [decide_eq_false h]
  cases hc:Hw (ins l x) with
  |false=>rfl
  |true=>exact absurd (Ae.1 hc).2.2 h
theorem X5 {l:List Nmd} {s:ByteArray}:∀ y∈cut l s,y.1≠s:=fun y hy e=>by
 have:=(List.mem_filter.1 hy).2
 simp [e,Ic.2 rfl] at this
theorem Wxa {l:List Nmd} {s:ByteArray}:cut (cut l s) s=cut l s:=by
 unfold cut
 rw [List.filter_filter]
 congr 1
 funext x
 simp
theorem Wya {d:Dsk} {s:ByteArray} (hd:B9 d=true):syS d s=syI d s:=by
 unfold B9 at hd
 rw [Bool.and_eq_true] at hd
 have hs:=(Ae.1 hd.2).1
 unfold syS syI
 rw [T7 hs]
 cases fnd d.1 s with
 |none=>rfl
 |some i=>
  show ptl _ false (cut d.2 s)=ins (cut d.2 s) _
  rw [T8 _ (Ly hs)]
  show ins (cut (cut d.2 s) s) _=_
  rw [Wxa]
theorem Paa {d:Dsk} {s:ByteArray} (hd:B9 d=true) (hs:Ce s=true):B9 (d.1,syI d s)=decide ((syI d s).length≤60):=by
 have hd':=hd
 unfold B9 at hd'
 rw [Bool.and_eq_true] at hd'
 have h2:=Ae.1 hd'.2
 unfold B9
 rw [hd'.1,Bool.true_and]
 unfold syI
 rw [T7 h2.1]
 cases h:fnd d.1 s with
 |none=>show Hw (cut d.2 s)=decide ((cut d.2 s).length≤60); rw [Tm hd'.2,decide_eq_true (Ae.1 (Tm (s:=s) hd'.2)).2.2]
 |some i=>
  refine Uva (Tm hd'.2) X5 (Om.2 ⟨hs,?_⟩)
  have h1:=(Ae.1 hd'.1).2.1 _ (A3 (d:=Ec) (Pm h).1)
  exact (Om.1 h1).2
theorem Wza {l:List Nmd} (hs:Fb l) {x y:Nmd} (hx:x∈l) (hy:y∈l) (e:x.1=y.1):x=y:=by
 induction l with
 |nil=>simp at hx
 |cons z l ih=>
  obtain ⟨h1,h2⟩:=List.pairwise_cons.1 hs
  rcases List.mem_cons.1 hx with hx'|hx'
  ·rcases List.mem_cons.1 hy with hy'|hy'
   ·rw [hx',hy']
   ·have:=h1 y hy'; rw [← hx',e,Jo] at this; cases this
  ·rcases List.mem_cons.1 hy with hy'|hy'
   ·have:=h1 x hx'; rw [← hy',e,Jo] at this; cases this
   ·exact ih h2 hx' hy'
end Go.Proofs.YtflokceoeiplcaaGreat.Vf
end

section
set_option linter.unusedVariables false
set_option linter.unusedSimpArgs false
namespace Go.Proofs.YtflokceoeiplcaaGreat.Vf
open Go
def wrI (d:Dsk) (s:ByteArray) (b:List Int):List Nmd:=ins (del d.1 s) (s,b)
theorem Jja {d:Dsk} {s:ByteArray} {b:List Int} (hd:B9 d=true) (hs:Ce s=true):ptl (s,b) false d.1=wrI d s b∧B9 (wrI d s b,d.2)=(decide (b.length≤400)&&decide ((wrI d s b).length≤60)):=by
 have hd':=hd
 unfold B9 at hd'
 rw [Bool.and_eq_true] at hd'
 have h1:=Ae.1 hd'.1
 have e1:wrI d s b=ins (cut d.1 s) (s,b):=by unfold wrI; rw [T7 h1.1]
 refine ⟨by rw [e1]; exact T8 _ h1.1,?_⟩
 unfold B9
 rw [hd'.2,Bool.and_true,e1]
 by_cases hb:b.length≤400
 ·rw [decide_eq_true hb,Bool.true_and]
  exact Uva (Tm hd'.1) X5 (Om.2 ⟨hs,hb⟩)
 ·rw [decide_eq_false hb,Bool.false_and]
  cases hc:Hw (ins (cut d.1 s) (s,b)) with
  |false=>rfl
  |true=>exact absurd (Om.1 ((Ae.1 hc).2.1 (s,b) (T9.2 (.inl rfl)))).2 hb
end Go.Proofs.YtflokceoeiplcaaGreat.Vf
end

section
set_option linter.unusedVariables false
set_option linter.unusedSimpArgs false
namespace Go.Proofs.YtflokceoeiplcaaGreat.Vf
open Go
def TS (l:List ByteArray):Prop:=l.Pairwise (fun a b=>tlt a b=true)
def pk (l:List Nmd) (s:ByteArray):Option Nmd:=match fnd l s with
 |some i=>some (l.getD i Ec)
 |none=>none
def Na:ByteArray:=⟨#[]⟩
def tpl (l:List ByteArray) (s:ByteArray):Nat:=(l.takeWhile (fun y=>tlt y s)).length
def wt (l:List ByteArray) (s:ByteArray):List ByteArray:=if tpl l s<l.length∧teq (l.getD (tpl l s) Na) s=true then l else l.take (tpl l s)++[s]++l.drop (tpl l s)
theorem Zca (l:List ByteArray) (s:ByteArray):tpl l s≤l.length:=(List.takeWhile_sublist _).length_le
theorem Jka {l:List ByteArray} {s y:ByteArray}:y∈wt l s↔y=s∨y∈l:=by
 unfold wt
 by_cases h:tpl l s<l.length∧teq (l.getD (tpl l s) Na) s=true
 ·rw [if_pos h]
  refine ⟨.inr,fun h'=>?_⟩
  rcases h' with rfl|h'
  ·have:=A3 (d:=Na) h.1
   rwa [Ic.1 h.2] at this
  ·exact h'
 ·rw [if_neg h]
  have e:l.take (tpl l s)++l.drop (tpl l s)=l:=List.take_append_drop _ _
  constructor
  ·intro h'
   rw [List.append_assoc] at h'
   rcases List.mem_append.1 h' with h'|h'
   ·right; rw [← e]; exact List.mem_append_left _ h'
   ·rcases List.mem_append.1 h' with h'|h'
    ·left; simpa using h'
    ·right; rw [← e]; exact List.mem_append_right _ h'
  ·rintro (rfl|h')
   ·simp
   ·rw [← e] at h'
    rcases List.mem_append.1 h' with h'|h'<;>simp [h']
theorem Jla (p:ByteArray→Bool):∀ l:List ByteArray,l.take (l.takeWhile p).length=l.takeWhile p∧l.drop (l.takeWhile p).length=l.dropWhile p
 |[]=>⟨rfl,rfl⟩
 |y::l=>by
  obtain ⟨h1,h2⟩:=Jla p l
  simp only [List.takeWhile_cons,List.dropWhile_cons]
  cases p y with
  |true=>simp [h1,h2]
  |false=>simp
theorem Ana {p:ByteArray→Bool}:∀ {l:List ByteArray} {y:ByteArray},y∈l.takeWhile p→p y=true
 |[],y,h=>by simp at h
 |z::l,y,h=>by
  simp only [List.takeWhile_cons] at h
  cases hz:p z with
  |false=>rw [hz] at h; simp at h
  |true=>
   rw [hz] at h
   simp only [if_true] at h
   rcases List.mem_cons.1 h with rfl|h
   ·exact hz
   ·exact Ana h
theorem X6 {s:ByteArray}:∀ {l:List ByteArray},TS l→(∀ y r,l.dropWhile (fun y=>tlt y s)=y::r→y≠s)→∀ z∈l.dropWhile (fun y=>tlt y s),tlt s z=true
 |[],_,_,z,hz=>by simp at hz
 |y::l,hs,hn,z,hz=>by
  obtain ⟨h1,h2⟩:=List.pairwise_cons.1 hs
  simp only [List.dropWhile_cons] at hz hn
  cases hy:tlt y s with
  |true=>
   rw [hy] at hz hn
   simp only [if_true] at hz hn
   exact X6 h2 hn z hz
  |false=>
   rw [hy] at hz hn
   simp only [Bool.false_eq_true,if_false] at hz hn
   have hxy:tlt s y=true:=by
    cases hh:tlt s y with
    |true=>rfl
    |false=>exact absurd (Ws hy hh) (hn y l rfl)
   rcases List.mem_cons.1 hz with rfl|hz
   ·exact hxy
   ·exact Lo hxy (h1 z hz)
theorem Po {l:List ByteArray} {s:ByteArray} (hs:TS l):TS (wt l s):=by
 unfold wt
 by_cases h:tpl l s<l.length∧teq (l.getD (tpl l s) Na) s=true
 ·rw [if_pos h]; exact hs
 ·rw [if_neg h]
  obtain ⟨e1,e2⟩:=Jla (fun y=>tlt y s) l
  have hd:∀ y r,l.dropWhile (fun y=>tlt y s)=y::r→y≠s:=by
   intro y r hr hy
   rw [← e2] at hr
   have hlt:tpl l s<l.length:=by
    rcases Nat.lt_or_ge (tpl l s) l.length with h'|h'
    ·exact h'
    ·have:l.drop (tpl l s)=[]:=List.drop_of_length_le h'
     unfold tpl at this
     rw [this] at hr
     cases hr
   have:l.drop (tpl l s)=l.getD (tpl l s) Na::l.drop (tpl l s+1):=Am hlt
   unfold tpl at this
   rw [this] at hr
   simp only [List.cons.injEq] at hr
   exact h ⟨hlt,Ic.2 (hr.1.trans hy)⟩
  have e1':l.take (tpl l s)=l.takeWhile (fun y=>tlt y s):=e1
  have e2':l.drop (tpl l s)=l.dropWhile (fun y=>tlt y s):=e2
  rw [e1',e2',List.append_assoc]
  have hs':TS (l.takeWhile (fun y=>tlt y s)++l.dropWhile (fun y=>tlt y s)):=by rw [List.takeWhile_append_dropWhile]; exact hs
  obtain ⟨h1,h2,h3⟩:=List.pairwise_append.1 hs'
  refine List.pairwise_append.2 ⟨h1,List.pairwise_cons.2 ⟨fun z hz=>X6 hs hd z hz,h2⟩,fun a ha b hb=>?_⟩
  rcases List.mem_cons.1 hb with rfl|hb
  ·exact Ana (p:=fun y=>tlt y b) ha
  ·exact h3 a ha b hb
end Go.Proofs.YtflokceoeiplcaaGreat.Vf
end

section
set_option linter.unusedVariables false
set_option linter.unusedSimpArgs false
namespace Go.Proofs.YtflokceoeiplcaaGreat.Vf
open Go
theorem Pba {l:List ByteArray} {s:ByteArray}:(wt l s).length≤l.length+1:=by
 unfold wt
 have:=Zca l s
 split
 ·omega
 ·simp only [List.length_append,List.length_take,List.length_drop,List.length_cons,List.length_nil]; omega
end Go.Proofs.YtflokceoeiplcaaGreat.Vf
end

section
set_option linter.unusedVariables false
set_option linter.unusedSimpArgs false
namespace Go.Proofs.YtflokceoeiplcaaGreat.Vf
open Go
section
variable {α σ R:Type} {a b:α} {p:Prop} [Decidable p]
theorem dT (h:p):cond (decide p) a b=a:=by rw [decide_eq_true h]; rfl
theorem dF (h:¬ p):cond (decide p) a b=b:=by rw [decide_eq_false h]; rfl
theorem bT {m n:Nat} (h:m≤n):cond (Nat.ble m n) a b=a:=by rw [Nat.ble_eq_true_of_le h]; rfl
theorem Tot.up {L:Nat→Int→σ→Option R} {Q:R→Prop} (n:Nat) (I:Nat→σ→Prop) (hend:∀ s,I n s→Tot (fun k=>L (k+1) (n:Int) s) Q)
  (Hia:∀ i s,i<n→I i s→(∀ s',I (i+1) s'→Tot (fun k=>L k ((i:Int)+1) s') Q)→Tot (fun k=>L (k+1) (i:Int) s) Q):
  ∀ (i:Nat) (s:σ),i≤n→I i s→Tot (fun k=>L k (i:Int) s) Q:=by
 suffices h:∀ (m i:Nat) (s:σ),n - i=m→i≤n→I i s→Tot (fun k=>L k (i:Int) s) Q from fun i s hi hs=>h _ i s rfl hi hs
 intro m
 induction m with
 |zero=>
  intro i s hm hi hs
  obtain rfl:i=n:=by omega
  exact Tot.succ (hend s hs)
 |succ m ih=>
  intro i s hm hi hs
  refine Tot.succ (Hia i s (by omega) hs fun s' hs'=>?_)
  have:=ih (i+1) s' (by omega) (by omega) hs'
  rwa [show (((i+1:Nat)):Int)=(i:Int)+1 by omega] at this
end
def cst (x:BitVec 32):BitVec 32:=if x.getLsbD 0 then (x >>> 1) ^^^ 2197175160#32 else x >>> 1
def Y8:Nat→BitVec 32→BitVec 32
 |0,x=>x
 |n+1,x=>Y8 n (cst x)
def cby (x:BitVec 32) (b:Int):BitVec 32:=Y8 8 (x ^^^ BitVec.ofInt 32 b)
def Y3a (l:List Int):BitVec 32 := ~~~ (l.foldl cby 4294967295#32)
def crc (l:List Int):Int:=((Y3a l).toNat:Int)
theorem B9b (v:BitVec 32):v.getLsbD 0=decide (v.toNat % 2=1):=by
 rw [BitVec.getLsbD,Nat.testBit_zero]
theorem Gza (v:BitVec 32):BitVec.ofInt (IntKind.bits .u32) (v.toNat:Int)=v:=by
 show BitVec.ofInt 32 (v.toNat:Int)=v
 rw [BitVec.ofInt_natCast,BitVec.ofNat_toNat,BitVec.setWidth_eq]
theorem H0a (n:Nat) (h:n<4294967296):(BitVec.ofInt (IntKind.bits .i64) (n:Int)).toNat=n:=Pl n (by omega)
theorem Aub (v:BitVec 32):IntKind.wrap .u32 (v.toNat:Int)=(v.toNat:Int):=Go.IntWalk.u32_in _ ⟨by omega,by have:=v.isLt; omega⟩
theorem sh1 (v:BitVec 32):Int.fdiv (v.toNat:Int) 2=((v >>> 1).toNat:Int):=by
 rw [Int.fdiv_eq_ediv_of_nonneg _ (by omega),BitVec.toNat_ushiftRight,Nat.shiftRight_eq_div_pow]
 omega
theorem Avb (v:BitVec 32):((IntKind.wrap .u32 ((BitVec.ofInt (IntKind.bits .u32) (v.toNat:Int) &&& BitVec.ofInt (IntKind.bits .u32) 1).toNat))==1)=v.getLsbD 0:=by
 show (IntKind.wrap .u32 (((BitVec.ofInt 32 (v.toNat:Int) &&& BitVec.ofInt 32 1).toNat:Nat):Int)==1)=_
 rw [show BitVec.ofInt 32 (v.toNat:Int)=v from Gza v,Aub,B9b,BitVec.toNat_and,show (BitVec.ofInt 32 1).toNat=1 from by decide,Nat.and_one_is_mod,Bool.eq_iff_iff,beq_iff_eq,decide_eq_true_iff]
 omega
theorem Awb (v:BitVec 32):((IntKind.wrap .i64 ((BitVec.ofInt (IntKind.bits .i64) (v.toNat:Int) &&& BitVec.ofInt (IntKind.bits .i64) 1).toNat))==1)=v.getLsbD 0:=by
 have:=v.isLt
 rw [B9b,BitVec.toNat_and,H0a _ v.isLt,show (BitVec.ofInt (IntKind.bits .i64) 1).toNat=1 from by decide,Nat.and_one_is_mod,w64 (by omega) (by omega),Bool.eq_iff_iff,beq_iff_eq,decide_eq_true_iff]
 omega
theorem Bab (v w:BitVec 32) (x:Int) (h:BitVec.ofInt 32 x=w):IntKind.wrap .u32 ((BitVec.ofInt (IntKind.bits .u32) (v.toNat:Int) ^^^ BitVec.ofInt (IntKind.bits .u32) x).toNat)=((v ^^^ w).toNat:Int):=by
 show IntKind.wrap .u32 (((BitVec.ofInt 32 (v.toNat:Int) ^^^ BitVec.ofInt 32 x).toNat:Nat):Int)=_
 rw [show BitVec.ofInt 32 (v.toNat:Int)=v from Gza v,h]
 exact Aub _
theorem Aeb (v w:BitVec 32):IntKind.wrap .i64 ((BitVec.ofInt (IntKind.bits .i64) (v.toNat:Int) ^^^ BitVec.ofInt (IntKind.bits .i64) (w.toNat:Int)).toNat)=((v ^^^ w).toNat:Int):=by
 have:=(v ^^^ w).isLt
 rw [BitVec.toNat_xor,H0a _ v.isLt,H0a _ w.isLt,← BitVec.toNat_xor]
 exact w64 (by omega) (by omega)
theorem Bbb (K:IntKind) (h:1≤IntKind.bits K):(2:Int) ^ (min (Int.toNat 1) (IntKind.bits K))=2:=by
 rw [show Int.toNat 1=1 from rfl,Nat.min_eq_left h]; rfl
theorem Lfa (l:List Int) (x8 x9:Int):∀ (n:Nat) (v:BitVec 32) (i:Int),0≤i→8 - i=n→Tot (fun k=>Ij k (v.toNat:Int) l x8 x9 i) (fun r=>r=(((Y8 n v).toNat:Int),l,x8,x9)):=by
 intro n
 induction n with
 |zero=>
  intro v i h0 hn
  refine Tot.succ ?_
  simp only [Ij]
  exact Tot.ndec (by omega) (Tot.pure rfl)
 |succ n ih=>
  intro v i h0 hn
  refine Tot.succ ?_
  simp only [Ij]
  refine Tot.dec (by omega) ?_
  rw [w64 (n:=i+1) (by omega) (by omega),Avb,Bbb _ (by decide),sh1,Bab _ 2197175160#32 _ (by decide)]
  have e:Y8 (n+1) v=Y8 n (cst v):=rfl
  rw [e]
  refine Tot.ite (fun h=>?_) (fun h=>?_)
  ·have:=ih (v >>> 1 ^^^ 2197175160#32) (i+1) (by omega) (by omega)
   rwa [show v >>> 1 ^^^ 2197175160#32=cst v by unfold cst; rw [if_pos h]] at this ⊢
  ·have:=ih (v >>> 1) (i+1) (by omega) (by omega)
   rwa [show v >>> 1=cst v by unfold cst; rw [if_neg (by rw [h]; simp)]] at this ⊢
theorem H1a (l:List Int) (x4:Int):∀ (n:Nat) (v:BitVec 32) (i:Int),0≤i→8 - i=n→Tot (fun k=>Ih k l (v.toNat:Int) x4 i) (fun r=>r=(l,((Y8 n v).toNat:Int),x4)):=by
 intro n
 induction n with
 |zero=>
  intro v i h0 hn
  refine Tot.succ ?_
  simp only [Ih]
  exact Tot.ndec (by omega) (Tot.pure rfl)
 |succ n ih=>
  intro v i h0 hn
  refine Tot.succ ?_
  simp only [Ih]
  have hp:(2197175160:Int)=((2197175160#32:BitVec 32).toNat:Int):=by decide
  refine Tot.dec (by omega) ?_
  rw [w64 (n:=i+1) (by omega) (by omega),Awb,Bbb _ (by decide),sh1,hp,Aeb]
  have e:Y8 (n+1) v=Y8 n (cst v):=rfl
  rw [e]
  refine Tot.ite (fun h=>?_) (fun h=>?_)
  ·have:=ih (v >>> 1 ^^^ 2197175160#32) (i+1) (by omega) (by omega)
   rwa [show v >>> 1 ^^^ 2197175160#32=cst v by unfold cst; rw [if_pos h]] at this ⊢
  ·have:=ih (v >>> 1) (i+1) (by omega) (by omega)
   rwa [show v >>> 1=cst v by unfold cst; rw [if_neg (by rw [h]; simp)]] at this ⊢
theorem Jma {b:Int} (h:0≤b∧b≤255):b=((BitVec.ofInt 32 b).toNat:Int):=by
 rw [BitVec.toNat_ofInt]
 omega
theorem X0a (l:List Int) (hb:An l) (hl:l.length≤1000000000000):Tot (fun k=>Kq k l) (fun r=>r=crc l):=by
 unfold Kq
 refine Tot.bind (Q:=fun r=>r=(((l.foldl cby 4294967295#32).toNat:Nat):Int)) ?_ ?_
 ·have:=Tot.up (L:=fun k i s=>Iz k s l (l.length:Int) i) (Q:=fun r=>r=(((l.foldl cby 4294967295#32).toNat:Nat):Int)) l.length (fun i s=>∃ v:BitVec 32,s=(v.toNat:Int)∧(l.drop i).foldl cby v=l.foldl cby 4294967295#32) ?_ ?_ 0 4294967295 (Nat.zero_le _) ⟨4294967295#32,by decide,by rw [List.drop_zero]⟩
  ·exact this
  ·rintro s ⟨v,rfl,hv⟩
   simp only [Iz]
   rw [List.drop_length] at hv
   exact Tot.ndec (by omega) (Tot.pure (by rw [← hv]; rfl))
  ·rintro i s hi ⟨v,rfl,hv⟩ next
   simp only [Iz]
   have hx:=hb _ (A3 (d:=0) hi)
   refine Tot.dec (by omega) (Tot.dec (by omega) (Tot.dec (by omega) ?_))
   rw [Int.toNat_natCast,Go.IntWalk.u32_in _ ⟨hx.1,by omega⟩,Bab v _ _ rfl]
   refine Tot.bind (Lfa l _ _ 8 _ 0 (by decide) (by decide)) ?_
   rintro r rfl
   simp only
   rw [w64 (n:=(i:Int)+1) (by omega) (by omega)]
   refine next _ ⟨_,rfl,?_⟩
   rw [Am (d:=0) hi,List.foldl_cons] at hv
   exact hv
 ·rintro r rfl
  refine Tot.pure ?_
  unfold crc Y3a
  have hm:BitVec.ofInt 32 (if IntKind.signed .u32 then -1 else IntKind.max .u32)=BitVec.allOnes 32:=by decide
  have e:BitVec.allOnes 32 ^^^ l.foldl cby 4294967295#32 = ~~~ (l.foldl cby 4294967295#32):=by rw [BitVec.xor_comm]; exact BitVec.xor_allOnes
  show IntKind.wrap .i64 (IntKind.wrap .u32 (((BitVec.ofInt 32 (if IntKind.signed .u32 then -1 else IntKind.max .u32) ^^^ BitVec.ofInt 32 ((l.foldl cby 4294967295#32).toNat:Int)).toNat:Nat):Int))=_
  rw [show BitVec.ofInt 32 ((l.foldl cby 4294967295#32).toNat:Int)=l.foldl cby 4294967295#32 from Gza _,hm,e]
  have:=(~~~ (l.foldl cby 4294967295#32)).isLt
  rw [Aub,w64 (by omega) (by omega)]
theorem X1a (l:List Int) (hb:An l) (hl:l.length≤1000000000000):Tot (fun k=>Ko k l) (fun r=>r=crc l):=by
 unfold Ko
 refine Tot.bind (Q:=fun r=>r=(((l.foldl cby 4294967295#32).toNat:Nat):Int)) ?_ ?_
 ·have:=Tot.up (L:=fun k i s=>It k l s i) (Q:=fun r=>r=(((l.foldl cby 4294967295#32).toNat:Nat):Int)) l.length (fun i s=>∃ v:BitVec 32,s=(v.toNat:Int)∧(l.drop i).foldl cby v=l.foldl cby 4294967295#32) ?_ ?_ 0 4294967295 (Nat.zero_le _) ⟨4294967295#32,by decide,by rw [List.drop_zero]⟩
  ·exact this
  ·rintro s ⟨v,rfl,hv⟩
   simp only [It]
   rw [List.drop_length] at hv
   exact Tot.ndec (by omega) (Tot.pure (by rw [← hv]; rfl))
  ·rintro i s hi ⟨v,rfl,hv⟩ next
   simp only [It]
   have hx:=hb _ (A3 (d:=0) hi)
   refine Tot.dec (by omega) (Tot.dec (by omega) (Tot.dec (by omega) ?_))
   rw [Int.toNat_natCast,w64 (n:=l.getD i 0) (by omega) (by omega),Jma hx,Aeb]
   refine Tot.bind (H1a l _ 8 _ 0 (by decide) (by decide)) ?_
   rintro r rfl
   simp only
   rw [w64 (n:=(i:Int)+1) (by omega) (by omega)]
   refine next _ ⟨_,rfl,?_⟩
   rw [Am (d:=0) hi,List.foldl_cons] at hv
   exact hv
 ·rintro r rfl
  refine Tot.pure ?_
  have hp:(4294967295:Int)=((BitVec.allOnes 32:BitVec 32).toNat:Int):=by decide
  rw [hp,Aeb,BitVec.xor_allOnes]
  rfl
end Go.Proofs.YtflokceoeiplcaaGreat.Vf
end

section
set_option linter.unusedVariables false
set_option linter.unusedSimpArgs false
namespace Go.Proofs.YtflokceoeiplcaaGreat.Vf
open Go
def Zda:Fil:=(((0:Int),((0:Int),(0:Int))),(false,([]:List Int)))
def H3 (f:Fil):Bool:=Gk f.1&&(decide ((f.2.2.length:Int)≤200)&&(!f.2.1 || ((f.2.2.length:Int)==0)))
theorem Jna (f:Fil):Hb f=some (H3 f):=by
 unfold Hb H3
 rw [Ww]
 simp only [Option.bind_some]
 cases Gk f.1<;>cases decide ((List.length f.2.2:Int)≤200)<;>cases f.2.1<;>rfl
theorem Ue (f:Fil):Cr f=some (H3 f):=by
 unfold Cr H3
 rw [S6]
 simp only [Option.bind_some]
 cases Gk f.1<;>cases decide ((List.length f.2.2:Int)≤200)<;>cases f.2.1<;>rfl
theorem Kt {f:Fil}:H3 f=true↔Gk f.1=true∧f.2.2.length≤200∧(f.2.1=true→f.2.2=[]):=by
 unfold H3
 rw [Bool.and_eq_true,Bool.and_eq_true,decide_eq_true_iff]
 have:(!f.2.1 || ((f.2.2.length:Int)==0))=true↔(f.2.1=true→f.2.2=[]):=by
  cases f.2.1 with
  |false=>simp
  |true=>simp
 rw [this]
 constructor
 ·rintro ⟨h1,h2,h3⟩; exact ⟨h1,by omega,h3⟩
 ·rintro ⟨h1,h2,h3⟩; exact ⟨h1,by omega,h3⟩
theorem Eaa (a b:Fil):Ie a b=some (sle b.1 a.1):=by unfold Ie; rw [Ub]; rfl
def hdF (s:Stp) (d:Bool):List Int:=M7a s++Ng (B6 (C0a d))
def Nh (f:Fil):List Int:=hdF f.1 f.2.1++txt (Je f.2.2)
def c4 (c:Int):List Int:=[IntKind.wrap .u8 (Int.fdiv c (2 ^ (min (Int.toNat 24) (IntKind.bits .i64)))),IntKind.wrap .u8 (Int.fdiv c (2 ^ (min (Int.toNat 16) (IntKind.bits .i64)))),IntKind.wrap .u8 (Int.fdiv c (2 ^ (min (Int.toNat 8) (IntKind.bits .i64)))),IntKind.wrap .u8 c]
def K5 (f:Fil):List Int:=bif H3 f then Nh f++c4 (crc (Nh f)) else []
theorem Ny {a b:List Int} (ha:An a) (hb:An b):An (a++b):=fun x hx=>(List.mem_append.1 hx).elim (ha x) (hb x)
theorem Pp (n:Int):An (Ng (B6 n)):=Laa _ (Mx n)
theorem Pca (s:Stp) (d:Bool):An (hdF s d):=Ny (Ny (Pp _) (Ny (Pp _) (Pp _))) (Pp _)
theorem On (f:Fil):An (Nh f):=Ny (Pca _ _) (Ny (Pp _) (Aia _))
theorem Swa (c:Int):An (c4 c):=by
 intro x hx
 simp only [c4,List.mem_cons,List.not_mem_nil,or_false] at hx
 rcases hx with rfl|rfl|rfl|rfl<;>exact Dva _
theorem Qc (f:Fil):An (K5 f):=by
 unfold K5
 cases H3 f with
 |false=>intro x hx; simp at hx
 |true=>exact Ny (On f) (Swa _)
theorem H2a (s:Stp) (d:Bool):(hdF s d).length≤20:=by
 have h1:=Jea s
 have h2:=(La (B6 (C0a d))).1
 unfold hdF
 rw [List.length_append]
 omega
theorem X7 (f:Fil):(Nh f).length≤25+f.2.2.length:=by
 have h1:=H2a f.1 f.2.1
 have h2:=Wta (Je f.2.2)
 have h3:(Je f.2.2).size=f.2.2.length:=Mr _
 unfold Nh
 rw [List.length_append]
 omega
theorem Joa (f:Fil):(K5 f).length≤229:=by
 unfold K5
 cases h:H3 f with
 |false=>simp
 |true=>
  have h1:=X7 f
  have h2:=(Kt.1 h).2.1
  rw [cond_true,List.length_append]
  simp only [c4,List.length_cons,List.length_nil]
  omega
theorem R5 (f:Fil):Tot (fun k=>Ib k f) (fun r=>r=K5 f):=by
 unfold Ib K5
 refine Tot.bind (Tot.of (Q:=fun b=>b=H3 f) (Jna f) rfl) ?_
 rintro b rfl
 cases h:H3 f with
 |false=>exact Tot.yes rfl (Tot.pure rfl)
 |true=>
  have h2:=(Kt.1 h).2.1
  have h3:(Je f.2.2).size=f.2.2.length:=Mr _
  have h4:=H2a f.1 f.2.1
  have h5:=X7 f
  refine Tot.no rfl (Tot.bind (Lba [] f.1 f.2.1 (by simp)) ?_)
  rintro r rfl
  rw [List.nil_append]
  refine Tot.bind (Soa _ _ (by unfold hdF at h4; omega) (by omega)) ?_
  rintro r rfl
  have e:M7a f.1++Ng (B6 (C0a f.2.1))++txt (Je f.2.2)=Nh f:=rfl
  rw [e]
  refine Tot.bind (X0a _ (On f) (by omega)) ?_
  rintro r rfl
  exact Tot.ble (by simp only [List.length_cons,List.length_nil]; omega) (Tot.pure rfl)
theorem X8 (f:Fil):Tot (fun k=>Dx k f) (fun r=>r=K5 f):=by
 unfold Dx K5
 refine Tot.bind (Tot.of (Q:=fun b=>b=H3 f) (Ue f) rfl) ?_
 rintro b rfl
 cases h:H3 f with
 |false=>exact Tot.yes rfl (Tot.pure rfl)
 |true=>
  have h2:=(Kt.1 h).2.1
  have h3:(Je f.2.2).size=f.2.2.length:=Mr _
  have h4:=H2a f.1 f.2.1
  have h5:=X7 f
  have h6:=Jea f.1
  refine Tot.no rfl (Tot.bind (Lca [] f.1 (by simp)) ?_)
  rintro r rfl
  rw [List.nil_append]
  refine Tot.bind (Tot.of (Q:=fun r=>r=C0a f.2.1) (Sra _) rfl) ?_
  rintro c rfl
  refine Tot.bind (X1 _ _ (by omega)) ?_
  rintro d rfl
  refine Tot.bind (Spa _ _ (by unfold hdF at h4; omega) (by omega)) ?_
  rintro r rfl
  have e:M7a f.1++Ng (B6 (C0a f.2.1))++txt (Je f.2.2)=Nh f:=rfl
  rw [e]
  refine Tot.bind (X1a _ (On f) (by omega)) ?_
  rintro r rfl
  exact Tot.ble (by simp only [List.length_cons,List.length_nil]; omega) (Tot.pure rfl)
def Me (b:List Int):Option Fil:=(Oz b 0).bind fun a=>(Jca b a.2).bind fun t=>bif H3 (a.1.1,a.1.2,bytesOf t.1)&&decide (K5 (a.1.1,a.1.2,bytesOf t.1)=b) then some (a.1.1,a.1.2,bytesOf t.1) else none
def R6 (b:List Int):Fil×Bool:=match Me b with
 |some f=>(f,true)
 |none=>(Zda,false)
theorem Pda {b:List Int} {f:Fil} (h:Me b=some f):H3 f=true∧An f.2.2∧K5 f=b:=by
 unfold Me at h
 simp only [Option.bind_eq_some_iff] at h
 obtain ⟨a,_,t,_,h⟩:=h
 cases hc:(H3 (a.1.1,a.1.2,bytesOf t.1)&&decide (K5 (a.1.1,a.1.2,bytesOf t.1)=b)) with
 |false=>rw [hc] at h; cases h
 |true=>
  rw [hc] at h
  simp only [cond_true,Option.some.injEq] at h
  subst h
  rw [Bool.and_eq_true,decide_eq_true_iff] at hc
  exact ⟨hc.1,Aia _,hc.2⟩
theorem Pea (s:Stp) (d:Bool) (rest:List Int) (h:Gk s=true):Oz (hdF s d++rest) 0=some ((s,d),(hdF s d).length):=by
 obtain ⟨t,c,n⟩:=s
 unfold Gk at h
 simp only [Bool.and_eq_true,Gv] at h
 obtain ⟨⟨t0,t1⟩,⟨c0,c1⟩,n0,n1⟩:=h
 have ht:=Wy t0 t1
 have hc:=Wy c0 (show c≤1000000000 by omega)
 have hn:=Wy n0 (show n≤1000000000 by omega)
 have hbit:(((B6 (C0a d):Nat):Int)==1)=d:=by cases d<;>decide
 have hbit2:¬ (1<B6 (C0a d)):=by cases d<;>decide
 have k:∀ (a:List Int) (n:Nat) (b:List Int),n≤1000000000→Nj (a++(Ng n++b)) a.length=some (n,(a++Ng n).length):=fun a n b hn=>by rw [Jaa a n b hn,List.length_append]
 have e0:hdF (t,c,n) d++rest=Ng (B6 t)++(Ng (B6 c)++(Ng (B6 n)++(Ng (B6 (C0a d))++rest))):=by
  unfold hdF M7a
  simp only [List.append_assoc]
 have el:(hdF (t,c,n) d).length=(Ng (B6 t)).length+(Ng (B6 c)).length+(Ng (B6 n)).length+(Ng (B6 (C0a d))).length:=by
  unfold hdF M7a
  simp only [List.length_append]
  omega
 have g1:=k [] (B6 t) (Ng (B6 c)++(Ng (B6 n)++(Ng (B6 (C0a d))++rest))) (Mx t)
 have g2:=k (Ng (B6 t)) (B6 c) (Ng (B6 n)++(Ng (B6 (C0a d))++rest)) (Mx c)
 have g3:=k (Ng (B6 t)++Ng (B6 c)) (B6 n) (Ng (B6 (C0a d))++rest) (Mx n)
 have g4:=k (Ng (B6 t)++Ng (B6 c)++Ng (B6 n)) (B6 (C0a d)) rest (Mx _)
 simp only [List.append_assoc,List.nil_append,List.length_nil] at g1 g2 g3 g4
 simp only [List.length_append] at g1 g2 g3 g4
 unfold Oz
 rw [e0,el]
 simp only [Nat.add_assoc] at g1 g2 g3 g4 ⊢
 simp only [g1,g2,g3,g4,Option.bind_some,decide_eq_false hbit2,cond_false]
 rw [ht,hc,hn,hbit]
theorem Sxa {l:List Int} {q:Nat} {s:Stp} {d:Bool} (hb:An l) (h:Oz l 0=some ((s,d),q)):l=hdF s d++l.drop q∧q≤l.length:=by
 unfold Oz at h
 simp only [Option.bind_eq_some_iff] at h
 obtain ⟨⟨t,p2⟩,h2,⟨c,p3⟩,h3,⟨n,p4⟩,h4,⟨e,p5⟩,h5,h⟩:=h
 obtain ⟨b1,b2,b3,b4⟩:=R4 hb h2
 obtain ⟨c1,c2,c3,c4⟩:=R4 hb h3
 obtain ⟨d1,d2,d3,d4⟩:=R4 hb h4
 obtain ⟨e1,e2,e3,e4⟩:=R4 hb h5
 cases hd:decide (1<e) with
 |true=>simp only [hd,cond_true] at h; cases h
 |false=>
  simp only [hd,cond_false,Option.some.injEq,Prod.mk.injEq] at h
  obtain ⟨⟨⟨rfl,rfl,rfl⟩,rfl⟩,rfl⟩:=h
  have he:e≤1:=by
   have:=of_decide_eq_false hd
   omega
  have hbit:B6 (C0a ((e:Int)==1))=e:=by
   have:e=0∨e=1:=by omega
   rcases this with rfl|rfl<;>decide
  have k:∀ n:Nat,n≤1000000000→B6 (n:Int)=n:=fun n hn=>by unfold B6; omega
  simp only at b1 b2 c1 c2 d1 d2 e1 e2
  refine ⟨?_,e4⟩
  rw [List.drop_zero] at b1
  unfold hdF M7a
  simp only
  rw [k t b2,k c c2,k n d2,hbit,List.append_assoc,List.append_assoc,List.append_assoc,← e1,← d1,← c1,← b1]
theorem Uf {f:Fil} (h:H3 f=true) (hb:An f.2.2):Me (K5 f)=some f:=by
 obtain ⟨h1,h2,h3⟩:=Kt.1 h
 have e:K5 f=hdF f.1 f.2.1++(txt (Je f.2.2)++c4 (crc (Nh f))):=by
  unfold K5
  rw [h,cond_true]
  unfold Nh
  rw [List.append_assoc]
 have g1:=Pea f.1 f.2.1 (txt (Je f.2.2)++c4 (crc (Nh f))) h1
 have g2:=Sqa (hdF f.1 f.2.1) (Je f.2.2) (c4 (crc (Nh f))) (by rw [Mr]; omega)
 rw [← e] at g1 g2
 unfold Me
 simp only [g1,g2,Option.bind_some]
 rw [Mm hb]
 have e1:(f.1,f.2.1,f.2.2)=f:=rfl
 rw [e1,h,decide_eq_true rfl]
 rfl
theorem Sa {a b:List Int} (ha:An a) (hb:An b):((Je a).toList==(Je b).toList)=decide (a=b):=by
 have:teq (Je a) (Je b)=decide (a=b):=by
  rw [Bool.eq_iff_iff,Ic,decide_eq_true_iff]
  constructor
  ·intro h
   have:=congrArg bytesOf h
   rwa [Mm ha,Mm hb] at this
  ·rintro rfl; rfl
 exact this
theorem Sya (l:List Int) (hb:An l) (hl:l.length≤1000000000000) (p:Int) (hp:p≤1000000000000):
  Tot (fun k=>C4 k (l,p,true)) (fun r=>r=((⟨#[]⟩:ByteArray),l,p,true)):=by
 unfold C4
 refine Tot.bind (Jda l hb hl p hp) ?_
 rintro r rfl
 exact Tot.yes rfl (Tot.pure rfl)
theorem Sza {f:Fil}:(((K5 f).length:Int)==0) = !(H3 f):=by
 unfold K5
 cases h:H3 f with
 |false=>rfl
 |true=>
  rw [cond_true,List.length_append,Bool.not_true,beq_eq_false_iff_ne]
  simp only [c4,List.length_cons,List.length_nil]
  omega
theorem X9 (b:List Int) (hb:An b) (hl:b.length≤1000000000000):Tot (fun k=>Fp k b) (fun r=>r=R6 b):=by
 unfold Fp
 refine Tot.bind (Atb b hb hl 0 (Nat.zero_le _) false) ?_
 rintro r (⟨_,⟨s,d⟩,q,h1,h2,rfl⟩|⟨h1,s,d,q,h2,rfl⟩)
 ·refine Tot.bind (Asb b hb hl q h2) ?_
  rintro r (⟨t,q2,h3,h4,rfl⟩|⟨h3,rfl⟩)
  ·have hsz:=(Gta hb h3).2.1
   refine Tot.ble (by dsimp only; omega) (Tot.bind (R5 _) ?_)
   rintro r rfl
   refine Tot.no rfl ?_
   have e:R6 b=bif H3 (s,d,bytesOf t)&&decide (K5 (s,d,bytesOf t)=b) then ((s,d,bytesOf t),true) else (Zda,false):=by
    unfold R6 Me
    simp only [h1,h3,Option.bind_some]
    cases H3 (s,d,bytesOf t)&&decide (K5 (s,d,bytesOf t)=b)<;>rfl
   simp only
   rw [e,Sza]
   cases hf:H3 (s,d,bytesOf t) with
   |false=>exact Tot.yes rfl (Tot.pure rfl)
   |true=>
    refine Tot.no rfl ?_
    rw [Sa (Qc _) hb]
    cases decide (K5 (s,d,bytesOf t)=b) with
    |false=>exact Tot.yes rfl (Tot.pure rfl)
    |true=>exact Tot.no rfl (Tot.pure rfl)
  ·refine Tot.ble (Nat.zero_le _) (Tot.bind (R5 _) ?_)
   rintro r rfl
   refine Tot.yes rfl (Tot.pure ?_)
   unfold R6 Me
   simp only [h1,h3,Option.bind_some,Option.bind_none]
   rfl
 ·refine Tot.bind (Sya b hb hl q (by omega)) ?_
  rintro r rfl
  refine Tot.ble (Nat.zero_le _) (Tot.bind (R5 _) ?_)
  rintro r rfl
  refine Tot.yes rfl (Tot.pure ?_)
  unfold R6 Me
  simp only [h1.resolve_left (by simp),Option.bind_none]
  rfl
theorem Oo (b:List Int) (hb:An b) (hl:b.length≤1000000000000):Tot (fun k=>Bw k b) (fun r=>r=R6 b):=by
 have none_of:Me b=none→R6 b=(Zda,false):=fun h=>by unfold R6; rw [h]
 unfold Bw
 refine Tot.bind (Wua b hb hl 0) ?_
 rintro r (⟨n1,p1,n2,p2,n3,p3,_,g1,g2,g3,rfl⟩|⟨h,hr⟩)
 ·refine Tot.bind (T6 b hb hl (p3:Int)) ?_
  rintro r rfl
  rw [Ud]
  have g1':Nj b 0=some (n1,p1):=g1
  cases g4:Nj b p3 with
  |none=>
   refine Tot.bind (Bza b hb hl 0) ?_
   rintro r rfl
   refine Tot.no rfl (Tot.yes rfl (Tot.pure (none_of ?_).symm))
   unfold Me Oz
   simp only [g1',g2,g3,g4,Option.bind_some,Option.bind_none]
  |some x=>
   obtain ⟨n4,p4⟩:=x
   simp only
   have es:Oz b 0=bif decide (1<n4) then none else some ((((n1:Int),(n2:Int),(n3:Int)),(n4:Int)==1),p4):=by
    unfold Oz
    simp only [g1',g2,g3,g4,Option.bind_some]
   refine Tot.bind (Bza b hb hl (p4:Int)) ?_
   rintro r rfl
   rw [Jfa]
   refine Tot.no rfl (Tot.no rfl ?_)
   cases g5:Jca b p4 with
   |none=>
    refine Tot.yes rfl (Tot.pure (none_of ?_).symm)
    unfold Me
    rw [es]
    cases decide (1<n4) with
    |true=>rfl
    |false=>simp only [cond_false,Option.bind_some,g5,Option.bind_none]
   |some y=>
    obtain ⟨t,q⟩:=y
    refine Tot.no rfl (Tot.dite (fun h=>Tot.pure (none_of ?_).symm) (fun h=>?_))
    ·unfold Me
     rw [es,decide_eq_true (by omega)]
     rfl
    ·rw [decide_eq_false (by omega),cond_false] at es
     have hq:=Gta hb g5
     simp only
     rw [w64 (n:=(q:Int)+4) (by omega) (by omega)]
     have ef:Me b=bif H3 (((n1:Int),(n2:Int),(n3:Int)),(n4:Int)==1,bytesOf t)&&decide (K5 (((n1:Int),(n2:Int),(n3:Int)),(n4:Int)==1,bytesOf t)=b) then some (((n1:Int),(n2:Int),(n3:Int)),(n4:Int)==1,bytesOf t) else none:=by
      unfold Me
      simp only [es,g5,Option.bind_some]
     refine Tot.ite (fun h4=>Tot.pure (none_of ?_).symm) (fun h4=>?_)
     ·rw [ef]
      cases hc:(H3 (((n1:Int),(n2:Int),(n3:Int)),(n4:Int)==1,bytesOf t)&&decide (K5 (((n1:Int),(n2:Int),(n3:Int)),(n4:Int)==1,bytesOf t)=b)) with
      |false=>rfl
      |true=>
       exfalso
       rw [Bool.and_eq_true,decide_eq_true_iff] at hc
       have a1:=(Sxa hb es).1
       rw [hq.1] at a1
       have a2:=hc.2
       unfold K5 at a2
       rw [hc.1,cond_true] at a2
       unfold Nh at a2
       simp only at a2
       rw [S9,List.append_assoc] at a2
       rw [← a2] at a1
       have a3:=List.append_cancel_left (List.append_cancel_left a1)
       have a4:=congrArg List.length a3
       rw [a2,List.length_drop] at a4
       simp only [c4,List.length_cons,List.length_nil] at a4
       have:(q:Int)+4=(b.length:Int):=by omega
       simp [this] at h4
     ·refine Tot.ble (by simp only [List.length_nil]; omega) ?_
      rw [List.nil_append]
      refine Tot.bind (Tot.of (Q:=fun r=>r=H3 (((n1:Int),(n2:Int),(n3:Int)),(n4:Int)==1,bytesOf t)) (Ue _) rfl) ?_
      rintro r rfl
      unfold R6
      rw [ef]
      cases hf:H3 (((n1:Int),(n2:Int),(n3:Int)),(n4:Int)==1,bytesOf t) with
      |false=>exact Tot.yes rfl (Tot.pure rfl)
      |true=>
       refine Tot.no rfl (Tot.bind (X8 _) ?_)
       rintro r rfl
       rw [Sa (Qc _) hb,Bool.true_and]
       cases decide (K5 (((n1:Int),(n2:Int),(n3:Int)),(n4:Int)==1,bytesOf t)=b) with
       |false=>exact Tot.yes rfl (Tot.pure rfl)
       |true=>exact Tot.no rfl (Tot.pure rfl)
 ·obtain ⟨r1,r2,r3⟩:=r
  simp only at hr
  subst hr
  refine Tot.bind (T6 b hb hl _) ?_
  rintro r rfl
  refine Tot.bind (Bza b hb hl _) ?_
  rintro r rfl
  refine Tot.yes rfl (Tot.pure (none_of ?_).symm)
  unfold Me
  rw [P2a (p:=0) (h.resolve_right (by omega))]
  rfl
end Go.Proofs.YtflokceoeiplcaaGreat.Vf
end

section
set_option linter.unusedVariables false
set_option linter.unusedSimpArgs false
namespace Go.Proofs.YtflokceoeiplcaaGreat.Vf
open Go
def gt (l:List Nmd) (s:ByteArray):Option (List Int):=match fnd l s with
 |some i=>some (l.getD i Ec).2
 |none=>none
theorem H3a (y:Nmd) (l:List Nmd) (s:ByteArray):gt (y::l) s=if y.1=s then some y.2 else gt l s:=by
 unfold gt
 rw [Jia]
 by_cases h:y.1=s
 ·rw [if_pos (Ic.2 h),if_pos h]; rfl
 ·rw [if_neg (fun c=>h (Ic.1 c)),if_neg h]
  cases fnd l s<;>rfl
theorem Nb {l:List Nmd} {s:ByteArray} {b:List Int} (h:gt l s=some b):(s,b)∈l:=by
 induction l with
 |nil=>cases h
 |cons y l ih=>
  rw [H3a] at h
  by_cases e:y.1=s
  ·rw [if_pos e] at h
   cases h
   subst e
   exact List.mem_cons_self
  ·rw [if_neg e] at h
   exact List.mem_cons_of_mem _ (ih h)
theorem Lz {l:List Nmd} {s:ByteArray}:gt l s=none↔∀ x∈l,x.1≠s:=by
 rw [← Sta]
 unfold gt
 cases fnd l s with
 |none=>simp
 |some i=>simp
theorem H4a {l:List Nmd} (hs:Fb l) {x:Nmd} (hx:x∈l):gt l x.1=some x.2:=by
 cases h:gt l x.1 with
 |none=>exact absurd rfl (Lz.1 h x hx)
 |some b=>rw [show x=(x.1,b) from Wza hs hx (Nb h) rfl]
theorem Eba {l:List Nmd} (hs:Fb l) {s:ByteArray} {b:List Int}:gt l s=some b↔(s,b)∈l:=⟨Nb,fun h=>H4a hs h⟩
theorem Eca {l:List Nmd} {s:ByteArray}:(gt l s).isSome=(fnd l s).isSome:=by
 unfold gt
 cases fnd l s<;>rfl
theorem Sc {l:List Nmd} (hs:Fb l) {s t:ByteArray}:gt (cut l s) t=if s=t then none else gt l t:=by
 by_cases h:s=t
 ·subst h
  rw [if_pos rfl,Lz]
  exact X5
 ·rw [if_neg h]
  cases hg:gt l t with
  |none=>exact Lz.2 fun x hx=>Lz.1 hg x (My.subset hx)
  |some b=>
   rw [Eba (Ly hs)]
   refine List.mem_filter.2 ⟨Nb hg,?_⟩
   cases ht:teq t s with
   |false=>simp [ht]
   |true=>exact absurd (Ic.1 ht).symm h
theorem Uwa {l:List Nmd} (hs:Fb l) {x:Nmd} (hn:∀ y∈l,y.1≠x.1) {t:ByteArray}:gt (ins l x) t=if x.1=t then some x.2 else gt l t:=by
 have hi:=Qb hs hn
 by_cases h:x.1=t
 ·subst h
  rw [if_pos rfl,Eba hi]
  exact T9.2 (.inl rfl)
 ·rw [if_neg h]
  cases hg:gt l t with
  |none=>
   refine Lz.2 fun y hy=>?_
   rcases T9.1 hy with rfl|hy
   ·exact h
   ·exact Lz.1 hg y hy
  |some b=>
   rw [Eba hi]
   exact T9.2 (.inr (Nb hg))
theorem Uxa:∀ {l m:List Nmd},Fb l→Fb m→(∀ s,gt l s=gt m s)→l=m:=by
 have key:∀ {l m:List Nmd},Fb l→Fb m→(∀ s,gt l s=gt m s)→∀ x∈l,x∈m:=fun hl hm h x hx=>by
  have:=h x.1
  rw [H4a hl hx] at this
  exact Nb this.symm
 intro l m hl hm h
 have h1:∀ x,x∈l↔x∈m:=fun x=>⟨key hl hm h x,key hm hl (fun s=>(h s).symm) x⟩
 clear h key
 induction l generalizing m with
 |nil=>
  cases m with
  |nil=>rfl
  |cons y m=>exact absurd ((h1 y).2 (by simp)) (by simp)
 |cons x l ih=>
  cases m with
  |nil=>exact absurd ((h1 x).1 (by simp)) (by simp)
  |cons y m=>
   obtain ⟨a1,a2⟩:=List.pairwise_cons.1 hl
   obtain ⟨b1,b2⟩:=List.pairwise_cons.1 hm
   have e:x=y:=by
    rcases List.mem_cons.1 ((h1 x).1 (by simp)) with h|h
    ·exact h
    ·rcases List.mem_cons.1 ((h1 y).2 (by simp)) with h'|h'
     ·exact h'.symm
     ·have c1:=a1 y h'
      rw [Wt (b1 x h)] at c1
      cases c1
   subst e
   congr 1
   refine ih a2 b2 fun z=>⟨fun hz=>?_,fun hz=>?_⟩
   ·rcases List.mem_cons.1 ((h1 z).1 (List.mem_cons_of_mem _ hz)) with rfl|h
    ·have c:=a1 z hz
     rw [Jo] at c
     cases c
    ·exact h
   ·rcases List.mem_cons.1 ((h1 z).2 (List.mem_cons_of_mem _ hz)) with rfl|h
    ·have c:=b1 z hz
     rw [Jo] at c
     cases c
    ·exact h
theorem Zea (l:List Nmd) (s:ByteArray):rdN l s=match gt l s with|some b=>(b,true)|none=>([],false):=by
 unfold rdN gt
 cases fnd l s<;>rfl
theorem Jx {s:ByteArray} (h:Ce s=true):Ky s:=by
 have:=(X2 h).2
 unfold Ky
 omega
theorem De {d:Dsk}:B9 d=true↔Hw d.1=true∧Hw d.2=true:=by
 unfold B9
 rw [Bool.and_eq_true]
theorem Lq {d:Dsk} (h:B9 d=true):Fb d.1:=(Ae.1 (De.1 h).1).1
theorem Oq {d:Dsk} (h:B9 d=true):Fb d.2:=(Ae.1 (De.1 h).2).1
def LB (l:List Nmd):Prop:=∀ x∈l,An x.2
def DB (d:Dsk):Prop:=LB d.1∧LB d.2
theorem LB.cut {l:List Nmd} (h:LB l) (s:ByteArray):LB (cut l s):=fun x hx=>h x (My.subset hx)
theorem LB.ins {l:List Nmd} (h:LB l) {x:Nmd} (hx:An x.2):LB (ins l x):=fun y hy=>by
 rcases T9.1 hy with rfl|hy
 ·exact hx
 ·exact h y hy
theorem LB.gt {l:List Nmd} (h:LB l) {s:ByteArray} {b:List Int} (hg:gt l s=some b):An b:=h _ (Nb hg)
theorem Nz:An []:=fun x hx=>by cases hx
def wr (l:List Nmd) (s:ByteArray) (b:List Int):List Nmd:=ins (cut l s) (s,b)
def sy (d:Dsk) (s:ByteArray):List Nmd:=match gt d.1 s with
 |some b=>wr d.2 s b
 |none=>cut d.2 s
def wrD (d:Dsk) (s:ByteArray) (b:List Int):Dsk×Bool:=bif decide (b.length≤400)&&decide ((wr d.1 s b).length≤60) then ((wr d.1 s b,d.2),true) else (d,false)
def syD (d:Dsk) (s:ByteArray):Dsk×Bool:=bif decide ((sy d s).length≤60) then ((d.1,sy d s),true) else (d,false)
def rmD (d:Dsk) (s:ByteArray):Dsk×Bool:=bif (gt d.1 s).isSome then ((cut d.1 s,d.2),true) else (d,false)
section
variable {d:Dsk} {s:ByteArray} {b:List Int}
theorem Uya (hd:B9 d=true):wrI d s b=wr d.1 s b:=by
 unfold wrI wr
 rw [T7 (Lq hd)]
theorem Uza (hd:B9 d=true):syI d s=sy d s:=by
 unfold syI sy gt wr
 rw [T7 (Oq hd)]
 cases fnd d.1 s<;>rfl
theorem Lga (hd:B9 d=true) (hs:Ce s=true) (hb:b.length≤1000000000000):Tot (fun k=>D5 k d s b) (fun r=>r=wrD d s b):=by
 refine (P9a d s b (Pn hd) (Jx hs) hb).mono ?_
 rintro r rfl
 obtain ⟨h1,h2⟩:=Jja (b:=b) hd hs
 rw [hd,hs,h1,h2,Uya hd]
 rfl
theorem Xa (hd:B9 d=true) (hs:Ce s=true):Tot (fun k=>B0 k d s) (fun r=>r=syD d s):=by
 refine (Sva d s (Pn hd) (Jx hs)).mono ?_
 rintro r rfl
 rw [hd,hs,Wya hd,Paa hd hs,Uza hd]
 rfl
theorem X2a (hd:B9 d=true) (hs:Ce s=true) (hb:b.length≤400) (hl:(wr d.1 s b).length≤60):B9 (wr d.1 s b,d.2)=true:=by
 have:=(Jja (b:=b) hd hs).2
 rw [Uya hd,decide_eq_true hb,decide_eq_true hl] at this
 exact this
theorem Axb (hd:B9 d=true) (hs:Ce s=true) (hl:(sy d s).length≤60):B9 (d.1,sy d s)=true:=by
 have:=Paa hd hs
 rw [Uza hd,decide_eq_true hl] at this
 exact this
theorem V0a (hd:B9 d=true) (hs:Ce s=true):B9 (wrD d s b).1=true:=by
 unfold wrD
 cases hc:decide (b.length≤400)&&decide ((wr d.1 s b).length≤60) with
 |false=>exact hd
 |true=>
  rw [Bool.and_eq_true,decide_eq_true_iff,decide_eq_true_iff] at hc
  exact X2a hd hs hc.1 hc.2
theorem Zfa (hd:B9 d=true) (hs:Ce s=true):B9 (syD d s).1=true:=by
 unfold syD
 cases hc:decide ((sy d s).length≤60) with
 |false=>exact hd
 |true=>exact Axb hd hs (of_decide_eq_true hc)
theorem V1a (hd:B9 d=true):B9 (rmD d s).1=true:=by
 unfold rmD
 cases (gt d.1 s).isSome with
 |false=>exact hd
 |true=>exact De.2 ⟨Tm (De.1 hd).1,(De.1 hd).2⟩
theorem X3a (hd:B9 d=true) (h:(gt d.1 s).isSome=true):Ce s=true:=by
 cases hg:gt d.1 s with
 |none=>rw [hg] at h; cases h
 |some b=>exact (Om.1 ((Ae.1 (De.1 hd).1).2.1 _ (Nb hg))).1
theorem Xb (hd:B9 d=true) (hs:Ky s):Tot (fun k=>Bo k d s) (fun r=>r=rmD d s):=by
 refine (Lea d s (Pn hd).1 hs).mono ?_
 rintro r rfl
 unfold rmD
 rw [hd,← Eca]
 cases h:(gt d.1 s).isSome with
 |false=>rfl
 |true=>
  have h1:B9 (cut d.1 s,d.2)=true:=by
   have:=V1a (s:=s) hd
   unfold rmD at this
   rw [h] at this
   exact this
  rw [X3a hd h,h1]
  rfl
end
def lkD (d:Dsk) (s:ByteArray):Fil×Int:=match gt d.1 s with
 |none=>(Zda,1)
 |some b=>match Me b with
  |some f=>(f,0)
  |none=>(Zda,2)
theorem Zga {l:List Nmd} {s:ByteArray} {b:List Int} (h:Gva l) (hg:gt l s=some b):b.length≤1000000000000:=h.2 _ (Nb hg)
theorem Ug {d:Dsk} (hf:Gva d.1) (hb:LB d.1) (s:ByteArray):Tot (fun k=>Gx k d s) (fun r=>r=lkD d s):=by
 unfold Gx lkD
 refine Tot.bind (Jha d s hf) ?_
 rintro r rfl
 rw [Zea]
 cases hg:gt d.1 s with
 |none=>exact Tot.yes rfl (Tot.pure rfl)
 |some b=>
  refine Tot.no rfl (Tot.bind (Oo b (hb.gt hg) (Zga hf hg)) ?_)
  rintro r rfl
  unfold R6
  dsimp only
  cases Me b with
  |none=>exact Tot.yes rfl (Tot.pure rfl)
  |some f=>exact Tot.no rfl (Tot.pure rfl)
theorem Xc {d:Dsk} {s:ByteArray} {f:Fil}:lkD d s=(f,0)↔∃ b,gt d.1 s=some b∧Me b=some f:=by
 unfold lkD
 cases gt d.1 s with
 |none=>simp
 |some b=>cases h:Me b<;>simp [h]
def old (d:Dsk) (s:ByteArray):Option Fil:=(gt d.1 s).bind Me
def kp1 (d:Dsk) (s:ByteArray) (f:Fil):Option (Dsk×Int):=
 let w:=bif (wrD d s (K5 f)).2 then some ((wrD d s (K5 f)).1,(0:Int)) else none
 match old d s with
 |some o=>bif sle o.1 f.1 then w else some (d,1)
 |none=>w
def kp2 (d:Dsk) (s:ByteArray) (sure:Bool) (x:Dsk×Int):Dsk×Int:=bif sure then (bif (syD x.1 s).2 then ((syD x.1 s).1,x.2) else (d,3)) else x
def M0 (d:Dsk) (s:ByteArray) (f:Fil) (sure:Bool):Dsk×Int:=match kp1 d s f with
 |some x=>kp2 d s sure x
 |none=>(d,3)
def keep (d:Dsk) (s:ByteArray) (f:Fil) (sure:Bool):Dsk×Int:=bif B9 d&&(Ce s&&H3 f) then M0 d s f sure else (d,2)
theorem Zha {d:Dsk} {s:ByteArray} {f:Fil} (hd:B9 d=true) (hs:Ce s=true) {x:Dsk×Int} (h:kp1 d s f=some x):B9 x.1=true:=by
 have hw:∀ x,(bif (wrD d s (K5 f)).2 then some ((wrD d s (K5 f)).1,(0:Int)) else none)=some x→B9 x.1=true:=by
  intro x h
  cases hc:(wrD d s (K5 f)).2 with
  |false=>rw [hc] at h; cases h
  |true=>rw [hc] at h; cases h; exact V0a hd hs
 unfold kp1 at h
 simp only at h
 split at h
 ·rename_i o _
  cases hc:sle o.1 f.1 with
  |false=>rw [hc] at h; cases h; exact hd
  |true=>rw [hc] at h; exact hw _ h
 ·exact hw _ h
theorem Zia {d:Dsk} {s:ByteArray} (hd:B9 d=true) (hs:Ce s=true) {x:Dsk} {c:Int} (hx:B9 x=true):
  Tot (fun k=>(B0 k x s).bind fun r=>cond (!r.2) ((A6 k d).bind fun q=>some (q,3)) (some (r.1,c))) (fun r=>r=kp2 d s true (x,c)):=by
 unfold kp2
 refine Tot.bind (Xa hx hs) ?_
 rintro r rfl
 cases h:(syD x s).2 with
 |true=>exact Tot.no rfl (Tot.pure rfl)
 |false=>
  refine Tot.yes rfl (Tot.bind (K8 d (Pn hd).1.1) ?_)
  rintro q rfl
  exact Tot.pure rfl
theorem Jpa (d:Dsk) (s:ByteArray) (f:Fil) (sure:Bool) (hd:DIn d) (hb:LB d.1) (hs:Ky s):Tot (fun k=>Ja k d s f sure) (fun r=>r=keep d s f sure):=by
 have bad:Tot (fun k=>(A6 k d).bind fun r2=>some (r2,(2:Int))) (fun r=>r=(d,2)):=by
  refine Tot.bind (K8 d hd.1.1) ?_
  rintro q rfl
  exact Tot.pure rfl
 unfold Ja keep
 refine Tot.bind (Ol d hd.1.1 hd.1.2) ?_
 rintro r rfl
 cases h1:B9 d with
 |false=>exact Tot.yes rfl bad
 |true=>
  refine Tot.no rfl (Tot.bind (Oi s hs) ?_)
  rintro r rfl
  cases h2:Ce s with
  |false=>exact Tot.yes rfl bad
  |true=>
   refine Tot.no rfl (Tot.bind (Tot.of (Q:=fun b=>b=H3 f) (Ue f) rfl) ?_)
   rintro r rfl
   cases h3:H3 f with
   |false=>exact Tot.yes rfl bad
   |true=>
    refine Tot.no rfl (Tot.bind (Ug hd.1.1.1 hb s) ?_)
    rintro r rfl
    have hlen:=Joa f
    have w:(kp1 d s f=bif (wrD d s (K5 f)).2 then some ((wrD d s (K5 f)).1,(0:Int)) else none)→Tot (fun k=>(Dx k f).bind fun r12=>(D5 k d s r12).bind fun r13=>cond r13.2 (cond sure ((B0 k r13.1 s).bind fun r14=>cond (!r14.2) ((A6 k d).bind fun r15=>some (r15,(3:Int))) (some (r14.1,0))) (cond (!r13.2) ((A6 k d).bind fun r16=>some (r16,3)) (some (r13.1,0)))) (cond (!r13.2) ((A6 k d).bind fun r17=>some (r17,3)) (some (r13.1,0)))) (fun r=>r=M0 d s f sure):=by
     intro e
     refine Tot.bind (X8 f) ?_
     rintro r rfl
     refine Tot.bind (Lga h1 h2 (by omega)) ?_
     rintro r rfl
     unfold M0
     rw [e]
     cases h4:(wrD d s (K5 f)).2 with
     |false=>
      refine Tot.no rfl (Tot.yes rfl (Tot.bind (K8 d hd.1.1) ?_))
      rintro q rfl
      exact Tot.pure rfl
     |true=>
      refine Tot.yes rfl ?_
      cases sure with
      |true=>exact Tot.yes rfl (Zia h1 h2 (V0a h1 h2))
      |false=>exact Tot.no rfl (Tot.no rfl (Tot.pure rfl))
    have eo:old d s=(gt d.1 s).bind Me:=rfl
    unfold lkD
    cases hg:gt d.1 s with
    |none=>
     rw [hg] at eo
     refine Tot.no rfl (w ?_)
     unfold kp1
     rw [eo]
     rfl
    |some b=>
     rw [hg] at eo
     have eo:old d s=Me b:=eo
     simp only
     cases ho:Me b with
     |none=>
      refine Tot.no rfl (w ?_)
      unfold kp1
      rw [eo,ho]
     |some o=>
      rw [ho] at eo
      refine Tot.yes rfl (Tot.bind (Tot.of (Q:=fun b=>b=sle o.1 f.1) (Eaa f o) rfl) ?_)
      rintro r rfl
      cases hl:sle o.1 f.1 with
      |true=>
       refine Tot.no rfl (w ?_)
       unfold kp1
       simp only [eo,hl,cond_true]
      |false=>
       have e1:M0 d s f sure=kp2 d s sure (d,1):=by
        unfold M0 kp1
        simp only [eo,hl,cond_false]
       refine Tot.yes rfl ?_
       show Tot _ (fun r=>r=M0 d s f sure)
       rw [e1]
       refine Tot.bind (K8 d hd.1.1) ?_
       rintro q rfl
       cases sure with
       |true=>exact Tot.yes rfl (Zia h1 h2 h1)
       |false=>exact Tot.no rfl (Tot.pure rfl)
end Go.Proofs.YtflokceoeiplcaaGreat.Vf
end

section
set_option linter.unusedVariables false
set_option linter.unusedSimpArgs false
namespace Go.Proofs.YtflokceoeiplcaaGreat.Vf
open Go
def DG (d:Dsk):Prop:=B9 d=true∧DB d
theorem V2a {d:Dsk} {s:ByteArray} {b:List Int} (hd:B9 d=true) (h:gt d.1 s=some b):b.length≤400:=(Om.1 ((Ae.1 (De.1 hd).1).2.1 _ (Nb h))).2
theorem Zja {d:Dsk} {s:ByteArray} {b:List Int} (h:DB d) (hb:An b):DB (wrD d s b).1:=by
 unfold wrD
 cases decide (b.length≤400)&&decide ((wr d.1 s b).length≤60) with
 |false=>exact h
 |true=>exact ⟨(h.1.cut s).ins hb,h.2⟩
theorem Ayb {d:Dsk} {s:ByteArray} (h:DB d):LB (sy d s):=by
 unfold sy
 cases hg:gt d.1 s with
 |none=>exact h.2.cut s
 |some b=>exact (h.2.cut s).ins (h.1.gt hg)
theorem Zka {d:Dsk} {s:ByteArray} (h:DB d):DB (syD d s).1:=by
 unfold syD
 cases decide ((sy d s).length≤60) with
 |false=>exact h
 |true=>exact ⟨h.1,Ayb h⟩
theorem Zla {d:Dsk} {s:ByteArray} (h:DB d):DB (rmD d s).1:=by
 unfold rmD
 cases (gt d.1 s).isSome with
 |false=>exact h
 |true=>exact ⟨h.1.cut s,h.2⟩
theorem Zma {d:Dsk} {s:ByteArray} (h:DG d) (hs:Ce s=true):DG (syD d s).1:=⟨Zfa h.1 hs,Zka h.2⟩
theorem X4a {d:Dsk} {s:ByteArray} (h:DG d):DG (rmD d s).1:=⟨V1a h.1,Zla h.2⟩
theorem Zna {d:Dsk} {s:ByteArray} {f:Fil} (hd:DG d) (hs:Ce s=true) {x:Dsk×Int} (h:kp1 d s f=some x):DG x.1:=by
 refine ⟨Zha hd.1 hs h,?_⟩
 have hw:∀ x,(bif (wrD d s (K5 f)).2 then some ((wrD d s (K5 f)).1,(0:Int)) else none)=some x→DB x.1:=by
  intro x h
  cases hc:(wrD d s (K5 f)).2 with
  |false=>rw [hc] at h; cases h
  |true=>rw [hc] at h; cases h; exact Zja hd.2 (Qc f)
 unfold kp1 at h
 simp only at h
 split at h
 ·rename_i o _
  cases hc:sle o.1 f.1 with
  |false=>rw [hc] at h; cases h; exact hd.2
  |true=>rw [hc] at h; exact hw _ h
 ·exact hw _ h
theorem Azb {d:Dsk} {s:ByteArray} {sure:Bool} (hd:DG d) (hs:Ce s=true) {x:Dsk×Int} (hx:DG x.1):DG (kp2 d s sure x).1:=by
 unfold kp2
 cases sure with
 |false=>exact hx
 |true=>
  rw [cond_true]
  cases (syD x.1 s).2 with
  |false=>exact hd
  |true=>exact Zma hx hs
theorem Pfa {d:Dsk} {s:ByteArray} {f:Fil} {sure:Bool} (hd:DG d) (hs:Ce s=true):DG (M0 d s f sure).1:=by
 unfold M0
 cases h:kp1 d s f with
 |none=>exact hd
 |some x=>exact Azb hd hs (Zna hd hs h)
theorem V3a {d:Dsk} {s:ByteArray} {f:Fil} {sure:Bool} (hd:DG d):DG (keep d s f sure).1:=by
 unfold keep
 cases h:Ce s with
 |false=>rw [hd.1]; exact hd
 |true=>
  cases H3 f with
  |false=>rw [hd.1]; exact hd
  |true=>rw [hd.1]; exact Pfa hd h
def Y9 (b:Int) (j:Nat):Int:=((BitVec.ofInt 8 b ^^^ BitVec.twoPow 8 j).toNat:Int)
theorem Jqa (b:Int) (j:Nat):0≤Y9 b j∧Y9 b j≤255:=by
 unfold Y9
 have:=(BitVec.ofInt 8 b ^^^ BitVec.twoPow 8 j).isLt
 omega
theorem X5a (b:Int):∀ j,j<8→IntKind.wrap .u8 ((BitVec.ofInt (IntKind.bits .u8) b ^^^ BitVec.ofInt (IntKind.bits .u8) (IntKind.wrap .u8 ((1:Int) * 2 ^ (min j (IntKind.bits .u8))))).toNat)=Y9 b j:=by
 intro j hj
 have h1:∀ j,j<8→BitVec.ofInt 8 (IntKind.wrap .u8 ((1:Int) * 2 ^ (min j 8)))=BitVec.twoPow 8 j:=by decide
 show IntKind.wrap .u8 (((BitVec.ofInt 8 b ^^^ BitVec.ofInt 8 (IntKind.wrap .u8 ((1:Int) * 2 ^ (min j 8)))).toNat:Nat):Int)=_
 rw [h1 j hj]
 have:=(BitVec.ofInt 8 b ^^^ BitVec.twoPow 8 j).isLt
 rw [E2a _ (by omega)]
 rfl
theorem T0a {b:Int} (hb:0≤b∧b≤255) {j:Nat} (hj:j<8):Y9 b j≠b:=by
 intro h
 unfold Y9 at h
 have h1:b=((BitVec.ofInt 8 b).toNat:Int):=by rw [BitVec.toNat_ofInt]; omega
 have h2:(BitVec.ofInt 8 b ^^^ BitVec.twoPow 8 j).toNat=(BitVec.ofInt 8 b).toNat:=by omega
 have h3:=BitVec.eq_of_toNat_eq h2
 have h4:BitVec.twoPow 8 j=0#8:=by
  have:=congrArg (fun x=>BitVec.ofInt 8 b ^^^ x) h3
  simpa [← BitVec.xor_assoc] using this
 have h5:∀ j,j<8→BitVec.twoPow 8 j≠0#8:=by decide
 exact h5 j hj h4
def M1 (l:List Int) (n:Nat):List Int:=l.set (n / 8) (Y9 (l.getD (n / 8) 0) (n % 8))
theorem Eda (l:List Int) (n:Nat):(M1 l n).length=l.length:=by unfold M1; rw [List.length_set]
theorem H5a {l:List Int} (h:An l) (n:Nat):An (M1 l n):=fun x hx=>by
 rcases List.mem_or_eq_of_mem_set hx with h'|rfl
 ·exact h x h'
 ·exact Jqa _ _
def Jra (d:Dsk) (s:ByteArray) (n:Int):Dsk×Bool:=match gt d.1 s with
 |none=>(d,false)
 |some b=>bif inR n 0 (8 * (b.length:Int) - 1) then ((wr d.1 s (M1 b n.toNat),bif decide (gt d.2 s=some b) then wr d.2 s (M1 b n.toNat) else d.2),true) else (d,false)
theorem Pga {l:List Nmd} (hs:Fb l) {s:ByteArray} {i:Nat} (h:fnd l s=some i) (b:List Int):l.set i (s,b)=wr l s b:=by
 obtain ⟨hi,hn⟩:=Pm h
 have hm:(l.set i (s,b)).map Prod.fst=l.map Prod.fst:=by
  rw [List.map_set]
  apply List.ext_getElem?
  intro j
  by_cases hj:i=j
  ·subst hj
   rw [List.getElem?_set_self (by rw [List.length_map]; exact hi),List.getElem?_map,List.getElem?_eq_getElem hi]
   rw [List.getD_eq_getElem?_getD,List.getElem?_eq_getElem hi] at hn
   exact congrArg some hn.symm
  ·rw [List.getElem?_set_ne hj]
 have h1:Fb (l.set i (s,b)):=by
  have e:∀ m:List Nmd,Fb m↔(m.map Prod.fst).Pairwise (fun a b=>tlt a b=true):=fun m=>by
   unfold Fb
   rw [List.pairwise_map]
  rw [e,hm,← e]
  exact hs
 refine Uxa h1 (Qb (Ly hs) X5) fun t=>?_
 have h2:=Uwa (x:=(s,b)) (t:=t) (Ly hs (s:=s)) X5
 unfold wr
 rw [h2]
 by_cases ht:s=t
 ·subst ht
  rw [if_pos rfl,Eba h1]
  exact List.mem_set hi _
 ·rw [if_neg ht,Sc hs,if_neg ht]
  cases hg:gt l t with
  |none=>
   refine Lz.2 fun x hx=>?_
   rcases List.mem_or_eq_of_mem_set hx with h'|rfl
   ·exact Lz.1 hg x h'
   ·exact ht
  |some c=>
   rw [Eba h1]
   obtain ⟨j,hj,e⟩:=List.mem_iff_getElem.1 (Nb hg)
   have hij:i≠j:=by
    rintro rfl
    rw [List.getD_eq_getElem?_getD,List.getElem?_eq_getElem hi,Option.getD_some,e] at hn
    exact ht hn.symm
   refine List.mem_iff_getElem.2 ⟨j,by rw [List.length_set]; exact hj,?_⟩
   rw [List.getElem_set_ne hij]
   exact e
theorem Eea {l:List Nmd} {s:ByteArray} {b:List Int} (hs:Fb l) (h:(gt l s).isSome=true):(wr l s b).length=l.length:=by
 rw [Eca] at h
 obtain ⟨i,hi⟩:=Option.isSome_iff_exists.1 h
 rw [← Pga hs hi,List.length_set]
theorem Zoa {d:Dsk} {s:ByteArray} {n:Int} (h:DG d):DG (Jra d s n).1:=by
 unfold Jra
 cases hg:gt d.1 s with
 |none=>exact h
 |some b=>
  simp only
  cases inR n 0 (8 * (b.length:Int) - 1) with
  |false=>exact h
  |true=>
   have hn:=X3a h.1 (s:=s) (by rw [hg]; rfl)
   have hb:=V2a h.1 hg
   have hbb:=H5a (h.2.1.gt hg) n.toNat
   have l1:=Eea (b:=M1 b n.toNat) (Lq h.1) (s:=s) (by rw [hg]; rfl)
   have q1:=X2a h.1 hn (b:=M1 b n.toNat) (by rw [Eda]; exact hb) (by rw [l1]; exact (Ae.1 (De.1 h.1).1).2.2)
   rw [cond_true]
   cases hc:decide (gt d.2 s=some b) with
   |false=>exact ⟨q1,(h.2.1.cut s).ins hbb,h.2.2⟩
   |true=>
    have hg2:=of_decide_eq_true hc
    have l2:=Eea (b:=M1 b n.toNat) (Oq h.1) (s:=s) (by rw [hg2]; rfl)
    have h':B9 (d.2,d.1)=true:=De.2 ⟨(De.1 h.1).2,(De.1 h.1).1⟩
    have q2:=X2a h' hn (b:=M1 b n.toNat) (by rw [Eda]; exact hb) (by show (wr d.2 s _).length≤60; rw [l2]; exact (Ae.1 (De.1 h.1).2).2.2)
    exact ⟨De.2 ⟨(De.1 q1).1,(De.1 q2).1⟩,(h.2.1.cut s).ins hbb,(h.2.2.cut s).ins hbb⟩
theorem X6a {d:Dsk} {s:ByteArray} {n:Int} (h:DG d) (hn:n≤9223372036854775807) (hn0 : -9223372036854775808≤n):Tot (fun k=>Iw k d s n) (fun r=>r=Jra d s n):=by
 have hin:=Pn h.1
 unfold Iw
 refine Tot.bind (K8 d hin.1.1) ?_
 rintro d rfl
 refine Tot.bind (X4 d.1 s hin.1.1.1.1) ?_
 rintro r rfl
 refine Tot.bind (Ol d hin.1.1 hin.1.2) ?_
 rintro r rfl
 rw [h.1]
 refine Tot.no rfl ?_
 unfold Jra
 unfold Fca
 cases hf:fnd d.1 s with
 |none=>
  have hg:gt d.1 s=none:=by unfold gt; rw [hf]
  rw [hg]
  exact Tot.dec (by decide) (Tot.pure rfl)
 |some i=>
  have hg:gt d.1 s=some (d.1.getD i Ec).2:=by unfold gt; rw [hf]
  have hi:=(Pm hf).1
  have hnm:=(Pm hf).2
  have hb:=V2a h.1 hg
  rw [hg]
  have e0:d.1.getD i ((⟨#[]⟩:ByteArray),([]:List Int))=d.1.getD i Ec:=rfl
  simp only [Int.toNat_natCast,e0]
  refine Tot.ndec (by omega) (Tot.dec (by omega) (Tot.dec (by omega) ?_))
  rw [w64 (n:=8 * ((d.1.getD i Ec).2.length:Int)) (by omega) (by omega),w64 (n:=8 * ((d.1.getD i Ec).2.length:Int) - 1) (by omega) (by omega)]
  refine Tot.bind (Tot.of (Q:=fun b=>b=inR n 0 (8 * ((d.1.getD i Ec).2.length:Int) - 1)) (Mi _ _ _) rfl) ?_
  rintro r rfl
  cases hr:inR n 0 (8 * ((d.1.getD i Ec).2.length:Int) - 1) with
  |false=>exact Tot.yes rfl (Tot.pure rfl)
  |true=>
   obtain ⟨n0,n1⟩:=Gv.1 hr
   obtain ⟨m,rfl⟩:∃ m:Nat,n=(m:Int):=⟨n.toNat,by omega⟩
   have hm8:m / 8<(d.1.getD i Ec).2.length:=by omega
   have et:IntKind.wrap .i64 (Int.tdiv (m:Int) 8)=((m / 8:Nat):Int):=by
    rw [Int.tdiv_eq_ediv_of_nonneg (by omega),w64 (by omega) (by omega)]
    omega
   have eu:IntKind.wrap .u64 (Int.tmod (m:Int) 8)=((m % 8:Nat):Int):=by
    have h8:∀ j:Nat,j<8→IntKind.wrap .u64 (j:Int)=(j:Int):=by decide
    rw [Int.tmod_eq_emod_of_nonneg (by omega),← h8 (m % 8) (by omega)]
    congr 1
   refine Tot.no rfl (Tot.bind (X4 d.2 s hin.1.1.2.1) ?_)
   rintro r rfl
   simp only [et,eu,Int.toNat_natCast,X5a _ _ (Nat.mod_lt m (show 0<8 by omega))]
   have ew:d.1.set i ((d.1.getD i Ec).1,M1 (d.1.getD i Ec).2 m)=wr d.1 s (M1 (d.1.getD i Ec).2 m):=by rw [hnm]; exact Pga (Lq h.1) hf _
   have ew':d.1.set i ((d.1.getD i Ec).1,(d.1.getD i Ec).2.set (m / 8) (Y9 ((d.1.getD i Ec).2.getD (m / 8) 0) (m % 8)))=wr d.1 s (M1 (d.1.getD i Ec).2 m):=ew
   unfold Fca
   cases hf2:fnd d.2 s with
   |none=>
    have hg2:gt d.2 s=none:=by unfold gt; rw [hf2]
    rw [hg2]
    refine Tot.ndec (by decide) (Tot.dec (by omega) (Tot.dec (by omega) (Tot.dec (by omega) (Tot.dec (by omega) (Tot.ndec (by omega) (Tot.dec (by omega) (Tot.dec (by omega) (Tot.pure ?_))))))))
    rw [ew']
    rfl
   |some j=>
    have hg2:gt d.2 s=some (d.2.getD j Ec).2:=by unfold gt; rw [hf2]
    have hj:=(Pm hf2).1
    have hjn:=(Pm hf2).2
    have e1:d.2.getD j ((⟨#[]⟩:ByteArray),([]:List Int))=d.2.getD j Ec:=rfl
    rw [hg2]
    simp only [Int.toNat_natCast,e1]
    refine Tot.dec (by omega) (Tot.dec (by omega) (Tot.dec (by omega) (Tot.dec (by omega) (Tot.dec (by omega) (Tot.dec (by omega) (Tot.dec (by omega) (Tot.dec (by omega) (Tot.dec (by omega) (Tot.ndec (by omega) (Tot.dec (by omega) (Tot.dec (by omega) ?_)))))))))))
    rw [Sa (h.2.2.gt hg2) (h.2.1.gt hg)]
    refine Tot.dite (fun he=>?_) (fun he=>?_)
    ·have hl2:(d.2.getD j Ec).2.length=(d.1.getD i Ec).2.length:=by rw [he]
     refine Tot.dec (by omega) (Tot.dec (by omega) (Tot.dec (by omega) (Tot.dec (by omega) (Tot.ndec (by omega) (Tot.dec (by omega) (Tot.dec (by omega) (Tot.pure ?_)))))))
     have ew2:d.2.set j ((d.2.getD j Ec).1,(d.2.getD j Ec).2.set (m / 8) (Y9 ((d.2.getD j Ec).2.getD (m / 8) 0) (m % 8)))=wr d.2 s (M1 (d.1.getD i Ec).2 m):=by
      rw [hjn,he]
      exact Pga (Oq h.1) hf2 _
     rw [ew',ew2,he,decide_eq_true rfl]
     rfl
    ·refine Tot.pure ?_
     rw [ew',decide_eq_false (fun c=>he (Option.some.inj c))]
     rfl
theorem lb0:LB []:=fun x hx=>by cases hx
theorem dg0:DG ([],[]):=⟨by decide,⟨lb0,lb0⟩⟩
end Go.Proofs.YtflokceoeiplcaaGreat.Vf
end

section
set_option linter.unusedVariables false
set_option linter.unusedSimpArgs false
namespace Go.Proofs.YtflokceoeiplcaaGreat.Vf
open Go
section
variable {d:Dsk} {s:ByteArray} {f:Fil} {sure:Bool}
theorem T1a (a:Stp):sle a a=false:=Qa a
theorem Efa (h1:B9 d=true) (h2:Ce s=true) (h3:H3 f=true):keep d s f sure=M0 d s f sure:=by unfold keep; rw [h1,h2,h3]; rfl
theorem Ega {x:Dsk} {c:Int}:(kp2 d s sure (x,c)=(d,3))∨(sure=false∧kp2 d s sure (x,c)=(x,c))∨(sure=true∧(sy x s).length≤60∧kp2 d s sure (x,c)=((x.1,sy x s),c)):=by
 unfold kp2 syD
 cases sure with
 |false=>exact .inr (.inl ⟨rfl,rfl⟩)
 |true=>
  rw [cond_true]
  by_cases h:(sy x s).length≤60
  ·rw [decide_eq_true h]
   exact .inr (.inr ⟨rfl,h,rfl⟩)
  ·rw [decide_eq_false h]
   exact .inl rfl
theorem Pha (hd:DG d) (hs:Ce s=true):kp1 d s f=none∨(∃ o,old d s=some o∧sle o.1 f.1=false∧kp1 d s f=some (d,1))∨((∀ o,old d s=some o→sle o.1 f.1=true)∧(wr d.1 s (K5 f)).length≤60∧kp1 d s f=some ((wr d.1 s (K5 f),d.2),0)):=by
 have hl:(K5 f).length≤400:=by have:=Joa f; omega
 have w:(bif (wrD d s (K5 f)).2 then some ((wrD d s (K5 f)).1,(0:Int)) else none)=none∨((wr d.1 s (K5 f)).length≤60∧(bif (wrD d s (K5 f)).2 then some ((wrD d s (K5 f)).1,(0:Int)) else none)=some ((wr d.1 s (K5 f),d.2),0)):=by
  unfold wrD
  rw [decide_eq_true hl,Bool.true_and]
  by_cases h:(wr d.1 s (K5 f)).length≤60
  ·rw [decide_eq_true h]; exact .inr ⟨h,rfl⟩
  ·rw [decide_eq_false h]; exact .inl rfl
 unfold kp1
 cases ho:old d s with
 |none=>
  rcases w with h|⟨h1,h2⟩
  ·exact .inl h
  ·exact .inr (.inr ⟨fun o h=>(by cases h),h1,h2⟩)
 |some o=>
  simp only
  cases hc:sle o.1 f.1 with
  |false=>exact .inr (.inl ⟨o,rfl,hc,rfl⟩)
  |true=>
   rcases w with h|⟨h1,h2⟩
   ·exact .inl h
   ·exact .inr (.inr ⟨fun o' h=>(by cases h; exact hc),h1,h2⟩)
theorem Aoa (hd:DG d) (hs:Ce s=true):M0 d s f sure=(d,3)∨
  (∃ o,old d s=some o∧sle o.1 f.1=false∧(M0 d s f sure).2=1∧DG (M0 d s f sure).1∧((sure=false∧(M0 d s f sure).1=d)∨(sure=true∧(M0 d s f sure).1=(d.1,sy d s))))∨
  ((∀ o,old d s=some o→sle o.1 f.1=true)∧DG (wr d.1 s (K5 f),d.2)∧(M0 d s f sure).2=0∧DG (M0 d s f sure).1∧((sure=false∧(M0 d s f sure).1=(wr d.1 s (K5 f),d.2))∨(sure=true∧(M0 d s f sure).1=(wr d.1 s (K5 f),sy (wr d.1 s (K5 f),d.2) s)))):=by
 have hg:=Pfa (f:=f) (sure:=sure) hd hs
 rcases Pha (f:=f) hd hs with h|⟨o,h1,h2,h⟩|⟨h1,h2,h⟩
 ·exact .inl (by unfold M0; rw [h])
 ·have e:M0 d s f sure=kp2 d s sure (d,1):=by unfold M0; rw [h]
  rcases Ega (d:=d) (s:=s) (sure:=sure) (x:=d) (c:=1) with k|⟨k0,k⟩|⟨k0,k1,k⟩
  ·exact .inl (e.trans k)
  ·rw [← e] at k
   exact .inr (.inl ⟨o,h1,h2,by rw [k],hg,.inl ⟨k0,by rw [k]⟩⟩)
  ·rw [← e] at k
   exact .inr (.inl ⟨o,h1,h2,by rw [k],hg,.inr ⟨k0,by rw [k]⟩⟩)
 ·have e:M0 d s f sure=kp2 d s sure ((wr d.1 s (K5 f),d.2),0):=by unfold M0; rw [h]
  have hw:=Zna hd hs h
  rcases Ega (d:=d) (s:=s) (sure:=sure) (x:=(wr d.1 s (K5 f),d.2)) (c:=0) with k|⟨k0,k⟩|⟨k0,k1,k⟩
  ·exact .inl (e.trans k)
  ·rw [← e] at k
   exact .inr (.inr ⟨h1,hw,by rw [k],hg,.inl ⟨k0,by rw [k]⟩⟩)
  ·rw [← e] at k
   exact .inr (.inr ⟨h1,hw,by rw [k],hg,.inr ⟨k0,by rw [k]⟩⟩)
theorem H6a {l:List Nmd} (hs:Fb l) {s t:ByteArray} {b:List Int}:gt (wr l s b) t=if s=t then some b else gt l t:=by
 unfold wr
 rw [Uwa (x:=(s,b)) (Ly hs) X5]
 by_cases h:s=t
 ·rw [if_pos h,if_pos h]
 ·rw [if_neg h,if_neg h,Sc hs,if_neg h]
theorem H7a (hd:B9 d=true) {t:ByteArray}:gt (sy d s) t=if s=t then gt d.1 s else gt d.2 t:=by
 unfold sy
 cases h:gt d.1 s with
 |none=>rw [Sc (Oq hd)]
 |some b=>rw [H6a (Oq hd)]
theorem Pia (hd:DG d) (hs:Ce s=true) (hf:H3 f=true) (hb:An f.2.2) (h:(M0 d s f true).2=0∨(M0 d s f true).2=1):
  ∃ o g b,DG o∧DG (M0 d s f true).1∧(M0 d s f true).1=(o.1,sy o s)∧gt o.1 s=some b∧Me b=some g∧sle g.1 f.1=false:=by
 rcases Aoa (f:=f) (sure:=true) hd hs with k|⟨o,h1,h2,k,hg,h3⟩|⟨h1,h2,k,hg,h3⟩
 ·rw [k] at h; rcases h with h|h<;>cases h
 ·rcases h3 with ⟨h3,_⟩|⟨_,h3⟩
  ·cases h3
  ·have ho:(gt d.1 s).bind Me=some o:=h1
   cases hg1:gt d.1 s with
   |none=>rw [hg1] at ho; cases ho
   |some b=>
    rw [hg1] at ho
    exact ⟨d,o,b,hd,hg,h3,hg1,ho,h2⟩
 ·rcases h3 with ⟨h3,_⟩|⟨_,h3⟩
  ·cases h3
  ·exact ⟨(wr d.1 s (K5 f),d.2),f,K5 f,h2,hg,h3,by show gt (wr d.1 s (K5 f)) s=_; rw [H6a (Lq hd.1),if_pos rfl],Uf hf hb,T1a _⟩
end
end Go.Proofs.YtflokceoeiplcaaGreat.Vf
end

section
set_option linter.unusedVariables false
set_option linter.unusedSimpArgs false
namespace Go.Proofs.YtflokceoeiplcaaGreat.Vf
open Go
abbrev Nod:=Int×Dsk×List Row×List Row
def qOk (l:List Row):Bool:=l.all Lx
def Nc (n:Nod):Bool:=qOk n.2.2.2&&(inR n.1 0 20&&(B9 n.2.1&&(Kk n.2.2.1&&decide ((n.2.2.2.length:Int)≤60))))
def RF (l:List Row):Prop:=l.length≤1000∧S7 l
def NIn (n:Nod):Prop:=(DIn n.2.1∧DB n.2.1)∧RF n.2.2.1∧RF n.2.2.2
def NG (n:Nod):Prop:=Nc n=true∧DB n.2.1
theorem Fc {n:Nod}:Nc n=true↔(∀ r∈n.2.2.2,Lx r=true)∧(0≤n.1∧n.1≤20)∧B9 n.2.1=true∧Kk n.2.2.1=true∧n.2.2.2.length≤60:=by
 unfold Nc qOk
 simp only [Bool.and_eq_true,List.all_eq_true,Gv,decide_eq_true_iff]
 constructor
 ·rintro ⟨h1,h2,h3,h4,h5⟩; exact ⟨h1,h2,h3,h4,by omega⟩
 ·rintro ⟨h1,h2,h3,h4,h5⟩; exact ⟨h1,h2,h3,h4,by omega⟩
theorem Pja {l:List Row} (h:Kk l=true):RF l:=by
 obtain ⟨_,h2,h3⟩:=Mq.1 h
 exact ⟨by omega,fun r hr=>Jx (Aka (h2 r hr))⟩
theorem Lha {n:Nod} (h:NG n):NIn n:=by
 obtain ⟨h1,_,h3,h4,h5⟩:=Fc.1 h.1
 exact ⟨⟨Pn h3,h.2⟩,Pja h4,by omega,fun r hr=>Jx (Aka (h1 r hr))⟩
theorem NG.g {n:Nod} (h:NG n):DG n.2.1:=⟨(Fc.1 h.1).2.2.1,h.2⟩
theorem T2a (n:Nod) (hn:NIn n):Tot (fun k=>Fk k n) (fun r=>r=Nc n):=by
 obtain ⟨i,⟨a,b⟩,ro,q⟩:=n
 obtain ⟨⟨hd,_⟩,hr,hq⟩:=hn
 dsimp only at hd hr hq
 unfold Fk
 have hl:=hq.1
 refine Tot.bind (Q:=fun r=>r=bif qOk q then .inr (i,a,b,ro,q) else .inl false) ?_ ?_
 ·refine Tot.up (L:=fun k i' (_:Unit)=>Gd k q (q.length:Int) i' i a b ro q) (Q:=fun r=>r=bif qOk q then .inr (i,a,b,ro,q) else .inl false) q.length (fun j _=>(q.drop j).all Lx=q.all Lx) ?_ ?_ 0 () (Nat.zero_le _) (by rw [List.drop_zero])
  ·intro _ hj
   rw [List.drop_length] at hj
   simp only [Gd]
   exact Tot.ndec (by omega) (Tot.pure (by unfold qOk; rw [← hj]; rfl))
  ·intro j _ hj hi next
   simp only [Gd]
   rw [Am (d:=Ls) hj,List.all_cons] at hi
   refine Tot.dec (by omega) (Tot.dec (by omega) (Tot.dec (by omega) ?_))
   rw [Int.toNat_natCast,w64 (n:=(j:Int)+1) (by omega) (by omega)]
   refine Tot.bind (Owa (q.getD j Ls) (hq.2 _ (A3 hj))) ?_
   rintro r rfl
   cases hc:Lx (q.getD j Ls) with
   |false=>exact Tot.yes rfl (Tot.pure (by unfold qOk; rw [← hi,hc]; rfl))
   |true=>exact Tot.no rfl (next () (by rw [hc,Bool.true_and] at hi; exact hi))
 ·rintro r rfl
  unfold Nc
  dsimp only
  cases qOk q with
  |false=>exact Tot.pure rfl
  |true=>
   simp only [cond_true,Sum.elim_inr,Bool.true_and]
   refine Tot.bind (Tot.of (Q:=fun r=>r=inR i 0 20) (Wv _ _ _) rfl) ?_
   rintro r rfl
   cases inR i 0 20 with
   |false=>exact Tot.no rfl (Tot.pure rfl)
   |true=>
    refine Tot.yes rfl (Tot.bind (Ssa (a,b) hd.1.1 hd.1.2) ?_)
    rintro r rfl
    cases B9 (a,b) with
    |false=>exact Tot.no rfl (Tot.pure rfl)
    |true=>
     refine Tot.yes rfl (Tot.bind (Sma ro (by have:=hr.1; unfold Few; omega) hr.2) ?_)
     rintro r rfl
     cases Kk ro with
     |false=>exact Tot.no rfl (Tot.pure rfl)
     |true=>exact Tot.yes rfl (Tot.pure rfl)
theorem Jsa (n:Nod) (hn:NIn n):Tot (fun k=>Dc k n) (fun r=>r=Nc n):=by
 obtain ⟨i,⟨a,b⟩,ro,q⟩:=n
 obtain ⟨⟨hd,_⟩,hr,hq⟩:=hn
 dsimp only at hd hr hq
 unfold Dc
 have hl:=hq.1
 refine Tot.bind (Q:=fun r=>r=bif qOk q then .inr (i,a,b,ro,q) else .inl false) ?_ ?_
 ·refine Tot.up (L:=fun k i' (_:Unit)=>Fx k i' i a b ro q) (Q:=fun r=>r=bif qOk q then .inr (i,a,b,ro,q) else .inl false) q.length (fun j _=>(q.drop j).all Lx=q.all Lx) ?_ ?_ 0 () (Nat.zero_le _) (by rw [List.drop_zero])
  ·intro _ hj
   rw [List.drop_length] at hj
   simp only [Fx]
   exact Tot.ndec (by omega) (Tot.pure (by unfold qOk; rw [← hj]; rfl))
  ·intro j _ hj hi next
   simp only [Fx]
   rw [Am (d:=Ls) hj,List.all_cons] at hi
   refine Tot.dec (by omega) (Tot.dec (by omega) (Tot.dec (by omega) ?_))
   rw [Int.toNat_natCast,w64 (n:=(j:Int)+1) (by omega) (by omega)]
   refine Tot.bind (Oxa (q.getD j Ls) (hq.2 _ (A3 hj))) ?_
   rintro r rfl
   cases hc:Lx (q.getD j Ls) with
   |false=>exact Tot.yes rfl (Tot.pure (by unfold qOk; rw [← hi,hc]; rfl))
   |true=>exact Tot.no rfl (next () (by rw [hc,Bool.true_and] at hi; exact hi))
 ·rintro r rfl
  unfold Nc
  dsimp only
  cases qOk q with
  |false=>exact Tot.pure rfl
  |true=>
   simp only [cond_true,Sum.elim_inr,Bool.true_and]
   refine Tot.bind (Tot.of (Q:=fun r=>r=inR i 0 20) (Mi _ _ _) rfl) ?_
   rintro r rfl
   cases inR i 0 20 with
   |false=>exact Tot.no rfl (Tot.pure rfl)
   |true=>
    refine Tot.yes rfl (Tot.bind (Ol (a,b) hd.1.1 hd.1.2) ?_)
    rintro r rfl
    cases B9 (a,b) with
    |false=>exact Tot.no rfl (Tot.pure rfl)
    |true=>
     refine Tot.yes rfl (Tot.bind (Sna ro (by have:=hr.1; unfold Few; omega) hr.2) ?_)
     rintro r rfl
     cases Kk ro with
     |false=>exact Tot.no rfl (Tot.pure rfl)
     |true=>exact Tot.yes rfl (Tot.pure rfl)
theorem Eha (n:Nod) (hn:NIn n):Tot (fun k=>I5 k n) (fun r=>r=n):=by
 unfold I5
 have h1:=hn.2.1.1
 have h2:=hn.2.2.1
 refine Tot.bind (K8 n.2.1 hn.1.1.1.1) ?_
 rintro r rfl
 refine Tot.ble (by simp only [List.length_nil]; omega) (Tot.ble (by simp only [List.length_nil]; omega) (Tot.pure ?_))
 rw [List.nil_append,List.nil_append]
theorem Lia (a b:List Row) (hf:a.length+b.length≤10000000000):Tot (fun k=>C0 k a b) (fun r=>r=Bya a b):=by
 unfold C0
 refine Tot.ble (by simp only [List.length_nil]; omega) ?_
 rw [List.nil_append]
 refine Tot.bind (Q:=fun r=>r=Bya a b) ?_ (by rintro r rfl; exact Tot.pure rfl)
 refine Tot.up (L:=fun k i s=>Cv k b s i) (Q:=fun r=>r=Bya a b) b.length (fun i s=>Bya s (b.drop i)=Bya a b∧s.length≤a.length+i) ?_ ?_ 0 a (Nat.zero_le _) ⟨by rw [List.drop_zero],Nat.le_add_right _ _⟩
 ·rintro s ⟨hs,_⟩
  rw [List.drop_length] at hs
  simp only [Cv]
  exact Tot.ndec (by omega) (Tot.pure hs)
 ·rintro i s hi ⟨hs,hl⟩ next
  simp only [Cv]
  refine Tot.dec (by omega) (Tot.dec (by omega) (Tot.dec (by omega) ?_))
  rw [Int.toNat_natCast,w64 (n:=(i:Int)+1) (by omega) (by omega)]
  rw [Am (d:=Ls) hi] at hs
  refine Tot.bind (Ova s (b.getD i Ls) (by unfold Few; omega)) ?_
  rintro m rfl
  have:=Wqa s (b.getD i Ls)
  exact next _ ⟨hs,by omega⟩
theorem H8a {a b:List Row} (ha:Kk a=true) (hb:Kk b=true) (h:(Bya a b).length≤60):Kk (Bya a b)=true:=by
 obtain ⟨a1,a2,_⟩:=Mq.1 ha
 obtain ⟨b1,b2,_⟩:=Mq.1 hb
 exact Mq.2 ⟨Gra a1,fun r hr=>(J9a hr).elim (a2 r) (b2 r),h⟩
theorem Lja (n:Nod) (l:List Row) (h1:n.2.2.1.length≤1000) (h2:l.length≤1000):Tot (fun k=>Qj k n l) (fun r=>r=bif decide ((Bya n.2.2.1 l).length > 60) then (false,n) else (true,(n.1,n.2.1,Bya n.2.2.1 l,n.2.2.2))):=by
 unfold Qj Gy
 refine Tot.bind (Lia n.2.2.1 l (by omega)) ?_
 rintro r rfl
 refine Tot.dite (fun h=>?_) (fun h=>?_)
 ·rw [decide_eq_true (show (Bya n.2.2.1 l).length > 60 by omega)]
  exact Tot.pure rfl
 ·rw [decide_eq_false (show ¬ (Bya n.2.2.1 l).length > 60 by omega)]
  exact Tot.pure rfl
def Ta (s:ByteArray) (f:Fil):Row:=(s,f.1,f.2.1,(f.2.2.length:Int))
def Xd (n:Nod) (s:ByteArray) (f:Fil) (sure:Bool):Nod×Int:=bif (n.2.2.2.length:Int)==60 then (n,3) else
 ((n.1,(keep n.2.1 s f sure).1,n.2.2.1,bif (keep n.2.1 s f sure).2==0&&sure then n.2.2.2++[Ta s f] else n.2.2.2),(keep n.2.1 s f sure).2)
theorem T3a {s:ByteArray} {f:Fil} (hs:Ce s=true) (hf:H3 f=true):Lx (Ta s f)=true:=by
 obtain ⟨h1,h2,h3⟩:=Kt.1 hf
 unfold Lx Ta
 dsimp only
 rw [hs,h1,Gv.2 ⟨by omega,by omega⟩]
 cases hd:f.2.1 with
 |false=>rfl
 |true=>rw [h3 hd]; rfl
theorem V4a {n:Nod} {s:ByteArray} {f:Fil} {sure:Bool} (hn:NG n) (hs:Ce s=true) (hf:H3 f=true):NG (Xd n s f sure).1:=by
 obtain ⟨h1,h2,h3,h4,h5⟩:=Fc.1 hn.1
 have hk:=V3a (s:=s) (f:=f) (sure:=sure) hn.g
 unfold Xd
 cases hl:((n.2.2.2.length:Int)==60) with
 |true=>exact hn
 |false=>
  have hl':n.2.2.2.length≠60:=by
   intro e
   rw [e] at hl
   cases hl
  refine ⟨Fc.2 ⟨?_,h2,hk.1,h4,?_⟩,hk.2⟩
  ·show ∀ r∈bif (keep n.2.1 s f sure).2==0&&sure then n.2.2.2++[Ta s f] else n.2.2.2,Lx r=true
   cases (keep n.2.1 s f sure).2==0&&sure with
   |false=>exact h1
   |true=>
    intro r hr
    rcases List.mem_append.1 hr with hr|hr
    ·exact h1 r hr
    ·rw [List.mem_singleton.1 hr]; exact T3a hs hf
  ·show (bif (keep n.2.1 s f sure).2==0&&sure then n.2.2.2++[Ta s f] else n.2.2.2).length≤60
   cases (keep n.2.1 s f sure).2==0&&sure with
   |false=>exact h5
   |true=>rw [cond_true,List.length_append]; simp only [List.length_cons,List.length_nil]; omega
theorem Pka (n:Nod) (s:ByteArray) (f:Fil) (sure:Bool) (hn:NIn n) (hs:Ky s):Tot (fun k=>Rk k n s f sure) (fun r=>r=((Xd n s f sure).2,(Xd n s f sure).1)):=by
 have h1:=hn.2.2.1
 unfold Rk Iu Xd
 cases (n.2.2.2.length:Int)==60 with
 |true=>exact Tot.yes rfl (Tot.pure rfl)
 |false=>
  refine Tot.no rfl (Tot.bind (Jpa n.2.1 s f sure hn.1.1 hn.1.2.1 hs) ?_)
  rintro r rfl
  cases (keep n.2.1 s f sure).2==0 with
  |false=>exact Tot.no rfl (Tot.pure rfl)
  |true=>
   refine Tot.yes rfl ?_
   cases sure with
   |false=>exact Tot.no rfl (Tot.pure rfl)
   |true=>
    refine Tot.yes rfl (Tot.ble (by simp only [List.length_nil]; omega) ?_)
    refine Tot.bind (Tot.of (Q:=fun r=>r=Ta s f) (show Id s f=some (Ta s f) from rfl) rfl) ?_
    rintro r rfl
    refine Tot.ble (by simp only [List.length_append,List.length_cons,List.length_nil]; omega) (Tot.pure ?_)
    rw [List.nil_append]
    rfl
def T4a (n:Nod) (s:ByteArray) (b:Int):Nod×Bool:=bif Nc n&&((lkD n.2.1 s).2==0&&(Jra n.2.1 s b).2) then ((n.1,(Jra n.2.1 s b).1,n.2.2),true) else (n,false)
theorem Zpa {n:Nod} {s:ByteArray} {b:Int} (hn:NG n):NG (T4a n s b).1:=by
 obtain ⟨h1,h2,h3,h4,h5⟩:=Fc.1 hn.1
 have hr:=Zoa (s:=s) (n:=b) hn.g
 unfold T4a
 cases Nc n&&((lkD n.2.1 s).2==0&&(Jra n.2.1 s b).2) with
 |false=>exact hn
 |true=>exact ⟨Fc.2 ⟨h1,h2,hr.1,h4,h5⟩,hr.2⟩
theorem H9a (n:Nod) (s:ByteArray) (b:Int) (hn:NIn n) (h1:b≤9223372036854775807) (h0 : -9223372036854775808≤b):Tot (fun k=>I6 k n s b) (fun r=>r=T4a n s b):=by
 unfold I6 T4a
 refine Tot.bind (Eha n hn) ?_
 rintro n rfl
 refine Tot.bind (Ug hn.1.1.1.1.1 hn.1.2.1 s) ?_
 rintro r rfl
 refine Tot.bind (Jsa n hn) ?_
 rintro r rfl
 cases h:Nc n with
 |false=>exact Tot.yes rfl (Tot.pure rfl)
 |true=>
  refine Tot.no rfl ?_
  cases hl:(lkD n.2.1 s).2==0 with
  |false=>exact Tot.yes (by unfold bne; rw [hl]; rfl) (Tot.pure rfl)
  |true=>
   refine Tot.no (by unfold bne; rw [hl]; rfl) (Tot.bind (X6a (NG.g ⟨h,hn.1.2⟩) h1 h0) ?_)
   rintro r rfl
   cases (Jra n.2.1 s b).2 with
   |false=>exact Tot.yes rfl (Tot.pure rfl)
   |true=>exact Tot.no rfl (Tot.pure rfl)
def Ch:Nod:=((0:Int),(([]:List Nmd),([]:List Nmd)),([]:List Row),([]:List Row))
theorem Haa (i:Int):Hy i=some (bif inR i 0 20 then (i,([],[]),[],[]) else Ch):=by
 unfold Hy
 rw [Mi]
 simp only [Option.bind_some]
 cases inR i 0 20<;>rfl
end Go.Proofs.YtflokceoeiplcaaGreat.Vf
end
