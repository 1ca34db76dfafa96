import Derived.Test.YtmhhjceoinoekaaGreatMal
set_option linter.unusedVariables false
set_option linter.unusedSimpArgs false
namespace Go.Proofs.YtmhhjceoinoekaaGreat.Vf
open Go

theorem Iza (l:List Int) (h:l.length≤1000000000000):(List.length ([]:List Int)+l.length) * 1≤140737488355328:=by
 simp only [List.length_nil]
 omega
theorem Afa (l:List Nmd) (hf:Eia l):∀ (n i:Nat) (acc:List Nmd),l.length - i=n→i≤l.length→acc.length≤i→
  Tot (λ k=>C3 k l acc (i:Int)) (λ r=>r=acc++l.drop i):=by
 obtain ⟨h1,h2⟩:=hf
 intro n
 induction n with
 |zero=>
  intro i acc hd hi ha
  refine Tot.succ ?_
  simp only [C3]
  refine Tot.ndec (by omega) (Tot.pure ?_)
  rw [List.drop_of_length_le (by omega),List.append_nil]
 |succ n ih=>
  intro i acc hd hi ha
  have hlt:i<l.length:=by omega
  refine Tot.succ ?_
  simp only [C3]
  refine Tot.dec (by omega) (Tot.dec (by omega) (Tot.dec (by omega) (Tot.dec (by omega) (Tot.dec (by omega) ?_))))
  rw [show Int.toNat (i:Int)=i from Int.toNat_natCast i,w64 (n:=(i:Int)+1) (by omega) (by omega),Al (d:=Ed) hlt]
  have e0:l.getD i ((⟨#[]⟩:ByteArray),([]:List Int))=l.getD i Ed:=rfl
  rw [e0]
  have hb:=h2 _ (A3 (d:=Ed) hlt)
  refine Tot.ble (Iza _ hb) (Tot.ble (by simp only [List.length_cons,List.length_nil]; omega) ?_)
  refine (ih (i+1) (acc++[l.getD i Ed]) (by omega) (by omega) (by simp only [List.length_append,List.length_cons,List.length_nil]; omega)).mono ?_
  rintro r rfl
  rw [List.append_assoc]
  rfl
theorem Oy (l:List Nmd) (hf:Eia l):Tot (λ k=>Bc k l) (λ r=>r=l):=by
 unfold Bc
 refine Tot.bind (Afa l hf _ 0 [] rfl (Nat.zero_le _) (Nat.zero_le _)) ?_
 intro r hr
 rw [List.drop_zero,List.nil_append] at hr
 exact Tot.pure hr
theorem M1 (d:Dsk) (hf:Xsa d):Tot (λ k=>A5 k d) (λ r=>r=d):=by
 unfold A5
 refine Tot.bind (Oy d.1 hf.1) ?_
 rintro r rfl
 refine Tot.bind (Oy d.2 hf.2) ?_
 rintro r rfl
 exact Tot.pure rfl
theorem Rka (l:List Nmd) (s:ByteArray) (hf:l.length≤1000000000000):∀ (n i:Nat),l.length - i=n→i≤l.length→
  Tot (λ k=>Jc k l s (i:Int)) (λ r=>r=match fnd (l.drop i) s with|some j => .inl ((i+j:Nat):Int)|none => .inr ()):=by
 intro n
 induction n with
 |zero=>
  intro i hd hi
  refine Tot.succ ?_
  simp only [Jc]
  refine Tot.ndec (by omega) (Tot.pure ?_)
  rw [List.drop_of_length_le (by omega)]
  rfl
 |succ n ih=>
  intro i hd hi
  have hlt:i<l.length:=by omega
  refine Tot.succ ?_
  simp only [Jc]
  refine Tot.dec (by omega) (Tot.dec (by omega) (Tot.dec (by omega) ?_))
  rw [show Int.toNat (i:Int)=i from Int.toNat_natCast i,w64 (n:=(i:Int)+1) (by omega) (by omega),Al (d:=Ed) hlt]
  have e0:l.getD i ((⟨#[]⟩:ByteArray),([]:List Int))=l.getD i Ed:=rfl
  rw [e0]
  have e1:fnd (l.getD i Ed::l.drop (i+1)) s=if teq (l.getD i Ed).1 s then some 0 else (fnd (l.drop (i+1)) s).map (· + 1):=by
   unfold fnd
   rw [List.findIdx?_cons]
  rw [e1]
  refine Tot.ite (λ h=>?_) (λ h=>?_)
  ·have h':teq (l.getD i Ed).1 s=true:=h
   rw [if_pos h']
   exact Tot.pure rfl
  ·have h':¬ (teq (l.getD i Ed).1 s=true):=by
    have:teq (l.getD i Ed).1 s=false:=h
    rw [this]; simp
   rw [if_neg h']
   refine (ih (i+1) (by omega) (by omega)).mono ?_
   rintro r rfl
   cases fnd (l.drop (i+1)) s with
   |none=>rfl
   |some j=>
    show Sum.inl _=Sum.inl _
    rw [show i+1+j=i+(j+1) by omega]
theorem Cfa (l:List Nmd) (s:ByteArray) (hf:l.length≤1000000000000):Tot (λ k=>D0 k l s) (λ r=>r=Dua l s):=by
 unfold D0 Dua
 refine Tot.bind (Rka l s hf _ 0 rfl (Nat.zero_le _)) ?_
 rintro r rfl
 rw [List.drop_zero]
 cases fnd l s with
 |none=>exact Tot.pure rfl
 |some j=>
  refine Tot.pure ?_
  rw [Nat.zero_add]
def cut (l:List Nmd) (s:ByteArray):List Nmd:=l.filter (λ x => !(teq x.1 s))
theorem Nta (l:List Nmd) (s:ByteArray) (hf:l.length≤1000000000000):∀ (n i:Nat) (acc:List Nmd),l.length - i=n→i≤l.length→acc.length≤i→
  Tot (λ k=>Hv k l s acc (i:Int)) (λ r=>r=acc++cut (l.drop i) s):=by
 intro n
 induction n with
 |zero=>
  intro i acc hd hi ha
  refine Tot.succ ?_
  simp only [Hv]
  refine Tot.ndec (by omega) (Tot.pure ?_)
  rw [List.drop_of_length_le (by omega)]
  simp [cut]
 |succ n ih=>
  intro i acc hd hi ha
  have hlt:i<l.length:=by omega
  refine Tot.succ ?_
  simp only [Hv]
  refine Tot.dec (by omega) (Tot.dec (by omega) (Tot.dec (by omega) ?_))
  rw [show Int.toNat (i:Int)=i from Int.toNat_natCast i,w64 (n:=(i:Int)+1) (by omega) (by omega),Al (d:=Ed) hlt]
  have e0:l.getD i ((⟨#[]⟩:ByteArray),([]:List Int))=l.getD i Ed:=rfl
  rw [e0]
  have e1:cut (l.getD i Ed::l.drop (i+1)) s=if (!(teq (l.getD i Ed).1 s))=true then l.getD i Ed::cut (l.drop (i+1)) s else cut (l.drop (i+1)) s:=by
   unfold cut
   rw [List.filter_cons]
  rw [e1]
  refine Tot.ite (λ h=>?_) (λ h=>?_)
  ·have h':(!(teq (l.getD i Ed).1 s))=true:=h
   rw [if_pos h']
   refine Tot.dec (by omega) (Tot.dec (by omega) (Tot.ble (by simp only [List.length_cons,List.length_nil]; omega) ?_))
   refine (ih (i+1) (acc++[l.getD i Ed]) (by omega) (by omega) (by simp only [List.length_append,List.length_cons,List.length_nil]; omega)).mono ?_
   rintro r rfl
   rw [List.append_assoc]
   rfl
  ·have h':¬ ((!(teq (l.getD i Ed).1 s))=true):=by
    have:(!(teq (l.getD i Ed).1 s))=false:=h
    rw [this]; simp
   rw [if_neg h']
   exact ih (i+1) acc (by omega) (by omega) (by omega)
theorem Rla (l:List Nmd) (s:ByteArray) (hf:l.length≤1000000000000):Tot (λ k=>J0 k l s) (λ r=>r=cut l s):=by
 unfold J0
 refine Tot.bind (Nta l s hf _ 0 [] rfl (Nat.zero_le _) (Nat.zero_le _)) ?_
 intro r hr
 rw [List.drop_zero,List.nil_append] at hr
 exact Tot.pure hr
theorem Qa (d:Dsk) (hf:Xsa d) (hs:Cea d):Tot (λ k=>Be k d) (λ r=>r=B4 d):=by
 unfold Be B4
 refine Tot.bind (Gaa d.1 hf.1.1 hs.1) ?_
 rintro r rfl
 cases h:J6 d.1 with
 |false=>exact Tot.no rfl (Tot.pure rfl)
 |true=>
  refine Tot.yes rfl (Tot.bind (Gaa d.2 hf.2.1 hs.2) ?_)
  rintro r rfl
  exact Tot.pure (by rw [Bool.true_and])

def rdN (l:List Nmd) (s:ByteArray):List Int×Bool:=match fnd l s with
 |some i=>((l.getD i Ed).2,true)
 |none=>([],false)
theorem Lua (d:Dsk) (s:ByteArray) (hf:Eia d.1):Tot (λ k=>Fl k d s) (λ r=>r=rdN d.1 s):=by
 unfold Fl rdN
 refine Tot.bind (Lqa d.1 s hf.1) ?_
 rintro r rfl
 unfold Dua
 have hl1:=hf.1
 cases h:fnd d.1 s with
 |none=>exact Tot.dec (by decide) (Tot.pure rfl)
 |some i=>
  have hl:=(Oh h).1
  dsimp only
  refine Tot.ndec (by omega) (Tot.dec (by omega) (Tot.dec (by omega) ?_))
  rw [show Int.toNat (i:Int)=i from Int.toNat_natCast i]
  have hb:=hf.2 _ (A3 (d:=Ed) hl)
  refine Tot.bind (Tot.of (Q:=λ r=>r=(d.1.getD i Ed).2) (Mh _ hb) rfl) ?_
  rintro r rfl
  exact Tot.pure rfl
theorem Lva (d:Dsk) (s:ByteArray) (hf:Eia d.1):Tot (λ k=>Fj k d s) (λ r=>r=rdN d.1 s):=by
 unfold Fj rdN
 refine Tot.bind (Cfa d.1 s hf.1) ?_
 rintro r rfl
 unfold Dua
 have hl1:=hf.1
 cases h:fnd d.1 s with
 |none=>exact Tot.dec (by decide) (Tot.pure rfl)
 |some i=>
  have hl:=(Oh h).1
  dsimp only
  refine Tot.ndec (by omega) (Tot.dec (by omega) (Tot.dec (by omega) ?_))
  rw [show Int.toNat (i:Int)=i from Int.toNat_natCast i]
  have hb:=hf.2 _ (A3 (d:=Ed) hl)
  exact Tot.ble (Iza _ hb) (Tot.pure rfl)

def Gp (l:List Nmd):Prop:=l.Pairwise (λ a b=>tlt a.1 b.1=true)
theorem J0a:∀ (p:Option ByteArray) (l:List Nmd),chn p l=true↔Gp l∧(∀ r∈l,nOk r=true)∧(∀ q,p=some q→∀ r∈l,tlt q r.1=true)
 |p,[]=>by
  have:chn p []=true:=by cases p<;>rfl
  simp [this,Gp]
 |none,r::l=>by
  simp only [chn,Bool.and_eq_true,J0a (some r.1) l,Gp,List.pairwise_cons]
  constructor
  ·rintro ⟨h1,h2,h3,h4⟩
   exact ⟨⟨λ a ha=>h4 _ rfl a ha,h2⟩,λ a ha=>by rcases List.mem_cons.1 ha with rfl|ha; exact h1; exact h3 a ha,λ q hq=>by cases hq⟩
  ·rintro ⟨⟨h1,h2⟩,h3,_⟩
   exact ⟨h3 r (by simp),h2,λ a ha=>h3 a (List.mem_cons_of_mem _ ha),λ q hq a ha=>by cases hq; exact h1 a ha⟩
 |some q,r::l=>by
  simp only [chn,Bool.and_eq_true,J0a (some r.1) l,Gp,List.pairwise_cons]
  constructor
  ·rintro ⟨h1,h0,h2,h3,h4⟩
   refine ⟨⟨λ a ha=>h4 _ rfl a ha,h2⟩,λ a ha=>by rcases List.mem_cons.1 ha with rfl|ha; exact h1; exact h3 a ha,λ q' hq a ha=>?_⟩
   cases hq
   rcases List.mem_cons.1 ha with rfl|ha
   ·exact h0
   ·exact Mr h0 (h4 _ rfl a ha)
  ·rintro ⟨⟨h1,h2⟩,h3,h4⟩
   exact ⟨h3 r (by simp),h4 q rfl r (by simp),h2,λ a ha=>h3 a (List.mem_cons_of_mem _ ha),λ q' hq a ha=>by cases hq; exact h1 a ha⟩
theorem Ap {l:List Nmd}:J6 l=true↔Gp l∧(∀ r∈l,nOk r=true)∧l.length≤60:=by
 unfold J6
 simp only [Bool.and_eq_true,J0a,decide_eq_true_eq]
 constructor
 ·rintro ⟨⟨h1,h2,_⟩,h3⟩
  exact ⟨h1,h2,by omega⟩
 ·rintro ⟨h1,h2,h3⟩
  exact ⟨⟨h1,h2,λ q hq=>by cases hq⟩,by omega⟩
theorem Qb {x:Nmd}:nOk x=true↔Ar x.1=true∧x.2.length≤400:=by
 unfold nOk
 simp only [Bool.and_eq_true,Bool.not_eq_true',decide_eq_false_iff_not]
 constructor
 ·rintro ⟨h1,h2⟩; exact ⟨h1,by omega⟩
 ·rintro ⟨h1,h2⟩; exact ⟨h1,by omega⟩
theorem W6 {l:List Nmd} (h:J6 l=true):Eia l∧Pp l:=by
 obtain ⟨_,h2,h3⟩:=Ap.1 h
 refine ⟨⟨by omega,λ x hx=>by have:=(Qb.1 (h2 x hx)).2; omega⟩,λ x hx=>?_⟩
 have:=Aea (Qb.1 (h2 x hx)).1
 unfold Km
 omega
theorem Lwa (y:Nmd) (l:List Nmd) (s:ByteArray):fnd (y::l) s=if teq y.1 s then some 0 else (fnd l s).map (· + 1):=by
 unfold fnd
 rw [List.findIdx?_cons]
theorem Vha {l:List Nmd} {s:ByteArray}:fnd l s=none↔∀ x∈l,x.1≠s:=by
 unfold fnd
 rw [List.findIdx?_eq_none_iff]
 constructor
 ·intro h x hx e
  have:=h x hx
  rw [Jm.2 e] at this
  cases this
 ·intro h x hx
  cases ht:teq x.1 s with
  |false=>rfl
  |true=>exact absurd (Jm.1 ht) (h x hx)
theorem V3:∀ {l:List Nmd} {s:ByteArray},Gp l→del l s=cut l s
 |[],s,_=>rfl
 |y::l,s,h=>by
  have hc:=List.pairwise_cons.1 h
  have ih:=V3 (l:=l) (s:=s) hc.2
  unfold del cut at *
  rw [Lwa,List.filter_cons]
  cases ht:teq y.1 s with
  |true=>
   have hno:∀ x∈l,(!(teq x.1 s))=true:=λ x hx=>by
    cases hx2:teq x.1 s with
    |false=>rfl
    |true=>
     have e1:=Jm.1 ht
     have e2:=Jm.1 hx2
     have:=hc.1 x hx
     rw [e1,e2,Lj] at this
     cases this
   rw [if_pos rfl,if_neg (by simp)]
   show []++l=_
   rw [List.nil_append,List.filter_eq_self.2 hno]
  |false=>
   rw [if_neg (by simp),if_pos (show (!false)=true from rfl),← ih]
   cases hf:fnd l s with
   |none=>rfl
   |some i=>rfl
theorem Nh {l:List Nmd} {s:ByteArray} (h:Gp l):Gp (cut l s):=h.sublist List.filter_sublist
theorem Oi {l:List Nmd} {s:ByteArray}:(cut l s).Sublist l:=List.filter_sublist
theorem W7 {l:List Nmd} {s:ByteArray} (h:J6 l=true):J6 (cut l s)=true:=by
 obtain ⟨h1,h2,h3⟩:=Ap.1 h
 exact Ap.2 ⟨Nh h1,λ x hx=>h2 x (Oi.subset hx),by have:=(Oi (l:=l) (s:=s)).length_le; omega⟩
theorem Zxa {l:List Nmd} {s:ByteArray} {i:Nat} (h:fnd l s=some i):(del l s).length+1=l.length:=by
 have hl:=(Oh h).1
 unfold del
 rw [h]
 simp only [List.length_append,List.length_take,List.length_drop]
 omega
theorem Rma {l m:List Nmd} (h:m.Sublist l) (hf:Eia l):Eia m:=⟨by have:=h.length_le; have:=hf.1; omega,λ x hx=>hf.2 x (h.subset hx)⟩
theorem Gba {l m:List Nmd} (h:m.Sublist l) (hf:Pp l):Pp m:=λ x hx=>hf x (h.subset hx)

theorem Dva (d out:Dsk) (s:ByteArray) (hd:Xsa d∧Cea d) (ho:Xsa out∧Cea out) (hs:Km s):Tot (λ k=>Eh k d out s) (λ r=>r=bif B4 d&&(Ar s&&B4 out) then (out,true) else (d,false)):=by
 unfold Eh
 refine Tot.bind (Qa d hd.1 hd.2) ?_
 rintro b rfl
 cases h1:B4 d with
 |false=>
  refine Tot.yes rfl (Tot.bind (M1 d hd.1) ?_)
  rintro r rfl
  exact Tot.pure rfl
 |true=>
  refine Tot.no rfl (Tot.bind (Q8 s hs) ?_)
  rintro b rfl
  cases h2:Ar s with
  |false=>
   refine Tot.yes rfl (Tot.bind (M1 d hd.1) ?_)
   rintro r rfl
   exact Tot.pure rfl
  |true=>
   refine Tot.no rfl (Tot.bind (Qa out ho.1 ho.2) ?_)
   rintro b rfl
   cases h3:B4 out with
   |false=>
    refine Tot.yes rfl (Tot.bind (M1 d hd.1) ?_)
    rintro r rfl
    exact Tot.pure rfl
   |true=>exact Tot.no rfl (Tot.pure rfl)
theorem Nua (d:Dsk) (s:ByteArray) (hd:Xsa d∧Cea d) (hs:Km s):Tot (λ k=>C4 k d s) (λ r=>r=bif (fnd d.1 s).isSome&&(B4 d&&(Ar s&&B4 (cut d.1 s,d.2))) then ((cut d.1 s,d.2),true) else (d,false)):=by
 unfold C4
 refine Tot.bind (M1 d hd.1) ?_
 rintro r rfl
 refine Tot.bind (Cfa r.1 s hd.1.1.1) ?_
 rintro i rfl
 unfold Dua
 cases h:fnd r.1 s with
 |none=>exact Tot.dec (by decide) (Tot.pure rfl)
 |some i=>
  dsimp only
  refine Tot.ndec (by omega) (Tot.bind (Rla r.1 s hd.1.1.1) ?_)
  rintro c rfl
  refine Tot.bind (Dva r (cut r.1 s,r.2) s hd ⟨⟨Rma Oi hd.1.1,hd.1.2⟩,Gba Oi hd.2.1,hd.2.2⟩ hs) ?_
  rintro e rfl
  exact Tot.pure rfl

def ptl (x:Nmd):Bool→List Nmd→List Nmd
 |p,[]=>bif p then [] else [x]
 |p,y::l=>(bif !p && !(tlt y.1 x.1) then [x] else [])++((bif !(teq y.1 x.1) then [y] else [])++ptl x (p || !(tlt y.1 x.1)) l)
theorem J1a (l:List Nmd) (s:ByteArray) (b:List Int) (hf:l.length≤1000000000000):∀ (n i:Nat) (acc:List Nmd) (p:Bool),l.length - i=n→i≤l.length→acc.length≤2 * i→
  Tot (λ k=>C8 k l s acc p (i:Int) s b) (λ r=>r.1++(bif r.2.1 then [] else [(s,b)])=acc++ptl (s,b) p (l.drop i)∧r.2.2=(s,b)∧r.1.length≤2 * l.length):=by
 intro n
 induction n with
 |zero=>
  intro i acc p hd hi ha
  refine Tot.succ ?_
  simp only [C8]
  refine Tot.ndec (by omega) (Tot.pure ?_)
  rw [List.drop_of_length_le (by omega)]
  exact ⟨rfl,rfl,by dsimp only; omega⟩
 |succ n ih=>
  intro i acc p hd hi ha
  have hlt:i<l.length:=by omega
  refine Tot.succ ?_
  simp only [C8]
  refine Tot.dec (by omega) ?_
  rw [show Int.toNat (i:Int)=i from Int.toNat_natCast i,w64 (n:=(i:Int)+1) (by omega) (by omega),Al (d:=Ed) hlt]
  have e0:l.getD i ((⟨#[]⟩:ByteArray),([]:List Int))=l.getD i Ed:=rfl
  rw [e0]
  have Az:∀ (ac:List Nmd) (q:Bool),ac.length≤2 * i+1→Tot (λ k=>cond (decide ((0:Int)≤i)) (cond (decide ((i:Int)<(List.length l:Int))) (cond (!((l.getD i Ed).1.toList==s.toList)) (cond (decide ((0:Int)≤i)) (cond (decide ((i:Int)<(List.length l:Int))) (cond (Nat.ble ((List.length ac+List.length [l.getD i Ed]) * 40) 140737488355328) (C8 k l s (ac++[l.getD i Ed]) q ((i:Int)+1) s b) none) none) none) (C8 k l s ac q ((i:Int)+1) s b)) none) none)
    (λ r=>r.1++(bif r.2.1 then [] else [(s,b)])=ac++((bif !(teq (l.getD i Ed).1 s) then [l.getD i Ed] else [])++ptl (s,b) q (l.drop (i+1)))∧r.2.2=(s,b)∧r.1.length≤2 * l.length):=by
   intro ac q hac
   refine Tot.dec (by omega) (Tot.dec (by omega) (Tot.ite (λ h=>?_) (λ h=>?_)))
   ·have h':(!(teq (l.getD i Ed).1 s))=true:=h
    rw [h']
    refine Tot.dec (by omega) (Tot.dec (by omega) (Tot.ble (by simp only [List.length_cons,List.length_nil]; omega) ?_))
    refine (ih (i+1) (ac++[l.getD i Ed]) q (by omega) (by omega) (by simp only [List.length_append,List.length_cons,List.length_nil]; omega)).mono ?_
    rintro r ⟨h1,h2,h3⟩
    refine ⟨?_,h2,h3⟩
    rw [h1,List.append_assoc]
    rfl
   ·have h':(!(teq (l.getD i Ed).1 s))=false:=h
    rw [h']
    exact ih (i+1) ac q (by omega) (by omega) (by omega)
  cases p with
  |true=>
   refine Tot.no rfl ?_
   refine (Az acc true (by omega)).mono ?_
   rintro r ⟨h1,h2,h3⟩
   exact ⟨h1,h2,h3⟩
  |false=>
   refine Tot.yes rfl (Tot.dec (by omega) (Tot.dec (by omega) (Tot.ite (λ h=>?_) (λ h=>?_))))
   ·have h':(!(tlt (l.getD i Ed).1 s))=true:=h
    refine Tot.ble (by simp only [List.length_cons,List.length_nil]; omega) ?_
    refine (Az (acc++[(s,b)]) true (by simp only [List.length_append,List.length_cons,List.length_nil]; omega)).mono ?_
    rintro r ⟨h1,h2,h3⟩
    refine ⟨?_,h2,h3⟩
    rw [h1]
    simp only [ptl,h',Bool.not_false,Bool.and_self,Bool.false_or,cond_true,List.append_assoc]
   ·have h':(!(tlt (l.getD i Ed).1 s))=false:=h
    refine (Az acc false (by omega)).mono ?_
    rintro r ⟨h1,h2,h3⟩
    refine ⟨?_,h2,h3⟩
    rw [h1]
    simp only [ptl,h',Bool.not_false,Bool.and_false,Bool.false_or,cond_false,List.nil_append]
theorem Dwa (l:List Nmd) (s:ByteArray) (b:List Int) (hf:l.length≤1000000000000) (hb:b.length≤1000000000000):Tot (λ k=>Fq k l s b) (λ r=>r=ptl (s,b) false l):=by
 unfold Fq
 refine Tot.ble (Iza b hb) ?_
 rw [List.nil_append]
 refine Tot.bind (J1a l s b hf _ 0 [] false rfl (Nat.zero_le _) (Nat.zero_le _)) ?_
 rintro ⟨r,q,x,y⟩ ⟨h1,h2,h3⟩
 rw [List.drop_zero,List.nil_append] at h1
 dsimp only at h1 h2 h3
 dsimp only
 cases q with
 |true=>
  refine Tot.no rfl (Tot.pure ?_)
  rw [← h1]; simp
 |false=>
  refine Tot.yes rfl (Tot.ble (by simp only [List.length_cons,List.length_nil]; omega) (Tot.pure ?_))
  rw [← h1]
  obtain ⟨rfl,rfl⟩:=Prod.mk.inj h2
  rfl
theorem Rna (x:Nmd):∀ (p:Bool) (l:List Nmd),∀ y∈ptl x p l,y∈l∨y=x:=by
 intro p l
 induction l generalizing p with
 |nil=>intro y hy; cases p<;>simp_all [ptl]
 |cons a l ih=>
  intro y hy
  simp only [ptl,List.mem_append] at hy
  rcases hy with hy|hy|hy
  ·revert hy; cases (!p && !(tlt a.1 x.1))<;>simp_all
  ·revert hy; cases (!(teq a.1 x.1))<;>simp_all
  ·rcases ih _ y hy with h|h
   ·exact Or.inl (List.mem_cons_of_mem _ h)
   ·exact Or.inr h
theorem Zya (x:Nmd):∀ (p:Bool) (l:List Nmd),(ptl x p l).length≤l.length+(bif p then 0 else 1):=by
 intro p l
 induction l generalizing p with
 |nil=>cases p<;>simp [ptl]
 |cons a l ih=>
  simp only [ptl,List.length_append,List.length_cons]
  have:=ih (p || !(tlt a.1 x.1))
  revert this
  cases p<;>cases tlt a.1 x.1<;>cases teq a.1 x.1<;>simp<;>omega
theorem Via (x:Nmd):∀ (l:List Nmd),ptl x true l=cut l x.1:=by
 intro l
 induction l with
 |nil=>rfl
 |cons a l ih=>
  simp only [ptl,Bool.not_true,Bool.false_and,cond_false,List.nil_append,Bool.true_or,ih,cut,List.filter_cons]
  cases teq a.1 x.1<;>simp
theorem V4 (x:Nmd):∀ {l:List Nmd},Gp l→ptl x false l=ins (cut l x.1) x:=by
 intro l
 induction l with
 |nil=>intro _; rfl
 |cons a l ih=>
  intro h
  have hl:Gp l:=(List.pairwise_cons.1 h).2
  have ha:=(List.pairwise_cons.1 h).1
  simp only [ptl,Bool.not_false,Bool.true_and,Bool.false_or]
  cases ht:tlt a.1 x.1 with
  |true=>
   have he:teq a.1 x.1=false:=by
    cases hq:teq a.1 x.1 with
    |false=>rfl
    |true=>rw [(Jm.1 hq),Lj] at ht; cases ht
   simp only [he,Bool.not_true,Bool.not_false,cond_false,cond_true,List.nil_append,ih hl,cut,List.filter_cons,if_true]
   unfold ins plc
   rw [List.takeWhile_cons,if_pos ht]
   rfl
  |false=>
   have hc:plc (cut (a::l) x.1) x.1=0:=by
    unfold plc cut
    rw [List.length_eq_zero_iff]
    rw [List.filter_cons]
    cases hq:teq a.1 x.1 with
    |false=>rw [Bool.not_false,if_pos rfl,List.takeWhile_cons,if_neg (by rw [ht]; simp)]
    |true=>
     have hx:=(Jm.1 hq)
     simp only [Bool.not_true,Bool.false_eq_true,if_false]
     cases hf:l.filter (λ y => !(teq y.1 x.1)) with
     |nil=>rfl
     |cons b m=>
      have hb:b∈l:=by
       have:b∈l.filter (λ y => !(teq y.1 x.1)):=by rw [hf]; exact List.mem_cons_self
       exact (List.mem_filter.1 this).1
      have hab:=ha b hb
      rw [hx] at hab
      rw [List.takeWhile_cons,if_neg (by rw [A7a hab]; simp)]
   simp only [Bool.not_false,cond_true,Via]
   unfold ins
   rw [hc]
   simp only [List.take_zero,List.nil_append,List.drop_zero,cut,List.filter_cons]
   cases teq a.1 x.1<;>simp

theorem Roa {l:List Nmd} {x:Nmd} {p:Bool} (hl:Eia l) (hl':l.length≤999999999999) (hx:x.2.length≤1000000000000):Eia (ptl x p l):=by
 refine ⟨?_,λ y hy=>?_⟩
 ·have:=Zya x p l
  revert this
  cases p<;>simp<;>omega
 ·rcases Rna x p l y hy with h|rfl
  ·exact hl.2 y h
  ·exact hx
theorem Gca {l:List Nmd} {x:Nmd} {p:Bool} (hl:Pp l) (hx:Km x.1):Pp (ptl x p l):=by
 intro y hy
 rcases Rna x p l y hy with h|rfl
 ·exact hl y h
 ·exact hx
def DIn (d:Dsk):Prop:=(Xsa d∧Cea d)∧d.1.length≤2000000∧d.2.length≤2000000
theorem Pq {d:Dsk} (h:B4 d=true):DIn d:=by
 unfold B4 at h
 rw [Bool.and_eq_true] at h
 have h1:=W6 h.1
 have h2:=W6 h.2
 exact ⟨⟨⟨h1.1,h2.1⟩,h1.2,h2.2⟩,by have:=(Ap.1 h.1).2.2; omega,by have:=(Ap.1 h.2).2.2; omega⟩
theorem Rpa (d:Dsk) (s:ByteArray) (b:List Int) (hd:DIn d) (hs:Km s) (hb:b.length≤1000000000000):Tot (λ k=>E5 k d s b) (λ r=>r=bif B4 d&&(Ar s&&B4 (ptl (s,b) false d.1,d.2)) then ((ptl (s,b) false d.1,d.2),true) else (d,false)):=by
 unfold E5
 refine Tot.bind (M1 d hd.1.1) ?_
 rintro r rfl
 refine Tot.bind (Dwa r.1 s b hd.1.1.1.1 hb) ?_
 rintro c rfl
 refine Tot.bind (Dva r (ptl (s,b) false r.1,r.2) s hd.1 ⟨⟨Roa hd.1.1.1 (by have:=hd.2.1; omega) hb,hd.1.1.2⟩,Gca hd.1.2.1 hs,hd.1.2.2⟩ hs) ?_
 rintro e rfl
 exact Tot.pure rfl
def syS (d:Dsk) (s:ByteArray):List Nmd:=match fnd d.1 s with
 |some i=>ptl (s,(d.1.getD i Ed).2) false (cut d.2 s)
 |none=>cut d.2 s
theorem Cib {d:Dsk} {s:ByteArray} (hd:DIn d) (hs:Km s):Eia (syS d s)∧Pp (syS d s):=by
 unfold syS
 have h1:=Rma (Oi (l:=d.2) (s:=s)) hd.1.1.2
 have h2:=Gba (Oi (l:=d.2) (s:=s)) hd.1.2.2
 cases h:fnd d.1 s with
 |none=>exact ⟨h1,h2⟩
 |some i=>
  have hb:=hd.1.1.1.2 _ (A3 (d:=Ed) (Oh h).1)
  have hc:(cut d.2 s).length≤d.2.length:=(Oi (l:=d.2) (s:=s)).length_le
  exact ⟨Roa h1 (by have:=hd.2.2; omega) hb,Gca h2 hs⟩
theorem Vja (d:Dsk) (s:ByteArray) (hd:DIn d) (hs:Km s):Tot (λ k=>Bb k d s) (λ r=>r=bif B4 d&&(Ar s&&B4 (d.1,syS d s)) then ((d.1,syS d s),true) else (d,false)):=by
 unfold Bb
 have hin:=Cib hd hs
 refine Tot.bind (M1 d hd.1.1) ?_
 rintro r rfl
 refine Tot.bind (Lva r s hd.1.1.1) ?_
 rintro b rfl
 refine Tot.bind (Rla r.2 s hd.1.1.2.1) ?_
 rintro c rfl
 have e:∀ o,o=syS r s→Tot (λ k=>(Eh k r (r.1,o) s).bind λ r5=>some (r5.1,r5.2)) (λ q=>q=bif B4 r&&(Ar s&&B4 (r.1,syS r s)) then ((r.1,syS r s),true) else (r,false)):=by
  rintro o rfl
  refine Tot.bind (Dva r (r.1,syS r s) s hd.1 ⟨⟨hd.1.1.1,hin.1⟩,hd.1.2.1,hin.2⟩ hs) ?_
  rintro e rfl
  exact Tot.pure rfl
 have hc:(cut r.2 s).length≤r.2.length:=(Oi (l:=r.2) (s:=s)).length_le
 cases h:fnd r.1 s with
 |none=>
  have h':rdN r.1 s=([],false):=by unfold rdN; rw [h]
  rw [h']
  refine Tot.no rfl (e _ ?_)
  unfold syS; rw [h]
 |some i=>
  have h':rdN r.1 s=((r.1.getD i Ed).2,true):=by unfold rdN; rw [h]
  rw [h']
  have hb:=hd.1.1.1.2 _ (A3 (d:=Ed) (Oh h).1)
  refine Tot.yes rfl (Tot.bind (Dwa (cut r.2 s) s _ (by have:=hd.2.2; omega) hb) ?_)
  rintro o rfl
  refine e _ ?_
  unfold syS; rw [h]
def syI (d:Dsk) (s:ByteArray):List Nmd:=match fnd d.1 s with
 |some i=>ins (del d.2 s) (s,(d.1.getD i Ed).2)
 |none=>del d.2 s
theorem Cga (l:List Nmd) (s:ByteArray):(del l s).length≤l.length:=by
 cases h:fnd l s with
 |none=>unfold del; rw [h]; exact Nat.le_refl _
 |some i=>have:=Zxa h; omega
theorem A0b (l:List Nmd) (x:Nmd):(ins l x).length=l.length+1:=by
 unfold ins
 have:=Xta l x.1
 simp only [List.length_append,List.length_take,List.length_drop,List.length_cons,List.length_nil]
 omega
theorem Vka (d:Dsk) (s:ByteArray) (hd:DIn d) (hs:Km s):Tot (λ k=>De k d s) (λ r=>r=bif B4 d&&(Ar s&&decide ((syI d s).length≤60)) then ((d.1,syI d s),true) else (d,false)):=by
 unfold De
 refine Tot.bind (Kx d hd.1.1) ?_
 rintro r rfl
 refine Tot.bind (Xk r hd.1.1 hd.1.2) ?_
 rintro b rfl
 cases h1:B4 r with
 |false=>exact Tot.yes rfl (Tot.pure rfl)
 |true=>
  refine Tot.no rfl (Tot.bind (Np s hs) ?_)
  rintro b rfl
  cases h2:Ar s with
  |false=>exact Tot.yes rfl (Tot.pure rfl)
  |true=>
   refine Tot.no rfl (Tot.bind (Lra r.2 s hd.1.1.2.1) ?_)
   rintro c rfl
   refine Tot.bind (Lqa r.1 s hd.1.1.1.1) ?_
   rintro i rfl
   have hdl:=Cga r.2 s
   have hr2:=hd.2.2
   have hr1:=hd.2.1
   have e:∀ o,o=syI r s→o.length≤4000000→Tot (λ k=>cond (decide ((List.length o:Int) > 60)) ((Ae k r).bind λ r9=>some (r9,false)) (some ((r.1,o),true))) (λ q=>q=bif true&&(true&&decide ((syI r s).length≤60)) then ((r.1,syI r s),true) else (r,false)):=by
    rintro o rfl _
    refine Tot.dite (λ h=>?_) (λ h=>?_)
    ·refine Tot.bind (Kx r hd.1.1) ?_
     rintro q rfl
     refine Tot.pure ?_
     rw [decide_eq_false (by omega)]
     rfl
    ·refine Tot.pure ?_
     rw [decide_eq_true (by omega)]
     rfl
   unfold Dua
   cases h:fnd r.1 s with
   |none=>
    refine Tot.ndec (by decide) (e _ ?_ (by omega))
    unfold syI; rw [h]
   |some i=>
    have hl:=(Oh h).1
    dsimp only
    refine Tot.dec (by omega) (Tot.dec (by omega) (Tot.dec (by omega) ?_))
    rw [show Int.toNat (i:Int)=i from Int.toNat_natCast i]
    have hb:=hd.1.1.1.2 _ (A3 (d:=Ed) hl)
    refine Tot.bind (Tot.of (Q:=λ q=>q=(r.1.getD i Ed).2) (Mh _ hb) rfl) ?_
    rintro q rfl
    refine Tot.bind (Lta (del r.2 s) (s,(r.1.getD i Ed).2) (by omega)) ?_
    rintro o rfl
    refine e _ ?_ (by rw [A0b]; omega)
    unfold syI; rw [h]

section
open Go
end

section
open Go
end

theorem Sj (p:Nmd→Bool):∀ l:List Nmd,l.take (l.takeWhile p).length=l.takeWhile p∧l.drop (l.takeWhile p).length=l.dropWhile p
 |[]=>⟨rfl,rfl⟩
 |y::l=>by
  obtain ⟨h1,h2⟩:=Sj p l
  simp only [List.takeWhile_cons,List.dropWhile_cons]
  cases p y with
  |true=>simp [h1,h2]
  |false=>simp
theorem Gda {p:Nmd→Bool}:∀ {l:List Nmd} {y:Nmd},y∈l.takeWhile p→p y=true
 |[],y,h=>by simp at h
 |z::l,y,h=>by
  simp only [List.takeWhile_cons] at h
  cases hz:p z with
  |false=>rw [hz] at h; simp at h
  |true=>
   rw [hz] at h
   simp only [if_true] at h
   rcases List.mem_cons.1 h with rfl|h
   ·exact hz
   ·exact Gda h
theorem Xua (l:List Nmd) (x:Nmd):ins l x=l.takeWhile (λ y=>tlt y.1 x.1)++([x]++l.dropWhile (λ y=>tlt y.1 x.1)):=by
 unfold ins plc
 obtain ⟨h1,h2⟩:=Sj (λ y=>tlt y.1 x.1) l
 rw [h1,h2,List.append_assoc]
theorem Cha {x:Nmd}:∀ {l:List Nmd},Gp l→(∀ y∈l,y.1≠x.1)→∀ z∈l.dropWhile (λ y=>tlt y.1 x.1),tlt x.1 z.1=true
 |[],_,_,z,hz=>by simp at hz
 |y::l,hs,hn,z,hz=>by
  obtain ⟨h1,h2⟩:=List.pairwise_cons.1 hs
  simp only [List.dropWhile_cons] at hz
  cases hy:tlt y.1 x.1 with
  |true=>
   rw [hy] at hz
   simp only [if_true] at hz
   exact Cha h2 (λ w hw=>hn w (List.mem_cons_of_mem _ hw)) z hz
  |false=>
   rw [hy] at hz
   simp only [Bool.false_eq_true,if_false] at hz
   have hxy:tlt x.1 y.1=true:=by
    cases hh:tlt x.1 y.1 with
    |true=>rfl
    |false=>exact absurd (A6a hy hh) (hn y (by simp))
   rcases List.mem_cons.1 hz with rfl|hz
   ·exact hxy
   ·exact Mr hxy (h1 z hz)
theorem Rx {l:List Nmd} {x:Nmd} (hs:Gp l) (hn:∀ y∈l,y.1≠x.1):Gp (ins l x):=by
 rw [Xua]
 have hs':Gp (l.takeWhile (λ y=>tlt y.1 x.1)++l.dropWhile (λ y=>tlt y.1 x.1)):=by rw [List.takeWhile_append_dropWhile]; exact hs
 obtain ⟨h1,h2,h3⟩:=List.pairwise_append.1 hs'
 have h4:∀ y∈l.takeWhile (λ y=>tlt y.1 x.1),tlt y.1 x.1=true:=λ y hy=>Gda (p:=λ y=>tlt y.1 x.1) hy
 refine List.pairwise_append.2 ⟨h1,List.pairwise_cons.2 ⟨λ z hz=>Cha hs hn z hz,h2⟩,λ a ha b hb=>?_⟩
 rcases List.mem_cons.1 hb with rfl|hb
 ·exact h4 a ha
 ·exact h3 a ha b hb
theorem V5 {l:List Nmd} {x y:Nmd}:y∈ins l x↔y=x∨y∈l:=by
 rw [Xua]
 have e:=List.takeWhile_append_dropWhile (p:=λ y:Nmd=>tlt y.1 x.1) (l:=l)
 constructor
 ·intro h
  rcases List.mem_append.1 h with h|h
  ·right; rw [← e]; exact List.mem_append_left _ h
  ·rcases List.mem_cons.1 h with h|h
   ·exact .inl h
   ·right; rw [← e]; exact List.mem_append_right _ h
 ·rintro (rfl|h)
  ·exact List.mem_append_right _ (by simp)
  ·rw [← e] at h
   rcases List.mem_append.1 h with h|h
   ·exact List.mem_append_left _ h
   ·exact List.mem_append_right _ (List.mem_cons_of_mem _ h)
theorem Xva {l:List Nmd} {x:Nmd} (hl:J6 l=true) (hn:∀ y∈l,y.1≠x.1) (hx:nOk x=true):J6 (ins l x)=decide ((ins l x).length≤60):=by
 obtain ⟨h1,h2,h3⟩:=Ap.1 hl
 by_cases h:(ins l x).length≤60
 ·rw [decide_eq_true h]
  exact Ap.2 ⟨Rx h1 hn,λ y hy=>by rcases V5.1 hy with rfl|hy; exact hx; exact h2 y hy,h⟩
 ·rw [decide_eq_false h]
  cases hc:J6 (ins l x) with
  |false=>rfl
  |true=>exact absurd (Ap.1 hc).2.2 h
theorem Aga {l:List Nmd} {s:ByteArray}:∀ y∈cut l s,y.1≠s:=λ y hy e=>by
 have:=(List.mem_filter.1 hy).2
 simp [e,Jm.2 rfl] at this
theorem A1b {l:List Nmd} {s:ByteArray}:cut (cut l s) s=cut l s:=by
 unfold cut
 rw [List.filter_filter]
 congr 1
 funext x
 simp
theorem A2b {d:Dsk} {s:ByteArray} (hd:B4 d=true):syS d s=syI d s:=by
 unfold B4 at hd
 rw [Bool.and_eq_true] at hd
 have hs:=(Ap.1 hd.2).1
 unfold syS syI
 rw [V3 hs]
 cases fnd d.1 s with
 |none=>rfl
 |some i=>
  show ptl _ false (cut d.2 s)=ins (cut d.2 s) _
  rw [V4 _ (Nh hs)]
  show ins (cut (cut d.2 s) s) _=_
  rw [A1b]
theorem Rqa {d:Dsk} {s:ByteArray} (hd:B4 d=true) (hs:Ar s=true):B4 (d.1,syI d s)=decide ((syI d s).length≤60):=by
 have hd':=hd
 unfold B4 at hd'
 rw [Bool.and_eq_true] at hd'
 have h2:=Ap.1 hd'.2
 unfold B4
 rw [hd'.1,Bool.true_and]
 unfold syI
 rw [V3 h2.1]
 cases h:fnd d.1 s with
 |none=>show J6 (cut d.2 s)=decide ((cut d.2 s).length≤60); rw [W7 hd'.2,decide_eq_true (Ap.1 (W7 (s:=s) hd'.2)).2.2]
 |some i=>
  refine Xva (W7 hd'.2) Aga (Qb.2 ⟨hs,?_⟩)
  have h1:=(Ap.1 hd'.1).2.1 _ (A3 (d:=Ed) (Oh h).1)
  exact (Qb.1 h1).2
theorem A3b {l:List Nmd} (hs:Gp l) {x y:Nmd} (hx:x∈l) (hy:y∈l) (e:x.1=y.1):x=y:=by
 induction l with
 |nil=>simp at hx
 |cons z l ih=>
  obtain ⟨h1,h2⟩:=List.pairwise_cons.1 hs
  rcases List.mem_cons.1 hx with hx'|hx'
  ·rcases List.mem_cons.1 hy with hy'|hy'
   ·rw [hx',hy']
   ·have:=h1 y hy'; rw [← hx',e,Lj] at this; cases this
  ·rcases List.mem_cons.1 hy with hy'|hy'
   ·have:=h1 x hx'; rw [← hy',e,Lj] at this; cases this
   ·exact ih h2 hx' hy'

def wrI (d:Dsk) (s:ByteArray) (b:List Int):List Nmd:=ins (del d.1 s) (s,b)
theorem Rra (d:Dsk) (s:ByteArray) (b:List Int) (hd:DIn d) (hs:Km s) (hb:b.length≤1000000000000):Tot (λ k=>E7 k d s b) (λ r=>r=bif B4 d&&(Ar s&&(decide (b.length≤400)&&decide ((wrI d s b).length≤60))) then ((wrI d s b,d.2),true) else (d,false)):=by
 unfold E7
 refine Tot.bind (Kx d hd.1.1) ?_
 rintro r rfl
 refine Tot.bind (Xk r hd.1.1 hd.1.2) ?_
 rintro b1 rfl
 cases h1:B4 r with
 |false=>exact Tot.yes rfl (Tot.pure rfl)
 |true=>
  refine Tot.no rfl (Tot.bind (Np s hs) ?_)
  rintro b2 rfl
  cases h2:Ar s with
  |false=>exact Tot.yes rfl (Tot.pure rfl)
  |true=>
   refine Tot.no rfl (Tot.dite (λ h=>?_) (λ h=>?_))
   ·rw [decide_eq_false (show ¬ b.length≤400 by omega)]
    exact Tot.pure rfl
   ·rw [decide_eq_true (show b.length≤400 by omega)]
    refine Tot.bind (Lra r.1 s hd.1.1.1.1) ?_
    rintro c rfl
    refine Tot.bind (Tot.of (Q:=λ x=>x=b) (Mh b hb) rfl) ?_
    rintro e rfl
    have hdl:=Cga r.1 s
    refine Tot.bind (Lta (del r.1 s) (s,e) (by have:=hd.2.1; omega)) ?_
    rintro m rfl
    refine Tot.dite (λ h=>?_) (λ h=>?_)
    ·rw [decide_eq_false (show ¬ (wrI r s e).length≤60 by unfold wrI; omega)]
     refine Tot.bind (Kx r hd.1.1) ?_
     rintro x rfl
     exact Tot.pure rfl
    ·rw [decide_eq_true (show (wrI r s e).length≤60 by unfold wrI; omega)]
     exact Tot.pure rfl
theorem Lxa {d:Dsk} {s:ByteArray} {b:List Int} (hd:B4 d=true) (hs:Ar s=true):ptl (s,b) false d.1=wrI d s b∧B4 (wrI d s b,d.2)=(decide (b.length≤400)&&decide ((wrI d s b).length≤60)):=by
 have hd':=hd
 unfold B4 at hd'
 rw [Bool.and_eq_true] at hd'
 have h1:=Ap.1 hd'.1
 have e1:wrI d s b=ins (cut d.1 s) (s,b):=by unfold wrI; rw [V3 h1.1]
 refine ⟨by rw [e1]; exact V4 _ h1.1,?_⟩
 unfold B4
 rw [hd'.2,Bool.and_true,e1]
 by_cases hb:b.length≤400
 ·rw [decide_eq_true hb,Bool.true_and]
  exact Xva (W7 hd'.1) Aga (Qb.2 ⟨hs,hb⟩)
 ·rw [decide_eq_false hb,Bool.false_and]
  cases hc:J6 (ins (cut d.1 s) (s,b)) with
  |false=>rfl
  |true=>exact absurd (Qb.1 ((Ap.1 hc).2.1 (s,b) (V5.2 (.inl rfl)))).2 hb

def TS (l:List ByteArray):Prop:=l.Pairwise (λ a b=>tlt a b=true)
def pk (l:List Nmd) (s:ByteArray):Option Nmd:=match fnd l s with
 |some i=>some (l.getD i Ed)
 |none=>none
def Ni:ByteArray:=⟨#[]⟩
def tpl (l:List ByteArray) (s:ByteArray):Nat:=(l.takeWhile (λ y=>tlt y s)).length
def wt (l:List ByteArray) (s:ByteArray):List ByteArray:=if tpl l s<l.length∧teq (l.getD (tpl l s) Ni) s=true then l else l.take (tpl l s)++[s]++l.drop (tpl l s)
theorem Cjb (l:List ByteArray) (s:ByteArray):tpl l s≤l.length:=(List.takeWhile_sublist _).length_le
theorem Lya {l:List ByteArray} {s y:ByteArray}:y∈wt l s↔y=s∨y∈l:=by
 unfold wt
 by_cases h:tpl l s<l.length∧teq (l.getD (tpl l s) Ni) s=true
 ·rw [if_pos h]
  refine ⟨.inr,λ h'=>?_⟩
  rcases h' with rfl|h'
  ·have:=A3 (d:=Ni) h.1
   rwa [Jm.1 h.2] at this
  ·exact h'
 ·rw [if_neg h]
  have e:l.take (tpl l s)++l.drop (tpl l s)=l:=List.take_append_drop _ _
  constructor
  ·intro h'
   rw [List.append_assoc] at h'
   rcases List.mem_append.1 h' with h'|h'
   ·right; rw [← e]; exact List.mem_append_left _ h'
   ·rcases List.mem_append.1 h' with h'|h'
    ·left; simpa using h'
    ·right; rw [← e]; exact List.mem_append_right _ h'
  ·rintro (rfl|h')
   ·simp
   ·rw [← e] at h'
    rcases List.mem_append.1 h' with h'|h'<;>simp [h']
theorem Lza (p:ByteArray→Bool):∀ l:List ByteArray,l.take (l.takeWhile p).length=l.takeWhile p∧l.drop (l.takeWhile p).length=l.dropWhile p
 |[]=>⟨rfl,rfl⟩
 |y::l=>by
  obtain ⟨h1,h2⟩:=Lza p l
  simp only [List.takeWhile_cons,List.dropWhile_cons]
  cases p y with
  |true=>simp [h1,h2]
  |false=>simp
theorem Cia {p:ByteArray→Bool}:∀ {l:List ByteArray} {y:ByteArray},y∈l.takeWhile p→p y=true
 |[],y,h=>by simp at h
 |z::l,y,h=>by
  simp only [List.takeWhile_cons] at h
  cases hz:p z with
  |false=>rw [hz] at h; simp at h
  |true=>
   rw [hz] at h
   simp only [if_true] at h
   rcases List.mem_cons.1 h with rfl|h
   ·exact hz
   ·exact Cia h
theorem Aha {s:ByteArray}:∀ {l:List ByteArray},TS l→(∀ y r,l.dropWhile (λ y=>tlt y s)=y::r→y≠s)→∀ z∈l.dropWhile (λ y=>tlt y s),tlt s z=true
 |[],_,_,z,hz=>by simp at hz
 |y::l,hs,hn,z,hz=>by
  obtain ⟨h1,h2⟩:=List.pairwise_cons.1 hs
  simp only [List.dropWhile_cons] at hz hn
  cases hy:tlt y s with
  |true=>
   rw [hy] at hz hn
   simp only [if_true] at hz hn
   exact Aha h2 hn z hz
  |false=>
   rw [hy] at hz hn
   simp only [Bool.false_eq_true,if_false] at hz hn
   have hxy:tlt s y=true:=by
    cases hh:tlt s y with
    |true=>rfl
    |false=>exact absurd (A6a hy hh) (hn y l rfl)
   rcases List.mem_cons.1 hz with rfl|hz
   ·exact hxy
   ·exact Mr hxy (h1 z hz)
theorem Rb {l:List ByteArray} {s:ByteArray} (hs:TS l):TS (wt l s):=by
 unfold wt
 by_cases h:tpl l s<l.length∧teq (l.getD (tpl l s) Ni) s=true
 ·rw [if_pos h]; exact hs
 ·rw [if_neg h]
  obtain ⟨e1,e2⟩:=Lza (λ y=>tlt y s) l
  have hd:∀ y r,l.dropWhile (λ y=>tlt y s)=y::r→y≠s:=by
   intro y r hr hy
   rw [← e2] at hr
   have hlt:tpl l s<l.length:=by
    rcases Nat.lt_or_ge (tpl l s) l.length with h'|h'
    ·exact h'
    ·have:l.drop (tpl l s)=[]:=List.drop_of_length_le h'
     unfold tpl at this
     rw [this] at hr
     cases hr
   have:l.drop (tpl l s)=l.getD (tpl l s) Ni::l.drop (tpl l s+1):=Al hlt
   unfold tpl at this
   rw [this] at hr
   simp only [List.cons.injEq] at hr
   exact h ⟨hlt,Jm.2 (hr.1.trans hy)⟩
  have e1':l.take (tpl l s)=l.takeWhile (λ y=>tlt y s):=e1
  have e2':l.drop (tpl l s)=l.dropWhile (λ y=>tlt y s):=e2
  rw [e1',e2',List.append_assoc]
  have hs':TS (l.takeWhile (λ y=>tlt y s)++l.dropWhile (λ y=>tlt y s)):=by rw [List.takeWhile_append_dropWhile]; exact hs
  obtain ⟨h1,h2,h3⟩:=List.pairwise_append.1 hs'
  refine List.pairwise_append.2 ⟨h1,List.pairwise_cons.2 ⟨λ z hz=>Aha hs hd z hz,h2⟩,λ a ha b hb=>?_⟩
  rcases List.mem_cons.1 hb with rfl|hb
  ·exact Cia (p:=λ y=>tlt y b) ha
  ·exact h3 a ha b hb

theorem Rsa {l:List ByteArray} {s:ByteArray}:(wt l s).length≤l.length+1:=by
 unfold wt
 have:=Cjb l s
 split
 ·omega
 ·simp only [List.length_append,List.length_take,List.length_drop,List.length_cons,List.length_nil]; omega

section
variable {α σ R:Type} {a b:α} {p:Prop} [Decidable p]
theorem dT (h:p):cond (decide p) a b=a:=by rw [decide_eq_true h]; rfl
theorem dF (h:¬ p):cond (decide p) a b=b:=by rw [decide_eq_false h]; rfl
theorem bT {m n:Nat} (h:m≤n):cond (Nat.ble m n) a b=a:=by rw [Nat.ble_eq_true_of_le h]; rfl
theorem Tot.up {L:Nat→Int→σ→Option R} {Q:R→Prop} (n:Nat) (I:Nat→σ→Prop) (hend:∀ s,I n s→Tot (λ k=>L (k+1) (n:Int) s) Q)
  (Jla:∀ i s,i<n→I i s→(∀ s',I (i+1) s'→Tot (λ k=>L k ((i:Int)+1) s') Q)→Tot (λ k=>L (k+1) (i:Int) s) Q):
  ∀ (i:Nat) (s:σ),i≤n→I i s→Tot (λ k=>L k (i:Int) s) Q:=by
 suffices h:∀ (m i:Nat) (s:σ),n - i=m→i≤n→I i s→Tot (λ k=>L k (i:Int) s) Q from λ i s hi hs=>h _ i s rfl hi hs
 intro m
 induction m with
 |zero=>
  intro i s hm hi hs
  obtain rfl:i=n:=by omega
  exact Tot.succ (hend s hs)
 |succ m ih=>
  intro i s hm hi hs
  refine Tot.succ (Jla i s (by omega) hs λ s' hs'=>?_)
  have:=ih (i+1) s' (by omega) (by omega) hs'
  rwa [show (((i+1:Nat)):Int)=(i:Int)+1 by omega] at this
end
def cst (x:BitVec 32):BitVec 32:=if x.getLsbD 0 then (x >>> 1) ^^^ 2197175160#32 else x >>> 1
def Bca:Nat→BitVec 32→BitVec 32
 |0,x=>x
 |n+1,x=>Bca n (cst x)
def cby (x:BitVec 32) (b:Int):BitVec 32:=Bca 8 (x ^^^ BitVec.ofInt 32 b)
def Bbb (l:List Int):BitVec 32 := ~~~ (l.foldl cby 4294967295#32)
def crc (l:List Int):Int:=((Bbb l).toNat:Int)
theorem Ekb (v:BitVec 32):v.getLsbD 0=decide (v.toNat % 2=1):=by
 rw [BitVec.getLsbD,Nat.testBit_zero]
theorem J2a (v:BitVec 32):BitVec.ofInt (IntKind.bits .u32) (v.toNat:Int)=v:=by
 show BitVec.ofInt 32 (v.toNat:Int)=v
 rw [BitVec.ofInt_natCast,BitVec.ofNat_toNat,BitVec.setWidth_eq]
theorem J3a (n:Nat) (h:n<4294967296):(BitVec.ofInt (IntKind.bits .i64) (n:Int)).toNat=n:=Ra n (by omega)
theorem E0b (v:BitVec 32):IntKind.wrap .u32 (v.toNat:Int)=(v.toNat:Int):=Go.IntWalk.u32_in _ ⟨by omega,by have:=v.isLt; omega⟩
theorem sh1 (v:BitVec 32):Int.fdiv (v.toNat:Int) 2=((v >>> 1).toNat:Int):=by
 rw [Int.fdiv_eq_ediv_of_nonneg _ (by omega),BitVec.toNat_ushiftRight,Nat.shiftRight_eq_div_pow]
 omega
theorem E1b (v:BitVec 32):((IntKind.wrap .u32 ((BitVec.ofInt (IntKind.bits .u32) (v.toNat:Int) &&& BitVec.ofInt (IntKind.bits .u32) 1).toNat))==1)=v.getLsbD 0:=by
 show (IntKind.wrap .u32 (((BitVec.ofInt 32 (v.toNat:Int) &&& BitVec.ofInt 32 1).toNat:Nat):Int)==1)=_
 rw [show BitVec.ofInt 32 (v.toNat:Int)=v from J2a v,E0b,Ekb,BitVec.toNat_and,show (BitVec.ofInt 32 1).toNat=1 from by decide,Nat.and_one_is_mod,Bool.eq_iff_iff,beq_iff_eq,decide_eq_true_iff]
 omega
theorem E2b (v:BitVec 32):((IntKind.wrap .i64 ((BitVec.ofInt (IntKind.bits .i64) (v.toNat:Int) &&& BitVec.ofInt (IntKind.bits .i64) 1).toNat))==1)=v.getLsbD 0:=by
 have:=v.isLt
 rw [Ekb,BitVec.toNat_and,J3a _ v.isLt,show (BitVec.ofInt (IntKind.bits .i64) 1).toNat=1 from by decide,Nat.and_one_is_mod,w64 (by omega) (by omega),Bool.eq_iff_iff,beq_iff_eq,decide_eq_true_iff]
 omega
theorem E3b (v w:BitVec 32) (x:Int) (h:BitVec.ofInt 32 x=w):IntKind.wrap .u32 ((BitVec.ofInt (IntKind.bits .u32) (v.toNat:Int) ^^^ BitVec.ofInt (IntKind.bits .u32) x).toNat)=((v ^^^ w).toNat:Int):=by
 show IntKind.wrap .u32 (((BitVec.ofInt 32 (v.toNat:Int) ^^^ BitVec.ofInt 32 x).toNat:Nat):Int)=_
 rw [show BitVec.ofInt 32 (v.toNat:Int)=v from J2a v,h]
 exact E0b _
theorem Dib (v w:BitVec 32):IntKind.wrap .i64 ((BitVec.ofInt (IntKind.bits .i64) (v.toNat:Int) ^^^ BitVec.ofInt (IntKind.bits .i64) (w.toNat:Int)).toNat)=((v ^^^ w).toNat:Int):=by
 have:=(v ^^^ w).isLt
 rw [BitVec.toNat_xor,J3a _ v.isLt,J3a _ w.isLt,← BitVec.toNat_xor]
 exact w64 (by omega) (by omega)
theorem Elb (K:IntKind) (h:1≤IntKind.bits K):(2:Int) ^ (min (Int.toNat 1) (IntKind.bits K))=2:=by
 rw [show Int.toNat 1=1 from rfl,Nat.min_eq_left h]; rfl
theorem Nva (l:List Int) (x8 x9:Int):∀ (n:Nat) (v:BitVec 32) (i:Int),0≤i→8 - i=n→Tot (λ k=>Jr k (v.toNat:Int) l x8 x9 i) (λ r=>r=(((Bca n v).toNat:Int),l,x8,x9)):=by
 intro n
 induction n with
 |zero=>
  intro v i h0 hn
  refine Tot.succ ?_
  simp only [Jr]
  exact Tot.ndec (by omega) (Tot.pure rfl)
 |succ n ih=>
  intro v i h0 hn
  refine Tot.succ ?_
  simp only [Jr]
  refine Tot.dec (by omega) ?_
  rw [w64 (n:=i+1) (by omega) (by omega),E1b,Elb _ (by decide),sh1,E3b _ 2197175160#32 _ (by decide)]
  have e:Bca (n+1) v=Bca n (cst v):=rfl
  rw [e]
  refine Tot.ite (λ h=>?_) (λ h=>?_)
  ·have:=ih (v >>> 1 ^^^ 2197175160#32) (i+1) (by omega) (by omega)
   rwa [show v >>> 1 ^^^ 2197175160#32=cst v by unfold cst; rw [if_pos h]] at this ⊢
  ·have:=ih (v >>> 1) (i+1) (by omega) (by omega)
   rwa [show v >>> 1=cst v by unfold cst; rw [if_neg (by rw [h]; simp)]] at this ⊢
theorem J4a (l:List Int) (x4:Int):∀ (n:Nat) (v:BitVec 32) (i:Int),0≤i→8 - i=n→Tot (λ k=>Js k l (v.toNat:Int) x4 i) (λ r=>r=(l,((Bca n v).toNat:Int),x4)):=by
 intro n
 induction n with
 |zero=>
  intro v i h0 hn
  refine Tot.succ ?_
  simp only [Js]
  exact Tot.ndec (by omega) (Tot.pure rfl)
 |succ n ih=>
  intro v i h0 hn
  refine Tot.succ ?_
  simp only [Js]
  have hp:(2197175160:Int)=((2197175160#32:BitVec 32).toNat:Int):=by decide
  refine Tot.dec (by omega) ?_
  rw [w64 (n:=i+1) (by omega) (by omega),E2b,Elb _ (by decide),sh1,hp,Dib]
  have e:Bca (n+1) v=Bca n (cst v):=rfl
  rw [e]
  refine Tot.ite (λ h=>?_) (λ h=>?_)
  ·have:=ih (v >>> 1 ^^^ 2197175160#32) (i+1) (by omega) (by omega)
   rwa [show v >>> 1 ^^^ 2197175160#32=cst v by unfold cst; rw [if_pos h]] at this ⊢
  ·have:=ih (v >>> 1) (i+1) (by omega) (by omega)
   rwa [show v >>> 1=cst v by unfold cst; rw [if_neg (by rw [h]; simp)]] at this ⊢
theorem M0a {b:Int} (h:0≤b∧b≤255):b=((BitVec.ofInt 32 b).toNat:Int):=by
 rw [BitVec.toNat_ofInt]
 omega
theorem A4b (l:List Int) (hb:An l) (hl:l.length≤1000000000000):Tot (λ k=>Mb k l) (λ r=>r=crc l):=by
 unfold Mb
 refine Tot.bind (Q:=λ r=>r=(((l.foldl cby 4294967295#32).toNat:Nat):Int)) ?_ ?_
 ·have:=Tot.up (L:=λ k i s=>K6 k s l (l.length:Int) i) (Q:=λ r=>r=(((l.foldl cby 4294967295#32).toNat:Nat):Int)) l.length (λ i s=>∃ v:BitVec 32,s=(v.toNat:Int)∧(l.drop i).foldl cby v=l.foldl cby 4294967295#32) ?_ ?_ 0 4294967295 (Nat.zero_le _) ⟨4294967295#32,by decide,by rw [List.drop_zero]⟩
  ·exact this
  ·rintro s ⟨v,rfl,hv⟩
   simp only [K6]
   rw [List.drop_length] at hv
   exact Tot.ndec (by omega) (Tot.pure (by rw [← hv]; rfl))
  ·rintro i s hi ⟨v,rfl,hv⟩ next
   simp only [K6]
   have hx:=hb _ (A3 (d:=0) hi)
   refine Tot.dec (by omega) (Tot.dec (by omega) (Tot.dec (by omega) ?_))
   rw [Int.toNat_natCast,Go.IntWalk.u32_in _ ⟨hx.1,by omega⟩,E3b v _ _ rfl]
   refine Tot.bind (Nva l _ _ 8 _ 0 (by decide) (by decide)) ?_
   rintro r rfl
   simp only
   rw [w64 (n:=(i:Int)+1) (by omega) (by omega)]
   refine next _ ⟨_,rfl,?_⟩
   rw [Al (d:=0) hi,List.foldl_cons] at hv
   exact hv
 ·rintro r rfl
  refine Tot.pure ?_
  unfold crc Bbb
  have hm:BitVec.ofInt 32 (if IntKind.signed .u32 then -1 else IntKind.max .u32)=BitVec.allOnes 32:=by decide
  have e:BitVec.allOnes 32 ^^^ l.foldl cby 4294967295#32 = ~~~ (l.foldl cby 4294967295#32):=by rw [BitVec.xor_comm]; exact BitVec.xor_allOnes
  show IntKind.wrap .i64 (IntKind.wrap .u32 (((BitVec.ofInt 32 (if IntKind.signed .u32 then -1 else IntKind.max .u32) ^^^ BitVec.ofInt 32 ((l.foldl cby 4294967295#32).toNat:Int)).toNat:Nat):Int))=_
  rw [show BitVec.ofInt 32 ((l.foldl cby 4294967295#32).toNat:Int)=l.foldl cby 4294967295#32 from J2a _,hm,e]
  have:=(~~~ (l.foldl cby 4294967295#32)).isLt
  rw [E0b,w64 (by omega) (by omega)]
theorem A5b (l:List Int) (hb:An l) (hl:l.length≤1000000000000):Tot (λ k=>Mc k l) (λ r=>r=crc l):=by
 unfold Mc
 refine Tot.bind (Q:=λ r=>r=(((l.foldl cby 4294967295#32).toNat:Nat):Int)) ?_ ?_
 ·have:=Tot.up (L:=λ k i s=>Ka k l s i) (Q:=λ r=>r=(((l.foldl cby 4294967295#32).toNat:Nat):Int)) l.length (λ i s=>∃ v:BitVec 32,s=(v.toNat:Int)∧(l.drop i).foldl cby v=l.foldl cby 4294967295#32) ?_ ?_ 0 4294967295 (Nat.zero_le _) ⟨4294967295#32,by decide,by rw [List.drop_zero]⟩
  ·exact this
  ·rintro s ⟨v,rfl,hv⟩
   simp only [Ka]
   rw [List.drop_length] at hv
   exact Tot.ndec (by omega) (Tot.pure (by rw [← hv]; rfl))
  ·rintro i s hi ⟨v,rfl,hv⟩ next
   simp only [Ka]
   have hx:=hb _ (A3 (d:=0) hi)
   refine Tot.dec (by omega) (Tot.dec (by omega) (Tot.dec (by omega) ?_))
   rw [Int.toNat_natCast,w64 (n:=l.getD i 0) (by omega) (by omega),M0a hx,Dib]
   refine Tot.bind (J4a l _ 8 _ 0 (by decide) (by decide)) ?_
   rintro r rfl
   simp only
   rw [w64 (n:=(i:Int)+1) (by omega) (by omega)]
   refine next _ ⟨_,rfl,?_⟩
   rw [Al (d:=0) hi,List.foldl_cons] at hv
   exact hv
 ·rintro r rfl
  refine Tot.pure ?_
  have hp:(4294967295:Int)=((BitVec.allOnes 32:BitVec 32).toNat:Int):=by decide
  rw [hp,Dib,BitVec.xor_allOnes]
  rfl

def Dxa:Fil:=(((0:Int),((0:Int),(0:Int))),(false,([]:List Int)))
def Eb (f:Fil):Bool:=Fi f.1&&(decide ((f.2.2.length:Int)≤200)&&(!f.2.1 || ((f.2.2.length:Int)==0)))
theorem Xl (f:Fil):Di f=some (Eb f):=by
 unfold Di Eb
 rw [Tz]
 simp only [Option.bind_some]
 cases Fi f.1<;>cases decide ((List.length f.2.2:Int)≤200)<;>cases f.2.1<;>rfl
theorem Xm (f:Fil):Dm f=some (Eb f):=by
 unfold Dm Eb
 rw [U0]
 simp only [Option.bind_some]
 cases Fi f.1<;>cases decide ((List.length f.2.2:Int)≤200)<;>cases f.2.1<;>rfl
theorem Jq {f:Fil}:Eb f=true↔Fi f.1=true∧f.2.2.length≤200∧(f.2.1=true→f.2.2=[]):=by
 unfold Eb
 rw [Bool.and_eq_true,Bool.and_eq_true,decide_eq_true_iff]
 have:(!f.2.1 || ((f.2.2.length:Int)==0))=true↔(f.2.1=true→f.2.2=[]):=by
  cases f.2.1 with
  |false=>simp
  |true=>simp
 rw [this]
 constructor
 ·rintro ⟨h1,h2,h3⟩; exact ⟨h1,by omega,h3⟩
 ·rintro ⟨h1,h2,h3⟩; exact ⟨h1,by omega,h3⟩
theorem Gea (a b:Fil):Jp a b=some (sle b.1 a.1):=by unfold Jp; rw [Xi]; rfl
theorem Rta (a b:Fil):Lc a b=some (sle b.1 a.1):=by unfold Lc; rw [Dna]; rfl
def hdF (s:Stp) (d:Bool):List Int:=Ona s++P6 (Bl (Dta d))
def P7 (f:Fil):List Int:=hdF f.1 f.2.1++txt (Lk f.2.2)
def c4 (c:Int):List Int:=[IntKind.wrap .u8 (Int.fdiv c (2 ^ (min (Int.toNat 24) (IntKind.bits .i64)))),IntKind.wrap .u8 (Int.fdiv c (2 ^ (min (Int.toNat 16) (IntKind.bits .i64)))),IntKind.wrap .u8 (Int.fdiv c (2 ^ (min (Int.toNat 8) (IntKind.bits .i64)))),IntKind.wrap .u8 c]
def Ls (f:Fil):List Int:=bif Eb f then P7 f++c4 (crc (P7 f)) else []
theorem Pr {a b:List Int} (ha:An a) (hb:An b):An (a++b):=λ x hx=>(List.mem_append.1 hx).elim (ha x) (hb x)
theorem Rc (n:Int):An (P6 (Bl n)):=Nqa _ (Og n)
theorem Rua (s:Stp) (d:Bool):An (hdF s d):=Pr (Pr (Rc _) (Pr (Rc _) (Rc _))) (Rc _)
theorem Qc (f:Fil):An (P7 f):=Pr (Rua _ _) (Pr (Rc _) (Cba _))
theorem Vla (c:Int):An (c4 c):=by
 intro x hx
 simp only [c4,List.mem_cons,List.not_mem_nil,or_false] at hx
 rcases hx with rfl|rfl|rfl|rfl<;>exact G0a _
theorem Ry (f:Fil):An (Ls f):=by
 unfold Ls
 cases Eb f with
 |false=>intro x hx; simp at hx
 |true=>exact Pr (Qc f) (Vla _)
theorem J5a (s:Stp) (d:Bool):(hdF s d).length≤20:=by
 have h1:=Loa s
 have h2:=(Mu (Bl (Dta d))).1
 unfold hdF
 rw [List.length_append]
 omega
theorem Aia (f:Fil):(P7 f).length≤25+f.2.2.length:=by
 have h1:=J5a f.1 f.2.1
 have h2:=Zva (Lk f.2.2)
 have h3:(Lk f.2.2).size=f.2.2.length:=Oa _
 unfold P7
 rw [List.length_append]
 omega
theorem Dya (f:Fil):(Ls f).length≤229:=by
 unfold Ls
 cases h:Eb f with
 |false=>simp
 |true=>
  have h1:=Aia f
  have h2:=(Jq.1 h).2.1
  rw [cond_true,List.length_append]
  simp only [c4,List.length_cons,List.length_nil]
  omega
theorem Qd (f:Fil):Tot (λ k=>F7 k f) (λ r=>r=Ls f):=by
 unfold F7 Ls
 refine Tot.bind (Tot.of (Q:=λ b=>b=Eb f) (Xl f) rfl) ?_
 rintro b rfl
 cases h:Eb f with
 |false=>exact Tot.yes rfl (Tot.pure rfl)
 |true=>
  have h2:=(Jq.1 h).2.1
  have h3:(Lk f.2.2).size=f.2.2.length:=Oa _
  have h4:=J5a f.1 f.2.1
  have h5:=Aia f
  refine Tot.no rfl (Tot.bind (Nra [] f.1 f.2.1 (by simp)) ?_)
  rintro r rfl
  rw [List.nil_append]
  refine Tot.bind (Vda _ _ (by unfold hdF at h4; omega) (by omega)) ?_
  rintro r rfl
  have e:Ona f.1++P6 (Bl (Dta f.2.1))++txt (Lk f.2.2)=P7 f:=rfl
  rw [e]
  refine Tot.bind (A4b _ (Qc f) (by omega)) ?_
  rintro r rfl
  exact Tot.ble (by simp only [List.length_cons,List.length_nil]; omega) (Tot.pure rfl)
theorem Aja (f:Fil):Tot (λ k=>F9 k f) (λ r=>r=Ls f):=by
 unfold F9 Ls
 refine Tot.bind (Tot.of (Q:=λ b=>b=Eb f) (Xm f) rfl) ?_
 rintro b rfl
 cases h:Eb f with
 |false=>exact Tot.yes rfl (Tot.pure rfl)
 |true=>
  have h2:=(Jq.1 h).2.1
  have h3:(Lk f.2.2).size=f.2.2.length:=Oa _
  have h4:=J5a f.1 f.2.1
  have h5:=Aia f
  have h6:=Loa f.1
  refine Tot.no rfl (Tot.bind (Nsa [] f.1 (by simp)) ?_)
  rintro r rfl
  rw [List.nil_append]
  refine Tot.bind (Tot.of (Q:=λ r=>r=Dta f.2.1) (Vga _) rfl) ?_
  rintro c rfl
  refine Tot.bind (Ada _ _ (by omega)) ?_
  rintro d rfl
  refine Tot.bind (Vea _ _ (by unfold hdF at h4; omega) (by omega)) ?_
  rintro r rfl
  have e:Ona f.1++P6 (Bl (Dta f.2.1))++txt (Lk f.2.2)=P7 f:=rfl
  rw [e]
  refine Tot.bind (A5b _ (Qc f) (by omega)) ?_
  rintro r rfl
  exact Tot.ble (by simp only [List.length_cons,List.length_nil]; omega) (Tot.pure rfl)
def Nj (b:List Int):Option Fil:=(Qm b 0).bind λ a=>(Lma b a.2).bind λ t=>bif Eb (a.1.1,a.1.2,bytesOf t.1)&&decide (Ls (a.1.1,a.1.2,bytesOf t.1)=b) then some (a.1.1,a.1.2,bytesOf t.1) else none
def S9 (b:List Int):Fil×Bool:=match Nj b with
 |some f=>(f,true)
 |none=>(Dxa,false)
theorem J6a {b:List Int} {f:Fil} (h:Nj b=some f):Eb f=true∧An f.2.2∧Ls f=b:=by
 unfold Nj at h
 simp only [Option.bind_eq_some_iff] at h
 obtain ⟨a,_,t,_,h⟩:=h
 cases hc:(Eb (a.1.1,a.1.2,bytesOf t.1)&&decide (Ls (a.1.1,a.1.2,bytesOf t.1)=b)) with
 |false=>rw [hc] at h; cases h
 |true=>
  rw [hc] at h
  simp only [cond_true,Option.some.injEq] at h
  subst h
  rw [Bool.and_eq_true,decide_eq_true_iff] at hc
  exact ⟨hc.1,Cba _,hc.2⟩
theorem Rva (s:Stp) (d:Bool) (rest:List Int) (h:Fi s=true):Qm (hdF s d++rest) 0=some ((s,d),(hdF s d).length):=by
 obtain ⟨t,c,n⟩:=s
 unfold Fi at h
 simp only [Bool.and_eq_true,Fh] at h
 obtain ⟨⟨t0,t1⟩,⟨c0,c1⟩,n0,n1⟩:=h
 have ht:=Aba t0 t1
 have hc:=Aba c0 (show c≤1000000000 by omega)
 have hn:=Aba n0 (show n≤1000000000 by omega)
 have hbit:(((Bl (Dta d):Nat):Int)==1)=d:=by cases d<;>decide
 have hbit2:¬ (1<Bl (Dta d)):=by cases d<;>decide
 have k:∀ (a:List Int) (n:Nat) (b:List Int),n≤1000000000→Pa (a++(P6 n++b)) a.length=some (n,(a++P6 n).length):=λ a n b hn=>by rw [Lka a n b hn,List.length_append]
 have e0:hdF (t,c,n) d++rest=P6 (Bl t)++(P6 (Bl c)++(P6 (Bl n)++(P6 (Bl (Dta d))++rest))):=by
  unfold hdF Ona
  simp only [List.append_assoc]
 have el:(hdF (t,c,n) d).length=(P6 (Bl t)).length+(P6 (Bl c)).length+(P6 (Bl n)).length+(P6 (Bl (Dta d))).length:=by
  unfold hdF Ona
  simp only [List.length_append]
  omega
 have g1:=k [] (Bl t) (P6 (Bl c)++(P6 (Bl n)++(P6 (Bl (Dta d))++rest))) (Og t)
 have g2:=k (P6 (Bl t)) (Bl c) (P6 (Bl n)++(P6 (Bl (Dta d))++rest)) (Og c)
 have g3:=k (P6 (Bl t)++P6 (Bl c)) (Bl n) (P6 (Bl (Dta d))++rest) (Og n)
 have g4:=k (P6 (Bl t)++P6 (Bl c)++P6 (Bl n)) (Bl (Dta d)) rest (Og _)
 simp only [List.append_assoc,List.nil_append,List.length_nil] at g1 g2 g3 g4
 simp only [List.length_append] at g1 g2 g3 g4
 unfold Qm
 rw [e0,el]
 simp only [Nat.add_assoc] at g1 g2 g3 g4 ⊢
 simp only [g1,g2,g3,g4,Option.bind_some,decide_eq_false hbit2,cond_false]
 rw [ht,hc,hn,hbit]
theorem Vma {l:List Int} {q:Nat} {s:Stp} {d:Bool} (hb:An l) (h:Qm l 0=some ((s,d),q)):l=hdF s d++l.drop q∧q≤l.length:=by
 unfold Qm at h
 simp only [Option.bind_eq_some_iff] at h
 obtain ⟨⟨t,p2⟩,h2,⟨c,p3⟩,h3,⟨n,p4⟩,h4,⟨e,p5⟩,h5,h⟩:=h
 obtain ⟨b1,b2,b3,b4⟩:=Sz hb h2
 obtain ⟨c1,c2,c3,c4⟩:=Sz hb h3
 obtain ⟨d1,d2,d3,d4⟩:=Sz hb h4
 obtain ⟨e1,e2,e3,e4⟩:=Sz hb h5
 cases hd:decide (1<e) with
 |true=>simp only [hd,cond_true] at h; cases h
 |false=>
  simp only [hd,cond_false,Option.some.injEq,Prod.mk.injEq] at h
  obtain ⟨⟨⟨rfl,rfl,rfl⟩,rfl⟩,rfl⟩:=h
  have he:e≤1:=by
   have:=of_decide_eq_false hd
   omega
  have hbit:Bl (Dta ((e:Int)==1))=e:=by
   have:e=0∨e=1:=by omega
   rcases this with rfl|rfl<;>decide
  have k:∀ n:Nat,n≤1000000000→Bl (n:Int)=n:=λ n hn=>by unfold Bl; omega
  simp only at b1 b2 c1 c2 d1 d2 e1 e2
  refine ⟨?_,e4⟩
  rw [List.drop_zero] at b1
  unfold hdF Ona
  simp only
  rw [k t b2,k c c2,k n d2,hbit,List.append_assoc,List.append_assoc,List.append_assoc,← e1,← d1,← c1,← b1]
theorem Xn {f:Fil} (h:Eb f=true) (hb:An f.2.2):Nj (Ls f)=some f:=by
 obtain ⟨h1,h2,h3⟩:=Jq.1 h
 have e:Ls f=hdF f.1 f.2.1++(txt (Lk f.2.2)++c4 (crc (P7 f))):=by
  unfold Ls
  rw [h,cond_true]
  unfold P7
  rw [List.append_assoc]
 have g1:=Rva f.1 f.2.1 (txt (Lk f.2.2)++c4 (crc (P7 f))) h1
 have g2:=Vfa (hdF f.1 f.2.1) (Lk f.2.2) (c4 (crc (P7 f))) (by rw [Oa]; omega)
 rw [← e] at g1 g2
 unfold Nj
 simp only [g1,g2,Option.bind_some]
 rw [O6 hb]
 have e1:(f.1,f.2.1,f.2.2)=f:=rfl
 rw [e1,h,decide_eq_true rfl]
 rfl
theorem U5 {a b:List Int} (ha:An a) (hb:An b):((Lk a).toList==(Lk b).toList)=decide (a=b):=by
 have:teq (Lk a) (Lk b)=decide (a=b):=by
  rw [Bool.eq_iff_iff,Jm,decide_eq_true_iff]
  constructor
  ·intro h
   have:=congrArg bytesOf h
   rwa [O6 ha,O6 hb] at this
  ·rintro rfl; rfl
 exact this
theorem Vna (l:List Int) (hb:An l) (hl:l.length≤1000000000000) (p:Int) (hp:p≤1000000000000):
  Tot (λ k=>Cm k (l,p,true)) (λ r=>r=((⟨#[]⟩:ByteArray),l,p,true)):=by
 unfold Cm
 refine Tot.bind (Lna l hb hl p hp) ?_
 rintro r rfl
 exact Tot.yes rfl (Tot.pure rfl)
theorem Voa {f:Fil}:(((Ls f).length:Int)==0) = !(Eb f):=by
 unfold Ls
 cases h:Eb f with
 |false=>rfl
 |true=>
  rw [cond_true,List.length_append,Bool.not_true,beq_eq_false_iff_ne]
  simp only [c4,List.length_cons,List.length_nil]
  omega
theorem Oj (b:List Int) (hb:An b) (hl:b.length≤1000000000000):Tot (λ k=>Cc k b) (λ r=>r=S9 b):=by
 unfold Cc
 refine Tot.bind (Dzb b hb hl 0 (Nat.zero_le _) false) ?_
 rintro r (⟨_,⟨s,d⟩,q,h1,h2,rfl⟩|⟨h1,s,d,q,h2,rfl⟩)
 ·refine Tot.bind (Dyb b hb hl q h2) ?_
  rintro r (⟨t,q2,h3,h4,rfl⟩|⟨h3,rfl⟩)
  ·have hsz:=(Iwa hb h3).2.1
   refine Tot.ble (by dsimp only; omega) (Tot.bind (Qd _) ?_)
   rintro r rfl
   refine Tot.no rfl ?_
   have e:S9 b=bif Eb (s,d,bytesOf t)&&decide (Ls (s,d,bytesOf t)=b) then ((s,d,bytesOf t),true) else (Dxa,false):=by
    unfold S9 Nj
    simp only [h1,h3,Option.bind_some]
    cases Eb (s,d,bytesOf t)&&decide (Ls (s,d,bytesOf t)=b)<;>rfl
   simp only
   rw [e,Voa]
   cases hf:Eb (s,d,bytesOf t) with
   |false=>exact Tot.yes rfl (Tot.pure rfl)
   |true=>
    refine Tot.no rfl ?_
    rw [U5 (Ry _) hb]
    cases decide (Ls (s,d,bytesOf t)=b) with
    |false=>exact Tot.yes rfl (Tot.pure rfl)
    |true=>exact Tot.no rfl (Tot.pure rfl)
  ·refine Tot.ble (Nat.zero_le _) (Tot.bind (Qd _) ?_)
   rintro r rfl
   refine Tot.yes rfl (Tot.pure ?_)
   unfold S9 Nj
   simp only [h1,h3,Option.bind_some,Option.bind_none]
   rfl
 ·refine Tot.bind (Vna b hb hl q (by omega)) ?_
  rintro r rfl
  refine Tot.ble (Nat.zero_le _) (Tot.bind (Qd _) ?_)
  rintro r rfl
  refine Tot.yes rfl (Tot.pure ?_)
  unfold S9 Nj
  simp only [h1.resolve_left (by simp),Option.bind_none]
  rfl
theorem Aka (b:List Int) (hb:An b) (hl:b.length≤1000000000000):Tot (λ k=>Gy k b) (λ r=>r=S9 b):=by
 have none_of:Nj b=none→S9 b=(Dxa,false):=λ h=>by unfold S9; rw [h]
 unfold Gy
 refine Tot.bind (Zwa b hb hl 0) ?_
 rintro r (⟨n1,p1,n2,p2,n3,p3,_,g1,g2,g3,rfl⟩|⟨h,hr⟩)
 ·refine Tot.bind (V2 b hb hl (p3:Int)) ?_
  rintro r rfl
  rw [Xj]
  have g1':Pa b 0=some (n1,p1):=g1
  cases g4:Pa b p3 with
  |none=>
   refine Tot.bind (Dsa b hb hl 0) ?_
   rintro r rfl
   refine Tot.no rfl (Tot.yes rfl (Tot.pure (none_of ?_).symm))
   unfold Nj Qm
   simp only [g1',g2,g3,g4,Option.bind_some,Option.bind_none]
  |some x=>
   obtain ⟨n4,p4⟩:=x
   simp only
   have es:Qm b 0=bif decide (1<n4) then none else some ((((n1:Int),(n2:Int),(n3:Int)),(n4:Int)==1),p4):=by
    unfold Qm
    simp only [g1',g2,g3,g4,Option.bind_some]
   refine Tot.bind (Dsa b hb hl (p4:Int)) ?_
   rintro r rfl
   rw [Lpa]
   refine Tot.no rfl (Tot.no rfl ?_)
   cases g5:Lma b p4 with
   |none=>
    refine Tot.yes rfl (Tot.pure (none_of ?_).symm)
    unfold Nj
    rw [es]
    cases decide (1<n4) with
    |true=>rfl
    |false=>simp only [cond_false,Option.bind_some,g5,Option.bind_none]
   |some y=>
    obtain ⟨t,q⟩:=y
    refine Tot.no rfl (Tot.dite (λ h=>Tot.pure (none_of ?_).symm) (λ h=>?_))
    ·unfold Nj
     rw [es,decide_eq_true (by omega)]
     rfl
    ·rw [decide_eq_false (by omega),cond_false] at es
     have hq:=Iwa hb g5
     simp only
     rw [w64 (n:=(q:Int)+4) (by omega) (by omega)]
     have ef:Nj b=bif Eb (((n1:Int),(n2:Int),(n3:Int)),(n4:Int)==1,bytesOf t)&&decide (Ls (((n1:Int),(n2:Int),(n3:Int)),(n4:Int)==1,bytesOf t)=b) then some (((n1:Int),(n2:Int),(n3:Int)),(n4:Int)==1,bytesOf t) else none:=by
      unfold Nj
      simp only [es,g5,Option.bind_some]
     refine Tot.ite (λ h4=>Tot.pure (none_of ?_).symm) (λ h4=>?_)
     ·rw [ef]
      cases hc:(Eb (((n1:Int),(n2:Int),(n3:Int)),(n4:Int)==1,bytesOf t)&&decide (Ls (((n1:Int),(n2:Int),(n3:Int)),(n4:Int)==1,bytesOf t)=b)) with
      |false=>rfl
      |true=>
       exfalso
       rw [Bool.and_eq_true,decide_eq_true_iff] at hc
       have a1:=(Vma hb es).1
       rw [hq.1] at a1
       have a2:=hc.2
       unfold Ls at a2
       rw [hc.1,cond_true] at a2
       unfold P7 at a2
       simp only at a2
       rw [U3,List.append_assoc] at a2
       rw [← a2] at a1
       have a3:=List.append_cancel_left (List.append_cancel_left a1)
       have a4:=congrArg List.length a3
       rw [a2,List.length_drop] at a4
       simp only [c4,List.length_cons,List.length_nil] at a4
       have:(q:Int)+4=(b.length:Int):=by omega
       simp [this] at h4
     ·refine Tot.ble (by simp only [List.length_nil]; omega) ?_
      rw [List.nil_append]
      refine Tot.bind (Tot.of (Q:=λ r=>r=Eb (((n1:Int),(n2:Int),(n3:Int)),(n4:Int)==1,bytesOf t)) (Xm _) rfl) ?_
      rintro r rfl
      unfold S9
      rw [ef]
      cases hf:Eb (((n1:Int),(n2:Int),(n3:Int)),(n4:Int)==1,bytesOf t) with
      |false=>exact Tot.yes rfl (Tot.pure rfl)
      |true=>
       refine Tot.no rfl (Tot.bind (Aja _) ?_)
       rintro r rfl
       rw [U5 (Ry _) hb,Bool.true_and]
       cases decide (Ls (((n1:Int),(n2:Int),(n3:Int)),(n4:Int)==1,bytesOf t)=b) with
       |false=>exact Tot.yes rfl (Tot.pure rfl)
       |true=>exact Tot.no rfl (Tot.pure rfl)
 ·obtain ⟨r1,r2,r3⟩:=r
  simp only at hr
  subst hr
  refine Tot.bind (V2 b hb hl _) ?_
  rintro r rfl
  refine Tot.bind (Dsa b hb hl _) ?_
  rintro r rfl
  refine Tot.yes rfl (Tot.pure (none_of ?_).symm)
  unfold Nj
  rw [Ria (p:=0) (h.resolve_right (by omega))]
  rfl

def gt (l:List Nmd) (s:ByteArray):Option (List Int):=match fnd l s with
 |some i=>some (l.getD i Ed).2
 |none=>none
theorem J7a (y:Nmd) (l:List Nmd) (s:ByteArray):gt (y::l) s=if y.1=s then some y.2 else gt l s:=by
 unfold gt
 rw [Lwa]
 by_cases h:y.1=s
 ·rw [if_pos (Jm.2 h),if_pos h]; rfl
 ·rw [if_neg (λ c=>h (Jm.1 c)),if_neg h]
  cases fnd l s<;>rfl
theorem Oz {l:List Nmd} {s:ByteArray} {b:List Int} (h:gt l s=some b):(s,b)∈l:=by
 induction l with
 |nil=>cases h
 |cons y l ih=>
  rw [J7a] at h
  by_cases e:y.1=s
  ·rw [if_pos e] at h
   cases h
   subst e
   exact List.mem_cons_self
  ·rw [if_neg e] at h
   exact List.mem_cons_of_mem _ (ih h)
theorem Nk {l:List Nmd} {s:ByteArray}:gt l s=none↔∀ x∈l,x.1≠s:=by
 rw [← Vha]
 unfold gt
 cases fnd l s with
 |none=>simp
 |some i=>simp
theorem J8a {l:List Nmd} (hs:Gp l) {x:Nmd} (hx:x∈l):gt l x.1=some x.2:=by
 cases h:gt l x.1 with
 |none=>exact absurd rfl (Nk.1 h x hx)
 |some b=>rw [show x=(x.1,b) from A3b hs hx (Oz h) rfl]
theorem Gfa {l:List Nmd} (hs:Gp l) {s:ByteArray} {b:List Int}:gt l s=some b↔(s,b)∈l:=⟨Oz,λ h=>J8a hs h⟩
theorem Gga {l:List Nmd} {s:ByteArray}:(gt l s).isSome=(fnd l s).isSome:=by
 unfold gt
 cases fnd l s<;>rfl
theorem U6 {l:List Nmd} (hs:Gp l) {s t:ByteArray}:gt (cut l s) t=if s=t then none else gt l t:=by
 by_cases h:s=t
 ·subst h
  rw [if_pos rfl,Nk]
  exact Aga
 ·rw [if_neg h]
  cases hg:gt l t with
  |none=>exact Nk.2 λ x hx=>Nk.1 hg x (Oi.subset hx)
  |some b=>
   rw [Gfa (Nh hs)]
   refine List.mem_filter.2 ⟨Oz hg,?_⟩
   cases ht:teq t s with
   |false=>simp [ht]
   |true=>exact absurd (Jm.1 ht).symm h
theorem Xwa {l:List Nmd} (hs:Gp l) {x:Nmd} (hn:∀ y∈l,y.1≠x.1) {t:ByteArray}:gt (ins l x) t=if x.1=t then some x.2 else gt l t:=by
 have hi:=Rx hs hn
 by_cases h:x.1=t
 ·subst h
  rw [if_pos rfl,Gfa hi]
  exact V5.2 (.inl rfl)
 ·rw [if_neg h]
  cases hg:gt l t with
  |none=>
   refine Nk.2 λ y hy=>?_
   rcases V5.1 hy with rfl|hy
   ·exact h
   ·exact Nk.1 hg y hy
  |some b=>
   rw [Gfa hi]
   exact V5.2 (.inr (Oz hg))
theorem Xxa:∀ {l m:List Nmd},Gp l→Gp m→(∀ s,gt l s=gt m s)→l=m:=by
 have key:∀ {l m:List Nmd},Gp l→Gp m→(∀ s,gt l s=gt m s)→∀ x∈l,x∈m:=λ hl hm h x hx=>by
  have:=h x.1
  rw [J8a hl hx] at this
  exact Oz this.symm
 intro l m hl hm h
 have h1:∀ x,x∈l↔x∈m:=λ x=>⟨key hl hm h x,key hm hl (λ s=>(h s).symm) x⟩
 clear h key
 induction l generalizing m with
 |nil=>
  cases m with
  |nil=>rfl
  |cons y m=>exact absurd ((h1 y).2 (by simp)) (by simp)
 |cons x l ih=>
  cases m with
  |nil=>exact absurd ((h1 x).1 (by simp)) (by simp)
  |cons y m=>
   obtain ⟨a1,a2⟩:=List.pairwise_cons.1 hl
   obtain ⟨b1,b2⟩:=List.pairwise_cons.1 hm
   have e:x=y:=by
    rcases List.mem_cons.1 ((h1 x).1 (by simp)) with h|h
    ·exact h
    ·rcases List.mem_cons.1 ((h1 y).2 (by simp)) with h'|h'
     ·exact h'.symm
     ·have c1:=a1 y h'
      rw [A7a (b1 x h)] at c1
      cases c1
   subst e
   congr 1
   refine ih a2 b2 λ z=>⟨λ hz=>?_,λ hz=>?_⟩
   ·rcases List.mem_cons.1 ((h1 z).1 (List.mem_cons_of_mem _ hz)) with rfl|h
    ·have c:=a1 z hz
     rw [Lj] at c
     cases c
    ·exact h
   ·rcases List.mem_cons.1 ((h1 z).2 (List.mem_cons_of_mem _ hz)) with rfl|h
    ·have c:=b1 z hz
     rw [Lj] at c
     cases c
    ·exact h
theorem Rwa (l:List Nmd) (s:ByteArray):rdN l s=match gt l s with|some b=>(b,true)|none=>([],false):=by
 unfold rdN gt
 cases fnd l s<;>rfl
theorem Ir {s:ByteArray} (h:Ar s=true):Km s:=by
 have:=(Aea h).2
 unfold Km
 omega
theorem F5 {d:Dsk}:B4 d=true↔J6 d.1=true∧J6 d.2=true:=by
 unfold B4
 rw [Bool.and_eq_true]
theorem N7 {d:Dsk} (h:B4 d=true):Gp d.1:=(Ap.1 (F5.1 h).1).1
theorem Qe {d:Dsk} (h:B4 d=true):Gp d.2:=(Ap.1 (F5.1 h).2).1
def LB (l:List Nmd):Prop:=∀ x∈l,An x.2
def DB (d:Dsk):Prop:=LB d.1∧LB d.2
theorem LB.cut {l:List Nmd} (h:LB l) (s:ByteArray):LB (cut l s):=λ x hx=>h x (Oi.subset hx)
theorem LB.ins {l:List Nmd} (h:LB l) {x:Nmd} (hx:An x.2):LB (ins l x):=λ y hy=>by
 rcases V5.1 hy with rfl|hy
 ·exact hx
 ·exact h y hy
theorem LB.gt {l:List Nmd} (h:LB l) {s:ByteArray} {b:List Int} (hg:gt l s=some b):An b:=h _ (Oz hg)
theorem Nr:An []:=λ x hx=>by cases hx
def wr (l:List Nmd) (s:ByteArray) (b:List Int):List Nmd:=ins (cut l s) (s,b)
def sy (d:Dsk) (s:ByteArray):List Nmd:=match gt d.1 s with
 |some b=>wr d.2 s b
 |none=>cut d.2 s
def wrD (d:Dsk) (s:ByteArray) (b:List Int):Dsk×Bool:=bif decide (b.length≤400)&&decide ((wr d.1 s b).length≤60) then ((wr d.1 s b,d.2),true) else (d,false)
def syD (d:Dsk) (s:ByteArray):Dsk×Bool:=bif decide ((sy d s).length≤60) then ((d.1,sy d s),true) else (d,false)
def rmD (d:Dsk) (s:ByteArray):Dsk×Bool:=bif (gt d.1 s).isSome then ((cut d.1 s,d.2),true) else (d,false)
section
variable {d:Dsk} {s:ByteArray} {b:List Int}
theorem Rxa (hd:B4 d=true):wrI d s b=wr d.1 s b:=by
 unfold wrI wr
 rw [V3 (N7 hd)]
theorem Rya (hd:B4 d=true):syI d s=sy d s:=by
 unfold syI sy gt wr
 rw [V3 (Qe hd)]
 cases fnd d.1 s<;>rfl
theorem Nwa (hd:B4 d=true) (hs:Ar s=true) (hb:b.length≤1000000000000):Tot (λ k=>E7 k d s b) (λ r=>r=wrD d s b):=by
 refine (Rra d s b (Pq hd) (Ir hs) hb).mono ?_
 rintro r rfl
 rw [hd,hs,Rxa hd]
 rfl
theorem Nxa (hd:B4 d=true) (hs:Ar s=true) (hb:b.length≤1000000000000):Tot (λ k=>E5 k d s b) (λ r=>r=wrD d s b):=by
 refine (Rpa d s b (Pq hd) (Ir hs) hb).mono ?_
 rintro r rfl
 obtain ⟨h1,h2⟩:=Lxa (b:=b) hd hs
 rw [hd,hs,h1,h2,Rxa hd]
 rfl
theorem Rza (hd:B4 d=true) (hs:Ar s=true):Tot (λ k=>De k d s) (λ r=>r=syD d s):=by
 refine (Vka d s (Pq hd) (Ir hs)).mono ?_
 rintro r rfl
 rw [hd,hs,Rya hd]
 rfl
theorem Ala (hd:B4 d=true) (hs:Ar s=true):Tot (λ k=>Bb k d s) (λ r=>r=syD d s):=by
 refine (Vja d s (Pq hd) (Ir hs)).mono ?_
 rintro r rfl
 rw [hd,hs,A2b hd,Rqa hd hs,Rya hd]
 rfl
theorem A6b (hd:B4 d=true) (hs:Ar s=true) (hb:b.length≤400) (hl:(wr d.1 s b).length≤60):B4 (wr d.1 s b,d.2)=true:=by
 have:=(Lxa (b:=b) hd hs).2
 rw [Rxa hd,decide_eq_true hb,decide_eq_true hl] at this
 exact this
theorem E4b (hd:B4 d=true) (hs:Ar s=true) (hl:(sy d s).length≤60):B4 (d.1,sy d s)=true:=by
 have:=Rqa hd hs
 rw [Rya hd,decide_eq_true hl] at this
 exact this
theorem S0a (hd:B4 d=true) (hs:Ar s=true):B4 (wrD d s b).1=true:=by
 unfold wrD
 cases hc:decide (b.length≤400)&&decide ((wr d.1 s b).length≤60) with
 |false=>exact hd
 |true=>
  rw [Bool.and_eq_true,decide_eq_true_iff,decide_eq_true_iff] at hc
  exact A6b hd hs hc.1 hc.2
theorem Ckb (hd:B4 d=true) (hs:Ar s=true):B4 (syD d s).1=true:=by
 unfold syD
 cases hc:decide ((sy d s).length≤60) with
 |false=>exact hd
 |true=>exact E4b hd hs (of_decide_eq_true hc)
theorem Xya (hd:B4 d=true):B4 (rmD d s).1=true:=by
 unfold rmD
 cases (gt d.1 s).isSome with
 |false=>exact hd
 |true=>exact F5.2 ⟨W7 (F5.1 hd).1,(F5.1 hd).2⟩
theorem S1a (hd:B4 d=true) (h:(gt d.1 s).isSome=true):Ar s=true:=by
 cases hg:gt d.1 s with
 |none=>rw [hg] at h; cases h
 |some b=>exact (Qb.1 ((Ap.1 (F5.1 hd).1).2.1 _ (Oz hg))).1
theorem Ama (hd:B4 d=true) (hs:Km s):Tot (λ k=>C4 k d s) (λ r=>r=rmD d s):=by
 refine (Nua d s (Pq hd).1 hs).mono ?_
 rintro r rfl
 unfold rmD
 rw [hd,← Gga]
 cases h:(gt d.1 s).isSome with
 |false=>rfl
 |true=>
  have h1:B4 (cut d.1 s,d.2)=true:=by
   have:=Xya (s:=s) hd
   unfold rmD at this
   rw [h] at this
   exact this
  rw [S1a hd h,h1]
  rfl
end
def lkD (d:Dsk) (s:ByteArray):Fil×Int:=match gt d.1 s with
 |none=>(Dxa,1)
 |some b=>match Nj b with
  |some f=>(f,0)
  |none=>(Dxa,2)
theorem S2a {l:List Nmd} {s:ByteArray} {b:List Int} (h:Eia l) (hg:gt l s=some b):b.length≤1000000000000:=h.2 _ (Oz hg)
theorem Vpa {d:Dsk} (hf:Eia d.1) (hb:LB d.1) (s:ByteArray):Tot (λ k=>M4 k d s) (λ r=>r=lkD d s):=by
 unfold M4 lkD
 refine Tot.bind (Lua d s hf) ?_
 rintro r rfl
 rw [Rwa]
 cases hg:gt d.1 s with
 |none=>exact Tot.yes rfl (Tot.pure rfl)
 |some b=>
  refine Tot.no rfl (Tot.bind (Oj b (hb.gt hg) (S2a hf hg)) ?_)
  rintro r rfl
  unfold S9
  dsimp only
  cases Nj b with
  |none=>exact Tot.yes rfl (Tot.pure rfl)
  |some f=>exact Tot.no rfl (Tot.pure rfl)
theorem Xo {d:Dsk} (hf:Eia d.1) (hb:LB d.1) (s:ByteArray):Tot (λ k=>I2 k d s) (λ r=>r=lkD d s):=by
 unfold I2 lkD
 refine Tot.bind (Lva d s hf) ?_
 rintro r rfl
 rw [Rwa]
 cases hg:gt d.1 s with
 |none=>exact Tot.yes rfl (Tot.pure rfl)
 |some b=>
  refine Tot.no rfl (Tot.bind (Aka b (hb.gt hg) (S2a hf hg)) ?_)
  rintro r rfl
  unfold S9
  dsimp only
  cases Nj b with
  |none=>exact Tot.yes rfl (Tot.pure rfl)
  |some f=>exact Tot.no rfl (Tot.pure rfl)
theorem Rd {d:Dsk} {s:ByteArray} {f:Fil}:lkD d s=(f,0)↔∃ b,gt d.1 s=some b∧Nj b=some f:=by
 unfold lkD
 cases gt d.1 s with
 |none=>simp
 |some b=>cases h:Nj b<;>simp [h]
def old (d:Dsk) (s:ByteArray):Option Fil:=(gt d.1 s).bind Nj
def kp1 (d:Dsk) (s:ByteArray) (f:Fil):Option (Dsk×Int):=
 let w:=bif (wrD d s (Ls f)).2 then some ((wrD d s (Ls f)).1,(0:Int)) else none
 match old d s with
 |some o=>bif sle o.1 f.1 then w else some (d,1)
 |none=>w
def kp2 (d:Dsk) (s:ByteArray) (sure:Bool) (x:Dsk×Int):Dsk×Int:=bif sure then (bif (syD x.1 s).2 then ((syD x.1 s).1,x.2) else (d,3)) else x
def Ms (d:Dsk) (s:ByteArray) (f:Fil) (sure:Bool):Dsk×Int:=match kp1 d s f with
 |some x=>kp2 d s sure x
 |none=>(d,3)
def keep (d:Dsk) (s:ByteArray) (f:Fil) (sure:Bool):Dsk×Int:=bif B4 d&&(Ar s&&Eb f) then Ms d s f sure else (d,2)
theorem Vqa:Nj []=none:=by
 cases h:Nj [] with
 |none=>rfl
 |some f=>
  obtain ⟨h1,_,h3⟩:=J6a h
  unfold Ls at h3
  rw [h1] at h3
  simp [c4] at h3
theorem Clb {d:Dsk} {s:ByteArray} {f:Fil} (hd:B4 d=true) (hs:Ar s=true) {x:Dsk×Int} (h:kp1 d s f=some x):B4 x.1=true:=by
 have hw:∀ x,(bif (wrD d s (Ls f)).2 then some ((wrD d s (Ls f)).1,(0:Int)) else none)=some x→B4 x.1=true:=by
  intro x h
  cases hc:(wrD d s (Ls f)).2 with
  |false=>rw [hc] at h; cases h
  |true=>rw [hc] at h; cases h; exact S0a hd hs
 unfold kp1 at h
 simp only at h
 split at h
 ·rename_i o _
  cases hc:sle o.1 f.1 with
  |false=>rw [hc] at h; cases h; exact hd
  |true=>rw [hc] at h; exact hw _ h
 ·exact hw _ h
theorem Cmb {d:Dsk} {s:ByteArray} (hd:B4 d=true) (hs:Ar s=true) {x:Dsk} {c:Int} (hx:B4 x=true) (sure:Bool):
  Tot (λ k=>cond sure ((De k x s).bind λ r=>cond (!r.2) ((Ae k d).bind λ q=>some (q,3)) (some (r.1,c))) (some (x,c))) (λ r=>r=kp2 d s sure (x,c)):=by
 unfold kp2
 cases sure with
 |false=>exact Tot.pure rfl
 |true=>
  refine Tot.yes rfl (Tot.bind (Rza hx hs) ?_)
  rintro r rfl
  cases h:(syD x s).2 with
  |true=>exact Tot.no rfl (Tot.pure rfl)
  |false=>
   refine Tot.yes rfl (Tot.bind (Kx d (Pq hd).1.1) ?_)
   rintro q rfl
   exact Tot.pure rfl
theorem Vra (d:Dsk) (s:ByteArray) (f:Fil) (sure:Bool) (hd:DIn d) (hb:LB d.1) (hs:Km s):Tot (λ k=>M5 k d s f sure) (λ r=>r=keep d s f sure):=by
 have bad:Tot (λ k=>(Ae k d).bind λ r2=>some (r2,(2:Int))) (λ r=>r=(d,2)):=by
  refine Tot.bind (Kx d hd.1.1) ?_
  rintro q rfl
  exact Tot.pure rfl
 unfold M5 keep
 refine Tot.bind (Xk d hd.1.1 hd.1.2) ?_
 rintro r rfl
 cases h1:B4 d with
 |false=>exact Tot.yes rfl bad
 |true=>
  refine Tot.no rfl (Tot.bind (Np s hs) ?_)
  rintro r rfl
  cases h2:Ar s with
  |false=>exact Tot.yes rfl bad
  |true=>
   refine Tot.no rfl (Tot.bind (Tot.of (Q:=λ b=>b=Eb f) (Xl f) rfl) ?_)
   rintro r rfl
   cases h3:Eb f with
   |false=>exact Tot.yes rfl bad
   |true=>
    refine Tot.no rfl (Tot.bind (Kx d hd.1.1) ?_)
    rintro d rfl
    refine Tot.bind (Lua d s hd.1.1.1) ?_
    rintro r rfl
    have hlen:=Dya f
    have w:∀ {o:Option Fil},(kp1 d s f=bif (wrD d s (Ls f)).2 then some ((wrD d s (Ls f)).1,(0:Int)) else none)→Tot (λ k=>(F7 k f).bind λ r13=>(E7 k d s r13).bind λ r14=>cond (!r14.2) ((Ae k d).bind λ r15=>some (r15,(3:Int))) (cond sure ((De k r14.1 s).bind λ r16=>cond (!r16.2) ((Ae k d).bind λ r17=>some (r17,3)) (some (r16.1,0))) (some (r14.1,0)))) (λ r=>r=Ms d s f sure):=by
     intro _ e
     refine Tot.bind (Qd f) ?_
     rintro r rfl
     refine Tot.bind (Nwa h1 h2 (by omega)) ?_
     rintro r rfl
     unfold Ms
     rw [e]
     cases h4:(wrD d s (Ls f)).2 with
     |false=>
      refine Tot.yes rfl (Tot.bind (Kx d hd.1.1) ?_)
      rintro q rfl
      exact Tot.pure rfl
     |true=>exact Tot.no rfl (Cmb h1 h2 (S0a h1 h2) sure)
    rw [Rwa]
    have eo:old d s=(gt d.1 s).bind Nj:=rfl
    cases hg:gt d.1 s with
    |none=>
     rw [hg] at eo
     refine Tot.bind (Oj [] Nr (by simp)) ?_
     rintro r rfl
     unfold S9
     rw [Vqa]
     refine Tot.no rfl (w (o:=none) ?_)
     unfold kp1
     rw [eo]
     rfl
    |some b=>
     rw [hg] at eo
     have eo:old d s=Nj b:=eo
     refine Tot.bind (Oj b (hb.gt hg) (S2a hd.1.1.1 hg)) ?_
     rintro r rfl
     unfold S9
     cases ho:Nj b with
     |none=>
      refine Tot.no rfl (w (o:=none) ?_)
      unfold kp1
      rw [eo,ho]
     |some o=>
      rw [ho] at eo
      refine Tot.yes rfl (Tot.bind (Tot.of (Q:=λ b=>b=sle o.1 f.1) (Gea f o) rfl) ?_)
      rintro r rfl
      cases hl:sle o.1 f.1 with
      |true=>
       refine Tot.no rfl (w (o:=none) ?_)
       unfold kp1
       simp only [eo,hl,cond_true]
      |false=>
       have e1:Ms d s f sure=kp2 d s sure (d,1):=by
        unfold Ms kp1
        simp only [eo,hl,cond_false]
       refine Tot.yes rfl ?_
       show Tot _ (λ r=>r=Ms d s f sure)
       rw [e1]
       exact Cmb h1 h2 h1 sure
theorem Cnb {d:Dsk} {s:ByteArray} (hd:B4 d=true) (hs:Ar s=true) {x:Dsk} {c:Int} (hx:B4 x=true):
  Tot (λ k=>(Bb k x s).bind λ r=>cond (!r.2) ((A5 k d).bind λ q=>some (q,3)) (some (r.1,c))) (λ r=>r=kp2 d s true (x,c)):=by
 unfold kp2
 refine Tot.bind (Ala hx hs) ?_
 rintro r rfl
 cases h:(syD x s).2 with
 |true=>exact Tot.no rfl (Tot.pure rfl)
 |false=>
  refine Tot.yes rfl (Tot.bind (M1 d (Pq hd).1.1) ?_)
  rintro q rfl
  exact Tot.pure rfl
theorem M1a (d:Dsk) (s:ByteArray) (f:Fil) (sure:Bool) (hd:DIn d) (hb:LB d.1) (hs:Km s):Tot (λ k=>Kt k d s f sure) (λ r=>r=keep d s f sure):=by
 have bad:Tot (λ k=>(A5 k d).bind λ r2=>some (r2,(2:Int))) (λ r=>r=(d,2)):=by
  refine Tot.bind (M1 d hd.1.1) ?_
  rintro q rfl
  exact Tot.pure rfl
 unfold Kt keep
 refine Tot.bind (Qa d hd.1.1 hd.1.2) ?_
 rintro r rfl
 cases h1:B4 d with
 |false=>exact Tot.yes rfl bad
 |true=>
  refine Tot.no rfl (Tot.bind (Q8 s hs) ?_)
  rintro r rfl
  cases h2:Ar s with
  |false=>exact Tot.yes rfl bad
  |true=>
   refine Tot.no rfl (Tot.bind (Tot.of (Q:=λ b=>b=Eb f) (Xm f) rfl) ?_)
   rintro r rfl
   cases h3:Eb f with
   |false=>exact Tot.yes rfl bad
   |true=>
    refine Tot.no rfl (Tot.bind (Xo hd.1.1.1 hb s) ?_)
    rintro r rfl
    have hlen:=Dya f
    have w:(kp1 d s f=bif (wrD d s (Ls f)).2 then some ((wrD d s (Ls f)).1,(0:Int)) else none)→Tot (λ k=>(F9 k f).bind λ r12=>(E5 k d s r12).bind λ r13=>cond r13.2 (cond sure ((Bb k r13.1 s).bind λ r14=>cond (!r14.2) ((A5 k d).bind λ r15=>some (r15,(3:Int))) (some (r14.1,0))) (cond (!r13.2) ((A5 k d).bind λ r16=>some (r16,3)) (some (r13.1,0)))) (cond (!r13.2) ((A5 k d).bind λ r17=>some (r17,3)) (some (r13.1,0)))) (λ r=>r=Ms d s f sure):=by
     intro e
     refine Tot.bind (Aja f) ?_
     rintro r rfl
     refine Tot.bind (Nxa h1 h2 (by omega)) ?_
     rintro r rfl
     unfold Ms
     rw [e]
     cases h4:(wrD d s (Ls f)).2 with
     |false=>
      refine Tot.no rfl (Tot.yes rfl (Tot.bind (M1 d hd.1.1) ?_))
      rintro q rfl
      exact Tot.pure rfl
     |true=>
      refine Tot.yes rfl ?_
      cases sure with
      |true=>exact Tot.yes rfl (Cnb h1 h2 (S0a h1 h2))
      |false=>exact Tot.no rfl (Tot.no rfl (Tot.pure rfl))
    have eo:old d s=(gt d.1 s).bind Nj:=rfl
    unfold lkD
    cases hg:gt d.1 s with
    |none=>
     rw [hg] at eo
     refine Tot.no rfl (w ?_)
     unfold kp1
     rw [eo]
     rfl
    |some b=>
     rw [hg] at eo
     have eo:old d s=Nj b:=eo
     simp only
     cases ho:Nj b with
     |none=>
      refine Tot.no rfl (w ?_)
      unfold kp1
      rw [eo,ho]
     |some o=>
      rw [ho] at eo
      refine Tot.yes rfl (Tot.bind (Tot.of (Q:=λ b=>b=sle o.1 f.1) (Rta f o) rfl) ?_)
      rintro r rfl
      cases hl:sle o.1 f.1 with
      |true=>
       refine Tot.no rfl (w ?_)
       unfold kp1
       simp only [eo,hl,cond_true]
      |false=>
       have e1:Ms d s f sure=kp2 d s sure (d,1):=by
        unfold Ms kp1
        simp only [eo,hl,cond_false]
       refine Tot.yes rfl ?_
       show Tot _ (λ r=>r=Ms d s f sure)
       rw [e1]
       refine Tot.bind (M1 d hd.1.1) ?_
       rintro q rfl
       cases sure with
       |true=>exact Tot.yes rfl (Cnb h1 h2 h1)
       |false=>exact Tot.no rfl (Tot.pure rfl)

def DG (d:Dsk):Prop:=B4 d=true∧DB d
theorem Xza {d:Dsk} {s:ByteArray} {b:List Int} (hd:B4 d=true) (h:gt d.1 s=some b):b.length≤400:=(Qb.1 ((Ap.1 (F5.1 hd).1).2.1 _ (Oz h))).2
theorem Cob {d:Dsk} {s:ByteArray} {b:List Int} (h:DB d) (hb:An b):DB (wrD d s b).1:=by
 unfold wrD
 cases decide (b.length≤400)&&decide ((wr d.1 s b).length≤60) with
 |false=>exact h
 |true=>exact ⟨(h.1.cut s).ins hb,h.2⟩
theorem E5b {d:Dsk} {s:ByteArray} (h:DB d):LB (sy d s):=by
 unfold sy
 cases hg:gt d.1 s with
 |none=>exact h.2.cut s
 |some b=>exact (h.2.cut s).ins (h.1.gt hg)
theorem Cpb {d:Dsk} {s:ByteArray} (h:DB d):DB (syD d s).1:=by
 unfold syD
 cases decide ((sy d s).length≤60) with
 |false=>exact h
 |true=>exact ⟨h.1,E5b h⟩
theorem Cqb {d:Dsk} {s:ByteArray} (h:DB d):DB (rmD d s).1:=by
 unfold rmD
 cases (gt d.1 s).isSome with
 |false=>exact h
 |true=>exact ⟨h.1.cut s,h.2⟩
theorem Crb {d:Dsk} {s:ByteArray} (h:DG d) (hs:Ar s=true):DG (syD d s).1:=⟨Ckb h.1 hs,Cpb h.2⟩
theorem A7b {d:Dsk} {s:ByteArray} (h:DG d):DG (rmD d s).1:=⟨Xya h.1,Cqb h.2⟩
theorem Csb {d:Dsk} {s:ByteArray} {f:Fil} (hd:DG d) (hs:Ar s=true) {x:Dsk×Int} (h:kp1 d s f=some x):DG x.1:=by
 refine ⟨Clb hd.1 hs h,?_⟩
 have hw:∀ x,(bif (wrD d s (Ls f)).2 then some ((wrD d s (Ls f)).1,(0:Int)) else none)=some x→DB x.1:=by
  intro x h
  cases hc:(wrD d s (Ls f)).2 with
  |false=>rw [hc] at h; cases h
  |true=>rw [hc] at h; cases h; exact Cob hd.2 (Ry f)
 unfold kp1 at h
 simp only at h
 split at h
 ·rename_i o _
  cases hc:sle o.1 f.1 with
  |false=>rw [hc] at h; cases h; exact hd.2
  |true=>rw [hc] at h; exact hw _ h
 ·exact hw _ h
theorem E6b {d:Dsk} {s:ByteArray} {sure:Bool} (hd:DG d) (hs:Ar s=true) {x:Dsk×Int} (hx:DG x.1):DG (kp2 d s sure x).1:=by
 unfold kp2
 cases sure with
 |false=>exact hx
 |true=>
  rw [cond_true]
  cases (syD x.1 s).2 with
  |false=>exact hd
  |true=>exact Crb hx hs
theorem S3a {d:Dsk} {s:ByteArray} {f:Fil} {sure:Bool} (hd:DG d) (hs:Ar s=true):DG (Ms d s f sure).1:=by
 unfold Ms
 cases h:kp1 d s f with
 |none=>exact hd
 |some x=>exact E6b hd hs (Csb hd hs h)
theorem Y0a {d:Dsk} {s:ByteArray} {f:Fil} {sure:Bool} (hd:DG d):DG (keep d s f sure).1:=by
 unfold keep
 cases h:Ar s with
 |false=>rw [hd.1]; exact hd
 |true=>
  cases Eb f with
  |false=>rw [hd.1]; exact hd
  |true=>rw [hd.1]; exact S3a hd h
def Bda (b:Int) (j:Nat):Int:=((BitVec.ofInt 8 b ^^^ BitVec.twoPow 8 j).toNat:Int)
theorem M2a (b:Int) (j:Nat):0≤Bda b j∧Bda b j≤255:=by
 unfold Bda
 have:=(BitVec.ofInt 8 b ^^^ BitVec.twoPow 8 j).isLt
 omega
theorem A8b (b:Int):∀ j,j<8→IntKind.wrap .u8 ((BitVec.ofInt (IntKind.bits .u8) b ^^^ BitVec.ofInt (IntKind.bits .u8) (IntKind.wrap .u8 ((1:Int) * 2 ^ (min j (IntKind.bits .u8))))).toNat)=Bda b j:=by
 intro j hj
 have h1:∀ j,j<8→BitVec.ofInt 8 (IntKind.wrap .u8 ((1:Int) * 2 ^ (min j 8)))=BitVec.twoPow 8 j:=by decide
 show IntKind.wrap .u8 (((BitVec.ofInt 8 b ^^^ BitVec.ofInt 8 (IntKind.wrap .u8 ((1:Int) * 2 ^ (min j 8)))).toNat:Nat):Int)=_
 rw [h1 j hj]
 have:=(BitVec.ofInt 8 b ^^^ BitVec.twoPow 8 j).isLt
 rw [G6a _ (by omega)]
 rfl
theorem Vsa {b:Int} (hb:0≤b∧b≤255) {j:Nat} (hj:j<8):Bda b j≠b:=by
 intro h
 unfold Bda at h
 have h1:b=((BitVec.ofInt 8 b).toNat:Int):=by rw [BitVec.toNat_ofInt]; omega
 have h2:(BitVec.ofInt 8 b ^^^ BitVec.twoPow 8 j).toNat=(BitVec.ofInt 8 b).toNat:=by omega
 have h3:=BitVec.eq_of_toNat_eq h2
 have h4:BitVec.twoPow 8 j=0#8:=by
  have:=congrArg (λ x=>BitVec.ofInt 8 b ^^^ x) h3
  simpa [← BitVec.xor_assoc] using this
 have h5:∀ j,j<8→BitVec.twoPow 8 j≠0#8:=by decide
 exact h5 j hj h4
def Nl (l:List Int) (n:Nat):List Int:=l.set (n / 8) (Bda (l.getD (n / 8) 0) (n % 8))
theorem Gha (l:List Int) (n:Nat):(Nl l n).length=l.length:=by unfold Nl; rw [List.length_set]
theorem J9a {l:List Int} (h:An l) (n:Nat):An (Nl l n):=λ x hx=>by
 rcases List.mem_or_eq_of_mem_set hx with h'|rfl
 ·exact h x h'
 ·exact M2a _ _
def Hea (d:Dsk) (s:ByteArray) (n:Int):Dsk×Bool:=match gt d.1 s with
 |none=>(d,false)
 |some b=>bif inR n 0 (8 * (b.length:Int) - 1) then ((wr d.1 s (Nl b n.toNat),bif decide (gt d.2 s=some b) then wr d.2 s (Nl b n.toNat) else d.2),true) else (d,false)
theorem S4a {l:List Nmd} (hs:Gp l) {s:ByteArray} {i:Nat} (h:fnd l s=some i) (b:List Int):l.set i (s,b)=wr l s b:=by
 obtain ⟨hi,hn⟩:=Oh h
 have hm:(l.set i (s,b)).map Prod.fst=l.map Prod.fst:=by
  rw [List.map_set]
  apply List.ext_getElem?
  intro j
  by_cases hj:i=j
  ·subst hj
   rw [List.getElem?_set_self (by rw [List.length_map]; exact hi),List.getElem?_map,List.getElem?_eq_getElem hi]
   rw [List.getD_eq_getElem?_getD,List.getElem?_eq_getElem hi] at hn
   exact congrArg some hn.symm
  ·rw [List.getElem?_set_ne hj]
 have h1:Gp (l.set i (s,b)):=by
  have e:∀ m:List Nmd,Gp m↔(m.map Prod.fst).Pairwise (λ a b=>tlt a b=true):=λ m=>by
   unfold Gp
   rw [List.pairwise_map]
  rw [e,hm,← e]
  exact hs
 refine Xxa h1 (Rx (Nh hs) Aga) λ t=>?_
 have h2:=Xwa (x:=(s,b)) (t:=t) (Nh hs (s:=s)) Aga
 unfold wr
 rw [h2]
 by_cases ht:s=t
 ·subst ht
  rw [if_pos rfl,Gfa h1]
  exact List.mem_set hi _
 ·rw [if_neg ht,U6 hs,if_neg ht]
  cases hg:gt l t with
  |none=>
   refine Nk.2 λ x hx=>?_
   rcases List.mem_or_eq_of_mem_set hx with h'|rfl
   ·exact Nk.1 hg x h'
   ·exact ht
  |some c=>
   rw [Gfa h1]
   obtain ⟨j,hj,e⟩:=List.mem_iff_getElem.1 (Oz hg)
   have hij:i≠j:=by
    rintro rfl
    rw [List.getD_eq_getElem?_getD,List.getElem?_eq_getElem hi,Option.getD_some,e] at hn
    exact ht hn.symm
   refine List.mem_iff_getElem.2 ⟨j,by rw [List.length_set]; exact hj,?_⟩
   rw [List.getElem_set_ne hij]
   exact e
theorem Gia {l:List Nmd} {s:ByteArray} {b:List Int} (hs:Gp l) (h:(gt l s).isSome=true):(wr l s b).length=l.length:=by
 rw [Gga] at h
 obtain ⟨i,hi⟩:=Option.isSome_iff_exists.1 h
 rw [← S4a hs hi,List.length_set]
theorem Ctb {d:Dsk} {s:ByteArray} {n:Int} (h:DG d):DG (Hea d s n).1:=by
 unfold Hea
 cases hg:gt d.1 s with
 |none=>exact h
 |some b=>
  simp only
  cases inR n 0 (8 * (b.length:Int) - 1) with
  |false=>exact h
  |true=>
   have hn:=S1a h.1 (s:=s) (by rw [hg]; rfl)
   have hb:=Xza h.1 hg
   have hbb:=J9a (h.2.1.gt hg) n.toNat
   have l1:=Gia (b:=Nl b n.toNat) (N7 h.1) (s:=s) (by rw [hg]; rfl)
   have q1:=A6b h.1 hn (b:=Nl b n.toNat) (by rw [Gha]; exact hb) (by rw [l1]; exact (Ap.1 (F5.1 h.1).1).2.2)
   rw [cond_true]
   cases hc:decide (gt d.2 s=some b) with
   |false=>exact ⟨q1,(h.2.1.cut s).ins hbb,h.2.2⟩
   |true=>
    have hg2:=of_decide_eq_true hc
    have l2:=Gia (b:=Nl b n.toNat) (Qe h.1) (s:=s) (by rw [hg2]; rfl)
    have h':B4 (d.2,d.1)=true:=F5.2 ⟨(F5.1 h.1).2,(F5.1 h.1).1⟩
    have q2:=A6b h' hn (b:=Nl b n.toNat) (by rw [Gha]; exact hb) (by show (wr d.2 s _).length≤60; rw [l2]; exact (Ap.1 (F5.1 h.1).2).2.2)
    exact ⟨F5.2 ⟨(F5.1 q1).1,(F5.1 q2).1⟩,(h.2.1.cut s).ins hbb,(h.2.2.cut s).ins hbb⟩
theorem A9b {d:Dsk} {s:ByteArray} {n:Int} (h:DG d) (hn:n≤9223372036854775807) (hn0 : -9223372036854775808≤n):Tot (λ k=>Kf k d s n) (λ r=>r=Hea d s n):=by
 have hin:=Pq h.1
 unfold Kf
 refine Tot.bind (M1 d hin.1.1) ?_
 rintro d rfl
 refine Tot.bind (Cfa d.1 s hin.1.1.1.1) ?_
 rintro r rfl
 refine Tot.bind (Qa d hin.1.1 hin.1.2) ?_
 rintro r rfl
 rw [h.1]
 refine Tot.no rfl ?_
 unfold Hea
 unfold Dua
 cases hf:fnd d.1 s with
 |none=>
  have hg:gt d.1 s=none:=by unfold gt; rw [hf]
  rw [hg]
  exact Tot.dec (by decide) (Tot.pure rfl)
 |some i=>
  have hg:gt d.1 s=some (d.1.getD i Ed).2:=by unfold gt; rw [hf]
  have hi:=(Oh hf).1
  have hnm:=(Oh hf).2
  have hb:=Xza h.1 hg
  rw [hg]
  have e0:d.1.getD i ((⟨#[]⟩:ByteArray),([]:List Int))=d.1.getD i Ed:=rfl
  simp only [Int.toNat_natCast,e0]
  refine Tot.ndec (by omega) (Tot.dec (by omega) (Tot.dec (by omega) ?_))
  rw [w64 (n:=8 * ((d.1.getD i Ed).2.length:Int)) (by omega) (by omega),w64 (n:=8 * ((d.1.getD i Ed).2.length:Int) - 1) (by omega) (by omega)]
  refine Tot.bind (Tot.of (Q:=λ b=>b=inR n 0 (8 * ((d.1.getD i Ed).2.length:Int) - 1)) (Nz _ _ _) rfl) ?_
  rintro r rfl
  cases hr:inR n 0 (8 * ((d.1.getD i Ed).2.length:Int) - 1) with
  |false=>exact Tot.yes rfl (Tot.pure rfl)
  |true=>
   obtain ⟨n0,n1⟩:=Fh.1 hr
   obtain ⟨m,rfl⟩:∃ m:Nat,n=(m:Int):=⟨n.toNat,by omega⟩
   have hm8:m / 8<(d.1.getD i Ed).2.length:=by omega
   have et:IntKind.wrap .i64 (Int.tdiv (m:Int) 8)=((m / 8:Nat):Int):=by
    rw [Int.tdiv_eq_ediv_of_nonneg (by omega),w64 (by omega) (by omega)]
    omega
   have eu:IntKind.wrap .u64 (Int.tmod (m:Int) 8)=((m % 8:Nat):Int):=by
    have h8:∀ j:Nat,j<8→IntKind.wrap .u64 (j:Int)=(j:Int):=by decide
    rw [Int.tmod_eq_emod_of_nonneg (by omega),← h8 (m % 8) (by omega)]
    congr 1
   refine Tot.no rfl (Tot.bind (Cfa d.2 s hin.1.1.2.1) ?_)
   rintro r rfl
   simp only [et,eu,Int.toNat_natCast,A8b _ _ (Nat.mod_lt m (show 0<8 by omega))]
   have ew:d.1.set i ((d.1.getD i Ed).1,Nl (d.1.getD i Ed).2 m)=wr d.1 s (Nl (d.1.getD i Ed).2 m):=by rw [hnm]; exact S4a (N7 h.1) hf _
   have ew':d.1.set i ((d.1.getD i Ed).1,(d.1.getD i Ed).2.set (m / 8) (Bda ((d.1.getD i Ed).2.getD (m / 8) 0) (m % 8)))=wr d.1 s (Nl (d.1.getD i Ed).2 m):=ew
   unfold Dua
   cases hf2:fnd d.2 s with
   |none=>
    have hg2:gt d.2 s=none:=by unfold gt; rw [hf2]
    rw [hg2]
    refine Tot.ndec (by decide) (Tot.dec (by omega) (Tot.dec (by omega) (Tot.dec (by omega) (Tot.dec (by omega) (Tot.ndec (by omega) (Tot.dec (by omega) (Tot.dec (by omega) (Tot.pure ?_))))))))
    rw [ew']
    rfl
   |some j=>
    have hg2:gt d.2 s=some (d.2.getD j Ed).2:=by unfold gt; rw [hf2]
    have hj:=(Oh hf2).1
    have hjn:=(Oh hf2).2
    have e1:d.2.getD j ((⟨#[]⟩:ByteArray),([]:List Int))=d.2.getD j Ed:=rfl
    rw [hg2]
    simp only [Int.toNat_natCast,e1]
    refine Tot.dec (by omega) (Tot.dec (by omega) (Tot.dec (by omega) (Tot.dec (by omega) (Tot.dec (by omega) (Tot.dec (by omega) (Tot.dec (by omega) (Tot.dec (by omega) (Tot.dec (by omega) (Tot.ndec (by omega) (Tot.dec (by omega) (Tot.dec (by omega) ?_)))))))))))
    rw [U5 (h.2.2.gt hg2) (h.2.1.gt hg)]
    refine Tot.dite (λ he=>?_) (λ he=>?_)
    ·have hl2:(d.2.getD j Ed).2.length=(d.1.getD i Ed).2.length:=by rw [he]
     refine Tot.dec (by omega) (Tot.dec (by omega) (Tot.dec (by omega) (Tot.dec (by omega) (Tot.ndec (by omega) (Tot.dec (by omega) (Tot.dec (by omega) (Tot.pure ?_)))))))
     have ew2:d.2.set j ((d.2.getD j Ed).1,(d.2.getD j Ed).2.set (m / 8) (Bda ((d.2.getD j Ed).2.getD (m / 8) 0) (m % 8)))=wr d.2 s (Nl (d.1.getD i Ed).2 m):=by
      rw [hjn,he]
      exact S4a (Qe h.1) hf2 _
     rw [ew',ew2,he,decide_eq_true rfl]
     rfl
    ·refine Tot.pure ?_
     rw [ew',decide_eq_false (λ c=>he (Option.some.inj c))]
     rfl
theorem lb0:LB []:=λ x hx=>by cases hx
theorem dg0:DG ([],[]):=⟨by decide,⟨lb0,lb0⟩⟩

section
variable {d:Dsk} {s:ByteArray} {f:Fil} {sure:Bool}
theorem Vta (a:Stp):sle a a=false:=O8 a
theorem Gja (h1:B4 d=true) (h2:Ar s=true) (h3:Eb f=true):keep d s f sure=Ms d s f sure:=by unfold keep; rw [h1,h2,h3]; rfl
theorem Gka {x:Dsk} {c:Int}:(kp2 d s sure (x,c)=(d,3))∨(sure=false∧kp2 d s sure (x,c)=(x,c))∨(sure=true∧(sy x s).length≤60∧kp2 d s sure (x,c)=((x.1,sy x s),c)):=by
 unfold kp2 syD
 cases sure with
 |false=>exact .inr (.inl ⟨rfl,rfl⟩)
 |true=>
  rw [cond_true]
  by_cases h:(sy x s).length≤60
  ·rw [decide_eq_true h]
   exact .inr (.inr ⟨rfl,h,rfl⟩)
  ·rw [decide_eq_false h]
   exact .inl rfl
theorem S5a (hd:DG d) (hs:Ar s=true):kp1 d s f=none∨(∃ o,old d s=some o∧sle o.1 f.1=false∧kp1 d s f=some (d,1))∨((∀ o,old d s=some o→sle o.1 f.1=true)∧(wr d.1 s (Ls f)).length≤60∧kp1 d s f=some ((wr d.1 s (Ls f),d.2),0)):=by
 have hl:(Ls f).length≤400:=by have:=Dya f; omega
 have w:(bif (wrD d s (Ls f)).2 then some ((wrD d s (Ls f)).1,(0:Int)) else none)=none∨((wr d.1 s (Ls f)).length≤60∧(bif (wrD d s (Ls f)).2 then some ((wrD d s (Ls f)).1,(0:Int)) else none)=some ((wr d.1 s (Ls f),d.2),0)):=by
  unfold wrD
  rw [decide_eq_true hl,Bool.true_and]
  by_cases h:(wr d.1 s (Ls f)).length≤60
  ·rw [decide_eq_true h]; exact .inr ⟨h,rfl⟩
  ·rw [decide_eq_false h]; exact .inl rfl
 unfold kp1
 cases ho:old d s with
 |none=>
  rcases w with h|⟨h1,h2⟩
  ·exact .inl h
  ·exact .inr (.inr ⟨λ o h=>(by cases h),h1,h2⟩)
 |some o=>
  simp only
  cases hc:sle o.1 f.1 with
  |false=>exact .inr (.inl ⟨o,rfl,hc,rfl⟩)
  |true=>
   rcases w with h|⟨h1,h2⟩
   ·exact .inl h
   ·exact .inr (.inr ⟨λ o' h=>(by cases h; exact hc),h1,h2⟩)
theorem Cja (hd:DG d) (hs:Ar s=true):Ms d s f sure=(d,3)∨
  (∃ o,old d s=some o∧sle o.1 f.1=false∧(Ms d s f sure).2=1∧DG (Ms d s f sure).1∧((sure=false∧(Ms d s f sure).1=d)∨(sure=true∧(Ms d s f sure).1=(d.1,sy d s))))∨
  ((∀ o,old d s=some o→sle o.1 f.1=true)∧DG (wr d.1 s (Ls f),d.2)∧(Ms d s f sure).2=0∧DG (Ms d s f sure).1∧((sure=false∧(Ms d s f sure).1=(wr d.1 s (Ls f),d.2))∨(sure=true∧(Ms d s f sure).1=(wr d.1 s (Ls f),sy (wr d.1 s (Ls f),d.2) s)))):=by
 have hg:=S3a (f:=f) (sure:=sure) hd hs
 rcases S5a (f:=f) hd hs with h|⟨o,h1,h2,h⟩|⟨h1,h2,h⟩
 ·exact .inl (by unfold Ms; rw [h])
 ·have e:Ms d s f sure=kp2 d s sure (d,1):=by unfold Ms; rw [h]
  rcases Gka (d:=d) (s:=s) (sure:=sure) (x:=d) (c:=1) with k|⟨k0,k⟩|⟨k0,k1,k⟩
  ·exact .inl (e.trans k)
  ·rw [← e] at k
   exact .inr (.inl ⟨o,h1,h2,by rw [k],hg,.inl ⟨k0,by rw [k]⟩⟩)
  ·rw [← e] at k
   exact .inr (.inl ⟨o,h1,h2,by rw [k],hg,.inr ⟨k0,by rw [k]⟩⟩)
 ·have e:Ms d s f sure=kp2 d s sure ((wr d.1 s (Ls f),d.2),0):=by unfold Ms; rw [h]
  have hw:=Csb hd hs h
  rcases Gka (d:=d) (s:=s) (sure:=sure) (x:=(wr d.1 s (Ls f),d.2)) (c:=0) with k|⟨k0,k⟩|⟨k0,k1,k⟩
  ·exact .inl (e.trans k)
  ·rw [← e] at k
   exact .inr (.inr ⟨h1,hw,by rw [k],hg,.inl ⟨k0,by rw [k]⟩⟩)
  ·rw [← e] at k
   exact .inr (.inr ⟨h1,hw,by rw [k],hg,.inr ⟨k0,by rw [k]⟩⟩)
theorem Jaa {l:List Nmd} (hs:Gp l) {s t:ByteArray} {b:List Int}:gt (wr l s b) t=if s=t then some b else gt l t:=by
 unfold wr
 rw [Xwa (x:=(s,b)) (Nh hs) Aga]
 by_cases h:s=t
 ·rw [if_pos h,if_pos h]
 ·rw [if_neg h,if_neg h,U6 hs,if_neg h]
theorem Jba (hd:B4 d=true) {t:ByteArray}:gt (sy d s) t=if s=t then gt d.1 s else gt d.2 t:=by
 unfold sy
 cases h:gt d.1 s with
 |none=>rw [U6 (Qe hd)]
 |some b=>rw [Jaa (Qe hd)]
theorem S6a (hd:DG d) (hs:Ar s=true) (hf:Eb f=true) (hb:An f.2.2) (h:(Ms d s f true).2=0∨(Ms d s f true).2=1):
  ∃ o g b,DG o∧DG (Ms d s f true).1∧(Ms d s f true).1=(o.1,sy o s)∧gt o.1 s=some b∧Nj b=some g∧sle g.1 f.1=false:=by
 rcases Cja (f:=f) (sure:=true) hd hs with k|⟨o,h1,h2,k,hg,h3⟩|⟨h1,h2,k,hg,h3⟩
 ·rw [k] at h; rcases h with h|h<;>cases h
 ·rcases h3 with ⟨h3,_⟩|⟨_,h3⟩
  ·cases h3
  ·have ho:(gt d.1 s).bind Nj=some o:=h1
   cases hg1:gt d.1 s with
   |none=>rw [hg1] at ho; cases ho
   |some b=>
    rw [hg1] at ho
    exact ⟨d,o,b,hd,hg,h3,hg1,ho,h2⟩
 ·rcases h3 with ⟨h3,_⟩|⟨_,h3⟩
  ·cases h3
  ·exact ⟨(wr d.1 s (Ls f),d.2),f,Ls f,h2,hg,h3,by show gt (wr d.1 s (Ls f)) s=_; rw [Jaa (N7 hd.1),if_pos rfl],Xn hf hb,Vta _⟩
end

end Go.Proofs.YtmhhjceoinoekaaGreat.Vf
