import Derived.Test.YtiiekghlhfbmmaaGreatMal
set_option linter.all false
namespace Go.Proofs.YtiiekghlhfbmmaaGreat.Vf
open Go
open List (length getD)
open Int (toNat)
open Go.IntKind (wrap)
open BitVec (ofInt)
def Yd:=@Bool.and_false
def Zd:=@Bool.not_true
def Zv:=@Bool.not_false
def Frb:=@List.takeWhile_cons
def G9b:=@Bool.false_or
def Ggb:=@List.takeWhile_append_dropWhile
def Gqb:=@Int.tdiv_eq_ediv_of_nonneg
def Gwb:=@List.dropWhile_cons
def H8b:=@List.mem_filter
def Hwb:=@Bool.eq_iff_iff
def Ibb:=@List.append_cancel_left
def Ijb:=@Bool.true_or
def Ikb:=@BitVec.eq_of_toNat_eq
def Imb:=@Nat.mod_lt

def Nua (l:List Int) (x4:Int):∀ (n:Nat) (x3 i:Int),0≤i→8-i=n→Tot (λ k=>Hf k l x3 x4 i) (λ r=>r.1=l∧r.2.2=x4):=by
 intro n
 induction n with
 |zero=>
  intro x3 i h0 hn
  refine Tot.succ ?_
  simp only[Hf]
  exact Fib (by omega) (Fdb ⟨rfl,rfl⟩)
 |succ n ih=>
  intro x3 i h0 hn
  refine Tot.succ ?_
  simp only[Hf]
  refine Fhb (by omega) ?_
  rw[w64 (n:=i+1) (by omega) (by omega)]
  exact Fjb (λ _=>ih _ (i+1) (by omega) (by omega)) (λ _=>ih _ (i+1) (by omega) (by omega))
def Nva (l:List Int) (hl:l.length≤1000000000000):∀ (n i:Nat) (x3:Int),l.length-i=n→i≤l.length→Tot (λ k=>Hv k l x3 (i:Int)) (λ _=>True):=by
 intro n
 induction n with
 |zero=>
  intro i x3 hd hi
  refine Tot.succ ?_
  simp only[Hv]
  exact Fib (by omega) (Fdb trivial)
 |succ n ih=>
  intro i x3 hd hi
  refine Tot.succ ?_
  simp only[Hv]
  refine Fhb (by omega) (Fhb (by omega) (Fhb (by omega) ?_))
  refine Feb (Nua l (i:Int) 8 _ 0 (by decide) (by decide)) ?_
  rintro⟨a,b,c⟩ ⟨h1,h2⟩
  simp only at h1 h2
  subst h1 h2
  dsimp only
  rw[w64 (n:=(i:Int)+1) (by omega) (by omega)]
  exact ih (i+1) b (by omega) (by omega)
def Jca (l:List Int) (hl:l.length≤1000000000000):Tot (λ k=>L6 k l) (λ _=>True):=by
 unfold L6
 refine Feb (Nva l hl _ 0 _ rfl (Vs _)) (λ r _=>Fdb trivial)
def A7a (f:Fil) (hf:Xoa f):Tot (λ k=>B9 k f) (λ r=>r.length≤2000000):=by
 unfold B9
 have hfo:∃ b,C2 f=some b:=by
  unfold C2
  rw[Qp]
  simp only[Vo]
  cases Ga f.1<;>cases decide ((length f.2.2:Int)≤200)<;>cases f.2.1<;>exact⟨_,rfl⟩
 obtain⟨b,hb⟩:=hfo
 have hl:f.2.2.length≤9:=by have:=hf.2.2.1;omega
 refine Fpb (Fqb (Q:=λ r=>r=b) hb rfl) ?_
 refine Fjb (λ _=>Fdb (by simp)) (λ _=>?_)
 refine Fpb (C2a [] f.1 (by simp)) ?_
 refine Fpb (Fqb (Q:=λ r=>r=Hqa f.2.1) (Lta _) rfl) ?_
 have h1:=Dna f.1
 refine Fpb (Uq _ _ (by simp only[Ve,Vj];omega)) ?_
 have h2:=(No (Ch (Hqa f.2.1))).1
 have h3:(M1 f.2.2).size=f.2.2.length:=Ns _
 refine Fpb (Lsa _ _ (by simp only[Ve,Vj];omega) (by omega)) ?_
 have h4:=Rla (M1 f.2.2)
 refine Feb (Jca _ (by simp only[Ve,Vj];omega)) (λ q _=>?_)
 refine Flb (by simp only[Ve,Vc,Vj];omega) (Fdb ?_)
 simp only[Ve,Vc,Vj]
 omega
def Dpa (d out:Dsk) (s:ByteArray) (hd:Xra d∧C4a d) (ho:Xra out∧C4a out) (hs:Kd s):Tot (λ k=>Ea k d out s) (λ r=>r=bif Aq d&&(Bc s&&Aq out) then (out,true) else (d,false)):=by
 unfold Ea
 refine Fpb (Pu d hd.1 hd.2) ?_
 cases h1:Aq d with
 |false=>
  refine Fgb rfl (Fpb (Li d hd.1) ?_)
  exact Fdb rfl
 |true=>
  refine Ffb rfl (Fpb (Og s hs) ?_)
  cases h2:Bc s with
  |false=>
   refine Fgb rfl (Fpb (Li d hd.1) ?_)
   exact Fdb rfl
  |true=>
   refine Ffb rfl (Fpb (Pu out ho.1 ho.2) ?_)
   cases h3:Aq out with
   |false=>
    refine Fgb rfl (Fpb (Li d hd.1) ?_)
    exact Fdb rfl
   |true=>exact Ffb rfl (Fdb rfl)
def C6a (d:Dsk) (s:ByteArray) (hd:Xra d∧C4a d) (hs:Kd s):Tot (λ k=>Bg k d s) (λ r=>r=bif (fnd d.1 s).isSome&&(Aq d&&(Bc s&&Aq (cut d.1 s,d.2))) then ((cut d.1 s,d.2),true) else (d,false)):=by
 unfold Bg
 refine Feb (Li d hd.1) ?_
 rintro r rfl
 refine Feb (C5a r.1 s hd.1.1.1) ?_
 rintro i rfl
 unfold Rna
 cases h:fnd r.1 s with
 |none=>exact Fhb (by decide) (Fdb rfl)
 |some i=>
  dsimp only
  refine Fib (by omega) (Feb (Rpa r.1 s hd.1.1.1) ?_)
  rintro c rfl
  refine Feb (Dpa r (cut r.1 s,r.2) s hd ⟨⟨Rqa Mq hd.1.1,hd.1.2⟩,Gba Mq hd.2.1,hd.2.2⟩ hs) ?_
  rintro e rfl
  exact Fdb rfl

def ptl (x:Nmd):Bool→List Nmd→List Nmd
 |p,[]=>bif p then [] else [x]
 |p,y::l=>(bif !p&&!(tlt y.1 x.1) then [x] else [])++((bif !(teq y.1 x.1) then [y] else [])++ptl x (p||!(tlt y.1 x.1)) l)
def Jda (l:List Nmd) (s:ByteArray) (b:List Int) (hf:l.length≤1000000000000):∀ (n i:Nat) (acc:List Nmd) (p:Bool),l.length-i=n→i≤l.length→acc.length≤2*i→
  Tot (λ k=>Ck k l s acc p (i:Int) s b) (λ r=>r.1++(bif r.2.1 then [] else [(s,b)])=acc++ptl (s,b) p (l.drop i)∧r.2.2=(s,b)∧r.1.length≤2*l.length):=by
 intro n
 induction n with
 |zero=>
  intro i acc p hd hi ha
  refine Tot.succ ?_
  simp only[Ck]
  refine Fib (by omega) (Fdb ?_)
  rw[Wk (by omega)]
  exact⟨rfl,rfl,by dsimp only;omega⟩
 |succ n ih=>
  intro i acc p hd hi ha
  have hlt:i<l.length:=by omega
  refine Tot.succ ?_
  simp only[Ck]
  refine Fhb (by omega) ?_
  rw[show toNat (i:Int)=i from Vb i,w64 (n:=(i:Int)+1) (by omega) (by omega),Ap (d:=Gg) hlt]
  have e0:l.getD i ((⟨#[]⟩:ByteArray),([]:List Int))=l.getD i Gg:=rfl
  rw[e0]
  have B0:∀ (ac:List Nmd) (q:Bool),ac.length≤2*i+1→Tot (λ k=>cond (decide ((0:Int)≤i)) (cond (decide ((i:Int)<(length l:Int))) (cond (!((l.getD i Gg).1.toList==s.toList)) (cond (decide ((0:Int)≤i)) (cond (decide ((i:Int)<(length l:Int))) (cond (Nat.ble ((length ac+length [l.getD i Gg])*40) 140737488355328) (Ck k l s (ac++[l.getD i Gg]) q ((i:Int)+1) s b) none) none) none) (Ck k l s ac q ((i:Int)+1) s b)) none) none)
    (λ r=>r.1++(bif r.2.1 then [] else [(s,b)])=ac++((bif !(teq (l.getD i Gg).1 s) then [l.getD i Gg] else [])++ptl (s,b) q (l.drop (i+1)))∧r.2.2=(s,b)∧r.1.length≤2*l.length):=by
   intro ac q hac
   refine Fhb (by omega) (Fhb (by omega) (Fjb (λ h=>?_) (λ h=>?_)))
   ·have h':(!(teq (l.getD i Gg).1 s))=true:=h
    rw[h']
    refine Fhb (by omega) (Fhb (by omega) (Flb (by simp only[Vc,Vj];omega) ?_))
    refine(ih (i+1) (ac++[l.getD i Gg]) q (by omega) (by omega) (by simp only[Ve,Vc,Vj];omega)).mono ?_
    rintro r ⟨h1,h2,h3⟩
    refine⟨?_,h2,h3⟩
    rw[h1,Vp]
    rfl
   ·have h':(!(teq (l.getD i Gg).1 s))=false:=h
    rw[h']
    exact ih (i+1) ac q (by omega) (by omega) (by omega)
  cases p with
  |true=>
   refine Ffb rfl ?_
   refine(B0 acc true (by omega)).mono ?_
   rintro r ⟨h1,h2,h3⟩
   exact⟨h1,h2,h3⟩
  |false=>
   refine Fgb rfl (Fhb (by omega) (Fhb (by omega) (Fjb (λ h=>?_) (λ h=>?_))))
   ·have h':(!(tlt (l.getD i Gg).1 s))=true:=h
    refine Flb (by simp only[Vc,Vj];omega) ?_
    refine(B0 (acc++[(s,b)]) true (by simp only[Ve,Vc,Vj];omega)).mono ?_
    rintro r ⟨h1,h2,h3⟩
    refine⟨?_,h2,h3⟩
    rw[h1]
    simp only[ptl,h',Zv,Bool.and_self,G9b,cond_true,Vp]
   ·have h':(!(tlt (l.getD i Gg).1 s))=false:=h
    refine(B0 acc false (by omega)).mono ?_
    rintro r ⟨h1,h2,h3⟩
    refine⟨?_,h2,h3⟩
    rw[h1]
    simp only[ptl,h',Zv,Yd,G9b,cond_false,Vz]
def Dqa (l:List Nmd) (s:ByteArray) (b:List Int) (hf:l.length≤1000000000000) (hb:b.length≤1000000000000):Tot (λ k=>Ff k l s b) (λ r=>r=ptl (s,b) false l):=by
 unfold Ff
 refine Flb (Jaa b hb) ?_
 rw[Vz]
 refine Feb (Jda l s b hf _ 0 [] false rfl (Vs _) (Vs _)) ?_
 rintro⟨r,q,x,y⟩ ⟨h1,h2,h3⟩
 rw[Wp,Vz]at h1
 dsimp only at h1 h2 h3
 dsimp only
 cases q with
 |true=>
  refine Ffb rfl (Fdb ?_)
  rw[← h1];simp
 |false=>
  refine Fgb rfl (Flb (by simp only[Vc,Vj];omega) (Fdb ?_))
  rw[← h1]
  obtain⟨rfl,rfl⟩:=Prod.mk.inj h2
  rfl
def Rra (x:Nmd):∀ (p:Bool) (l:List Nmd),∀ y∈ptl x p l,y∈l∨y=x:=by
 intro p l
 induction l generalizing p with
 |nil=>intro y hy;cases p<;>simp_all [ptl]
 |cons a l ih=>
  intro y hy
  simp only[ptl,Vn]at hy
  rcases hy with hy|hy|hy
  ·revert hy;cases (!p&&!(tlt a.1 x.1))<;>simp_all
  ·revert hy;cases (!(teq a.1 x.1))<;>simp_all
  ·rcases ih _ y hy with h|h
   ·exact Or.inl (Vi _ h)
   ·exact Or.inr h
def A1b (x:Nmd):∀ (p:Bool) (l:List Nmd),(ptl x p l).length≤l.length+(bif p then 0 else 1):=by
 intro p l
 induction l generalizing p with
 |nil=>cases p<;>simp[ptl]
 |cons a l ih=>
  simp only[ptl,Ve,Vc]
  have:=ih (p||!(tlt a.1 x.1))
  revert this
  cases p<;>cases tlt a.1 x.1<;>cases teq a.1 x.1<;>simp<;>omega
def Vra (x:Nmd):∀ (l:List Nmd),ptl x true l=cut l x.1:=by
 intro l
 induction l with
 |nil=>rfl
 |cons a l ih=>
  simp only[ptl,Zd,Ze,cond_false,Vz,Ijb,ih,cut,Zz]
  cases teq a.1 x.1<;>simp
def Us (x:Nmd):∀ {l:List Nmd},Fy l→ptl x false l=ins (cut l x.1) x:=by
 intro l
 induction l with
 |nil=>intro _;rfl
 |cons a l ih=>
  intro h
  have hl:Fy l:=(Wg.1 h).2
  have ha:=(Wg.1 h).1
  simp only[ptl,Zv,Vy,G9b]
  cases ht:tlt a.1 x.1 with
  |true=>
   have he:teq a.1 x.1=false:=by
    cases hq:teq a.1 x.1 with
    |false=>rfl
    |true=>rw[(Fe.1 hq),Ig]at ht;cases ht
   simp only[he,Zd,Zv,cond_false,cond_true,Vz,ih hl,cut,Zz,if_true]
   unfold ins plc
   rw[Frb,if_pos ht]
   rfl
  |false=>
   have hc:plc (cut (a::l) x.1) x.1=0:=by
    unfold plc cut
    rw[List.length_eq_zero_iff]
    rw[Zz]
    cases hq:teq a.1 x.1
    ·rw[Zv,if_pos rfl,Frb,if_neg (by rw[ht];simp)]
    have hx:=(Fe.1 hq)
    simp only[Zd,Ya,if_false]
    cases hf:l.filter (λ y => !(teq y.1 x.1)) with
    |nil=>rfl
    |cons b m=>
     have hb:b∈l:=by
      have:b∈l.filter (λ y => !(teq y.1 x.1)):=by rw[hf];exact Za
      exact(H8b.1 this).1
     have hab:=ha b hb
     rw[hx]at hab
     rw[Frb,if_neg (by rw[Tf hab];simp)]
   simp only[Zv,cond_true,Vra]
   unfold ins
   rw[hc]
   simp only[Fxb,Vz,Wp,cut,Zz]
   cases teq a.1 x.1<;>simp

def Rsa {l:List Nmd} {x:Nmd} {p:Bool} (hl:G5a l) (hl':l.length≤999999999999) (hx:x.2.length≤1000000000000):G5a (ptl x p l):=by
 refine⟨?_,λ y hy=>?_⟩
 ·have:=A1b x p l
  revert this
  cases p<;>simp<;>omega
 ·rcases Rra x p l y hy with h|rfl
  ·exact hl.2 y h
  ·exact hx
def Gca {l:List Nmd} {x:Nmd} {p:Bool} (hl:Ny l) (hx:Kd x.1):Ny (ptl x p l):=by
 intro y hy
 rcases Rra x p l y hy with h|rfl
 ·exact hl y h
 ·exact hx
def DIn (d:Dsk):Prop:=(Xra d∧C4a d)∧d.1.length≤2000000∧d.2.length≤2000000
def Nz {d:Dsk} (h:Aq d=true):DIn d:=by
 unfold Aq at h
 rw[Va]at h
 have h1:=Vr h.1
 have h2:=Vr h.2
 exact⟨⟨⟨h1.1,h2.1⟩,h1.2,h2.2⟩,by have:=(Af.1 h.1).2.2;omega,by have:=(Af.1 h.2).2.2;omega⟩
def Gda (d:Dsk) (s:ByteArray) (b:List Int) (hd:DIn d) (hs:Kd s) (hb:b.length≤1000000000000):Tot (λ k=>B3 k d s b) (λ r=>r=bif Aq d&&(Bc s&&Aq (ptl (s,b) false d.1,d.2)) then ((ptl (s,b) false d.1,d.2),true) else (d,false)):=by
 unfold B3
 refine Feb (Li d hd.1.1) ?_
 rintro r rfl
 refine Feb (Dqa r.1 s b hd.1.1.1.1 hb) ?_
 rintro c rfl
 refine Feb (Dpa r (ptl (s,b) false r.1,r.2) s hd.1 ⟨⟨Rsa hd.1.1.1 (by have:=hd.2.1;omega) hb,hd.1.1.2⟩,Gca hd.1.2.1 hs,hd.1.2.2⟩ hs) ?_
 rintro e rfl
 exact Fdb rfl
def syS (d:Dsk) (s:ByteArray):List Nmd:=match fnd d.1 s with
 |some i=>ptl (s,(d.1.getD i Gg).2) false (cut d.2 s)
 |none=>cut d.2 s
def Cvb {d:Dsk} {s:ByteArray} (hd:DIn d) (hs:Kd s):G5a (syS d s)∧Ny (syS d s):=by
 unfold syS
 have h1:=Rqa (Mq (l:=d.2) (s:=s)) hd.1.1.2
 have h2:=Gba (Mq (l:=d.2) (s:=s)) hd.1.2.2
 cases h:fnd d.1 s with
 |none=>exact⟨h1,h2⟩
 |some i=>
  have hb:=hd.1.1.1.2 _ (A4 (d:=Gg) (Qr h).1)
  have hc:(cut d.2 s).length≤d.2.length:=(Mq (l:=d.2) (s:=s)).length_le
  exact⟨Rsa h1 (by have:=hd.2.2;omega) hb,Gca h2 hs⟩
def Lxa (d:Dsk) (s:ByteArray) (hd:DIn d) (hs:Kd s):Tot (λ k=>Ah k d s) (λ r=>r=bif Aq d&&(Bc s&&Aq (d.1,syS d s)) then ((d.1,syS d s),true) else (d,false)):=by
 unfold Ah
 have hin:=Cvb hd hs
 refine Feb (Li d hd.1.1) ?_
 rintro r rfl
 refine Feb (Lva r s hd.1.1.1) ?_
 rintro b rfl
 refine Feb (Rpa r.2 s hd.1.1.2.1) ?_
 rintro c rfl
 have e:∀ o,o=syS r s→Tot (λ k=>(Ea k r (r.1,o) s).bind λ r5=>some (r5.1,r5.2)) (λ q=>q=bif Aq r&&(Bc s&&Aq (r.1,syS r s)) then ((r.1,syS r s),true) else (r,false)):=by
  rintro o rfl
  refine Feb (Dpa r (r.1,syS r s) s hd.1 ⟨⟨hd.1.1.1,hin.1⟩,hd.1.2.1,hin.2⟩ hs) ?_
  rintro e rfl
  exact Fdb rfl
 have hc:(cut r.2 s).length≤r.2.length:=(Mq (l:=r.2) (s:=s)).length_le
 cases h:fnd r.1 s with
 |none=>
  have h':rdN r.1 s=([],false):=by unfold rdN;rw[h]
  rw[h']
  refine Ffb rfl (e _ ?_)
  unfold syS;rw[h]
 |some i=>
  have h':rdN r.1 s=((r.1.getD i Gg).2,true):=by unfold rdN;rw[h]
  rw[h']
  have hb:=hd.1.1.1.2 _ (A4 (d:=Gg) (Qr h).1)
  refine Fgb rfl (Feb (Dqa (cut r.2 s) s _ (by have:=hd.2.2;omega) hb) ?_)
  rintro o rfl
  refine e _ ?_
  unfold syS;rw[h]
def syI (d:Dsk) (s:ByteArray):List Nmd:=match fnd d.1 s with
 |some i=>ins (del d.2 s) (s,(d.1.getD i Gg).2)
 |none=>del d.2 s
def A2b (l:List Nmd) (x:Nmd):(ins l x).length=l.length+1:=by
 unfold ins
 have:=Cub l x.1
 simp only[Ve,Vu,Wf,Vc,Vj]
 omega

def Rta {d o:Dsk} {b:Bool} (hd:Aq d=true):Aq (bif Aq d&&(b&&Aq o) then (o,true) else (d,false)).1=true:=by
 cases b<;>cases h:Aq o<;>simp[hd,h]
def Vsa {d o:Dsk} {a b:Bool} (hd:Aq d=true):Aq (bif a&&(Aq d&&(b&&Aq o)) then (o,true) else (d,false)).1=true:=by
 cases a<;>cases b<;>cases h:Aq o<;>simp[hd,h]
def Rua:∀ (n:Nat) (i:Int) (c:Cur) (a0 a1:List Nmd) (d:Dsk),i=n→n≤6→Bn c→Aq d=true→
  Tot (λ k=>Ae k i c.1 c.2.1 c.2.2 a0 a1 d.1 d.2) (λ r=>Aq (r.2.2.1,r.2.2.2.1)=true∧Bn r.2.2.2.2):=by
 intro n
 induction n with
 |zero=>
  intro i c a0 a1 d hi h6 hc hd
  refine Tot.succ ?_
  simp only[Ae]
  exact Fib (by omega) (Fdb ⟨hd,hc⟩)
 |succ n ih=>
  intro i c a0 a1 d hi h6 hc hd
  refine Tot.succ ?_
  simp only[Ae]
  refine Fhb (by omega) ?_
  rw[w64 (n:=i-1) (by omega) (by omega)]
  obtain⟨s,c1,e1,hs,k1⟩:=M6 c hc
  refine Fpb (Fqb (Q:=λ r=>r=(s,c1)) e1 rfl) ?_
  obtain⟨x,c2,e2,_,_,_,k2⟩:=Ac c1 k1 6 (by decide)
  refine Fpb (Fqb (Q:=λ r=>r=(x,c2)) e2 rfl) ?_
  dsimp only
  have hin:=Nz hd
  have hsh:=(Kh s hs).1
  have wr:Tot (λ k=>(C8 k c2).bind λ r5=>(B9 k r5.1).bind λ r6=>(B3 k (d.1,d.2) s r6).bind λ r7=>Ae k (i-1) r5.2.1 r5.2.2.1 r5.2.2.2 a0 a1 r7.1.1 r7.1.2) (λ r=>Aq (r.2.2.1,r.2.2.2.1)=true∧Bn r.2.2.2.2):=by
   refine Feb (N1 c2 k2) (λ f hf=>?_)
   refine Feb (A7a f.1 hf.1) (λ b hb=>?_)
   refine Feb (Gda d s b hin hsh (by omega)) (λ q hq=>?_)
   have hq':=Rta (d:=d) (o:=(ptl (s,b) false d.1,d.2)) (b:=Bc s) hd
   rw[← hq]at hq'
   exact ih (i-1) f.2 a0 a1 q.1 (by omega) (by omega) hf.2 hq'
  have sy:Tot (λ k=>(Ah k (d.1,d.2) s).bind λ r4=>Ae k (i-1) c2.1 c2.2.1 c2.2.2 a0 a1 r4.1.1 r4.1.2) (λ r=>Aq (r.2.2.1,r.2.2.2.1)=true∧Bn r.2.2.2.2):=by
   refine Feb (Lxa d s hin hsh) (λ q hq=>?_)
   have hq':=Rta (d:=d) (o:=(d.1,syS d s)) (b:=Bc s) hd
   rw[← hq]at hq'
   exact ih (i-1) c2 a0 a1 q.1 (by omega) (by omega) k2 hq'
  refine Fjb (λ _=>?_) (λ _=>Fjb (λ h=>Fjb (λ _=>sy) (λ _=>wr)) (λ _=>Fjb (λ _=>sy) (λ _=>wr)))
  refine Feb (C6a d s hin.1 hsh) (λ q hq=>?_)
  have hq':=Vsa (d:=d) (o:=(cut d.1 s,d.2)) (a:=(fnd d.1 s).isSome) (b:=Bc s) hd
  rw[← hq]at hq'
  exact ih (i-1) c2 a0 a1 q.1 (by omega) (by omega) k2 hq'
def Rva (c:Cur) (hc:Bn c):Tot (λ k=>Dq k c) (λ r=>Aq r.1=true∧Bn r.2):=by
 unfold Dq
 obtain⟨x,c2,e2,h0,h1,_,k2⟩:=Ac c hc 7 (by decide)
 have h1:=h1 (by decide)
 refine Fpb (Fqb (Q:=λ r=>r=(x,c2)) e2 rfl) ?_
 refine Feb (Rua x.toNat x c2 [] [] ([],[]) (by omega) (by omega) k2 (by decide)) (λ r hr=>?_)
 exact Fdb hr
def Ma (c:Cur) (hc:Bn c):∃ x c',F5 c=some (x,c')∧Kd x∧Bn c':=by
 obtain⟨b,c1,e1,k1⟩:=Kt c hc 5 (by decide)
 unfold F5
 cases b with
 |true=>
  obtain⟨x,c',e,hx,k⟩:=Lga c1 k1 [(⟨#[]⟩:ByteArray),(⟨#[65]⟩:ByteArray),(⟨#[97,32,98]⟩:ByteArray),(⟨#[116,119,101,110,116,121,111,110,101,98,121,116,101,115,116,119,101,110,116,121,111]⟩:ByteArray),(⟨#[116,119,101,110,116,121,98,121,116,101,115,116,119,101,110,116,121,98,121,116]⟩:ByteArray),(⟨#[47]⟩:ByteArray)] (by decide) (by decide)
  refine⟨x,c',by simp only[e1,e,Vo,cond_true],?_,k⟩
  simp only[Vl,Zq,or_false]at hx
  unfold Kd
  rcases hx with rfl|rfl|rfl|rfl|rfl|rfl<;>decide
 |false=>
  obtain⟨x,c',e,hx,k⟩:=M6 c1 k1
  exact⟨x,c',by simp only[e1,e,Vo,cond_false],(Kh x hx).1,k⟩
def Rwa {l:List Nmd} {x:Nmd} (h:G5a l) (hl:l.length≤999) (hx:x.2.length≤1000000000000):G5a (l++[x]):=by
 refine⟨by simp only[Ve,Vc,Vj];omega,λ y hy=>?_⟩
 rcases Vn.1 hy with hy|hy
 ·exact h.2 y hy
 ·rw[Vt.1 hy];exact hx
def Gea {l:List Nmd} {x:Nmd} (h:Ny l) (hx:Kd x.1):Ny (l++[x]):=by
 intro y hy
 rcases Vn.1 hy with hy|hy
 ·exact h y hy
 ·rw[Vt.1 hy];exact hx
def Vta (c:Cur) (hc:Bn c):Tot (λ k=>Id k c) (λ r=>DIn r.1∧Bn r.2):=by
 unfold Id
 refine Feb (Rva c hc) (λ d hd=>?_)
 obtain⟨hd,k0⟩:=hd
 have hin:=Nz hd
 have hd':=hd
 unfold Aq at hd'
 rw[Va]at hd'
 have g1:=(Af.1 hd'.1).2.2
 have g2:=(Af.1 hd'.2).2.2
 obtain⟨x,c2,e2,_,_,_,k2⟩:=Ac d.2 k0 12 (by decide)
 refine Fpb (Fqb (Q:=λ r=>r=(x,c2)) e2 rfl) ?_
 refine Fjb (λ _=>?_) (λ _=>Fjb (λ _=>?_) (λ _=>Fdb ⟨hin,k2⟩))
 ·obtain⟨s,c3,e3,hs,k3⟩:=Ma c2 k2
  refine Fpb (Fqb (Q:=λ r=>r=(s,c3)) e3 rfl) ?_
  refine Flb (by simp only[Vc,Vj];omega) (Fdb ⟨⟨⟨⟨Rwa hin.1.1.1 (by omega) (Vs _),hin.1.1.2⟩,Gea hin.1.2.1 hs,hin.1.2.2⟩,?_,hin.2.2⟩,k3⟩)
  simp only[Ve,Vc,Vj];omega
 ·obtain⟨s,c3,e3,hs,k3⟩:=Ma c2 k2
  refine Fpb (Fqb (Q:=λ r=>r=(s,c3)) e3 rfl) ?_
  obtain⟨y,c4,e4,y0,y1,_,k4⟩:=Ac c3 k3 2 (by decide)
  have y1:=y1 (by decide)
  refine Fpb (Fqb (Q:=λ r=>r=(y,c4)) e4 rfl) ?_
  dsimp only
  rw[w64 (n:=400+y) (by omega) (by omega)]
  refine Fhb rfl (Fhb (by omega) (Fhb (by omega) (Flb (by simp only[Vc,Vj];omega) (Fdb ⟨⟨⟨⟨hin.1.1.1,Rwa hin.1.1.2 (by omega) ?_⟩,hin.1.2.1,Gea hin.1.2.2 hs⟩,hin.2.1,?_⟩,k4⟩))))
  ·simp only[Igb];omega
  ·simp only[Ve,Vc,Vj];omega

section
open Go
end

def Ry (p:Nmd→Bool):∀ l:List Nmd,l.take (l.takeWhile p).length=l.takeWhile p∧l.drop (l.takeWhile p).length=l.dropWhile p
 |[]=>⟨rfl,rfl⟩
 |y::l=>by
  obtain⟨h1,h2⟩:=Ry p l
  simp only[Frb,Gwb]
  cases p y with
  |true=>simp[h1,h2]
  |false=>simp
def Gfa {p:Nmd→Bool}:∀ {l:List Nmd} {y:Nmd},y∈l.takeWhile p→p y=true
 |[],y,h=>by simp at h
 |z::l,y,h=>by
  simp only[Frb]at h
  cases hz:p z
  ·rw[hz]at h;simp at h
  rw[hz]at h
  simp only[if_true]at h
  rcases Vl.1 h with rfl|h
  ·exact hz
  ·exact Gfa h
def Xsa (l:List Nmd) (x:Nmd):ins l x=l.takeWhile (λ y=>tlt y.1 x.1)++([x]++l.dropWhile (λ y=>tlt y.1 x.1)):=by
 unfold ins plc
 obtain⟨h1,h2⟩:=Ry (λ y=>tlt y.1 x.1) l
 rw[h1,h2,Vp]
def C7a {x:Nmd}:∀ {l:List Nmd},Fy l→(∀ y∈l,y.1≠x.1)→∀ z∈l.dropWhile (λ y=>tlt y.1 x.1),tlt x.1 z.1=true
 |[],_,_,z,hz=>by simp at hz
 |y::l,hs,hn,z,hz=>by
  obtain⟨h1,h2⟩:=Wg.1 hs
  simp only[Gwb]at hz
  cases hy:tlt y.1 x.1 with
  |true=>
   rw[hy]at hz
   simp only[if_true]at hz
   exact C7a h2 (λ w hw=>hn w (Vi _ hw)) z hz
  |false=>
   rw[hy]at hz
   simp only[Ya,if_false]at hz
   have hxy:tlt x.1 y.1=true:=by
    cases hh:tlt x.1 y.1 with
    |true=>rfl
    |false=>exact absurd (Z7 hy hh) (hn y (by simp))
   rcases Vl.1 hz with rfl|hz
   ·exact hxy
   ·exact M7 hxy (h1 z hz)
def Rn {l:List Nmd} {x:Nmd} (hs:Fy l) (hn:∀ y∈l,y.1≠x.1):Fy (ins l x):=by
 rw[Xsa]
 have hs':Fy (l.takeWhile (λ y=>tlt y.1 x.1)++l.dropWhile (λ y=>tlt y.1 x.1)):=by rw[Ggb];exact hs
 obtain⟨h1,h2,h3⟩:=Zb.1 hs'
 have h4:∀ y∈l.takeWhile (λ y=>tlt y.1 x.1),tlt y.1 x.1=true:=λ y hy=>Gfa (p:=λ y=>tlt y.1 x.1) hy
 refine Zb.2 ⟨h1,Wg.2 ⟨λ z hz=>C7a hs hn z hz,h2⟩,λ a ha b hb=>?_⟩
 rcases Vl.1 hb with rfl|hb
 ·exact h4 a ha
 ·exact h3 a ha b hb
def Ut {l:List Nmd} {x y:Nmd}:y∈ins l x↔y=x∨y∈l:=by
 rw[Xsa]
 have e:=Ggb (p:=λ y:Nmd=>tlt y.1 x.1) (l:=l)
 constructor
 ·intro h
  rcases Vn.1 h with h|h
  ·right;rw[← e];exact Wa _ h
  ·rcases Vl.1 h with h|h
   ·exact .inl h
   ·right;rw[← e];exact Vq _ h
 ·rintro (rfl|h)
  ·exact Vq _ (by simp)
  ·rw[← e]at h
   rcases Vn.1 h with h|h
   ·exact Wa _ h
   ·exact Vq _ (Vi _ h)
def Xta {l:List Nmd} {x:Nmd} (hl:Iu l=true) (hn:∀ y∈l,y.1≠x.1) (hx:nOk x=true):Iu (ins l x)=decide ((ins l x).length≤60):=by
 obtain⟨h1,h2,h3⟩:=Af.1 hl
 by_cases h:(ins l x).length≤60
 ·rw[decide_eq_true h]
  exact Af.2 ⟨Rn h1 hn,λ y hy=>by rcases Ut.1 hy with rfl|hy;exact hx;exact h2 y hy,h⟩
 ·rw[decide_eq_false h]
  cases hc:Iu (ins l x) with
  |false=>rfl
  |true=>exact absurd (Af.1 hc).2.2 h
def A8a {l:List Nmd} {s:ByteArray}:∀ y∈cut l s,y.1≠s:=λ y hy e=>by
 have:=(H8b.1 hy).2
 simp[e,Fe.2 rfl]at this
def A3b {l:List Nmd} {s:ByteArray}:cut (cut l s) s=cut l s:=by
 unfold cut
 rw[List.filter_filter]
 congr 1
 funext x
 simp
def A4b {d:Dsk} {s:ByteArray} (hd:Aq d=true):syS d s=syI d s:=by
 unfold Aq at hd
 rw[Va]at hd
 have hs:=(Af.1 hd.2).1
 unfold syS syI
 rw[Ur hs]
 cases fnd d.1 s with
 |none=>rfl
 |some i=>
  show ptl _ false (cut d.2 s)=ins (cut d.2 s) _
  rw[Us _ (N3 hs)]
  show ins (cut (cut d.2 s) s) _=_
  rw[A3b]
def Rxa {d:Dsk} {s:ByteArray} (hd:Aq d=true) (hs:Bc s=true):Aq (d.1,syI d s)=decide ((syI d s).length≤60):=by
 have hd':=hd
 unfold Aq at hd'
 rw[Va]at hd'
 have h2:=Af.1 hd'.2
 unfold Aq
 rw[hd'.1,Vy]
 unfold syI
 rw[Ur h2.1]
 cases h:fnd d.1 s with
 |none=>show Iu (cut d.2 s)=decide ((cut d.2 s).length≤60);rw[W0 hd'.2,decide_eq_true (Af.1 (W0 (s:=s) hd'.2)).2.2]
 |some i=>
  refine Xta (W0 hd'.2) A8a (Pv.2 ⟨hs,?_⟩)
  have h1:=(Af.1 hd'.1).2.1 _ (A4 (d:=Gg) (Qr h).1)
  exact(Pv.1 h1).2
def A5b {l:List Nmd} (hs:Fy l) {x y:Nmd} (hx:x∈l) (hy:y∈l) (e:x.1=y.1):x=y:=by
 induction l with
 |nil=>simp at hx
 |cons z l ih=>
  obtain⟨h1,h2⟩:=Wg.1 hs
  rcases Vl.1 hx with hx'|hx'
  ·rcases Vl.1 hy with hy'|hy'
   ·rw[hx',hy']
   ·have:=h1 y hy';rw[← hx',e,Ig]at this;cases this
  ·rcases Vl.1 hy with hy'|hy'
   ·have:=h1 x hx';rw[← hy',e,Ig]at this;cases this
   ·exact ih h2 hx' hy'

def wrI (d:Dsk) (s:ByteArray) (b:List Int):List Nmd:=ins (del d.1 s) (s,b)
def Lya {d:Dsk} {s:ByteArray} {b:List Int} (hd:Aq d=true) (hs:Bc s=true):ptl (s,b) false d.1=wrI d s b∧Aq (wrI d s b,d.2)=(decide (b.length≤400)&&decide ((wrI d s b).length≤60)):=by
 have hd':=hd
 unfold Aq at hd'
 rw[Va]at hd'
 have h1:=Af.1 hd'.1
 have e1:wrI d s b=ins (cut d.1 s) (s,b):=by unfold wrI;rw[Ur h1.1]
 refine⟨by rw[e1];exact Us _ h1.1,?_⟩
 unfold Aq
 rw[hd'.2,Fwb,e1]
 by_cases hb:b.length≤400
 ·rw[decide_eq_true hb,Vy]
  exact Xta (W0 hd'.1) A8a (Pv.2 ⟨hs,hb⟩)
 ·rw[decide_eq_false hb,Ze]
  cases hc:Iu (ins (cut d.1 s) (s,b)) with
  |false=>rfl
  |true=>exact absurd (Pv.1 ((Af.1 hc).2.1 (s,b) (Ut.2 (.inl rfl)))).2 hb

def TS (l:List ByteArray):Prop:=l.Pairwise (λ a b=>tlt a b=true)
def pk (l:List Nmd) (s:ByteArray):Option Nmd:=match fnd l s with
 |some i=>some (l.getD i Gg)
 |none=>none
def O7:ByteArray:=⟨#[]⟩
def tpl (l:List ByteArray) (s:ByteArray):Nat:=(l.takeWhile (λ y=>tlt y s)).length
def wt (l:List ByteArray) (s:ByteArray):List ByteArray:=if tpl l s<l.length∧teq (l.getD (tpl l s) O7) s=true then l else l.take (tpl l s)++[s]++l.drop (tpl l s)
def Cwb (l:List ByteArray) (s:ByteArray):tpl l s≤l.length:=(Ifb _).length_le
def Lza {l:List ByteArray} {s y:ByteArray}:y∈wt l s↔y=s∨y∈l:=by
 unfold wt
 by_cases h:tpl l s<l.length∧teq (l.getD (tpl l s) O7) s=true
 ·rw[if_pos h]
  refine⟨.inr,λ h'=>?_⟩
  rcases h' with rfl|h'
  ·have:=A4 (d:=O7) h.1
   rwa [Fe.1 h.2]at this
  ·exact h'
 ·rw[if_neg h]
  have e:l.take (tpl l s)++l.drop (tpl l s)=l:=Wm _ _
  constructor
  ·intro h'
   rw[Vp]at h'
   rcases Vn.1 h' with h'|h'
   ·right;rw[← e];exact Wa _ h'
   ·rcases Vn.1 h' with h'|h'
    ·left;simpa using h'
    ·right;rw[← e];exact Vq _ h'
  ·rintro (rfl|h')
   ·simp
   ·rw[← e]at h'
    rcases Vn.1 h' with h'|h'<;>simp[h']
def M0a (p:ByteArray→Bool):∀ l:List ByteArray,l.take (l.takeWhile p).length=l.takeWhile p∧l.drop (l.takeWhile p).length=l.dropWhile p
 |[]=>⟨rfl,rfl⟩
 |y::l=>by
  obtain⟨h1,h2⟩:=M0a p l
  simp only[Frb,Gwb]
  cases p y with
  |true=>simp[h1,h2]
  |false=>simp
def C8a {p:ByteArray→Bool}:∀ {l:List ByteArray} {y:ByteArray},y∈l.takeWhile p→p y=true
 |[],y,h=>by simp at h
 |z::l,y,h=>by
  simp only[Frb]at h
  cases hz:p z
  ·rw[hz]at h;simp at h
  rw[hz]at h
  simp only[if_true]at h
  rcases Vl.1 h with rfl|h
  ·exact hz
  ·exact C8a h
def A9a {s:ByteArray}:∀ {l:List ByteArray},TS l→(∀ y r,l.dropWhile (λ y=>tlt y s)=y::r→y≠s)→∀ z∈l.dropWhile (λ y=>tlt y s),tlt s z=true
 |[],_,_,z,hz=>by simp at hz
 |y::l,hs,hn,z,hz=>by
  obtain⟨h1,h2⟩:=Wg.1 hs
  simp only[Gwb]at hz hn
  cases hy:tlt y s with
  |true=>
   rw[hy]at hz hn
   simp only[if_true]at hz hn
   exact A9a h2 hn z hz
  |false=>
   rw[hy]at hz hn
   simp only[Ya,if_false]at hz hn
   have hxy:tlt s y=true:=by
    cases hh:tlt s y with
    |true=>rfl
    |false=>exact absurd (Z7 hy hh) (hn y l rfl)
   rcases Vl.1 hz with rfl|hz
   ·exact hxy
   ·exact M7 hxy (h1 z hz)
def Qs {l:List ByteArray} {s:ByteArray} (hs:TS l):TS (wt l s):=by
 unfold wt
 by_cases h:tpl l s<l.length∧teq (l.getD (tpl l s) O7) s=true
 ·rw[if_pos h];exact hs
 ·rw[if_neg h]
  obtain⟨e1,e2⟩:=M0a (λ y=>tlt y s) l
  have hd:∀ y r,l.dropWhile (λ y=>tlt y s)=y::r→y≠s:=by
   intro y r hr hy
   rw[← e2]at hr
   have hlt:tpl l s<l.length:=by
    rcases Gyb (tpl l s) l.length with h'|h'
    ·exact h'
    ·have:l.drop (tpl l s)=[]:=Wk h'
     unfold tpl at this
     rw[this]at hr
     cases hr
   have:l.drop (tpl l s)=l.getD (tpl l s) O7::l.drop (tpl l s+1):=Ap hlt
   unfold tpl at this
   rw[this]at hr
   simp only[Yj]at hr
   exact h ⟨hlt,Fe.2 (hr.1.trans hy)⟩
  have e1':l.take (tpl l s)=l.takeWhile (λ y=>tlt y s):=e1
  have e2':l.drop (tpl l s)=l.dropWhile (λ y=>tlt y s):=e2
  rw[e1',e2',Vp]
  have hs':TS (l.takeWhile (λ y=>tlt y s)++l.dropWhile (λ y=>tlt y s)):=by rw[Ggb];exact hs
  obtain⟨h1,h2,h3⟩:=Zb.1 hs'
  refine Zb.2 ⟨h1,Wg.2 ⟨λ z hz=>A9a hs hd z hz,h2⟩,λ a ha b hb=>?_⟩
  rcases Vl.1 hb with rfl|hb
  ·exact C8a (p:=λ y=>tlt y b) ha
  ·exact h3 a ha b hb

def Rya {l:List ByteArray} {s:ByteArray}:(wt l s).length≤l.length+1:=by
 unfold wt
 have:=Cwb l s
 split
 ·omega
 ·simp only[Ve,Vu,Wf,Vc,Vj];omega

section
variable {α σ R:Type} {a b:α} {p:Prop} [Decidable p]
def dT (h:p):cond (decide p) a b=a:=by rw[decide_eq_true h];rfl
def dF (h:¬ p):cond (decide p) a b=b:=by rw[decide_eq_false h];rfl
def bT {m n:Nat} (h:m≤n):cond (Nat.ble m n) a b=a:=by rw[Zi h];rfl
def Fmb {L:Nat→Int→σ→Option R} {Q:R→Prop} (n:Nat) (I:Nat→σ→Prop) (hend:∀ s,I n s→Tot (λ k=>L (k+1) (n:Int) s) Q)
  (Jsa:∀ i s,i<n→I i s→(∀ s',I (i+1) s'→Tot (λ k=>L k ((i:Int)+1) s') Q)→Tot (λ k=>L (k+1) (i:Int) s) Q):
  ∀ (i:Nat) (s:σ),i≤n→I i s→Tot (λ k=>L k (i:Int) s) Q:=by
 suffices h:∀ (m i:Nat) (s:σ),n-i=m→i≤n→I i s→Tot (λ k=>L k (i:Int) s) Q from λ i s hi hs=>h _ i s rfl hi hs
 intro m
 induction m with
 |zero=>
  intro i s hm hi hs
  obtain rfl:i=n:=by omega
  exact Tot.succ (hend s hs)
 |succ m ih=>
  intro i s hm hi hs
  refine Tot.succ (Jsa i s (by omega) hs λ s' hs'=>?_)
  have:=ih (i+1) s' (by omega) (by omega) hs'
  rwa [show (((i+1:Nat)):Int)=(i:Int)+1 by omega]at this
end
def cst (x:BitVec 32):BitVec 32:=if x.getLsbD 0 then (x >>> 1) ^^^ 2197175160#32 else x >>> 1
def Jea:Nat→BitVec 32→BitVec 32
 |0,x=>x
 |n+1,x=>Jea n (cst x)
def cby (x:BitVec 32) (b:Int):BitVec 32:=Jea 8 (x ^^^ ofInt 32 b)
def Cxb (l:List Int):BitVec 32 := ~~~ (l.foldl cby 4294967295#32)
def crc (l:List Int):Int:=((Cxb l).toNat:Int)
def F7b (v:BitVec 32):v.getLsbD 0=decide (v.toNat % 2=1):=by
 rw[BitVec.getLsbD,Nat.testBit_zero]
def A6b (v:BitVec 32):ofInt (IntKind.bits .u32) (v.toNat:Int)=v:=by
 show ofInt 32 (v.toNat:Int)=v
 rw[BitVec.ofInt_natCast,BitVec.ofNat_toNat,BitVec.setWidth_eq]
def Jfa (n:Nat) (h:n<4294967296):(ofInt (IntKind.bits .i64) (n:Int)).toNat=n:=Qq n (by omega)
def F8b (v:BitVec 32):wrap .u32 (v.toNat:Int)=(v.toNat:Int):=Go.IntWalk.u32_in _ ⟨by omega,by have:=v.isLt;omega⟩
def sh1 (v:BitVec 32):Int.fdiv (v.toNat:Int) 2=((v >>> 1).toNat:Int):=by
 rw[Zza _ (by omega),BitVec.toNat_ushiftRight,Nat.shiftRight_eq_div_pow]
 omega
def Eib (v:BitVec 32):((wrap .i64 ((ofInt (IntKind.bits .i64) (v.toNat:Int) &&& ofInt (IntKind.bits .i64) 1).toNat))==1)=v.getLsbD 0:=by
 have:=v.isLt
 rw[F7b,Hkb,Jfa _ v.isLt,show (ofInt (IntKind.bits .i64) 1).toNat=1 from by decide,Nat.and_one_is_mod,w64 (by omega) (by omega),Hwb,beq_iff_eq,decide_eq_true_iff]
 omega
def F9b (v w:BitVec 32) (x:Int) (h:ofInt 32 x=w):wrap .u32 ((ofInt (IntKind.bits .u32) (v.toNat:Int) ^^^ ofInt (IntKind.bits .u32) x).toNat)=((v ^^^ w).toNat:Int):=by
 show wrap .u32 (((ofInt 32 (v.toNat:Int) ^^^ ofInt 32 x).toNat:Nat):Int)=_
 rw[show ofInt 32 (v.toNat:Int)=v from A6b v,h]
 exact F8b _
def E5b (v w:BitVec 32):wrap .i64 ((ofInt (IntKind.bits .i64) (v.toNat:Int) ^^^ ofInt (IntKind.bits .i64) (w.toNat:Int)).toNat)=((v ^^^ w).toNat:Int):=by
 have:=(v ^^^ w).isLt
 rw[BitVec.toNat_xor,Jfa _ v.isLt,Jfa _ w.isLt,← BitVec.toNat_xor]
 exact w64 (by omega) (by omega)
def Fab (K:IntKind) (h:1≤IntKind.bits K):(2:Int) ^ (min (toNat 1) (IntKind.bits K))=2:=by
 rw[show toNat 1=1 from rfl,Zu h];rfl
def Jga (l:List Int) (x4:Int):∀ (n:Nat) (v:BitVec 32) (i:Int),0≤i→8-i=n→Tot (λ k=>Hf k l (v.toNat:Int) x4 i) (λ r=>r=(l,((Jea n v).toNat:Int),x4)):=by
 intro n
 induction n with
 |zero=>
  intro v i h0 hn
  refine Tot.succ ?_
  simp only[Hf]
  exact Fib (by omega) (Fdb rfl)
 |succ n ih=>
  intro v i h0 hn
  refine Tot.succ ?_
  simp only[Hf]
  have hp:(2197175160:Int)=((2197175160#32:BitVec 32).toNat:Int):=by decide
  refine Fhb (by omega) ?_
  rw[w64 (n:=i+1) (by omega) (by omega),Eib,Fab _ (by decide),sh1,hp,E5b]
  have e:Jea (n+1) v=Jea n (cst v):=rfl
  rw[e]
  refine Fjb (λ h=>?_) (λ h=>?_)
  ·have:=ih (v >>> 1 ^^^ 2197175160#32) (i+1) (by omega) (by omega)
   rwa [show v >>> 1 ^^^ 2197175160#32=cst v by unfold cst;rw[if_pos h]]at this ⊢
  ·have:=ih (v >>> 1) (i+1) (by omega) (by omega)
   rwa [show v >>> 1=cst v by unfold cst;rw[if_neg (by rw[h];simp)]]at this ⊢
def M1a {b:Int} (h:0≤b∧b≤255):b=((ofInt 32 b).toNat:Int):=by
 rw[H5b]
 omega
def A7b (l:List Int) (hb:Aw l) (hl:l.length≤1000000000000):Tot (λ k=>L6 k l) (λ r=>r=crc l):=by
 unfold L6
 refine Feb (Q:=λ r=>r=(((l.foldl cby 4294967295#32).toNat:Nat):Int)) ?_ ?_
 ·have:=Fmb (L:=λ k i s=>Hv k l s i) (Q:=λ r=>r=(((l.foldl cby 4294967295#32).toNat:Nat):Int)) l.length (λ i s=>∃ v:BitVec 32,s=(v.toNat:Int)∧(l.drop i).foldl cby v=l.foldl cby 4294967295#32) ?_ ?_ 0 4294967295 (Vs _) ⟨4294967295#32,by decide,by rw[Wp]⟩
  ·exact this
  ·rintro s ⟨v,rfl,hv⟩
   simp only[Hv]
   rw[Wi]at hv
   exact Fib (by omega) (Fdb (by rw[← hv];rfl))
  ·rintro i s hi ⟨v,rfl,hv⟩ next
   simp only[Hv]
   have hx:=hb _ (A4 (d:=0) hi)
   refine Fhb (by omega) (Fhb (by omega) (Fhb (by omega) ?_))
   rw[Vb,w64 (n:=l.getD i 0) (by omega) (by omega),M1a hx,E5b]
   refine Fpb (Jga l _ 8 _ 0 (by decide) (by decide)) ?_
   simp only
   rw[w64 (n:=(i:Int)+1) (by omega) (by omega)]
   refine next _ ⟨_,rfl,?_⟩
   rw[Ap (d:=0) hi,Zp]at hv
   exact hv
 ·rintro r rfl
  refine Fdb ?_
  have hp:(4294967295:Int)=((BitVec.allOnes 32:BitVec 32).toNat:Int):=by decide
  rw[hp,E5b,BitVec.xor_allOnes]
  rfl

def E6b:Fil:=(((0:Int),((0:Int),(0:Int))),(false,([]:List Int)))
def H9 (f:Fil):Bool:=Ga f.1&&(decide ((f.2.2.length:Int)≤200)&&(!f.2.1||((f.2.2.length:Int)==0)))
def Vua (f:Fil):Js f=some (H9 f):=by
 unfold Js H9
 rw[A0a]
 simp only[Vo]
 cases Ga f.1<;>cases decide ((length f.2.2:Int)≤200)<;>cases f.2.1<;>rfl
def Tm (f:Fil):C2 f=some (H9 f):=by
 unfold C2 H9
 rw[Qp]
 simp only[Vo]
 cases Ga f.1<;>cases decide ((length f.2.2:Int)≤200)<;>cases f.2.1<;>rfl
def K8 {f:Fil}:H9 f=true↔Ga f.1=true∧f.2.2.length≤200∧(f.2.1=true→f.2.2=[]):=by
 unfold H9
 rw[Va,Va,decide_eq_true_iff]
 have:(!f.2.1||((f.2.2.length:Int)==0))=true↔(f.2.1=true→f.2.2=[]):=by
  cases f.2.1 with
  |false=>simp
  |true=>simp
 rw[this]
 constructor
 ·rintro⟨h1,h2,h3⟩;exact⟨h1,by omega,h3⟩
 ·rintro⟨h1,h2,h3⟩;exact⟨h1,by omega,h3⟩
def Rza (a b:Fil):Kl a b=some (sle b.1 a.1):=by unfold Kl;rw[Dfa];rfl
def hdF (s:Stp) (d:Bool):List Int:=Vma s++Pb (Ch (Hqa d))
def P8 (f:Fil):List Int:=hdF f.1 f.2.1++txt (M1 f.2.2)
def c4 (c:Int):List Int:=[wrap .u8 (Int.fdiv c (2 ^ (min (toNat 24) (IntKind.bits .i64)))),wrap .u8 (Int.fdiv c (2 ^ (min (toNat 16) (IntKind.bits .i64)))),wrap .u8 (Int.fdiv c (2 ^ (min (toNat 8) (IntKind.bits .i64)))),wrap .u8 c]
def Lo (f:Fil):List Int:=bif H9 f then P8 f++c4 (crc (P8 f)) else []
def P9 {a b:List Int} (ha:Aw a) (hb:Aw b):Aw (a++b):=λ x hx=>(Vn.1 hx).elim (ha x) (hb x)
def Qt (n:Int):Aw (Pb (Ch n)):=Nra _ (P7 n)
def S0a (s:Stp) (d:Bool):Aw (hdF s d):=P9 (P9 (Qt _) (P9 (Qt _) (Qt _))) (Qt _)
def Sj (f:Fil):Aw (P8 f):=P9 (S0a _ _) (P9 (Qt _) (C1a _))
def Vva (c:Int):Aw (c4 c):=by
 intro x hx
 simp only[c4,Vl,Zq,or_false]at hx
 rcases hx with rfl|rfl|rfl|rfl<;>exact Fua _
def Pa (f:Fil):Aw (Lo f):=by
 unfold Lo
 cases H9 f with
 |false=>intro x hx;simp at hx
 |true=>exact P9 (Sj f) (Vva _)
def S1a (s:Stp) (d:Bool):(hdF s d).length≤20:=by
 have h1:=Dna s
 have h2:=(No (Ch (Hqa d))).1
 unfold hdF
 rw[Ve]
 omega
def Gga (f:Fil):(P8 f).length≤25+f.2.2.length:=by
 have h1:=S1a f.1 f.2.1
 have h2:=Rla (M1 f.2.2)
 have h3:(M1 f.2.2).size=f.2.2.length:=Ns _
 unfold P8
 rw[Ve]
 omega
def Xd (f:Fil):(Lo f).length≤229:=by
 unfold Lo
 cases h:H9 f
 ·simp
 have h1:=Gga f
 have h2:=(K8.1 h).2.1
 rw[cond_true,Ve]
 simp only[c4,Vc,Vj]
 omega
def Pw (f:Fil):Tot (λ k=>B9 k f) (λ r=>r=Lo f):=by
 unfold B9 Lo
 refine Fpb (Fqb (Q:=λ b=>b=H9 f) (Tm f) rfl) ?_
 cases h:H9 f
 ·exact Fgb rfl (Fdb rfl)
 have h2:=(K8.1 h).2.1
 have h3:(M1 f.2.2).size=f.2.2.length:=Ns _
 have h4:=S1a f.1 f.2.1
 have h5:=Gga f
 have h6:=Dna f.1
 refine Ffb rfl (Fpb (C2a [] f.1 (by simp)) ?_)
 rw[Vz]
 refine Fpb (Fqb (Q:=λ r=>r=Hqa f.2.1) (Lta _) rfl) ?_
 refine Fpb (Uq _ _ (by omega)) ?_
 refine Fpb (Lsa _ _ (by unfold hdF at h4;omega) (by omega)) ?_
 have e:Vma f.1++Pb (Ch (Hqa f.2.1))++txt (M1 f.2.2)=P8 f:=rfl
 rw[e]
 refine Fpb (A7b _ (Sj f) (by omega)) ?_
 exact Flb (by simp only[Vc,Vj];omega) (Fdb rfl)
def Pc (b:List Int):Option Fil:=(B1a b 0).bind λ a=>(Tya b a.2).bind λ t=>bif H9 (a.1.1,a.1.2,bytesOf t.1)&&decide (Lo (a.1.1,a.1.2,bytesOf t.1)=b) then some (a.1.1,a.1.2,bytesOf t.1) else none
def Nwa (b:List Int):Fil×Bool:=match Pc b with
 |some f=>(f,true)
 |none=>(E6b,false)
def A8b {b:List Int} {f:Fil} (h:Pc b=some f):H9 f=true∧Aw f.2.2∧Lo f=b:=by
 unfold Pc at h
 simp only[H4b]at h
 obtain⟨a,_,t,_,h⟩:=h
 cases hc:(H9 (a.1.1,a.1.2,bytesOf t.1)&&decide (Lo (a.1.1,a.1.2,bytesOf t.1)=b))
 ·rw[hc]at h;cases h
 rw[hc]at h
 simp only[cond_true,Vg]at h
 subst h
 rw[Va,decide_eq_true_iff]at hc
 exact⟨hc.1,C1a _,hc.2⟩
def S2a (s:Stp) (d:Bool) (rest:List Int) (h:Ga s=true):B1a (hdF s d++rest) 0=some ((s,d),(hdF s d).length):=by
 obtain⟨t,c,n⟩:=s
 unfold Ga at h
 simp only[Va,Cy]at h
 obtain⟨⟨t0,t1⟩,⟨c0,c1⟩,n0,n1⟩:=h
 have ht:=A4a t0 t1
 have hc:=A4a c0 (show c≤1000000000 by omega)
 have hn:=A4a n0 (show n≤1000000000 by omega)
 have hbit:(((Ch (Hqa d):Nat):Int)==1)=d:=by cases d<;>decide
 have hbit2:¬ (1<Ch (Hqa d)):=by cases d<;>decide
 have k:∀ (a:List Int) (n:Nat) (b:List Int),n≤1000000000→Q5 (a++(Pb n++b)) a.length=some (n,(a++Pb n).length):=λ a n b hn=>by rw[Lpa a n b hn,Ve]
 have e0:hdF (t,c,n) d++rest=Pb (Ch t)++(Pb (Ch c)++(Pb (Ch n)++(Pb (Ch (Hqa d))++rest))):=by
  unfold hdF Vma
  simp only[Vp]
 have el:(hdF (t,c,n) d).length=(Pb (Ch t)).length+(Pb (Ch c)).length+(Pb (Ch n)).length+(Pb (Ch (Hqa d))).length:=by
  unfold hdF Vma
  simp only[Ve]
  omega
 have g1:=k [] (Ch t) (Pb (Ch c)++(Pb (Ch n)++(Pb (Ch (Hqa d))++rest))) (P7 t)
 have g2:=k (Pb (Ch t)) (Ch c) (Pb (Ch n)++(Pb (Ch (Hqa d))++rest)) (P7 c)
 have g3:=k (Pb (Ch t)++Pb (Ch c)) (Ch n) (Pb (Ch (Hqa d))++rest) (P7 n)
 have g4:=k (Pb (Ch t)++Pb (Ch c)++Pb (Ch n)) (Ch (Hqa d)) rest (P7 _)
 simp only[Vp,Vz,Vj]at g1 g2 g3 g4
 simp only[Ve]at g1 g2 g3 g4
 unfold B1a
 rw[e0,el]
 simp only[Zf]at g1 g2 g3 g4 ⊢
 simp only[g1,g2,g3,g4,Vo,decide_eq_false hbit2,cond_false]
 rw[ht,hc,hn,hbit]
def Vwa {l:List Int} {q:Nat} {s:Stp} {d:Bool} (hb:Aw l) (h:B1a l 0=some ((s,d),q)):l=hdF s d++l.drop q∧q≤l.length:=by
 unfold B1a at h
 simp only[H4b]at h
 obtain⟨⟨t,p2⟩,h2,⟨c,p3⟩,h3,⟨n,p4⟩,h4,⟨e,p5⟩,h5,h⟩:=h
 obtain⟨b1,b2,b3,b4⟩:=Un hb h2
 obtain⟨c1,c2,c3,c4⟩:=Un hb h3
 obtain⟨d1,d2,d3,d4⟩:=Un hb h4
 obtain⟨e1,e2,e3,e4⟩:=Un hb h5
 cases hd:decide (1<e)
 case true=>simp only[hd,cond_true]at h;cases h
 simp only[hd,cond_false,Vg,Wb]at h
 obtain⟨⟨⟨rfl,rfl,rfl⟩,rfl⟩,rfl⟩:=h
 have he:e≤1:=by
  have:=of_decide_eq_false hd
  omega
 have hbit:Ch (Hqa ((e:Int)==1))=e:=by
  have:e=0∨e=1:=by omega
  rcases this with rfl|rfl<;>decide
 have k:∀ n:Nat,n≤1000000000→Ch (n:Int)=n:=λ n hn=>by unfold Ch;omega
 simp only at b1 b2 c1 c2 d1 d2 e1 e2
 refine⟨?_,e4⟩
 rw[Wp]at b1
 unfold hdF Vma
 simp only
 rw[k t b2,k c c2,k n d2,hbit,Vp,Vp,Vp,← e1,← d1,← c1,← b1]
def Xe {f:Fil} (h:H9 f=true) (hb:Aw f.2.2):Pc (Lo f)=some f:=by
 obtain⟨h1,h2,h3⟩:=K8.1 h
 have e:Lo f=hdF f.1 f.2.1++(txt (M1 f.2.2)++c4 (crc (P8 f))):=by
  unfold Lo
  rw[h,cond_true]
  unfold P8
  rw[Vp]
 have g1:=S2a f.1 f.2.1 (txt (M1 f.2.2)++c4 (crc (P8 f))) h1
 have g2:=Vla (hdF f.1 f.2.1) (M1 f.2.2) (c4 (crc (P8 f))) (by rw[Ns];omega)
 rw[← e]at g1 g2
 unfold Pc
 simp only[g1,g2,Vo]
 rw[Np hb]
 have e1:(f.1,f.2.1,f.2.2)=f:=rfl
 rw[e1,h,decide_eq_true rfl]
 rfl
def Gha {a b:List Int} (ha:Aw a) (hb:Aw b):((M1 a).toList==(M1 b).toList)=decide (a=b):=by
 have:teq (M1 a) (M1 b)=decide (a=b):=by
  rw[Hwb,Fe,decide_eq_true_iff]
  constructor
  ·intro h
   have:=congrArg bytesOf h
   rwa [Np ha,Np hb]at this
  ·rintro rfl;rfl
 exact this
def Aaa (b:List Int) (hb:Aw b) (hl:b.length≤1000000000000):Tot (λ k=>Gj k b) (λ r=>r=Nwa b):=by
 have none_of:Pc b=none→Nwa b=(E6b,false):=λ h=>by unfold Nwa;rw[h]
 unfold Gj
 refine Feb (A0b b hb hl 0) ?_
 rintro r (⟨n1,p1,n2,p2,n3,p3,_,g1,g2,g3,rfl⟩|⟨h,hr⟩)
 ·refine Fpb (Uo b hb hl (p3:Int)) ?_
  rw[Doa]
  have g1':Q5 b 0=some (n1,p1):=g1
  cases g4:Q5 b p3 with
  |none=>
   refine Fpb (Dma b hb hl 0) ?_
   refine Ffb rfl (Fgb rfl (Fdb (none_of ?_).symm))
   unfold Pc B1a
   simp only[g1',g2,g3,g4,Vo,Option.bind_none]
  |some x=>
   obtain⟨n4,p4⟩:=x
   simp only
   have es:B1a b 0=bif decide (1<n4) then none else some ((((n1:Int),(n2:Int),(n3:Int)),(n4:Int)==1),p4):=by
    unfold B1a
    simp only[g1',g2,g3,g4,Vo]
   refine Fpb (Dma b hb hl (p4:Int)) ?_
   rw[Vna]
   refine Ffb rfl (Ffb rfl ?_)
   cases g5:Tya b p4 with
   |none=>
    refine Fgb rfl (Fdb (none_of ?_).symm)
    unfold Pc
    rw[es]
    cases decide (1<n4) with
    |true=>rfl
    |false=>simp only[cond_false,Vo,g5,Option.bind_none]
   |some y=>
    obtain⟨t,q⟩:=y
    refine Ffb rfl (Fkb (λ h=>Fdb (none_of ?_).symm) (λ h=>?_))
    ·unfold Pc
     rw[es,decide_eq_true (by omega)]
     rfl
    ·rw[decide_eq_false (by omega),cond_false]at es
     have hq:=Zya hb g5
     simp only
     rw[w64 (n:=(q:Int)+4) (by omega) (by omega)]
     have ef:Pc b=bif H9 (((n1:Int),(n2:Int),(n3:Int)),(n4:Int)==1,bytesOf t)&&decide (Lo (((n1:Int),(n2:Int),(n3:Int)),(n4:Int)==1,bytesOf t)=b) then some (((n1:Int),(n2:Int),(n3:Int)),(n4:Int)==1,bytesOf t) else none:=by
      unfold Pc
      simp only[es,g5,Vo]
     refine Fjb (λ h4=>Fdb (none_of ?_).symm) (λ h4=>?_)
     ·rw[ef]
      cases hc:(H9 (((n1:Int),(n2:Int),(n3:Int)),(n4:Int)==1,bytesOf t)&&decide (Lo (((n1:Int),(n2:Int),(n3:Int)),(n4:Int)==1,bytesOf t)=b))
      ·rfl
      exfalso
      rw[Va,decide_eq_true_iff]at hc
      have a1:=(Vwa hb es).1
      rw[hq.1]at a1
      have a2:=hc.2
      unfold Lo at a2
      rw[hc.1,cond_true]at a2
      unfold P8 at a2
      simp only at a2
      rw[Tj,Vp]at a2
      rw[← a2]at a1
      have a3:=Ibb (Ibb a1)
      have a4:=congrArg length a3
      rw[a2,Wf]at a4
      simp only[c4,Vc,Vj]at a4
      have:(q:Int)+4=(b.length:Int):=by omega
      simp[this]at h4
     ·refine Flb (by simp only[Vj];omega) ?_
      rw[Vz]
      refine Fpb (Fqb (Q:=λ r=>r=H9 (((n1:Int),(n2:Int),(n3:Int)),(n4:Int)==1,bytesOf t)) (Tm _) rfl) ?_
      unfold Nwa
      rw[ef]
      cases hf:H9 (((n1:Int),(n2:Int),(n3:Int)),(n4:Int)==1,bytesOf t)
      ·exact Fgb rfl (Fdb rfl)
      refine Ffb rfl (Fpb (Pw _) ?_)
      rw[Gha (Pa _) hb,Vy]
      cases decide (Lo (((n1:Int),(n2:Int),(n3:Int)),(n4:Int)==1,bytesOf t)=b) with
      |false=>exact Fgb rfl (Fdb rfl)
      |true=>exact Ffb rfl (Fdb rfl)
 ·obtain⟨r1,r2,r3⟩:=r
  simp only at hr
  subst hr
  refine Fpb (Uo b hb hl _) ?_
  refine Fpb (Dma b hb hl _) ?_
  refine Fgb rfl (Fdb (none_of ?_).symm)
  unfold Pc
  rw[Rma (p:=0) (h.resolve_right (by omega))]
  rfl

def gt (l:List Nmd) (s:ByteArray):Option (List Int):=match fnd l s with
 |some i=>some (l.getD i Gg).2
 |none=>none
def Jha (y:Nmd) (l:List Nmd) (s:ByteArray):gt (y::l) s=if y.1=s then some y.2 else gt l s:=by
 unfold gt
 rw[Lwa]
 by_cases h:y.1=s
 ·rw[if_pos (Fe.2 h),if_pos h];rfl
 ·rw[if_neg (λ c=>h (Fe.1 c)),if_neg h]
  cases fnd l s<;>rfl
def Oi {l:List Nmd} {s:ByteArray} {b:List Int} (h:gt l s=some b):(s,b)∈l:=by
 induction l with
 |nil=>cases h
 |cons y l ih=>
  rw[Jha]at h
  by_cases e:y.1=s
  ·rw[if_pos e]at h
   cases h
   subst e
   exact Za
  ·rw[if_neg e]at h
   exact Vi _ (ih h)
def N4 {l:List Nmd} {s:ByteArray}:gt l s=none↔∀ x∈l,x.1≠s:=by
 rw[← Vqa]
 unfold gt
 cases fnd l s with
 |none=>simp
 |some i=>simp
def Jia {l:List Nmd} (hs:Fy l) {x:Nmd} (hx:x∈l):gt l x.1=some x.2:=by
 cases h:gt l x.1 with
 |none=>exact absurd rfl (N4.1 h x hx)
 |some b=>rw[show x=(x.1,b) from A5b hs hx (Oi h) rfl]
def Gia {l:List Nmd} (hs:Fy l) {s:ByteArray} {b:List Int}:gt l s=some b↔(s,b)∈l:=⟨Oi,λ h=>Jia hs h⟩
def Gja {l:List Nmd} {s:ByteArray}:(gt l s).isSome=(fnd l s).isSome:=by
 unfold gt
 cases fnd l s<;>rfl
def Tn {l:List Nmd} (hs:Fy l) {s t:ByteArray}:gt (cut l s) t=if s=t then none else gt l t:=by
 by_cases h:s=t
 ·subst h
  rw[if_pos rfl,N4]
  exact A8a
 ·rw[if_neg h]
  cases hg:gt l t with
  |none=>exact N4.2 λ x hx=>N4.1 hg x (Mq.subset hx)
  |some b=>
   rw[Gia (N3 hs)]
   refine H8b.2 ⟨Oi hg,?_⟩
   cases ht:teq t s with
   |false=>simp[ht]
   |true=>exact absurd (Fe.1 ht).symm h
def Xua {l:List Nmd} (hs:Fy l) {x:Nmd} (hn:∀ y∈l,y.1≠x.1) {t:ByteArray}:gt (ins l x) t=if x.1=t then some x.2 else gt l t:=by
 have hi:=Rn hs hn
 by_cases h:x.1=t
 ·subst h
  rw[if_pos rfl,Gia hi]
  exact Ut.2 (.inl rfl)
 ·rw[if_neg h]
  cases hg:gt l t with
  |none=>
   refine N4.2 λ y hy=>?_
   rcases Ut.1 hy with rfl|hy
   ·exact h
   ·exact N4.1 hg y hy
  |some b=>
   rw[Gia hi]
   exact Ut.2 (.inr (Oi hg))
def Xva:∀ {l m:List Nmd},Fy l→Fy m→(∀ s,gt l s=gt m s)→l=m:=by
 have key:∀ {l m:List Nmd},Fy l→Fy m→(∀ s,gt l s=gt m s)→∀ x∈l,x∈m:=λ hl hm h x hx=>by
  have:=h x.1
  rw[Jia hl hx]at this
  exact Oi this.symm
 intro l m hl hm h
 have h1:∀ x,x∈l↔x∈m:=λ x=>⟨key hl hm h x,key hm hl (λ s=>(h s).symm) x⟩
 clear h key
 induction l generalizing m with
 |nil=>
  cases m with
  |nil=>rfl
  |cons y m=>exact absurd ((h1 y).2 (by simp)) (by simp)
 |cons x l ih=>
  cases m with
  |nil=>exact absurd ((h1 x).1 (by simp)) (by simp)
  |cons y m=>
   obtain⟨a1,a2⟩:=Wg.1 hl
   obtain⟨b1,b2⟩:=Wg.1 hm
   have e:x=y:=by
    rcases Vl.1 ((h1 x).1 (by simp)) with h|h
    ·exact h
    ·rcases Vl.1 ((h1 y).2 (by simp)) with h'|h'
     ·exact h'.symm
     ·have c1:=a1 y h'
      rw[Tf (b1 x h)]at c1
      cases c1
   subst e
   congr 1
   refine ih a2 b2 λ z=>⟨λ hz=>?_,λ hz=>?_⟩
   ·rcases Vl.1 ((h1 z).1 (Vi _ hz)) with rfl|h
    ·have c:=a1 z hz
     rw[Ig]at c
     cases c
    ·exact h
   ·rcases Vl.1 ((h1 z).2 (Vi _ hz)) with rfl|h
    ·have c:=b1 z hz
     rw[Ig]at c
     cases c
    ·exact h
def Cyb (l:List Nmd) (s:ByteArray):rdN l s=match gt l s with|some b=>(b,true)|none=>([],false):=by
 unfold rdN gt
 cases fnd l s<;>rfl
def Jh {s:ByteArray} (h:Bc s=true):Kd s:=by
 have:=(A5a h).2
 unfold Kd
 omega
def E3 {d:Dsk}:Aq d=true↔Iu d.1=true∧Iu d.2=true:=by
 unfold Aq
 rw[Va]
def Mb {d:Dsk} (h:Aq d=true):Fy d.1:=(Af.1 (E3.1 h).1).1
def Oo {d:Dsk} (h:Aq d=true):Fy d.2:=(Af.1 (E3.1 h).2).1
def LB (l:List Nmd):Prop:=∀ x∈l,Aw x.2
def DB (d:Dsk):Prop:=LB d.1∧LB d.2
def LB.cut {l:List Nmd} (h:LB l) (s:ByteArray):LB (cut l s):=λ x hx=>h x (Mq.subset hx)
def LB.ins {l:List Nmd} (h:LB l) {x:Nmd} (hx:Aw x.2):LB (ins l x):=λ y hy=>by
 rcases Ut.1 hy with rfl|hy
 ·exact hx
 ·exact h y hy
def LB.gt {l:List Nmd} (h:LB l) {s:ByteArray} {b:List Int} (hg:gt l s=some b):Aw b:=h _ (Oi hg)
def Nc:Aw []:=λ x hx=>by cases hx
def wr (l:List Nmd) (s:ByteArray) (b:List Int):List Nmd:=ins (cut l s) (s,b)
def sy (d:Dsk) (s:ByteArray):List Nmd:=match gt d.1 s with
 |some b=>wr d.2 s b
 |none=>cut d.2 s
def wrD (d:Dsk) (s:ByteArray) (b:List Int):Dsk×Bool:=bif decide (b.length≤400)&&decide ((wr d.1 s b).length≤60) then ((wr d.1 s b,d.2),true) else (d,false)
def syD (d:Dsk) (s:ByteArray):Dsk×Bool:=bif decide ((sy d s).length≤60) then ((d.1,sy d s),true) else (d,false)
def rmD (d:Dsk) (s:ByteArray):Dsk×Bool:=bif (gt d.1 s).isSome then ((cut d.1 s,d.2),true) else (d,false)
section
variable {d:Dsk} {s:ByteArray} {b:List Int}
def Xwa (hd:Aq d=true):wrI d s b=wr d.1 s b:=by
 unfold wrI wr
 rw[Ur (Mb hd)]
def Xxa (hd:Aq d=true):syI d s=sy d s:=by
 unfold syI sy gt wr
 rw[Ur (Oo hd)]
 cases fnd d.1 s<;>rfl
def Uu (hd:Aq d=true) (hs:Bc s=true) (hb:b.length≤1000000000000):Tot (λ k=>B3 k d s b) (λ r=>r=wrD d s b):=by
 refine(Gda d s b (Nz hd) (Jh hs) hb).mono ?_
 rintro r rfl
 obtain⟨h1,h2⟩:=Lya (b:=b) hd hs
 rw[hd,hs,h1,h2,Xwa hd]
 rfl
def Qu (hd:Aq d=true) (hs:Bc s=true):Tot (λ k=>Ah k d s) (λ r=>r=syD d s):=by
 refine(Lxa d s (Nz hd) (Jh hs)).mono ?_
 rintro r rfl
 rw[hd,hs,A4b hd,Rxa hd hs,Xxa hd]
 rfl
def A9b (hd:Aq d=true) (hs:Bc s=true) (hb:b.length≤400) (hl:(wr d.1 s b).length≤60):Aq (wr d.1 s b,d.2)=true:=by
 have:=(Lya (b:=b) hd hs).2
 rw[Xwa hd,decide_eq_true hb,decide_eq_true hl]at this
 exact this
def Ejb (hd:Aq d=true) (hs:Bc s=true) (hl:(sy d s).length≤60):Aq (d.1,sy d s)=true:=by
 have:=Rxa hd hs
 rw[Xxa hd,decide_eq_true hl]at this
 exact this
def S3a (hd:Aq d=true) (hs:Bc s=true):Aq (wrD d s b).1=true:=by
 unfold wrD
 cases hc:decide (b.length≤400)&&decide ((wr d.1 s b).length≤60)
 ·exact hd
 rw[Va,decide_eq_true_iff,decide_eq_true_iff]at hc
 exact A9b hd hs hc.1 hc.2
def Czb (hd:Aq d=true) (hs:Bc s=true):Aq (syD d s).1=true:=by
 unfold syD
 cases hc:decide ((sy d s).length≤60) with
 |false=>exact hd
 |true=>exact Ejb hd hs (of_decide_eq_true hc)
def Xya (hd:Aq d=true):Aq (rmD d s).1=true:=by
 unfold rmD
 cases (gt d.1 s).isSome with
 |false=>exact hd
 |true=>exact E3.2 ⟨W0 (E3.1 hd).1,(E3.1 hd).2⟩
def S4a (hd:Aq d=true) (h:(gt d.1 s).isSome=true):Bc s=true:=by
 cases hg:gt d.1 s with
 |none=>rw[hg]at h;cases h
 |some b=>exact(Pv.1 ((Af.1 (E3.1 hd).1).2.1 _ (Oi hg))).1
def Px (hd:Aq d=true) (hs:Kd s):Tot (λ k=>Bg k d s) (λ r=>r=rmD d s):=by
 refine(C6a d s (Nz hd).1 hs).mono ?_
 rintro r rfl
 unfold rmD
 rw[hd,← Gja]
 cases h:(gt d.1 s).isSome
 ·rfl
 have h1:Aq (cut d.1 s,d.2)=true:=by
  have:=Xya (s:=s) hd
  unfold rmD at this
  rw[h]at this
  exact this
 rw[S4a hd h,h1]
 rfl
end
def lkD (d:Dsk) (s:ByteArray):Fil×Int:=match gt d.1 s with
 |none=>(E6b,1)
 |some b=>match Pc b with
  |some f=>(f,0)
  |none=>(E6b,2)
def D0b {l:List Nmd} {s:ByteArray} {b:List Int} (h:G5a l) (hg:gt l s=some b):b.length≤1000000000000:=h.2 _ (Oi hg)
def Xf {d:Dsk} (hf:G5a d.1) (hb:LB d.1) (s:ByteArray):Tot (λ k=>Hm k d s) (λ r=>r=lkD d s):=by
 unfold Hm lkD
 refine Fpb (Lva d s hf) ?_
 rw[Cyb]
 cases hg:gt d.1 s with
 |none=>exact Fgb rfl (Fdb rfl)
 |some b=>
  refine Ffb rfl (Fpb (Aaa b (hb.gt hg) (D0b hf hg)) ?_)
  unfold Nwa
  dsimp only
  cases Pc b with
  |none=>exact Fgb rfl (Fdb rfl)
  |some f=>exact Ffb rfl (Fdb rfl)
def Qv {d:Dsk} {s:ByteArray} {f:Fil}:lkD d s=(f,0)↔∃ b,gt d.1 s=some b∧Pc b=some f:=by
 unfold lkD
 cases gt d.1 s with
 |none=>simp
 |some b=>cases h:Pc b<;>simp[h]
def old (d:Dsk) (s:ByteArray):Option Fil:=(gt d.1 s).bind Pc
def kp1 (d:Dsk) (s:ByteArray) (f:Fil):Option (Dsk×Int):=
 let w:=bif (wrD d s (Lo f)).2 then some ((wrD d s (Lo f)).1,(0:Int)) else none
 match old d s with
 |some o=>bif sle o.1 f.1 then w else some (d,1)
 |none=>w
def kp2 (d:Dsk) (s:ByteArray) (sure:Bool) (x:Dsk×Int):Dsk×Int:=bif sure then (bif (syD x.1 s).2 then ((syD x.1 s).1,x.2) else (d,3)) else x
def N5 (d:Dsk) (s:ByteArray) (f:Fil) (sure:Bool):Dsk×Int:=match kp1 d s f with
 |some x=>kp2 d s sure x
 |none=>(d,3)
def keep (d:Dsk) (s:ByteArray) (f:Fil) (sure:Bool):Dsk×Int:=bif Aq d&&(Bc s&&H9 f) then N5 d s f sure else (d,2)
def D1b {d:Dsk} {s:ByteArray} {f:Fil} (hd:Aq d=true) (hs:Bc s=true) {x:Dsk×Int} (h:kp1 d s f=some x):Aq x.1=true:=by
 have hw:∀ x,(bif (wrD d s (Lo f)).2 then some ((wrD d s (Lo f)).1,(0:Int)) else none)=some x→Aq x.1=true:=by
  intro x h
  cases hc:(wrD d s (Lo f)).2 with
  |false=>rw[hc]at h;cases h
  |true=>rw[hc]at h;cases h;exact S3a hd hs
 unfold kp1 at h
 simp only at h
 split at h
 ·rename_i o _
  cases hc:sle o.1 f.1 with
  |false=>rw[hc]at h;cases h;exact hd
  |true=>rw[hc]at h;exact hw _ h
 ·exact hw _ h
def D2b {d:Dsk} {s:ByteArray} (hd:Aq d=true) (hs:Bc s=true) {x:Dsk} {c:Int} (hx:Aq x=true):
  Tot (λ k=>(Ah k x s).bind λ r=>cond (!r.2) ((A7 k d).bind λ q=>some (q,3)) (some (r.1,c))) (λ r=>r=kp2 d s true (x,c)):=by
 unfold kp2
 refine Fpb (Qu hx hs) ?_
 cases h:(syD x s).2
 case true=>exact Ffb rfl (Fdb rfl)
 refine Fgb rfl (Fpb (Li d (Nz hd).1.1) ?_)
 exact Fdb rfl
def M2a (d:Dsk) (s:ByteArray) (f:Fil) (sure:Bool) (hd:DIn d) (hb:LB d.1) (hs:Kd s):Tot (λ k=>Jc k d s f sure) (λ r=>r=keep d s f sure):=by
 have bad:Tot (λ k=>(A7 k d).bind λ r2=>some (r2,(2:Int))) (λ r=>r=(d,2)):=by
  refine Fpb (Li d hd.1.1) ?_
  exact Fdb rfl
 unfold Jc keep
 refine Fpb (Pu d hd.1.1 hd.1.2) ?_
 cases h1:Aq d
 ·exact Fgb rfl bad
 refine Ffb rfl (Fpb (Og s hs) ?_)
 cases h2:Bc s
 ·exact Fgb rfl bad
 refine Ffb rfl (Fpb (Fqb (Q:=λ b=>b=H9 f) (Tm f) rfl) ?_)
 cases h3:H9 f
 ·exact Fgb rfl bad
 refine Ffb rfl (Fpb (Xf hd.1.1.1 hb s) ?_)
 have hlen:=Xd f
 have w:(kp1 d s f=bif (wrD d s (Lo f)).2 then some ((wrD d s (Lo f)).1,(0:Int)) else none)→Tot (λ k=>(B9 k f).bind λ r12=>(B3 k d s r12).bind λ r13=>cond r13.2 (cond sure ((Ah k r13.1 s).bind λ r14=>cond (!r14.2) ((A7 k d).bind λ r15=>some (r15,(3:Int))) (some (r14.1,0))) (cond (!r13.2) ((A7 k d).bind λ r16=>some (r16,3)) (some (r13.1,0)))) (cond (!r13.2) ((A7 k d).bind λ r17=>some (r17,3)) (some (r13.1,0)))) (λ r=>r=N5 d s f sure):=by
  intro e
  refine Fpb (Pw f) ?_
  refine Fpb (Uu h1 h2 (by omega)) ?_
  unfold N5
  rw[e]
  cases h4:(wrD d s (Lo f)).2 with
  |false=>
   refine Ffb rfl (Fgb rfl (Fpb (Li d hd.1.1) ?_))
   exact Fdb rfl
  |true=>
   refine Fgb rfl ?_
   cases sure with
   |true=>exact Fgb rfl (D2b h1 h2 (S3a h1 h2))
   |false=>exact Ffb rfl (Ffb rfl (Fdb rfl))
 have eo:old d s=(gt d.1 s).bind Pc:=rfl
 unfold lkD
 cases hg:gt d.1 s with
 |none=>
  rw[hg]at eo
  refine Ffb rfl (w ?_)
  unfold kp1
  rw[eo]
  rfl
 |some b=>
  rw[hg]at eo
  have eo:old d s=Pc b:=eo
  simp only
  cases ho:Pc b with
  |none=>
   refine Ffb rfl (w ?_)
   unfold kp1
   rw[eo,ho]
  |some o=>
   rw[ho]at eo
   refine Fgb rfl (Fpb (Fqb (Q:=λ b=>b=sle o.1 f.1) (Rza f o) rfl) ?_)
   cases hl:sle o.1 f.1 with
   |true=>
    refine Ffb rfl (w ?_)
    unfold kp1
    simp only[eo,hl,cond_true]
   |false=>
    have e1:N5 d s f sure=kp2 d s sure (d,1):=by
     unfold N5 kp1
     simp only[eo,hl,cond_false]
    refine Fgb rfl ?_
    show Tot _ (λ r=>r=N5 d s f sure)
    rw[e1]
    refine Fpb (Li d hd.1.1) ?_
    cases sure with
    |true=>exact Fgb rfl (D2b h1 h2 h1)
    |false=>exact Ffb rfl (Fdb rfl)

def DG (d:Dsk):Prop:=Aq d=true∧DB d
def Xza {d:Dsk} {s:ByteArray} {b:List Int} (hd:Aq d=true) (h:gt d.1 s=some b):b.length≤400:=(Pv.1 ((Af.1 (E3.1 hd).1).2.1 _ (Oi h))).2
def Y0a {d:Dsk} {s:ByteArray} {b:List Int} (h:DB d) (hb:Aw b):DB (wrD d s b).1:=by
 unfold wrD
 cases decide (b.length≤400)&&decide ((wr d.1 s b).length≤60) with
 |false=>exact h
 |true=>exact⟨(h.1.cut s).ins hb,h.2⟩
def Ekb {d:Dsk} {s:ByteArray} (h:DB d):LB (sy d s):=by
 unfold sy
 cases hg:gt d.1 s with
 |none=>exact h.2.cut s
 |some b=>exact(h.2.cut s).ins (h.1.gt hg)
def D3b {d:Dsk} {s:ByteArray} (h:DB d):DB (syD d s).1:=by
 unfold syD
 cases decide ((sy d s).length≤60) with
 |false=>exact h
 |true=>exact⟨h.1,Ekb h⟩
def D4b {d:Dsk} {s:ByteArray} (h:DB d):DB (rmD d s).1:=by
 unfold rmD
 cases (gt d.1 s).isSome with
 |false=>exact h
 |true=>exact⟨h.1.cut s,h.2⟩
def D5b {d:Dsk} {s:ByteArray} {b:List Int} (h:DG d) (hs:Bc s=true) (hb:Aw b):DG (wrD d s b).1:=⟨S3a h.1 hs,Y0a h.2 hb⟩
def Vxa {d:Dsk} {s:ByteArray} (h:DG d) (hs:Bc s=true):DG (syD d s).1:=⟨Czb h.1 hs,D3b h.2⟩
def S5a {d:Dsk} {s:ByteArray} (h:DG d):DG (rmD d s).1:=⟨Xya h.1,D4b h.2⟩
def D6b {d:Dsk} {s:ByteArray} {f:Fil} (hd:DG d) (hs:Bc s=true) {x:Dsk×Int} (h:kp1 d s f=some x):DG x.1:=by
 refine⟨D1b hd.1 hs h,?_⟩
 have hw:∀ x,(bif (wrD d s (Lo f)).2 then some ((wrD d s (Lo f)).1,(0:Int)) else none)=some x→DB x.1:=by
  intro x h
  cases hc:(wrD d s (Lo f)).2 with
  |false=>rw[hc]at h;cases h
  |true=>rw[hc]at h;cases h;exact Y0a hd.2 (Pa f)
 unfold kp1 at h
 simp only at h
 split at h
 ·rename_i o _
  cases hc:sle o.1 f.1 with
  |false=>rw[hc]at h;cases h;exact hd.2
  |true=>rw[hc]at h;exact hw _ h
 ·exact hw _ h
def Elb {d:Dsk} {s:ByteArray} {sure:Bool} (hd:DG d) (hs:Bc s=true) {x:Dsk×Int} (hx:DG x.1):DG (kp2 d s sure x).1:=by
 unfold kp2
 cases sure
 ·exact hx
 rw[cond_true]
 cases (syD x.1 s).2 with
 |false=>exact hd
 |true=>exact Vxa hx hs
def S6a {d:Dsk} {s:ByteArray} {f:Fil} {sure:Bool} (hd:DG d) (hs:Bc s=true):DG (N5 d s f sure).1:=by
 unfold N5
 cases h:kp1 d s f with
 |none=>exact hd
 |some x=>exact Elb hd hs (D6b hd hs h)
def Y1a {d:Dsk} {s:ByteArray} {f:Fil} {sure:Bool} (hd:DG d):DG (keep d s f sure).1:=by
 unfold keep
 cases h:Bc s
 ·rw[hd.1];exact hd
 cases H9 f with
 |false=>rw[hd.1];exact hd
 |true=>rw[hd.1];exact S6a hd h
def B2a (b:Int) (j:Nat):Int:=((ofInt 8 b ^^^ BitVec.twoPow 8 j).toNat:Int)
def M3a (b:Int) (j:Nat):0≤B2a b j∧B2a b j≤255:=by
 unfold B2a
 have:=(ofInt 8 b ^^^ BitVec.twoPow 8 j).isLt
 omega
def Aab (b:Int):∀ j,j<8→wrap .u8 ((ofInt (IntKind.bits .u8) b ^^^ ofInt (IntKind.bits .u8) (wrap .u8 ((1:Int)*2 ^ (min j (IntKind.bits .u8))))).toNat)=B2a b j:=by
 intro j hj
 have h1:∀ j,j<8→ofInt 8 (wrap .u8 ((1:Int)*2 ^ (min j 8)))=BitVec.twoPow 8 j:=by decide
 show wrap .u8 (((ofInt 8 b ^^^ ofInt 8 (wrap .u8 ((1:Int)*2 ^ (min j 8)))).toNat:Nat):Int)=_
 rw[h1 j hj]
 have:=(ofInt 8 b ^^^ BitVec.twoPow 8 j).isLt
 rw[Rka _ (by omega)]
 rfl
def Vya {b:Int} (hb:0≤b∧b≤255) {j:Nat} (hj:j<8):B2a b j≠b:=by
 intro h
 unfold B2a at h
 have h1:b=((ofInt 8 b).toNat:Int):=by rw[H5b];omega
 have h2:(ofInt 8 b ^^^ BitVec.twoPow 8 j).toNat=(ofInt 8 b).toNat:=by omega
 have h3:=Ikb h2
 have h4:BitVec.twoPow 8 j=0#8:=by
  have:=congrArg (λ x=>ofInt 8 b ^^^ x) h3
  simpa[← BitVec.xor_assoc] using this
 have h5:∀ j,j<8→BitVec.twoPow 8 j≠0#8:=by decide
 exact h5 j hj h4
def M8 (l:List Int) (n:Nat):List Int:=l.set (n/8) (B2a (l.getD (n/8) 0) (n % 8))
def Gka (l:List Int) (n:Nat):(M8 l n).length=l.length:=by unfold M8;rw[Vx]
def Jja {l:List Int} (h:Aw l) (n:Nat):Aw (M8 l n):=λ x hx=>by
 rcases Wo hx with h'|rfl
 ·exact h x h'
 ·exact M3a _ _
def Dra (d:Dsk) (s:ByteArray) (n:Int):Dsk×Bool:=match gt d.1 s with
 |none=>(d,false)
 |some b=>bif inR n 0 (8*(b.length:Int)-1) then ((wr d.1 s (M8 b n.toNat),bif decide (gt d.2 s=some b) then wr d.2 s (M8 b n.toNat) else d.2),true) else (d,false)
def S7a {l:List Nmd} (hs:Fy l) {s:ByteArray} {i:Nat} (h:fnd l s=some i) (b:List Int):l.set i (s,b)=wr l s b:=by
 obtain⟨hi,hn⟩:=Qr h
 have hm:(l.set i (s,b)).map Prod.fst=l.map Prod.fst:=by
  rw[List.map_set]
  apply Gnb
  intro j
  by_cases hj:i=j
  ·subst hj
   rw[Hbb (by rw[Wc];exact hi),Fyb,Vk hi]
   rw[Vd,Vk hi]at hn
   exact congrArg some hn.symm
  ·rw[Grb hj]
 have h1:Fy (l.set i (s,b)):=by
  have e:∀ m:List Nmd,Fy m↔(m.map Prod.fst).Pairwise (λ a b=>tlt a b=true):=λ m=>by
   unfold Fy
   rw[Zj]
  rw[e,hm,← e]
  exact hs
 refine Xva h1 (Rn (N3 hs) A8a) λ t=>?_
 have h2:=Xua (x:=(s,b)) (t:=t) (N3 hs (s:=s)) A8a
 unfold wr
 rw[h2]
 by_cases ht:s=t
 ·subst ht
  rw[if_pos rfl,Gia h1]
  exact List.mem_set hi _
 ·rw[if_neg ht,Tn hs,if_neg ht]
  cases hg:gt l t with
  |none=>
   refine N4.2 λ x hx=>?_
   rcases Wo hx with h'|rfl
   ·exact N4.1 hg x h'
   ·exact ht
  |some c=>
   rw[Gia h1]
   obtain⟨j,hj,e⟩:=Zl.1 (Oi hg)
   have hij:i≠j:=by
    rintro rfl
    rw[Vd,Vk hi,Yp,e]at hn
    exact ht hn.symm
   refine Zl.2 ⟨j,by rw[Vx];exact hj,?_⟩
   rw[List.getElem_set_ne hij]
   exact e
def Gla {l:List Nmd} {s:ByteArray} {b:List Int} (hs:Fy l) (h:(gt l s).isSome=true):(wr l s b).length=l.length:=by
 rw[Gja]at h
 obtain⟨i,hi⟩:=Zm.1 h
 rw[← S7a hs hi,Vx]
def D7b {d:Dsk} {s:ByteArray} {n:Int} (h:DG d):DG (Dra d s n).1:=by
 unfold Dra
 cases hg:gt d.1 s with
 |none=>exact h
 |some b=>
  simp only
  cases inR n 0 (8*(b.length:Int)-1)
  ·exact h
  have hn:=S4a h.1 (s:=s) (by rw[hg];rfl)
  have hb:=Xza h.1 hg
  have hbb:=Jja (h.2.1.gt hg) n.toNat
  have l1:=Gla (b:=M8 b n.toNat) (Mb h.1) (s:=s) (by rw[hg];rfl)
  have q1:=A9b h.1 hn (b:=M8 b n.toNat) (by rw[Gka];exact hb) (by rw[l1];exact(Af.1 (E3.1 h.1).1).2.2)
  rw[cond_true]
  cases hc:decide (gt d.2 s=some b)
  ·exact⟨q1,(h.2.1.cut s).ins hbb,h.2.2⟩
  have hg2:=of_decide_eq_true hc
  have l2:=Gla (b:=M8 b n.toNat) (Oo h.1) (s:=s) (by rw[hg2];rfl)
  have h':Aq (d.2,d.1)=true:=E3.2 ⟨(E3.1 h.1).2,(E3.1 h.1).1⟩
  have q2:=A9b h' hn (b:=M8 b n.toNat) (by rw[Gka];exact hb) (by show (wr d.2 s _).length≤60;rw[l2];exact(Af.1 (E3.1 h.1).2).2.2)
  exact⟨E3.2 ⟨(E3.1 q1).1,(E3.1 q2).1⟩,(h.2.1.cut s).ins hbb,(h.2.2.cut s).ins hbb⟩
def Abb {d:Dsk} {s:ByteArray} {n:Int} (h:DG d) (hn:n≤9223372036854775807) (hn0 : -9223372036854775808≤n):Tot (λ k=>Jp k d s n) (λ r=>r=Dra d s n):=by
 have hin:=Nz h.1
 unfold Jp
 refine Fpb (Li d hin.1.1) ?_
 refine Fpb (C5a d.1 s hin.1.1.1.1) ?_
 refine Fpb (Pu d hin.1.1 hin.1.2) ?_
 rw[h.1]
 refine Ffb rfl ?_
 unfold Dra
 unfold Rna
 cases hf:fnd d.1 s with
 |none=>
  have hg:gt d.1 s=none:=by unfold gt;rw[hf]
  rw[hg]
  exact Fhb (by decide) (Fdb rfl)
 |some i=>
  have hg:gt d.1 s=some (d.1.getD i Gg).2:=by unfold gt;rw[hf]
  have hi:=(Qr hf).1
  have hnm:=(Qr hf).2
  have hb:=Xza h.1 hg
  rw[hg]
  have e0:d.1.getD i ((⟨#[]⟩:ByteArray),([]:List Int))=d.1.getD i Gg:=rfl
  simp only[Vb,e0]
  refine Fib (by omega) (Fhb (by omega) (Fhb (by omega) ?_))
  rw[w64 (n:=8*((d.1.getD i Gg).2.length:Int)) (by omega) (by omega),w64 (n:=8*((d.1.getD i Gg).2.length:Int)-1) (by omega) (by omega)]
  refine Fpb (Fqb (Q:=λ b=>b=inR n 0 (8*((d.1.getD i Gg).2.length:Int)-1)) (Nb _ _ _) rfl) ?_
  cases hr:inR n 0 (8*((d.1.getD i Gg).2.length:Int)-1)
  ·exact Fgb rfl (Fdb rfl)
  obtain⟨n0,n1⟩:=Cy.1 hr
  obtain⟨m,rfl⟩:∃ m:Nat,n=(m:Int):=⟨n.toNat,by omega⟩
  have hm8:m/8<(d.1.getD i Gg).2.length:=by omega
  have et:wrap .i64 (Int.tdiv (m:Int) 8)=((m/8:Nat):Int):=by
   rw[Gqb (by omega),w64 (by omega) (by omega)]
   omega
  have eu:wrap .u64 (Int.tmod (m:Int) 8)=((m % 8:Nat):Int):=by
   have h8:∀ j:Nat,j<8→wrap .u64 (j:Int)=(j:Int):=by decide
   rw[Gpb (by omega),← h8 (m % 8) (by omega)]
   congr 1
  refine Ffb rfl (Fpb (C5a d.2 s hin.1.1.2.1) ?_)
  simp only[et,eu,Vb,Aab _ _ (Imb m (show 0<8 by omega))]
  have ew:d.1.set i ((d.1.getD i Gg).1,M8 (d.1.getD i Gg).2 m)=wr d.1 s (M8 (d.1.getD i Gg).2 m):=by rw[hnm];exact S7a (Mb h.1) hf _
  have ew':d.1.set i ((d.1.getD i Gg).1,(d.1.getD i Gg).2.set (m/8) (B2a ((d.1.getD i Gg).2.getD (m/8) 0) (m % 8)))=wr d.1 s (M8 (d.1.getD i Gg).2 m):=ew
  unfold Rna
  cases hf2:fnd d.2 s with
  |none=>
   have hg2:gt d.2 s=none:=by unfold gt;rw[hf2]
   rw[hg2]
   refine Fib (by decide) (Fhb (by omega) (Fhb (by omega) (Fhb (by omega) (Fhb (by omega) (Fib (by omega) (Fhb (by omega) (Fhb (by omega) (Fdb ?_))))))))
   rw[ew']
   rfl
  |some j=>
   have hg2:gt d.2 s=some (d.2.getD j Gg).2:=by unfold gt;rw[hf2]
   have hj:=(Qr hf2).1
   have hjn:=(Qr hf2).2
   have e1:d.2.getD j ((⟨#[]⟩:ByteArray),([]:List Int))=d.2.getD j Gg:=rfl
   rw[hg2]
   simp only[Vb,e1]
   refine Fhb (by omega) (Fhb (by omega) (Fhb (by omega) (Fhb (by omega) (Fhb (by omega) (Fhb (by omega) (Fhb (by omega) (Fhb (by omega) (Fhb (by omega) (Fib (by omega) (Fhb (by omega) (Fhb (by omega) ?_)))))))))))
   rw[Gha (h.2.2.gt hg2) (h.2.1.gt hg)]
   refine Fkb (λ he=>?_) (λ he=>?_)
   ·have hl2:(d.2.getD j Gg).2.length=(d.1.getD i Gg).2.length:=by rw[he]
    refine Fhb (by omega) (Fhb (by omega) (Fhb (by omega) (Fhb (by omega) (Fib (by omega) (Fhb (by omega) (Fhb (by omega) (Fdb ?_)))))))
    have ew2:d.2.set j ((d.2.getD j Gg).1,(d.2.getD j Gg).2.set (m/8) (B2a ((d.2.getD j Gg).2.getD (m/8) 0) (m % 8)))=wr d.2 s (M8 (d.1.getD i Gg).2 m):=by
     rw[hjn,he]
     exact S7a (Oo h.1) hf2 _
    rw[ew',ew2,he,decide_eq_true rfl]
    rfl
   ·refine Fdb ?_
    rw[ew',decide_eq_false (λ c=>he (Option.some.inj c))]
    rfl
def Nxa:∀ (n:Nat) (i:Int) (c:Cur) (a0 a1:List Nmd) (d:Dsk),i=n→n≤6→Bn c→DG d→
  Tot (λ k=>Ae k i c.1 c.2.1 c.2.2 a0 a1 d.1 d.2) (λ r=>DG (r.2.2.1,r.2.2.2.1)∧Bn r.2.2.2.2):=by
 intro n
 induction n with
 |zero=>
  intro i c a0 a1 d hi h6 hc hd
  refine Tot.succ ?_
  simp only[Ae]
  exact Fib (by omega) (Fdb ⟨hd,hc⟩)
 |succ n ih=>
  intro i c a0 a1 d hi h6 hc hd
  refine Tot.succ ?_
  simp only[Ae]
  refine Fhb (by omega) ?_
  rw[w64 (n:=i-1) (by omega) (by omega)]
  obtain⟨s,c1,e1,hs,k1⟩:=M6 c hc
  refine Fpb (Fqb (Q:=λ r=>r=(s,c1)) e1 rfl) ?_
  obtain⟨x,c2,e2,_,_,_,k2⟩:=Ac c1 k1 6 (by decide)
  refine Fpb (Fqb (Q:=λ r=>r=(x,c2)) e2 rfl) ?_
  dsimp only
  obtain⟨hsh,hsn⟩:=Kh s hs
  have wr:Tot (λ k=>(C8 k c2).bind λ r5=>(B9 k r5.1).bind λ r6=>(B3 k (d.1,d.2) s r6).bind λ r7=>Ae k (i-1) r5.2.1 r5.2.2.1 r5.2.2.2 a0 a1 r7.1.1 r7.1.2) (λ r=>DG (r.2.2.1,r.2.2.2.1)∧Bn r.2.2.2.2):=by
   refine Feb (N1 c2 k2) (λ f hf=>?_)
   refine Fpb (Pw f.1) ?_
   refine Fpb (Uu hd.1 hsn (by have:=Xd f.1;omega)) ?_
   exact ih (i-1) f.2 a0 a1 _ (by omega) (by omega) hf.2 (D5b hd hsn (Pa _))
  have sy:Tot (λ k=>(Ah k (d.1,d.2) s).bind λ r4=>Ae k (i-1) c2.1 c2.2.1 c2.2.2 a0 a1 r4.1.1 r4.1.2) (λ r=>DG (r.2.2.1,r.2.2.2.1)∧Bn r.2.2.2.2):=by
   refine Fpb (Qu hd.1 hsn) ?_
   exact ih (i-1) c2 a0 a1 _ (by omega) (by omega) k2 (Vxa hd hsn)
  refine Fjb (λ _=>?_) (λ _=>Fjb (λ h=>Fjb (λ _=>sy) (λ _=>wr)) (λ _=>Fjb (λ _=>sy) (λ _=>wr)))
  refine Fpb (Px hd.1 hsh) ?_
  exact ih (i-1) c2 a0 a1 _ (by omega) (by omega) k2 (S5a hd)
def lb0:LB []:=λ x hx=>by cases hx
def dg0:DG ([],[]):=⟨by decide,⟨lb0,lb0⟩⟩
def Acb (c:Cur) (hc:Bn c):Tot (λ k=>Dq k c) (λ r=>DG r.1∧Bn r.2):=by
 unfold Dq
 obtain⟨x,c2,e2,h0,h1,_,k2⟩:=Ac c hc 7 (by decide)
 have h1:=h1 (by decide)
 refine Fpb (Fqb (Q:=λ r=>r=(x,c2)) e2 rfl) ?_
 exact Feb (Nxa x.toNat x c2 [] [] ([],[]) (by omega) (by omega) k2 dg0) (λ r hr=>Fdb hr)
def Y2a {l:List Nmd} {x:Nmd} (h:LB l) (hx:Aw x.2):LB (l++[x]):=λ y hy=>by
 rcases Vn.1 hy with hy|hy
 ·exact h y hy
 ·rw[Vt.1 hy];exact hx
def Gma (n:Nat):Aw (List.replicate n 0):=λ x hx=>by
 rw[List.eq_of_mem_replicate hx]
 omega
def D8b (c:Cur) (hc:Bn c):Tot (λ k=>Id k c) (λ r=>(DIn r.1∧DB r.1)∧Bn r.2):=by
 have h0:=Vta c hc
 have h1:Tot (λ k=>Id k c) (λ r=>DB r.1):=by
  unfold Id
  refine Feb (Acb c hc) (λ d hd=>?_)
  obtain⟨hd,k0⟩:=hd
  have hin:=Nz hd.1
  have g1:=(Af.1 (E3.1 hd.1).1).2.2
  have g2:=(Af.1 (E3.1 hd.1).2).2.2
  obtain⟨x,c2,e2,_,_,_,k2⟩:=Ac d.2 k0 12 (by decide)
  refine Fpb (Fqb (Q:=λ r=>r=(x,c2)) e2 rfl) ?_
  refine Fjb (λ _=>?_) (λ _=>Fjb (λ _=>?_) (λ _=>Fdb hd.2))
  ·obtain⟨s,c3,e3,hs,k3⟩:=Ma c2 k2
   refine Fpb (Fqb (Q:=λ r=>r=(s,c3)) e3 rfl) ?_
   exact Flb (by simp only[Vc,Vj];omega) (Fdb ⟨Y2a hd.2.1 Nc,hd.2.2⟩)
  ·obtain⟨s,c3,e3,hs,k3⟩:=Ma c2 k2
   refine Fpb (Fqb (Q:=λ r=>r=(s,c3)) e3 rfl) ?_
   obtain⟨y,c4,e4,y0,y1,_,k4⟩:=Ac c3 k3 2 (by decide)
   have y1:=y1 (by decide)
   refine Fpb (Fqb (Q:=λ r=>r=(y,c4)) e4 rfl) ?_
   dsimp only
   rw[w64 (n:=400+y) (by omega) (by omega)]
   exact Fhb rfl (Fhb (by omega) (Fhb (by omega) (Flb (by simp only[Vc,Vj];omega) (Fdb ⟨hd.2.1,Y2a hd.2.2 (Gma _)⟩))))
 exact(h0.and h1).mono λ r h=>⟨⟨h.1.1,h.2⟩,h.1.2⟩
def Dsa (c:Cur) (hc:Bn c):∃ x c',Io c=some (x,c')∧Bn c':=by
 obtain⟨s,c1,e1,hs,k1⟩:=Fwa c hc
 obtain⟨x,c2,e2,_,_,_,k2⟩:=Ac c1 k1 10 (by decide)
 unfold Io
 simp only[e1,e2,Vo]
 cases x==0 with
 |true=>
  obtain⟨y,c3,e3,_,k3⟩:=Ja c2 k2 [(-1),1000000001] (by decide) (by decide)
  exact⟨(y,s.2),c3,by simp only[e3,Vo,cond_true],k3⟩
 |false=>
  cases x==1 with
  |true=>
   obtain⟨y,c3,e3,_,k3⟩:=Ja c2 k2 [(-1),1000000,1000001] (by decide) (by decide)
   exact⟨(s.1,y,s.2.2),c3,by simp only[e3,Vo,cond_true,cond_false],k3⟩
  |false=>
   cases x==2 with
   |true=>
    obtain⟨y,c3,e3,_,k3⟩:=Ja c2 k2 [(-1),20,21] (by decide) (by decide)
    exact⟨(s.1,s.2.1,y),c3,by simp only[e3,Vo,cond_true,cond_false],k3⟩
   |false=>exact⟨s,c2,by simp only[cond_false],k2⟩
def Gna (c:Cur) (hc:Bn c):Tot (λ k=>K6 k c) (λ r=>(Aw r.1.2.2∧r.1.2.2.length≤2000000)∧Bn r.2):=by
 unfold K6
 refine Feb (N1 c hc) ?_
 rintro⟨f,c1⟩ ⟨hf,k1⟩
 have hl:f.2.2.length≤9:=by have:=hf.2.2.1;dsimp only at this;omega
 obtain⟨x,c2,e2,_,_,_,k2⟩:=Ac c1 k1 12 (by decide)
 refine Fpb (Fqb (Q:=λ r=>r=(x,c2)) e2 rfl) ?_
 refine Fjb (λ _=>?_) (λ _=>Fjb (λ _=>Fdb ⟨⟨hf.2.1,by dsimp only;omega⟩,k2⟩) (λ _=>Fjb (λ _=>?_) (λ _=>Fdb ⟨⟨hf.2.1,by dsimp only;omega⟩,k2⟩)))
 ·obtain⟨y,c3,e3,k3⟩:=Dsa c2 k2
  refine Fpb (Fqb (Q:=λ r=>r=(y,c3)) e3 rfl) ?_
  exact Fdb ⟨⟨hf.2.1,by dsimp only;omega⟩,k3⟩
 ·obtain⟨y,c4,e4,y0,y1,_,k4⟩:=Ac c2 k2 2 (by decide)
  have y1:=y1 (by decide)
  refine Fpb (Fqb (Q:=λ r=>r=(y,c4)) e4 rfl) ?_
  dsimp only
  rw[w64 (n:=200+y) (by omega) (by omega)]
  exact Fhb rfl (Fhb (by omega) (Fhb (by omega) (Fdb ⟨⟨Gma _,by dsimp only;rw[List.length_replicate];omega⟩,k4⟩)))

section
variable {d:Dsk} {s:ByteArray} {f:Fil} {sure:Bool}
def Vza (a:Stp):sle a a=false:=P6 a
def Goa (h1:Aq d=true) (h2:Bc s=true) (h3:H9 f=true):keep d s f sure=N5 d s f sure:=by unfold keep;rw[h1,h2,h3];rfl
def Gpa {x:Dsk} {c:Int}:(kp2 d s sure (x,c)=(d,3))∨(sure=false∧kp2 d s sure (x,c)=(x,c))∨(sure=true∧(sy x s).length≤60∧kp2 d s sure (x,c)=((x.1,sy x s),c)):=by
 unfold kp2 syD
 cases sure
 ·exact .inr (.inl ⟨rfl,rfl⟩)
 rw[cond_true]
 by_cases h:(sy x s).length≤60
 ·rw[decide_eq_true h]
  exact .inr (.inr ⟨rfl,h,rfl⟩)
 ·rw[decide_eq_false h]
  exact .inl rfl
def S8a (hd:DG d) (hs:Bc s=true):kp1 d s f=none∨(∃ o,old d s=some o∧sle o.1 f.1=false∧kp1 d s f=some (d,1))∨((∀ o,old d s=some o→sle o.1 f.1=true)∧(wr d.1 s (Lo f)).length≤60∧kp1 d s f=some ((wr d.1 s (Lo f),d.2),0)):=by
 have hl:(Lo f).length≤400:=by have:=Xd f;omega
 have w:(bif (wrD d s (Lo f)).2 then some ((wrD d s (Lo f)).1,(0:Int)) else none)=none∨((wr d.1 s (Lo f)).length≤60∧(bif (wrD d s (Lo f)).2 then some ((wrD d s (Lo f)).1,(0:Int)) else none)=some ((wr d.1 s (Lo f),d.2),0)):=by
  unfold wrD
  rw[decide_eq_true hl,Vy]
  by_cases h:(wr d.1 s (Lo f)).length≤60
  ·rw[decide_eq_true h];exact .inr ⟨h,rfl⟩
  ·rw[decide_eq_false h];exact .inl rfl
 unfold kp1
 cases ho:old d s with
 |none=>
  rcases w with h|⟨h1,h2⟩
  ·exact .inl h
  ·exact .inr (.inr ⟨λ o h=>(by cases h),h1,h2⟩)
 |some o=>
  simp only
  cases hc:sle o.1 f.1
  ·exact .inr (.inl ⟨o,rfl,hc,rfl⟩)
  rcases w with h|⟨h1,h2⟩
  ·exact .inl h
  ·exact .inr (.inr ⟨λ o' h=>(by cases h;exact hc),h1,h2⟩)
def Uv (hd:DG d) (hs:Bc s=true):N5 d s f sure=(d,3)∨
  (∃ o,old d s=some o∧sle o.1 f.1=false∧(N5 d s f sure).2=1∧DG (N5 d s f sure).1∧((sure=false∧(N5 d s f sure).1=d)∨(sure=true∧(N5 d s f sure).1=(d.1,sy d s))))∨
  ((∀ o,old d s=some o→sle o.1 f.1=true)∧DG (wr d.1 s (Lo f),d.2)∧(N5 d s f sure).2=0∧DG (N5 d s f sure).1∧((sure=false∧(N5 d s f sure).1=(wr d.1 s (Lo f),d.2))∨(sure=true∧(N5 d s f sure).1=(wr d.1 s (Lo f),sy (wr d.1 s (Lo f),d.2) s)))):=by
 have hg:=S6a (f:=f) (sure:=sure) hd hs
 rcases S8a (f:=f) hd hs with h|⟨o,h1,h2,h⟩|⟨h1,h2,h⟩
 ·exact .inl (by unfold N5;rw[h])
 ·have e:N5 d s f sure=kp2 d s sure (d,1):=by unfold N5;rw[h]
  rcases Gpa (d:=d) (s:=s) (sure:=sure) (x:=d) (c:=1) with k|⟨k0,k⟩|⟨k0,k1,k⟩
  ·exact .inl (e.trans k)
  ·rw[← e]at k
   exact .inr (.inl ⟨o,h1,h2,by rw[k],hg,.inl ⟨k0,by rw[k]⟩⟩)
  ·rw[← e]at k
   exact .inr (.inl ⟨o,h1,h2,by rw[k],hg,.inr ⟨k0,by rw[k]⟩⟩)
 ·have e:N5 d s f sure=kp2 d s sure ((wr d.1 s (Lo f),d.2),0):=by unfold N5;rw[h]
  have hw:=D6b hd hs h
  rcases Gpa (d:=d) (s:=s) (sure:=sure) (x:=(wr d.1 s (Lo f),d.2)) (c:=0) with k|⟨k0,k⟩|⟨k0,k1,k⟩
  ·exact .inl (e.trans k)
  ·rw[← e]at k
   exact .inr (.inr ⟨h1,hw,by rw[k],hg,.inl ⟨k0,by rw[k]⟩⟩)
  ·rw[← e]at k
   exact .inr (.inr ⟨h1,hw,by rw[k],hg,.inr ⟨k0,by rw[k]⟩⟩)
def Jka {l:List Nmd} (hs:Fy l) {s t:ByteArray} {b:List Int}:gt (wr l s b) t=if s=t then some b else gt l t:=by
 unfold wr
 rw[Xua (x:=(s,b)) (N3 hs) A8a]
 by_cases h:s=t
 ·rw[if_pos h,if_pos h]
 ·rw[if_neg h,if_neg h,Tn hs,if_neg h]
def Jla (hd:Aq d=true) {t:ByteArray}:gt (sy d s) t=if s=t then gt d.1 s else gt d.2 t:=by
 unfold sy
 cases h:gt d.1 s with
 |none=>rw[Tn (Oo hd)]
 |some b=>rw[Jka (Oo hd)]
def S9a (hd:DG d) (hs:Bc s=true) (hf:H9 f=true) (hb:Aw f.2.2) (h:(N5 d s f true).2=0∨(N5 d s f true).2=1):
  ∃ o g b,DG o∧DG (N5 d s f true).1∧(N5 d s f true).1=(o.1,sy o s)∧gt o.1 s=some b∧Pc b=some g∧sle g.1 f.1=false:=by
 rcases Uv (f:=f) (sure:=true) hd hs with k|⟨o,h1,h2,k,hg,h3⟩|⟨h1,h2,k,hg,h3⟩
 ·rw[k]at h;rcases h with h|h<;>cases h
 ·rcases h3 with⟨h3,_⟩|⟨_,h3⟩
  ·cases h3
  ·have ho:(gt d.1 s).bind Pc=some o:=h1
   cases hg1:gt d.1 s with
   |none=>rw[hg1]at ho;cases ho
   |some b=>
    rw[hg1]at ho
    exact⟨d,o,b,hd,hg,h3,hg1,ho,h2⟩
 ·rcases h3 with⟨h3,_⟩|⟨_,h3⟩
  ·cases h3
  ·exact⟨(wr d.1 s (Lo f),d.2),f,Lo f,h2,hg,h3,by show gt (wr d.1 s (Lo f)) s=_;rw[Jka (Mb hd.1),if_pos rfl],Xe hf hb,Vza _⟩
end

abbrev Nod:=Int×Dsk×List Row×List Row
def qOk (l:List Row):Bool:=l.all Mo
def Lb (n:Nod):Bool:=qOk n.2.2.2&&(inR n.1 0 20&&(Aq n.2.1&&(J7 n.2.2.1&&decide ((n.2.2.2.length:Int)≤60))))
def RF (l:List Row):Prop:=l.length≤2000000∧Ps l
def NIn (n:Nod):Prop:=(DIn n.2.1∧DB n.2.1)∧RF n.2.2.1∧RF n.2.2.2
def NG (n:Nod):Prop:=Lb n=true∧DB n.2.1
def B1 {n:Nod}:Lb n=true↔(∀ r∈n.2.2.2,Mo r=true)∧(0≤n.1∧n.1≤20)∧Aq n.2.1=true∧J7 n.2.2.1=true∧n.2.2.2.length≤60:=by
 unfold Lb qOk
 simp only[Va,Ys,Cy,decide_eq_true_iff]
 constructor
 ·rintro⟨h1,h2,h3,h4,h5⟩;exact⟨h1,h2,h3,h4,by omega⟩
 ·rintro⟨h1,h2,h3,h4,h5⟩;exact⟨h1,h2,h3,h4,by omega⟩
def Uw {l:List Row} (h:J7 l=true):RF l:=by
 obtain⟨_,h2,h3⟩:=Kw.1 h
 exact⟨by omega,λ r hr=>Jh (C3a (h2 r hr))⟩
def Rs {n:Nod} (h:NG n):NIn n:=by
 obtain⟨h1,_,h3,h4,h5⟩:=B1.1 h.1
 exact⟨⟨Nz h3,h.2⟩,Uw h4,by omega,λ r hr=>Jh (C3a (h1 r hr))⟩
def NG.g {n:Nod} (h:NG n):DG n.2.1:=⟨(B1.1 h.1).2.2.1,h.2⟩
def M4a (n:Nod) (hn:NIn n):Tot (λ k=>Eg k n) (λ r=>r=Lb n):=by
 obtain⟨i,⟨a,b⟩,ro,q⟩:=n
 obtain⟨⟨hd,_⟩,hr,hq⟩:=hn
 dsimp only at hd hr hq
 unfold Eg
 have hl:=hq.1
 refine Feb (Q:=λ r=>r=bif qOk q then .inr (i,a,b,ro,q) else .inl false) ?_ ?_
 ·refine Fmb (L:=λ k i' (_:Unit)=>H4 k q (q.length:Int) i' i a b ro q) (Q:=λ r=>r=bif qOk q then .inr (i,a,b,ro,q) else .inl false) q.length (λ j _=>(q.drop j).all Mo=q.all Mo) ?_ ?_ 0 () (Vs _) (by rw[Wp])
  ·intro _ hj
   rw[Wi]at hj
   simp only[H4]
   exact Fib (by omega) (Fdb (by unfold qOk;rw[← hj];rfl))
  ·intro j _ hj hi next
   simp only[H4]
   rw[Ap (d:=Jx) hj,Fsb]at hi
   refine Fhb (by omega) (Fhb (by omega) (Fhb (by omega) ?_))
   rw[Vb,w64 (n:=(j:Int)+1) (by omega) (by omega)]
   refine Fpb (Rca (q.getD j Jx) (hq.2 _ (A4 hj))) ?_
   cases hc:Mo (q.getD j Jx) with
   |false=>exact Fgb rfl (Fdb (by unfold qOk;rw[← hi,hc];rfl))
   |true=>exact Ffb rfl (next () (by rw[hc,Vy]at hi;exact hi))
 ·rintro r rfl
  unfold Lb
  dsimp only
  cases qOk q
  ·exact Fdb rfl
  simp only[cond_true,G7b,Vy]
  refine Fpb (Fqb (Q:=λ r=>r=inR i 0 20) (Th _ _ _) rfl) ?_
  cases inR i 0 20
  ·exact Ffb rfl (Fdb rfl)
  refine Fgb rfl (Fpb (Vpa (a,b) hd.1.1 hd.1.2) ?_)
  cases Aq (a,b)
  ·exact Ffb rfl (Fdb rfl)
  refine Fgb rfl (Fpb (Lma ro (by have:=hr.1;unfold Few;omega) hr.2) ?_)
  cases J7 ro with
  |false=>exact Ffb rfl (Fdb rfl)
  |true=>exact Fgb rfl (Fdb rfl)
def Xg (n:Nod) (hn:NIn n):Tot (λ k=>C3 k n) (λ r=>r=Lb n):=by
 obtain⟨i,⟨a,b⟩,ro,q⟩:=n
 obtain⟨⟨hd,_⟩,hr,hq⟩:=hn
 dsimp only at hd hr hq
 unfold C3
 have hl:=hq.1
 refine Feb (Q:=λ r=>r=bif qOk q then .inr (i,a,b,ro,q) else .inl false) ?_ ?_
 ·refine Fmb (L:=λ k i' (_:Unit)=>Gw k i' i a b ro q) (Q:=λ r=>r=bif qOk q then .inr (i,a,b,ro,q) else .inl false) q.length (λ j _=>(q.drop j).all Mo=q.all Mo) ?_ ?_ 0 () (Vs _) (by rw[Wp])
  ·intro _ hj
   rw[Wi]at hj
   simp only[Gw]
   exact Fib (by omega) (Fdb (by unfold qOk;rw[← hj];rfl))
  ·intro j _ hj hi next
   simp only[Gw]
   rw[Ap (d:=Jx) hj,Fsb]at hi
   refine Fhb (by omega) (Fhb (by omega) (Fhb (by omega) ?_))
   rw[Vb,w64 (n:=(j:Int)+1) (by omega) (by omega)]
   refine Fpb (Rda (q.getD j Jx) (hq.2 _ (A4 hj))) ?_
   cases hc:Mo (q.getD j Jx) with
   |false=>exact Fgb rfl (Fdb (by unfold qOk;rw[← hi,hc];rfl))
   |true=>exact Ffb rfl (next () (by rw[hc,Vy]at hi;exact hi))
 ·rintro r rfl
  unfold Lb
  dsimp only
  cases qOk q
  ·exact Fdb rfl
  simp only[cond_true,G7b,Vy]
  refine Fpb (Fqb (Q:=λ r=>r=inR i 0 20) (Nb _ _ _) rfl) ?_
  cases inR i 0 20
  ·exact Ffb rfl (Fdb rfl)
  refine Fgb rfl (Fpb (Pu (a,b) hd.1.1 hd.1.2) ?_)
  cases Aq (a,b)
  ·exact Ffb rfl (Fdb rfl)
  refine Fgb rfl (Fpb (Lna ro (by have:=hr.1;unfold Few;omega) hr.2) ?_)
  cases J7 ro with
  |false=>exact Ffb rfl (Fdb rfl)
  |true=>exact Fgb rfl (Fdb rfl)
def Qw (n:Nod) (hn:NIn n):Tot (λ k=>Ee k n) (λ r=>r=n):=by
 unfold Ee
 have h1:=hn.2.1.1
 have h2:=hn.2.2.1
 refine Fpb (G6a n.2.1 hn.1.1.1.1) ?_
 refine Fpb (Fqb (Q:=λ r=>r=n.2.2.1) (Tg _ (by unfold Few;omega)) rfl) ?_
 refine Fpb (Fqb (Q:=λ r=>r=n.2.2.2) (Tg _ (by unfold Few;omega)) rfl) ?_
 exact Fdb rfl
def Nd (n:Nod) (hn:NIn n):Tot (λ k=>Bi k n) (λ r=>r=n):=by
 unfold Bi
 have h1:=hn.2.1.1
 have h2:=hn.2.2.1
 refine Fpb (Li n.2.1 hn.1.1.1.1) ?_
 refine Flb (by simp only[Vj];omega) (Flb (by simp only[Vj];omega) (Fdb ?_))
 rw[Vz,Vz]
def Nya (a b:List Row) (hf:a.length+b.length≤10000000000):Tot (λ k=>C0 k a b) (λ r=>r=Nl a b):=by
 unfold C0
 refine Flb (by simp only[Vj];omega) ?_
 rw[Vz]
 refine Feb (Q:=λ r=>r=Nl a b) ?_ (by rintro r rfl;exact Fdb rfl)
 refine Fmb (L:=λ k i s=>Dn k b s i) (Q:=λ r=>r=Nl a b) b.length (λ i s=>Nl s (b.drop i)=Nl a b∧s.length≤a.length+i) ?_ ?_ 0 a (Vs _) ⟨by rw[Wp],Nat.le_add_right _ _⟩
 ·rintro s ⟨hs,_⟩
  rw[Wi]at hs
  simp only[Dn]
  exact Fib (by omega) (Fdb hs)
 ·rintro i s hi ⟨hs,hl⟩ next
  simp only[Dn]
  refine Fhb (by omega) (Fhb (by omega) (Fhb (by omega) ?_))
  rw[Vb,w64 (n:=(i:Int)+1) (by omega) (by omega)]
  rw[Ap (d:=Jx) hi]at hs
  refine Fpb (G2a s (b.getD i Jx) (by unfold Few;omega)) ?_
  have:=Dia s (b.getD i Jx)
  exact next _ ⟨hs,by omega⟩
def B3a (n:Nod) (l:List Row):Nod×Bool:=bif Lb n&&J7 l then (bif decide ((Nl n.2.2.1 l).length > 60) then (n,false) else ((n.1,n.2.1,Nl n.2.2.1 l,n.2.2.2),true)) else (n,false)
def Aba {a b:List Row} (ha:J7 a=true) (hb:J7 b=true) (h:(Nl a b).length≤60):J7 (Nl a b)=true:=by
 obtain⟨a1,a2,_⟩:=Kw.1 ha
 obtain⟨b1,b2,_⟩:=Kw.1 hb
 exact Kw.2 ⟨N2 a1,λ r hr=>(Loa hr).elim (a2 r) (b2 r),h⟩
def Dta {n:Nod} {l:List Row} (hn:NG n):NG (B3a n l).1:=by
 unfold B3a
 rw[hn.1,Vy]
 cases hl:J7 l
 ·exact hn
 rw[cond_true]
 cases hc:decide ((Nl n.2.2.1 l).length > 60)
 case true=>exact hn
 obtain⟨h1,h2,h3,h4,h5⟩:=B1.1 hn.1
 exact⟨B1.2 ⟨h1,h2,h3,Aba h4 hl (by have:=of_decide_eq_false hc;omega),h5⟩,hn.2⟩
def W0a (n:Nod) (l:List Row) (hn:NIn n) (hl:RF l):Tot (λ k=>I7 k n l) (λ r=>r=B3a n l):=by
 have h1:=hn.2.1.1
 have h2:=hl.1
 unfold I7 B3a
 refine Fpb (Qw n hn) ?_
 refine Fpb (M4a n hn) ?_
 cases Lb n
 ·exact Fgb rfl (Fdb rfl)
 refine Ffb rfl (Fpb (Lma l (by unfold Few;omega) hl.2) ?_)
 cases J7 l
 ·exact Fgb rfl (Fdb rfl)
 refine Ffb rfl (Fpb (Bza n.2.2.1 l (by omega)) ?_)
 refine Fkb (λ h=>?_) (λ h=>?_)
 ·rw[decide_eq_true (show (Nl n.2.2.1 l).length > 60 by omega)]
  refine Fpb (Qw n hn) ?_
  exact Fdb rfl
 ·rw[decide_eq_false (show ¬ (Nl n.2.2.1 l).length > 60 by omega)]
  exact Fdb rfl
def C9a (n:Nod) (l:List Row) (h1:n.2.2.1.length≤2000000) (h2:l.length≤2000000):Tot (λ k=>Gv k n l) (λ r=>r=bif decide ((Nl n.2.2.1 l).length > 60) then (false,n) else (true,(n.1,n.2.1,Nl n.2.2.1 l,n.2.2.2))):=by
 unfold Gv Hn
 refine Feb (Nya n.2.2.1 l (by omega)) ?_
 rintro r rfl
 refine Fkb (λ h=>?_) (λ h=>?_)
 ·rw[decide_eq_true (show (Nl n.2.2.1 l).length > 60 by omega)]
  exact Fdb rfl
 ·rw[decide_eq_false (show ¬ (Nl n.2.2.1 l).length > 60 by omega)]
  exact Fdb rfl
def M5a (n:Nod) (l:List Row) (hn:NIn n) (hl:RF l):Tot (λ k=>Hz k n l) (λ r=>r=B3a n l):=by
 have copy:Tot (λ k=>(Bi k n).bind λ r3=>some (r3,false)) (λ r=>r=(n,false)):=by
  refine Fpb (Nd n hn) ?_
  exact Fdb rfl
 unfold Hz B3a
 refine Fpb (Nd n hn) ?_
 refine Fpb (Xg n hn) ?_
 cases Lb n
 ·exact Fgb rfl copy
 refine Ffb rfl (Fpb (Lna l (by have:=hl.1;unfold Few;omega) hl.2) ?_)
 cases J7 l
 ·exact Fgb rfl copy
 refine Ffb rfl (Fpb (C9a n l hn.2.1.1 hl.1) ?_)
 cases decide ((Nl n.2.2.1 l).length > 60) with
 |true=>exact Fgb rfl copy
 |false=>exact Ffb rfl (Fdb rfl)
def Aca (s:ByteArray) (f:Fil):Row:=(s,f.1,f.2.1,(f.2.2.length:Int))
def Ux (n:Nod) (s:ByteArray) (f:Fil) (sure:Bool):Nod×Int:=bif (n.2.2.2.length:Int)==60 then (n,3) else
 ((n.1,(keep n.2.1 s f sure).1,n.2.2.1,bif (keep n.2.1 s f sure).2==0&&sure then n.2.2.2++[Aca s f] else n.2.2.2),(keep n.2.1 s f sure).2)
def Bpb (n:Nod) (s:ByteArray) (f:Fil) (sure:Bool):Nod×Int:=bif Lb n&&(Bc s&&H9 f) then Ux n s f sure else (n,2)
def W1a {s:ByteArray} {f:Fil} (hs:Bc s=true) (hf:H9 f=true):Mo (Aca s f)=true:=by
 obtain⟨h1,h2,h3⟩:=K8.1 hf
 unfold Mo Aca
 dsimp only
 rw[hs,h1,Cy.2 ⟨by omega,by omega⟩]
 cases hd:f.2.1 with
 |false=>rfl
 |true=>rw[h3 hd];rfl
def M6a {n:Nod} {s:ByteArray} {f:Fil} {sure:Bool} (hn:NG n) (hs:Bc s=true) (hf:H9 f=true):NG (Ux n s f sure).1:=by
 obtain⟨h1,h2,h3,h4,h5⟩:=B1.1 hn.1
 have hk:=Y1a (s:=s) (f:=f) (sure:=sure) hn.g
 unfold Ux
 cases hl:((n.2.2.2.length:Int)==60)
 case true=>exact hn
 have hl':n.2.2.2.length≠60:=by
  intro e
  rw[e]at hl
  cases hl
 refine⟨B1.2 ⟨?_,h2,hk.1,h4,?_⟩,hk.2⟩
 ·show ∀ r∈bif (keep n.2.1 s f sure).2==0&&sure then n.2.2.2++[Aca s f] else n.2.2.2,Mo r=true
  cases (keep n.2.1 s f sure).2==0&&sure
  ·exact h1
  intro r hr
  rcases Vn.1 hr with hr|hr
  ·exact h1 r hr
  ·rw[Vt.1 hr];exact W1a hs hf
 ·show (bif (keep n.2.1 s f sure).2==0&&sure then n.2.2.2++[Aca s f] else n.2.2.2).length≤60
  cases (keep n.2.1 s f sure).2==0&&sure with
  |false=>exact h5
  |true=>rw[cond_true,Ve];simp only[Vc,Vj];omega
def Y3a {n:Nod} {s:ByteArray} {f:Fil} {sure:Bool} (hn:NG n):NG (Bpb n s f sure).1:=by
 unfold Bpb
 cases hs:Bc s
 ·rw[hn.1];exact hn
 cases hf:H9 f with
 |false=>rw[hn.1];exact hn
 |true=>rw[hn.1];exact M6a hn hs hf
def Gqa (n:Nod) (s:ByteArray) (f:Fil) (sure:Bool) (hn:NIn n) (hs:Kd s):Tot (λ k=>Hw k n s f sure) (λ r=>r=((Ux n s f sure).2,(Ux n s f sure).1)):=by
 have h1:=hn.2.2.1
 unfold Hw Jn Ux
 cases (n.2.2.2.length:Int)==60 with
 |true=>exact Fgb rfl (Fdb rfl)
 |false=>
  refine Ffb rfl (Feb (M2a n.2.1 s f sure hn.1.1 hn.1.2.1 hs) ?_)
  rintro r rfl
  cases (keep n.2.1 s f sure).2==0 with
  |false=>exact Ffb rfl (Fdb rfl)
  |true=>
   refine Fgb rfl ?_
   cases sure with
   |false=>exact Ffb rfl (Fdb rfl)
   |true=>
    refine Fgb rfl (Flb (by simp only[Vj];omega) ?_)
    refine Feb (Fqb (Q:=λ r=>r=Aca s f) (show Ib s f=some (Aca s f) from rfl) rfl) ?_
    rintro r rfl
    refine Flb (by simp only[Ve,Vc,Vj];omega) (Fdb ?_)
    rw[Vz]
    rfl
def Ada (n:Nod) (s:ByteArray) (f:Fil) (sure:Bool) (hn:NIn n) (hs:Kd s):Tot (λ k=>J4 k n s f sure) (λ r=>r=Bpb n s f sure):=by
 unfold J4 Bpb
 refine Fpb (Nd n hn) ?_
 refine Fpb (Xg n hn) ?_
 cases Lb n
 ·exact Fgb rfl (Fdb rfl)
 refine Ffb rfl (Fpb (Og s hs) ?_)
 cases Bc s
 ·exact Fgb rfl (Fdb rfl)
 refine Ffb rfl (Fpb (Fqb (Q:=λ r=>r=H9 f) (Tm f) rfl) ?_)
 cases H9 f
 ·exact Fgb rfl (Fdb rfl)
 refine Ffb rfl (Fpb (Gqa n s f sure hn hs) ?_)
 exact Fdb rfl
def Gra (n:Nod) (s:ByteArray) (b:Int):Nod×Bool:=bif Lb n&&((lkD n.2.1 s).2==0&&(Dra n.2.1 s b).2) then ((n.1,(Dra n.2.1 s b).1,n.2.2),true) else (n,false)
def M7a {n:Nod} {s:ByteArray} {b:Int} (hn:NG n):NG (Gra n s b).1:=by
 obtain⟨h1,h2,h3,h4,h5⟩:=B1.1 hn.1
 have hr:=D7b (s:=s) (n:=b) hn.g
 unfold Gra
 cases Lb n&&((lkD n.2.1 s).2==0&&(Dra n.2.1 s b).2) with
 |false=>exact hn
 |true=>exact⟨B1.2 ⟨h1,h2,hr.1,h4,h5⟩,hr.2⟩
def Sk (n:Nod) (s:ByteArray) (b:Int) (hn:NIn n) (h1:b≤9223372036854775807) (h0 : -9223372036854775808≤b):Tot (λ k=>E5 k n s b) (λ r=>r=Gra n s b):=by
 unfold E5 Gra
 refine Fpb (Nd n hn) ?_
 refine Fpb (Xf hn.1.1.1.1.1 hn.1.2.1 s) ?_
 refine Fpb (Xg n hn) ?_
 cases h:Lb n
 ·exact Fgb rfl (Fdb rfl)
 refine Ffb rfl ?_
 cases hl:(lkD n.2.1 s).2==0
 ·exact Fgb (by unfold bne;rw[hl];rfl) (Fdb rfl)
 refine Ffb (by unfold bne;rw[hl];rfl) (Fpb (Abb (NG.g ⟨h,hn.1.2⟩) h1 h0) ?_)
 cases (Dra n.2.1 s b).2 with
 |false=>exact Fgb rfl (Fdb rfl)
 |true=>exact Ffb rfl (Fdb rfl)
def Nza:∀ (m:Nat) (i:Int) (c:Cur) (z:Nod) (n:Nod),i=m→m≤6→Bn c→NG n→
  Tot (λ k=>Cw k i c.1 c.2.1 c.2.2 z.1 z.2.1.1 z.2.1.2 z.2.2.1 z.2.2.2 n.1 n.2.1.1 n.2.1.2 n.2.2.1 n.2.2.2) (λ r=>∃ c' n',Bn c'∧NG n'∧r=(c'.1,c'.2.1,c'.2.2,z.1,z.2.1.1,z.2.1.2,z.2.2.1,z.2.2.2,n'.1,n'.2.1.1,n'.2.1.2,n'.2.2.1,n'.2.2.2)):=by
 intro m
 induction m with
 |zero=>
  intro i c z n hi h6 hc hn
  refine Tot.succ ?_
  simp only[Cw]
  exact Fib (by omega) (Fdb ⟨c,n,hc,hn,rfl⟩)
 |succ m ih=>
  intro i c z n hi h6 hc hn
  refine Tot.succ ?_
  simp only[Cw]
  refine Fhb (by omega) ?_
  rw[w64 (n:=i-1) (by omega) (by omega)]
  obtain⟨s,c1,e1,hs,k1⟩:=M6 c hc
  refine Fpb (Fqb (Q:=λ r=>r=(s,c1)) e1 rfl) ?_
  refine Feb (N1 c1 k1) (λ f hf=>?_)
  obtain⟨b,c2,e2,k2⟩:=Kt f.2 hf.2 3 (by decide)
  refine Fpb (Fqb (Q:=λ r=>r=(b,c2)) e2 rfl) ?_
  refine Fpb (Ada n s f.1 (!b) (Rs hn) (Kh s hs).1) ?_
  exact ih (i-1) c2 z _ (by omega) (by omega) k2 (Y3a hn)
def Ar:Nod:=((0:Int),(([]:List Nmd),([]:List Nmd)),([]:List Row),([]:List Row))
def Sm (i:Int):Gi i=some (bif inR i 0 20 then (i,([],[]),[],[]) else Ar):=by
 unfold Gi
 rw[Nb]
 simp only[Vo]
 cases inR i 0 20<;>rfl
def Gsa {l:List Row} (h:Lka l) (hl:l.length≤60):J7 l=true:=Kw.2 ⟨h.1,λ r hr=>Voa (h.2 r hr),hl⟩
def Saa (c:Cur) (hc:Bn c):Tot (λ k=>D9 k c) (λ r=>NG r.1∧Bn r.2):=by
 unfold D9
 obtain⟨x,c1,e1,x0,x1,_,k1⟩:=Ac c hc 6 (by decide)
 have x1:=x1 (by decide)
 refine Fpb (Fqb (Q:=λ r=>r=(x,c1)) e1 rfl) ?_
 refine Fpb (Fqb (Q:=λ r=>r=(x,([],[]),[],[])) (by rw[Sm,Cy.2 ⟨by dsimp only;omega,by dsimp only;omega⟩];rfl) rfl) ?_
 obtain⟨y,c2,e2,y0,y1,_,k2⟩:=Ac c1 k1 6 (by decide)
 have y1:=y1 (by decide)
 refine Fpb (Fqb (Q:=λ r=>r=(y,c2)) e2 rfl) ?_
 have hn0:NG (x,(([]:List Nmd),([]:List Nmd)),([]:List Row),([]:List Row)):=⟨B1.2 ⟨(by simp),⟨by dsimp only;omega,by dsimp only;omega⟩,(show Aq ([],[])=true by decide),(show J7 []=true by decide),(by simp)⟩,λ x hx=>(by cases hx),λ x hx=>(by cases hx)⟩
 refine Feb (Nza y.toNat y c2 Ar _ (by omega) (by omega) k2 hn0) ?_
 rintro r ⟨c3,n,k3,hn,rfl⟩
 have rot:∀ (n:Nod) (c:Cur),NG n→Bn c→Tot (λ k=>(Bm c).bind λ r9=>(A3 r9.2 40).bind λ r10=>(E5 k n r9.1 r10.1).bind λ r11=>some (r11.1,r10.2)) (λ r=>NG r.1∧Bn r.2):=by
  intro n c hn hc
  obtain⟨s,c1,e1,hs,k1⟩:=M6 c hc
  refine Fpb (Fqb (Q:=λ r=>r=(s,c1)) e1 rfl) ?_
  obtain⟨x,c2,e2,x0,x1,_,k2⟩:=Ac c1 k1 40 (by decide)
  have x1:=x1 (by decide)
  refine Fpb (Fqb (Q:=λ r=>r=(x,c2)) e2 rfl) ?_
  refine Fpb (Sk n s x (Rs hn) (by omega) (by omega)) ?_
  exact Fdb ⟨M7a hn,k2⟩
 obtain⟨b,c4,e4,k4⟩:=Kt c3 k3 2 (by decide)
 refine Fpb (Fqb (Q:=λ r=>r=(b,c4)) e4 rfl) ?_
 refine Fjb (λ _=>?_) (λ _=>?_)
 ·refine Feb (Sh c4 k4) ?_
  rintro⟨l,c5⟩ ⟨k5,hl,hl5⟩
  refine Fpb (M5a n l (Rs hn) (Uw (Gsa hl (by dsimp only at hl5;omega)))) ?_
  obtain⟨b,c6,e6,k6⟩:=Kt c5 k5 3 (by decide)
  refine Fpb (Fqb (Q:=λ r=>r=(b,c6)) e6 rfl) ?_
  exact Fjb (λ _=>rot _ c6 (Dta hn) k6) (λ _=>Fdb ⟨Dta hn,k6⟩)
 ·obtain⟨b,c6,e6,k6⟩:=Kt c4 k4 3 (by decide)
  refine Fpb (Fqb (Q:=λ r=>r=(b,c6)) e6 rfl) ?_
  exact Fjb (λ _=>rot n c6 hn k6) (λ _=>Fdb ⟨hn,k6⟩)
def Y4a {l:List Row} {x:Row} (h:RF l) (hl:l.length≤999) (hx:Kd x.1):RF (l++[x]):=by
 refine⟨by simp only[Ve,Vc,Vj];omega,λ y hy=>?_⟩
 rcases Vn.1 hy with hy|hy
 ·exact h.2 y hy
 ·rw[Vt.1 hy];exact hx
def Caa (z n:Nod) (hs:Kd ((⟨#[97]⟩:ByteArray))):∀ (m:Nat) (c:Cur) (q:List Row),61-q.length≤m→Bn c→RF q→q.length≤61→
  Tot (λ k=>Fw k c.1 c.2.1 c.2.2 z.1 z.2.1.1 z.2.1.2 z.2.2.1 z.2.2.2 n.1 n.2.1.1 n.2.1.2 n.2.2.1 q) (λ r=>∃ c' q',Bn c'∧RF q'∧r=(z.1,z.2.1.1,z.2.1.2,z.2.2.1,z.2.2.2,n.1,n.2.1.1,n.2.1.2,n.2.2.1,q',c'.1,c'.2.1,c'.2.2)):=by
 intro m
 induction m with
 |zero=>
  intro c q hm hc hq hl
  refine Tot.succ ?_
  simp only[Fw]
  obtain⟨x,c1,e1,x0,x1,_,k1⟩:=Ac c hc 2 (by decide)
  have x1:=x1 (by decide)
  refine Fpb (Fqb (Q:=λ r=>r=(x,c1)) e1 rfl) ?_
  dsimp only
  rw[w64 (n:=60+x) (by omega) (by omega)]
  exact Fib (by omega) (Fdb ⟨c1,q,k1,hq,rfl⟩)
 |succ m ih=>
  intro c q hm hc hq hl
  refine Tot.succ ?_
  simp only[Fw]
  obtain⟨x,c1,e1,x0,x1,_,k1⟩:=Ac c hc 2 (by decide)
  have x1:=x1 (by decide)
  refine Fpb (Fqb (Q:=λ r=>r=(x,c1)) e1 rfl) ?_
  dsimp only
  rw[w64 (n:=60+x) (by omega) (by omega)]
  refine Fkb (λ h=>Flb (by simp only[Vc,Vj];omega) ?_) (λ h=>Fdb ⟨c1,q,k1,hq,rfl⟩)
  exact ih c1 _ (by simp only[Ve,Vc,Vj];omega) k1 (Y4a hq (by omega) hs) (by simp only[Ve,Vc,Vj];omega)
def Sba (c:Cur) (hc:Bn c):Tot (λ k=>Ed k c) (λ r=>NIn r.1∧Bn r.2):=by
 unfold Ed
 refine Feb (Saa c hc) ?_
 rintro⟨n,c1⟩ ⟨hg,k1⟩
 have hn:=Rs hg
 have hq60:=(B1.1 hg.1).2.2.2.2
 obtain⟨x,c2,e2,_,_,_,k2⟩:=Ac c1 k1 12 (by decide)
 refine Fpb (Fqb (Q:=λ r=>r=(x,c2)) e2 rfl) ?_
 refine Fjb (λ _=>?_) (λ _=>Fjb (λ _=>?_) (λ _=>Fjb (λ _=>?_) (λ _=>Fjb (λ _=>?_) (λ _=>Fjb (λ _=>?_) (λ _=>Fdb ⟨hn,k2⟩)))))
 ·obtain⟨y,c3,e3,_,k3⟩:=Ja c2 k2 [(-1),20,21] (by decide) (by decide)
  refine Fpb (Fqb (Q:=λ r=>r=(y,c3)) e3 rfl) ?_
  exact Fdb ⟨hn,k3⟩
 ·refine Feb (D8b c2 k2) (λ r hr=>Fdb ⟨⟨hr.1,hn.2⟩,hr.2⟩)
 ·refine Feb (V9 c2 k2) (λ r hr=>Fdb ⟨⟨hn.1,⟨by have:=hr.2.1;dsimp only;omega,hr.2.2⟩,hn.2.2⟩,hr.1⟩)
 ·obtain⟨s,c3,e3,hs,k3⟩:=Ma c2 k2
  refine Fpb (Fqb (Q:=λ r=>r=(s,c3)) e3 rfl) ?_
  exact Flb (by dsimp only at hq60 ⊢;simp only[List.length_cons,List.length_nil];omega) (Fdb ⟨⟨hn.1,hn.2.1,Y4a hn.2.2 (by dsimp only at hq60 ⊢;omega) hs⟩,k3⟩)
 ·refine Feb (Caa Ar n (by unfold Kd;decide) 61 c2 n.2.2.2 (by omega) k2 hn.2.2 (by dsimp only at hq60;omega)) ?_
  rintro r ⟨c3,q,k3,hq,rfl⟩
  exact Fdb ⟨⟨hn.1,hn.2.1,hq⟩,k3⟩

end Go.Proofs.YtiiekghlhfbmmaaGreat.Vf
