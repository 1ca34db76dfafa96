import Derived.Test.YtcpligincipmhaaGreatMak
set_option linter.all false
namespace Go.Proofs.YtcpligincipmhaaGreat.Vf
open Go
open List (length getD)
open Int (toNat)
open Go.IntKind (wrap)
open BitVec (ofInt)
def We:=@List.take_succ_eq_append_getElem
def Cgb:=@List.length_pos_of_mem
def Cyb:=@List.foldl_append
def Eab:=@List.range_succ
def Edb:=@BitVec.getLsbD_ushiftRight
def Eob:=@List.length_erase_of_mem
def Eyb:=@BitVec.eq_of_toNat_eq
def Ezb:=@List.set_append_right
def F3b:=@List.nodup_nil

def gt (l:List Nmd) (s:ByteArray):Option (List Int):=match fnd l s with
 |some i=>some (l.getD i Jd).2
 |none=>none
def Ue (y:Nmd) (l:List Nmd) (s:ByteArray):gt (y::l) s=if y.1=s then some y.2 else gt l s:=by
 unfold gt;rw[Hja]
 by_cases h:y.1=s
 ·rw[if_pos (C6.2 h),if_pos h];rfl
 ·rw[if_neg (λ c=>h (C6.1 c)),if_neg h]
  cases fnd l s<;>rfl
def K7 {l:List Nmd} {s:ByteArray} {b:List Int} (h:gt l s=some b):(s,b)∈l:=by
 induction l with
 |nil=>cases h
 |cons y l ih=>
  rw[Ue]at h
  by_cases e:y.1=s
  ·rw[if_pos e]at h;cases h;subst e;exact Wl
  ·rw[if_neg e]at h;exact Vd _ (ih h)
def Kt {l:List Nmd} {s:ByteArray}:gt l s=none↔∀ x∈l,x.1≠s:=by
 rw[← Rla];unfold gt
 cases fnd l s with
 |none=>simp
 |some i=>simp
def Fba {l:List Nmd} (hs:Cz l) {x:Nmd} (hx:x∈l):gt l x.1=some x.2:=by
 cases h:gt l x.1 with
 |none=>exact absurd rfl (Kt.1 h x hx)
 |some b=>rw[show x=(x.1,b) from Wha hs hx (K7 h) rfl]
def Cta {l:List Nmd} (hs:Cz l) {s:ByteArray} {b:List Int}:gt l s=some b↔(s,b)∈l:=⟨K7,λ h=>Fba hs h⟩
def Cua {l:List Nmd} {s:ByteArray}:(gt l s).isSome=(fnd l s).isSome:=by
 unfold gt
 cases fnd l s<;>rfl
def Qh {l:List Nmd} (hs:Cz l) {s t:ByteArray}:gt (cut l s) t=if s=t then none else gt l t:=by
 by_cases h:s=t
 ·subst h;rw[if_pos rfl,Kt];exact Uc
 ·rw[if_neg h]
  cases hg:gt l t with
  |none=>exact Kt.2 λ x hx=>Kt.1 hg x (Ua.subset hx)
  |some b=>
   rw[Cta (Jp hs)];refine Cvb.2 ⟨K7 hg,?_⟩
   cases ht:teq t s with
   |false=>simp[ht]
   |true=>exact absurd (C6.1 ht).symm h
def U2a {l:List Nmd} (hs:Cz l) {x:Nmd} (hn:∀ y∈l,y.1≠x.1) {t:ByteArray}:gt (ins l x) t=if x.1=t then some x.2 else gt l t:=by
 have hi:=Ol hs hn
 by_cases h:x.1=t
 ·subst h;rw[if_pos rfl,Cta hi];exact Rg.2 (.inl rfl)
 ·rw[if_neg h]
  cases hg:gt l t with
  |none=>
   refine Kt.2 λ y hy=>?_;rcases Rg.1 hy with rfl|hy
   ·exact h
   ·exact Kt.1 hg y hy
  |some b=>
   rw[Cta hi];exact Rg.2 (.inr (K7 hg))
def Z2a:∀ {l m:List Nmd},Cz l→Cz m→(∀ s,gt l s=gt m s)→l=m:=by
 have key:∀ {l m:List Nmd},Cz l→Cz m→(∀ s,gt l s=gt m s)→∀ x∈l,x∈m:=λ hl hm h x hx=>by
  have:=h x.1;rw[Fba hl hx]at this;exact K7 this.symm
 intro l m hl hm h;have h1:∀ x,x∈l↔x∈m:=λ x=>⟨key hl hm h x,key hm hl (λ s=>(h s).symm) x⟩;clear h key
 induction l generalizing m with
 |nil=>
  cases m with
  |nil=>rfl
  |cons y m=>exact absurd ((h1 y).2 (by simp)) (by simp)
 |cons x l ih=>
  cases m with
  |nil=>exact absurd ((h1 x).1 (by simp)) (by simp)
  |cons y m=>
   obtain⟨a1,a2⟩:=Wa.1 hl;obtain⟨b1,b2⟩:=Wa.1 hm
   have e:x=y:=by
    rcases Vl.1 ((h1 x).1 (by simp)) with h|h
    ·exact h
    ·rcases Vl.1 ((h1 y).2 (by simp)) with h'|h'
     ·exact h'.symm
     ·have c1:=a1 y h';rw[Qa (b1 x h)]at c1;cases c1
   subst e;congr 1;refine ih a2 b2 λ z=>⟨λ hz=>?_,λ hz=>?_⟩
   ·rcases Vl.1 ((h1 z).1 (Vd _ hz)) with rfl|h
    ·have c:=a1 z hz;rw[Eg]at c;cases c
    ·exact h
   ·rcases Vl.1 ((h1 z).2 (Vd _ hz)) with rfl|h
    ·have c:=b1 z hz;rw[Eg]at c;cases c
    ·exact h
def U3a (l:List Nmd) (s:ByteArray):rdN l s=match gt l s with|some b=>(b,true)|none=>([],false):=by
 unfold rdN gt
 cases fnd l s<;>rfl
def H4 {s:ByteArray} (h:B0 s=true):Lz s:=by
 have:=(U8 h).2;unfold Lz;omega
def Ea {d:Dsk}:C7 d=true↔Gz d.1=true∧Gz d.2=true:=by
 unfold C7;rw[Va]
def Hy {d:Dsk} (h:C7 d=true):Cz d.1:=(B5.1 (Ea.1 h).1).1
def Lk {d:Dsk} (h:C7 d=true):Cz d.2:=(B5.1 (Ea.1 h).2).1
def LB (l:List Nmd):Prop:=∀ x∈l,Aq x.2
def DB (d:Dsk):Prop:=LB d.1∧LB d.2
def LB.cut {l:List Nmd} (h:LB l) (s:ByteArray):LB (cut l s):=λ x hx=>h x (Ua.subset hx)
def LB.ins {l:List Nmd} (h:LB l) {x:Nmd} (hx:Aq x.2):LB (ins l x):=λ y hy=>by
 rcases Rg.1 hy with rfl|hy
 ·exact hx
 ·exact h y hy
def LB.gt {l:List Nmd} (h:LB l) {s:ByteArray} {b:List Int} (hg:gt l s=some b):Aq b:=h _ (K7 hg)
def Uf:Aq []:=λ x hx=>by cases hx
def wr (l:List Nmd) (s:ByteArray) (b:List Int):List Nmd:=ins (cut l s) (s,b)
def sy (d:Dsk) (s:ByteArray):List Nmd:=match gt d.1 s with
 |some b=>wr d.2 s b
 |none=>cut d.2 s
def wrD (d:Dsk) (s:ByteArray) (b:List Int):Dsk×Bool:=bif decide (b.length≤400)&&decide ((wr d.1 s b).length≤60) then ((wr d.1 s b,d.2),true) else (d,false)
def syD (d:Dsk) (s:ByteArray):Dsk×Bool:=bif decide ((sy d s).length≤60) then ((d.1,sy d s),true) else (d,false)
def rmD (d:Dsk) (s:ByteArray):Dsk×Bool:=bif (gt d.1 s).isSome then ((cut d.1 s,d.2),true) else (d,false)
section
variable {d:Dsk} {s:ByteArray} {b:List Int}
def U4a (hd:C7 d=true):wrI d s b=wr d.1 s b:=by
 unfold wrI wr;rw[Nv (Hy hd)]
def U5a (hd:C7 d=true):syI d s=sy d s:=by
 unfold syI sy gt wr;rw[Nv (Lk hd)]
 cases fnd d.1 s<;>rfl
def Jpa (hd:C7 d=true) (hs:B0 s=true) (hb:b.length≤1000000000000):Tot (λ k=>Cy k d s b) (λ r=>r=wrD d s b):=by
 refine(Nja d s b (Ub hd) (H4 hs) hb).mono ?_;rintro r rfl;rw[hd,hs,U4a hd];rfl
def Cva (hd:C7 d=true) (hs:B0 s=true):Tot (λ k=>Bp k d s) (λ r=>r=syD d s):=by
 refine(Rna d s (Ub hd) (H4 hs)).mono ?_;rintro r rfl;rw[hd,hs,U5a hd];rfl
def Wja (hd:C7 d=true) (hs:B0 s=true) (hb:b.length≤400) (hl:(wr d.1 s b).length≤60):C7 (wr d.1 s b,d.2)=true:=by
 have:=(Roa (b:=b) hd hs).2;rw[U4a hd,decide_eq_true hb,decide_eq_true hl]at this;exact this
def Azb (hd:C7 d=true) (hs:B0 s=true) (hl:(sy d s).length≤60):C7 (d.1,sy d s)=true:=by
 have:=Wga hd hs;rw[U5a hd,decide_eq_true hl]at this;exact this
def U6a (hd:C7 d=true) (hs:B0 s=true):C7 (wrD d s b).1=true:=by
 unfold wrD;cases hc:decide (b.length≤400)&&decide ((wr d.1 s b).length≤60)
 ·exact hd
 rw[Va,decide_eq_true_iff,decide_eq_true_iff]at hc;exact Wja hd hs hc.1 hc.2
def Z3a (hd:C7 d=true) (hs:B0 s=true):C7 (syD d s).1=true:=by
 unfold syD
 cases hc:decide ((sy d s).length≤60) with
 |false=>exact hd
 |true=>exact Azb hd hs (of_decide_eq_true hc)
def Z4a (hd:C7 d=true):C7 (rmD d s).1=true:=by
 unfold rmD
 cases (gt d.1 s).isSome with
 |false=>exact hd
 |true=>exact Ea.2 ⟨Rw (Ea.1 hd).1,(Ea.1 hd).2⟩
def Rsa (hd:C7 d=true) (h:(gt d.1 s).isSome=true):B0 s=true:=by
 cases hg:gt d.1 s with
 |none=>rw[hg]at h;cases h
 |some b=>exact(Nu.1 ((B5.1 (Ea.1 hd).1).2.1 _ (K7 hg))).1
def Fca (hd:C7 d=true):Tot (λ k=>Dk k d s) (λ r=>r=rmD d s):=by
 refine(Jna d s (Ub hd).1).mono ?_;rintro r rfl;rw[hd,← Cua,C9b,Nv (Hy hd)];rfl
end
def lkD (d:Dsk) (s:ByteArray):Fil×Int:=match gt d.1 s with
 |none=>(Z1a,1)
 |some b=>match K6 b with
  |some f=>(f,0)
  |none=>(Z1a,2)
def U7a {l:List Nmd} {s:ByteArray} {b:List Int} (h:Tua l) (hg:gt l s=some b):b.length≤1000000000000:=h.2 _ (K7 hg)
def Aha {d:Dsk} (hf:Tua d.1) (hb:LB d.1) (s:ByteArray):Tot (λ k=>Gc k d s) (λ r=>r=lkD d s):=by
 unfold Gc lkD;refine C3b (Hia d s hf) ?_;rw[U3a]
 cases hg:gt d.1 s with
 |none=>exact Bub rfl (Brb rfl)
 |some b=>
  refine Btb rfl (C3b (Mz b (hb.gt hg) (U7a hf hg)) ?_);unfold Afa;dsimp only
  cases K6 b with
  |none=>exact Bub rfl (Brb rfl)
  |some f=>exact Btb rfl (Brb rfl)
def M4 {d:Dsk} {s:ByteArray} {f:Fil}:lkD d s=(f,0)↔∃ b,gt d.1 s=some b∧K6 b=some f:=by
 unfold lkD
 cases gt d.1 s with
 |none=>simp
 |some b=>cases h:K6 b<;>simp[h]
def old (d:Dsk) (s:ByteArray):Option Fil:=(gt d.1 s).bind K6
def kp1 (d:Dsk) (s:ByteArray) (f:Fil):Option (Dsk×Int):=
 let w:=bif (wrD d s (H0 f)).2 then some ((wrD d s (H0 f)).1,(0:Int)) else none
 match old d s with
 |some o=>bif sle o.1 f.1 then w else some (d,1)
 |none=>w
def kp2 (d:Dsk) (s:ByteArray) (sure:Bool) (x:Dsk×Int):Dsk×Int:=bif sure then (bif (syD x.1 s).2 then ((syD x.1 s).1,x.2) else (d,3)) else x
def It (d:Dsk) (s:ByteArray) (f:Fil) (sure:Bool):Dsk×Int:=match kp1 d s f with
 |some x=>kp2 d s sure x
 |none=>(d,3)
def keep (d:Dsk) (s:ByteArray) (f:Fil) (sure:Bool):Dsk×Int:=bif C7 d&&(B0 s&&D8 f) then It d s f sure else (d,2)
def Rta:K6 []=none:=by
 cases h:K6 [] with
 |none=>rfl
 |some f=>
  obtain⟨h1,_,h3⟩:=Aga h;unfold H0 at h3;rw[h1]at h3;simp[c4]at h3
def Z5a {d:Dsk} {s:ByteArray} {f:Fil} (hd:C7 d=true) (hs:B0 s=true) {x:Dsk×Int} (h:kp1 d s f=some x):C7 x.1=true:=by
 have hw:∀ x,(bif (wrD d s (H0 f)).2 then some ((wrD d s (H0 f)).1,(0:Int)) else none)=some x→C7 x.1=true:=by
  intro x h
  cases hc:(wrD d s (H0 f)).2 with
  |false=>rw[hc]at h;cases h
  |true=>rw[hc]at h;cases h;exact U6a hd hs
 unfold kp1 at h;simp only at h;split at h
 ·rename_i o _
  cases hc:sle o.1 f.1 with
  |false=>rw[hc]at h;cases h;exact hd
  |true=>rw[hc]at h;exact hw _ h
 ·exact hw _ h
def Z6a {d:Dsk} {s:ByteArray} (hd:C7 d=true) (hs:B0 s=true) {x:Dsk} {c:Int} (hx:C7 x=true) (sure:Bool):
  Tot (λ k=>cond sure ((Bp k x s).bind λ r=>cond (!r.2) ((A5 k d).bind λ q=>some (q,3)) (some (r.1,c))) (some (x,c))) (λ r=>r=kp2 d s sure (x,c)):=by
 unfold kp2;cases sure
 ·exact Brb rfl
 refine Bub rfl (C3b (Cva hx hs) ?_);cases h:(syD x s).2
 case true=>exact Btb rfl (Brb rfl)
 refine Bub rfl (C3b (Ge d (Ub hd).1.1) ?_);exact Brb rfl
def Hla (d:Dsk) (s:ByteArray) (f:Fil) (sure:Bool) (hd:DIn d) (hb:LB d.1) (hs:Lz s):Tot (λ k=>H5 k d s f sure) (λ r=>r=keep d s f sure):=by
 have bad:Tot (λ k=>(A5 k d).bind λ r2=>some (r2,(2:Int))) (λ r=>r=(d,2)):=by
  refine C3b (Ge d hd.1.1) ?_;exact Brb rfl
 unfold H5 keep;refine C3b (Oj d hd.1.1 hd.1.2) ?_;cases h1:C7 d
 ·exact Bub rfl bad
 refine Btb rfl (C3b (Ke s hs) ?_);cases h2:B0 s
 ·exact Bub rfl bad
 refine Btb rfl (C3b (C4b (Q:=λ b=>b=D8 f) (Su f) rfl) ?_);cases h3:D8 f
 ·exact Bub rfl bad
 refine Btb rfl (C3b (Ge d hd.1.1) ?_);refine C3b (Hia d s hd.1.1.1) ?_;have hlen:=Sw f
 have w:∀ {o:Option Fil},(kp1 d s f=bif (wrD d s (H0 f)).2 then some ((wrD d s (H0 f)).1,(0:Int)) else none)→Tot (λ k=>(Dq k f).bind λ r13=>(Cy k d s r13).bind λ r14=>cond (!r14.2) ((A5 k d).bind λ r15=>some (r15,(3:Int))) (cond sure ((Bp k r14.1 s).bind λ r16=>cond (!r16.2) ((A5 k d).bind λ r17=>some (r17,3)) (some (r16.1,0))) (some (r14.1,0)))) (λ r=>r=It d s f sure):=by
  intro _ e;refine C3b (Mx f) ?_;refine C3b (Jpa h1 h2 (by omega)) ?_;unfold It;rw[e]
  cases h4:(wrD d s (H0 f)).2 with
  |false=>
   refine Bub rfl (C3b (Ge d hd.1.1) ?_);exact Brb rfl
  |true=>exact Btb rfl (Z6a h1 h2 (U6a h1 h2) sure)
 rw[U3a];have eo:old d s=(gt d.1 s).bind K6:=rfl
 cases hg:gt d.1 s with
 |none=>
  rw[hg]at eo;refine C3b (Mz [] Uf (by simp)) ?_;unfold Afa;rw[Rta];refine Btb rfl (w (o:=none) ?_);unfold kp1;rw[eo];rfl
 |some b=>
  rw[hg]at eo;have eo:old d s=K6 b:=eo;refine C3b (Mz b (hb.gt hg) (U7a hd.1.1.1 hg)) ?_;unfold Afa
  cases ho:K6 b with
  |none=>
   refine Btb rfl (w (o:=none) ?_);unfold kp1;rw[eo,ho]
  |some o=>
   rw[ho]at eo;refine Bub rfl (C3b (C4b (Q:=λ b=>b=sle o.1 f.1) (Nla f o) rfl) ?_)
   cases hl:sle o.1 f.1 with
   |true=>
    refine Btb rfl (w (o:=none) ?_);unfold kp1;simp only[eo,hl,cond_true]
   |false=>
    have e1:It d s f sure=kp2 d s sure (d,1):=by
     unfold It kp1;simp only[eo,hl,cond_false]
    refine Bub rfl ?_;show Tot _ (λ r=>r=It d s f sure);rw[e1];exact Z6a h1 h2 h1 sure

def DG (d:Dsk):Prop:=C7 d=true∧DB d
def Z7a {d:Dsk} {s:ByteArray} {b:List Int} (hd:C7 d=true) (h:gt d.1 s=some b):b.length≤400:=(Nu.1 ((B5.1 (Ea.1 hd).1).2.1 _ (K7 h))).2
def Z8a {d:Dsk} {s:ByteArray} {b:List Int} (h:DB d) (hb:Aq b):DB (wrD d s b).1:=by
 unfold wrD
 cases decide (b.length≤400)&&decide ((wr d.1 s b).length≤60) with
 |false=>exact h
 |true=>exact⟨(h.1.cut s).ins hb,h.2⟩
def B0b {d:Dsk} {s:ByteArray} (h:DB d):LB (sy d s):=by
 unfold sy
 cases hg:gt d.1 s with
 |none=>exact h.2.cut s
 |some b=>exact(h.2.cut s).ins (h.1.gt hg)
def Z9a {d:Dsk} {s:ByteArray} (h:DB d):DB (syD d s).1:=by
 unfold syD
 cases decide ((sy d s).length≤60) with
 |false=>exact h
 |true=>exact⟨h.1,B0b h⟩
def Zaa {d:Dsk} {s:ByteArray} (h:DB d):DB (rmD d s).1:=by
 unfold rmD
 cases (gt d.1 s).isSome with
 |false=>exact h
 |true=>exact⟨h.1.cut s,h.2⟩
def Zba {d:Dsk} {s:ByteArray} (h:DG d) (hs:B0 s=true):DG (syD d s).1:=⟨Z3a h.1 hs,Z9a h.2⟩
def Zca {d:Dsk} {s:ByteArray} (h:DG d):DG (rmD d s).1:=⟨Z4a h.1,Zaa h.2⟩
def Zda {d:Dsk} {s:ByteArray} {f:Fil} (hd:DG d) (hs:B0 s=true) {x:Dsk×Int} (h:kp1 d s f=some x):DG x.1:=by
 refine⟨Z5a hd.1 hs h,?_⟩
 have hw:∀ x,(bif (wrD d s (H0 f)).2 then some ((wrD d s (H0 f)).1,(0:Int)) else none)=some x→DB x.1:=by
  intro x h
  cases hc:(wrD d s (H0 f)).2 with
  |false=>rw[hc]at h;cases h
  |true=>rw[hc]at h;cases h;exact Z8a hd.2 (Rh f)
 unfold kp1 at h;simp only at h;split at h
 ·rename_i o _
  cases hc:sle o.1 f.1 with
  |false=>rw[hc]at h;cases h;exact hd.2
  |true=>rw[hc]at h;exact hw _ h
 ·exact hw _ h
def B1b {d:Dsk} {s:ByteArray} {sure:Bool} (hd:DG d) (hs:B0 s=true) {x:Dsk×Int} (hx:DG x.1):DG (kp2 d s sure x).1:=by
 unfold kp2;cases sure
 ·exact hx
 rw[cond_true]
 cases (syD x.1 s).2 with
 |false=>exact hd
 |true=>exact Zba hx hs
def Npa {d:Dsk} {s:ByteArray} {f:Fil} {sure:Bool} (hd:DG d) (hs:B0 s=true):DG (It d s f sure).1:=by
 unfold It
 cases h:kp1 d s f with
 |none=>exact hd
 |some x=>exact B1b hd hs (Zda hd hs h)
def U8a {d:Dsk} {s:ByteArray} {f:Fil} {sure:Bool} (hd:DG d):DG (keep d s f sure).1:=by
 unfold keep;cases h:B0 s
 ·rw[hd.1];exact hd
 cases D8 f with
 |false=>rw[hd.1];exact hd
 |true=>rw[hd.1];exact Npa hd h
def Fda (b:Int) (j:Nat):Int:=((ofInt 8 b ^^^ BitVec.twoPow 8 j).toNat:Int)
def Hma (b:Int) (j:Nat):0≤Fda b j∧Fda b j≤255:=by
 unfold Fda;have:=(ofInt 8 b ^^^ BitVec.twoPow 8 j).isLt;omega
def Rua {b:Int} (hb:0≤b∧b≤255) {j:Nat} (hj:j<8):Fda b j≠b:=by
 intro h;unfold Fda at h
 have h1:b=((ofInt 8 b).toNat:Int):=by rw[Egb];omega
 have h2:(ofInt 8 b ^^^ BitVec.twoPow 8 j).toNat=(ofInt 8 b).toNat:=by omega
 have h3:=Eyb h2
 have h4:BitVec.twoPow 8 j=0#8:=by
  have:=congrArg (λ x=>ofInt 8 b ^^^ x) h3
  simpa[← BitVec.xor_assoc] using this
 have h5:∀ j,j<8→BitVec.twoPow 8 j≠0#8:=by decide
 exact h5 j hj h4
def Ku (l:List Int) (n:Nat):List Int:=l.set (n/8) (Fda (l.getD (n/8) 0) (n % 8))
def Cwa (l:List Int) (n:Nat):(Ku l n).length=l.length:=by unfold Ku;rw[Vt]
def Fea {l:List Int} (h:Aq l) (n:Nat):Aq (Ku l n):=λ x hx=>by
 rcases Ze hx with h'|rfl
 ·exact h x h'
 ·exact Hma _ _
def Jqa (d:Dsk) (s:ByteArray) (n:Int):Dsk×Bool:=match gt d.1 s with
 |none=>(d,false)
 |some b=>bif inR n 0 (8*(b.length:Int)-1) then ((wr d.1 s (Ku b n.toNat),bif decide (gt d.2 s=some b) then wr d.2 s (Ku b n.toNat) else d.2),true) else (d,false)
def Zea {l:List Nmd} (hs:Cz l) {s:ByteArray} {i:Nat} (h:fnd l s=some i) (b:List Int):l.set i (s,b)=wr l s b:=by
 obtain⟨hi,hn⟩:=Ru h
 have hm:(l.set i (s,b)).map Prod.fst=l.map Prod.fst:=by
  rw[List.map_set];apply D5b;intro j
  by_cases hj:i=j
  ·subst hj;rw[Dqb (by rw[Wc];exact hi),C8b,Ve hi];rw[Vb,Ve hi]at hn;exact congrArg some hn.symm
  ·rw[D9b hj]
 have h1:Cz (l.set i (s,b)):=by
  have e:∀ m:List Nmd,Cz m↔(m.map Prod.fst).Pairwise (λ a b=>tlt a b=true):=λ m=>by
   unfold Cz;rw[Zo]
  rw[e,hm,← e];exact hs
 refine Z2a h1 (Ol (Jp hs) Uc) λ t=>?_;have h2:=U2a (x:=(s,b)) (t:=t) (Jp hs (s:=s)) Uc;unfold wr;rw[h2]
 by_cases ht:s=t
 ·subst ht;rw[if_pos rfl,Cta h1];exact List.mem_set hi _
 ·rw[if_neg ht,Qh hs,if_neg ht]
  cases hg:gt l t with
  |none=>
   refine Kt.2 λ x hx=>?_;rcases Ze hx with h'|rfl
   ·exact Kt.1 hg x h'
   ·exact ht
  |some c=>
   rw[Cta h1];obtain⟨j,hj,e⟩:=Yh.1 (K7 hg)
   have hij:i≠j:=by
    rintro rfl;rw[Vb,Ve hi,Wo,e]at hn;exact ht hn.symm
   refine Yh.2 ⟨j,by rw[Vt];exact hj,?_⟩;rw[List.getElem_set_ne hij];exact e
def Cxa {l:List Nmd} {s:ByteArray} {b:List Int} (hs:Cz l) (h:(gt l s).isSome=true):(wr l s b).length=l.length:=by
 rw[Cua]at h;obtain⟨i,hi⟩:=Zk.1 h;rw[← Zea hs hi,Vt]
def Zfa {d:Dsk} {s:ByteArray} {n:Int} (h:DG d):DG (Jqa d s n).1:=by
 unfold Jqa
 cases hg:gt d.1 s with
 |none=>exact h
 |some b=>
  simp only;cases inR n 0 (8*(b.length:Int)-1)
  ·exact h
  have hn:=Rsa h.1 (s:=s) (by rw[hg];rfl);have hb:=Z7a h.1 hg;have hbb:=Fea (h.2.1.gt hg) n.toNat;have l1:=Cxa (b:=Ku b n.toNat) (Hy h.1) (s:=s) (by rw[hg];rfl);have q1:=Wja h.1 hn (b:=Ku b n.toNat) (by rw[Cwa];exact hb) (by rw[l1];exact(B5.1 (Ea.1 h.1).1).2.2);rw[cond_true];cases hc:decide (gt d.2 s=some b)
  ·exact⟨q1,(h.2.1.cut s).ins hbb,h.2.2⟩
  have hg2:=of_decide_eq_true hc;have l2:=Cxa (b:=Ku b n.toNat) (Lk h.1) (s:=s) (by rw[hg2];rfl);have h':C7 (d.2,d.1)=true:=Ea.2 ⟨(Ea.1 h.1).2,(Ea.1 h.1).1⟩;have q2:=Wja h' hn (b:=Ku b n.toNat) (by rw[Cwa];exact hb) (by show (wr d.2 s _).length≤60;rw[l2];exact(B5.1 (Ea.1 h.1).2).2.2);exact⟨Ea.2 ⟨(Ea.1 q1).1,(Ea.1 q2).1⟩,(h.2.1.cut s).ins hbb,(h.2.2.cut s).ins hbb⟩
def lb0:LB []:=λ x hx=>by cases hx
def dg0:DG ([],[]):=⟨by decide,⟨lb0,lb0⟩⟩

section
variable {d:Dsk} {s:ByteArray} {f:Fil} {sure:Bool}
def Rva (a:Stp):sle a a=false:=G5 a
def M5 (h1:C7 d=true) (h2:B0 s=true) (h3:D8 f=true):keep d s f sure=It d s f sure:=by unfold keep;rw[h1,h2,h3];rfl
def Cya {x:Dsk} {c:Int}:(kp2 d s sure (x,c)=(d,3))∨(sure=false∧kp2 d s sure (x,c)=(x,c))∨(sure=true∧(sy x s).length≤60∧kp2 d s sure (x,c)=((x.1,sy x s),c)):=by
 unfold kp2 syD;cases sure
 ·exact .inr (.inl ⟨rfl,rfl⟩)
 rw[cond_true]
 by_cases h:(sy x s).length≤60
 ·rw[decide_eq_true h];exact .inr (.inr ⟨rfl,h,rfl⟩)
 ·rw[decide_eq_false h];exact .inl rfl
def Nqa (hd:DG d) (hs:B0 s=true):kp1 d s f=none∨(∃ o,old d s=some o∧sle o.1 f.1=false∧kp1 d s f=some (d,1))∨((∀ o,old d s=some o→sle o.1 f.1=true)∧(wr d.1 s (H0 f)).length≤60∧kp1 d s f=some ((wr d.1 s (H0 f),d.2),0)):=by
 have hl:(H0 f).length≤400:=by have:=Sw f;omega
 have w:(bif (wrD d s (H0 f)).2 then some ((wrD d s (H0 f)).1,(0:Int)) else none)=none∨((wr d.1 s (H0 f)).length≤60∧(bif (wrD d s (H0 f)).2 then some ((wrD d s (H0 f)).1,(0:Int)) else none)=some ((wr d.1 s (H0 f),d.2),0)):=by
  unfold wrD;rw[decide_eq_true hl,Wg]
  by_cases h:(wr d.1 s (H0 f)).length≤60
  ·rw[decide_eq_true h];exact .inr ⟨h,rfl⟩
  ·rw[decide_eq_false h];exact .inl rfl
 unfold kp1
 cases ho:old d s with
 |none=>
  rcases w with h|⟨h1,h2⟩
  ·exact .inl h
  ·exact .inr (.inr ⟨λ o h=>(by cases h),h1,h2⟩)
 |some o=>
  simp only;cases hc:sle o.1 f.1
  ·exact .inr (.inl ⟨o,rfl,hc,rfl⟩)
  rcases w with h|⟨h1,h2⟩
  ·exact .inl h
  ·exact .inr (.inr ⟨λ o' h=>(by cases h;exact hc),h1,h2⟩)
def M6 (hd:DG d) (hs:B0 s=true):It d s f sure=(d,3)∨
  (∃ o,old d s=some o∧sle o.1 f.1=false∧(It d s f sure).2=1∧DG (It d s f sure).1∧((sure=false∧(It d s f sure).1=d)∨(sure=true∧(It d s f sure).1=(d.1,sy d s))))∨
  ((∀ o,old d s=some o→sle o.1 f.1=true)∧DG (wr d.1 s (H0 f),d.2)∧(It d s f sure).2=0∧DG (It d s f sure).1∧((sure=false∧(It d s f sure).1=(wr d.1 s (H0 f),d.2))∨(sure=true∧(It d s f sure).1=(wr d.1 s (H0 f),sy (wr d.1 s (H0 f),d.2) s)))):=by
 have hg:=Npa (f:=f) (sure:=sure) hd hs;rcases Nqa (f:=f) hd hs with h|⟨o,h1,h2,h⟩|⟨h1,h2,h⟩
 ·exact .inl (by unfold It;rw[h])
 ·have e:It d s f sure=kp2 d s sure (d,1):=by unfold It;rw[h]
  rcases Cya (d:=d) (s:=s) (sure:=sure) (x:=d) (c:=1) with k|⟨k0,k⟩|⟨k0,k1,k⟩
  ·exact .inl (e.trans k)
  ·rw[← e]at k;exact .inr (.inl ⟨o,h1,h2,by rw[k],hg,.inl ⟨k0,by rw[k]⟩⟩)
  ·rw[← e]at k;exact .inr (.inl ⟨o,h1,h2,by rw[k],hg,.inr ⟨k0,by rw[k]⟩⟩)
 ·have e:It d s f sure=kp2 d s sure ((wr d.1 s (H0 f),d.2),0):=by unfold It;rw[h]
  have hw:=Zda hd hs h;rcases Cya (d:=d) (s:=s) (sure:=sure) (x:=(wr d.1 s (H0 f),d.2)) (c:=0) with k|⟨k0,k⟩|⟨k0,k1,k⟩
  ·exact .inl (e.trans k)
  ·rw[← e]at k;exact .inr (.inr ⟨h1,hw,by rw[k],hg,.inl ⟨k0,by rw[k]⟩⟩)
  ·rw[← e]at k;exact .inr (.inr ⟨h1,hw,by rw[k],hg,.inr ⟨k0,by rw[k]⟩⟩)
def Aia {l:List Nmd} (hs:Cz l) {s t:ByteArray} {b:List Int}:gt (wr l s b) t=if s=t then some b else gt l t:=by
 unfold wr;rw[U2a (x:=(s,b)) (Jp hs) Uc]
 by_cases h:s=t
 ·rw[if_pos h,if_pos h]
 ·rw[if_neg h,if_neg h,Qh hs,if_neg h]
def Ffa (hd:C7 d=true) {t:ByteArray}:gt (sy d s) t=if s=t then gt d.1 s else gt d.2 t:=by
 unfold sy
 cases h:gt d.1 s with
 |none=>rw[Qh (Lk hd)]
 |some b=>rw[Aia (Lk hd)]
def Nra (hd:DG d) (hs:B0 s=true) (hf:D8 f=true) (hb:Aq f.2.2) (h:(It d s f true).2=0∨(It d s f true).2=1):
  ∃ o g b,DG o∧DG (It d s f true).1∧(It d s f true).1=(o.1,sy o s)∧gt o.1 s=some b∧K6 b=some g∧sle g.1 f.1=false:=by
 rcases M6 (f:=f) (sure:=true) hd hs with k|⟨o,h1,h2,k,hg,h3⟩|⟨h1,h2,k,hg,h3⟩
 ·rw[k]at h;rcases h with h|h<;>cases h
 ·rcases h3 with⟨h3,_⟩|⟨_,h3⟩
  ·cases h3
  ·have ho:(gt d.1 s).bind K6=some o:=h1
   cases hg1:gt d.1 s with
   |none=>rw[hg1]at ho;cases ho
   |some b=>
    rw[hg1]at ho;exact⟨d,o,b,hd,hg,h3,hg1,ho,h2⟩
 ·rcases h3 with⟨h3,_⟩|⟨_,h3⟩
  ·cases h3
  ·exact⟨(wr d.1 s (H0 f),d.2),f,H0 f,h2,hg,h3,by show gt (wr d.1 s (H0 f)) s=_;rw[Aia (Hy hd.1),if_pos rfl],My hf hb,Rva _⟩
end

abbrev Nod:=Int×Dsk×List Row×List Row
def qOk (l:List Row):Bool:=l.all Lj
def K8 (n:Nod):Bool:=qOk n.2.2.2&&(inR n.1 0 20&&(C7 n.2.1&&(Ho n.2.2.1&&decide ((n.2.2.2.length:Int)≤60))))
def RF (l:List Row):Prop:=l.length≤2000000∧A9a l
def NIn (n:Nod):Prop:=(DIn n.2.1∧DB n.2.1)∧RF n.2.2.1∧RF n.2.2.2
def NG (n:Nod):Prop:=K8 n=true∧DB n.2.1
def Bj {n:Nod}:K8 n=true↔(∀ r∈n.2.2.2,Lj r=true)∧(0≤n.1∧n.1≤20)∧C7 n.2.1=true∧Ho n.2.2.1=true∧n.2.2.2.length≤60:=by
 unfold K8 qOk;simp only[Va,Yd,Fx,decide_eq_true_iff];constructor
 ·rintro⟨h1,h2,h3,h4,h5⟩;exact⟨h1,h2,h3,h4,by omega⟩
 ·rintro⟨h1,h2,h3,h4,h5⟩;exact⟨h1,h2,h3,h4,by omega⟩
def Fga {l:List Row} (h:Ho l=true):RF l:=by
 obtain⟨_,h2,h3⟩:=I5.1 h;exact⟨by omega,λ r hr=>H4 (Xd (h2 r hr))⟩
def Aja {n:Nod} (h:NG n):NIn n:=by
 obtain⟨h1,_,h3,h4,h5⟩:=Bj.1 h.1;exact⟨⟨Ub h3,h.2⟩,Fga h4,by omega,λ r hr=>H4 (Xd (h1 r hr))⟩
def NG.g {n:Nod} (h:NG n):DG n.2.1:=⟨(Bj.1 h.1).2.2.1,h.2⟩
def Aka (n:Nod) (hn:NIn n):Tot (λ k=>C5 k n) (λ r=>r=K8 n):=by
 obtain⟨i,⟨a,b⟩,ro,q⟩:=n;obtain⟨⟨hd,_⟩,hr,hq⟩:=hn;dsimp only at hd hr hq;unfold C5;have hl:=hq.1;refine Bsb (Q:=λ r=>r=bif qOk q then .inr (i,a,b,ro,q) else .inl false) ?_ ?_
 ·refine C0b (L:=λ k i' (_:Unit)=>Er k q (q.length:Int) i' i a b ro q) (Q:=λ r=>r=bif qOk q then .inr (i,a,b,ro,q) else .inl false) q.length (λ j _=>(q.drop j).all Lj=q.all Lj) ?_ ?_ 0 () (Vv _) (by rw[Zf])
  ·intro _ hj;rw[Wm]at hj;simp only[Er];exact Bwb (by omega) (Brb (by unfold qOk;rw[← hj];rfl))
  ·intro j _ hj hi next;simp only[Er];rw[Bo (d:=Jt) hj,D7b]at hi;refine Bvb (by omega) (Bvb (by omega) (Bvb (by omega) ?_));rw[Vj,w64 (n:=(j:Int)+1) (by omega) (by omega)];refine C3b (N7a (q.getD j Jt) (hq.2 _ (A3 hj))) ?_
   cases hc:Lj (q.getD j Jt) with
   |false=>exact Bub rfl (Brb (by unfold qOk;rw[← hi,hc];rfl))
   |true=>exact Btb rfl (next () (by rw[hc,Wg]at hi;exact hi))
 ·rintro r rfl;unfold K8;dsimp only;cases qOk q
  ·exact Brb rfl
  simp only[cond_true,Dwb,Wg];refine C3b (C4b (Q:=λ r=>r=inR i 0 20) (Nt _ _ _) rfl) ?_;cases inR i 0 20
  ·exact Btb rfl (Brb rfl)
  refine Bub rfl (C3b (Oj (a,b) hd.1.1 hd.1.2) ?_);cases C7 (a,b)
  ·exact Btb rfl (Brb rfl)
  refine Bub rfl (C3b (Hda ro (by have:=hr.1;unfold Few;omega) hr.2) ?_)
  cases Ho ro with
  |false=>exact Btb rfl (Brb rfl)
  |true=>exact Bub rfl (Brb rfl)
def Jv (n:Nod) (hn:NIn n):Tot (λ k=>Ba k n) (λ r=>r=n):=by
 unfold Ba;have h1:=hn.2.1.1;have h2:=hn.2.2.1;refine C3b (Ge n.2.1 hn.1.1.1.1) ?_;refine C3b (C4b (Q:=λ r=>r=n.2.2.1) (Qb _ (by unfold Few;omega)) rfl) ?_;refine C3b (C4b (Q:=λ r=>r=n.2.2.2) (Qb _ (by unfold Few;omega)) rfl) ?_;exact Brb rfl
def Rwa (n:Nod) (l:List Row):Nod×Bool:=bif K8 n&&Ho l then (bif decide ((Ky n.2.2.1 l).length > 60) then (n,false) else ((n.1,n.2.1,Ky n.2.2.1 l,n.2.2.2),true)) else (n,false)
def Fha {a b:List Row} (ha:Ho a=true) (hb:Ho b=true) (h:(Ky a b).length≤60):Ho (Ky a b)=true:=by
 obtain⟨a1,a2,_⟩:=I5.1 ha;obtain⟨b1,b2,_⟩:=I5.1 hb;exact I5.2 ⟨J3 a1,λ r hr=>(Aaa hr).elim (a2 r) (b2 r),h⟩
def Rxa (n:Nod) (l:List Row) (hn:NIn n) (hl:RF l):Tot (λ k=>Fo k n l) (λ r=>r=Rwa n l):=by
 have h1:=hn.2.1.1;have h2:=hl.1;unfold Fo Rwa;refine C3b (Jv n hn) ?_;refine C3b (Aka n hn) ?_;cases K8 n
 ·exact Bub rfl (Brb rfl)
 refine Btb rfl (C3b (Hda l (by unfold Few;omega) hl.2) ?_);cases Ho l
 ·exact Bub rfl (Brb rfl)
 refine Btb rfl (C3b (X8 n.2.2.1 l (by omega)) ?_);refine Byb (λ h=>?_) (λ h=>?_)
 ·rw[decide_eq_true (show (Ky n.2.2.1 l).length > 60 by omega)];refine C3b (Jv n hn) ?_;exact Brb rfl
 ·rw[decide_eq_false (show ¬ (Ky n.2.2.1 l).length > 60 by omega)];exact Brb rfl
def M7 (s:ByteArray) (f:Fil):Row:=(s,f.1,f.2.1,(f.2.2.length:Int))
def Ll (n:Nod) (s:ByteArray) (f:Fil) (sure:Bool):Nod×Int:=bif (n.2.2.2.length:Int)==60 then (n,3) else
 ((n.1,(keep n.2.1 s f sure).1,n.2.2.1,bif (keep n.2.1 s f sure).2==0&&sure then n.2.2.2++[M7 s f] else n.2.2.2),(keep n.2.1 s f sure).2)
def Afb (n:Nod) (s:ByteArray) (f:Fil) (sure:Bool):Nod×Int:=bif K8 n&&(B0 s&&D8 f) then Ll n s f sure else (n,2)
def Rya {s:ByteArray} {f:Fil} (hs:B0 s=true) (hf:D8 f=true):Lj (M7 s f)=true:=by
 obtain⟨h1,h2,h3⟩:=Gr.1 hf;unfold Lj M7;dsimp only;rw[hs,h1,Fx.2 ⟨by omega,by omega⟩]
 cases hd:f.2.1 with
 |false=>rfl
 |true=>rw[h3 hd];rfl
def Hna {n:Nod} {s:ByteArray} {f:Fil} {sure:Bool} (hn:NG n) (hs:B0 s=true) (hf:D8 f=true):NG (Ll n s f sure).1:=by
 obtain⟨h1,h2,h3,h4,h5⟩:=Bj.1 hn.1;have hk:=U8a (s:=s) (f:=f) (sure:=sure) hn.g;unfold Ll;cases hl:((n.2.2.2.length:Int)==60)
 case true=>exact hn
 have hl':n.2.2.2.length≠60:=by
  intro e;rw[e]at hl;cases hl
 refine⟨Bj.2 ⟨?_,h2,hk.1,h4,?_⟩,hk.2⟩
 ·show ∀ r∈bif (keep n.2.1 s f sure).2==0&&sure then n.2.2.2++[M7 s f] else n.2.2.2,Lj r=true
  cases (keep n.2.1 s f sure).2==0&&sure
  ·exact h1
  intro r hr;rcases Vm.1 hr with hr|hr
  ·exact h1 r hr
  ·rw[Vn.1 hr];exact Rya hs hf
 ·show (bif (keep n.2.1 s f sure).2==0&&sure then n.2.2.2++[M7 s f] else n.2.2.2).length≤60
  cases (keep n.2.1 s f sure).2==0&&sure with
  |false=>exact h5
  |true=>rw[cond_true,Vi];simp only[Vh,Vq];omega
def Nsa (n:Nod) (s:ByteArray) (b:Int):Nod×Bool:=bif K8 n&&((lkD n.2.1 s).2==0&&(Jqa n.2.1 s b).2) then ((n.1,(Jqa n.2.1 s b).1,n.2.2),true) else (n,false)
def U9a {n:Nod} {s:ByteArray} {b:Int} (hn:NG n):NG (Nsa n s b).1:=by
 obtain⟨h1,h2,h3,h4,h5⟩:=Bj.1 hn.1;have hr:=Zfa (s:=s) (n:=b) hn.g;unfold Nsa
 cases K8 n&&((lkD n.2.1 s).2==0&&(Jqa n.2.1 s b).2) with
 |false=>exact hn
 |true=>exact⟨Bj.2 ⟨h1,h2,hr.1,h4,h5⟩,hr.2⟩
def A7:Nod:=((0:Int),(([]:List Nmd),([]:List Nmd)),([]:List Row),([]:List Row))
def Fia (i:Int):G7 i=some (bif inR i 0 20 then (i,([],[]),[],[]) else A7):=by
 unfold G7;rw[Hca];simp only[Vu]
 cases inR i 0 20<;>rfl

abbrev Dev:=Int×Int×Int
abbrev Rng:=Int×List (List Int)
def Je:Dev:=((0:Int),((0:Int),(0:Int)))
def Gp (l:List Int) (n:Int):Bool:=l.any (· == n)
def H7 {l:List Int} {n:Int}:Gp l n=true↔n∈l:=by
 unfold Gp;rw[Clb];constructor
 ·rintro⟨x,hx,e⟩;rw[← eq_of_beq e];exact hx
 ·intro h;exact⟨n,h,beq_self_eq_true n⟩
def Pf (l:List Int) (n:Int) (hl:l.length≤4000000000000000):Tot (λ k=>Bd k l n) (λ r=>r=Gp l n):=by
 unfold Bd
 refine Bsb (Q:=λ r=>r=bif Gp l n then .inl true else .inr ()) ?_ (by rintro r rfl;cases Gp l n<;>exact Brb rfl)
 refine C0b (L:=λ k i (_:Unit)=>Ej k n l (l.length:Int) i) (Q:=λ r=>r=bif Gp l n then .inl true else .inr ()) l.length (λ j _=>Gp (l.drop j) n=Gp l n) ?_ ?_ 0 () (Vv _) rfl
 ·intro _ h;rw[Wm]at h;simp (disch:=omega) only [Ej,dF,← h];exact Brb rfl
 ·intro j _ hj h next;rw[Bo (d:=0) hj]at h;simp (disch:=omega) only [Ej,dT,Vj,w64];unfold Gp at h;rw[D6b]at h;refine Bxb (λ hc=>Brb ?_) (λ hc=>next () ?_)
  ·rw[hc,F5b]at h;unfold Gp;rw[← h];rfl
  ·rw[hc,Dnb]at h;exact h
def Fja (l:List Int) (n:Int) (hl:l.length≤4000000000000000):Tot (λ k=>Ft k l n) (λ r=>r=Gp l n):=by
 unfold Ft
 refine Bsb (Q:=λ r=>r=bif Gp l n then .inl true else .inr ()) ?_ (by rintro r rfl;cases Gp l n<;>exact Brb rfl)
 refine C0b (L:=λ k i (_:Unit)=>Fi k l n i) (Q:=λ r=>r=bif Gp l n then .inl true else .inr ()) l.length (λ j _=>Gp (l.drop j) n=Gp l n) ?_ ?_ 0 () (Vv _) rfl
 ·intro _ h;rw[Wm]at h;simp (disch:=omega) only [Fi,dF,← h];exact Brb rfl
 ·intro j _ hj h next;rw[Bo (d:=0) hj]at h;simp (disch:=omega) only [Fi,dT,Vj,w64];unfold Gp at h;rw[D6b]at h;refine Bxb (λ hc=>Brb ?_) (λ hc=>next () ?_)
  ·rw[hc,F5b]at h;unfold Gp;rw[← h];rfl
  ·rw[hc,Dnb]at h;exact h
def Hz (l:List Dev) (id:Int):Option Dev:=l.find? (λ d=>d.1==id)
def Bfb:Option Dev→Dev×Bool
 |some d=>(d,true)
 |none=>(Je,false)
def Jra {l:List Dev} {id:Int} {d:Dev} (h:Hz l id=some d):d∈l∧d.1=id:=⟨Ekb h,eq_of_beq (List.find?_some (p:=λ d:Dev=>d.1==id) h)⟩
def Cza (l:List Dev) (id:Int) (hl:l.length≤1000000000):Tot (λ k=>G0 k l id) (λ r=>r=Bfb (Hz l id)):=by
 unfold G0
 refine Bsb (Q:=λ r=>r=match Hz l id with|some d => .inl (true,d)|none => .inr (0,0,0)) ?_ (by rintro r rfl;cases Hz l id<;>exact Brb rfl)
 refine C0b (L:=λ k i (_:Unit)=>Fe k id l (l.length:Int) i (0,0,0)) (Q:=λ r=>r=match Hz l id with|some d => .inl (true,d)|none => .inr (0,0,0)) l.length (λ j _=>Hz (l.drop j) id=Hz l id) ?_ ?_ 0 () (Vv _) rfl
 ·intro _ h;rw[Wm]at h;simp (disch:=omega) only [Fe,dF,← h];exact Brb rfl
 ·intro j _ hj h next;rw[Bo (d:=Je) hj]at h;unfold Hz at h;rw[Cub]at h;simp (disch:=omega) only [Fe,dT,Vj,w64];refine Bxb (λ hc=>Brb ?_) (λ hc=>next () ?_)
  ·rw[show ((l.getD j Je).1==id)=true from hc]at h;unfold Hz;rw[← h];rfl
  ·rw[show ((l.getD j Je).1==id)=false from hc]at h;exact h
def Nta (l:List Dev) (id:Int) (hl:l.length≤1000000000):Tot (λ k=>H3 k l id) (λ r=>r=Bfb (Hz l id)):=by
 unfold H3
 refine Bsb (Q:=λ r=>r=match Hz l id with|some d => .inl (true,d)|none => .inr (0,0,0)) ?_ (by rintro r rfl;cases Hz l id<;>exact Brb rfl)
 refine C0b (L:=λ k i (_:Unit)=>Fh k l id i (0,0,0)) (Q:=λ r=>r=match Hz l id with|some d => .inl (true,d)|none => .inr (0,0,0)) l.length (λ j _=>Hz (l.drop j) id=Hz l id) ?_ ?_ 0 () (Vv _) rfl
 ·intro _ h;rw[Wm]at h;simp (disch:=omega) only [Fh,dF,← h];exact Brb rfl
 ·intro j _ hj h next;rw[Bo (d:=Je) hj]at h;unfold Hz at h;rw[Cub]at h;simp (disch:=omega) only [Fh,dT,Vj,w64];refine Bxb (λ hc=>Brb ?_) (λ hc=>next () ?_)
  ·rw[show ((l.getD j Je).1==id)=true from hc]at h;unfold Hz;rw[← h];rfl
  ·rw[show ((l.getD j Je).1==id)=false from hc]at h;exact h
def Ug (d:Dev):Bool:=inR d.1 0 20&&(inR d.2.1 0 20&&inR d.2.2 1 1000)
def Sd:Option Int→List Dev→Bool
 |_,[]=>true
 |none,d::l=>Ug d&&Sd (some d.1) l
 |some q,d::l=>Ug d&&(decide (q<d.1)&&Sd (some d.1) l)
def Hr (l:List Dev):Bool:=Sd none l&&inR (l.length:Int) 1 12
def D0a (l:List Dev):Nat→Option Int
 |0=>none
 |i+1=>some (l.getD i Je).1
def Ala:∀ (p:Option Int) (l:List Dev),Sd p l=true↔l.Pairwise (λ a b=>a.1<b.1)∧(∀ d∈l,Ug d=true)∧(∀ q,p=some q→∀ d∈l,q<d.1)
 |p,[]=>by cases p<;>simp[Sd]
 |none,d::l=>by
  simp only[Sd,Va,Ala (some d.1) l,Wa,Vl,forall_eq_or_imp,Vc];constructor
  ·rintro⟨h1,h2,h3,h4⟩;exact⟨⟨h4 _ rfl,h2⟩,⟨h1,h3⟩,λ q h=>by cases h⟩
  ·rintro⟨⟨h1,h2⟩,⟨h3,h4⟩,_⟩;exact⟨h3,h2,h4,λ q e=>by subst e;exact h1⟩
 |some q,d::l=>by
  simp only[Sd,Va,decide_eq_true_iff,Ala (some d.1) l,Wa,Vl,forall_eq_or_imp,Vc];constructor
  ·rintro⟨h1,hq,h2,h3,h4⟩;exact⟨⟨h4 _ rfl,h2⟩,⟨h1,h3⟩,λ q' e=>by subst e;exact⟨hq,λ x hx=>by have:=h4 _ rfl x hx;omega⟩⟩
  ·rintro⟨⟨h1,h2⟩,⟨h3,h4⟩,h5⟩;exact⟨h3,(h5 q rfl).1,h2,h4,λ q e=>by subst e;exact h1⟩
def Dy {l:List Dev}:Hr l=true↔l.Pairwise (λ a b=>a.1<b.1)∧(∀ d∈l,Ug d=true)∧1≤l.length∧l.length≤12:=by
 unfold Hr;rw[Va,Ala,Fx];constructor
 ·rintro⟨⟨h1,h2,_⟩,h3,h4⟩;exact⟨h1,h2,by omega,by omega⟩
 ·rintro⟨h1,h2,h3,h4⟩;exact⟨⟨h1,h2,λ q h=>by cases h⟩,by omega,by omega⟩
def Ie {d:Dev}:Ug d=true↔(0≤d.1∧d.1≤20)∧(0≤d.2.1∧d.2.1≤20)∧1≤d.2.2∧d.2.2≤1000:=by
 unfold Ug;rw[Va,Va,Fx,Fx,Fx]
def D1a {l:List Dev} {j:Nat} (hj:j<l.length):Sd (D0a l j) (l.drop j)=(Ug (l.getD j Je)&&((bif decide (0<j) then decide ((l.getD (j-1) Je).1<(l.getD j Je).1) else true)&&Sd (D0a l (j+1)) (l.drop (j+1)))):=by
 rw[Bo (d:=Je) hj]
 cases j with
 |zero=>simp[D0a,Sd]
 |succ j=>simp[D0a,Sd]
def Ama (l:List Dev) (hl:l.length≤1000000000):Tot (λ k=>C4 k l) (λ r=>r=Hr l):=by
 unfold C4 Hr;refine Bsb (Q:=λ r=>r=bif Sd none l then .inr l else .inl false) ?_ ?_
 ·refine C0b (L:=λ k i (_:Unit)=>E4 k l l (l.length:Int) i) (Q:=λ r=>r=bif Sd none l then .inr l else .inl false) l.length (λ j _=>Sd (D0a l j) (l.drop j)=Sd none l) ?_ ?_ 0 () (Vv _) rfl
  ·intro _ h;rw[Wm]at h
   have:Sd none l=true:=by rw[← h];cases D0a l l.length<;>rfl
   simp (disch:=omega) only [E4,dF,this];exact Brb rfl
  ·intro j _ hj h next;rw[D1a hj]at h;simp (disch:=omega) only [E4,dT,Vj,w64,Nt,Vu];have e0:l.getD j ((0:Int),((0:Int),(0:Int)))=l.getD j Je:=rfl;rw[e0]
   have no:Ug (l.getD j Je)=false→Sd none l=false:=λ c=>by rw[← h,c];rfl
   unfold Ug at no h;refine Bxb (λ hc=>Brb ?_) (λ h1=>Bxb (λ hc=>Brb ?_) (λ h2=>Bxb (λ hc=>Brb ?_) (λ h3=>?_)))
   ·rw[no (by rw[Vz]at hc;rw[hc];rfl)];rfl
   ·rw[no (by rw[Vz]at hc;rw[hc,Zb,Xs])];rfl
   ·rw[no (by rw[Vz]at hc;rw[hc,Xs,Xs])];rfl
   ·rw[Ye]at h1 h2 h3;rw[h1,h2,h3]at h;refine Byb (λ h0=>?_) (λ h0=>next () ?_)
    ·simp (disch:=omega) only [dT,w64,show toNat ((j:Int)-1)=j-1 by omega];rw[decide_eq_true (show 0<j by omega)]at h;refine Byb (λ hc=>Brb ?_) (λ hc=>next () ?_)
     ·have hc':¬ ((l.getD (j-1) Je).1<(l.getD j Je).1):=by
       have:(l.getD (j-1) Je).1≥(l.getD j Je).1:=hc;omega
      rw[decide_eq_false hc']at h;rw[← h];rfl
     ·have hc':(l.getD (j-1) Je).1<(l.getD j Je).1:=by
       have:¬ ((l.getD (j-1) Je).1≥(l.getD j Je).1):=hc;omega
      rw[decide_eq_true hc']at h;exact h
    ·rw[decide_eq_false (show ¬ 0<j by omega)]at h;exact h
 ·rintro r rfl;cases Sd none l
  ·exact Brb rfl
  simp only[cond_true,Dwb,Nt,Vu];exact Brb rfl
def Hoa (l:List Dev) (hl:l.length≤1000000000):Tot (λ k=>D9 k l) (λ r=>r=Hr l):=by
 unfold D9 Hr;refine Bsb (Q:=λ r=>r=bif Sd none l then .inr l else .inl false) ?_ ?_
 ·refine C0b (L:=λ k i (_:Unit)=>E6 k l i) (Q:=λ r=>r=bif Sd none l then .inr l else .inl false) l.length (λ j _=>Sd (D0a l j) (l.drop j)=Sd none l) ?_ ?_ 0 () (Vv _) rfl
  ·intro _ h;rw[Wm]at h
   have:Sd none l=true:=by rw[← h];cases D0a l l.length<;>rfl
   simp (disch:=omega) only [E6,dF,this];exact Brb rfl
  ·intro j _ hj h next;rw[D1a hj]at h;simp (disch:=omega) only [E6,dT,Vj,w64,Hca,Vu];have e0:l.getD j ((0:Int),((0:Int),(0:Int)))=l.getD j Je:=rfl;rw[e0]
   have no:Ug (l.getD j Je)=false→Sd none l=false:=λ c=>by rw[← h,c];rfl
   unfold Ug at no h;refine Bxb (λ hc=>Brb ?_) (λ h1=>Bxb (λ hc=>Brb ?_) (λ h2=>Bxb (λ hc=>Brb ?_) (λ h3=>?_)))
   ·rw[no (by rw[Vz]at hc;rw[hc];rfl)];rfl
   ·rw[no (by rw[Vz]at hc;rw[hc,Zb,Xs])];rfl
   ·rw[no (by rw[Vz]at hc;rw[hc,Xs,Xs])];rfl
   ·rw[Ye]at h1 h2 h3;rw[h1,h2,h3]at h;refine Byb (λ h0=>?_) (λ h0=>next () ?_)
    ·simp (disch:=omega) only [dT,w64,show toNat ((j:Int)-1)=j-1 by omega];rw[decide_eq_true (show 0<j by omega)]at h;refine Byb (λ hc=>Brb ?_) (λ hc=>next () ?_)
     ·have hc':¬ ((l.getD (j-1) Je).1<(l.getD j Je).1):=by
       have:(l.getD (j-1) Je).1≥(l.getD j Je).1:=hc;omega
      rw[decide_eq_false hc']at h;rw[← h];rfl
     ·have hc':(l.getD (j-1) Je).1<(l.getD j Je).1:=by
       have:¬ ((l.getD (j-1) Je).1≥(l.getD j Je).1):=hc;omega
      rw[decide_eq_true hc']at h;exact h
    ·rw[decide_eq_false (show ¬ 0<j by omega)]at h;exact h
 ·rintro r rfl;cases Sd none l
  ·exact Brb rfl
  simp only[cond_true,Dwb,Hca,Vu];exact Brb rfl
def Ana (l:List Dev) (out:List Int) (id:Int):List Int:=match Hz l id with
 |some d=>bif Gp out d.2.1 then out else out++[d.2.1]
 |none=>out
def C2 (ids:List Int) (l:List Dev):List Int:=ids.foldl (Ana l) []
def Uh (l:List Dev) (out:List Int) (id:Int):(Ana l out id).length≤out.length+1:=by
 unfold Ana
 cases Hz l id with
 |none=>exact Cpb _
 |some d=>
  simp only
  cases Gp out d.2.1 with
  |true=>exact Cpb _
  |false=>rw[cond_false,Vi];exact Vw _
def D2a (l:List Dev):∀ (ids out:List Int),(ids.foldl (Ana l) out).length≤out.length+ids.length
 |[],out=>by simp
 |id::ids,out=>by
  have h1:=D2a l ids (Ana l out id);have h2:=Uh l out id;rw[Ys,Vh];omega
def D3a (ids:List Int) (l:List Dev) (hi:ids.length≤5000000) (hl:l.length≤5000000):Tot (λ k=>Cc k ids l) (λ r=>r=C2 ids l):=by
 unfold Cc;refine Bsb (Q:=λ r=>r=C2 ids l) ?_ (by rintro r rfl;exact Brb rfl);refine C0b (L:=λ k i s=>Cl k l s ids (ids.length:Int) i) (Q:=λ r=>r=C2 ids l) ids.length (λ j s=>(ids.drop j).foldl (Ana l) s=C2 ids l∧s.length≤j) ?_ ?_ 0 [] (Vv _) ⟨rfl,Vw _⟩
 ·rintro s ⟨h,_⟩;rw[Wm]at h;simp (disch:=omega) only [Cl,dF];exact Brb h
 ·rintro j s hj ⟨h,hs⟩ next;rw[Bo (d:=0) hj,Ys]at h;simp (disch:=omega) only [Cl,dT,Vj,w64];have hz:=Uh l s (ids.getD j 0);refine C3b (Cza l (ids.getD j 0) (by omega)) ?_;unfold Ana at h hz
  cases hd:Hz l (ids.getD j 0) with
  |none=>
   rw[hd]at h;exact Btb rfl (next _ ⟨h,by omega⟩)
  |some d=>
   rw[hd]at h hz;refine Bub rfl (C3b (Pf s d.2.1 (by omega)) ?_);simp only at h hz
   cases hh:Gp s d.2.1 with
   |true=>
    rw[hh]at h;exact Btb rfl (next _ ⟨h,by omega⟩)
   |false=>
    rw[hh]at h hz;exact Bub rfl (Bzb (by simp only[Vh,Vq];omega) (next _ ⟨h,by rw[cond_false]at hz;exact Zx hz (by omega)⟩))
def Nua (ids:List Int) (l:List Dev) (hi:ids.length≤5000000) (hl:l.length≤5000000):Tot (λ k=>Dp k ids l) (λ r=>r=C2 ids l):=by
 unfold Dp;refine Bsb (Q:=λ r=>r=C2 ids l) ?_ (by rintro r rfl;exact Brb rfl);refine C0b (L:=λ k i s=>Cm k ids l s i) (Q:=λ r=>r=C2 ids l) ids.length (λ j s=>(ids.drop j).foldl (Ana l) s=C2 ids l∧s.length≤j) ?_ ?_ 0 [] (Vv _) ⟨rfl,Vw _⟩
 ·rintro s ⟨h,_⟩;rw[Wm]at h;simp (disch:=omega) only [Cm,dF];exact Brb h
 ·rintro j s hj ⟨h,hs⟩ next;rw[Bo (d:=0) hj,Ys]at h;simp (disch:=omega) only [Cm,dT,Vj,w64];have hz:=Uh l s (ids.getD j 0);refine C3b (Nta l (ids.getD j 0) (by omega)) ?_;unfold Ana at h hz
  cases hd:Hz l (ids.getD j 0) with
  |none=>
   rw[hd]at h;exact Btb rfl (next _ ⟨h,by omega⟩)
  |some d=>
   rw[hd]at h hz;refine Bub rfl (C3b (Fja s d.2.1 (by omega)) ?_);simp only at h hz
   cases hh:Gp s d.2.1 with
   |true=>
    rw[hh]at h;exact Btb rfl (next _ ⟨h,by omega⟩)
   |false=>
    rw[hh]at h hz;exact Bub rfl (Bzb (by simp only[Vh,Vq];omega) (next _ ⟨h,by rw[cond_false]at hz;exact Zx hz (by omega)⟩))

def Ui {l:List Int} {j:Nat} (hj:j<l.length) (h:(l.take j).Nodup) (hn:l.getD j 0∉l.take j):(l.take (j+1)).Nodup:=by
 rw[We hj,Ya];rw[Vb,Ve hj,Wo]at hn;exact⟨h,by simp,λ a ha b hb e=>by rw[Vn.1 hb]at e;subst e;exact hn ha⟩
def Nva {l:List Int} {j:Nat} (hj:j<l.length) (hn:l.getD j 0∈l.take j):¬ l.Nodup:=by
 intro h;have h1:(l.take (j+1)).Nodup:=h.sublist (Emb _ _);rw[We hj,Ya]at h1;rw[Vb,Ve hj,Wo]at hn;exact h1.2.2 _ hn _ (by simp) rfl
def Nwa (l:List Int) (hl:l.length≤5000000):Tot (λ k=>Fu k l) (λ r=>r=decide l.Nodup):=by
 unfold Fu
 refine Bsb (Q:=λ r=>r=bif decide l.Nodup then .inr () else .inl false) ?_ (by rintro r rfl;cases decide l.Nodup<;>exact Brb rfl)
 refine C0b (L:=λ k i (_:Unit)=>Fl k l l (l.length:Int) i) (Q:=λ r=>r=bif decide l.Nodup then .inr () else .inl false) l.length (λ j _=>(l.take j).Nodup) ?_ ?_ 0 () (Vv _) (by simp)
 ·intro _ h;rw[Yx]at h;simp (disch:=omega) only [Fl,dF,decide_eq_true h];exact Brb rfl
 ·intro j _ hj h next;simp (disch:=omega) only [Fl,dT,Vj,w64];refine C3b (Pf (l.take j) (l.getD j 0) (by rw[Vs];omega)) ?_;refine Bxb (λ hc=>Brb ?_) (λ hc=>next () (Ui hj h (λ c=>by rw[H7.2 c]at hc;cases hc)));rw[decide_eq_false (Nva hj (H7.1 hc))];rfl
def RBd (r:Rng):Prop:=r.2.length≤2000000∧∀ p∈r.2,p.length≤2000000
def M8 (l:List Dev) (n:Int) (p:List Int):Bool:=(decide p.Nodup&&((p.length:Int)==n))&&p.all λ id=>(Hz l id).isSome
def Hb (r:Rng) (l:List Dev):Bool:=Hr l&&(inR r.1 1 5&&(inR (r.2.length:Int) 1 64&&r.2.all (M8 l r.1)))
def Cb {r:Rng} {l:List Dev}:Hb r l=true↔Hr l=true∧(1≤r.1∧r.1≤5)∧(1≤r.2.length∧r.2.length≤64)∧∀ p∈r.2,p.Nodup∧(p.length:Int)=r.1∧∀ id∈p,∃ d,Hz l id=some d:=by
 unfold Hb M8;simp only[Va,Fx,Yd,decide_eq_true_iff,beq_iff_eq,Zk];constructor
 ·rintro⟨h1,h2,⟨h3,h4⟩,h5⟩;exact⟨h1,h2,⟨by omega,by omega⟩,λ p hp=>⟨(h5 p hp).1.1,(h5 p hp).1.2,(h5 p hp).2⟩⟩
 ·rintro⟨h1,h2,⟨h3,h4⟩,h5⟩;exact⟨h1,h2,⟨by omega,by omega⟩,λ p hp=>⟨⟨(h5 p hp).1,(h5 p hp).2.1⟩,(h5 p hp).2.2⟩⟩
def Kw {r:Rng} {l:List Dev} (h:Hb r l=true):RBd r:=by
 obtain⟨_,h2,h3,h4⟩:=Cb.1 h;exact⟨by omega,λ p hp=>by have:=(h4 p hp).2.1;omega⟩
def Rza (r:Rng) (l:List Dev) (hr:RBd r) (hl:l.length≤5000000):Tot (λ k=>Ds k r l) (λ b=>b=Hb r l):=by
 unfold Ds Hb;refine C3b (Ama l (by omega)) ?_;cases hd:Hr l
 ·exact Bub rfl (Brb rfl)
 have hrl:=hr.1;simp only[Yt,cond_false,Nt,Vu,Wg];cases inR r.1 1 5
 ·exact Bub rfl (Brb rfl)
 refine Btb rfl ?_;cases inR (r.2.length:Int) 1 64
 ·exact Bub rfl (Brb rfl)
 refine Btb rfl (Bsb (Q:=λ b=>b=bif r.2.all (M8 l r.1) then .inr () else .inl false) ?_ (by rintro r' rfl;cases r.2.all (M8 l r.1)<;>exact Brb rfl))
 refine C0b (L:=λ k i (_:Unit)=>Ep k l r.2 (r.2.length:Int) i r) (Q:=λ b=>b=bif r.2.all (M8 l r.1) then .inr () else .inl false) r.2.length (λ j _=>(r.2.drop j).all (M8 l r.1)=r.2.all (M8 l r.1)) ?_ ?_ 0 () (Vv _) rfl
 ·intro _ h;rw[Wm]at h;simp (disch:=omega) only [Ep,dF,← h];exact Brb rfl
 ·intro j _ hj h next;rw[Bo (d:=[]) hj,D7b]at h;have hp:=hr.2 _ (A3 (d:=[]) hj);simp (disch:=omega) only [Ep,dT,Vj,w64]
  have no:M8 l r.1 (r.2.getD j [])=false→r.2.all (M8 l r.1)=false:=λ c=>by rw[← h,c];rfl
  unfold M8 at no h;refine Bxb (λ hc=>Brb ?_) (λ h1=>Bsb (Nwa (r.2.getD j []) (by omega)) ?_)
  ·have hc':(((r.2.getD j []).length:Int)==r.1)=false:=by simpa using hc
   rw[show r.2.all (M8 l r.1)=false from no (by rw[hc',Xs,Zb])];rfl
  ·have h1':(((r.2.getD j []).length:Int)==r.1)=true:=by simpa using h1
   rintro b rfl;refine Bxb (λ hc=>Brb ?_) (λ h2=>?_)
   ·rw[show r.2.all (M8 l r.1)=false from no (by rw[Vz]at hc;rw[hc];rfl)];rfl
   ·rw[Ye]at h2;generalize r.2.getD j []=p at *;refine Bsb (Q:=λ b=>b=bif p.all (λ id=>(Hz l id).isSome) then .inr (l,r.2,(r.2.length:Int),(j:Int),r) else .inl false) ?_ ?_
    ·refine C0b (L:=λ k i (_:Unit)=>Eo k l r.2 (r.2.length:Int) (j:Int) p (p.length:Int) i r) (Q:=λ b=>b=bif p.all (λ id=>(Hz l id).isSome) then .inr (l,r.2,(r.2.length:Int),(j:Int),r) else .inl false) p.length (λ m _=>(p.drop m).all (λ id=>(Hz l id).isSome)=p.all (λ id=>(Hz l id).isSome)) ?_ ?_ 0 () (Vv _) rfl
     ·intro _ h;rw[Wm]at h;simp (disch:=omega) only [Eo,dF,← h];exact Brb rfl
     ·intro m _ hm h next;rw[Bo (d:=0) hm,D7b]at h;simp (disch:=omega) only [Eo,dT,Vj,w64];refine C3b (Cza l (p.getD m 0) (by omega)) ?_
      cases hd:Hz l (p.getD m 0) with
      |none=>exact Bub rfl (Brb (by rw[← h,hd];rfl))
      |some d=>exact Btb rfl (next () (by rw[hd]at h;exact h))
    ·rintro b rfl;cases hc:p.all (λ id=>(Hz l id).isSome)
     ·exact Brb (by rw[show r.2.all (M8 l r.1)=false from no (by rw[hc,Xs])];rfl)
     simp (disch:=omega) only [cond_true,Dwb,w64];exact next () (by rw[h2,h1',hc]at h;exact h)
def Rx (l:List Int) (hl:l.length≤5000000):Du l=some l:=by
 unfold Du;rw[bT (by simp only[Vq];omega),Wn]
def D4a (r:Rng) (hr:RBd r):Tot (λ k=>Cj k r) (λ x=>x=r):=by
 have hrl:=hr.1;unfold Cj;refine Bsb (Q:=λ x=>x=((0,[]),r)) ?_ (by rintro x rfl;exact Brb rfl);refine C0b (L:=λ k i s=>Dg k r.2 (r.2.length:Int) i (0,[]) (r.1,s)) (Q:=λ x=>x=((0,[]),r)) r.2.length (λ j s=>s=r.2.take j) ?_ ?_ 0 [] (Vv _) rfl
 ·rintro s rfl;simp (disch:=omega) only [Dg,dF,Yx];exact Brb rfl
 ·rintro j s hj rfl next;have hp:=hr.2 _ (A3 (d:=[]) hj);simp (disch:=omega) only [Dg,dT,Vj,w64,Rx,Vu];refine Bzb (by simp only[Vs,Vh,Vq];omega) (next _ ?_);rw[We hj,Vb,Ve hj,Wo]
def cnt (id n x:Int):Int:=bif x==id then n+1 else n
def V2 (id n:Int) (p:List Int):Int:=p.foldl (cnt id) n
def Gf (r:Rng) (id:Int):Int:=r.2.foldl (V2 id) 0
def Aoa (id:Int):∀ (p:List Int) (n:Int),n≤V2 id n p∧V2 id n p≤n+p.length
 |[],n=>by simp[V2]
 |x::p,n=>by
  have h:=Aoa id p (cnt id n x);unfold V2 at h ⊢
  have hc:n≤cnt id n x∧cnt id n x≤n+1:=by unfold cnt;cases x==id<;>simp<;>omega
  rw[Ys,Vh];omega
def Nxa (id:Int) (m:Nat):∀ (ps:List (List Int)) (n:Int),(∀ p∈ps,p.length≤m)→n≤ps.foldl (V2 id) n∧ps.foldl (V2 id) n≤n+(m*ps.length:Nat)
 |[],n,_=>by simp
 |p::ps,n,h=>by
  have h1:=Nxa id m ps (V2 id n p) (λ q hq=>h q (Vd _ hq));have h2:=Aoa id p n;have h3:=h p Wl;rw[Ys,Vh,Nat.mul_succ];omega
def Qi {r:Rng} (hr:RBd r) (id:Int):0≤Gf r id∧Gf r id≤4000000000000:=by
 have h:=Nxa id 2000000 r.2 0 hr.2;have h2:=hr.1;unfold Gf;omega
def S0a (r:Rng) (id:Int) (hr:RBd r):Tot (λ k=>G3 k r id) (λ x=>x=Gf r id):=by
 have hrl:=hr.1;unfold G3;refine Bsb (Q:=λ x=>x=Gf r id) ?_ (by rintro x rfl;exact Brb rfl);refine C0b (L:=λ k i s=>Ek k id s r.2 (r.2.length:Int) i) (Q:=λ x=>x=Gf r id) r.2.length (λ j s=>(r.2.drop j).foldl (V2 id) s=Gf r id∧0≤s∧s≤2000000*j) ?_ ?_ 0 0 (Vv _) ⟨rfl,by omega,by omega⟩
 ·rintro s ⟨h,_⟩;rw[Wm]at h;simp (disch:=omega) only [Ek,dF];exact Brb h
 ·rintro j s hj ⟨h,h0,h1⟩ next;rw[Bo (d:=[]) hj,Ys]at h;have hp:=hr.2 _ (A3 (d:=[]) hj);have hc:=Aoa id (r.2.getD j []) s;simp (disch:=omega) only [Ek,dT,Vj];refine Bsb (Q:=λ x=>x=(id,V2 id s (r.2.getD j []),r.2,(r.2.length:Int),(j:Int))) ?_ ?_
  ·generalize r.2.getD j []=p at *;refine C0b (L:=λ k i s=>E5 k id s r.2 (r.2.length:Int) (j:Int) p (p.length:Int) i) (Q:=λ x=>x=(id,V2 id s p,r.2,(r.2.length:Int),(j:Int))) p.length (λ m z=>V2 id z (p.drop m)=V2 id s p∧0≤z∧z≤2000000*j+m) ?_ ?_ 0 s (Vv _) ⟨rfl,h0,by omega⟩
   ·rintro z ⟨h,_⟩;rw[Wm]at h;simp (disch:=omega) only [E5,dF];exact Brb (by rw[← h];rfl)
   ·rintro m z hm ⟨h,z0,z1⟩ next;rw[Bo (d:=0) hm]at h;simp (disch:=omega) only [E5,dT,Vj,w64];have h':V2 id (cnt id z (p.getD m 0)) (p.drop (m+1))=V2 id s p:=h;unfold cnt at h';refine Bxb (λ hc=>next _ ?_) (λ hc=>next _ ?_)
    ·rw[hc]at h';exact⟨h',by omega,by omega⟩
    ·rw[hc]at h';exact⟨h',by omega,by omega⟩
  ·rintro x rfl;simp (disch:=omega) only [w64];exact next _ ⟨h,by omega,by omega⟩
def Hpa (r:Rng) (id:Int) (hr:RBd r):Tot (λ k=>Dr k r id) (λ x=>x=Gf r id):=by
 have hrl:=hr.1;unfold Dr;refine Bsb (Q:=λ x=>x=Gf r id) ?_ (by rintro x rfl;exact Brb rfl);refine C0b (L:=λ k i s=>Em k id s i r) (Q:=λ x=>x=Gf r id) r.2.length (λ j s=>(r.2.drop j).foldl (V2 id) s=Gf r id∧0≤s∧s≤2000000*j) ?_ ?_ 0 0 (Vv _) ⟨rfl,by omega,by omega⟩
 ·rintro s ⟨h,_⟩;rw[Wm]at h;simp (disch:=omega) only [Em,dF];exact Brb h
 ·rintro j s hj ⟨h,h0,h1⟩ next;rw[Bo (d:=[]) hj,Ys]at h;have hp:=hr.2 _ (A3 (d:=[]) hj);have hc:=Aoa id (r.2.getD j []) s;simp (disch:=omega) only [Em,dT];refine Bsb (Q:=λ x=>x=(id,V2 id s (r.2.getD j []),(j:Int),r)) ?_ ?_
  ·refine C0b (L:=λ k i s=>E7 k id s (j:Int) i r) (Q:=λ x=>x=(id,V2 id s (r.2.getD j []),(j:Int),r)) (r.2.getD j []).length (λ m z=>V2 id z ((r.2.getD j []).drop m)=V2 id s (r.2.getD j [])∧0≤z∧z≤2000000*j+m) ?_ ?_ 0 s (Vv _) ⟨rfl,h0,by omega⟩
   ·rintro z ⟨h,_⟩;rw[Wm]at h;simp (disch:=omega) only [E7,dT,dF,Vj];exact Brb (by rw[← h];rfl)
   ·rintro m z hm ⟨h,z0,z1⟩ next;rw[Bo (d:=0) hm]at h;simp (disch:=omega) only [E7,dT,Vj,w64];have h':V2 id (cnt id z ((r.2.getD j []).getD m 0)) ((r.2.getD j []).drop (m+1))=V2 id s (r.2.getD j []):=h;unfold cnt at h';refine Bxb (λ hc=>next _ ?_) (λ hc=>next _ ?_)
    ·rw[hc]at h';exact⟨h',by omega,by omega⟩
    ·rw[hc]at h';exact⟨h',by omega,by omega⟩
  ·rintro x rfl;simp (disch:=omega) only [w64];exact next _ ⟨h,by omega,by omega⟩

def Agb {a w:Int} (h0:0≤a) (h1:a≤4000000000001) (w0:0≤w) (w1:w≤1000) : -9223372036854775808≤a*w∧a*w≤9223372036854775807:=by
 have e1:=Int.mul_nonneg h0 w0;have e2:a*w≤4000000000001*1000:=Int.mul_le_mul h1 w1 w0 (by decide);omega
def Pg (r:Rng) (p zs:List Int) (a:Option (Dev×Bool)) (d:Dev):Option (Dev×Bool):=
 bif Gp p d.1 then a else match a with
 |none=>some (d,!(Gp zs d.2.1))
 |some (b,fr)=>bif (!(Gp zs d.2.1)&&!fr)||(((!(Gp zs d.2.1))==fr)&&decide ((Gf r d.1+1)*b.2.2<(Gf r b.1+1)*d.2.2)) then some (d,!(Gp zs d.2.1)) else some (b,fr)
def Kh (r:Rng) (p:List Int) (l:List Dev):Option (Dev×Bool):=l.foldl (Pg r p (C2 p l)) none
def Sx (r:Rng) (p:List Int) (l:List Dev):Int:=match Kh r p l with
 |some b=>b.1.1
 |none => -1
def Hqa {r:Rng} {p zs:List Int} {l:List Dev} {a:Option (Dev×Bool)} {d:Dev} (ha:∀ b,a=some b→b.1∈l∧b.1.1∉p) (hd:d∈l):∀ b,Pg r p zs a d=some b→b.1∈l∧b.1.1∉p:=by
 intro b hb;unfold Pg at hb;cases hp:Gp p d.1
 case true=>rw[hp]at hb;exact ha b hb
 have hn:d.1∉p:=λ c=>by rw[H7.2 c]at hp;cases hp
 rw[hp,cond_false]at hb
 cases a with
 |none=>cases hb;exact⟨hd,hn⟩
 |some c=>
  obtain⟨c,fr⟩:=c;simp only at hb
  cases hq:(!(Gp zs d.2.1)&&!fr)||(((!(Gp zs d.2.1))==fr)&&decide ((Gf r d.1+1)*c.2.2<(Gf r c.1+1)*d.2.2)) with
  |true=>rw[hq]at hb;cases hb;exact⟨hd,hn⟩
  |false=>rw[hq]at hb;cases hb;exact ha _ rfl
def Hra {r:Rng} {p zs:List Int} {l:List Dev}:∀ (m:List Dev) (a:Option (Dev×Bool)),(∀ b,a=some b→b.1∈l∧b.1.1∉p)→(∀ d∈m,d∈l)→∀ b,m.foldl (Pg r p zs) a=some b→b.1∈l∧b.1.1∉p
 |[],_,ha,_=>ha
 |d::m,_,ha,hm=>Hra m _ (Hqa ha (hm d Wl)) (λ x hx=>hm x (Vd _ hx))
def Hsa {r:Rng} {p:List Int} {l:List Dev} {b:Dev×Bool} (h:Kh r p l=some b):b.1∈l∧b.1.1∉p:=Hra l none (λ b h=>by cases h) (λ _ h=>h) b h
def Jsa {r:Rng} {p zs:List Int} {a:Option (Dev×Bool)} {d:Dev} (h:a.isSome=true∨d.1∉p):(Pg r p zs a d).isSome=true:=by
 unfold Pg
 cases hp:Gp p d.1 with
 |true=>
  rcases h with h|h
  ·exact h
  ·exact absurd (H7.1 hp) h
 |false=>
  cases a with
  |none=>rfl
  |some c=>
   obtain⟨c,fr⟩:=c;simp only[cond_false]
   cases (!(Gp zs d.2.1)&&!fr)||(((!(Gp zs d.2.1))==fr)&&decide ((Gf r d.1+1)*c.2.2<(Gf r c.1+1)*d.2.2))<;>rfl
def Xh {r:Rng} {p zs:List Int}:∀ (m:List Dev) (a:Option (Dev×Bool)),(a.isSome=true∨∃ d∈m,d.1∉p)→(m.foldl (Pg r p zs) a).isSome=true
 |[],a,h=>by
  rcases h with h|⟨d,h,_⟩
  ·exact h
  ·cases h
 |d::m,a,h=>by
  refine Xh m _ ?_
  by_cases hd:a.isSome=true∨d.1∉p
  ·exact .inl (Jsa hd)
  ·rcases h with h|⟨x,hx,hn⟩
   ·exact absurd (.inl h) hd
   ·rcases Vl.1 hx with rfl|hx
    ·exact absurd (.inr hn) hd
    ·exact .inr ⟨x,hx,hn⟩
def S1a {r:Rng} {p:List Int} {l:List Dev} (h:∃ d∈l,d.1∉p):∃ d∈l,Sx r p l=d.1∧d.1∉p:=by
 obtain⟨b,hb⟩:=Zk.1 (Xh (r:=r) (zs:=C2 p l) l none (.inr h));obtain⟨h1,h2⟩:=Hsa hb;exact⟨b.1,h1,by unfold Sx;rw[show Kh r p l=some b from hb],h2⟩
def Jta (r:Rng) (p:List Int) (l:List Dev):(Kh r p l=none∧Sx r p l = -1)∨∃ b,Kh r p l=some b∧Sx r p l=b.1.1∧b.1∈l∧b.1.1∉p:=by
 cases h:Kh r p l with
 |none=>exact .inl ⟨rfl,by unfold Sx;rw[h]⟩
 |some b=>exact .inr ⟨b,rfl,by unfold Sx;rw[h],Hsa h⟩
def Ph (p:List Int) (l:List Dev):(C2 p l).length≤p.length:=by
 have:=D2a l p [];rwa [Vq,Wi]at this
def bs (r:Rng):Option (Dev×Bool)→Int×Bool×Dev
 |some (b,fr)=>(Gf r b.1+1,fr,b)
 |none=>(0,false,-1,0,0)
def S2a (r:Rng) (p:List Int) (l:List Dev) (hr:RBd r) (hp:p.length≤2000000) (hl:Hr l=true):Tot (λ k=>Gl k r p l) (λ x=>x=Sx r p l):=by
 obtain⟨_,hdv,_,h12⟩:=Dy.1 hl;have hz:=Ph p l;unfold Gl;refine C3b (Ama l (by omega)) ?_;refine Btb (by rw[hl];rfl) (C3b (D3a p l (by omega) (by omega)) ?_)
 refine Bsb (Q:=λ x=>x=match Kh r p l with|some b=>b.1|none=>(-1,0,0)) ?_ (by rintro x rfl;unfold Sx;cases Kh r p l<;>exact Brb rfl)
 refine C0b (L:=λ k i (s:Int×Bool×Dev)=>Be k (C2 p l) s.1 s.2.1 l (l.length:Int) i r p s.2.2) (Q:=λ x=>x=match Kh r p l with|some b=>b.1|none=>(-1,0,0)) l.length
  (λ j s=>∃ a,s=bs r a∧(∀ b,a=some b→b.1∈l∧b.1.1∉p)∧(l.drop j).foldl (Pg r p (C2 p l)) a=Kh r p l) ?_ ?_ 0 (0,false,-1,0,0) (Vv _) ⟨none,rfl,λ b h=>(by cases h),rfl⟩
 ·rintro s ⟨a,rfl,_,h⟩;rw[Wm]at h;simp (disch:=omega) only [Be,dF];refine Brb ?_;rw[← h]
  cases a<;>rfl
 ·rintro j s hj ⟨a,rfl,ha,h⟩ next;rw[Bo (d:=Je) hj,Ys]at h;have hd:=A3 (d:=Je) hj;obtain⟨d,ed⟩:∃ d:Dev,l.getD j Je=d:=⟨_,rfl⟩;rw[ed]at h hd;have e0:l.getD j ((0:Int),((0:Int),(0:Int)))=d:=ed;have ha':=Hqa (r:=r) (p:=p) (zs:=C2 p l) ha hd;obtain⟨_,_,w0,w1⟩:=Ie.1 (hdv _ hd);have l1:=Qi hr d.1;simp (disch:=omega) only [Be,dT,Vj,w64,e0];unfold Pg at h ha';refine C3b (Pf p d.1 (by omega)) ?_
  cases hp':Gp p d.1 with
  |true=>
   rw[hp']at h;exact Bub rfl (next _ ⟨a,rfl,ha,h⟩)
  |false=>
   rw[hp',cond_false]at h ha';refine Btb rfl (C3b (S0a r d.1 hr) ?_);refine C3b (Pf (C2 p l) d.2.1 (by omega)) ?_;simp (disch:=omega) only [w64];have take:(∀ b,some (d,!(Gp (C2 p l) d.2.1))=some b→b.1∈l∧b.1.1∉p)→(l.drop (j+1)).foldl (Pg r p (C2 p l)) (some (d,!(Gp (C2 p l) d.2.1)))=Kh r p l→Tot (λ k=>Be k (C2 p l) (Gf r d.1+1) (!(Gp (C2 p l) d.2.1)) l (l.length:Int) ((j:Int)+1) r p d) (λ x=>x=match Kh r p l with|some b=>b.1|none=>(-1,0,0)):=λ h1 h2=>next (Gf r d.1+1,!(Gp (C2 p l) d.2.1),d) ⟨_,rfl,h1,h2⟩
   cases a with
   |none=>exact Bvb (show (-1:Int)<0 by decide) (take ha' h)
   |some bf=>
    obtain⟨b,fr⟩:=bf;have hb:b∈l:=(ha _ rfl).1;obtain⟨⟨i0,_⟩,_,v0,v1⟩:=Ie.1 (hdv _ hb);have l2:=Qi hr b.1;have m1:=Agb (a:=Gf r d.1+1) (w:=b.2.2) (by omega) (by omega) (by omega) v1;have m2:=Agb (a:=Gf r b.1+1) (w:=d.2.2) (by omega) (by omega) (by omega) w1;have stay:(l.drop (j+1)).foldl (Pg r p (C2 p l)) (some (b,fr))=Kh r p l→Tot (λ k=>Be k (C2 p l) (Gf r b.1+1) fr l (l.length:Int) ((j:Int)+1) r p b) (λ x=>x=match Kh r p l with|some b=>b.1|none=>(-1,0,0)):=λ h2=>next (Gf r b.1+1,fr,b) ⟨some (b,fr),rfl,ha,h2⟩;refine Bwb (by show ¬ b.1<0;omega) ?_;dsimp only at h ha';have eb:bs r (some (b,fr))=(Gf r b.1+1,fr,b):=rfl;simp only[eb,w64 m1.1 m1.2,w64 m2.1 m2.2]
    have cmp:∀ {z:Bool},Gp (C2 p l) d.2.1=z→((!z)==fr)=true→(!z&&!fr)=false→Tot (λ k=>cond (decide ((Gf r d.1+1)*b.2.2<(Gf r b.1+1)*d.2.2)) (Be k (C2 p l) (Gf r d.1+1) (!(Gp (C2 p l) d.2.1)) l (l.length:Int) ((j:Int)+1) r p d) (Be k (C2 p l) (Gf r b.1+1) fr l (l.length:Int) ((j:Int)+1) r p b)) (λ x=>x=match Kh r p l with|some b=>b.1|none=>(-1,0,0)):=by
     intro z hz e1 e2;rw[hz]at h ha' take ⊢;rw[e1,e2,Dnb,Wg]at h ha';refine Bxb (λ hc=>?_) (λ hc=>?_)
     ·rw[hc]at h ha';exact take ha' h
     ·rw[hc]at h;exact stay h
    cases hz:Gp (C2 p l) d.2.1 with
    |false=>
     have cm:=cmp hz;rw[hz]at h ha' take cm
     cases fr with
     |false=>exact Bub rfl (Bub rfl (take ha' h))
     |true=>exact Bub rfl (Btb rfl (Bub rfl (cm rfl rfl)))
    |true=>
     have cm:=cmp hz;rw[hz]at h ha' take cm
     cases fr with
     |false=>exact Btb rfl (Bub rfl (cm rfl rfl))
     |true=>exact Btb rfl (Btb rfl (stay h))
def S3a (r:Rng) (p:List Int) (l:List Dev) (hr:RBd r) (hp:p.length≤2000000) (hl:Hr l=true):Tot (λ k=>Gn k r p l) (λ x=>x=Sx r p l):=by
 obtain⟨_,hdv,_,h12⟩:=Dy.1 hl;have hz:=Ph p l;unfold Gn;refine C3b (Nua p l (by omega) (by omega)) ?_;refine Bsb (Q:=λ x=>∃ i:Int,x=(l,i)∧match Kh r p l with|some b=>∃ n:Nat,i=(n:Int)∧n<l.length∧l.getD n Je=b.1|none=>i = -1) ?_ ?_
 ·refine C0b (L:=λ k i (s:Int×Bool)=>Bf k l (C2 p l) s.1 s.2 i r p) (Q:=λ x=>∃ i:Int,x=(l,i)∧match Kh r p l with|some b=>∃ n:Nat,i=(n:Int)∧n<l.length∧l.getD n Je=b.1|none=>i = -1) l.length
   (λ j s=>∃ a,(match a with|some (b,fr)=>s.2=fr∧∃ n:Nat,s.1=(n:Int)∧n<l.length∧l.getD n Je=b|none=>s=(-1,false))∧(l.drop j).foldl (Pg r p (C2 p l)) a=Kh r p l) ?_ ?_ 0 (-1,false) (Vv _) ⟨none,rfl,rfl⟩
  ·rintro⟨s1,s2⟩ ⟨a,hs,h⟩;rw[Wm]at h;simp (disch:=omega) only [Bf,dF];refine Brb ⟨s1,rfl,?_⟩;rw[← h]
   cases a with
   |none=>exact(Prod.mk.inj hs).1
   |some bf=>exact hs.2
  ·rintro j ⟨s1,s2⟩ hj ⟨a,hs,h⟩ next;rw[Bo (d:=Je) hj,Ys]at h;have hd:=A3 (d:=Je) hj;obtain⟨d,ed⟩:∃ d:Dev,l.getD j Je=d:=⟨_,rfl⟩;rw[ed]at h hd;have e0:l.getD j ((0:Int),((0:Int),(0:Int)))=d:=ed;obtain⟨_,_,w0,w1⟩:=Ie.1 (hdv _ hd);have l1:=Qi hr d.1;simp (disch:=omega) only [Bf,dT,Vj,w64,e0];refine C3b (Hoa l (by omega)) ?_;refine Bub hl (C3b (Fja p d.1 (by omega)) ?_);unfold Pg at h
   cases hp':Gp p d.1 with
   |true=>
    rw[hp']at h;exact Bub rfl (next _ ⟨a,hs,h⟩)
   |false=>
    rw[hp',cond_false]at h;refine Btb rfl (C3b (Fja (C2 p l) d.2.1 (by omega)) ?_);have take:∀ {z:Bool},(l.drop (j+1)).foldl (Pg r p (C2 p l)) (some (d,z))=Kh r p l→Tot (λ k=>Bf k l (C2 p l) (j:Int) z ((j:Int)+1) r p) (λ x=>∃ i:Int,x=(l,i)∧match Kh r p l with|some b=>∃ n:Nat,i=(n:Int)∧n<l.length∧l.getD n Je=b.1|none=>i = -1):=λ {z} h2=>next ((j:Int),z) ⟨some (d,z),⟨rfl,j,rfl,hj,ed⟩,h2⟩
    cases a with
    |none=>
     obtain⟨rfl,rfl⟩:=Prod.mk.inj hs;exact Bvb (by decide) (take h)
    |some bf=>
     obtain⟨b,fr⟩:=bf;obtain⟨e1,n,e2,hn,e3⟩:=hs;dsimp only at e1 e2;subst e1 e2;have hb:=A3 (d:=Je) hn;rw[e3]at hb;obtain⟨⟨i0,_⟩,_,v0,v1⟩:=Ie.1 (hdv _ hb);have l2:=Qi hr b.1;have m1:=Agb (a:=Gf r d.1+1) (w:=b.2.2) (by omega) (by omega) (by omega) v1;have m2:=Agb (a:=Gf r b.1+1) (w:=d.2.2) (by omega) (by omega) (by omega) w1;have stay:(l.drop (j+1)).foldl (Pg r p (C2 p l)) (some (b,s2))=Kh r p l→Tot (λ k=>Bf k l (C2 p l) (n:Int) s2 ((j:Int)+1) r p) (λ x=>∃ i:Int,x=(l,i)∧match Kh r p l with|some b=>∃ n:Nat,i=(n:Int)∧n<l.length∧l.getD n Je=b.1|none=>i = -1):=λ h2=>next ((n:Int),s2) ⟨some (b,s2),⟨rfl,n,rfl,hn,e3⟩,h2⟩;refine Bwb (by omega) ?_;have e4:l.getD n ((0:Int),((0:Int),(0:Int)))=b:=e3;dsimp only at h
     have cmp:∀ {z:Bool},Gp (C2 p l) d.2.1=z→((!z)==s2)=true→(!z&&!s2)=false→Tot (λ k=>(Dr k r d.1).bind λ r5=>cond (decide ((0:Int)≤(n:Int))) (cond (decide ((n:Int)<(length l:Int))) (cond (decide ((0:Int)≤(n:Int))) (cond (decide ((n:Int)<(length l:Int))) ((Dr k r (getD l (toNat (n:Int)) ((0:Int),((0:Int),(0:Int)))).1).bind λ r8=>cond (decide ((wrap .i64 ((wrap .i64 (r5+1))*(getD l (toNat (n:Int)) ((0:Int),((0:Int),(0:Int)))).2.2))<(wrap .i64 ((wrap .i64 (r8+1))*d.2.2)))) (Bf k l (C2 p l) (j:Int) s2 ((j:Int)+1) r p) (Bf k l (C2 p l) (n:Int) s2 ((j:Int)+1) r p)) none) none) none) none) (λ x=>∃ i:Int,x=(l,i)∧match Kh r p l with|some b=>∃ n:Nat,i=(n:Int)∧n<l.length∧l.getD n Je=b.1|none=>i = -1):=by
      intro z hz e1 e2;rw[hz,e1,e2,Dnb,Wg]at h;refine C3b (Hpa r d.1 hr) ?_;refine Bvb (by omega) (Bvb (by omega) (Bvb (by omega) (Bvb (by omega) ?_)));rw[Vj,e4];refine C3b (Hpa r b.1 hr) ?_;rw[w64 (n:=Gf r d.1+1) (by omega) (by omega),w64 (n:=Gf r b.1+1) (by omega) (by omega),w64 m1.1 m1.2,w64 m2.1 m2.2];refine Bxb (λ hc=>?_) (λ hc=>?_)
      ·rw[hc,cond_true]at h;rw[show s2 = !z by rw[← eq_of_beq e1]];exact take h
      ·rw[hc]at h;exact stay h
     cases hz:Gp (C2 p l) d.2.1 with
     |false=>
      have cm:=cmp hz;rw[hz]at h
      cases s2 with
      |false=>exact Bub rfl (Bub rfl (take h))
      |true=>exact Bub rfl (Btb rfl (Bub rfl (cm rfl rfl)))
     |true=>
      have cm:=cmp hz;rw[hz]at h
      cases s2 with
      |false=>exact Btb rfl (Bub rfl (cm rfl rfl))
      |true=>exact Btb rfl (Btb rfl (stay h))
 ·rintro x ⟨i,rfl,hi⟩;unfold Sx
  cases hb:Kh r p l with
  |none=>
   rw[hb]at hi;subst hi;exact Bvb (show (-1:Int)<0 by decide) (Brb rfl)
  |some b=>
   rw[hb]at hi;obtain⟨n,rfl,hn,e⟩:=hi;dsimp only;refine Bwb (by omega) (Bvb (by omega) (Bvb (by omega) (Brb ?_)));rw[Int.toNat_natCast,show l.getD n ((0:Int),((0:Int),(0:Int)))=b.1 from e]

def Nya {l:List Dev} (h:Hr l=true) {d:Dev} (hd:d∈l):Hz l d.1=some d:=by
 have hp:=(Dy.1 h).1;clear h
 induction l with
 |nil=>cases hd
 |cons x l ih=>
  obtain⟨h1,h2⟩:=Wa.1 hp;unfold Hz;rw[Cub];rcases Vl.1 hd with rfl|hd
  ·rw[beq_self_eq_true]
  ·have:=h1 d hd;rw[show (x.1==d.1)=false from beq_eq_false_iff_ne.2 (by omega)];exact ih hd h2
def Uaa:∀ (p:List Int) (l:List Dev),l.Pairwise (λ a b=>a.1<b.1)→p.length<l.length→∃ d∈l,d.1∉p
 |p,[],_,h=>by simp at h
 |p,d::l,hl,h=>by
  obtain⟨h1,h2⟩:=Wa.1 hl
  by_cases hd:d.1∈p
  ·have hlen:(p.erase d.1).length=p.length-1:=Eob hd;have hpos:=Cgb hd;rw[Vh]at h;obtain⟨x,hx,hn⟩:=Uaa (p.erase d.1) l h2 (by omega);refine⟨x,Vd _ hx,λ c=>hn ?_⟩;have:=h1 x hx;exact(List.mem_erase_of_ne (by omega)).2 c
  ·exact⟨d,Wl,hd⟩
def Jua (l:List Dev) (n:Nat) (p:List Int):Prop:=p.Nodup∧p.length=n∧∀ id∈p,∃ d,Hz l id=some d
def Nza {r:Rng} {l:List Dev} {n:Nat} {p:List Int} (hl:Hr l=true) (h:Jua l n p) (hn:n<l.length):Jua l (n+1) (p++[Sx r p l]):=by
 obtain⟨h1,h2,h3⟩:=h;obtain⟨d,hd,e,hne⟩:=S1a (r:=r) (Uaa p l (Dy.1 hl).1 (by omega));rw[e];refine⟨?_,by rw[Vi];simp[h2],λ id hid=>?_⟩
 ·rw[Ya];exact⟨h1,by simp,λ a ha b hb c=>by rw[Vn.1 hb]at c;subst c;exact hne ha⟩
 ·rcases Vm.1 hid with hid|hid
  ·exact h3 id hid
  ·rw[Vn.1 hid];exact⟨d,Nya hl hd⟩
def V8 (l:List Dev) (reps:Int) (ps:List (List Int)):Nat→List Int→List Int
 |0,p=>p
 |n+1,p=>V8 l reps ps n (p++[Sx (reps,ps++[p]) p l])
def Dua (l:List Dev) (reps:Int):Nat→List (List Int)→List (List Int)
 |0,ps=>ps
 |n+1,ps=>Dua l reps n (ps++[V8 l reps ps reps.toNat []])
def build (l:List Dev) (parts reps:Int):Rng×Bool:=bif Hr l&&(inR parts 1 64&&(inR reps 1 5&&!(decide (reps > (l.length:Int))))) then ((reps,Dua l reps parts.toNat []),true) else ((0,[]),false)
def Hta {l:List Dev} {reps:Int} {ps:List (List Int)} (hl:Hr l=true):∀ (n m:Nat) (p:List Int),Jua l m p→m+n≤l.length→Jua l (m+n) (V8 l reps ps n p)
 |0,_,_,h,_=>h
 |n+1,m,p,h,hm=>by
  have:=Hta (reps:=reps) (ps:=ps) hl n (m+1) _ (Nza (r:=(reps,ps++[p])) hl h (by omega)) (by omega);rwa [show m+1+n=m+(n+1) by omega]at this
def O0a {l:List Dev} {reps:Int} (hl:Hr l=true) (hr:reps≤(l.length:Int)):∀ (n:Nat) (ps:List (List Int)),(∀ p∈ps,Jua l reps.toNat p)→(Dua l reps n ps).length=ps.length+n∧∀ p∈Dua l reps n ps,Jua l reps.toNat p
 |0,ps,h=>⟨rfl,h⟩
 |n+1,ps,h=>by
  have hf:=Hta (reps:=reps) (ps:=ps) hl reps.toNat 0 [] ⟨F3b,rfl,λ _ h=>by cases h⟩ (by omega);rw[Wi]at hf
  obtain⟨h1,h2⟩:=O0a hl hr n (ps++[V8 l reps ps reps.toNat []]) (λ p hp=>by
   rcases Vm.1 hp with hp|hp
   ·exact h p hp
   ·rw[Vn.1 hp];exact hf)
  refine⟨?_,h2⟩;show (Dua l reps n _).length=_;rw[h1,Vi];simp only[Vh,Vq];omega
def Om {l:List Dev} {parts reps:Int} (h:(build l parts reps).2=true):Hr l=true∧Hb (build l parts reps).1 l=true∧(build l parts reps).1.1=reps∧((build l parts reps).1.2.length:Int)=parts:=by
 unfold build at h ⊢;cases hc:Hr l&&(inR parts 1 64&&(inR reps 1 5&&!(decide (reps > (l.length:Int)))))
 ·rw[hc]at h;cases h
 rw[Va,Va,Va,Vz,decide_eq_false_iff_not,Fx,Fx]at hc;obtain⟨h1,h2,h3,h4⟩:=hc;obtain⟨b1,b2⟩:=O0a (reps:=reps) h1 (by omega) parts.toNat [] (λ p hp=>by cases hp);rw[Vq,Wi]at b1
 have b1':((Dua l reps parts.toNat []).length:Int)=parts:=by rw[b1];omega
 refine⟨h1,Cb.2 ⟨h1,h3,⟨by show 1≤(Dua l reps parts.toNat []).length;omega,by show (Dua l reps parts.toNat []).length≤64;omega⟩,λ p hp=>?_⟩,rfl,b1'⟩;obtain⟨c1,c2,c3⟩:=b2 p hp;exact⟨c1,by rw[c2];show ((reps.toNat:Nat):Int)=reps;omega,c3⟩
def Uj {l:List Dev} {reps:Int} {ps:List (List Int)}:∀ (n:Nat) (p:List Int),(V8 l reps ps n p).length=p.length+n
 |0,_=>rfl
 |n+1,p=>by
  show (V8 l reps ps n _).length=_;rw[Uj n,Vi];simp only[Vh,Vq];omega
def D5a {α:Type} (l:List α) (x d:α):(l++[x]).getD l.length d=x:=by
 rw[Vb,Yg (Vw _),D1b];rfl
def Hua {α:Type} (l:List α) (x y:α):(l++[x]).set l.length y=l++[y]:=by
 rw[Ezb _ _ (Vw _),D1b];rfl
def D6a (l:List Dev) (parts reps:Int) (z:Rng) (hl:Hr l=true) (h0:0≤reps) (h5:reps≤5) (ps:List (List Int)) (hps:ps.length≤100) (hq:∀ q∈ps,q.length≤100):∀ (n:Nat) (p:List Int),p.length+n=reps.toNat→
  Tot (λ k=>Fj k l parts reps (ps.length:Int) (p.length:Int) z (reps,ps++[p])) (λ x=>x=(l,parts,reps,(ps.length:Int),z,(reps,ps++[V8 l reps ps n p]))):=by
 intro n
 induction n with
 |zero=>
  intro p hp;refine Tot.succ ?_;simp (disch:=omega) only [Fj,dF];exact Brb rfl
 |succ n ih=>
  intro p hp;refine Tot.succ ?_
  have hrb:RBd (reps,ps++[p]):=⟨by simp only[Vi,Vh,Vq];omega,λ q hq'=>by
   rcases Vm.1 hq' with h|h
   ·have:=hq q h;omega
   ·rw[Vn.1 h];omega⟩
  have hlen:(ps++[p]).length=ps.length+1:=by simp
  simp (disch:=omega) only [Fj,dT,Vj,w64,hlen,D5a,Hua];refine C3b (S3a (reps,ps++[p]) p l hrb (by omega) hl) ?_;refine Bub (decide_eq_true trivial) (Bzb (by simp only[Vh,Vq];omega) (Bub (decide_eq_true trivial) ?_));have:=ih (p++[Sx (reps,ps++[p]) p l]) (by simp only[Vi,Vh,Vq];omega);rw[show (((p++[Sx (reps,ps++[p]) p l]).length:Nat):Int)=(p.length:Int)+1 by simp]at this;exact this
def D7a (l:List Dev) (parts reps:Int) (hll:l.length≤5000000):Tot (λ k=>Ef k l parts reps) (λ x=>x=build l parts reps):=by
 unfold Ef build;refine C3b (Hoa l (by omega)) ?_;cases hl:Hr l
 ·exact Bub rfl (Brb rfl)
 simp only[Yt,cond_false,Hca,Vu,Wg];cases hp:inR parts 1 64
 ·exact Bub rfl (Brb rfl)
 refine Btb rfl ?_;cases hr:inR reps 1 5
 ·exact Bub rfl (Brb rfl)
 obtain⟨r1,r2⟩:=Fx.1 hr;obtain⟨p1,p2⟩:=Fx.1 hp;refine Btb rfl ?_;cases hc:decide (reps > (l.length:Int))
 case true=>exact Bub rfl (Brb rfl)
 refine Btb rfl (Bsb (Q:=λ x=>x=(((0:Int),([]:List (List Int))),(reps,Dua l reps parts.toNat []))) ?_ (by rintro x rfl;exact Brb rfl));obtain⟨n,rfl⟩:∃ n:Nat,parts=(n:Int):=⟨parts.toNat,by omega⟩;refine C0b (L:=λ k i (s:Rng)=>Fk k l (n:Int) reps i (0,[]) s) (Q:=λ x=>x=(((0:Int),([]:List (List Int))),(reps,Dua l reps n []))) n (λ j s=>∃ ps,s=(reps,ps)∧ps.length=j∧(∀ q∈ps,q.length≤100)∧Dua l reps (n-j) ps=Dua l reps n []) ?_ ?_ 0 (reps,[]) (Vv _) ⟨[],rfl,rfl,λ q h=>(by cases h),rfl⟩
 ·rintro s ⟨ps,rfl,hps,_,h⟩;rw[D1b]at h;simp (disch:=omega) only [Fk,dF];exact Brb (by rw[← h];rfl)
 ·rintro j s hj ⟨ps,rfl,hps,hq,h⟩ next;simp (disch:=omega) only [Fk,dT];refine Bzb (by simp only[Vh,Vq];omega) ?_;have h9:=D6a l (n:Int) reps (0,[]) hl (by omega) r2 ps (by omega) hq reps.toNat [] (by simp);rw[hps]at h9;refine Bsb h9 ?_;rintro x rfl;simp (disch:=omega) only [w64];refine next _ ⟨ps++[V8 l reps ps reps.toNat []],rfl,by rw[Vi,hps];rfl,λ q hq'=>?_,?_⟩
  ·rcases Vm.1 hq' with h'|h'
   ·exact hq q h'
   ·rw[Vn.1 h',Uj,Vq];omega
  ·rw[show n-j=(n-(j+1))+1 by omega]at h;exact h

def hv (r:Rng) (l:List Dev) (b id:Int):Bool:=match Hz l b with
 |none=>false
 |some x=>match Hz l id with
  |none=>false
  |some d=>(d.2.1==x.2.1)&&decide (Gf r id-Gf r b≥2)
def B2b (r:Rng) (l:List Dev) (p:List Int) (b:Int):Option Nat:=p.findIdx? (hv r l b)
def rb1 (l:List Dev) (s:Int×Rng) (j:Nat):Int×Rng:=match B2b s.2 l (s.2.2.getD j []) (Sx s.2 (s.2.2.getD j []) l) with
 |none=>s
 |some i=>(s.1+1,(s.2.1,s.2.2.set j ((s.2.2.getD j []).set i (Sx s.2 (s.2.2.getD j []) l))))
def rbs (l:List Dev) (r:Rng) (n:Nat):Int×Rng:=(List.range n).foldl (rb1 l) (0,r)
def Jva (r:Rng) (l:List Dev):Rng×Int:=((rbs l r r.2.length).2,(rbs l r r.2.length).1)
def S4a (l:List Dev) (r:Rng) (n:Nat):rbs l r (n+1)=rb1 l (rbs l r n) n:=by
 unfold rbs;rw[Eab,Cyb];rfl
def D8a {r:Rng} {l:List Dev} {p:List Int} {i:Nat} (hl:Hr l=true) (h:B2b r l p (Sx r p l)=some i):i<p.length∧Sx r p l∉p∧0≤Sx r p l∧∃ d,Hz l (Sx r p l)=some d:=by
 obtain⟨h1,h2,_⟩:=Dmb.1 h;refine⟨h1,?_⟩;unfold hv at h2
 cases hb:Hz l (Sx r p l) with
 |none=>rw[hb]at h2;cases h2
 |some d=>
  obtain⟨hd,he⟩:=Jra hb;obtain⟨⟨i0,_⟩,_⟩:=Ie.1 ((Dy.1 hl).2.1 _ hd);refine⟨?_,by omega,d,rfl⟩;rcases Jta r p l with⟨_,e⟩|⟨b,_,e,_,hn⟩
  ·omega
  ·rw[e];exact hn
def O1a {p:List Int} {b:Int} (h:p.Nodup) (hb:b∉p) (i:Nat):(p.set i b).Nodup:=by
 induction p generalizing i with
 |nil=>exact h
 |cons x p ih=>
  obtain⟨h1,h2⟩:=Yr.1 h
  cases i with
  |zero=>exact Yr.2 ⟨λ c=>hb (Vd _ c),h2⟩
  |succ i=>
   refine Yr.2 ⟨λ c=>?_,ih h2 (λ c=>hb (Vd _ c)) i⟩;rcases Ze c with c|c
   ·exact h1 c
   ·exact hb (c ▸ Wl)
def Zga {l:List Dev} {s:Int×Rng} {j:Nat} (hj:j<s.2.2.length) (h:Hb s.2 l=true):Hb (rb1 l s j).2 l=true∧(rb1 l s j).2.1=s.2.1∧(rb1 l s j).2.2.length=s.2.2.length∧s.1≤(rb1 l s j).1∧(rb1 l s j).1≤s.1+1:=by
 unfold rb1;obtain⟨h1,h2,h3,h4⟩:=Cb.1 h
 cases hx:B2b s.2 l (s.2.2.getD j []) (Sx s.2 (s.2.2.getD j []) l) with
 |none=>exact⟨h,rfl,rfl,by dsimp only;omega,by dsimp only;omega⟩
 |some i=>
  obtain⟨b1,b2,_,b3⟩:=D8a h1 hx;obtain⟨q1,q2,q3⟩:=h4 _ (A3 (d:=[]) hj);refine⟨Cb.2 ⟨h1,h2,by dsimp only;rw[List.length_set];exact h3,λ p hp=>?_⟩,rfl,by dsimp only;rw[List.length_set],by dsimp only;omega,by dsimp only;omega⟩;rcases List.mem_or_eq_of_mem_set hp with hp|hp
  ·exact h4 p hp
  ·subst hp;refine⟨O1a q1 b2 i,by rw[Vt];exact q2,λ id hid=>?_⟩;rcases Ze hid with hid|hid
   ·exact q3 id hid
   ·rw[hid];exact b3
def Uba {l:List Dev} {r:Rng} (h:Hb r l=true):∀ (n:Nat),n≤r.2.length→Hb (rbs l r n).2 l=true∧(rbs l r n).2.1=r.1∧(rbs l r n).2.2.length=r.2.length∧0≤(rbs l r n).1∧(rbs l r n).1≤n
 |0,_=>⟨h,rfl,rfl,Cqb _,Cqb _⟩
 |n+1,hn=>by
  obtain⟨h1,h2,h3,h4,h5⟩:=Uba h n (by omega);obtain⟨g1,g2,g3,g4,g5⟩:=Zga (j:=n) (by omega) h1;rw[S4a];exact⟨g1,by rw[g2,h2],by rw[g3,h3],by omega,by omega⟩
def Hva {r:Rng} {l:List Dev} (h:Hb r l=true):Hb (Jva r l).1 l=true∧(Jva r l).1.1=r.1∧(Jva r l).1.2.length=r.2.length∧0≤(Jva r l).2:=by
 obtain⟨h1,h2,h3,h4,_⟩:=Uba h r.2.length (Vw _);exact⟨h1,h2,h3,h4⟩
def wgt (l:List Dev) (i:Nat) (w:Int):List Dev:=l.set i ((l.getD i Je).1,(l.getD i Je).2.1,w)
def Apa (l:List Dev) (i:Nat) (w:Int):(wgt l i w).map (·.1)=l.map (·.1):=by
 unfold wgt;rw[List.map_set]
 by_cases hi:i<l.length
 ·have:(l.getD i Je).1=(l.map (·.1)).getD i 0:=by
   simp only[Vb,C8b,Ve hi,E6b,Wo]
  rw[this,Vb,Ve (by simpa using hi),Wo];exact List.set_getElem_self _
 ·rw[List.set_eq_of_length_le (by simpa using hi)]
def Lc {l:List Dev} {id:Int}:(∃ d,Hz l id=some d)↔id∈l.map (·.1):=by
 unfold Hz;rw[← Zk,List.find?_isSome,Yw];exact⟨λ ⟨x,h,e⟩=>⟨x,h,eq_of_beq e⟩,λ ⟨x,h,e⟩=>⟨x,h,beq_iff_eq.2 e⟩⟩
def Zha {l:List Dev} {i:Nat} {w:Int} (h:Hr l=true) (hi:i<l.length) (h1:1≤w) (h2:w≤1000):Hr (wgt l i w)=true:=by
 obtain⟨g1,g2,g3,g4⟩:=Dy.1 h;refine Dy.2 ⟨?_,λ d hd=>?_,?_⟩
 ·have e:(l.map (·.1)).Pairwise (· < ·):=Zo.2 g1;rw[← Apa l i w]at e;exact Zo.1 e
 ·rcases Ze hd with hd|hd
  ·exact g2 d hd
  ·obtain⟨e1,e2,_⟩:=Ie.1 (g2 _ (A3 (d:=Je) hi));subst hd;exact Ie.2 ⟨e1,e2,h1,h2⟩
 ·unfold wgt;rw[Vt];exact⟨g3,g4⟩
def Hwa {r:Rng} {l:List Dev} {i:Nat} {w:Int} (h:Hb r l=true) (hi:i<l.length) (h1:1≤w) (h2:w≤1000):Hb r (wgt l i w)=true:=by
 obtain⟨g1,g2,g3,g4⟩:=Cb.1 h;refine Cb.2 ⟨Zha g1 hi h1 h2,g2,g3,λ p hp=>?_⟩;obtain⟨q1,q2,q3⟩:=g4 p hp;exact⟨q1,q2,λ id hid=>by rw[Lc,Apa,← Lc];exact q3 id hid⟩

def O2a (x:BitVec 32):(cst x).getLsbD 31=x.getLsbD 0:=by
 have h0:(x >>> 1).getLsbD 31=false:=by
  rw[Edb];exact BitVec.getLsbD_of_ge _ _ (by decide)
 unfold cst
 cases h:x.getLsbD 0 with
 |true=>
  rw[if_pos rfl,BitVec.getLsbD_xor,h0]
  decide
 |false=>
  rw[if_neg (by simp),h0]
def Ri {n:Nat} {x y c:BitVec n} (h:x ^^^ c=y ^^^ c):x=y:=by
 have:=congrArg (λ z=>z ^^^ c) h
 simpa[BitVec.xor_assoc] using this
def Wka {x y:BitVec 32} (h:cst x=cst y):x=y:=by
 have h0:x.getLsbD 0=y.getLsbD 0:=by rw[← O2a,← O2a,h]
 have h1:x >>> 1=y >>> 1:=by
  unfold cst at h;rw[h0]at h
  cases hb:y.getLsbD 0 with
  |true=>rw[hb,if_pos rfl,if_pos rfl]at h;exact Ri h
  |false=>rw[hb,if_neg (by simp),if_neg (by simp)]at h;exact h
 refine BitVec.eq_of_getLsbD_eq λ i hi=>?_
 cases i with
 |zero=>exact h0
 |succ i=>
  have:=congrArg (λ z=>z.getLsbD i) h1
  simpa[Edb,C6b] using this
def Uk:∀ (n:Nat) {x y:BitVec 32},F9a n x=F9a n y→x=y
 |0,_,_,h=>h
 |n+1,_,_,h=>Wka (Uk n h)
def Wla {x y:BitVec 32} {b:Int} (h:cby x b=cby y b):x=y:=Ri (Uk 8 h)
def S5a {x:BitVec 32} {a b:Int} (ha:0≤a∧a≤255) (hb:0≤b∧b≤255) (h:cby x a=cby x b):a=b:=by
 have h1:x ^^^ ofInt 32 a=x ^^^ ofInt 32 b:=Uk 8 h;rw[Exb,Exb x]at h1;have h2:=Ri h1;rw[U1a ha,U1a hb,h2]
def Hxa:∀ (l:List Int) {x y:BitVec 32},l.foldl cby x=l.foldl cby y→x=y
 |[],_,_,h=>h
 |_::l,_,_,h=>Wla (Hxa l h)
def Uca (l:List Int):0≤crc l∧crc l≤4294967295:=by
 unfold crc;have:=(Xsa l).isLt;omega
def Wma {l:List Int} {i:Nat} {y:Int} (hi:i<l.length) (hy:0≤y∧y≤255) (hb:Aq l) (hne:y≠l.getD i 0):crc (l.set i y)≠crc l:=by
 intro h;have h1:Xsa (l.set i y)=Xsa l:=Eyb (by unfold crc at h;omega);unfold Xsa at h1;have h2:=BitVec.not_inj.1 h1
 have e1:l.set i y=l.take i++y::l.drop (i+1):=by rw[Cmb,if_pos hi]
 have e2:l=l.take i++l.getD i 0::l.drop (i+1):=by
  conv => { lhs;rw[← Wh i l] }
  rw[Bo (d:=0) hi]
 rw[e1,Cyb,Ys]at h2;rw[e2]at h2;rw[Cyb,Ys]at h2
 have e3:(l.take i++l.getD i 0::l.drop (i+1)).take i=l.take i:=by rw[← e2]
 have e4:(l.take i++l.getD i 0::l.drop (i+1)).drop (i+1)=l.drop (i+1):=by rw[← e2]
 rw[e3,e4]at h2;exact hne (S5a hy (hb _ (A3 hi)) (Hxa _ h2))
def Zia {a b:Int} (ha:0≤a∧a≤4294967295) (hb:0≤b∧b≤4294967295) (h:c4 a=c4 b):a=b:=by
 have e:∀ c:Int,0≤c→c4 c=[c/16777216 % 256,c/65536 % 256,c/256 % 256,c % 256]:=λ c hc=>by
  unfold c4
  rw[show (2:Int) ^ (min (toNat 24) (IntKind.bits .i64))=16777216 from by decide,show (2:Int) ^ (min (toNat 16) (IntKind.bits .i64))=65536 from by decide,show (2:Int) ^ (min (toNat 8) (IntKind.bits .i64))=256 from by decide,
   Cib _ (by omega),Cib _ (by omega),Cib _ (by omega),Dlb,Dlb,Dlb,Dlb]
 rw[e a ha.1,e b hb.1]at h;simp only[Yj,and_true]at h;omega
def Jwa {l m:List Int} {j:Nat} (h:j<l.length):(l++m).getD j 0=l.getD j 0:=by rw[Vb,Vb,Yl h]
def Jxa {l m:List Int} {j:Nat} (h:l.length≤j):(l++m).getD j 0=m.getD (j-l.length) 0:=by rw[Vb,Vb,Yg h]
def S6a {f:Fil} (hf:D8 f=true) {n:Nat} (hn:n<8*(H0 f).length):K6 (Ku (H0 f) n)=none:=by
 cases hg:K6 (Ku (H0 f) n) with
 |none=>rfl
 |some g=>
  exfalso;obtain⟨g1,_,g3⟩:=Aga hg;have hpb:=Rh f
  have hj:n/8<(H0 f).length:=by omega
  have hy:=Hma ((H0 f).getD (n/8) 0) (n % 8);have hne:=Rua (hpb _ (A3 (d:=0) hj)) (Nat.mod_lt n (show 0<8 by omega));unfold Ku at g3;generalize Fda ((H0 f).getD (n/8) 0) (n % 8)=y at g3 hy hne;generalize n/8=j at g3 hj hne
  have ef:H0 f=Mw f++c4 (crc (Mw f)):=by unfold H0;rw[hf];rfl
  have eg:H0 g=Mw g++c4 (crc (Mw g)):=by unfold H0;rw[g1];rfl
  have l4:∀ c,(c4 c).length=4:=λ c=>rfl;rw[eg]at g3;rw[ef]at g3 hj hne
  have hlen:(Mw g).length=(Mw f).length:=by
   have:=congrArg length g3;rw[Vt,Vi,Vi,l4,l4]at this;omega
  by_cases hjb:j<(Mw f).length
  ·rw[List.set_append_left _ _ hjb]at g3;obtain⟨a1,a2⟩:=List.append_inj g3 (by rw[Vt];exact hlen);rw[Jwa hjb]at hne;have:=Zia (Uca _) (Uca _) a2;rw[a1]at this;exact Wma hjb hy (Pe f) hne this
  ·rw[Ezb _ _ (by omega)]at g3;obtain⟨a1,a2⟩:=List.append_inj g3 hlen;rw[a1]at a2;rw[Jxa (by omega)]at hne;rw[Vi,l4]at hj
   have:(c4 (crc (Mw f))).getD (j-(Mw f).length) 0=y:=by
    rw[a2,Vb,Dqb (by rw[l4];omega),Wo]
   exact hne this.symm

def O3a (l:List Nmd) (ns:List ByteArray):List ByteArray:=l.foldl (λ ns x=>wt ns x.1) ns
def nms (d:Dsk):List ByteArray:=O3a (d.1++d.2) []
def pk1:Option Nmd→List Nmd
 |some x=>[x]
 |none=>[]
def Xi (kp:List Bool) (a b:List Nmd):List ByteArray→Nat→List Nmd
 |[],_=>[]
 |s::ns,i=>pk1 (pk (bif kp.getD i false then a else b) s)++Xi kp a b ns (i+1)
def Se (d:Dsk) (kp:List Bool):Dsk:=bif decide ((Xi kp d.1 d.2 (nms d) 0).length > 60) then d else (Xi kp d.1 d.2 (nms d) 0,Xi kp d.1 d.2 (nms d) 0)
def Hya:∀ (l:List Nmd) (ns:List ByteArray),TS ns→TS (O3a l ns)
 |[],_,h=>h
 |_::l,_,h=>Hya l _ (Nka h)
def D9a:∀ (l:List Nmd) (ns:List ByteArray) (t:ByteArray),t∈O3a l ns↔(∃ x∈l,x.1=t)∨t∈ns
 |[],ns,t=>by simp[O3a]
 |x::l,ns,t=>by
  show t∈O3a l (wt ns x.1)↔_;rw[D9a l,Tza];simp only[Vl,exists_eq_or_imp];constructor
  ·rintro (h|rfl|h)
   ·exact .inl (.inr h)
   ·exact .inl (.inl rfl)
   ·exact .inr h
  ·rintro ((h|h)|h)
   ·exact .inr (.inl h.symm)
   ·exact .inl h
   ·exact .inr (.inr h)
def Uda (d:Dsk):TS (nms d):=Hya _ _ List.Pairwise.nil
def Wna {d:Dsk} {t:ByteArray}:t∈nms d↔(gt d.1 t).isSome=true∨(gt d.2 t).isSome=true:=by
 have h:∀ l:List Nmd,(gt l t).isSome=true↔∃ x∈l,x.1=t:=λ l=>by
  cases hg:gt l t with
  |none=>
   constructor
   ·intro h;cases h
   ·rintro⟨x,hx,e⟩;exact absurd e (Kt.1 hg x hx)
  |some b=>simp only[Option.isSome_some,true_iff];exact⟨_,K7 hg,rfl⟩
 unfold nms;rw[D9a,h,h];simp only[Vm,Dzb,or_false];constructor
 ·rintro⟨x,h1|h1,h2⟩
  ·exact .inl ⟨x,h1,h2⟩
  ·exact .inr ⟨x,h1,h2⟩
 ·rintro (⟨x,h1,h2⟩|⟨x,h1,h2⟩)
  ·exact⟨x,.inl h1,h2⟩
  ·exact⟨x,.inr h1,h2⟩
def Woa (l:List Nmd) (s:ByteArray):pk l s=(gt l s).map λ b=>(s,b):=by
 unfold pk gt
 cases h:fnd l s with
 |none=>rfl
 |some i=>rw[E6b,← (Ru h).2]
def Ul (kp:List Bool) (a b:List Nmd):∀ (ns:List ByteArray) (i:Nat),((Xi kp a b ns i).map Prod.fst).Sublist ns
 |[],_=>List.Sublist.slnil
 |s::ns,i=>by
  unfold Xi;rw[Woa]
  cases gt (bif kp.getD i false then a else b) s with
  |none=>exact(Ul kp a b ns (i+1)).cons s
  |some c=>exact(Ul kp a b ns (i+1)).cons_cons s
def Jya {kp:List Bool} {a b:List Nmd} {ns:List ByteArray} {i:Nat} (h:TS ns):Cz (Xi kp a b ns i):=by
 have:=Dxb (Ul kp a b ns i) h;rwa [Zo]at this
def O4a {kp:List Bool} {a b:List Nmd}:∀ {ns:List ByteArray} {i:Nat} {x:Nmd},x∈Xi kp a b ns i→gt a x.1=some x.2∨gt b x.1=some x.2
 |[],_,_,h=>by cases h
 |s::ns,i,x,h=>by
  unfold Xi at h;rw[Woa]at h;rcases Vm.1 h with h|h
  ·cases hg:gt (bif kp.getD i false then a else b) s with
   |none=>rw[hg]at h;cases h
   |some c=>
    rw[hg]at h;rw[Vn.1 h]
    cases hk:kp.getD i false with
    |true=>rw[hk]at hg;exact .inl hg
    |false=>rw[hk]at hg;exact .inr hg
  ·exact O4a h
def Uea {kp:List Bool} {a b:List Nmd} {t:ByteArray}:∀ {ns:List ByteArray} {i:Nat},TS ns→t∈ns→∃ j,i≤j∧gt (Xi kp a b ns i) t=gt (bif kp.getD j false then a else b) t
 |[],_,_,h=>by cases h
 |s::ns,i,hs,h=>by
  obtain⟨h1,h2⟩:=Wa.1 hs
  have hn:∀ j,gt (Xi kp a b ns j) s=none:=λ j=>Kt.2 λ x hx e=>by
   have:=h1 x.1 ((Ul kp a b ns j).subset (Yo hx));rw[e,Eg]at this;cases this
  unfold Xi;rw[Woa];rcases Vl.1 h with rfl|h
  ·refine⟨i,Vw _,?_⟩
   cases hg:gt (bif kp.getD i false then a else b) t with
   |none=>exact hn _
   |some c=>
    show gt ((t,c)::Xi kp a b ns (i+1)) t=_;rw[Ue,if_pos rfl]
  ·obtain⟨j,hj,e⟩:=Uea (kp:=kp) (a:=a) (b:=b) (i:=i+1) h2 h;refine⟨j,by omega,?_⟩;rw[← e]
   have hst:s≠t:=λ e=>by
    have:=h1 t h;rw[e,Eg]at this;cases this
   cases gt (bif kp.getD i false then a else b) s with
   |none=>rfl
   |some c=>
    show gt ((s,c)::Xi kp a b ns (i+1)) t=_;rw[Ue,if_neg hst]
def Wpa {d:Dsk} {kp:List Bool} (h:DG d):DG (Se d kp):=by
 unfold Se;cases hc:decide ((Xi kp d.1 d.2 (nms d) 0).length > 60)
 case true=>exact h
 have hl:=of_decide_eq_false hc;have n1:=(B5.1 (Ea.1 h.1).1).2.1;have n2:=(B5.1 (Ea.1 h.1).2).2.1;have q:Gz (Xi kp d.1 d.2 (nms d) 0)=true:=B5.2 ⟨Jya (Uda d),λ x hx=>(O4a hx).elim (λ e=>n1 _ (K7 e)) (λ e=>n2 _ (K7 e)),by omega⟩;have b:LB (Xi kp d.1 d.2 (nms d) 0):=λ x hx=>(O4a hx).elim (λ e=>h.2.1.gt e) (λ e=>h.2.2.gt e);exact⟨Ea.2 ⟨q,q⟩,b,b⟩
def O5a {d:Dsk} {kp:List Bool} (t:ByteArray):Se d kp=d∨((Se d kp).2=(Se d kp).1∧(gt (Se d kp).1 t=gt d.1 t∨gt (Se d kp).1 t=gt d.2 t)):=by
 unfold Se;cases hc:decide ((Xi kp d.1 d.2 (nms d) 0).length > 60)
 case true=>exact .inl rfl
 refine .inr ⟨rfl,?_⟩;show gt (Xi kp d.1 d.2 (nms d) 0) t=_∨gt (Xi kp d.1 d.2 (nms d) 0) t=_
 by_cases ht:t∈nms d
 ·obtain⟨j,_,e⟩:=Uea (kp:=kp) (a:=d.1) (b:=d.2) (i:=0) (Uda d) ht;rw[e]
  cases kp.getD j false with
  |true=>exact .inl rfl
  |false=>exact .inr rfl
 ·have h1:gt d.1 t=none:=by
   cases hg:gt d.1 t with
   |none=>rfl
   |some b=>exact absurd (Wna.2 (.inl (by rw[hg];rfl))) ht
  left;rw[h1];exact Kt.2 λ x hx e=>ht (by rw[← e];exact(Ul _ _ _ _ _).subset (Yo hx))

def clS (o:Dsk×Int) (x:Nmd):Dsk×Int:=match K6 x.2 with
 |some _=>o
 |none=>((cut o.1.1 x.1,cut o.1.2 x.1),o.2+1)
def Jm (d:Dsk):Dsk×Int:=d.1.foldl clS (d,0)
def Zja {d:Dsk} {s:ByteArray} (h:DG d):DG (cut d.1 s,cut d.2 s):=⟨Ea.2 ⟨Rw (Ea.1 h.1).1,Rw (Ea.1 h.1).2⟩,h.2.1.cut s,h.2.2.cut s⟩
def Wqa {o:Dsk×Int} {x:Nmd} (h:DG o.1):DG (clS o x).1:=by
 unfold clS
 cases K6 x.2 with
 |some _=>exact h
 |none=>exact Zja h
def Hza:∀ (l:List Nmd) (o:Dsk×Int),DG o.1→DG (l.foldl clS o).1
 |[],_,h=>h
 |_::l,_,h=>Hza l _ (Wqa h)
def S7a {d:Dsk} (h:DG d):DG (Jm d).1:=Hza _ _ h
def Aqa (l:List Nmd):List ByteArray:=(l.filter λ x=>(K6 x.2).isNone).map Prod.fst
def Pi:∀ (l:List Nmd) (o:Dsk×Int),DG o.1→((l.foldl clS o).2=o.2+((Aqa l).length:Int))∧∀ t,(t∈Aqa l→gt (l.foldl clS o).1.1 t=none∧gt (l.foldl clS o).1.2 t=none)∧(t∉Aqa l→gt (l.foldl clS o).1.1 t=gt o.1.1 t∧gt (l.foldl clS o).1.2 t=gt o.1.2 t)
 |[],o,h=>⟨by simp[Aqa],λ t=>⟨λ c=>by simp[Aqa]at c,λ _=>⟨rfl,rfl⟩⟩⟩
 |x::l,o,h=>by
  obtain⟨h1,h2⟩:=Pi l (clS o x) (Wqa h);rw[Ys]
  cases hx:K6 x.2 with
  |some f=>
   have e:Aqa (x::l)=Aqa l:=by unfold Aqa;rw[C7b,hx];rfl
   have ec:clS o x=o:=by unfold clS;rw[hx]
   rw[e];rw[ec]at h1 h2 ⊢;exact⟨h1,h2⟩
  |none=>
   have e:Aqa (x::l)=x.1::Aqa l:=by unfold Aqa;rw[C7b,hx];rfl
   have ec:clS o x=((cut o.1.1 x.1,cut o.1.2 x.1),o.2+1):=by unfold clS;rw[hx]
   rw[e];rw[ec]at h1 h2 ⊢;refine⟨by rw[h1,Vh];omega,λ t=>⟨λ ht=>?_,λ ht=>?_⟩⟩
   ·by_cases hb:t∈Aqa l
    ·exact(h2 t).1 hb
    ·obtain⟨a1,a2⟩:=(h2 t).2 hb
     have:x.1=t:=by
      rcases Vl.1 ht with e|e
      ·exact e.symm
      ·exact absurd e hb
     rw[a1,a2,Qh (Hy h.1),Qh (Lk h.1),if_pos this,if_pos this];exact⟨rfl,rfl⟩
   ·obtain⟨a1,a2⟩:=(h2 t).2 (λ c=>ht (Vd _ c));have:x.1≠t:=λ e=>ht (by rw[← e];exact Wl);rw[a1,a2,Qh (Hy h.1),Qh (Lk h.1),if_neg this,if_neg this];exact⟨rfl,rfl⟩
def I0a {d:Dsk} (hd:C7 d=true) {t:ByteArray}:t∈Aqa d.1↔∃ b,gt d.1 t=some b∧K6 b=none:=by
 unfold Aqa;rw[Yw];constructor
 ·rintro⟨x,hx,rfl⟩;obtain⟨h1,h2⟩:=Cvb.1 hx;exact⟨x.2,Fba (Hy hd) h1,by simpa using h2⟩
 ·rintro⟨b,h1,h2⟩;exact⟨(t,b),Cvb.2 ⟨K7 h1,by simp[h2]⟩,rfl⟩
def O6a (d:Dsk) (hd:DG d):Tot (λ k=>Fv k d) (λ r=>r=Jm d):=by
 have hin:=Ub hd.1;have hl:=(B5.1 (Ea.1 hd.1).1).2.2;unfold Fv;refine C3b (Ge d hin.1.1) ?_;refine C3b (Oj d hin.1.1 hin.1.2) ?_;rw[hd.1];refine Btb rfl (Bsb (Q:=λ r=>r=((Jm d).2,([],[]),(Jm d).1)) ?_ (by rintro r rfl;exact Brb rfl));refine C0b (L:=λ k i (s:Dsk×Int)=>F3 k s.2 d.1 (d.1.length:Int) i ([],[]) s.1) (Q:=λ r=>r=((Jm d).2,([],[]),(Jm d).1)) d.1.length (λ j s=>(d.1.drop j).foldl clS s=Jm d∧DG s.1∧0≤s.2∧s.2≤j) ?_ ?_ 0 (d,0) (Vv _) ⟨rfl,hd,Cqb 0,by simp⟩
 ·rintro s ⟨h,_⟩;rw[Wm]at h;simp (disch:=omega) only [F3,dF];exact Brb (by rw[← h];rfl)
 ·rintro j s hj ⟨h,hg,s0,s1⟩ next;rw[Bo (d:=Jd) hj,Ys]at h;have hsi:=Ub hg.1;have hx:=A3 (d:=Jd) hj;simp (disch:=omega) only [F3,dT,Vj,w64];have e0:d.1.getD j ((⟨#[]⟩:ByteArray),([]:List Int))=d.1.getD j Jd:=rfl;rw[e0];refine C3b (Mz _ (hd.2.1 _ hx) (hin.1.1.1.2 _ hx)) ?_;have hcg:=Wqa (x:=d.1.getD j Jd) hg;unfold clS at h hcg;unfold Afa
  cases hf:K6 (d.1.getD j Jd).2 with
  |some f=>
   rw[hf]at h;exact Btb rfl (next _ ⟨h,hg,s0,by omega⟩)
  |none=>
   rw[hf]at h hcg;refine Bub rfl (C3b (Qg s.1.1 _ hsi.1.1.1.1) ?_);refine C3b (Qg s.1.2 _ hsi.1.1.2.1) ?_;rw[Nv (Hy hg.1),Nv (Lk hg.1)];exact next ((cut s.1.1 (d.1.getD j Jd).1,cut s.1.2 (d.1.getD j Jd).1),s.2+1) ⟨h,hcg,by dsimp only;omega,by dsimp only;omega⟩

def Wra (d:Dsk):List ByteArray:=(d.1.filter λ x=>(K6 x.2).isSome).map Prod.fst
def hI (d:Dsk) (out:List ByteArray) (x:Nmd):List ByteArray:=bif (lkD d x.1).2==0 then wt out x.1 else out
def N7 (d:Dsk):List ByteArray:=d.1.foldl (hI d) []
def Ufa (d:Dsk):∀ (l:List Nmd) (out:List ByteArray),(l.foldl (hI d) out).length≤out.length+l.length
 |[],out=>by simp
 |x::l,out=>by
  have h1:=Ufa d l (hI d out x)
  have h2:(hI d out x).length≤out.length+1:=by
   unfold hI
   cases (lkD d x.1).2==0 with
   |false=>exact Cpb _
   |true=>exact U0a
  rw[Ys,Vh];omega
def S8a (d:Dsk) (hd:DIn d) (hb:DB d):Tot (λ k=>Gd k d) (λ r=>r=N7 d):=by
 have hl:=hd.2.1;unfold Gd;refine Bsb (Q:=λ r=>r=N7 d) ?_ (by rintro r rfl;exact Brb rfl);refine C0b (L:=λ k i s=>Fw k s d.1 (d.1.length:Int) i d) (Q:=λ r=>r=N7 d) d.1.length (λ j s=>(d.1.drop j).foldl (hI d) s=N7 d∧s.length≤j) ?_ ?_ 0 [] (Vv _) ⟨rfl,Vw _⟩
 ·rintro s ⟨h,_⟩;rw[Wm]at h;simp (disch:=omega) only [Fw,dF];exact Brb h
 ·rintro j s hj ⟨h,hs⟩ next;rw[Bo (d:=Jd) hj,Ys]at h;simp (disch:=omega) only [Fw,dT,Vj,w64];have e0:d.1.getD j ((⟨#[]⟩:ByteArray),([]:List Int))=d.1.getD j Jd:=rfl;rw[e0];refine C3b (Aha hd.1.1.1 hb.1 _) ?_;unfold hI at h
  cases hc:(lkD d (d.1.getD j Jd).1).2==0 with
  |false=>
   rw[hc]at h;exact Btb rfl (next _ ⟨h,by omega⟩)
  |true=>
   rw[hc]at h;refine Bub rfl (C3b (Aea s _ (by omega)) ?_);have:=U0a (l:=s) (s:=(d.1.getD j Jd).1);exact next _ ⟨h,by omega⟩
def Daa {p:ByteArray→Bool}:∀ {l:List ByteArray},(∀ y∈l,p y=true)→l.takeWhile p=l
 |[],_=>rfl
 |x::l,h=>by rw[Zn,if_pos (h x Wl),Daa (λ y hy=>h y (Vd _ hy))]
def Wsa {l:List ByteArray} {s:ByteArray} (h:∀ y∈l,tlt y s=true):wt l s=l++[s]:=by
 have e:tpl l s=l.length:=by
  unfold tpl;rw[Daa h]
 unfold wt;rw[e,if_neg (by omega),Yx,Wm,Yf]
def Zka {d:Dsk} (hs:Cz d.1) {x:Nmd} (hx:x∈d.1):((lkD d x.1).2==0)=(K6 x.2).isSome:=by
 unfold lkD;rw[Fba hs hx];simp only
 cases K6 x.2<;>rfl
def S9a {d:Dsk} (hs:Cz d.1):N7 d=Wra d:=by
 have key:∀ (l:List Nmd) (out:List ByteArray),(∀ x∈l,x∈d.1)→Cz l→(∀ y∈out,∀ x∈l,tlt y x.1=true)→l.foldl (hI d) out=out++(l.filter λ x=>(K6 x.2).isSome).map Prod.fst:=by
  intro l
  induction l with
  |nil=>intro out _ _ _;simp
  |cons x l ih=>
   intro out hm hsl ho;obtain⟨h1,h2⟩:=Wa.1 hsl;rw[Ys,C7b];have hx:=Zka hs (hm x Wl);unfold hI;rw[hx];cases hf:(K6 x.2).isSome
   ·exact ih out (λ y hy=>hm y (Vd _ hy)) h2 (λ y hy z hz=>ho y hy z (Vd _ hz))
   rw[cond_true,Wsa (λ y hy=>ho y hy x Wl),if_pos rfl,Yb]
   have:=ih (out++[x.1]) (λ y hy=>hm y (Vd _ hy)) h2 (λ y hy z hz=>by
    rcases Vm.1 hy with hy|hy
    ·exact ho y hy z (Vd _ hz)
    ·rw[Vn.1 hy];exact h1 z hz)
   unfold hI at this;rw[this,Vp];rfl
 unfold N7 Wra;rw[key d.1 [] (λ _ h=>h) hs (λ y hy=>by cases hy),Wn]
def Saa (l:List ByteArray) (s:ByteArray):Bool:=l.any λ y=>teq y s
def N0 {l:List ByteArray} {s:ByteArray}:Saa l s=true↔s∈l:=by
 unfold Saa;rw[Clb];constructor
 ·rintro⟨x,hx,e⟩;rw[← C6.1 e];exact hx
 ·intro h;exact⟨s,h,C6.2 rfl⟩
def Xta (l:List ByteArray):Nat→ByteArray→List ByteArray×Nat
 |0,_=>(l,0)
 |k+1,s=>bif tlt s (l.getD k Me) then Xta (l.set (k+1) (l.getD k Me)) k s else (l,k+1)
def Ahb (l:List ByteArray) (s:ByteArray):List ByteArray:=(Xta (l++[s]) l.length s).1.set (Xta (l++[s]) l.length s).2 s
def hS1 (l:List Nmd) (j:Nat) (out:List ByteArray) (x:Nmd):List ByteArray:=bif (K6 x.2).isSome&&(!(Saa out x.1)&&(Wda l x.1==(j:Int))) then Ahb out x.1 else out
def hS (l:List Nmd):List Nmd→Nat→List ByteArray→List ByteArray
 |[],_,out=>out
 |x::r,j,out=>hS l r (j+1) (hS1 l j out x)

def Fka (n:Nod) (s:ByteArray) (f:Fil) (sure:Bool) (hn:NIn n) (hs:Lz s):Tot (λ k=>Gb k n s f sure) (λ r=>r=Afb n s f sure):=by
 have hq:=hn.2.2.1;unfold Gb Afb;refine C3b (Jv n hn) ?_;refine C3b (Aka n hn) ?_;cases h1:K8 n
 ·exact Bub rfl (Brb rfl)
 have h60:=(Bj.1 h1).2.2.2.2;refine Btb rfl (C3b (Ke s hs) ?_);cases B0 s
 ·exact Bub rfl (Brb rfl)
 refine Btb rfl (C3b (C4b (Q:=λ r=>r=D8 f) (Su f) rfl) ?_);cases D8 f
 ·exact Bub rfl (Brb rfl)
 refine Btb rfl ?_;unfold Ll;refine Byb (λ h=>Brb ?_) (λ h=>?_)
 ·rw[show ((n.2.2.2.length:Int)==60)=true from beq_iff_eq.2 (by omega)];rfl
 ·rw[show ((n.2.2.2.length:Int)==60)=false from beq_eq_false_iff_ne.2 (by omega)];refine C3b (Hla n.2.1 s f sure hn.1.1 hn.1.2.1 hs) ?_;cases (keep n.2.1 s f sure).2==0
  ·exact Btb rfl (Brb rfl)
  refine Bub rfl ?_;cases sure
  ·exact Btb rfl (Brb rfl)
  refine Bub rfl (C3b (C4b (Q:=λ r=>r=M7 s f) (show I4 s f=some (M7 s f) from rfl) rfl) ?_);exact Bzb (by simp only[Vh,Vq];omega) (Brb rfl)
def Uga (n:Nod):Nod×Int:=((n.1,(Jm n.2.1).1,n.2.2),(Jm n.2.1).2)
def Ara {n:Nod} (hn:NG n) {d:Dsk} (hd:DG d):NG (n.1,d,n.2.2):=by
 obtain⟨h1,h2,h3,h4,h5⟩:=Bj.1 hn.1;exact⟨Bj.2 ⟨h1,h2,hd.1,h4,h5⟩,hd.2⟩
def I1a {n:Nod} (hn:NG n):NG (Uga n).1:=Ara hn (S7a hn.g)
def O7a (n:Nod) (hn:NG n):Tot (λ k=>Ew k n) (λ r=>r=Uga n):=by
 unfold Ew;refine C3b (Jv n (Aja hn)) ?_;refine C3b (O6a n.2.1 hn.g) ?_;exact Brb rfl

end Go.Proofs.YtcpligincipmhaaGreat.Vf
