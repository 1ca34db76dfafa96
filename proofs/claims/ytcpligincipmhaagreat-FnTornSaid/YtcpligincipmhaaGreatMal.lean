import Derived.Test.YtcpligincipmhaaGreatMak
set_option linter.all false
namespace Go.Proofs.YtcpligincipmhaaGreat.Vf
open Go
open List (length getD)
open Int (toNat)
open Go.IntKind (wrap)
open BitVec (ofInt)
def Yj:=@List.take_succ_eq_append_getElem
def Yq:=@List.mem_iff_getElem
def A3b:=@List.length_pos_of_mem
def B6b:=@List.length_erase_of_mem
def Bfb:=@List.foldl_append
def Bkb:=@List.set_getElem_self
def Bmb:=@List.exists_mem_of_length_pos
def Brb:=@List.mem_erase_of_ne
def Byb:=@List.range_succ
def Bzb:=@BitVec.getLsbD_ushiftRight
def Cnb:=@BitVec.eq_of_toNat_eq
def Cob:=@List.set_append_right
def Csb:=@List.nodup_nil
def Cub:=@Nat.mod_lt
def Cvb:=@List.map_set

def gt (l:List Nmd) (s:ByteArray):Option (List Int):=match fnd l s with
 |some i=>some (l.getD i Hl).2
 |none=>none
def Tv (y:Nmd) (l:List Nmd) (s:ByteArray):gt (y::l) s=if y.1=s then some y.2 else gt l s:=by
 unfold gt;rw[Z1]
 by_cases h:y.1=s
 ·rw[if_pos (G9.2 h),if_pos h];rfl
 ·rw[if_neg (λ c=>h (G9.1 c)),if_neg h]
  cases fnd l s<;>rfl
def Kx {l:List Nmd} {s:ByteArray} {b:List Int} (h:gt l s=some b):(s,b)∈l:=by
 induction l with
 |nil=>cases h
 |cons y l ih=>
  rw[Tv]at h
  by_cases e:y.1=s
  ·rw[if_pos e]at h;cases h;subst e;exact Yd
  ·rw[if_neg e]at h;exact Vg _ (ih h)
def K8 {l:List Nmd} {s:ByteArray}:gt l s=none↔∀ x∈l,x.1≠s:=by
 rw[← Qca];unfold gt
 cases fnd l s with
 |none=>simp
 |some i=>simp
def Mma {l:List Nmd} (hs:F8 l) {x:Nmd} (hx:x∈l):gt l x.1=some x.2:=by
 cases h:gt l x.1 with
 |none=>exact absurd rfl (K8.1 h x hx)
 |some b=>rw[show x=(x.1,b) from Uqa hs hx (Kx h) rfl]
def Cba {l:List Nmd} (hs:F8 l) {s:ByteArray} {b:List Int}:gt l s=some b↔(s,b)∈l:=⟨Kx,λ h=>Mma hs h⟩
def Cca {l:List Nmd} {s:ByteArray}:(gt l s).isSome=(fnd l s).isSome:=by
 unfold gt
 cases fnd l s<;>rfl
def Rb {l:List Nmd} (hs:F8 l) {s t:ByteArray}:gt (cut l s) t=if s=t then none else gt l t:=by
 by_cases h:s=t
 ·subst h;rw[if_pos rfl,K8];exact Wv
 ·rw[if_neg h]
  cases hg:gt l t with
  |none=>exact K8.2 λ x hx=>K8.1 hg x (Tq.subset hx)
  |some b=>
   rw[Cba (Lv hs)];refine Aqb.2 ⟨Kx hg,?_⟩
   cases ht:teq t s with
   |false=>simp[ht]
   |true=>exact absurd (G9.1 ht).symm h
def Sma {l:List Nmd} (hs:F8 l) {x:Nmd} (hn:∀ y∈l,y.1≠x.1) {t:ByteArray}:gt (ins l x) t=if x.1=t then some x.2 else gt l t:=by
 have hi:=Qo hs hn
 by_cases h:x.1=t
 ·subst h;rw[if_pos rfl,Cba hi];exact Qp.2 (.inl rfl)
 ·rw[if_neg h]
  cases hg:gt l t with
  |none=>
   refine K8.2 λ y hy=>?_;rcases Qp.1 hy with rfl|hy
   ·exact h
   ·exact K8.1 hg y hy
  |some b=>
   rw[Cba hi];exact Qp.2 (.inr (Kx hg))
def X4a:∀ {l m:List Nmd},F8 l→F8 m→(∀ s,gt l s=gt m s)→l=m:=by
 have key:∀ {l m:List Nmd},F8 l→F8 m→(∀ s,gt l s=gt m s)→∀ x∈l,x∈m:=λ hl hm h x hx=>by
  have:=h x.1;rw[Mma hl hx]at this;exact Kx this.symm
 intro l m hl hm h;have h1:∀ x,x∈l↔x∈m:=λ x=>⟨key hl hm h x,key hm hl (λ s=>(h s).symm) x⟩;clear h key
 induction l generalizing m with
 |nil=>
  cases m with
  |nil=>rfl
  |cons y m=>exact absurd ((h1 y).2 (by simp)) (by simp)
 |cons x l ih=>
  cases m with
  |nil=>exact absurd ((h1 x).1 (by simp)) (by simp)
  |cons y m=>
   obtain⟨a1,a2⟩:=Wd.1 hl;obtain⟨b1,b2⟩:=Wd.1 hm
   have e:x=y:=by
    rcases Vl.1 ((h1 x).1 (by simp)) with h|h
    ·exact h
    ·rcases Vl.1 ((h1 y).2 (by simp)) with h'|h'
     ·exact h'.symm
     ·have c1:=a1 y h';rw[Po (b1 x h)]at c1;cases c1
   subst e;congr 1;refine ih a2 b2 λ z=>⟨λ hz=>?_,λ hz=>?_⟩
   ·rcases Vl.1 ((h1 z).1 (Vg _ hz)) with rfl|h
    ·have c:=a1 z hz;rw[Gy]at c;cases c
    ·exact h
   ·rcases Vl.1 ((h1 z).2 (Vg _ hz)) with rfl|h
    ·have c:=b1 z hz;rw[Gy]at c;cases c
    ·exact h
def Sna (l:List Nmd) (s:ByteArray):rdN l s=match gt l s with|some b=>(b,true)|none=>([],false):=by
 unfold rdN gt
 cases fnd l s<;>rfl
def Hb {s:ByteArray} (h:Bc s=true):L8 s:=by
 have:=(Tn h).2;unfold L8;omega
def Dy {d:Dsk}:Ce d=true↔H5 d.1=true∧H5 d.2=true:=by
 unfold Ce;rw[Va]
def J6 {d:Dsk} (h:Ce d=true):F8 d.1:=(Az.1 (Dy.1 h).1).1
def Lb {d:Dsk} (h:Ce d=true):F8 d.2:=(Az.1 (Dy.1 h).2).1
def LB (l:List Nmd):Prop:=∀ x∈l,Ax x.2
def DB (d:Dsk):Prop:=LB d.1∧LB d.2
def LB.cut {l:List Nmd} (h:LB l) (s:ByteArray):LB (cut l s):=λ x hx=>h x (Tq.subset hx)
def LB.ins {l:List Nmd} (h:LB l) {x:Nmd} (hx:Ax x.2):LB (ins l x):=λ y hy=>by
 rcases Qp.1 hy with rfl|hy
 ·exact hx
 ·exact h y hy
def LB.gt {l:List Nmd} (h:LB l) {s:ByteArray} {b:List Int} (hg:gt l s=some b):Ax b:=h _ (Kx hg)
def Tw:Ax []:=λ x hx=>by cases hx
def wr (l:List Nmd) (s:ByteArray) (b:List Int):List Nmd:=ins (cut l s) (s,b)
def sy (d:Dsk) (s:ByteArray):List Nmd:=match gt d.1 s with
 |some b=>wr d.2 s b
 |none=>cut d.2 s
def wrD (d:Dsk) (s:ByteArray) (b:List Int):Dsk×Bool:=bif decide (b.length≤400)&&decide ((wr d.1 s b).length≤60) then ((wr d.1 s b,d.2),true) else (d,false)
def syD (d:Dsk) (s:ByteArray):Dsk×Bool:=bif decide ((sy d s).length≤60) then ((d.1,sy d s),true) else (d,false)
def rmD (d:Dsk) (s:ByteArray):Dsk×Bool:=bif (gt d.1 s).isSome then ((cut d.1 s,d.2),true) else (d,false)
section
variable {d:Dsk} {s:ByteArray} {b:List Int}
def Soa (hd:Ce d=true):wrI d s b=wr d.1 s b:=by
 unfold wrI wr;rw[Na (J6 hd)]
def Spa (hd:Ce d=true):syI d s=sy d s:=by
 unfold syI sy gt wr;rw[Na (Lb hd)]
 cases fnd d.1 s<;>rfl
def Isa (hd:Ce d=true) (hs:Bc s=true) (hb:b.length≤1000000000000):Tot (λ k=>Cy k d s b) (λ r=>r=wrD d s b):=by
 refine(Mia d s b (O5 hd) (Hb hs) hb).mono ?_;rintro r rfl;rw[hd,hs,Soa hd];rfl
def Cda (hd:Ce d=true) (hs:Bc s=true):Tot (λ k=>Bn k d s) (λ r=>r=syD d s):=by
 refine(Qea d s (O5 hd) (Hb hs)).mono ?_;rintro r rfl;rw[hd,hs,Spa hd];rfl
def Uta (hd:Ce d=true) (hs:Bc s=true) (hb:b.length≤400) (hl:(wr d.1 s b).length≤60):Ce (wr d.1 s b,d.2)=true:=by
 have:=(Qfa (b:=b) hd hs).2;rw[Soa hd,decide_eq_true hb,decide_eq_true hl]at this;exact this
def Yma (hd:Ce d=true) (hs:Bc s=true) (hl:(sy d s).length≤60):Ce (d.1,sy d s)=true:=by
 have:=Upa hd hs;rw[Spa hd,decide_eq_true hl]at this;exact this
def Sqa (hd:Ce d=true) (hs:Bc s=true):Ce (wrD d s b).1=true:=by
 unfold wrD;cases hc:decide (b.length≤400)&&decide ((wr d.1 s b).length≤60)
 ·exact hd
 rw[Va,decide_eq_true_iff,decide_eq_true_iff]at hc;exact Uta hd hs hc.1 hc.2
def X5a (hd:Ce d=true) (hs:Bc s=true):Ce (syD d s).1=true:=by
 unfold syD
 cases hc:decide ((sy d s).length≤60) with
 |false=>exact hd
 |true=>exact Yma hd hs (of_decide_eq_true hc)
def X6a (hd:Ce d=true):Ce (rmD d s).1=true:=by
 unfold rmD
 cases (gt d.1 s).isSome with
 |false=>exact hd
 |true=>exact Dy.2 ⟨Ra (Dy.1 hd).1,(Dy.1 hd).2⟩
def Qja (hd:Ce d=true) (h:(gt d.1 s).isSome=true):Bc s=true:=by
 cases hg:gt d.1 s with
 |none=>rw[hg]at h;cases h
 |some b=>exact(N9.1 ((Az.1 (Dy.1 hd).1).2.1 _ (Kx hg))).1
def Era (hd:Ce d=true):Tot (λ k=>De k d s) (λ r=>r=rmD d s):=by
 refine(Iqa d s (O5 hd).1).mono ?_;rintro r rfl;rw[hd,← Cca,B9b,Na (J6 hd)];rfl
end
def lkD (d:Dsk) (s:ByteArray):Fil×Int:=match gt d.1 s with
 |none=>(Epa,1)
 |some b=>match La b with
  |some f=>(f,0)
  |none=>(Epa,2)
def Sra {l:List Nmd} {s:ByteArray} {b:List Int} (h:Qaa l) (hg:gt l s=some b):b.length≤1000000000000:=h.2 _ (Kx hg)
def Z3 {d:Dsk} (hf:Qaa d.1) (hb:LB d.1) (s:ByteArray):Tot (λ k=>Gg k d s) (λ r=>r=lkD d s):=by
 unfold Gg lkD;refine Zsa (H1a d s hf) ?_;rw[Sna]
 cases hg:gt d.1 s with
 |none=>exact Zja rfl (Zga rfl)
 |some b=>
  refine Zia rfl (Zsa (Jc b (hb.gt hg) (Sra hf hg)) ?_);unfold Tt;dsimp only
  cases La b with
  |none=>exact Zja rfl (Zga rfl)
  |some f=>exact Zia rfl (Zga rfl)
def Lx {d:Dsk} {s:ByteArray} {f:Fil}:lkD d s=(f,0)↔∃ b,gt d.1 s=some b∧La b=some f:=by
 unfold lkD
 cases gt d.1 s with
 |none=>simp
 |some b=>cases h:La b<;>simp[h]
def old (d:Dsk) (s:ByteArray):Option Fil:=(gt d.1 s).bind La
def kp1 (d:Dsk) (s:ByteArray) (f:Fil):Option (Dsk×Int):=
 let w:=bif (wrD d s (Hf f)).2 then some ((wrD d s (Hf f)).1,(0:Int)) else none
 match old d s with
 |some o=>bif sle o.1 f.1 then w else some (d,1)
 |none=>w
def kp2 (d:Dsk) (s:ByteArray) (sure:Bool) (x:Dsk×Int):Dsk×Int:=bif sure then (bif (syD x.1 s).2 then ((syD x.1 s).1,x.2) else (d,3)) else x
def J8 (d:Dsk) (s:ByteArray) (f:Fil) (sure:Bool):Dsk×Int:=match kp1 d s f with
 |some x=>kp2 d s sure x
 |none=>(d,3)
def keep (d:Dsk) (s:ByteArray) (f:Fil) (sure:Bool):Dsk×Int:=bif Ce d&&(Bc s&&Dw f) then J8 d s f sure else (d,2)
def Qka:La []=none:=by
 cases h:La [] with
 |none=>rfl
 |some f=>
  obtain⟨h1,_,h3⟩:=Eqa h;unfold Hf at h3;rw[h1]at h3;simp[c4]at h3
def X7a {d:Dsk} {s:ByteArray} {f:Fil} (hd:Ce d=true) (hs:Bc s=true) {x:Dsk×Int} (h:kp1 d s f=some x):Ce x.1=true:=by
 have hw:∀ x,(bif (wrD d s (Hf f)).2 then some ((wrD d s (Hf f)).1,(0:Int)) else none)=some x→Ce x.1=true:=by
  intro x h
  cases hc:(wrD d s (Hf f)).2 with
  |false=>rw[hc]at h;cases h
  |true=>rw[hc]at h;cases h;exact Sqa hd hs
 unfold kp1 at h;simp only at h;split at h
 ·rename_i o _
  cases hc:sle o.1 f.1 with
  |false=>rw[hc]at h;cases h;exact hd
  |true=>rw[hc]at h;exact hw _ h
 ·exact hw _ h
def X8a {d:Dsk} {s:ByteArray} (hd:Ce d=true) (hs:Bc s=true) {x:Dsk} {c:Int} (hx:Ce x=true) (sure:Bool):
  Tot (λ k=>cond sure ((Bn k x s).bind λ r=>cond (!r.2) ((A4 k d).bind λ q=>some (q,3)) (some (r.1,c))) (some (x,c))) (λ r=>r=kp2 d s sure (x,c)):=by
 unfold kp2;cases sure
 ·exact Zga rfl
 refine Zja rfl (Zsa (Cda hx hs) ?_);cases h:(syD x s).2
 case true=>exact Zia rfl (Zga rfl)
 refine Zja rfl (Zsa (Fj d (O5 hd).1.1) ?_);exact Zga rfl
def H3a (d:Dsk) (s:ByteArray) (f:Fil) (sure:Bool) (hd:DIn d) (hb:LB d.1) (hs:L8 s):Tot (λ k=>Hc k d s f sure) (λ r=>r=keep d s f sure):=by
 have bad:Tot (λ k=>(A4 k d).bind λ r2=>some (r2,(2:Int))) (λ r=>r=(d,2)):=by
  refine Zsa (Fj d hd.1.1) ?_;exact Zga rfl
 unfold Hc keep;refine Zsa (Kw d hd.1.1 hd.1.2) ?_;cases h1:Ce d
 ·exact Zja rfl bad
 refine Zia rfl (Zsa (Ju s hs) ?_);cases h2:Bc s
 ·exact Zja rfl bad
 refine Zia rfl (Zsa (Zua (Q:=λ b=>b=Dw f) (S5 f) rfl) ?_);cases h3:Dw f
 ·exact Zja rfl bad
 refine Zia rfl (Zsa (Fj d hd.1.1) ?_);refine Zsa (H1a d s hd.1.1.1) ?_;have hlen:=Z2 f
 have w:∀ {o:Option Fil},(kp1 d s f=bif (wrD d s (Hf f)).2 then some ((wrD d s (Hf f)).1,(0:Int)) else none)→Tot (λ k=>(Dm k f).bind λ r13=>(Cy k d s r13).bind λ r14=>cond (!r14.2) ((A4 k d).bind λ r15=>some (r15,(3:Int))) (cond sure ((Bn k r14.1 s).bind λ r16=>cond (!r16.2) ((A4 k d).bind λ r17=>some (r17,3)) (some (r16.1,0))) (some (r14.1,0)))) (λ r=>r=J8 d s f sure):=by
  intro _ e;refine Zsa (Mi f) ?_;refine Zsa (Isa h1 h2 (by omega)) ?_;unfold J8;rw[e]
  cases h4:(wrD d s (Hf f)).2 with
  |false=>
   refine Zja rfl (Zsa (Fj d hd.1.1) ?_);exact Zga rfl
  |true=>exact Zia rfl (X8a h1 h2 (Sqa h1 h2) sure)
 rw[Sna];have eo:old d s=(gt d.1 s).bind La:=rfl
 cases hg:gt d.1 s with
 |none=>
  rw[hg]at eo;refine Zsa (Jc [] Tw (by simp)) ?_;unfold Tt;rw[Qka];refine Zia rfl (w (o:=none) ?_);unfold kp1;rw[eo];rfl
 |some b=>
  rw[hg]at eo;have eo:old d s=La b:=eo;refine Zsa (Jc b (hb.gt hg) (Sra hd.1.1.1 hg)) ?_;unfold Tt
  cases ho:La b with
  |none=>
   refine Zia rfl (w (o:=none) ?_);unfold kp1;rw[eo,ho]
  |some o=>
   rw[ho]at eo;refine Zja rfl (Zsa (Zua (Q:=λ b=>b=sle o.1 f.1) (C9a f o) rfl) ?_)
   cases hl:sle o.1 f.1 with
   |true=>
    refine Zia rfl (w (o:=none) ?_);unfold kp1;simp only[eo,hl,cond_true]
   |false=>
    have e1:J8 d s f sure=kp2 d s sure (d,1):=by
     unfold J8 kp1;simp only[eo,hl,cond_false]
    refine Zja rfl ?_;show Tot _ (λ r=>r=J8 d s f sure);rw[e1];exact X8a h1 h2 h1 sure

def DG (d:Dsk):Prop:=Ce d=true∧DB d
def Ssa {d:Dsk} {s:ByteArray} {b:List Int} (hd:Ce d=true) (h:gt d.1 s=some b):b.length≤400:=(N9.1 ((Az.1 (Dy.1 hd).1).2.1 _ (Kx h))).2
def X9a {d:Dsk} {s:ByteArray} {b:List Int} (h:DB d) (hb:Ax b):DB (wrD d s b).1:=by
 unfold wrD
 cases decide (b.length≤400)&&decide ((wr d.1 s b).length≤60) with
 |false=>exact h
 |true=>exact⟨(h.1.cut s).ins hb,h.2⟩
def Yna {d:Dsk} {s:ByteArray} (h:DB d):LB (sy d s):=by
 unfold sy
 cases hg:gt d.1 s with
 |none=>exact h.2.cut s
 |some b=>exact(h.2.cut s).ins (h.1.gt hg)
def Xaa {d:Dsk} {s:ByteArray} (h:DB d):DB (syD d s).1:=by
 unfold syD
 cases decide ((sy d s).length≤60) with
 |false=>exact h
 |true=>exact⟨h.1,Yna h⟩
def Xba {d:Dsk} {s:ByteArray} (h:DB d):DB (rmD d s).1:=by
 unfold rmD
 cases (gt d.1 s).isSome with
 |false=>exact h
 |true=>exact⟨h.1.cut s,h.2⟩
def Xca {d:Dsk} {s:ByteArray} (h:DG d) (hs:Bc s=true):DG (syD d s).1:=⟨X5a h.1 hs,Xaa h.2⟩
def Xda {d:Dsk} {s:ByteArray} (h:DG d):DG (rmD d s).1:=⟨X6a h.1,Xba h.2⟩
def Xea {d:Dsk} {s:ByteArray} {f:Fil} (hd:DG d) (hs:Bc s=true) {x:Dsk×Int} (h:kp1 d s f=some x):DG x.1:=by
 refine⟨X7a hd.1 hs h,?_⟩
 have hw:∀ x,(bif (wrD d s (Hf f)).2 then some ((wrD d s (Hf f)).1,(0:Int)) else none)=some x→DB x.1:=by
  intro x h
  cases hc:(wrD d s (Hf f)).2 with
  |false=>rw[hc]at h;cases h
  |true=>rw[hc]at h;cases h;exact X9a hd.2 (Qq f)
 unfold kp1 at h;simp only at h;split at h
 ·rename_i o _
  cases hc:sle o.1 f.1 with
  |false=>rw[hc]at h;cases h;exact hd.2
  |true=>rw[hc]at h;exact hw _ h
 ·exact hw _ h
def Yoa {d:Dsk} {s:ByteArray} {sure:Bool} (hd:DG d) (hs:Bc s=true) {x:Dsk×Int} (hx:DG x.1):DG (kp2 d s sure x).1:=by
 unfold kp2;cases sure
 ·exact hx
 rw[cond_true]
 cases (syD x.1 s).2 with
 |false=>exact hd
 |true=>exact Xca hx hs
def Mna {d:Dsk} {s:ByteArray} {f:Fil} {sure:Bool} (hd:DG d) (hs:Bc s=true):DG (J8 d s f sure).1:=by
 unfold J8
 cases h:kp1 d s f with
 |none=>exact hd
 |some x=>exact Yoa hd hs (Xea hd hs h)
def Sta {d:Dsk} {s:ByteArray} {f:Fil} {sure:Bool} (hd:DG d):DG (keep d s f sure).1:=by
 unfold keep;cases h:Bc s
 ·rw[hd.1];exact hd
 cases Dw f with
 |false=>rw[hd.1];exact hd
 |true=>rw[hd.1];exact Mna hd h
def Un (b:Int) (j:Nat):Int:=((ofInt 8 b ^^^ BitVec.twoPow 8 j).toNat:Int)
def H4a (b:Int) (j:Nat):0≤Un b j∧Un b j≤255:=by
 unfold Un;have:=(ofInt 8 b ^^^ BitVec.twoPow 8 j).isLt;omega
def Uua (b:Int):∀ j,j<8→wrap .u8 ((ofInt (IntKind.bits .u8) b ^^^ ofInt (IntKind.bits .u8) (wrap .u8 ((1:Int)*2 ^ (min j (IntKind.bits .u8))))).toNat)=Un b j:=by
 intro j hj
 have h1:∀ j,j<8→ofInt 8 (wrap .u8 ((1:Int)*2 ^ (min j 8)))=BitVec.twoPow 8 j:=by decide
 show wrap .u8 (((ofInt 8 b ^^^ ofInt 8 (wrap .u8 ((1:Int)*2 ^ (min j 8)))).toNat:Nat):Int)=_;rw[h1 j hj];have:=(ofInt 8 b ^^^ BitVec.twoPow 8 j).isLt;rw[Mea _ (by omega)];rfl
def Qla {b:Int} (hb:0≤b∧b≤255) {j:Nat} (hj:j<8):Un b j≠b:=by
 intro h;unfold Un at h
 have h1:b=((ofInt 8 b).toNat:Int):=by rw[C3b];omega
 have h2:(ofInt 8 b ^^^ BitVec.twoPow 8 j).toNat=(ofInt 8 b).toNat:=by omega
 have h3:=Cnb h2
 have h4:BitVec.twoPow 8 j=0#8:=by
  have:=congrArg (λ x=>ofInt 8 b ^^^ x) h3
  simpa[← BitVec.xor_assoc] using this
 have h5:∀ j,j<8→BitVec.twoPow 8 j≠0#8:=by decide
 exact h5 j hj h4
def Jd (l:List Int) (n:Nat):List Int:=l.set (n/8) (Un (l.getD (n/8) 0) (n % 8))
def Cea (l:List Int) (n:Nat):(Jd l n).length=l.length:=by unfold Jd;rw[Wa]
def Esa {l:List Int} (h:Ax l) (n:Nat):Ax (Jd l n):=λ x hx=>by
 rcases Ys hx with h'|rfl
 ·exact h x h'
 ·exact H4a _ _
def Z4 (d:Dsk) (s:ByteArray) (n:Int):Dsk×Bool:=match gt d.1 s with
 |none=>(d,false)
 |some b=>bif inR n 0 (8*(b.length:Int)-1) then ((wr d.1 s (Jd b n.toNat),bif decide (gt d.2 s=some b) then wr d.2 s (Jd b n.toNat) else d.2),true) else (d,false)
def Moa {l:List Nmd} (hs:F8 l) {s:ByteArray} {i:Nat} (h:fnd l s=some i) (b:List Int):l.set i (s,b)=wr l s b:=by
 obtain⟨hi,hn⟩:=Mn h
 have hm:(l.set i (s,b)).map Prod.fst=l.map Prod.fst:=by
  rw[Cvb];apply Asb;intro j
  by_cases hj:i=j
  ·subst hj;rw[Amb (by rw[Vz];exact hi),Zw,Ve hi];rw[Vb,Ve hi]at hn;exact congrArg some hn.symm
  ·rw[Awb hj]
 have h1:F8 (l.set i (s,b)):=by
  have e:∀ m:List Nmd,F8 m↔(m.map Prod.fst).Pairwise (λ a b=>tlt a b=true):=λ m=>by
   unfold F8;rw[Zr]
  rw[e,hm,← e];exact hs
 refine X4a h1 (Qo (Lv hs) Wv) λ t=>?_;have h2:=Sma (x:=(s,b)) (t:=t) (Lv hs (s:=s)) Wv;unfold wr;rw[h2]
 by_cases ht:s=t
 ·subst ht;rw[if_pos rfl,Cba h1];exact List.mem_set hi _
 ·rw[if_neg ht,Rb hs,if_neg ht]
  cases hg:gt l t with
  |none=>
   refine K8.2 λ x hx=>?_;rcases Ys hx with h'|rfl
   ·exact K8.1 hg x h'
   ·exact ht
  |some c=>
   rw[Cba h1];obtain⟨j,hj,e⟩:=Yq.1 (Kx hg)
   have hij:i≠j:=by
    rintro rfl;rw[Vb,Ve hi,Wh,e]at hn;exact ht hn.symm
   refine Yq.2 ⟨j,by rw[Wa];exact hj,?_⟩;rw[List.getElem_set_ne hij];exact e
def Cfa {l:List Nmd} {s:ByteArray} {b:List Int} (hs:F8 l) (h:(gt l s).isSome=true):(wr l s b).length=l.length:=by
 rw[Cca]at h;obtain⟨i,hi⟩:=Zh.1 h;rw[← Moa hs hi,Wa]
def Xfa {d:Dsk} {s:ByteArray} {n:Int} (h:DG d):DG (Z4 d s n).1:=by
 unfold Z4
 cases hg:gt d.1 s with
 |none=>exact h
 |some b=>
  simp only;cases inR n 0 (8*(b.length:Int)-1)
  ·exact h
  have hn:=Qja h.1 (s:=s) (by rw[hg];rfl);have hb:=Ssa h.1 hg;have hbb:=Esa (h.2.1.gt hg) n.toNat;have l1:=Cfa (b:=Jd b n.toNat) (J6 h.1) (s:=s) (by rw[hg];rfl);have q1:=Uta h.1 hn (b:=Jd b n.toNat) (by rw[Cea];exact hb) (by rw[l1];exact(Az.1 (Dy.1 h.1).1).2.2);rw[cond_true];cases hc:decide (gt d.2 s=some b)
  ·exact⟨q1,(h.2.1.cut s).ins hbb,h.2.2⟩
  have hg2:=of_decide_eq_true hc;have l2:=Cfa (b:=Jd b n.toNat) (Lb h.1) (s:=s) (by rw[hg2];rfl);have h':Ce (d.2,d.1)=true:=Dy.2 ⟨(Dy.1 h.1).2,(Dy.1 h.1).1⟩;have q2:=Uta h' hn (b:=Jd b n.toNat) (by rw[Cea];exact hb) (by show (wr d.2 s _).length≤60;rw[l2];exact(Az.1 (Dy.1 h.1).2).2.2);exact⟨Dy.2 ⟨(Dy.1 q1).1,(Dy.1 q2).1⟩,(h.2.1.cut s).ins hbb,(h.2.2.cut s).ins hbb⟩
def lb0:LB []:=λ x hx=>by cases hx
def dg0:DG ([],[]):=⟨by decide,⟨lb0,lb0⟩⟩

section
variable {d:Dsk} {s:ByteArray} {f:Fil} {sure:Bool}
def Qma (a:Stp):sle a a=false:=Ls a
def Tx (h1:Ce d=true) (h2:Bc s=true) (h3:Dw f=true):keep d s f sure=J8 d s f sure:=by unfold keep;rw[h1,h2,h3];rfl
def Cga {x:Dsk} {c:Int}:(kp2 d s sure (x,c)=(d,3))∨(sure=false∧kp2 d s sure (x,c)=(x,c))∨(sure=true∧(sy x s).length≤60∧kp2 d s sure (x,c)=((x.1,sy x s),c)):=by
 unfold kp2 syD;cases sure
 ·exact .inr (.inl ⟨rfl,rfl⟩)
 rw[cond_true]
 by_cases h:(sy x s).length≤60
 ·rw[decide_eq_true h];exact .inr (.inr ⟨rfl,h,rfl⟩)
 ·rw[decide_eq_false h];exact .inl rfl
def Mpa (hd:DG d) (hs:Bc s=true):kp1 d s f=none∨(∃ o,old d s=some o∧sle o.1 f.1=false∧kp1 d s f=some (d,1))∨((∀ o,old d s=some o→sle o.1 f.1=true)∧(wr d.1 s (Hf f)).length≤60∧kp1 d s f=some ((wr d.1 s (Hf f),d.2),0)):=by
 have hl:(Hf f).length≤400:=by have:=Z2 f;omega
 have w:(bif (wrD d s (Hf f)).2 then some ((wrD d s (Hf f)).1,(0:Int)) else none)=none∨((wr d.1 s (Hf f)).length≤60∧(bif (wrD d s (Hf f)).2 then some ((wrD d s (Hf f)).1,(0:Int)) else none)=some ((wr d.1 s (Hf f),d.2),0)):=by
  unfold wrD;rw[decide_eq_true hl,Wn]
  by_cases h:(wr d.1 s (Hf f)).length≤60
  ·rw[decide_eq_true h];exact .inr ⟨h,rfl⟩
  ·rw[decide_eq_false h];exact .inl rfl
 unfold kp1
 cases ho:old d s with
 |none=>
  rcases w with h|⟨h1,h2⟩
  ·exact .inl h
  ·exact .inr (.inr ⟨λ o h=>(by cases h),h1,h2⟩)
 |some o=>
  simp only;cases hc:sle o.1 f.1
  ·exact .inr (.inl ⟨o,rfl,hc,rfl⟩)
  rcases w with h|⟨h1,h2⟩
  ·exact .inl h
  ·exact .inr (.inr ⟨λ o' h=>(by cases h;exact hc),h1,h2⟩)
def Wx (hd:DG d) (hs:Bc s=true):J8 d s f sure=(d,3)∨
  (∃ o,old d s=some o∧sle o.1 f.1=false∧(J8 d s f sure).2=1∧DG (J8 d s f sure).1∧((sure=false∧(J8 d s f sure).1=d)∨(sure=true∧(J8 d s f sure).1=(d.1,sy d s))))∨
  ((∀ o,old d s=some o→sle o.1 f.1=true)∧DG (wr d.1 s (Hf f),d.2)∧(J8 d s f sure).2=0∧DG (J8 d s f sure).1∧((sure=false∧(J8 d s f sure).1=(wr d.1 s (Hf f),d.2))∨(sure=true∧(J8 d s f sure).1=(wr d.1 s (Hf f),sy (wr d.1 s (Hf f),d.2) s)))):=by
 have hg:=Mna (f:=f) (sure:=sure) hd hs;rcases Mpa (f:=f) hd hs with h|⟨o,h1,h2,h⟩|⟨h1,h2,h⟩
 ·exact .inl (by unfold J8;rw[h])
 ·have e:J8 d s f sure=kp2 d s sure (d,1):=by unfold J8;rw[h]
  rcases Cga (d:=d) (s:=s) (sure:=sure) (x:=d) (c:=1) with k|⟨k0,k⟩|⟨k0,k1,k⟩
  ·exact .inl (e.trans k)
  ·rw[← e]at k;exact .inr (.inl ⟨o,h1,h2,by rw[k],hg,.inl ⟨k0,by rw[k]⟩⟩)
  ·rw[← e]at k;exact .inr (.inl ⟨o,h1,h2,by rw[k],hg,.inr ⟨k0,by rw[k]⟩⟩)
 ·have e:J8 d s f sure=kp2 d s sure ((wr d.1 s (Hf f),d.2),0):=by unfold J8;rw[h]
  have hw:=Xea hd hs h;rcases Cga (d:=d) (s:=s) (sure:=sure) (x:=(wr d.1 s (Hf f),d.2)) (c:=0) with k|⟨k0,k⟩|⟨k0,k1,k⟩
  ·exact .inl (e.trans k)
  ·rw[← e]at k;exact .inr (.inr ⟨h1,hw,by rw[k],hg,.inl ⟨k0,by rw[k]⟩⟩)
  ·rw[← e]at k;exact .inr (.inr ⟨h1,hw,by rw[k],hg,.inr ⟨k0,by rw[k]⟩⟩)
def Ita {l:List Nmd} (hs:F8 l) {s t:ByteArray} {b:List Int}:gt (wr l s b) t=if s=t then some b else gt l t:=by
 unfold wr;rw[Sma (x:=(s,b)) (Lv hs) Wv]
 by_cases h:s=t
 ·rw[if_pos h,if_pos h]
 ·rw[if_neg h,if_neg h,Rb hs,if_neg h]
def Eta (hd:Ce d=true) {t:ByteArray}:gt (sy d s) t=if s=t then gt d.1 s else gt d.2 t:=by
 unfold sy
 cases h:gt d.1 s with
 |none=>rw[Rb (Lb hd)]
 |some b=>rw[Ita (Lb hd)]
def Mqa (hd:DG d) (hs:Bc s=true) (hf:Dw f=true) (hb:Ax f.2.2) (h:(J8 d s f true).2=0∨(J8 d s f true).2=1):
  ∃ o g b,DG o∧DG (J8 d s f true).1∧(J8 d s f true).1=(o.1,sy o s)∧gt o.1 s=some b∧La b=some g∧sle g.1 f.1=false:=by
 rcases Wx (f:=f) (sure:=true) hd hs with k|⟨o,h1,h2,k,hg,h3⟩|⟨h1,h2,k,hg,h3⟩
 ·rw[k]at h;rcases h with h|h<;>cases h
 ·rcases h3 with⟨h3,_⟩|⟨_,h3⟩
  ·cases h3
  ·have ho:(gt d.1 s).bind La=some o:=h1
   cases hg1:gt d.1 s with
   |none=>rw[hg1]at ho;cases ho
   |some b=>
    rw[hg1]at ho;exact⟨d,o,b,hd,hg,h3,hg1,ho,h2⟩
 ·rcases h3 with⟨h3,_⟩|⟨_,h3⟩
  ·cases h3
  ·exact⟨(wr d.1 s (Hf f),d.2),f,Hf f,h2,hg,h3,by show gt (wr d.1 s (Hf f)) s=_;rw[Ita (J6 hd.1),if_pos rfl],Pu hf hb,Qma _⟩
end

abbrev Nod:=Int×Dsk×List Row×List Row
def qOk (l:List Row):Bool:=l.all L9
def J0 (n:Nod):Bool:=qOk n.2.2.2&&(inR n.1 0 20&&(Ce n.2.1&&(I1 n.2.2.1&&decide ((n.2.2.2.length:Int)≤60))))
def RF (l:List Row):Prop:=l.length≤2000000∧Y9 l
def NIn (n:Nod):Prop:=(DIn n.2.1∧DB n.2.1)∧RF n.2.2.1∧RF n.2.2.2
def NG (n:Nod):Prop:=J0 n=true∧DB n.2.1
def Cf {n:Nod}:J0 n=true↔(∀ r∈n.2.2.2,L9 r=true)∧(0≤n.1∧n.1≤20)∧Ce n.2.1=true∧I1 n.2.2.1=true∧n.2.2.2.length≤60:=by
 unfold J0 qOk;simp only[Va,Wg,Dl,decide_eq_true_iff];constructor
 ·rintro⟨h1,h2,h3,h4,h5⟩;exact⟨h1,h2,h3,h4,by omega⟩
 ·rintro⟨h1,h2,h3,h4,h5⟩;exact⟨h1,h2,h3,h4,by omega⟩
def Eua {l:List Row} (h:I1 l=true):RF l:=by
 obtain⟨_,h2,h3⟩:=Iz.1 h;exact⟨by omega,λ r hr=>Hb (Ws (h2 r hr))⟩
def Z5 {n:Nod} (h:NG n):NIn n:=by
 obtain⟨h1,_,h3,h4,h5⟩:=Cf.1 h.1;exact⟨⟨O5 h3,h.2⟩,Eua h4,by omega,λ r hr=>Hb (Ws (h1 r hr))⟩
def NG.g {n:Nod} (h:NG n):DG n.2.1:=⟨(Cf.1 h.1).2.2.1,h.2⟩
def Pv (n:Nod) (hn:NIn n):Tot (λ k=>B5 k n) (λ r=>r=J0 n):=by
 obtain⟨i,⟨a,b⟩,ro,q⟩:=n;obtain⟨⟨hd,_⟩,hr,hq⟩:=hn;dsimp only at hd hr hq;unfold B5;have hl:=hq.1;refine Zha (Q:=λ r=>r=bif qOk q then .inr (i,a,b,ro,q) else .inl false) ?_ ?_
 ·refine Zpa (L:=λ k i' (_:Unit)=>Et k q (q.length:Int) i' i a b ro q) (Q:=λ r=>r=bif qOk q then .inr (i,a,b,ro,q) else .inl false) q.length (λ j _=>(q.drop j).all L9=q.all L9) ?_ ?_ 0 () (Vu _) (by rw[Yx])
  ·intro _ hj;rw[Yk]at hj;simp only[Et];exact Zla (by omega) (Zga (by unfold qOk;rw[← hj];rfl))
  ·intro j _ hj hi next;simp only[Et];rw[Bs (d:=Kf) hj,Atb]at hi;refine Zka (by omega) (Zka (by omega) (Zka (by omega) ?_));rw[Vj,w64 (n:=(j:Int)+1) (by omega) (by omega)];refine Zsa (M7a (q.getD j Kf) (hq.2 _ (A3 hj))) ?_
   cases hc:L9 (q.getD j Kf) with
   |false=>exact Zja rfl (Zga (by unfold qOk;rw[← hi,hc];rfl))
   |true=>exact Zia rfl (next () (by rw[hc,Wn]at hi;exact hi))
 ·rintro r rfl;unfold J0;dsimp only;cases qOk q
  ·exact Zga rfl
  simp only[cond_true,B5b,Wn];refine Zsa (Zua (Q:=λ r=>r=inR i 0 20) (Ku _ _ _) rfl) ?_;cases inR i 0 20
  ·exact Zia rfl (Zga rfl)
  refine Zja rfl (Zsa (Kw (a,b) hd.1.1 hd.1.2) ?_);cases Ce (a,b)
  ·exact Zia rfl (Zga rfl)
  refine Zja rfl (Zsa (Gwa ro (by have:=hr.1;unfold Few;omega) hr.2) ?_)
  cases I1 ro with
  |false=>exact Zia rfl (Zga rfl)
  |true=>exact Zja rfl (Zga rfl)
def I9 (n:Nod) (hn:NIn n):Tot (λ k=>Ai k n) (λ r=>r=n):=by
 unfold Ai;have h1:=hn.2.1.1;have h2:=hn.2.2.1;refine Zsa (Fj n.2.1 hn.1.1.1.1) ?_;refine Zsa (Zua (Q:=λ r=>r=n.2.2.1) (Pq _ (by unfold Few;omega)) rfl) ?_;refine Zsa (Zua (Q:=λ r=>r=n.2.2.2) (Pq _ (by unfold Few;omega)) rfl) ?_;exact Zga rfl
def Qna (n:Nod) (l:List Row):Nod×Bool:=bif J0 n&&I1 l then (bif decide ((C2a n.2.2.1 l).length > 60) then (n,false) else ((n.1,n.2.1,C2a n.2.2.1 l,n.2.2.2),true)) else (n,false)
def Eva {a b:List Row} (ha:I1 a=true) (hb:I1 b=true) (h:(C2a a b).length≤60):I1 (C2a a b)=true:=by
 obtain⟨a1,a2,_⟩:=Iz.1 ha;obtain⟨b1,b2,_⟩:=Iz.1 hb;exact Iz.2 ⟨Eia a1,λ r hr=>(Gxa hr).elim (a2 r) (b2 r),h⟩
def Qoa (n:Nod) (l:List Row) (hn:NIn n) (hl:RF l):Tot (λ k=>Fu k n l) (λ r=>r=Qna n l):=by
 have h1:=hn.2.1.1;have h2:=hl.1;unfold Fu Qna;refine Zsa (I9 n hn) ?_;refine Zsa (Pv n hn) ?_;cases J0 n
 ·exact Zja rfl (Zga rfl)
 refine Zia rfl (Zsa (Gwa l (by unfold Few;omega) hl.2) ?_);cases I1 l
 ·exact Zja rfl (Zga rfl)
 refine Zia rfl (Zsa (Ija n.2.2.1 l (by omega)) ?_);refine Zna (λ h=>?_) (λ h=>?_)
 ·rw[decide_eq_true (show (C2a n.2.2.1 l).length > 60 by omega)];refine Zsa (I9 n hn) ?_;exact Zga rfl
 ·rw[decide_eq_false (show ¬ (C2a n.2.2.1 l).length > 60 by omega)];exact Zga rfl
def Qr (s:ByteArray) (f:Fil):Row:=(s,f.1,f.2.1,(f.2.2.length:Int))
def Oz (n:Nod) (s:ByteArray) (f:Fil) (sure:Bool):Nod×Int:=bif (n.2.2.2.length:Int)==60 then (n,3) else
 ((n.1,(keep n.2.1 s f sure).1,n.2.2.1,bif (keep n.2.1 s f sure).2==0&&sure then n.2.2.2++[Qr s f] else n.2.2.2),(keep n.2.1 s f sure).2)
def Y3a (n:Nod) (s:ByteArray) (f:Fil) (sure:Bool):Nod×Int:=bif J0 n&&(Bc s&&Dw f) then Oz n s f sure else (n,2)
def Qpa {s:ByteArray} {f:Fil} (hs:Bc s=true) (hf:Dw f=true):L9 (Qr s f)=true:=by
 obtain⟨h1,h2,h3⟩:=Ha.1 hf;unfold L9 Qr;dsimp only;rw[hs,h1,Dl.2 ⟨by omega,by omega⟩]
 cases hd:f.2.1 with
 |false=>rfl
 |true=>rw[h3 hd];rfl
def Mra {n:Nod} {s:ByteArray} {f:Fil} {sure:Bool} (hn:NG n) (hs:Bc s=true) (hf:Dw f=true):NG (Oz n s f sure).1:=by
 obtain⟨h1,h2,h3,h4,h5⟩:=Cf.1 hn.1;have hk:=Sta (s:=s) (f:=f) (sure:=sure) hn.g;unfold Oz;cases hl:((n.2.2.2.length:Int)==60)
 case true=>exact hn
 have hl':n.2.2.2.length≠60:=by
  intro e;rw[e]at hl;cases hl
 refine⟨Cf.2 ⟨?_,h2,hk.1,h4,?_⟩,hk.2⟩
 ·show ∀ r∈bif (keep n.2.1 s f sure).2==0&&sure then n.2.2.2++[Qr s f] else n.2.2.2,L9 r=true
  cases (keep n.2.1 s f sure).2==0&&sure
  ·exact h1
  intro r hr;rcases Vm.1 hr with hr|hr
  ·exact h1 r hr
  ·rw[Vq.1 hr];exact Qpa hs hf
 ·show (bif (keep n.2.1 s f sure).2==0&&sure then n.2.2.2++[Qr s f] else n.2.2.2).length≤60
  cases (keep n.2.1 s f sure).2==0&&sure with
  |false=>exact h5
  |true=>rw[cond_true,Vi];simp only[Vh,Vs];omega
def Cha (n:Nod) (s:ByteArray) (b:Int):Nod×Bool:=bif J0 n&&((lkD n.2.1 s).2==0&&(Z4 n.2.1 s b).2) then ((n.1,(Z4 n.2.1 s b).1,n.2.2),true) else (n,false)
def Sua {n:Nod} {s:ByteArray} {b:Int} (hn:NG n):NG (Cha n s b).1:=by
 obtain⟨h1,h2,h3,h4,h5⟩:=Cf.1 hn.1;have hr:=Xfa (s:=s) (n:=b) hn.g;unfold Cha
 cases J0 n&&((lkD n.2.1 s).2==0&&(Z4 n.2.1 s b).2) with
 |false=>exact hn
 |true=>exact⟨Cf.2 ⟨h1,h2,hr.1,h4,h5⟩,hr.2⟩
def Bb:Nod:=((0:Int),(([]:List Nmd),([]:List Nmd)),([]:List Row),([]:List Row))

abbrev Dev:=Int×Int×Int
abbrev Rng:=Int×List (List Int)
def Kg:Dev:=((0:Int),((0:Int),(0:Int)))
def Jj (l:List Int) (n:Int):Bool:=l.any (· == n)
def Jk {l:List Int} {n:Int}:Jj l n=true↔n∈l:=by
 unfold Jj;rw[Zz];constructor
 ·rintro⟨x,hx,e⟩;rw[← eq_of_beq e];exact hx
 ·intro h;exact⟨n,h,beq_self_eq_true n⟩
def Oo (l:List Int) (n:Int) (hl:l.length≤4000000000000000):Tot (λ k=>Be k l n) (λ r=>r=Jj l n):=by
 unfold Be
 refine Zha (Q:=λ r=>r=bif Jj l n then .inl true else .inr ()) ?_ (by rintro r rfl;cases Jj l n<;>exact Zga rfl)
 refine Zpa (L:=λ k i (_:Unit)=>Eo k n l (l.length:Int) i) (Q:=λ r=>r=bif Jj l n then .inl true else .inr ()) l.length (λ j _=>Jj (l.drop j) n=Jj l n) ?_ ?_ 0 () (Vu _) rfl
 ·intro _ h;rw[Yk]at h;simp (disch:=omega) only [Eo,dF,← h];exact Zga rfl
 ·intro j _ hj h next;rw[Bs (d:=0) hj]at h;simp (disch:=omega) only [Eo,dT,Vj,w64];unfold Jj at h;rw[Cdb]at h;refine Zma (λ hc=>Zga ?_) (λ hc=>next () ?_)
  ·rw[hc,C5b]at h;unfold Jj;rw[← h];rfl
  ·rw[hc,Ajb]at h;exact h
def Ia (l:List Dev) (id:Int):Option Dev:=l.find? (λ d=>d.1==id)
def Ypa:Option Dev→Dev×Bool
 |some d=>(d,true)
 |none=>(Kg,false)
def Wy {l:List Dev} {id:Int} {d:Dev} (h:Ia l id=some d):d∈l∧d.1=id:=⟨List.mem_of_find?_eq_some h,eq_of_beq (List.find?_some (p:=λ d:Dev=>d.1==id) h)⟩
def Nc (l:List Dev) (id:Int) (hl:l.length≤1000000000):Tot (λ k=>D6 k l id) (λ r=>r=Ypa (Ia l id)):=by
 unfold D6
 refine Zha (Q:=λ r=>r=match Ia l id with|some d => .inl (true,d)|none => .inr (0,0,0)) ?_ (by rintro r rfl;cases Ia l id<;>exact Zga rfl)
 refine Zpa (L:=λ k i (_:Unit)=>Fk k id l (l.length:Int) i (0,0,0)) (Q:=λ r=>r=match Ia l id with|some d => .inl (true,d)|none => .inr (0,0,0)) l.length (λ j _=>Ia (l.drop j) id=Ia l id) ?_ ?_ 0 () (Vu _) rfl
 ·intro _ h;rw[Yk]at h;simp (disch:=omega) only [Fk,dF,← h];exact Zga rfl
 ·intro j _ hj h next;rw[Bs (d:=Kg) hj]at h;unfold Ia at h;rw[List.find?_cons]at h;simp (disch:=omega) only [Fk,dT,Vj,w64];refine Zma (λ hc=>Zga ?_) (λ hc=>next () ?_)
  ·rw[show ((l.getD j Kg).1==id)=true from hc]at h;unfold Ia;rw[← h];rfl
  ·rw[show ((l.getD j Kg).1==id)=false from hc]at h;exact h
def Z6 (d:Dev):Bool:=inR d.1 0 20&&(inR d.2.1 0 20&&inR d.2.2 1 1000)
def Ada:Option Int→List Dev→Bool
 |_,[]=>true
 |none,d::l=>Z6 d&&Ada (some d.1) l
 |some q,d::l=>Z6 d&&(decide (q<d.1)&&Ada (some d.1) l)
def H6 (l:List Dev):Bool:=Ada none l&&inR (l.length:Int) 1 12
def Iua (l:List Dev):Nat→Option Int
 |0=>none
 |i+1=>some (l.getD i Kg).1
def Z7:∀ (p:Option Int) (l:List Dev),Ada p l=true↔l.Pairwise (λ a b=>a.1<b.1)∧(∀ d∈l,Z6 d=true)∧(∀ q,p=some q→∀ d∈l,q<d.1)
 |p,[]=>by cases p<;>simp[Ada]
 |none,d::l=>by
  simp only[Ada,Va,Z7 (some d.1) l,Wd,Vl,forall_eq_or_imp,Vc];constructor
  ·rintro⟨h1,h2,h3,h4⟩;exact⟨⟨h4 _ rfl,h2⟩,⟨h1,h3⟩,λ q h=>by cases h⟩
  ·rintro⟨⟨h1,h2⟩,⟨h3,h4⟩,_⟩;exact⟨h3,h2,h4,λ q e=>by subst e;exact h1⟩
 |some q,d::l=>by
  simp only[Ada,Va,decide_eq_true_iff,Z7 (some d.1) l,Wd,Vl,forall_eq_or_imp,Vc];constructor
  ·rintro⟨h1,hq,h2,h3,h4⟩;exact⟨⟨h4 _ rfl,h2⟩,⟨h1,h3⟩,λ q' e=>by subst e;exact⟨hq,λ x hx=>by have:=h4 _ rfl x hx;omega⟩⟩
  ·rintro⟨⟨h1,h2⟩,⟨h3,h4⟩,h5⟩;exact⟨h3,(h5 q rfl).1,h2,h4,λ q e=>by subst e;exact h1⟩
def D7 {l:List Dev}:H6 l=true↔l.Pairwise (λ a b=>a.1<b.1)∧(∀ d∈l,Z6 d=true)∧1≤l.length∧l.length≤12:=by
 unfold H6;rw[Va,Z7,Dl];constructor
 ·rintro⟨⟨h1,h2,_⟩,h3,h4⟩;exact⟨h1,h2,by omega,by omega⟩
 ·rintro⟨h1,h2,h3,h4⟩;exact⟨⟨h1,h2,λ q h=>by cases h⟩,by omega,by omega⟩
def Ir {d:Dev}:Z6 d=true↔(0≤d.1∧d.1≤20)∧(0≤d.2.1∧d.2.1≤20)∧1≤d.2.2∧d.2.2≤1000:=by
 unfold Z6;rw[Va,Va,Dl,Dl,Dl]
def Msa {l:List Dev} {j:Nat} (hj:j<l.length):Ada (Iua l j) (l.drop j)=(Z6 (l.getD j Kg)&&((bif decide (0<j) then decide ((l.getD (j-1) Kg).1<(l.getD j Kg).1) else true)&&Ada (Iua l (j+1)) (l.drop (j+1)))):=by
 rw[Bs (d:=Kg) hj]
 cases j with
 |zero=>simp[Iua,Ada]
 |succ j=>simp[Iua,Ada]
def S6 (l:List Dev) (hl:l.length≤1000000000):Tot (λ k=>Bj k l) (λ r=>r=H6 l):=by
 unfold Bj H6;refine Zha (Q:=λ r=>r=bif Ada none l then .inr l else .inl false) ?_ ?_
 ·refine Zpa (L:=λ k i (_:Unit)=>E8 k l l (l.length:Int) i) (Q:=λ r=>r=bif Ada none l then .inr l else .inl false) l.length (λ j _=>Ada (Iua l j) (l.drop j)=Ada none l) ?_ ?_ 0 () (Vu _) rfl
  ·intro _ h;rw[Yk]at h
   have:Ada none l=true:=by rw[← h];cases Iua l l.length<;>rfl
   simp (disch:=omega) only [E8,dF,this];exact Zga rfl
  ·intro j _ hj h next;rw[Msa hj]at h;simp (disch:=omega) only [E8,dT,Vj,w64,Ku,Vt];have e0:l.getD j ((0:Int),((0:Int),(0:Int)))=l.getD j Kg:=rfl;rw[e0]
   have no:Z6 (l.getD j Kg)=false→Ada none l=false:=λ c=>by rw[← h,c];rfl
   unfold Z6 at no h;refine Zma (λ hc=>Zga ?_) (λ h1=>Zma (λ hc=>Zga ?_) (λ h2=>Zma (λ hc=>Zga ?_) (λ h3=>?_)))
   ·rw[no (by rw[Vy]at hc;rw[hc];rfl)];rfl
   ·rw[no (by rw[Vy]at hc;rw[hc,Zwa,Ze])];rfl
   ·rw[no (by rw[Vy]at hc;rw[hc,Ze,Ze])];rfl
   ·rw[Ye]at h1 h2 h3;rw[h1,h2,h3]at h;refine Zna (λ h0=>?_) (λ h0=>next () ?_)
    ·simp (disch:=omega) only [dT,w64,show toNat ((j:Int)-1)=j-1 by omega];rw[decide_eq_true (show 0<j by omega)]at h;refine Zna (λ hc=>Zga ?_) (λ hc=>next () ?_)
     ·have hc':¬ ((l.getD (j-1) Kg).1<(l.getD j Kg).1):=by
       have:(l.getD (j-1) Kg).1≥(l.getD j Kg).1:=hc;omega
      rw[decide_eq_false hc']at h;rw[← h];rfl
     ·have hc':(l.getD (j-1) Kg).1<(l.getD j Kg).1:=by
       have:¬ ((l.getD (j-1) Kg).1≥(l.getD j Kg).1):=hc;omega
      rw[decide_eq_true hc']at h;exact h
    ·rw[decide_eq_false (show ¬ 0<j by omega)]at h;exact h
 ·rintro r rfl;cases Ada none l
  ·exact Zga rfl
  simp only[cond_true,B5b,Ku,Vt];exact Zga rfl
def Ewa (l:List Dev) (out:List Int) (id:Int):List Int:=match Ia l id with
 |some d=>bif Jj out d.2.1 then out else out++[d.2.1]
 |none=>out
def Ff (ids:List Int) (l:List Dev):List Int:=ids.foldl (Ewa l) []
def Cia (l:List Dev) (out:List Int) (id:Int):(Ewa l out id).length≤out.length+1:=by
 unfold Ewa
 cases Ia l id with
 |none=>exact Aib _
 |some d=>
  simp only
  cases Jj out d.2.1 with
  |true=>exact Aib _
  |false=>rw[cond_false,Vi];exact Vv _
def Cja (l:List Dev):∀ (ids out:List Int),(ids.foldl (Ewa l) out).length≤out.length+ids.length
 |[],out=>by simp
 |id::ids,out=>by
  have h1:=Cja l ids (Ewa l out id);have h2:=Cia l out id;rw[Zc,Vh];omega
def Cka (ids:List Int) (l:List Dev) (hi:ids.length≤5000000) (hl:l.length≤5000000):Tot (λ k=>C7 k ids l) (λ r=>r=Ff ids l):=by
 unfold C7;refine Zha (Q:=λ r=>r=Ff ids l) ?_ (by rintro r rfl;exact Zga rfl);refine Zpa (L:=λ k i s=>Cl k l s ids (ids.length:Int) i) (Q:=λ r=>r=Ff ids l) ids.length (λ j s=>(ids.drop j).foldl (Ewa l) s=Ff ids l∧s.length≤j) ?_ ?_ 0 [] (Vu _) ⟨rfl,Vv _⟩
 ·rintro s ⟨h,_⟩;rw[Yk]at h;simp (disch:=omega) only [Cl,dF];exact Zga h
 ·rintro j s hj ⟨h,hs⟩ next;rw[Bs (d:=0) hj,Zc]at h;simp (disch:=omega) only [Cl,dT,Vj,w64];have hz:=Cia l s (ids.getD j 0);refine Zsa (Nc l (ids.getD j 0) (by omega)) ?_;unfold Ewa at h hz
  cases hd:Ia l (ids.getD j 0) with
  |none=>
   rw[hd]at h;exact Zia rfl (next _ ⟨h,by omega⟩)
  |some d=>
   rw[hd]at h hz;refine Zja rfl (Zsa (Oo s d.2.1 (by omega)) ?_);simp only at h hz
   cases hh:Jj s d.2.1 with
   |true=>
    rw[hh]at h;exact Zia rfl (next _ ⟨h,by omega⟩)
   |false=>
    rw[hh]at h hz;exact Zja rfl (Zoa (by simp only[Vh,Vs];omega) (next _ ⟨h,by rw[cond_false]at hz;exact Zt hz (by omega)⟩))

def Tz {l:List Int} {j:Nat} (hj:j<l.length) (h:(l.take j).Nodup) (hn:l.getD j 0∉l.take j):(l.take (j+1)).Nodup:=by
 rw[Yj hj,Wo];rw[Vb,Ve hj,Wh]at hn;exact⟨h,by simp,λ a ha b hb e=>by rw[Vq.1 hb]at e;subst e;exact hn ha⟩
def Mta {l:List Int} {j:Nat} (hj:j<l.length) (hn:l.getD j 0∈l.take j):¬ l.Nodup:=by
 intro h;have h1:(l.take (j+1)).Nodup:=h.sublist (Cbb _ _);rw[Yj hj,Wo]at h1;rw[Vb,Ve hj,Wh]at hn;exact h1.2.2 _ hn _ (by simp) rfl
def Cla (l:List Int) (hl:l.length≤5000000):Tot (λ k=>Ec k l) (λ r=>r=decide l.Nodup):=by
 unfold Ec
 refine Zha (Q:=λ r=>r=bif decide l.Nodup then .inr () else .inl false) ?_ (by rintro r rfl;cases decide l.Nodup<;>exact Zga rfl)
 refine Zpa (L:=λ k i (_:Unit)=>Fn k l l (l.length:Int) i) (Q:=λ r=>r=bif decide l.Nodup then .inr () else .inl false) l.length (λ j _=>(l.take j).Nodup) ?_ ?_ 0 () (Vu _) (by simp)
 ·intro _ h;rw[Zv]at h;simp (disch:=omega) only [Fn,dF,decide_eq_true h];exact Zga rfl
 ·intro j _ hj h next;simp (disch:=omega) only [Fn,dT,Vj,w64];refine Zsa (Oo (l.take j) (l.getD j 0) (by rw[Vp];omega)) ?_;refine Zma (λ hc=>Zga ?_) (λ hc=>next () (Tz hj h (λ c=>by rw[Jk.2 c]at hc;cases hc)));rw[decide_eq_false (Mta hj (Jk.1 hc))];rfl
def RBd (r:Rng):Prop:=r.2.length≤2000000∧∀ p∈r.2,p.length≤2000000
def Ly (l:List Dev) (n:Int) (p:List Int):Bool:=(decide p.Nodup&&((p.length:Int)==n))&&p.all λ id=>(Ia l id).isSome
def Gw (r:Rng) (l:List Dev):Bool:=H6 l&&(inR r.1 1 5&&(inR (r.2.length:Int) 1 64&&r.2.all (Ly l r.1)))
def Bp {r:Rng} {l:List Dev}:Gw r l=true↔H6 l=true∧(1≤r.1∧r.1≤5)∧(1≤r.2.length∧r.2.length≤64)∧∀ p∈r.2,p.Nodup∧(p.length:Int)=r.1∧∀ id∈p,∃ d,Ia l id=some d:=by
 unfold Gw Ly;simp only[Va,Dl,Wg,decide_eq_true_iff,beq_iff_eq,Zh];constructor
 ·rintro⟨h1,h2,⟨h3,h4⟩,h5⟩;exact⟨h1,h2,⟨by omega,by omega⟩,λ p hp=>⟨(h5 p hp).1.1,(h5 p hp).1.2,(h5 p hp).2⟩⟩
 ·rintro⟨h1,h2,⟨h3,h4⟩,h5⟩;exact⟨h1,h2,⟨by omega,by omega⟩,λ p hp=>⟨⟨(h5 p hp).1,(h5 p hp).2.1⟩,(h5 p hp).2.2⟩⟩
def Ka {r:Rng} {l:List Dev} (h:Gw r l=true):RBd r:=by
 obtain⟨_,h2,h3,h4⟩:=Bp.1 h;exact⟨by omega,λ p hp=>by have:=(h4 p hp).2.1;omega⟩
def Qqa (r:Rng) (l:List Dev) (hr:RBd r) (hl:l.length≤5000000):Tot (λ k=>Dr k r l) (λ b=>b=Gw r l):=by
 unfold Dr Gw;refine Zsa (S6 l (by omega)) ?_;cases hd:H6 l
 ·exact Zja rfl (Zga rfl)
 have hrl:=hr.1;simp only[Zk,cond_false,Ku,Vt,Wn];cases inR r.1 1 5
 ·exact Zja rfl (Zga rfl)
 refine Zia rfl ?_;cases inR (r.2.length:Int) 1 64
 ·exact Zja rfl (Zga rfl)
 refine Zia rfl (Zha (Q:=λ b=>b=bif r.2.all (Ly l r.1) then .inr () else .inl false) ?_ (by rintro r' rfl;cases r.2.all (Ly l r.1)<;>exact Zga rfl))
 refine Zpa (L:=λ k i (_:Unit)=>Es k l r.2 (r.2.length:Int) i r) (Q:=λ b=>b=bif r.2.all (Ly l r.1) then .inr () else .inl false) r.2.length (λ j _=>(r.2.drop j).all (Ly l r.1)=r.2.all (Ly l r.1)) ?_ ?_ 0 () (Vu _) rfl
 ·intro _ h;rw[Yk]at h;simp (disch:=omega) only [Es,dF,← h];exact Zga rfl
 ·intro j _ hj h next;rw[Bs (d:=[]) hj,Atb]at h;have hp:=hr.2 _ (A3 (d:=[]) hj);simp (disch:=omega) only [Es,dT,Vj,w64]
  have no:Ly l r.1 (r.2.getD j [])=false→r.2.all (Ly l r.1)=false:=λ c=>by rw[← h,c];rfl
  unfold Ly at no h;refine Zma (λ hc=>Zga ?_) (λ h1=>Zha (Cla (r.2.getD j []) (by omega)) ?_)
  ·have hc':(((r.2.getD j []).length:Int)==r.1)=false:=by simpa using hc
   rw[show r.2.all (Ly l r.1)=false from no (by rw[hc',Ze,Zwa])];rfl
  ·have h1':(((r.2.getD j []).length:Int)==r.1)=true:=by simpa using h1
   rintro b rfl;refine Zma (λ hc=>Zga ?_) (λ h2=>?_)
   ·rw[show r.2.all (Ly l r.1)=false from no (by rw[Vy]at hc;rw[hc];rfl)];rfl
   ·rw[Ye]at h2;generalize r.2.getD j []=p at *;refine Zha (Q:=λ b=>b=bif p.all (λ id=>(Ia l id).isSome) then .inr (l,r.2,(r.2.length:Int),(j:Int),r) else .inl false) ?_ ?_
    ·refine Zpa (L:=λ k i (_:Unit)=>Er k l r.2 (r.2.length:Int) (j:Int) p (p.length:Int) i r) (Q:=λ b=>b=bif p.all (λ id=>(Ia l id).isSome) then .inr (l,r.2,(r.2.length:Int),(j:Int),r) else .inl false) p.length (λ m _=>(p.drop m).all (λ id=>(Ia l id).isSome)=p.all (λ id=>(Ia l id).isSome)) ?_ ?_ 0 () (Vu _) rfl
     ·intro _ h;rw[Yk]at h;simp (disch:=omega) only [Er,dF,← h];exact Zga rfl
     ·intro m _ hm h next;rw[Bs (d:=0) hm,Atb]at h;simp (disch:=omega) only [Er,dT,Vj,w64];refine Zsa (Nc l (p.getD m 0) (by omega)) ?_
      cases hd:Ia l (p.getD m 0) with
      |none=>exact Zja rfl (Zga (by rw[← h,hd];rfl))
      |some d=>exact Zia rfl (next () (by rw[hd]at h;exact h))
    ·rintro b rfl;cases hc:p.all (λ id=>(Ia l id).isSome)
     ·exact Zga (by rw[show r.2.all (Ly l r.1)=false from no (by rw[hc,Ze])];rfl)
     simp (disch:=omega) only [cond_true,B5b,w64];exact next () (by rw[h2,h1',hc]at h;exact h)
def Rc (l:List Int) (hl:l.length≤5000000):Bm l=some l:=by
 unfold Bm;rw[bT (by simp only[Vs];omega),Wk]
def Rd (r:Rng) (hr:RBd r):Tot (λ k=>C8 k r) (λ x=>x=r):=by
 have hrl:=hr.1;unfold C8;refine Zha (Q:=λ x=>x=((0,[]),r)) ?_ (by rintro x rfl;exact Zga rfl);refine Zpa (L:=λ k i s=>Ck k r.2 (r.2.length:Int) i (0,[]) (r.1,s)) (Q:=λ x=>x=((0,[]),r)) r.2.length (λ j s=>s=r.2.take j) ?_ ?_ 0 [] (Vu _) rfl
 ·rintro s rfl;simp (disch:=omega) only [Ck,dF,Zv];exact Zga rfl
 ·rintro j s hj rfl next;have hp:=hr.2 _ (A3 (d:=[]) hj);simp (disch:=omega) only [Ck,dT,Vj,w64,Rc,Vt];refine Zoa (by simp only[Vp,Vh,Vs];omega) (next _ ?_);rw[Yj hj,Vb,Ve hj,Wh]
def cnt (id n x:Int):Int:=bif x==id then n+1 else n
def Exa (id n:Int) (p:List Int):Int:=p.foldl (cnt id) n
def He (r:Rng) (id:Int):Int:=r.2.foldl (Exa id) 0
def Eya (id:Int):∀ (p:List Int) (n:Int),n≤Exa id n p∧Exa id n p≤n+p.length
 |[],n=>by simp[Exa]
 |x::p,n=>by
  have h:=Eya id p (cnt id n x);unfold Exa at h ⊢
  have hc:n≤cnt id n x∧cnt id n x≤n+1:=by unfold cnt;cases x==id<;>simp<;>omega
  rw[Zc,Vh];omega
def Mua (id:Int) (m:Nat):∀ (ps:List (List Int)) (n:Int),(∀ p∈ps,p.length≤m)→n≤ps.foldl (Exa id) n∧ps.foldl (Exa id) n≤n+(m*ps.length:Nat)
 |[],n,_=>by simp
 |p::ps,n,h=>by
  have h1:=Mua id m ps (Exa id n p) (λ q hq=>h q (Vg _ hq));have h2:=Eya id p n;have h3:=h p Yd;rw[Zc,Vh,Nat.mul_succ];omega
def Pw {r:Rng} (hr:RBd r) (id:Int):0≤He r id∧He r id≤4000000000000:=by
 have h:=Mua id 2000000 r.2 0 hr.2;have h2:=hr.1;unfold He;omega
def Z8 (r:Rng) (id:Int) (hr:RBd r):Tot (λ k=>Dz k r id) (λ x=>x=He r id):=by
 have hrl:=hr.1;unfold Dz;refine Zha (Q:=λ x=>x=He r id) ?_ (by rintro x rfl;exact Zga rfl);refine Zpa (L:=λ k i s=>Ep k id s r.2 (r.2.length:Int) i) (Q:=λ x=>x=He r id) r.2.length (λ j s=>(r.2.drop j).foldl (Exa id) s=He r id∧0≤s∧s≤2000000*j) ?_ ?_ 0 0 (Vu _) ⟨rfl,by omega,by omega⟩
 ·rintro s ⟨h,_⟩;rw[Yk]at h;simp (disch:=omega) only [Ep,dF];exact Zga h
 ·rintro j s hj ⟨h,h0,h1⟩ next;rw[Bs (d:=[]) hj,Zc]at h;have hp:=hr.2 _ (A3 (d:=[]) hj);have hc:=Eya id (r.2.getD j []) s;simp (disch:=omega) only [Ep,dT,Vj];refine Zha (Q:=λ x=>x=(id,Exa id s (r.2.getD j []),r.2,(r.2.length:Int),(j:Int))) ?_ ?_
  ·generalize r.2.getD j []=p at *;refine Zpa (L:=λ k i s=>E9 k id s r.2 (r.2.length:Int) (j:Int) p (p.length:Int) i) (Q:=λ x=>x=(id,Exa id s p,r.2,(r.2.length:Int),(j:Int))) p.length (λ m z=>Exa id z (p.drop m)=Exa id s p∧0≤z∧z≤2000000*j+m) ?_ ?_ 0 s (Vu _) ⟨rfl,h0,by omega⟩
   ·rintro z ⟨h,_⟩;rw[Yk]at h;simp (disch:=omega) only [E9,dF];exact Zga (by rw[← h];rfl)
   ·rintro m z hm ⟨h,z0,z1⟩ next;rw[Bs (d:=0) hm]at h;simp (disch:=omega) only [E9,dT,Vj,w64];have h':Exa id (cnt id z (p.getD m 0)) (p.drop (m+1))=Exa id s p:=h;unfold cnt at h';refine Zma (λ hc=>next _ ?_) (λ hc=>next _ ?_)
    ·rw[hc]at h';exact⟨h',by omega,by omega⟩
    ·rw[hc]at h';exact⟨h',by omega,by omega⟩
  ·rintro x rfl;simp (disch:=omega) only [w64];exact next _ ⟨h,by omega,by omega⟩

def Z5a {a w:Int} (h0:0≤a) (h1:a≤4000000000001) (w0:0≤w) (w1:w≤1000) : -9223372036854775808≤a*w∧a*w≤9223372036854775807:=by
 have e1:=Int.mul_nonneg h0 w0;have e2:a*w≤4000000000001*1000:=Int.mul_le_mul h1 w1 w0 (by decide);omega
def U0 (r:Rng) (p zs:List Int) (a:Option (Dev×Bool)) (d:Dev):Option (Dev×Bool):=
 bif Jj p d.1 then a else match a with
 |none=>some (d,!(Jj zs d.2.1))
 |some (b,fr)=>bif (!(Jj zs d.2.1)&&!fr)||(((!(Jj zs d.2.1))==fr)&&decide ((He r d.1+1)*b.2.2<(He r b.1+1)*d.2.2)) then some (d,!(Jj zs d.2.1)) else some (b,fr)
def Oq (r:Rng) (p:List Int) (l:List Dev):Option (Dev×Bool):=l.foldl (U0 r p (Ff p l)) none
def S7 (r:Rng) (p:List Int) (l:List Dev):Int:=match Oq r p l with
 |some b=>b.1.1
 |none => -1
def H5a {r:Rng} {p zs:List Int} {l:List Dev} {a:Option (Dev×Bool)} {d:Dev} (ha:∀ b,a=some b→b.1∈l∧b.1.1∉p) (hd:d∈l):∀ b,U0 r p zs a d=some b→b.1∈l∧b.1.1∉p:=by
 intro b hb;unfold U0 at hb;cases hp:Jj p d.1
 case true=>rw[hp]at hb;exact ha b hb
 have hn:d.1∉p:=λ c=>by rw[Jk.2 c]at hp;cases hp
 rw[hp,cond_false]at hb
 cases a with
 |none=>cases hb;exact⟨hd,hn⟩
 |some c=>
  obtain⟨c,fr⟩:=c;simp only at hb
  cases hq:(!(Jj zs d.2.1)&&!fr)||(((!(Jj zs d.2.1))==fr)&&decide ((He r d.1+1)*c.2.2<(He r c.1+1)*d.2.2)) with
  |true=>rw[hq]at hb;cases hb;exact⟨hd,hn⟩
  |false=>rw[hq]at hb;cases hb;exact ha _ rfl
def H6a {r:Rng} {p zs:List Int} {l:List Dev}:∀ (m:List Dev) (a:Option (Dev×Bool)),(∀ b,a=some b→b.1∈l∧b.1.1∉p)→(∀ d∈m,d∈l)→∀ b,m.foldl (U0 r p zs) a=some b→b.1∈l∧b.1.1∉p
 |[],_,ha,_=>ha
 |d::m,_,ha,hm=>H6a m _ (H5a ha (hm d Yd)) (λ x hx=>hm x (Vg _ hx))
def H7a {r:Rng} {p:List Int} {l:List Dev} {b:Dev×Bool} (h:Oq r p l=some b):b.1∈l∧b.1.1∉p:=H6a l none (λ b h=>by cases h) (λ _ h=>h) b h
def Iva {r:Rng} {p zs:List Int} {a:Option (Dev×Bool)} {d:Dev} (h:a.isSome=true∨d.1∉p):(U0 r p zs a d).isSome=true:=by
 unfold U0
 cases hp:Jj p d.1 with
 |true=>
  rcases h with h|h
  ·exact h
  ·exact absurd (Jk.1 hp) h
 |false=>
  cases a with
  |none=>rfl
  |some c=>
   obtain⟨c,fr⟩:=c;simp only[cond_false]
   cases (!(Jj zs d.2.1)&&!fr)||(((!(Jj zs d.2.1))==fr)&&decide ((He r d.1+1)*c.2.2<(He r c.1+1)*d.2.2))<;>rfl
def Wz {r:Rng} {p zs:List Int}:∀ (m:List Dev) (a:Option (Dev×Bool)),(a.isSome=true∨∃ d∈m,d.1∉p)→(m.foldl (U0 r p zs) a).isSome=true
 |[],a,h=>by
  rcases h with h|⟨d,h,_⟩
  ·exact h
  ·cases h
 |d::m,a,h=>by
  refine Wz m _ ?_
  by_cases hd:a.isSome=true∨d.1∉p
  ·exact .inl (Iva hd)
  ·rcases h with h|⟨x,hx,hn⟩
   ·exact absurd (.inl h) hd
   ·rcases Vl.1 hx with rfl|hx
    ·exact absurd (.inr hn) hd
    ·exact .inr ⟨x,hx,hn⟩
def Qra {r:Rng} {p:List Int} {l:List Dev} (h:∃ d∈l,d.1∉p):∃ d∈l,S7 r p l=d.1∧d.1∉p:=by
 obtain⟨b,hb⟩:=Zh.1 (Wz (r:=r) (zs:=Ff p l) l none (.inr h));obtain⟨h1,h2⟩:=H7a hb;exact⟨b.1,h1,by unfold S7;rw[show Oq r p l=some b from hb],h2⟩
def Iwa (r:Rng) (p:List Int) (l:List Dev):(Oq r p l=none∧S7 r p l = -1)∨∃ b,Oq r p l=some b∧S7 r p l=b.1.1∧b.1∈l∧b.1.1∉p:=by
 cases h:Oq r p l with
 |none=>exact .inl ⟨rfl,by unfold S7;rw[h]⟩
 |some b=>exact .inr ⟨b,rfl,by unfold S7;rw[h],H7a h⟩
def U1 (p:List Int) (l:List Dev):(Ff p l).length≤p.length:=by
 have:=Cja l p [];rwa [Vs,Wf]at this
def bs (r:Rng):Option (Dev×Bool)→Int×Bool×Dev
 |some (b,fr)=>(He r b.1+1,fr,b)
 |none=>(0,false,-1,0,0)
def H8a (r:Rng) (p:List Int) (l:List Dev) (hr:RBd r) (hp:p.length≤2000000) (hl:H6 l=true):Tot (λ k=>Eg k r p l) (λ x=>x=S7 r p l):=by
 obtain⟨_,hdv,_,h12⟩:=D7.1 hl;have hz:=U1 p l;unfold Eg;refine Zsa (S6 l (by omega)) ?_;refine Zia (by rw[hl];rfl) (Zsa (Cka p l (by omega) (by omega)) ?_)
 refine Zha (Q:=λ x=>x=match Oq r p l with|some b=>b.1|none=>(-1,0,0)) ?_ (by rintro x rfl;unfold S7;cases Oq r p l<;>exact Zga rfl)
 refine Zpa (L:=λ k i (s:Int×Bool×Dev)=>Bf k (Ff p l) s.1 s.2.1 l (l.length:Int) i r p s.2.2) (Q:=λ x=>x=match Oq r p l with|some b=>b.1|none=>(-1,0,0)) l.length
  (λ j s=>∃ a,s=bs r a∧(∀ b,a=some b→b.1∈l∧b.1.1∉p)∧(l.drop j).foldl (U0 r p (Ff p l)) a=Oq r p l) ?_ ?_ 0 (0,false,-1,0,0) (Vu _) ⟨none,rfl,λ b h=>(by cases h),rfl⟩
 ·rintro s ⟨a,rfl,_,h⟩;rw[Yk]at h;simp (disch:=omega) only [Bf,dF];refine Zga ?_;rw[← h]
  cases a<;>rfl
 ·rintro j s hj ⟨a,rfl,ha,h⟩ next;rw[Bs (d:=Kg) hj,Zc]at h;have hd:=A3 (d:=Kg) hj;obtain⟨d,ed⟩:∃ d:Dev,l.getD j Kg=d:=⟨_,rfl⟩;rw[ed]at h hd;have e0:l.getD j ((0:Int),((0:Int),(0:Int)))=d:=ed;have ha':=H5a (r:=r) (p:=p) (zs:=Ff p l) ha hd;obtain⟨_,_,w0,w1⟩:=Ir.1 (hdv _ hd);have l1:=Pw hr d.1;simp (disch:=omega) only [Bf,dT,Vj,w64,e0];unfold U0 at h ha';refine Zsa (Oo p d.1 (by omega)) ?_
  cases hp':Jj p d.1 with
  |true=>
   rw[hp']at h;exact Zja rfl (next _ ⟨a,rfl,ha,h⟩)
  |false=>
   rw[hp',cond_false]at h ha';refine Zia rfl (Zsa (Z8 r d.1 hr) ?_);refine Zsa (Oo (Ff p l) d.2.1 (by omega)) ?_;simp (disch:=omega) only [w64];have take:(∀ b,some (d,!(Jj (Ff p l) d.2.1))=some b→b.1∈l∧b.1.1∉p)→(l.drop (j+1)).foldl (U0 r p (Ff p l)) (some (d,!(Jj (Ff p l) d.2.1)))=Oq r p l→Tot (λ k=>Bf k (Ff p l) (He r d.1+1) (!(Jj (Ff p l) d.2.1)) l (l.length:Int) ((j:Int)+1) r p d) (λ x=>x=match Oq r p l with|some b=>b.1|none=>(-1,0,0)):=λ h1 h2=>next (He r d.1+1,!(Jj (Ff p l) d.2.1),d) ⟨_,rfl,h1,h2⟩
   cases a with
   |none=>exact Zka (show (-1:Int)<0 by decide) (take ha' h)
   |some bf=>
    obtain⟨b,fr⟩:=bf;have hb:b∈l:=(ha _ rfl).1;obtain⟨⟨i0,_⟩,_,v0,v1⟩:=Ir.1 (hdv _ hb);have l2:=Pw hr b.1;have m1:=Z5a (a:=He r d.1+1) (w:=b.2.2) (by omega) (by omega) (by omega) v1;have m2:=Z5a (a:=He r b.1+1) (w:=d.2.2) (by omega) (by omega) (by omega) w1;have stay:(l.drop (j+1)).foldl (U0 r p (Ff p l)) (some (b,fr))=Oq r p l→Tot (λ k=>Bf k (Ff p l) (He r b.1+1) fr l (l.length:Int) ((j:Int)+1) r p b) (λ x=>x=match Oq r p l with|some b=>b.1|none=>(-1,0,0)):=λ h2=>next (He r b.1+1,fr,b) ⟨some (b,fr),rfl,ha,h2⟩;refine Zla (by show ¬ b.1<0;omega) ?_;dsimp only at h ha';have eb:bs r (some (b,fr))=(He r b.1+1,fr,b):=rfl;simp only[eb,w64 m1.1 m1.2,w64 m2.1 m2.2]
    have cmp:∀ {z:Bool},Jj (Ff p l) d.2.1=z→((!z)==fr)=true→(!z&&!fr)=false→Tot (λ k=>cond (decide ((He r d.1+1)*b.2.2<(He r b.1+1)*d.2.2)) (Bf k (Ff p l) (He r d.1+1) (!(Jj (Ff p l) d.2.1)) l (l.length:Int) ((j:Int)+1) r p d) (Bf k (Ff p l) (He r b.1+1) fr l (l.length:Int) ((j:Int)+1) r p b)) (λ x=>x=match Oq r p l with|some b=>b.1|none=>(-1,0,0)):=by
     intro z hz e1 e2;rw[hz]at h ha' take ⊢;rw[e1,e2,Ajb,Wn]at h ha';refine Zma (λ hc=>?_) (λ hc=>?_)
     ·rw[hc]at h ha';exact take ha' h
     ·rw[hc]at h;exact stay h
    cases hz:Jj (Ff p l) d.2.1 with
    |false=>
     have cm:=cmp hz;rw[hz]at h ha' take cm
     cases fr with
     |false=>exact Zja rfl (Zja rfl (take ha' h))
     |true=>exact Zja rfl (Zia rfl (Zja rfl (cm rfl rfl)))
    |true=>
     have cm:=cmp hz;rw[hz]at h ha' take cm
     cases fr with
     |false=>exact Zia rfl (Zja rfl (cm rfl rfl))
     |true=>exact Zia rfl (Zia rfl (stay h))

def Mva {l:List Dev} (h:H6 l=true) {d:Dev} (hd:d∈l):Ia l d.1=some d:=by
 have hp:=(D7.1 h).1;clear h
 induction l with
 |nil=>cases hd
 |cons x l ih=>
  obtain⟨h1,h2⟩:=Wd.1 hp;unfold Ia;rw[List.find?_cons];rcases Vl.1 hd with rfl|hd
  ·rw[beq_self_eq_true]
  ·have:=h1 d hd;rw[show (x.1==d.1)=false from beq_eq_false_iff_ne.2 (by omega)];exact ih hd h2
def Sva:∀ (p:List Int) (l:List Dev),l.Pairwise (λ a b=>a.1<b.1)→p.length<l.length→∃ d∈l,d.1∉p
 |p,[],_,h=>by simp at h
 |p,d::l,hl,h=>by
  obtain⟨h1,h2⟩:=Wd.1 hl
  by_cases hd:d.1∈p
  ·have hlen:(p.erase d.1).length=p.length-1:=B6b hd;have hpos:=A3b hd;rw[Vh]at h;obtain⟨x,hx,hn⟩:=Sva (p.erase d.1) l h2 (by omega);refine⟨x,Vg _ hx,λ c=>hn ?_⟩;have:=h1 x hx;exact(Brb (by omega)).2 c
  ·exact⟨d,Yd,hd⟩
def Ixa (l:List Dev) (n:Nat) (p:List Int):Prop:=p.Nodup∧p.length=n∧∀ id∈p,∃ d,Ia l id=some d
def Mwa {r:Rng} {l:List Dev} {n:Nat} {p:List Int} (hl:H6 l=true) (h:Ixa l n p) (hn:n<l.length):Ixa l (n+1) (p++[S7 r p l]):=by
 obtain⟨h1,h2,h3⟩:=h;obtain⟨d,hd,e,hne⟩:=Qra (r:=r) (Sva p l (D7.1 hl).1 (by omega));rw[e];refine⟨?_,by rw[Vi];simp[h2],λ id hid=>?_⟩
 ·rw[Wo];exact⟨h1,by simp,λ a ha b hb c=>by rw[Vq.1 hb]at c;subst c;exact hne ha⟩
 ·rcases Vm.1 hid with hid|hid
  ·exact h3 id hid
  ·rw[Vq.1 hid];exact⟨d,Mva hl hd⟩
def Cma (l:List Dev) (reps:Int) (ps:List (List Int)):Nat→List Int→List Int
 |0,p=>p
 |n+1,p=>Cma l reps ps n (p++[S7 (reps,ps++[p]) p l])
def Jga (l:List Dev) (reps:Int):Nat→List (List Int)→List (List Int)
 |0,ps=>ps
 |n+1,ps=>Jga l reps n (ps++[Cma l reps ps reps.toNat []])
def build (l:List Dev) (parts reps:Int):Rng×Bool:=bif H6 l&&(inR parts 1 64&&(inR reps 1 5&&!(decide (reps > (l.length:Int))))) then ((reps,Jga l reps parts.toNat []),true) else ((0,[]),false)
def H9a {l:List Dev} {reps:Int} {ps:List (List Int)} (hl:H6 l=true):∀ (n m:Nat) (p:List Int),Ixa l m p→m+n≤l.length→Ixa l (m+n) (Cma l reps ps n p)
 |0,_,_,h,_=>h
 |n+1,m,p,h,hm=>by
  have:=H9a (reps:=reps) (ps:=ps) hl n (m+1) _ (Mwa (r:=(reps,ps++[p])) hl h (by omega)) (by omega);rwa [show m+1+n=m+(n+1) by omega]at this
def Mxa {l:List Dev} {reps:Int} (hl:H6 l=true) (hr:reps≤(l.length:Int)):∀ (n:Nat) (ps:List (List Int)),(∀ p∈ps,Ixa l reps.toNat p)→(Jga l reps n ps).length=ps.length+n∧∀ p∈Jga l reps n ps,Ixa l reps.toNat p
 |0,ps,h=>⟨rfl,h⟩
 |n+1,ps,h=>by
  have hf:=H9a (reps:=reps) (ps:=ps) hl reps.toNat 0 [] ⟨Csb,rfl,λ _ h=>by cases h⟩ (by omega);rw[Wf]at hf
  obtain⟨h1,h2⟩:=Mxa hl hr n (ps++[Cma l reps ps reps.toNat []]) (λ p hp=>by
   rcases Vm.1 hp with hp|hp
   ·exact h p hp
   ·rw[Vq.1 hp];exact hf)
  refine⟨?_,h2⟩;show (Jga l reps n _).length=_;rw[h1,Vi];simp only[Vh,Vs];omega
def S8 {l:List Dev} {parts reps:Int} (h:(build l parts reps).2=true):H6 l=true∧Gw (build l parts reps).1 l=true∧(build l parts reps).1.1=reps∧((build l parts reps).1.2.length:Int)=parts:=by
 unfold build at h ⊢;cases hc:H6 l&&(inR parts 1 64&&(inR reps 1 5&&!(decide (reps > (l.length:Int)))))
 ·rw[hc]at h;cases h
 rw[Va,Va,Va,Vy,decide_eq_false_iff_not,Dl,Dl]at hc;obtain⟨h1,h2,h3,h4⟩:=hc;obtain⟨b1,b2⟩:=Mxa (reps:=reps) h1 (by omega) parts.toNat [] (λ p hp=>by cases hp);rw[Vs,Wf]at b1
 have b1':((Jga l reps parts.toNat []).length:Int)=parts:=by rw[b1];omega
 refine⟨h1,Bp.2 ⟨h1,h3,⟨by show 1≤(Jga l reps parts.toNat []).length;omega,by show (Jga l reps parts.toNat []).length≤64;omega⟩,λ p hp=>?_⟩,rfl,b1'⟩;obtain⟨c1,c2,c3⟩:=b2 p hp;exact⟨c1,by rw[c2];show ((reps.toNat:Nat):Int)=reps;omega,c3⟩
def Cna {l:List Dev} {reps:Int} {ps:List (List Int)}:∀ (n:Nat) (p:List Int),(Cma l reps ps n p).length=p.length+n
 |0,_=>rfl
 |n+1,p=>by
  show (Cma l reps ps n _).length=_;rw[Cna n,Vi];simp only[Vh,Vs];omega
def Mya {α:Type} (l:List α) (x d:α):(l++[x]).getD l.length d=x:=by
 rw[Vb,Yb (Vv _),B3b];rfl
def Qsa {α:Type} (l:List α) (x y:α):(l++[x]).set l.length y=l++[y]:=by
 rw[Cob _ _ (Vv _),B3b];rfl

def Haa:∀ (p q:List Int),p.Nodup→(∀ x∈p,x∈q)→p.length≤q.length
 |[],_,_,_=>Vu _
 |x::p,q,h,hs=>by
  obtain⟨h1,h2⟩:=Yn.1 h;have hx:=hs x Yd;have hlen:(q.erase x).length=q.length-1:=B6b hx;have hpos:=A3b hx;have:=Haa p (q.erase x) h2 (λ y hy=>(Brb (λ c=>by subst c;exact h1 hy)).2 (hs y (Vg _ hy)));rw[Vh];omega
def Mza {r:Rng} {l:List Dev} (h:Gw r l=true):r.1≤(l.length:Int):=by
 obtain⟨_,_,h3,h4⟩:=Bp.1 h;obtain⟨p,hp⟩:=Bmb (show 0<r.2.length by omega);obtain⟨q1,q2,q3⟩:=h4 p hp
 have:=Haa p (l.map (·.1)) q1 (λ x hx=>by
  obtain⟨d,hd⟩:=q3 x hx;obtain⟨hm,he⟩:=Wy hd
  exact Yt.2 ⟨d,hm,he⟩)
 rw[Vz]at this;omega
def Eza {r:Rng} {l:List Dev} (h:Gw r l=true):Tot (λ k=>Dp k r l) (λ b=>b=true):=by
 have hrp:=Mza h;obtain⟨h1,h2,h3,h4⟩:=Bp.1 h;obtain⟨_,_,_,h12⟩:=D7.1 h1;unfold Dp;refine Zsa (S6 l (by omega)) ?_;refine Zia (by rw[h1];rfl) ?_;simp only[Ku,Vt];refine Zia (by rw[Dl.2 h2];rfl) (Zla (by omega) (Zia (by rw[Dl.2 (by omega)];rfl) ?_));refine Zha (Q:=λ b=>b = .inr ()) ?_ (by rintro b rfl;exact Zga rfl);refine Zpa (L:=λ k i (_:Unit)=>E4 k r.2 (r.2.length:Int) i r) (Q:=λ b=>b = .inr ()) r.2.length (λ _ _=>True) ?_ ?_ 0 () (Vu _) trivial
 ·intro _ _;simp (disch:=omega) only [E4,dF];exact Zga rfl
 ·intro j _ hj _ next;obtain⟨q1,q2,_⟩:=h4 _ (A3 (d:=[]) hj);simp (disch:=omega) only [E4,dT,Vj,w64];refine Zia (by rw[q2];simp) (Zsa (Cla _ (by omega)) ?_);exact Zia (by rw[decide_eq_true q1];rfl) (next () trivial)
def Qta (p:List Int) (l:List Dev) (h:∀ id∈p,∃ d,Ia l id=some d) (hp:p.length≤5000000) (hl:l.length≤5000000):Tot (λ k=>Gu k p l) (λ x=>x = -1):=by
 unfold Gu;refine Zha (Q:=λ x=>x = .inr ()) ?_ (by rintro x rfl;exact Zga rfl);refine Zpa (L:=λ k i (_:Unit)=>Gj k l p (p.length:Int) i) (Q:=λ x=>x = .inr ()) p.length (λ _ _=>True) ?_ ?_ 0 () (Vu _) trivial
 ·intro _ _;simp (disch:=omega) only [Gj,dF];exact Zga rfl
 ·intro j _ hj _ next;simp (disch:=omega) only [Gj,dT,Vj,w64];refine Zsa (Nc l _ (by omega)) ?_;obtain⟨d,hd⟩:=h _ (A3 (d:=0) hj);exact Zia (by rw[hd];rfl) (next () trivial)
def hv (r:Rng) (l:List Dev) (b id:Int):Bool:=match Ia l b with
 |none=>false
 |some x=>match Ia l id with
  |none=>false
  |some d=>(d.2.1==x.2.1)&&decide (He r id-He r b≥2)
def Oea (r:Rng) (l:List Dev) (p:List Int) (b:Int):Option Nat:=p.findIdx? (hv r l b)
def Coa {f:Int→Bool} {p:List Int} {j:Nat} (hj:j<p.length) (h:((p.drop j).findIdx? f).map (· + j)=p.findIdx? f):
  (f (p.getD j 0)=true→p.findIdx? f=some j)∧(f (p.getD j 0)=false→((p.drop (j+1)).findIdx? f).map (· + (j+1))=p.findIdx? f):=by
 rw[Bs (d:=0) hj,C4b]at h;constructor
 ·intro c;rw[if_pos c]at h;rw[← h,Aob,Wf]
 ·intro c;rw[if_neg (by rw[c];simp)]at h;rw[← h,Option.map_map];congr 1;funext x;show x+(j+1)=x+1+j;omega
def N0a (r:Rng) (p:List Int) (l:List Dev) (hr:RBd r) (hp:p.length≤2000000) (hl:H6 l=true) (hq:∀ id∈p,∃ d,Ia l id=some d):Tot (λ k=>Fz k r p l) (λ x=>x=match Oea r l p (S7 r p l) with|some i=>((i:Int),S7 r p l)|none=>(-1,-1)):=by
 obtain⟨_,_,_,h12⟩:=D7.1 hl;unfold Fz;refine Zsa (H8a r p l hr hp hl) ?_;generalize S7 r p l=b;refine Zsa (Nc l b (by omega)) ?_
 refine Zha (Q:=λ x=>x=match Oea r l p b with|some i => .inl ((i:Int),b)|none => .inr ()) ?_ (by rintro x rfl;cases Oea r l p b<;>exact Zga rfl)
 refine Zpa (L:=λ k i (_:Unit)=>Ee k l b (Ypa (Ia l b)).2 p (p.length:Int) i r (Ypa (Ia l b)).1) (Q:=λ x=>x=match Oea r l p b with|some i => .inl ((i:Int),b)|none => .inr ()) p.length (λ j _=>((p.drop j).findIdx? (hv r l b)).map (· + j)=p.findIdx? (hv r l b)) ?_ ?_ 0 () (Vu _) (by simp)
 ·intro _ h;rw[Yk]at h;have hn:Oea r l p b=none:=h.symm;rw[hn];simp (disch:=omega) only [Ee,dF];exact Zga rfl
 ·intro j _ hj h next;obtain⟨k1,k2⟩:=Coa hj h;have hid:=hq _ (A3 (d:=0) hj);simp (disch:=omega) only [Ee,dT,Vj,w64];generalize p.getD j 0=id at *;refine Zsa (Nc l id (by omega)) ?_;obtain⟨d,hd⟩:=hid
  cases hb:Ia l b with
  |none=>
   have hnv:hv r l b id=false:=by unfold hv;rw[hb]
   have:=next () (k2 hnv);rw[hb]at this;exact Zia rfl this
  |some x=>
   have hvI:hv r l b id=((d.2.1==x.2.1)&&decide (He r id-He r b≥2)):=by unfold hv;rw[hb,hd]
   rw[hvI]at k1 k2;have next':=next ();rw[hb]at next';refine Zja rfl ?_;rw[hd];cases hz:d.2.1==x.2.1
   ·exact Zia hz (next' (k2 (by simp only[hz,Zwa])))
   refine Zja hz (Zsa (Z8 r id hr) ?_);refine Zsa (Z8 r b hr) ?_;have l1:=Pw hr id;have l2:=Pw hr b;simp (disch:=omega) only [w64];refine Zna (λ hc=>Zga ?_) (λ hc=>next' (k2 ?_))
   ·have hn:Oea r l p b=some j:=k1 (by simp only[hz,Wn];exact decide_eq_true hc);rw[hn]
   ·simp only[hz,Wn];exact decide_eq_false hc
def rb1 (l:List Dev) (s:Int×Rng) (j:Nat):Int×Rng:=match Oea s.2 l (s.2.2.getD j []) (S7 s.2 (s.2.2.getD j []) l) with
 |none=>s
 |some i=>(s.1+1,(s.2.1,s.2.2.set j ((s.2.2.getD j []).set i (S7 s.2 (s.2.2.getD j []) l))))
def rbs (l:List Dev) (r:Rng) (n:Nat):Int×Rng:=(List.range n).foldl (rb1 l) (0,r)
def Cpa (r:Rng) (l:List Dev):Rng×Int:=((rbs l r r.2.length).2,(rbs l r r.2.length).1)
def Hba (l:List Dev) (r:Rng) (n:Nat):rbs l r (n+1)=rb1 l (rbs l r n) n:=by
 unfold rbs;rw[Byb,Bfb];rfl
def Re {r:Rng} {l:List Dev} {p:List Int} {i:Nat} (hl:H6 l=true) (h:Oea r l p (S7 r p l)=some i):i<p.length∧S7 r p l∉p∧0≤S7 r p l∧∃ d,Ia l (S7 r p l)=some d:=by
 obtain⟨h1,h2,_⟩:=A9b.1 h;refine⟨h1,?_⟩;unfold hv at h2
 cases hb:Ia l (S7 r p l) with
 |none=>rw[hb]at h2;cases h2
 |some d=>
  obtain⟨hd,he⟩:=Wy hb;obtain⟨⟨i0,_⟩,_⟩:=Ir.1 ((D7.1 hl).2.1 _ hd);refine⟨?_,by omega,d,rfl⟩;rcases Iwa r p l with⟨_,e⟩|⟨b,_,e,_,hn⟩
  ·omega
  ·rw[e];exact hn
def N1a {p:List Int} {b:Int} (h:p.Nodup) (hb:b∉p) (i:Nat):(p.set i b).Nodup:=by
 induction p generalizing i with
 |nil=>exact h
 |cons x p ih=>
  obtain⟨h1,h2⟩:=Yn.1 h
  cases i with
  |zero=>exact Yn.2 ⟨λ c=>hb (Vg _ c),h2⟩
  |succ i=>
   refine Yn.2 ⟨λ c=>?_,ih h2 (λ c=>hb (Vg _ c)) i⟩;rcases Ys c with c|c
   ·exact h1 c
   ·exact hb (c ▸ Yd)
def Xga {l:List Dev} {s:Int×Rng} {j:Nat} (hj:j<s.2.2.length) (h:Gw s.2 l=true):Gw (rb1 l s j).2 l=true∧(rb1 l s j).2.1=s.2.1∧(rb1 l s j).2.2.length=s.2.2.length∧s.1≤(rb1 l s j).1∧(rb1 l s j).1≤s.1+1:=by
 unfold rb1;obtain⟨h1,h2,h3,h4⟩:=Bp.1 h
 cases hx:Oea s.2 l (s.2.2.getD j []) (S7 s.2 (s.2.2.getD j []) l) with
 |none=>exact⟨h,rfl,rfl,by dsimp only;omega,by dsimp only;omega⟩
 |some i=>
  obtain⟨b1,b2,_,b3⟩:=Re h1 hx;obtain⟨q1,q2,q3⟩:=h4 _ (A3 (d:=[]) hj);refine⟨Bp.2 ⟨h1,h2,by dsimp only;rw[List.length_set];exact h3,λ p hp=>?_⟩,rfl,by dsimp only;rw[List.length_set],by dsimp only;omega,by dsimp only;omega⟩;rcases List.mem_or_eq_of_mem_set hp with hp|hp
  ·exact h4 p hp
  ·subst hp;refine⟨N1a q1 b2 i,by rw[Wa];exact q2,λ id hid=>?_⟩;rcases Ys hid with hid|hid
   ·exact q3 id hid
   ·rw[hid];exact b3
def N2a {l:List Dev} {r:Rng} (h:Gw r l=true):∀ (n:Nat),n≤r.2.length→Gw (rbs l r n).2 l=true∧(rbs l r n).2.1=r.1∧(rbs l r n).2.2.length=r.2.length∧0≤(rbs l r n).1∧(rbs l r n).1≤n
 |0,_=>⟨h,rfl,rfl,Abb _,Abb _⟩
 |n+1,hn=>by
  obtain⟨h1,h2,h3,h4,h5⟩:=N2a h n (by omega);obtain⟨g1,g2,g3,g4,g5⟩:=Xga (j:=n) (by omega) h1;rw[Hba];exact⟨g1,by rw[g2,h2],by rw[g3,h3],by omega,by omega⟩
def S9 {r:Rng} {l:List Dev} (h:Gw r l=true):Gw (Cpa r l).1 l=true∧(Cpa r l).1.1=r.1∧(Cpa r l).1.2.length=r.2.length∧0≤(Cpa r l).2:=by
 obtain⟨h1,h2,h3,h4,_⟩:=N2a h r.2.length (Vv _);exact⟨h1,h2,h3,h4⟩
def N3a {r:Rng} {l:List Dev} (h:Gw r l=true):Tot (λ k=>Bz k r l) (λ x=>x=Cpa r l):=by
 obtain⟨_,_,h64,_⟩:=Bp.1 h;unfold Bz;refine Zha (Rd r (Ka h)) ?_;rintro x rfl;refine Zha (Eza h) ?_;rintro b rfl;refine Zia rfl (Zha (Q:=λ y=>y=((rbs l x x.2.length).1,((0:Int),([]:List (List Int))),(rbs l x x.2.length).2)) ?_ (by rintro y rfl;exact Zga rfl));refine Zpa (L:=λ k i (s:Int×Rng)=>B1 k l s.1 (x.2.length:Int) i (0,[]) s.2) (Q:=λ y=>y=((rbs l x x.2.length).1,((0:Int),([]:List (List Int))),(rbs l x x.2.length).2)) x.2.length (λ j s=>s=rbs l x j) ?_ ?_ 0 (0,x) (Vu _) rfl
 ·rintro s rfl;simp (disch:=omega) only [B1,dF];exact Zga rfl
 ·rintro j s hj rfl next;obtain⟨g1,g2,g3,g4,g5⟩:=N2a h j (by omega);rw[Hba]at next;generalize rbs l x j=s at *;obtain⟨c,r⟩:=s;dsimp only at g1 g2 g3 g4 g5;obtain⟨q0,_,_,q4⟩:=Bp.1 g1;obtain⟨p1,p2,p3⟩:=q4 _ (A3 (d:=[]) (show j<r.2.length by omega));have hx2:=(Bp.1 h).2.1;have l12:=(D7.1 q0).2.2.2;unfold rb1 at next;dsimp only at next;obtain⟨p,hp⟩:∃ p,r.2.getD j []=p:=⟨_,rfl⟩;rw[hp]at p1 p2 p3;simp only[hp]at next;simp (disch:=omega) only [B1,dT,Int.toNat_natCast,w64,hp];refine Zha (Qta p l p3 (by omega) (by omega)) ?_;rintro x rfl;refine Zla (by omega) (Zha (N0a r p l (Ka g1) (by omega) q0 p3) ?_);rintro y rfl
  cases hi:Oea r l p (S7 r p l) with
  |none=>
   rw[hi]at next;exact Zla (by show ¬ ((-1:Int)≥0);omega) (next _ rfl)
  |some i=>
   obtain⟨b1,b2,b3,_⟩:=Re q0 hi;rw[hi]at next;simp (disch:=omega) only [dT,Vj];exact next _ rfl
def wgt (l:List Dev) (i:Nat) (w:Int):List Dev:=l.set i ((l.getD i Kg).1,(l.getD i Kg).2.1,w)
def Z9 (l:List Dev) (i:Nat) (w:Int):(wgt l i w).map (·.1)=l.map (·.1):=by
 unfold wgt;rw[Cvb]
 by_cases hi:i<l.length
 ·have:(l.getD i Kg).1=(l.map (·.1)).getD i 0:=by
   simp only[Vb,Zw,Ve hi,Aob,Wh]
  rw[this,Vb,Ve (by simpa using hi),Wh];exact Bkb _
 ·rw[List.set_eq_of_length_le (by simpa using hi)]
def Ky {l:List Dev} {id:Int}:(∃ d,Ia l id=some d)↔id∈l.map (·.1):=by
 unfold Ia;rw[← Zh,List.find?_isSome,Yt];exact⟨λ ⟨x,h,e⟩=>⟨x,h,eq_of_beq e⟩,λ ⟨x,h,e⟩=>⟨x,h,beq_iff_eq.2 e⟩⟩
def Xha {l:List Dev} {i:Nat} {w:Int} (h:H6 l=true) (hi:i<l.length) (h1:1≤w) (h2:w≤1000):H6 (wgt l i w)=true:=by
 obtain⟨g1,g2,g3,g4⟩:=D7.1 h;refine D7.2 ⟨?_,λ d hd=>?_,?_⟩
 ·have e:(l.map (·.1)).Pairwise (· < ·):=Zr.2 g1;rw[← Z9 l i w]at e;exact Zr.1 e
 ·rcases Ys hd with hd|hd
  ·exact g2 d hd
  ·obtain⟨e1,e2,_⟩:=Ir.1 (g2 _ (A3 (d:=Kg) hi));subst hd;exact Ir.2 ⟨e1,e2,h1,h2⟩
 ·unfold wgt;rw[Wa];exact⟨g3,g4⟩
def Sa {r:Rng} {l:List Dev} {i:Nat} {w:Int} (h:Gw r l=true) (hi:i<l.length) (h1:1≤w) (h2:w≤1000):Gw r (wgt l i w)=true:=by
 obtain⟨g1,g2,g3,g4⟩:=Bp.1 h;refine Bp.2 ⟨Xha g1 hi h1 h2,g2,g3,λ p hp=>?_⟩;obtain⟨q1,q2,q3⟩:=g4 p hp;exact⟨q1,q2,λ id hid=>by rw[Ky,Z9,← Ky];exact q3 id hid⟩

def N4a (x:BitVec 32):(cst x).getLsbD 31=x.getLsbD 0:=by
 have h0:(x >>> 1).getLsbD 31=false:=by
  rw[Bzb];exact BitVec.getLsbD_of_ge _ _ (by decide)
 unfold cst
 cases h:x.getLsbD 0 with
 |true=>
  rw[if_pos rfl,BitVec.getLsbD_xor,h0]
  decide
 |false=>
  rw[if_neg (by simp),h0]
def Qs {n:Nat} {x y c:BitVec n} (h:x ^^^ c=y ^^^ c):x=y:=by
 have:=congrArg (λ z=>z ^^^ c) h
 simpa[BitVec.xor_assoc] using this
def Uva {x y:BitVec 32} (h:cst x=cst y):x=y:=by
 have h0:x.getLsbD 0=y.getLsbD 0:=by rw[← N4a,← N4a,h]
 have h1:x >>> 1=y >>> 1:=by
  unfold cst at h;rw[h0]at h
  cases hb:y.getLsbD 0 with
  |true=>rw[hb,if_pos rfl,if_pos rfl]at h;exact Qs h
  |false=>rw[hb,if_neg (by simp),if_neg (by simp)]at h;exact h
 refine BitVec.eq_of_getLsbD_eq λ i hi=>?_
 cases i with
 |zero=>exact h0
 |succ i=>
  have:=congrArg (λ z=>z.getLsbD i) h1
  simpa[Bzb,Zy] using this
def U2:∀ (n:Nat) {x y:BitVec 32},Ena n x=Ena n y→x=y
 |0,_,_,h=>h
 |n+1,_,_,h=>Uva (U2 n h)
def Uwa {x y:BitVec 32} {b:Int} (h:cby x b=cby y b):x=y:=Qs (U2 8 h)
def Qua {x:BitVec 32} {a b:Int} (ha:0≤a∧a≤255) (hb:0≤b∧b≤255) (h:cby x a=cby x b):a=b:=by
 have h1:x ^^^ ofInt 32 a=x ^^^ ofInt 32 b:=U2 8 h;rw[Cmb,Cmb x]at h1;have h2:=Qs h1;rw[Sla ha,Sla hb,h2]
def Hca:∀ (l:List Int) {x y:BitVec 32},l.foldl cby x=l.foldl cby y→x=y
 |[],_,_,h=>h
 |_::l,_,_,h=>Uwa (Hca l h)
def Swa (l:List Int):0≤crc l∧crc l≤4294967295:=by
 unfold crc;have:=(Vxa l).isLt;omega
def Uxa {l:List Int} {i:Nat} {y:Int} (hi:i<l.length) (hy:0≤y∧y≤255) (hb:Ax l) (hne:y≠l.getD i 0):crc (l.set i y)≠crc l:=by
 intro h;have h1:Vxa (l.set i y)=Vxa l:=Cnb (by unfold crc at h;omega);unfold Vxa at h1;have h2:=BitVec.not_inj.1 h1
 have e1:l.set i y=l.take i++y::l.drop (i+1):=by rw[A7b,if_pos hi]
 have e2:l=l.take i++l.getD i 0::l.drop (i+1):=by
  conv => { lhs;rw[← Wi i l] }
  rw[Bs (d:=0) hi]
 rw[e1,Bfb,Zc]at h2;rw[e2]at h2;rw[Bfb,Zc]at h2
 have e3:(l.take i++l.getD i 0::l.drop (i+1)).take i=l.take i:=by rw[← e2]
 have e4:(l.take i++l.getD i 0::l.drop (i+1)).drop (i+1)=l.drop (i+1):=by rw[← e2]
 rw[e3,e4]at h2;exact hne (Qua hy (hb _ (A3 hi)) (Hca _ h2))
def Xia {a b:Int} (ha:0≤a∧a≤4294967295) (hb:0≤b∧b≤4294967295) (h:c4 a=c4 b):a=b:=by
 have e:∀ c:Int,0≤c→c4 c=[c/16777216 % 256,c/65536 % 256,c/256 % 256,c % 256]:=λ c hc=>by
  unfold c4
  rw[show (2:Int) ^ (min (toNat 24) (IntKind.bits .i64))=16777216 from by decide,show (2:Int) ^ (min (toNat 16) (IntKind.bits .i64))=65536 from by decide,show (2:Int) ^ (min (toNat 8) (IntKind.bits .i64))=256 from by decide,
   A4b _ (by omega),A4b _ (by omega),A4b _ (by omega),Bab,Bab,Bab,Bab]
 rw[e a ha.1,e b hb.1]at h;simp only[Yf,and_true]at h;omega
def Iya {l m:List Int} {j:Nat} (h:j<l.length):(l++m).getD j 0=l.getD j 0:=by rw[Vb,Vb,Yh h]
def Iza {l m:List Int} {j:Nat} (h:l.length≤j):(l++m).getD j 0=m.getD (j-l.length) 0:=by rw[Vb,Vb,Yb h]
def Qva {f:Fil} (hf:Dw f=true) {n:Nat} (hn:n<8*(Hf f).length):La (Jd (Hf f) n)=none:=by
 cases hg:La (Jd (Hf f) n) with
 |none=>rfl
 |some g=>
  exfalso;obtain⟨g1,_,g3⟩:=Eqa hg;have hpb:=Qq f
  have hj:n/8<(Hf f).length:=by omega
  have hy:=H4a ((Hf f).getD (n/8) 0) (n % 8);have hne:=Qla (hpb _ (A3 (d:=0) hj)) (Cub n (show 0<8 by omega));unfold Jd at g3;generalize Un ((Hf f).getD (n/8) 0) (n % 8)=y at g3 hy hne;generalize n/8=j at g3 hj hne
  have ef:Hf f=Mh f++c4 (crc (Mh f)):=by unfold Hf;rw[hf];rfl
  have eg:Hf g=Mh g++c4 (crc (Mh g)):=by unfold Hf;rw[g1];rfl
  have l4:∀ c,(c4 c).length=4:=λ c=>rfl;rw[eg]at g3;rw[ef]at g3 hj hne
  have hlen:(Mh g).length=(Mh f).length:=by
   have:=congrArg length g3;rw[Wa,Vi,Vi,l4,l4]at this;omega
  by_cases hjb:j<(Mh f).length
  ·rw[List.set_append_left _ _ hjb]at g3;obtain⟨a1,a2⟩:=List.append_inj g3 (by rw[Wa];exact hlen);rw[Iya hjb]at hne;have:=Xia (Swa _) (Swa _) a2;rw[a1]at this;exact Uxa hjb hy (On f) hne this
  ·rw[Cob _ _ (by omega)]at g3;obtain⟨a1,a2⟩:=List.append_inj g3 hlen;rw[a1]at a2;rw[Iza (by omega)]at hne;rw[Vi,l4]at hj
   have:(c4 (crc (Mh f))).getD (j-(Mh f).length) 0=y:=by
    rw[a2,Vb,Amb (by rw[l4];omega),Wh]
   exact hne this.symm

def A0a (l:List Nmd) (ns:List ByteArray):List ByteArray:=l.foldl (λ ns x=>wt ns x.1) ns
def nms (d:Dsk):List ByteArray:=A0a (d.1++d.2) []
def pk1:Option Nmd→List Nmd
 |some x=>[x]
 |none=>[]
def Uya (o:Option Nmd):(pk1 o).length≤1:=by cases o<;>simp[pk1]
def Ot (kp:List Bool) (a b:List Nmd):List ByteArray→Nat→List Nmd
 |[],_=>[]
 |s::ns,i=>pk1 (pk (bif kp.getD i false then a else b) s)++Ot kp a b ns (i+1)
def N5a (kp:List Bool) (a b:List Nmd) (i:Nat):Ot kp a b [] i=[]:=rfl
def Hda (kp:List Bool) (a b:List Nmd) (s:ByteArray) (ns:List ByteArray) (i:Nat):Ot kp a b (s::ns) i=pk1 (pk (bif kp.getD i false then a else b) s)++Ot kp a b ns (i+1):=rfl
def Kj (d:Dsk) (kp:List Bool):Dsk:=bif decide ((Ot kp d.1 d.2 (nms d) 0).length > 60) then d else (Ot kp d.1 d.2 (nms d) 0,Ot kp d.1 d.2 (nms d) 0)
def Hea:∀ (l:List Nmd) (ns:List ByteArray),TS ns→TS (A0a l ns)
 |[],_,h=>h
 |_::l,_,h=>Hea l _ (C8a h)
def Cqa:∀ (l:List Nmd) (ns:List ByteArray) (t:ByteArray),t∈A0a l ns↔(∃ x∈l,x.1=t)∨t∈ns
 |[],ns,t=>by simp[A0a]
 |x::l,ns,t=>by
  show t∈A0a l (wt ns x.1)↔_;rw[Cqa l,Sja];simp only[Vl,exists_eq_or_imp];constructor
  ·rintro (h|rfl|h)
   ·exact .inl (.inr h)
   ·exact .inl (.inl rfl)
   ·exact .inr h
  ·rintro ((h|h)|h)
   ·exact .inr (.inl h.symm)
   ·exact .inl h
   ·exact .inr (.inr h)
def Cra:∀ (l:List Nmd) (ns:List ByteArray),(A0a l ns).length≤ns.length+l.length
 |[],_=>by simp[A0a]
 |x::l,ns=>by
  have h1:=Cra l (wt ns x.1);have h2:=Ska (l:=ns) (s:=x.1);show (A0a l (wt ns x.1)).length≤_;rw[Vh];omega
def Sxa (d:Dsk):TS (nms d):=Hea _ _ List.Pairwise.nil
def Uza {d:Dsk} {t:ByteArray}:t∈nms d↔(gt d.1 t).isSome=true∨(gt d.2 t).isSome=true:=by
 have h:∀ l:List Nmd,(gt l t).isSome=true↔∃ x∈l,x.1=t:=λ l=>by
  cases hg:gt l t with
  |none=>
   constructor
   ·intro h;cases h
   ·rintro⟨x,hx,e⟩;exact absurd e (K8.1 hg x hx)
  |some b=>simp only[Option.isSome_some,true_iff];exact⟨_,Kx hg,rfl⟩
 unfold nms;rw[Cqa,h,h];simp only[Vm,B0b,or_false];constructor
 ·rintro⟨x,h1|h1,h2⟩
  ·exact .inl ⟨x,h1,h2⟩
  ·exact .inr ⟨x,h1,h2⟩
 ·rintro (⟨x,h1,h2⟩|⟨x,h1,h2⟩)
  ·exact⟨x,.inl h1,h2⟩
  ·exact⟨x,.inr h1,h2⟩
def V0a (l:List Nmd) (s:ByteArray):pk l s=(gt l s).map λ b=>(s,b):=by
 unfold pk gt
 cases h:fnd l s with
 |none=>rfl
 |some i=>rw[Aob,← (Mn h).2]
def Qt (kp:List Bool) (a b:List Nmd):∀ (ns:List ByteArray) (i:Nat),((Ot kp a b ns i).map Prod.fst).Sublist ns
 |[],_=>List.Sublist.slnil
 |s::ns,i=>by
  unfold Ot;rw[V0a]
  cases gt (bif kp.getD i false then a else b) s with
  |none=>exact(Qt kp a b ns (i+1)).cons s
  |some c=>exact(Qt kp a b ns (i+1)).cons_cons s
def V1a (kp:List Bool) (a b:List Nmd) (ns:List ByteArray) (i:Nat):(Ot kp a b ns i).length≤ns.length:=by
 have:=(Qt kp a b ns i).length_le;rwa [Vz]at this
def J0a {kp:List Bool} {a b:List Nmd} {ns:List ByteArray} {i:Nat} (h:TS ns):F8 (Ot kp a b ns i):=by
 have:=Bjb (Qt kp a b ns i) h;rwa [Zr]at this
def N6a {kp:List Bool} {a b:List Nmd}:∀ {ns:List ByteArray} {i:Nat} {x:Nmd},x∈Ot kp a b ns i→gt a x.1=some x.2∨gt b x.1=some x.2
 |[],_,_,h=>by cases h
 |s::ns,i,x,h=>by
  unfold Ot at h;rw[V0a]at h;rcases Vm.1 h with h|h
  ·cases hg:gt (bif kp.getD i false then a else b) s with
   |none=>rw[hg]at h;cases h
   |some c=>
    rw[hg]at h;rw[Vq.1 h]
    cases hk:kp.getD i false with
    |true=>rw[hk]at hg;exact .inl hg
    |false=>rw[hk]at hg;exact .inr hg
  ·exact N6a h
def Sya {kp:List Bool} {a b:List Nmd} {t:ByteArray}:∀ {ns:List ByteArray} {i:Nat},TS ns→t∈ns→∃ j,i≤j∧gt (Ot kp a b ns i) t=gt (bif kp.getD j false then a else b) t
 |[],_,_,h=>by cases h
 |s::ns,i,hs,h=>by
  obtain⟨h1,h2⟩:=Wd.1 hs
  have hn:∀ j,gt (Ot kp a b ns j) s=none:=λ j=>K8.2 λ x hx e=>by
   have:=h1 x.1 ((Qt kp a b ns j).subset (Yl hx));rw[e,Gy]at this;cases this
  unfold Ot;rw[V0a];rcases Vl.1 h with rfl|h
  ·refine⟨i,Vv _,?_⟩
   cases hg:gt (bif kp.getD i false then a else b) t with
   |none=>exact hn _
   |some c=>
    show gt ((t,c)::Ot kp a b ns (i+1)) t=_;rw[Tv,if_pos rfl]
  ·obtain⟨j,hj,e⟩:=Sya (kp:=kp) (a:=a) (b:=b) (i:=i+1) h2 h;refine⟨j,by omega,?_⟩;rw[← e]
   have hst:s≠t:=λ e=>by
    have:=h1 t h;rw[e,Gy]at this;cases this
   cases gt (bif kp.getD i false then a else b) s with
   |none=>rfl
   |some c=>
    show gt ((s,c)::Ot kp a b ns (i+1)) t=_;rw[Tv,if_neg hst]
def N7a {d:Dsk} {kp:List Bool} (h:DG d):DG (Kj d kp):=by
 unfold Kj;cases hc:decide ((Ot kp d.1 d.2 (nms d) 0).length > 60)
 case true=>exact h
 have hl:=of_decide_eq_false hc;have n1:=(Az.1 (Dy.1 h.1).1).2.1;have n2:=(Az.1 (Dy.1 h.1).2).2.1;have q:H5 (Ot kp d.1 d.2 (nms d) 0)=true:=Az.2 ⟨J0a (Sxa d),λ x hx=>(N6a hx).elim (λ e=>n1 _ (Kx e)) (λ e=>n2 _ (Kx e)),by omega⟩;have b:LB (Ot kp d.1 d.2 (nms d) 0):=λ x hx=>(N6a hx).elim (λ e=>h.2.1.gt e) (λ e=>h.2.2.gt e);exact⟨Dy.2 ⟨q,q⟩,b,b⟩
def N8a {d:Dsk} {kp:List Bool} (t:ByteArray):Kj d kp=d∨((Kj d kp).2=(Kj d kp).1∧(gt (Kj d kp).1 t=gt d.1 t∨gt (Kj d kp).1 t=gt d.2 t)):=by
 unfold Kj;cases hc:decide ((Ot kp d.1 d.2 (nms d) 0).length > 60)
 case true=>exact .inl rfl
 refine .inr ⟨rfl,?_⟩;show gt (Ot kp d.1 d.2 (nms d) 0) t=_∨gt (Ot kp d.1 d.2 (nms d) 0) t=_
 by_cases ht:t∈nms d
 ·obtain⟨j,_,e⟩:=Sya (kp:=kp) (a:=d.1) (b:=d.2) (i:=0) (Sxa d) ht;rw[e]
  cases kp.getD j false with
  |true=>exact .inl rfl
  |false=>exact .inr rfl
 ·have h1:gt d.1 t=none:=by
   cases hg:gt d.1 t with
   |none=>rfl
   |some b=>exact absurd (Uza.2 (.inl (by rw[hg];rfl))) ht
  left;rw[h1];exact K8.2 λ x hx e=>ht (by rw[← e];exact(Qt _ _ _ _ _).subset (Yl hx))
def A1a {R:Type} {L:Nat→List Nmd→Option R} {Q:R→Prop} (c:List Nmd) (s:ByteArray) (acc:List Nmd) (hc:c.length≤5000000) (ha:acc.length≤5000000) (next:Tot (λ k=>L k (acc++pk1 (pk c s))) Q):
  Tot (λ k=>(Ed k c s).bind λ r=>cond (decide (r≥0)) (cond (decide ((0:Int)≤r)) (cond (decide (r<(length c:Int))) (cond (Nat.ble ((length acc+length [getD c (toNat r) ((⟨#[]⟩:ByteArray),[])])*40) 140737488355328) (L k (acc++[getD c (toNat r) ((⟨#[]⟩:ByteArray),[])])) none) none) none) (L k acc)) Q:=by
 refine Zsa (R8 c s (by omega)) ?_;unfold pk at next;unfold Jfa
 cases h:fnd c s with
 |none=>
  rw[h]at next;simp only[pk1,Wp]at next;exact Zla (by decide) next
 |some i=>
  rw[h]at next;have:=(Mn h).1;simp only[Vj];exact Zka (by omega) (Zka (by omega) (Zka (by omega) (Zoa (by simp only[Vh,Vs];omega) next)))
def N9a (d:Dsk) (kp:List Bool) (hd:DG d) (hk:kp.length≤4000000000000):Tot (λ k=>Bu k d kp) (λ r=>r=Kj d kp):=by
 have hin:=O5 hd.1;have g1:=(Az.1 (Dy.1 hd.1).1).2.2;have g2:=(Az.1 (Dy.1 hd.1).2).2.2;unfold Bu;refine Zsa (Kw d hin.1.1 hin.1.2) ?_;rw[hd.1];refine Zia rfl (Zoa (by simp only[Vs];omega) ?_);rw[Wk];refine Zoa (by omega) ?_
 have hm:(d.1++d.2).length≤120:=by rw[Vi];omega
 have hn:(nms d).length≤120:=by have:=Cra (d.1++d.2) [];rw[Vs]at this;exact Zt this (by omega)
 refine Zha (Q:=λ r=>r=(kp,nms d,d.1,d.2,[],[])) ?_ ?_
 ·refine Zpa (L:=λ k i s=>Dh k kp s (d.1++d.2) ((d.1++d.2).length:Int) i d.1 d.2 [] []) (Q:=λ r=>r=(kp,nms d,d.1,d.2,[],[])) (d.1++d.2).length (λ j s=>A0a ((d.1++d.2).drop j) s=nms d∧s.length≤j) ?_ ?_ 0 [] (Vu _) ⟨rfl,Vv _⟩
  ·rintro s ⟨h,_⟩;rw[Yk]at h;simp (disch:=omega) only [Dh,dF];exact Zga (by rw[← h];rfl)
  ·rintro j s hj ⟨h,hs⟩ next;rw[Bs (d:=Hl) hj]at h;simp (disch:=omega) only [Dh,dT,Vj,w64];refine Zsa (Pt s _ (by omega)) ?_;have:=Ska (l:=s) (s:=((d.1++d.2).getD j Hl).1);exact next _ ⟨h,by have e:(d.1++d.2).getD j ((⟨#[]⟩:ByteArray),([]:List Int))=(d.1++d.2).getD j Hl:=rfl;rw[e];omega⟩
 ·rintro r rfl;refine Zha (Q:=λ r=>r=(Ot kp d.1 d.2 (nms d) 0,d.1,d.2,[],[])) ?_ ?_
  ·refine Zpa (L:=λ k i s=>Al k kp s (nms d) ((nms d).length:Int) i d.1 d.2 [] []) (Q:=λ r=>r=(Ot kp d.1 d.2 (nms d) 0,d.1,d.2,[],[])) (nms d).length (λ j s=>s++Ot kp d.1 d.2 ((nms d).drop j) j=Ot kp d.1 d.2 (nms d) 0∧s.length≤j) ?_ ?_ 0 [] (Vu _) ⟨rfl,Vv _⟩
   ·rintro s ⟨h,_⟩;rw[Yk,N5a,Wp]at h;simp (disch:=omega) only [Al,dF];exact Zga (by rw[h])
   ·rintro j s hj ⟨h,hs⟩ next;rw[Bs (d:=Ki) hj]at h;rw[Hda,← Vo]at h;simp (disch:=omega) only [Al,dT,Vj,w64];have hl:=Uya (pk (bif kp.getD j false then d.1 else d.2) ((nms d).getD j Ki));have nx:=next (s++pk1 (pk (bif kp.getD j false then d.1 else d.2) ((nms d).getD j Ki))) ⟨h,by rw[Vi];omega⟩;have e0:(nms d).getD j (⟨#[]⟩:ByteArray)=(nms d).getD j Ki:=rfl;rw[e0];refine Zna (λ hc=>?_) (λ hc=>?_)
    ·refine Zka (by omega) (Zma (λ hk=>?_) (λ hk=>?_))
     ·rw[hk]at nx;exact A1a (L:=λ k acc=>Al k kp acc (nms d) ((nms d).length:Int) ((j:Int)+1) d.1 d.2 [] []) d.1 _ s (by omega) (by omega) nx
     ·rw[hk]at nx;exact A1a (L:=λ k acc=>Al k kp acc (nms d) ((nms d).length:Int) ((j:Int)+1) d.1 d.2 [] []) d.2 _ s (by omega) (by omega) nx
    ·have hk:kp.getD j false=false:=by rw[Vb,Zo (by omega)];rfl
     rw[hk]at nx;exact A1a (L:=λ k acc=>Al k kp acc (nms d) ((nms d).length:Int) ((j:Int)+1) d.1 d.2 [] []) d.2 _ s (by omega) (by omega) nx
  ·rintro r rfl;have hp:=V1a kp d.1 d.2 (nms d) 0;unfold Kj;refine Zna (λ h=>?_) (λ h=>?_)
   ·dsimp only at h;rw[decide_eq_true (show (Ot kp d.1 d.2 (nms d) 0).length > 60 by omega)];refine Zsa (Fj (d.1,d.2) hin.1.1) ?_;exact Zga rfl
   ·dsimp only at h;have hc:decide ((Ot kp d.1 d.2 (nms d) 0).length > 60)=false:=decide_eq_false (by omega);have hg:=N7a (kp:=kp) hd;unfold Kj at hg;rw[hc]at hg ⊢;rw[cond_false]at hg;have hf:=(O5 hg.1).1.1.1;refine Zsa (Jx _ hf) ?_;refine Zsa (Jx _ hf) ?_;exact Zga rfl

def V2a {d:Dsk} {s:ByteArray} {n:Int} (h:DG d) (hn:n≤9223372036854775807) (hn0 : -9223372036854775808≤n):Tot (λ k=>H3 k d s n) (λ r=>r=Z4 d s n):=by
 have hin:=O5 h.1;unfold H3;refine Zsa (Fj d hin.1.1) ?_;refine Zsa (R8 d.1 s hin.1.1.1.1) ?_;refine Zsa (R8 d.2 s hin.1.1.2.1) ?_;refine Zsa (Kw d hin.1.1 hin.1.2) ?_;rw[h.1];refine Zia rfl ?_;unfold Z4;unfold Jfa
 cases hf:fnd d.1 s with
 |none=>
  have hg:gt d.1 s=none:=by unfold gt;rw[hf]
  rw[hg];exact Zka (by decide) (Zga rfl)
 |some i=>
  have hg:gt d.1 s=some (d.1.getD i Hl).2:=by unfold gt;rw[hf]
  have hi:=(Mn hf).1;have hnm:=(Mn hf).2;have hb:=Ssa h.1 hg;rw[hg];have e0:d.1.getD i ((⟨#[]⟩:ByteArray),([]:List Int))=d.1.getD i Hl:=rfl;simp only[Vj,e0];refine Zla (by omega) ?_
  have out:∀ {b:Bool},inR n 0 (8*((d.1.getD i Hl).2.length:Int)-1)=b→b=false→(d,false)=bif inR n 0 (8*((d.1.getD i Hl).2.length:Int)-1) then ((wr d.1 s (Jd (d.1.getD i Hl).2 n.toNat),bif decide (gt d.2 s=some (d.1.getD i Hl).2) then wr d.2 s (Jd (d.1.getD i Hl).2 n.toNat) else d.2),true) else (d,false):=λ e e'=>by rw[e,e'];rfl
  refine Zna (λ hneg=>Zga (out rfl ?_)) (λ hneg=>?_)
  ·cases hc:inR n 0 (8*((d.1.getD i Hl).2.length:Int)-1) with
   |false=>rfl
   |true=>have:=Dl.1 hc;omega
  ·obtain⟨m,rfl⟩:∃ m:Nat,n=(m:Int):=⟨n.toNat,by omega⟩
   have et:wrap .i64 (Int.tdiv (m:Int) 8)=((m/8:Nat):Int):=by
    rw[Avb (by omega),w64 (by omega) (by omega)];omega
   have eu:Int.tmod (m:Int) 8=((m % 8:Nat):Int):=by
    rw[Zva (by omega)];omega
   simp only[et,eu,Vj,Uua _ _ (Cub m (show 0<8 by omega))];refine Zka (by omega) (Zka (by omega) (Zna (λ hc=>Zga (out rfl ?_)) (λ hc=>?_)))
   ·cases hr:inR (m:Int) 0 (8*((d.1.getD i Hl).2.length:Int)-1) with
    |false=>rfl
    |true=>have:=Dl.1 hr;omega
   ·have hr:inR (m:Int) 0 (8*((d.1.getD i Hl).2.length:Int)-1)=true:=Dl.2 ⟨by omega,by omega⟩
    have hm8:m/8<(d.1.getD i Hl).2.length:=by omega
    rw[hr];refine Zla (by omega) (Zka (by omega) (Zka (by omega) (Zka (by omega) (Zka (by omega) (Zka (by omega) (Zka (by omega) ?_))))))
    have ew':d.1.set i ((d.1.getD i Hl).1,(d.1.getD i Hl).2.set (m/8) (Un ((d.1.getD i Hl).2.getD (m/8) 0) (m % 8)))=wr d.1 s (Jd (d.1.getD i Hl).2 m):=by rw[hnm];exact Moa (J6 h.1) hf _
    cases hf2:fnd d.2 s with
    |none=>
     have hg2:gt d.2 s=none:=by unfold gt;rw[hf2]
     rw[hg2];refine Zla (by decide) (Zga ?_);rw[ew'];rfl
    |some j=>
     have hg2:gt d.2 s=some (d.2.getD j Hl).2:=by unfold gt;rw[hf2]
     have hj:=(Mn hf2).1;have hjn:=(Mn hf2).2;have e1:d.2.getD j ((⟨#[]⟩:ByteArray),([]:List Int))=d.2.getD j Hl:=rfl;rw[hg2];simp only[Vj,e1];refine Zka (by omega) (Zka (by omega) (Zka (by omega) (Zka (by omega) (Zka (by omega) ?_))));rw[Tu (h.2.2.gt hg2) (h.2.1.gt hg)];refine Zna (λ he=>?_) (λ he=>?_)
     ·have hl2:(d.2.getD j Hl).2.length=(d.1.getD i Hl).2.length:=by rw[he]
      refine Zka (by omega) (Zka (by omega) (Zka (by omega) (Zka (by omega) (Zka (by omega) (Zka (by omega) (Zga ?_))))))
      have ew2:d.2.set j ((d.2.getD j Hl).1,(d.2.getD j Hl).2.set (m/8) (Un ((d.2.getD j Hl).2.getD (m/8) 0) (m % 8)))=wr d.2 s (Jd (d.1.getD i Hl).2 m):=by
       rw[hjn,he];exact Moa (Lb h.1) hf2 _
      rw[ew',ew2,he,decide_eq_true rfl];rfl
     ·refine Zga ?_;rw[ew',decide_eq_false (λ c=>he (Ckb c))];rfl
def clS (o:Dsk×Int) (x:Nmd):Dsk×Int:=match La x.2 with
 |some _=>o
 |none=>((cut o.1.1 x.1,cut o.1.2 x.1),o.2+1)
def Kd (d:Dsk):Dsk×Int:=d.1.foldl clS (d,0)
def Xja {d:Dsk} {s:ByteArray} (h:DG d):DG (cut d.1 s,cut d.2 s):=⟨Dy.2 ⟨Ra (Dy.1 h.1).1,Ra (Dy.1 h.1).2⟩,h.2.1.cut s,h.2.2.cut s⟩
def V3a {o:Dsk×Int} {x:Nmd} (h:DG o.1):DG (clS o x).1:=by
 unfold clS
 cases La x.2 with
 |some _=>exact h
 |none=>exact Xja h
def Hfa:∀ (l:List Nmd) (o:Dsk×Int),DG o.1→DG (l.foldl clS o).1
 |[],_,h=>h
 |_::l,_,h=>Hfa l _ (V3a h)
def Qwa {d:Dsk} (h:DG d):DG (Kd d).1:=Hfa _ _ h
def Aea (l:List Nmd):List ByteArray:=(l.filter λ x=>(La x.2).isNone).map Prod.fst
def U3:∀ (l:List Nmd) (o:Dsk×Int),DG o.1→((l.foldl clS o).2=o.2+((Aea l).length:Int))∧∀ t,(t∈Aea l→gt (l.foldl clS o).1.1 t=none∧gt (l.foldl clS o).1.2 t=none)∧(t∉Aea l→gt (l.foldl clS o).1.1 t=gt o.1.1 t∧gt (l.foldl clS o).1.2 t=gt o.1.2 t)
 |[],o,h=>⟨by simp[Aea],λ t=>⟨λ c=>by simp[Aea]at c,λ _=>⟨rfl,rfl⟩⟩⟩
 |x::l,o,h=>by
  obtain⟨h1,h2⟩:=U3 l (clS o x) (V3a h);rw[Zc]
  cases hx:La x.2 with
  |some f=>
   have e:Aea (x::l)=Aea l:=by unfold Aea;rw[Zya,hx];rfl
   have ec:clS o x=o:=by unfold clS;rw[hx]
   rw[e];rw[ec]at h1 h2 ⊢;exact⟨h1,h2⟩
  |none=>
   have e:Aea (x::l)=x.1::Aea l:=by unfold Aea;rw[Zya,hx];rfl
   have ec:clS o x=((cut o.1.1 x.1,cut o.1.2 x.1),o.2+1):=by unfold clS;rw[hx]
   rw[e];rw[ec]at h1 h2 ⊢;refine⟨by rw[h1,Vh];omega,λ t=>⟨λ ht=>?_,λ ht=>?_⟩⟩
   ·by_cases hb:t∈Aea l
    ·exact(h2 t).1 hb
    ·obtain⟨a1,a2⟩:=(h2 t).2 hb
     have:x.1=t:=by
      rcases Vl.1 ht with e|e
      ·exact e.symm
      ·exact absurd e hb
     rw[a1,a2,Rb (J6 h.1),Rb (Lb h.1),if_pos this,if_pos this];exact⟨rfl,rfl⟩
   ·obtain⟨a1,a2⟩:=(h2 t).2 (λ c=>ht (Vg _ c));have:x.1≠t:=λ e=>ht (by rw[← e];exact Yd);rw[a1,a2,Rb (J6 h.1),Rb (Lb h.1),if_neg this,if_neg this];exact⟨rfl,rfl⟩
def Qxa {d:Dsk} (hd:Ce d=true) {t:ByteArray}:t∈Aea d.1↔∃ b,gt d.1 t=some b∧La b=none:=by
 unfold Aea;rw[Yt];constructor
 ·rintro⟨x,hx,rfl⟩;obtain⟨h1,h2⟩:=Aqb.1 hx;exact⟨x.2,Mma (J6 hd) h1,by simpa using h2⟩
 ·rintro⟨b,h1,h2⟩;exact⟨(t,b),Aqb.2 ⟨Kx h1,by simp[h2]⟩,rfl⟩
def Naa (d:Dsk) (hd:DG d):Tot (λ k=>Fy k d) (λ r=>r=Kd d):=by
 have hin:=O5 hd.1;have hl:=(Az.1 (Dy.1 hd.1).1).2.2;unfold Fy;refine Zsa (Fj d hin.1.1) ?_;refine Zsa (Kw d hin.1.1 hin.1.2) ?_;rw[hd.1];refine Zia rfl (Zha (Q:=λ r=>r=((Kd d).2,([],[]),(Kd d).1)) ?_ (by rintro r rfl;exact Zga rfl));refine Zpa (L:=λ k i (s:Dsk×Int)=>F9 k s.2 d.1 (d.1.length:Int) i ([],[]) s.1) (Q:=λ r=>r=((Kd d).2,([],[]),(Kd d).1)) d.1.length (λ j s=>(d.1.drop j).foldl clS s=Kd d∧DG s.1∧0≤s.2∧s.2≤j) ?_ ?_ 0 (d,0) (Vu _) ⟨rfl,hd,Abb 0,by simp⟩
 ·rintro s ⟨h,_⟩;rw[Yk]at h;simp (disch:=omega) only [F9,dF];exact Zga (by rw[← h];rfl)
 ·rintro j s hj ⟨h,hg,s0,s1⟩ next;rw[Bs (d:=Hl) hj,Zc]at h;have hsi:=O5 hg.1;have hx:=A3 (d:=Hl) hj;simp (disch:=omega) only [F9,dT,Vj,w64];have e0:d.1.getD j ((⟨#[]⟩:ByteArray),([]:List Int))=d.1.getD j Hl:=rfl;rw[e0];refine Zsa (Jc _ (hd.2.1 _ hx) (hin.1.1.1.2 _ hx)) ?_;have hcg:=V3a (x:=d.1.getD j Hl) hg;unfold clS at h hcg;unfold Tt
  cases hf:La (d.1.getD j Hl).2 with
  |some f=>
   rw[hf]at h;exact Zia rfl (next _ ⟨h,hg,s0,by omega⟩)
  |none=>
   rw[hf]at h hcg;refine Zja rfl (Zsa (Ps s.1.1 _ hsi.1.1.1.1) ?_);refine Zsa (Ps s.1.2 _ hsi.1.1.2.1) ?_;rw[Na (J6 hg.1),Na (Lb hg.1)];exact next ((cut s.1.1 (d.1.getD j Hl).1,cut s.1.2 (d.1.getD j Hl).1),s.2+1) ⟨h,hcg,by dsimp only;omega,by dsimp only;omega⟩

def Ofa (l:List ByteArray) (s:ByteArray):Bool:=l.any λ y=>teq y s
def A2a {l:List ByteArray} {s:ByteArray}:Ofa l s=true↔s∈l:=by
 unfold Ofa;rw[Zz];constructor
 ·rintro⟨x,hx,e⟩;rw[← G9.1 e];exact hx
 ·intro h;exact⟨s,h,G9.2 rfl⟩
def Vya (l:List ByteArray):Nat→ByteArray→List ByteArray×Nat
 |0,_=>(l,0)
 |k+1,s=>bif tlt s (l.getD k Ki) then Vya (l.set (k+1) (l.getD k Ki)) k s else (l,k+1)
def Y4a (l:List ByteArray) (s:ByteArray):List ByteArray:=(Vya (l++[s]) l.length s).1.set (Vya (l++[s]) l.length s).2 s
def hS1 (l:List Nmd) (j:Nat) (out:List ByteArray) (x:Nmd):List ByteArray:=bif (La x.2).isSome&&(!(Ofa out x.1)&&(Jfa l x.1==(j:Int))) then Y4a out x.1 else out
def hS (l:List Nmd):List Nmd→Nat→List ByteArray→List ByteArray
 |[],_,out=>out
 |x::r,j,out=>hS l r (j+1) (hS1 l j out x)

def F0a (n:Nod) (s:ByteArray) (f:Fil) (sure:Bool) (hn:NIn n) (hs:L8 s):Tot (λ k=>Gf k n s f sure) (λ r=>r=Y3a n s f sure):=by
 have hq:=hn.2.2.1;unfold Gf Y3a;refine Zsa (I9 n hn) ?_;refine Zsa (Pv n hn) ?_;cases h1:J0 n
 ·exact Zja rfl (Zga rfl)
 have h60:=(Cf.1 h1).2.2.2.2;refine Zia rfl (Zsa (Ju s hs) ?_);cases Bc s
 ·exact Zja rfl (Zga rfl)
 refine Zia rfl (Zsa (Zua (Q:=λ r=>r=Dw f) (S5 f) rfl) ?_);cases Dw f
 ·exact Zja rfl (Zga rfl)
 refine Zia rfl ?_;unfold Oz;refine Zna (λ h=>Zga ?_) (λ h=>?_)
 ·rw[show ((n.2.2.2.length:Int)==60)=true from beq_iff_eq.2 (by omega)];rfl
 ·rw[show ((n.2.2.2.length:Int)==60)=false from beq_eq_false_iff_ne.2 (by omega)];refine Zsa (H3a n.2.1 s f sure hn.1.1 hn.1.2.1 hs) ?_;cases (keep n.2.1 s f sure).2==0
  ·exact Zia rfl (Zga rfl)
  refine Zja rfl ?_;cases sure
  ·exact Zia rfl (Zga rfl)
  refine Zja rfl (Zsa (Zua (Q:=λ r=>r=Qr s f) (show Gn s f=some (Qr s f) from rfl) rfl) ?_);exact Zoa (by simp only[Vh,Vs];omega) (Zga rfl)
def F1a (n:Nod) (s:ByteArray) (b:Int) (hn:NIn n) (h1:b≤9223372036854775807) (h0 : -9223372036854775808≤b):Tot (λ k=>Gi k n s b) (λ r=>r=Cha n s b):=by
 unfold Gi Cha;refine Zsa (I9 n hn) ?_;refine Zsa (Z3 hn.1.1.1.1.1 hn.1.2.1 s) ?_;refine Zsa (Pv n hn) ?_;cases h:J0 n
 ·exact Zja rfl (Zga rfl)
 refine Zia rfl ?_;cases hl:(lkD n.2.1 s).2==0
 ·exact Zja (by unfold bne;rw[hl];rfl) (Zga rfl)
 refine Zia (by unfold bne;rw[hl];rfl) (Zsa (V2a (NG.g ⟨h,hn.1.2⟩) h1 h0) ?_);refine Zga ?_;cases hr:(Z4 n.2.1 s b).2
 case true=>rfl
 have e:(Z4 n.2.1 s b).1=n.2.1:=by
  unfold Z4 at hr ⊢
  cases hg:gt n.2.1.1 s with
  |none=>rfl
  |some c=>
   rw[hg]at hr;simp only at hr ⊢
   cases hc:inR b 0 (8*(c.length:Int)-1) with
   |false=>rfl
   |true=>rw[hc]at hr;cases hr
 rw[e];rfl
def Yqa (n:Nod):Nod×Int:=((n.1,(Kd n.2.1).1,n.2.2),(Kd n.2.1).2)
def Nba (n:Nod) (kp:List Bool):Nod:=bif J0 n then (n.1,Kj n.2.1 kp,n.2.2) else n
def A3a {n:Nod} (hn:NG n) {d:Dsk} (hd:DG d):NG (n.1,d,n.2.2):=by
 obtain⟨h1,h2,h3,h4,h5⟩:=Cf.1 hn.1;exact⟨Cf.2 ⟨h1,h2,hd.1,h4,h5⟩,hd.2⟩
def Sza {n:Nod} (hn:NG n):NG (Yqa n).1:=A3a hn (Qwa hn.g)
def Nca (n:Nod) (hn:NG n):Tot (λ k=>F3 k n) (λ r=>r=Yqa n):=by
 unfold F3;refine Zsa (I9 n (Z5 hn)) ?_;refine Zsa (Naa n.2.1 hn.g) ?_;exact Zga rfl
def Nda (n:Nod) (kp:List Bool) (hn:NIn n) (hk:kp.length≤4000000000000):Tot (λ k=>F4 k n kp) (λ r=>r=Nba n kp):=by
 unfold F4 Nba;refine Zsa (I9 n hn) ?_;refine Zsa (Pv n hn) ?_;cases h:J0 n
 ·exact Zia rfl (Zga rfl)
 refine Zja rfl (Zsa (N9a n.2.1 kp (NG.g ⟨h,hn.1.2⟩) hk) ?_);exact Zga rfl

end Go.Proofs.YtcpligincipmhaaGreat.Vf
