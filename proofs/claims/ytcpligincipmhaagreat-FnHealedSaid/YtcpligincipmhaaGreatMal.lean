import Derived.Test.YtcpligincipmhaaGreatMak
set_option linter.all false
namespace Go.Proofs.YtcpligincipmhaaGreat.Vf
open Go
open List (length getD)
open Int (toNat)
open Go.IntKind (wrap)
open BitVec (ofInt)
def Wg:=@List.take_succ_eq_append_getElem
def Cwb:=@List.length_pos_of_mem
def Dib:=@List.foldl_append
def Dlb:=@List.exists_mem_of_length_pos
def E0b:=@List.not_mem_nil
def E9b:=@List.length_erase_of_mem
def Emb:=@List.set_getElem_self
def Etb:=@List.mem_erase_of_ne
def Ezb:=@BitVec.getLsbD_ushiftRight
def Flb:=@BitVec.eq_of_toNat_eq
def Fmb:=@List.set_append_right
def Fnb:=@List.range_succ
def Frb:=@List.nodup_nil
def Ftb:=@Nat.mod_lt
def Fub:=@List.map_set

def Xy:Fil:=(((0:Int),((0:Int),(0:Int))),(false,([]:List Int)))
def Ds (f:Fil):Bool:=Gw f.1&&(decide ((f.2.2.length:Int)≤200)&&(!f.2.1||((f.2.2.length:Int)==0)))
def Ta (f:Fil):Cr f=some (Ds f):=by
 unfold Cr Ds;rw[Qn];simp only[Vt]
 cases Gw f.1<;>cases decide ((length f.2.2:Int)≤200)<;>cases f.2.1<;>rfl
def Ha {f:Fil}:Ds f=true↔Gw f.1=true∧f.2.2.length≤200∧(f.2.1=true→f.2.2=[]):=by
 unfold Ds;rw[Va,Va,decide_eq_true_iff]
 have:(!f.2.1||((f.2.2.length:Int)==0))=true↔(f.2.1=true→f.2.2=[]):=by
  cases f.2.1 with
  |false=>simp
  |true=>simp
 rw[this];constructor
 ·rintro⟨h1,h2,h3⟩;exact⟨h1,by omega,h3⟩
 ·rintro⟨h1,h2,h3⟩;exact⟨h1,by omega,h3⟩
def Dba (a b:Fil):Gr a b=some (sle b.1 a.1):=by unfold Gr;rw[Ana];rfl
def hdF (s:Stp) (d:Bool):List Int:=Uka s++Mc (D6 (Fua d))
def Mv (f:Fil):List Int:=hdF f.1 f.2.1++txt (Ir f.2.2)
def c4 (c:Int):List Int:=[wrap .u8 (Int.fdiv c (2 ^ (min (toNat 24) (IntKind.bits .i64)))),wrap .u8 (Int.fdiv c (2 ^ (min (toNat 16) (IntKind.bits .i64)))),wrap .u8 (Int.fdiv c (2 ^ (min (toNat 8) (IntKind.bits .i64)))),wrap .u8 c]
def G5 (f:Fil):List Int:=bif Ds f then Mv f++c4 (crc (Mv f)) else []
def M6 {a b:List Int} (ha:Ax a) (hb:Ax b):Ax (a++b):=λ x hx=>(Vm.1 hx).elim (ha x) (hb x)
def Nz (n:Int):Ax (Mc (D6 n)):=Kaa _ (M3 n)
def Oda (s:Stp) (d:Bool):Ax (hdF s d):=M6 (M6 (Nz _) (M6 (Nz _) (Nz _))) (Nz _)
def Pr (f:Fil):Ax (Mv f):=M6 (Oda _ _) (M6 (Nz _) (Xt _))
def Sja (c:Int):Ax (c4 c):=by
 intro x hx;simp only[c4,Vk,E0b,or_false]at hx
 rcases hx with rfl|rfl|rfl|rfl<;>exact Nsa _
def Rt (f:Fil):Ax (G5 f):=by
 unfold G5
 cases Ds f with
 |false=>intro x hx;simp at hx
 |true=>exact M6 (Pr f) (Sja _)
def Oea (s:Stp) (d:Bool):(hdF s d).length≤20:=by
 have h1:=Saa s;have h2:=(Kg (D6 (Fua d))).1;unfold hdF;rw[Vi];omega
def Dca (f:Fil):(Mv f).length≤25+f.2.2.length:=by
 have h1:=Oea f.1 f.2.1;have h2:=X1a (Ir f.2.2);have h3:(Ir f.2.2).size=f.2.2.length:=M4 _;unfold Mv;rw[Vi];omega
def Tb (f:Fil):(G5 f).length≤229:=by
 unfold G5;cases h:Ds f
 ·simp
 have h1:=Dca f;have h2:=(Ha.1 h).2.1;rw[cond_true,Vi];simp only[c4,Vh,Vs];omega
def Mw (f:Fil):Tot (λ k=>Dt k f) (λ r=>r=G5 f):=by
 unfold Dt G5;refine Cqb (Crb (Q:=λ b=>b=Ds f) (Ta f) rfl) ?_;cases h:Ds f
 ·exact Cib rfl (Cfb rfl)
 have h2:=(Ha.1 h).2.1;have h3:(Ir f.2.2).size=f.2.2.length:=M4 _;have h4:=Oea f.1 f.2.1;have h5:=Dca f;refine Chb rfl (Cqb (Kca [] f.1 f.2.1 (by simp)) ?_);rw[Wn];refine Cqb (S8a _ _ (by unfold hdF at h4;omega) (by omega)) ?_;have e:Uka f.1++Mc (D6 (Fua f.2.1))++txt (Ir f.2.2)=Mv f:=rfl;rw[e];refine Cqb (X6a _ (Pr f) (by omega)) ?_;exact Cnb (by simp only[Vh,Vs];omega) (Cfb rfl)
def Ka (b:List Int):Option Fil:=(Uw b 0).bind λ a=>(L5a b a.2).bind λ t=>bif Ds (a.1.1,a.1.2,bytesOf t.1)&&decide (G5 (a.1.1,a.1.2,bytesOf t.1)=b) then some (a.1.1,a.1.2,bytesOf t.1) else none
def Axa (b:List Int):Fil×Bool:=match Ka b with
 |some f=>(f,true)
 |none=>(Xy,false)
def Aya {b:List Int} {f:Fil} (h:Ka b=some f):Ds f=true∧Ax f.2.2∧G5 f=b:=by
 unfold Ka at h;simp only[Fdb]at h;obtain⟨a,_,t,_,h⟩:=h;cases hc:(Ds (a.1.1,a.1.2,bytesOf t.1)&&decide (G5 (a.1.1,a.1.2,bytesOf t.1)=b))
 ·rw[hc]at h;cases h
 rw[hc]at h;simp only[cond_true,Vc]at h;subst h;rw[Va,decide_eq_true_iff]at hc;exact⟨hc.1,Xt _,hc.2⟩
def Ofa (s:Stp) (d:Bool) (rest:List Int) (h:Gw s=true):Uw (hdF s d++rest) 0=some ((s,d),(hdF s d).length):=by
 obtain⟨t,c,n⟩:=s;unfold Gw at h;simp only[Va,Dg]at h;obtain⟨⟨t0,t1⟩,⟨c0,c1⟩,n0,n1⟩:=h;have ht:=Ut t0 t1;have hc:=Ut c0 (show c≤1000000000 by omega);have hn:=Ut n0 (show n≤1000000000 by omega)
 have hbit:(((D6 (Fua d):Nat):Int)==1)=d:=by cases d<;>decide
 have hbit2:¬ (1<D6 (Fua d)):=by cases d<;>decide
 have k:∀ (a:List Int) (n:Nat) (b:List Int),n≤1000000000→Xq (a++(Mc n++b)) a.length=some (n,(a++Mc n).length):=λ a n b hn=>by rw[I4a a n b hn,Vi]
 have e0:hdF (t,c,n) d++rest=Mc (D6 t)++(Mc (D6 c)++(Mc (D6 n)++(Mc (D6 (Fua d))++rest))):=by
  unfold hdF Uka;simp only[Vo]
 have el:(hdF (t,c,n) d).length=(Mc (D6 t)).length+(Mc (D6 c)).length+(Mc (D6 n)).length+(Mc (D6 (Fua d))).length:=by
  unfold hdF Uka;simp only[Vi];omega
 have g1:=k [] (D6 t) (Mc (D6 c)++(Mc (D6 n)++(Mc (D6 (Fua d))++rest))) (M3 t);have g2:=k (Mc (D6 t)) (D6 c) (Mc (D6 n)++(Mc (D6 (Fua d))++rest)) (M3 c);have g3:=k (Mc (D6 t)++Mc (D6 c)) (D6 n) (Mc (D6 (Fua d))++rest) (M3 n);have g4:=k (Mc (D6 t)++Mc (D6 c)++Mc (D6 n)) (D6 (Fua d)) rest (M3 _);simp only[Vo,Wn,Vs]at g1 g2 g3 g4;simp only[Vi]at g1 g2 g3 g4;unfold Uw;rw[e0,el];simp only[Zk]at g1 g2 g3 g4 ⊢;simp only[g1,g2,g3,g4,Vt,decide_eq_false hbit2,cond_false];rw[ht,hc,hn,hbit]
def Mx {f:Fil} (h:Ds f=true) (hb:Ax f.2.2):Ka (G5 f)=some f:=by
 obtain⟨h1,h2,h3⟩:=Ha.1 h
 have e:G5 f=hdF f.1 f.2.1++(txt (Ir f.2.2)++c4 (crc (Mv f))):=by
  unfold G5;rw[h,cond_true];unfold Mv;rw[Vo]
 have g1:=Ofa f.1 f.2.1 (txt (Ir f.2.2)++c4 (crc (Mv f))) h1;have g2:=S9a (hdF f.1 f.2.1) (Ir f.2.2) (c4 (crc (Mv f))) (by rw[M4];omega);rw[← e]at g1 g2;unfold Ka;simp only[g1,g2,Vt];rw[Kh hb];have e1:(f.1,f.2.1,f.2.2)=f:=rfl;rw[e1,h,decide_eq_true rfl];rfl
def V1 {a b:List Int} (ha:Ax a) (hb:Ax b):((Ir a).toList==(Ir b).toList)=decide (a=b):=by
 have:teq (Ir a) (Ir b)=decide (a=b):=by
  rw[Dhb,Cn,decide_eq_true_iff];constructor
  ·intro h;have:=congrArg bytesOf h;rwa [Kh ha,Kh hb]at this
  ·rintro rfl;rfl
 exact this
def Ska (l:List Int) (hb:Ax l) (hl:l.length≤1000000000000) (p:Int) (hp:p≤1000000000000):
  Tot (λ k=>Cc k (l,p,true)) (λ r=>r=((⟨#[]⟩:ByteArray),l,p,true)):=by
 unfold Cc;refine Cqb (I5a l hb hl p hp) ?_;exact Cib rfl (Cfb rfl)
def Sla {f:Fil}:(((G5 f).length:Int)==0) = !(Ds f):=by
 unfold G5;cases h:Ds f
 ·rfl
 rw[cond_true,Vi,Zb,beq_eq_false_iff_ne];simp only[c4,Vh,Vs];omega
def My (b:List Int) (hb:Ax b) (hl:b.length≤1000000000000):Tot (λ k=>Dd k b) (λ r=>r=Axa b):=by
 unfold Dd;refine Cgb (Bkb b hb hl 0 (Vu _) false) ?_;rintro r (⟨_,⟨s,d⟩,q,h1,h2,rfl⟩|⟨h1,s,d,q,h2,rfl⟩)
 ·refine Cgb (Bjb b hb hl q h2) ?_;rintro r (⟨t,q2,h3,h4,rfl⟩|⟨h3,rfl⟩)
  ·have hsz:=(O8a hb h3).2.1;refine Cnb (by dsimp only;omega) (Cqb (Mw _) ?_);refine Chb rfl ?_
   have e:Axa b=bif Ds (s,d,bytesOf t)&&decide (G5 (s,d,bytesOf t)=b) then ((s,d,bytesOf t),true) else (Xy,false):=by
    unfold Axa Ka;simp only[h1,h3,Vt]
    cases Ds (s,d,bytesOf t)&&decide (G5 (s,d,bytesOf t)=b)<;>rfl
   simp only;rw[e,Sla];cases hf:Ds (s,d,bytesOf t)
   ·exact Cib rfl (Cfb rfl)
   refine Chb rfl ?_;rw[V1 (Rt _) hb]
   cases decide (G5 (s,d,bytesOf t)=b) with
   |false=>exact Cib rfl (Cfb rfl)
   |true=>exact Chb rfl (Cfb rfl)
  ·refine Cnb (Vu _) (Cqb (Mw _) ?_);refine Cib rfl (Cfb ?_);unfold Axa Ka;simp only[h1,h3,Vt,Dzb];rfl
 ·refine Cqb (Ska b hb hl q (by omega)) ?_;refine Cnb (Vu _) (Cqb (Mw _) ?_);refine Cib rfl (Cfb ?_);unfold Axa Ka;simp only[h1.resolve_left (by simp),Dzb];rfl

def gt (l:List Nmd) (s:ByteArray):Option (List Int):=match fnd l s with
 |some i=>some (l.getD i Hg).2
 |none=>none
def Ru (y:Nmd) (l:List Nmd) (s:ByteArray):gt (y::l) s=if y.1=s then some y.2 else gt l s:=by
 unfold gt;rw[I8a]
 by_cases h:y.1=s
 ·rw[if_pos (Cn.2 h),if_pos h];rfl
 ·rw[if_neg (λ c=>h (Cn.1 c)),if_neg h]
  cases fnd l s<;>rfl
def Kd {l:List Nmd} {s:ByteArray} {b:List Int} (h:gt l s=some b):(s,b)∈l:=by
 induction l with
 |nil=>cases h
 |cons y l ih=>
  rw[Ru]at h
  by_cases e:y.1=s
  ·rw[if_pos e]at h;cases h;subst e;exact Wj
  ·rw[if_neg e]at h;exact Vd _ (ih h)
def Ks {l:List Nmd} {s:ByteArray}:gt l s=none↔∀ x∈l,x.1≠s:=by
 rw[← Sfa];unfold gt
 cases fnd l s with
 |none=>simp
 |some i=>simp
def Fza {l:List Nmd} (hs:Db l) {x:Nmd} (hx:x∈l):gt l x.1=some x.2:=by
 cases h:gt l x.1 with
 |none=>exact absurd rfl (Ks.1 h x hx)
 |some b=>rw[show x=(x.1,b) from X5a hs hx (Kd h) rfl]
def Dda {l:List Nmd} (hs:Db l) {s:ByteArray} {b:List Int}:gt l s=some b↔(s,b)∈l:=⟨Kd,λ h=>Fza hs h⟩
def Dea {l:List Nmd} {s:ByteArray}:(gt l s).isSome=(fnd l s).isSome:=by
 unfold gt
 cases fnd l s<;>rfl
def Qp {l:List Nmd} (hs:Db l) {s t:ByteArray}:gt (cut l s) t=if s=t then none else gt l t:=by
 by_cases h:s=t
 ·subst h;rw[if_pos rfl,Ks];exact Uz
 ·rw[if_neg h]
  cases hg:gt l t with
  |none=>exact Ks.2 λ x hx=>Ks.1 hg x (Uy.subset hx)
  |some b=>
   rw[Dda (Jn hs)];refine Dfb.2 ⟨Kd hg,?_⟩
   cases ht:teq t s with
   |false=>simp[ht]
   |true=>exact absurd (Cn.1 ht).symm h
def Ura {l:List Nmd} (hs:Db l) {x:Nmd} (hn:∀ y∈l,y.1≠x.1) {t:ByteArray}:gt (ins l x) t=if x.1=t then some x.2 else gt l t:=by
 have hi:=Ox hs hn
 by_cases h:x.1=t
 ·subst h;rw[if_pos rfl,Dda hi];exact Rs.2 (.inl rfl)
 ·rw[if_neg h]
  cases hg:gt l t with
  |none=>
   refine Ks.2 λ y hy=>?_;rcases Rs.1 hy with rfl|hy
   ·exact h
   ·exact Ks.1 hg y hy
  |some b=>
   rw[Dda hi];exact Rs.2 (.inr (Kd hg))
def Zva:∀ {l m:List Nmd},Db l→Db m→(∀ s,gt l s=gt m s)→l=m:=by
 have key:∀ {l m:List Nmd},Db l→Db m→(∀ s,gt l s=gt m s)→∀ x∈l,x∈m:=λ hl hm h x hx=>by
  have:=h x.1;rw[Fza hl hx]at this;exact Kd this.symm
 intro l m hl hm h;have h1:∀ x,x∈l↔x∈m:=λ x=>⟨key hl hm h x,key hm hl (λ s=>(h s).symm) x⟩;clear h key
 induction l generalizing m with
 |nil=>
  cases m with
  |nil=>rfl
  |cons y m=>exact absurd ((h1 y).2 (by simp)) (by simp)
 |cons x l ih=>
  cases m with
  |nil=>exact absurd ((h1 x).1 (by simp)) (by simp)
  |cons y m=>
   obtain⟨a1,a2⟩:=Wa.1 hl;obtain⟨b1,b2⟩:=Wa.1 hm
   have e:x=y:=by
    rcases Vk.1 ((h1 x).1 (by simp)) with h|h
    ·exact h
    ·rcases Vk.1 ((h1 y).2 (by simp)) with h'|h'
     ·exact h'.symm
     ·have c1:=a1 y h';rw[Nw (b1 x h)]at c1;cases c1
   subst e;congr 1;refine ih a2 b2 λ z=>⟨λ hz=>?_,λ hz=>?_⟩
   ·rcases Vk.1 ((h1 z).1 (Vd _ hz)) with rfl|h
    ·have c:=a1 z hz;rw[Ek]at c;cases c
    ·exact h
   ·rcases Vk.1 ((h1 z).2 (Vd _ hz)) with rfl|h
    ·have c:=b1 z hz;rw[Ek]at c;cases c
    ·exact h
def Usa (l:List Nmd) (s:ByteArray):rdN l s=match gt l s with|some b=>(b,true)|none=>([],false):=by
 unfold rdN gt
 cases fnd l s<;>rfl
def Hb {s:ByteArray} (h:B8 s=true):Ky s:=by
 have:=(Uv h).2;unfold Ky;omega
def E4 {d:Dsk}:C9 d=true↔H6 d.1=true∧H6 d.2=true:=by
 unfold C9;rw[Va]
def Hq {d:Dsk} (h:C9 d=true):Db d.1:=(B5.1 (E4.1 h).1).1
def Kt {d:Dsk} (h:C9 d=true):Db d.2:=(B5.1 (E4.1 h).2).1
def LB (l:List Nmd):Prop:=∀ x∈l,Ax x.2
def DB (d:Dsk):Prop:=LB d.1∧LB d.2
def LB.cut {l:List Nmd} (h:LB l) (s:ByteArray):LB (cut l s):=λ x hx=>h x (Uy.subset hx)
def LB.ins {l:List Nmd} (h:LB l) {x:Nmd} (hx:Ax x.2):LB (ins l x):=λ y hy=>by
 rcases Rs.1 hy with rfl|hy
 ·exact hx
 ·exact h y hy
def LB.gt {l:List Nmd} (h:LB l) {s:ByteArray} {b:List Int} (hg:gt l s=some b):Ax b:=h _ (Kd hg)
def V2:Ax []:=λ x hx=>by cases hx
def wr (l:List Nmd) (s:ByteArray) (b:List Int):List Nmd:=ins (cut l s) (s,b)
def sy (d:Dsk) (s:ByteArray):List Nmd:=match gt d.1 s with
 |some b=>wr d.2 s b
 |none=>cut d.2 s
def wrD (d:Dsk) (s:ByteArray) (b:List Int):Dsk×Bool:=bif decide (b.length≤400)&&decide ((wr d.1 s b).length≤60) then ((wr d.1 s b,d.2),true) else (d,false)
def syD (d:Dsk) (s:ByteArray):Dsk×Bool:=bif decide ((sy d s).length≤60) then ((d.1,sy d s),true) else (d,false)
def rmD (d:Dsk) (s:ByteArray):Dsk×Bool:=bif (gt d.1 s).isSome then ((cut d.1 s,d.2),true) else (d,false)
section
variable {d:Dsk} {s:ByteArray} {b:List Int}
def Uta (hd:C9 d=true):wrI d s b=wr d.1 s b:=by
 unfold wrI wr;rw[Ny (Hq hd)]
def Uua (hd:C9 d=true):syI d s=sy d s:=by
 unfold syI sy gt wr;rw[Ny (Kt hd)]
 cases fnd d.1 s<;>rfl
def Kga (hd:C9 d=true) (hs:B8 s=true) (hb:b.length≤1000000000000):Tot (λ k=>D9 k d s b) (λ r=>r=wrD d s b):=by
 refine(Oba d s b (P8 hd) (Hb hs) hb).mono ?_;rintro r rfl;rw[hd,hs,Uta hd];rfl
def Dfa (hd:C9 d=true) (hs:B8 s=true):Tot (λ k=>Bt k d s) (λ r=>r=syD d s):=by
 refine(Sha d s (P8 hd) (Hb hs)).mono ?_;rintro r rfl;rw[hd,hs,Uua hd];rfl
def X7a (hd:C9 d=true) (hs:B8 s=true) (hb:b.length≤400) (hl:(wr d.1 s b).length≤60):C9 (wr d.1 s b,d.2)=true:=by
 have:=(Sia (b:=b) hd hs).2;rw[Uta hd,decide_eq_true hb,decide_eq_true hl]at this;exact this
def Bob (hd:C9 d=true) (hs:B8 s=true) (hl:(sy d s).length≤60):C9 (d.1,sy d s)=true:=by
 have:=X4a hd hs;rw[Uua hd,decide_eq_true hl]at this;exact this
def Uva (hd:C9 d=true) (hs:B8 s=true):C9 (wrD d s b).1=true:=by
 unfold wrD;cases hc:decide (b.length≤400)&&decide ((wr d.1 s b).length≤60)
 ·exact hd
 rw[Va,decide_eq_true_iff,decide_eq_true_iff]at hc;exact X7a hd hs hc.1 hc.2
def Zwa (hd:C9 d=true) (hs:B8 s=true):C9 (syD d s).1=true:=by
 unfold syD
 cases hc:decide ((sy d s).length≤60) with
 |false=>exact hd
 |true=>exact Bob hd hs (of_decide_eq_true hc)
def Zxa (hd:C9 d=true):C9 (rmD d s).1=true:=by
 unfold rmD
 cases (gt d.1 s).isSome with
 |false=>exact hd
 |true=>exact E4.2 ⟨Sf (E4.1 hd).1,(E4.1 hd).2⟩
def Sma (hd:C9 d=true) (h:(gt d.1 s).isSome=true):B8 s=true:=by
 cases hg:gt d.1 s with
 |none=>rw[hg]at h;cases h
 |some b=>exact(Nx.1 ((B5.1 (E4.1 hd).1).2.1 _ (Kd hg))).1
def G0a (hd:C9 d=true):Tot (λ k=>Dp k d s) (λ r=>r=rmD d s):=by
 refine(Kea d s (P8 hd).1).mono ?_;rintro r rfl;rw[hd,← Dea,Cyb,Ny (Hq hd)];rfl
end
def lkD (d:Dsk) (s:ByteArray):Fil×Int:=match gt d.1 s with
 |none=>(Xy,1)
 |some b=>match Ka b with
  |some f=>(f,0)
  |none=>(Xy,2)
def Uwa {l:List Nmd} {s:ByteArray} {b:List Int} (h:Ula l) (hg:gt l s=some b):b.length≤1000000000000:=h.2 _ (Kd hg)
def Oy {d:Dsk} (hf:Ula d.1) (hb:LB d.1) (s:ByteArray):Tot (λ k=>Dz k d s) (λ r=>r=lkD d s):=by
 unfold Dz lkD;refine Cqb (I7a d s hf) ?_;rw[Usa]
 cases hg:gt d.1 s with
 |none=>exact Cib rfl (Cfb rfl)
 |some b=>
  refine Chb rfl (Cqb (My b (hb.gt hg) (Uwa hf hg)) ?_);unfold Axa;dsimp only
  cases Ka b with
  |none=>exact Cib rfl (Cfb rfl)
  |some f=>exact Chb rfl (Cfb rfl)
def M7 {d:Dsk} {s:ByteArray} {f:Fil}:lkD d s=(f,0)↔∃ b,gt d.1 s=some b∧Ka b=some f:=by
 unfold lkD
 cases gt d.1 s with
 |none=>simp
 |some b=>cases h:Ka b<;>simp[h]
def old (d:Dsk) (s:ByteArray):Option Fil:=(gt d.1 s).bind Ka
def kp1 (d:Dsk) (s:ByteArray) (f:Fil):Option (Dsk×Int):=
 let w:=bif (wrD d s (G5 f)).2 then some ((wrD d s (G5 f)).1,(0:Int)) else none
 match old d s with
 |some o=>bif sle o.1 f.1 then w else some (d,1)
 |none=>w
def kp2 (d:Dsk) (s:ByteArray) (sure:Bool) (x:Dsk×Int):Dsk×Int:=bif sure then (bif (syD x.1 s).2 then ((syD x.1 s).1,x.2) else (d,3)) else x
def Jc (d:Dsk) (s:ByteArray) (f:Fil) (sure:Bool):Dsk×Int:=match kp1 d s f with
 |some x=>kp2 d s sure x
 |none=>(d,3)
def keep (d:Dsk) (s:ByteArray) (f:Fil) (sure:Bool):Dsk×Int:=bif C9 d&&(B8 s&&Ds f) then Jc d s f sure else (d,2)
def Sna:Ka []=none:=by
 cases h:Ka [] with
 |none=>rfl
 |some f=>
  obtain⟨h1,_,h3⟩:=Aya h;unfold G5 at h3;rw[h1]at h3;simp[c4]at h3
def Zya {d:Dsk} {s:ByteArray} {f:Fil} (hd:C9 d=true) (hs:B8 s=true) {x:Dsk×Int} (h:kp1 d s f=some x):C9 x.1=true:=by
 have hw:∀ x,(bif (wrD d s (G5 f)).2 then some ((wrD d s (G5 f)).1,(0:Int)) else none)=some x→C9 x.1=true:=by
  intro x h
  cases hc:(wrD d s (G5 f)).2 with
  |false=>rw[hc]at h;cases h
  |true=>rw[hc]at h;cases h;exact Uva hd hs
 unfold kp1 at h;simp only at h;split at h
 ·rename_i o _
  cases hc:sle o.1 f.1 with
  |false=>rw[hc]at h;cases h;exact hd
  |true=>rw[hc]at h;exact hw _ h
 ·exact hw _ h
def A0b {d:Dsk} {s:ByteArray} (hd:C9 d=true) (hs:B8 s=true) {x:Dsk} {c:Int} (hx:C9 x=true) (sure:Bool):
  Tot (λ k=>cond sure ((Bt k x s).bind λ r=>cond (!r.2) ((A4 k d).bind λ q=>some (q,3)) (some (r.1,c))) (some (x,c))) (λ r=>r=kp2 d s sure (x,c)):=by
 unfold kp2;cases sure
 ·exact Cfb rfl
 refine Cib rfl (Cqb (Dfa hx hs) ?_);cases h:(syD x s).2
 case true=>exact Chb rfl (Cfb rfl)
 refine Cib rfl (Cqb (Fm d (P8 hd).1.1) ?_);exact Cfb rfl
def Iba (d:Dsk) (s:ByteArray) (f:Fil) (sure:Bool) (hd:DIn d) (hb:LB d.1) (hs:Ky s):Tot (λ k=>Hc k d s f sure) (λ r=>r=keep d s f sure):=by
 have bad:Tot (λ k=>(A4 k d).bind λ r2=>some (r2,(2:Int))) (λ r=>r=(d,2)):=by
  refine Cqb (Fm d hd.1.1) ?_;exact Cfb rfl
 unfold Hc keep;refine Cqb (Ld d hd.1.1 hd.1.2) ?_;cases h1:C9 d
 ·exact Cib rfl bad
 refine Chb rfl (Cqb (Jv s hs) ?_);cases h2:B8 s
 ·exact Cib rfl bad
 refine Chb rfl (Cqb (Crb (Q:=λ b=>b=Ds f) (Ta f) rfl) ?_);cases h3:Ds f
 ·exact Cib rfl bad
 refine Chb rfl (Cqb (Fm d hd.1.1) ?_);refine Cqb (I7a d s hd.1.1.1) ?_;have hlen:=Tb f
 have w:∀ {o:Option Fil},(kp1 d s f=bif (wrD d s (G5 f)).2 then some ((wrD d s (G5 f)).1,(0:Int)) else none)→Tot (λ k=>(Dt k f).bind λ r13=>(D9 k d s r13).bind λ r14=>cond (!r14.2) ((A4 k d).bind λ r15=>some (r15,(3:Int))) (cond sure ((Bt k r14.1 s).bind λ r16=>cond (!r16.2) ((A4 k d).bind λ r17=>some (r17,3)) (some (r16.1,0))) (some (r14.1,0)))) (λ r=>r=Jc d s f sure):=by
  intro _ e;refine Cqb (Mw f) ?_;refine Cqb (Kga h1 h2 (by omega)) ?_;unfold Jc;rw[e]
  cases h4:(wrD d s (G5 f)).2 with
  |false=>
   refine Cib rfl (Cqb (Fm d hd.1.1) ?_);exact Cfb rfl
  |true=>exact Chb rfl (A0b h1 h2 (Uva h1 h2) sure)
 rw[Usa];have eo:old d s=(gt d.1 s).bind Ka:=rfl
 cases hg:gt d.1 s with
 |none=>
  rw[hg]at eo;refine Cqb (My [] V2 (by simp)) ?_;unfold Axa;rw[Sna];refine Chb rfl (w (o:=none) ?_);unfold kp1;rw[eo];rfl
 |some b=>
  rw[hg]at eo;have eo:old d s=Ka b:=eo;refine Cqb (My b (hb.gt hg) (Uwa hd.1.1.1 hg)) ?_;unfold Axa
  cases ho:Ka b with
  |none=>
   refine Chb rfl (w (o:=none) ?_);unfold kp1;rw[eo,ho]
  |some o=>
   rw[ho]at eo;refine Cib rfl (Cqb (Crb (Q:=λ b=>b=sle o.1 f.1) (Dba f o) rfl) ?_)
   cases hl:sle o.1 f.1 with
   |true=>
    refine Chb rfl (w (o:=none) ?_);unfold kp1;simp only[eo,hl,cond_true]
   |false=>
    have e1:Jc d s f sure=kp2 d s sure (d,1):=by
     unfold Jc kp1;simp only[eo,hl,cond_false]
    refine Cib rfl ?_;show Tot _ (λ r=>r=Jc d s f sure);rw[e1];exact A0b h1 h2 h1 sure

def DG (d:Dsk):Prop:=C9 d=true∧DB d
def Uxa {d:Dsk} {s:ByteArray} {b:List Int} (hd:C9 d=true) (h:gt d.1 s=some b):b.length≤400:=(Nx.1 ((B5.1 (E4.1 hd).1).2.1 _ (Kd h))).2
def A1b {d:Dsk} {s:ByteArray} {b:List Int} (h:DB d) (hb:Ax b):DB (wrD d s b).1:=by
 unfold wrD
 cases decide (b.length≤400)&&decide ((wr d.1 s b).length≤60) with
 |false=>exact h
 |true=>exact⟨(h.1.cut s).ins hb,h.2⟩
def Bpb {d:Dsk} {s:ByteArray} (h:DB d):LB (sy d s):=by
 unfold sy
 cases hg:gt d.1 s with
 |none=>exact h.2.cut s
 |some b=>exact(h.2.cut s).ins (h.1.gt hg)
def A2b {d:Dsk} {s:ByteArray} (h:DB d):DB (syD d s).1:=by
 unfold syD
 cases decide ((sy d s).length≤60) with
 |false=>exact h
 |true=>exact⟨h.1,Bpb h⟩
def A3b {d:Dsk} {s:ByteArray} (h:DB d):DB (rmD d s).1:=by
 unfold rmD
 cases (gt d.1 s).isSome with
 |false=>exact h
 |true=>exact⟨h.1.cut s,h.2⟩
def A4b {d:Dsk} {s:ByteArray} (h:DG d) (hs:B8 s=true):DG (syD d s).1:=⟨Zwa h.1 hs,A2b h.2⟩
def A5b {d:Dsk} {s:ByteArray} (h:DG d):DG (rmD d s).1:=⟨Zxa h.1,A3b h.2⟩
def A6b {d:Dsk} {s:ByteArray} {f:Fil} (hd:DG d) (hs:B8 s=true) {x:Dsk×Int} (h:kp1 d s f=some x):DG x.1:=by
 refine⟨Zya hd.1 hs h,?_⟩
 have hw:∀ x,(bif (wrD d s (G5 f)).2 then some ((wrD d s (G5 f)).1,(0:Int)) else none)=some x→DB x.1:=by
  intro x h
  cases hc:(wrD d s (G5 f)).2 with
  |false=>rw[hc]at h;cases h
  |true=>rw[hc]at h;cases h;exact A1b hd.2 (Rt f)
 unfold kp1 at h;simp only at h;split at h
 ·rename_i o _
  cases hc:sle o.1 f.1 with
  |false=>rw[hc]at h;cases h;exact hd.2
  |true=>rw[hc]at h;exact hw _ h
 ·exact hw _ h
def Bqb {d:Dsk} {s:ByteArray} {sure:Bool} (hd:DG d) (hs:B8 s=true) {x:Dsk×Int} (hx:DG x.1):DG (kp2 d s sure x).1:=by
 unfold kp2;cases sure
 ·exact hx
 rw[cond_true]
 cases (syD x.1 s).2 with
 |false=>exact hd
 |true=>exact A4b hx hs
def Oga {d:Dsk} {s:ByteArray} {f:Fil} {sure:Bool} (hd:DG d) (hs:B8 s=true):DG (Jc d s f sure).1:=by
 unfold Jc
 cases h:kp1 d s f with
 |none=>exact hd
 |some x=>exact Bqb hd hs (A6b hd hs h)
def Uya {d:Dsk} {s:ByteArray} {f:Fil} {sure:Bool} (hd:DG d):DG (keep d s f sure).1:=by
 unfold keep;cases h:B8 s
 ·rw[hd.1];exact hd
 cases Ds f with
 |false=>rw[hd.1];exact hd
 |true=>rw[hd.1];exact Oga hd h
def Wu (b:Int) (j:Nat):Int:=((ofInt 8 b ^^^ BitVec.twoPow 8 j).toNat:Int)
def Ica (b:Int) (j:Nat):0≤Wu b j∧Wu b j≤255:=by
 unfold Wu;have:=(ofInt 8 b ^^^ BitVec.twoPow 8 j).isLt;omega
def X8a (b:Int):∀ j,j<8→wrap .u8 ((ofInt (IntKind.bits .u8) b ^^^ ofInt (IntKind.bits .u8) (wrap .u8 ((1:Int)*2 ^ (min j (IntKind.bits .u8))))).toNat)=Wu b j:=by
 intro j hj
 have h1:∀ j,j<8→ofInt 8 (wrap .u8 ((1:Int)*2 ^ (min j 8)))=BitVec.twoPow 8 j:=by decide
 show wrap .u8 (((ofInt 8 b ^^^ ofInt 8 (wrap .u8 ((1:Int)*2 ^ (min j 8)))).toNat:Nat):Int)=_;rw[h1 j hj];have:=(ofInt 8 b ^^^ BitVec.twoPow 8 j).isLt;rw[O7a _ (by omega)];rfl
def Soa {b:Int} (hb:0≤b∧b≤255) {j:Nat} (hj:j<8):Wu b j≠b:=by
 intro h;unfold Wu at h
 have h1:b=((ofInt 8 b).toNat:Int):=by rw[F2b];omega
 have h2:(ofInt 8 b ^^^ BitVec.twoPow 8 j).toNat=(ofInt 8 b).toNat:=by omega
 have h3:=Flb h2
 have h4:BitVec.twoPow 8 j=0#8:=by
  have:=congrArg (λ x=>ofInt 8 b ^^^ x) h3
  simpa[← BitVec.xor_assoc] using this
 have h5:∀ j,j<8→BitVec.twoPow 8 j≠0#8:=by decide
 exact h5 j hj h4
def Jo (l:List Int) (n:Nat):List Int:=l.set (n/8) (Wu (l.getD (n/8) 0) (n % 8))
def Dga (l:List Int) (n:Nat):(Jo l n).length=l.length:=by unfold Jo;rw[Vv]
def G1a {l:List Int} (h:Ax l) (n:Nat):Ax (Jo l n):=λ x hx=>by
 rcases Yw hx with h'|rfl
 ·exact h x h'
 ·exact Ica _ _
def Qq (d:Dsk) (s:ByteArray) (n:Int):Dsk×Bool:=match gt d.1 s with
 |none=>(d,false)
 |some b=>bif inR n 0 (8*(b.length:Int)-1) then ((wr d.1 s (Jo b n.toNat),bif decide (gt d.2 s=some b) then wr d.2 s (Jo b n.toNat) else d.2),true) else (d,false)
def Oha {l:List Nmd} (hs:Db l) {s:ByteArray} {i:Nat} (h:fnd l s=some i) (b:List Int):l.set i (s,b)=wr l s b:=by
 obtain⟨hi,hn⟩:=M5 h
 have hm:(l.set i (s,b)).map Prod.fst=l.map Prod.fst:=by
  rw[Fub];apply Dsb;intro j
  by_cases hj:i=j
  ·subst hj;rw[Dnb (by rw[Vz];exact hi),Zx,Vg hi];rw[Vb,Vg hi]at hn;exact congrArg some hn.symm
  ·rw[Dwb hj]
 have h1:Db (l.set i (s,b)):=by
  have e:∀ m:List Nmd,Db m↔(m.map Prod.fst).Pairwise (λ a b=>tlt a b=true):=λ m=>by
   unfold Db;rw[Zi]
  rw[e,hm,← e];exact hs
 refine Zva h1 (Ox (Jn hs) Uz) λ t=>?_;have h2:=Ura (x:=(s,b)) (t:=t) (Jn hs (s:=s)) Uz;unfold wr;rw[h2]
 by_cases ht:s=t
 ·subst ht;rw[if_pos rfl,Dda h1];exact List.mem_set hi _
 ·rw[if_neg ht,Qp hs,if_neg ht]
  cases hg:gt l t with
  |none=>
   refine Ks.2 λ x hx=>?_;rcases Yw hx with h'|rfl
   ·exact Ks.1 hg x h'
   ·exact ht
  |some c=>
   rw[Dda h1];obtain⟨j,hj,e⟩:=Yn.1 (Kd hg)
   have hij:i≠j:=by
    rintro rfl;rw[Vb,Vg hi,Wm,e]at hn;exact ht hn.symm
   refine Yn.2 ⟨j,by rw[Vv];exact hj,?_⟩;rw[List.getElem_set_ne hij];exact e
def Dha {l:List Nmd} {s:ByteArray} {b:List Int} (hs:Db l) (h:(gt l s).isSome=true):(wr l s b).length=l.length:=by
 rw[Dea]at h;obtain⟨i,hi⟩:=Zl.1 h;rw[← Oha hs hi,Vv]
def A7b {d:Dsk} {s:ByteArray} {n:Int} (h:DG d):DG (Qq d s n).1:=by
 unfold Qq
 cases hg:gt d.1 s with
 |none=>exact h
 |some b=>
  simp only;cases inR n 0 (8*(b.length:Int)-1)
  ·exact h
  have hn:=Sma h.1 (s:=s) (by rw[hg];rfl);have hb:=Uxa h.1 hg;have hbb:=G1a (h.2.1.gt hg) n.toNat;have l1:=Dha (b:=Jo b n.toNat) (Hq h.1) (s:=s) (by rw[hg];rfl);have q1:=X7a h.1 hn (b:=Jo b n.toNat) (by rw[Dga];exact hb) (by rw[l1];exact(B5.1 (E4.1 h.1).1).2.2);rw[cond_true];cases hc:decide (gt d.2 s=some b)
  ·exact⟨q1,(h.2.1.cut s).ins hbb,h.2.2⟩
  have hg2:=of_decide_eq_true hc;have l2:=Dha (b:=Jo b n.toNat) (Kt h.1) (s:=s) (by rw[hg2];rfl);have h':C9 (d.2,d.1)=true:=E4.2 ⟨(E4.1 h.1).2,(E4.1 h.1).1⟩;have q2:=X7a h' hn (b:=Jo b n.toNat) (by rw[Dga];exact hb) (by show (wr d.2 s _).length≤60;rw[l2];exact(B5.1 (E4.1 h.1).2).2.2);exact⟨E4.2 ⟨(E4.1 q1).1,(E4.1 q2).1⟩,(h.2.1.cut s).ins hbb,(h.2.2.cut s).ins hbb⟩
def lb0:LB []:=λ x hx=>by cases hx
def dg0:DG ([],[]):=⟨by decide,⟨lb0,lb0⟩⟩

def Dia (a b:Fil) (hf:a.2.2.length≤1000000000000):Tot (λ k=>Ej k a b) (λ r=>r=decide (a=b)):=by
 obtain⟨⟨a1,a2,a3⟩,a4,a5⟩:=a;obtain⟨⟨b1,b2,b3⟩,b4,b5⟩:=b;unfold Ej;dsimp only at hf ⊢
 have e:decide (((a1,a2,a3),a4,a5)=((b1,b2,b3),b4,b5))=(((a1==b1)&&((a2==b2)&&(a3==b3)))&&((a4==b4)&&decide (a5=b5))):=by
  rw[Dhb,decide_eq_true_iff];simp only[Vx,Va,beq_iff_eq,decide_eq_true_iff]
 rw[e];cases (a1==b1)&&((a2==b2)&&(a3==b3))
 ·exact Chb rfl (Cfb rfl)
 refine Cib rfl ?_;cases a4==b4
 ·exact Chb rfl (Cfb rfl)
 refine Cib rfl (Cqb (Awa a5 b5 hf) ?_);exact Cfb (by simp)
section
variable {d:Dsk} {s:ByteArray} {f:Fil} {sure:Bool}
def Spa (a:Stp):sle a a=false:=Gu a
def O3 (h1:C9 d=true) (h2:B8 s=true) (h3:Ds f=true):keep d s f sure=Jc d s f sure:=by unfold keep;rw[h1,h2,h3];rfl
def Dja {x:Dsk} {c:Int}:(kp2 d s sure (x,c)=(d,3))∨(sure=false∧kp2 d s sure (x,c)=(x,c))∨(sure=true∧(sy x s).length≤60∧kp2 d s sure (x,c)=((x.1,sy x s),c)):=by
 unfold kp2 syD;cases sure
 ·exact .inr (.inl ⟨rfl,rfl⟩)
 rw[cond_true]
 by_cases h:(sy x s).length≤60
 ·rw[decide_eq_true h];exact .inr (.inr ⟨rfl,h,rfl⟩)
 ·rw[decide_eq_false h];exact .inl rfl
def Oia (hd:DG d) (hs:B8 s=true):kp1 d s f=none∨(∃ o,old d s=some o∧sle o.1 f.1=false∧kp1 d s f=some (d,1))∨((∀ o,old d s=some o→sle o.1 f.1=true)∧(wr d.1 s (G5 f)).length≤60∧kp1 d s f=some ((wr d.1 s (G5 f),d.2),0)):=by
 have hl:(G5 f).length≤400:=by have:=Tb f;omega
 have w:(bif (wrD d s (G5 f)).2 then some ((wrD d s (G5 f)).1,(0:Int)) else none)=none∨((wr d.1 s (G5 f)).length≤60∧(bif (wrD d s (G5 f)).2 then some ((wrD d s (G5 f)).1,(0:Int)) else none)=some ((wr d.1 s (G5 f),d.2),0)):=by
  unfold wrD;rw[decide_eq_true hl,Wf]
  by_cases h:(wr d.1 s (G5 f)).length≤60
  ·rw[decide_eq_true h];exact .inr ⟨h,rfl⟩
  ·rw[decide_eq_false h];exact .inl rfl
 unfold kp1
 cases ho:old d s with
 |none=>
  rcases w with h|⟨h1,h2⟩
  ·exact .inl h
  ·exact .inr (.inr ⟨λ o h=>(by cases h),h1,h2⟩)
 |some o=>
  simp only;cases hc:sle o.1 f.1
  ·exact .inr (.inl ⟨o,rfl,hc,rfl⟩)
  rcases w with h|⟨h1,h2⟩
  ·exact .inl h
  ·exact .inr (.inr ⟨λ o' h=>(by cases h;exact hc),h1,h2⟩)
def Oz (hd:DG d) (hs:B8 s=true):Jc d s f sure=(d,3)∨
  (∃ o,old d s=some o∧sle o.1 f.1=false∧(Jc d s f sure).2=1∧DG (Jc d s f sure).1∧((sure=false∧(Jc d s f sure).1=d)∨(sure=true∧(Jc d s f sure).1=(d.1,sy d s))))∨
  ((∀ o,old d s=some o→sle o.1 f.1=true)∧DG (wr d.1 s (G5 f),d.2)∧(Jc d s f sure).2=0∧DG (Jc d s f sure).1∧((sure=false∧(Jc d s f sure).1=(wr d.1 s (G5 f),d.2))∨(sure=true∧(Jc d s f sure).1=(wr d.1 s (G5 f),sy (wr d.1 s (G5 f),d.2) s)))):=by
 have hg:=Oga (f:=f) (sure:=sure) hd hs;rcases Oia (f:=f) hd hs with h|⟨o,h1,h2,h⟩|⟨h1,h2,h⟩
 ·exact .inl (by unfold Jc;rw[h])
 ·have e:Jc d s f sure=kp2 d s sure (d,1):=by unfold Jc;rw[h]
  rcases Dja (d:=d) (s:=s) (sure:=sure) (x:=d) (c:=1) with k|⟨k0,k⟩|⟨k0,k1,k⟩
  ·exact .inl (e.trans k)
  ·rw[← e]at k;exact .inr (.inl ⟨o,h1,h2,by rw[k],hg,.inl ⟨k0,by rw[k]⟩⟩)
  ·rw[← e]at k;exact .inr (.inl ⟨o,h1,h2,by rw[k],hg,.inr ⟨k0,by rw[k]⟩⟩)
 ·have e:Jc d s f sure=kp2 d s sure ((wr d.1 s (G5 f),d.2),0):=by unfold Jc;rw[h]
  have hw:=A6b hd hs h;rcases Dja (d:=d) (s:=s) (sure:=sure) (x:=(wr d.1 s (G5 f),d.2)) (c:=0) with k|⟨k0,k⟩|⟨k0,k1,k⟩
  ·exact .inl (e.trans k)
  ·rw[← e]at k;exact .inr (.inr ⟨h1,hw,by rw[k],hg,.inl ⟨k0,by rw[k]⟩⟩)
  ·rw[← e]at k;exact .inr (.inr ⟨h1,hw,by rw[k],hg,.inr ⟨k0,by rw[k]⟩⟩)
def Wv {l:List Nmd} (hs:Db l) {s t:ByteArray} {b:List Int}:gt (wr l s b) t=if s=t then some b else gt l t:=by
 unfold wr;rw[Ura (x:=(s,b)) (Jn hs) Uz]
 by_cases h:s=t
 ·rw[if_pos h,if_pos h]
 ·rw[if_neg h,if_neg h,Qp hs,if_neg h]
def G2a (hd:C9 d=true) {t:ByteArray}:gt (sy d s) t=if s=t then gt d.1 s else gt d.2 t:=by
 unfold sy
 cases h:gt d.1 s with
 |none=>rw[Qp (Kt hd)]
 |some b=>rw[Wv (Kt hd)]
def Oja (hd:DG d) (hs:B8 s=true) (hf:Ds f=true) (hb:Ax f.2.2) (h:(Jc d s f true).2=0∨(Jc d s f true).2=1):
  ∃ o g b,DG o∧DG (Jc d s f true).1∧(Jc d s f true).1=(o.1,sy o s)∧gt o.1 s=some b∧Ka b=some g∧sle g.1 f.1=false:=by
 rcases Oz (f:=f) (sure:=true) hd hs with k|⟨o,h1,h2,k,hg,h3⟩|⟨h1,h2,k,hg,h3⟩
 ·rw[k]at h;rcases h with h|h<;>cases h
 ·rcases h3 with⟨h3,_⟩|⟨_,h3⟩
  ·cases h3
  ·have ho:(gt d.1 s).bind Ka=some o:=h1
   cases hg1:gt d.1 s with
   |none=>rw[hg1]at ho;cases ho
   |some b=>
    rw[hg1]at ho;exact⟨d,o,b,hd,hg,h3,hg1,ho,h2⟩
 ·rcases h3 with⟨h3,_⟩|⟨_,h3⟩
  ·cases h3
  ·exact⟨(wr d.1 s (G5 f),d.2),f,G5 f,h2,hg,h3,by show gt (wr d.1 s (G5 f)) s=_;rw[Wv (Hq hd.1),if_pos rfl],Mx hf hb,Spa _⟩
end

abbrev Nod:=Int×Dsk×List Row×List Row
def qOk (l:List Row):Bool:=l.all Lo
def J0 (n:Nod):Bool:=qOk n.2.2.2&&(inR n.1 0 20&&(C9 n.2.1&&(I4 n.2.2.1&&decide ((n.2.2.2.length:Int)≤60))))
def RF (l:List Row):Prop:=l.length≤2000000∧Ara l
def NIn (n:Nod):Prop:=(DIn n.2.1∧DB n.2.1)∧RF n.2.2.1∧RF n.2.2.2
def NG (n:Nod):Prop:=J0 n=true∧DB n.2.1
def Bx {n:Nod}:J0 n=true↔(∀ r∈n.2.2.2,Lo r=true)∧(0≤n.1∧n.1≤20)∧C9 n.2.1=true∧I4 n.2.2.1=true∧n.2.2.2.length≤60:=by
 unfold J0 qOk;simp only[Va,Yc,Dg,decide_eq_true_iff];constructor
 ·rintro⟨h1,h2,h3,h4,h5⟩;exact⟨h1,h2,h3,h4,by omega⟩
 ·rintro⟨h1,h2,h3,h4,h5⟩;exact⟨h1,h2,h3,h4,by omega⟩
def G3a {l:List Row} (h:I4 l=true):RF l:=by
 obtain⟨_,h2,h3⟩:=Im.1 h;exact⟨by omega,λ r hr=>Hb (Xu (h2 r hr))⟩
def St {n:Nod} (h:NG n):NIn n:=by
 obtain⟨h1,_,h3,h4,h5⟩:=Bx.1 h.1;exact⟨⟨P8 h3,h.2⟩,G3a h4,by omega,λ r hr=>Hb (Xu (h1 r hr))⟩
def NG.g {n:Nod} (h:NG n):DG n.2.1:=⟨(Bx.1 h.1).2.2.1,h.2⟩
def Qr (n:Nod) (hn:NIn n):Tot (λ k=>Bf k n) (λ r=>r=J0 n):=by
 obtain⟨i,⟨a,b⟩,ro,q⟩:=n;obtain⟨⟨hd,_⟩,hr,hq⟩:=hn;dsimp only at hd hr hq;unfold Bf;have hl:=hq.1;refine Cgb (Q:=λ r=>r=bif qOk q then .inr (i,a,b,ro,q) else .inl false) ?_ ?_
 ·refine Cob (L:=λ k i' (_:Unit)=>Ez k q (q.length:Int) i' i a b ro q) (Q:=λ r=>r=bif qOk q then .inr (i,a,b,ro,q) else .inl false) q.length (λ j _=>(q.drop j).all Lo=q.all Lo) ?_ ?_ 0 () (Vu _) (by rw[Yu])
  ·intro _ hj;rw[Ye]at hj;simp only[Ez];exact Ckb (by omega) (Cfb (by unfold qOk;rw[← hj];rfl))
  ·intro j _ hj hi next;simp only[Ez];rw[C8 (d:=Ju) hj,Dtb]at hi;refine Cjb (by omega) (Cjb (by omega) (Cjb (by omega) ?_));rw[Vj,w64 (n:=(j:Int)+1) (by omega) (by omega)];refine Cqb (Nza (q.getD j Ju) (hq.2 _ (A3 hj))) ?_
   cases hc:Lo (q.getD j Ju) with
   |false=>exact Cib rfl (Cfb (by unfold qOk;rw[← hi,hc];rfl))
   |true=>exact Chb rfl (next () (by rw[hc,Wf]at hi;exact hi))
 ·rintro r rfl;unfold J0;dsimp only;cases qOk q
  ·exact Cfb rfl
  simp only[cond_true,F3b,Wf];refine Cqb (Crb (Q:=λ r=>r=inR i 0 20) (Lc _ _ _) rfl) ?_;cases inR i 0 20
  ·exact Chb rfl (Cfb rfl)
  refine Cib rfl (Cqb (Ld (a,b) hd.1.1 hd.1.2) ?_);cases C9 (a,b)
  ·exact Chb rfl (Cfb rfl)
  refine Cib rfl (Cqb (I3a ro (by have:=hr.1;unfold Few;omega) hr.2) ?_)
  cases I4 ro with
  |false=>exact Chb rfl (Cfb rfl)
  |true=>exact Cib rfl (Cfb rfl)
def Ig (n:Nod) (hn:NIn n):Tot (λ k=>Ao k n) (λ r=>r=n):=by
 unfold Ao;have h1:=hn.2.1.1;have h2:=hn.2.2.1;refine Cqb (Fm n.2.1 hn.1.1.1.1) ?_;refine Cqb (Crb (Q:=λ r=>r=n.2.2.1) (Qm _ (by unfold Few;omega)) rfl) ?_;refine Cqb (Crb (Q:=λ r=>r=n.2.2.2) (Qm _ (by unfold Few;omega)) rfl) ?_;exact Cfb rfl
def Sqa (n:Nod) (l:List Row):Nod×Bool:=bif J0 n&&I4 l then (bif decide ((N8 n.2.2.1 l).length > 60) then (n,false) else ((n.1,n.2.1,N8 n.2.2.1 l,n.2.2.2),true)) else (n,false)
def G4a {a b:List Row} (ha:I4 a=true) (hb:I4 b=true) (h:(N8 a b).length≤60):I4 (N8 a b)=true:=by
 obtain⟨a1,a2,_⟩:=Im.1 ha;obtain⟨b1,b2,_⟩:=Im.1 hb;exact Im.2 ⟨Jl a1,λ r hr=>(Asa hr).elim (a2 r) (b2 r),h⟩
def Sra (n:Nod) (l:List Row) (hn:NIn n) (hl:RF l):Tot (λ k=>Fv k n l) (λ r=>r=Sqa n l):=by
 have h1:=hn.2.1.1;have h2:=hl.1;unfold Fv Sqa;refine Cqb (Ig n hn) ?_;refine Cqb (Qr n hn) ?_;cases J0 n
 ·exact Cib rfl (Cfb rfl)
 refine Chb rfl (Cqb (I3a l (by unfold Few;omega) hl.2) ?_);cases I4 l
 ·exact Cib rfl (Cfb rfl)
 refine Chb rfl (Cqb (K7a n.2.2.1 l (by omega)) ?_);refine Cmb (λ h=>?_) (λ h=>?_)
 ·rw[decide_eq_true (show (N8 n.2.2.1 l).length > 60 by omega)];refine Cqb (Ig n hn) ?_;exact Cfb rfl
 ·rw[decide_eq_false (show ¬ (N8 n.2.2.1 l).length > 60 by omega)];exact Cfb rfl
def Su (s:ByteArray) (f:Fil):Row:=(s,f.1,f.2.1,(f.2.2.length:Int))
def Py (n:Nod) (s:ByteArray) (f:Fil) (sure:Bool):Nod×Int:=bif (n.2.2.2.length:Int)==60 then (n,3) else
 ((n.1,(keep n.2.1 s f sure).1,n.2.2.1,bif (keep n.2.1 s f sure).2==0&&sure then n.2.2.2++[Su s f] else n.2.2.2),(keep n.2.1 s f sure).2)
def B5b (n:Nod) (s:ByteArray) (f:Fil) (sure:Bool):Nod×Int:=bif J0 n&&(B8 s&&Ds f) then Py n s f sure else (n,2)
def Ssa {s:ByteArray} {f:Fil} (hs:B8 s=true) (hf:Ds f=true):Lo (Su s f)=true:=by
 obtain⟨h1,h2,h3⟩:=Ha.1 hf;unfold Lo Su;dsimp only;rw[hs,h1,Dg.2 ⟨by omega,by omega⟩]
 cases hd:f.2.1 with
 |false=>rfl
 |true=>rw[h3 hd];rfl
def Oka {n:Nod} {s:ByteArray} {f:Fil} {sure:Bool} (hn:NG n) (hs:B8 s=true) (hf:Ds f=true):NG (Py n s f sure).1:=by
 obtain⟨h1,h2,h3,h4,h5⟩:=Bx.1 hn.1;have hk:=Uya (s:=s) (f:=f) (sure:=sure) hn.g;unfold Py;cases hl:((n.2.2.2.length:Int)==60)
 case true=>exact hn
 have hl':n.2.2.2.length≠60:=by
  intro e;rw[e]at hl;cases hl
 refine⟨Bx.2 ⟨?_,h2,hk.1,h4,?_⟩,hk.2⟩
 ·show ∀ r∈bif (keep n.2.1 s f sure).2==0&&sure then n.2.2.2++[Su s f] else n.2.2.2,Lo r=true
  cases (keep n.2.1 s f sure).2==0&&sure
  ·exact h1
  intro r hr;rcases Vm.1 hr with hr|hr
  ·exact h1 r hr
  ·rw[Vp.1 hr];exact Ssa hs hf
 ·show (bif (keep n.2.1 s f sure).2==0&&sure then n.2.2.2++[Su s f] else n.2.2.2).length≤60
  cases (keep n.2.1 s f sure).2==0&&sure with
  |false=>exact h5
  |true=>rw[cond_true,Vi];simp only[Vh,Vs];omega
def Aza (n:Nod) (s:ByteArray) (b:Int):Nod×Bool:=bif J0 n&&((lkD n.2.1 s).2==0&&(Qq n.2.1 s b).2) then ((n.1,(Qq n.2.1 s b).1,n.2.2),true) else (n,false)
def Uza {n:Nod} {s:ByteArray} {b:Int} (hn:NG n):NG (Aza n s b).1:=by
 obtain⟨h1,h2,h3,h4,h5⟩:=Bx.1 hn.1;have hr:=A7b (s:=s) (n:=b) hn.g;unfold Aza
 cases J0 n&&((lkD n.2.1 s).2==0&&(Qq n.2.1 s b).2) with
 |false=>exact hn
 |true=>exact⟨Bx.2 ⟨h1,h2,hr.1,h4,h5⟩,hr.2⟩
def A8:Nod:=((0:Int),(([]:List Nmd),([]:List Nmd)),([]:List Row),([]:List Row))

abbrev Dev:=Int×Int×Int
abbrev Rng:=Int×List (List Int)
def Kw:Dev:=((0:Int),((0:Int),(0:Int)))
def Hr (l:List Int) (n:Int):Bool:=l.any (· == n)
def Hy {l:List Int} {n:Int}:Hr l n=true↔n∈l:=by
 unfold Hr;rw[Enb];constructor
 ·rintro⟨x,hx,e⟩;rw[← eq_of_beq e];exact hx
 ·intro h;exact⟨n,h,beq_self_eq_true n⟩
def Ps (l:List Int) (n:Int) (hl:l.length≤4000000000000000):Tot (λ k=>Bn k l n) (λ r=>r=Hr l n):=by
 unfold Bn
 refine Cgb (Q:=λ r=>r=bif Hr l n then .inl true else .inr ()) ?_ (by rintro r rfl;cases Hr l n<;>exact Cfb rfl)
 refine Cob (L:=λ k i (_:Unit)=>Ev k n l (l.length:Int) i) (Q:=λ r=>r=bif Hr l n then .inl true else .inr ()) l.length (λ j _=>Hr (l.drop j) n=Hr l n) ?_ ?_ 0 () (Vu _) rfl
 ·intro _ h;rw[Ye]at h;simp (disch:=omega) only [Ev,dF,← h];exact Cfb rfl
 ·intro j _ hj h next;rw[C8 (d:=0) hj]at h;simp (disch:=omega) only [Ev,dT,Vj,w64];unfold Hr at h;rw[Eub]at h;refine Clb (λ hc=>Cfb ?_) (λ hc=>next () ?_)
  ·rw[hc,Bool.true_or]at h;unfold Hr;rw[← h];rfl
  ·rw[hc,Feb]at h;exact h
def Ih (l:List Dev) (id:Int):Option Dev:=l.find? (λ d=>d.1==id)
def Brb:Option Dev→Dev×Bool
 |some d=>(d,true)
 |none=>(Kw,false)
def Xz {l:List Dev} {id:Int} {d:Dev} (h:Ih l id=some d):d∈l∧d.1=id:=⟨F8b h,eq_of_beq (List.find?_some (p:=λ d:Dev=>d.1==id) h)⟩
def O4 (l:List Dev) (id:Int) (hl:l.length≤1000000000):Tot (λ k=>De k l id) (λ r=>r=Brb (Ih l id)):=by
 unfold De
 refine Cgb (Q:=λ r=>r=match Ih l id with|some d => .inl (true,d)|none => .inr (0,0,0)) ?_ (by rintro r rfl;cases Ih l id<;>exact Cfb rfl)
 refine Cob (L:=λ k i (_:Unit)=>Fo k id l (l.length:Int) i (0,0,0)) (Q:=λ r=>r=match Ih l id with|some d => .inl (true,d)|none => .inr (0,0,0)) l.length (λ j _=>Ih (l.drop j) id=Ih l id) ?_ ?_ 0 () (Vu _) rfl
 ·intro _ h;rw[Ye]at h;simp (disch:=omega) only [Fo,dF,← h];exact Cfb rfl
 ·intro j _ hj h next;rw[C8 (d:=Kw) hj]at h;unfold Ih at h;rw[Drb]at h;simp (disch:=omega) only [Fo,dT,Vj,w64];refine Clb (λ hc=>Cfb ?_) (λ hc=>next () ?_)
  ·rw[show ((l.getD j Kw).1==id)=true from hc]at h;unfold Ih;rw[← h];rfl
  ·rw[show ((l.getD j Kw).1==id)=false from hc]at h;exact h
def B0a (d:Dev):Bool:=inR d.1 0 20&&(inR d.2.1 0 20&&inR d.2.2 1 1000)
def Bha:Option Int→List Dev→Bool
 |_,[]=>true
 |none,d::l=>B0a d&&Bha (some d.1) l
 |some q,d::l=>B0a d&&(decide (q<d.1)&&Bha (some d.1) l)
def H7 (l:List Dev):Bool:=Bha none l&&inR (l.length:Int) 1 12
def Kha (l:List Dev):Nat→Option Int
 |0=>none
 |i+1=>some (l.getD i Kw).1
def B1a:∀ (p:Option Int) (l:List Dev),Bha p l=true↔l.Pairwise (λ a b=>a.1<b.1)∧(∀ d∈l,B0a d=true)∧(∀ q,p=some q→∀ d∈l,q<d.1)
 |p,[]=>by cases p<;>simp[Bha]
 |none,d::l=>by
  simp only[Bha,Va,B1a (some d.1) l,Wa,Vk,forall_eq_or_imp,Vc];constructor
  ·rintro⟨h1,h2,h3,h4⟩;exact⟨⟨h4 _ rfl,h2⟩,⟨h1,h3⟩,λ q h=>by cases h⟩
  ·rintro⟨⟨h1,h2⟩,⟨h3,h4⟩,_⟩;exact⟨h3,h2,h4,λ q e=>by subst e;exact h1⟩
 |some q,d::l=>by
  simp only[Bha,Va,decide_eq_true_iff,B1a (some d.1) l,Wa,Vk,forall_eq_or_imp,Vc];constructor
  ·rintro⟨h1,hq,h2,h3,h4⟩;exact⟨⟨h4 _ rfl,h2⟩,⟨h1,h3⟩,λ q' e=>by subst e;exact⟨hq,λ x hx=>by have:=h4 _ rfl x hx;omega⟩⟩
  ·rintro⟨⟨h1,h2⟩,⟨h3,h4⟩,h5⟩;exact⟨h3,(h5 q rfl).1,h2,h4,λ q e=>by subst e;exact h1⟩
def D7 {l:List Dev}:H7 l=true↔l.Pairwise (λ a b=>a.1<b.1)∧(∀ d∈l,B0a d=true)∧1≤l.length∧l.length≤12:=by
 unfold H7;rw[Va,B1a,Dg];constructor
 ·rintro⟨⟨h1,h2,_⟩,h3,h4⟩;exact⟨h1,h2,by omega,by omega⟩
 ·rintro⟨h1,h2,h3,h4⟩;exact⟨⟨h1,h2,λ q h=>by cases h⟩,by omega,by omega⟩
def J1 {d:Dev}:B0a d=true↔(0≤d.1∧d.1≤20)∧(0≤d.2.1∧d.2.1≤20)∧1≤d.2.2∧d.2.2≤1000:=by
 unfold B0a;rw[Va,Va,Dg,Dg,Dg]
def Ola {l:List Dev} {j:Nat} (hj:j<l.length):Bha (Kha l j) (l.drop j)=(B0a (l.getD j Kw)&&((bif decide (0<j) then decide ((l.getD (j-1) Kw).1<(l.getD j Kw).1) else true)&&Bha (Kha l (j+1)) (l.drop (j+1)))):=by
 rw[C8 (d:=Kw) hj]
 cases j with
 |zero=>simp[Kha,Bha]
 |succ j=>simp[Kha,Bha]
def Tc (l:List Dev) (hl:l.length≤1000000000):Tot (λ k=>Br k l) (λ r=>r=H7 l):=by
 unfold Br H7;refine Cgb (Q:=λ r=>r=bif Bha none l then .inr l else .inl false) ?_ ?_
 ·refine Cob (L:=λ k i (_:Unit)=>Ec k l l (l.length:Int) i) (Q:=λ r=>r=bif Bha none l then .inr l else .inl false) l.length (λ j _=>Bha (Kha l j) (l.drop j)=Bha none l) ?_ ?_ 0 () (Vu _) rfl
  ·intro _ h;rw[Ye]at h
   have:Bha none l=true:=by rw[← h];cases Kha l l.length<;>rfl
   simp (disch:=omega) only [Ec,dF,this];exact Cfb rfl
  ·intro j _ hj h next;rw[Ola hj]at h;simp (disch:=omega) only [Ec,dT,Vj,w64,Lc,Vt];have e0:l.getD j ((0:Int),((0:Int),(0:Int)))=l.getD j Kw:=rfl;rw[e0]
   have no:B0a (l.getD j Kw)=false→Bha none l=false:=λ c=>by rw[← h,c];rfl
   unfold B0a at no h;refine Clb (λ hc=>Cfb ?_) (λ h1=>Clb (λ hc=>Cfb ?_) (λ h2=>Clb (λ hc=>Cfb ?_) (λ h3=>?_)))
   ·rw[no (by rw[Wb]at hc;rw[hc];rfl)];rfl
   ·rw[no (by rw[Wb]at hc;rw[hc,Zc,Yp])];rfl
   ·rw[no (by rw[Wb]at hc;rw[hc,Yp,Yp])];rfl
   ·rw[Yg]at h1 h2 h3;rw[h1,h2,h3]at h;refine Cmb (λ h0=>?_) (λ h0=>next () ?_)
    ·simp (disch:=omega) only [dT,w64,show toNat ((j:Int)-1)=j-1 by omega];rw[decide_eq_true (show 0<j by omega)]at h;refine Cmb (λ hc=>Cfb ?_) (λ hc=>next () ?_)
     ·have hc':¬ ((l.getD (j-1) Kw).1<(l.getD j Kw).1):=by
       have:(l.getD (j-1) Kw).1≥(l.getD j Kw).1:=hc;omega
      rw[decide_eq_false hc']at h;rw[← h];rfl
     ·have hc':(l.getD (j-1) Kw).1<(l.getD j Kw).1:=by
       have:¬ ((l.getD (j-1) Kw).1≥(l.getD j Kw).1):=hc;omega
      rw[decide_eq_true hc']at h;exact h
    ·rw[decide_eq_false (show ¬ 0<j by omega)]at h;exact h
 ·rintro r rfl;cases Bha none l
  ·exact Cfb rfl
  simp only[cond_true,F3b,Lc,Vt];exact Cfb rfl
def G5a (l:List Dev) (out:List Int) (id:Int):List Int:=match Ih l id with
 |some d=>bif Hr out d.2.1 then out else out++[d.2.1]
 |none=>out
def Fj (ids:List Int) (l:List Dev):List Int:=ids.foldl (G5a l) []
def Dka (l:List Dev) (out:List Int) (id:Int):(G5a l out id).length≤out.length+1:=by
 unfold G5a
 cases Ih l id with
 |none=>exact Dab _
 |some d=>
  simp only
  cases Hr out d.2.1 with
  |true=>exact Dab _
  |false=>rw[cond_false,Vi];exact Vw _
def Dla (l:List Dev):∀ (ids out:List Int),(ids.foldl (G5a l) out).length≤out.length+ids.length
 |[],out=>by simp
 |id::ids,out=>by
  have h1:=Dla l ids (G5a l out id);have h2:=Dka l out id;rw[Za,Vh];omega
def Dma (ids:List Int) (l:List Dev) (hi:ids.length≤5000000) (hl:l.length≤5000000):Tot (λ k=>Cf k ids l) (λ r=>r=Fj ids l):=by
 unfold Cf;refine Cgb (Q:=λ r=>r=Fj ids l) ?_ (by rintro r rfl;exact Cfb rfl);refine Cob (L:=λ k i s=>Ct k l s ids (ids.length:Int) i) (Q:=λ r=>r=Fj ids l) ids.length (λ j s=>(ids.drop j).foldl (G5a l) s=Fj ids l∧s.length≤j) ?_ ?_ 0 [] (Vu _) ⟨rfl,Vw _⟩
 ·rintro s ⟨h,_⟩;rw[Ye]at h;simp (disch:=omega) only [Ct,dF];exact Cfb h
 ·rintro j s hj ⟨h,hs⟩ next;rw[C8 (d:=0) hj,Za]at h;simp (disch:=omega) only [Ct,dT,Vj,w64];have hz:=Dka l s (ids.getD j 0);refine Cqb (O4 l (ids.getD j 0) (by omega)) ?_;unfold G5a at h hz
  cases hd:Ih l (ids.getD j 0) with
  |none=>
   rw[hd]at h;exact Chb rfl (next _ ⟨h,by omega⟩)
  |some d=>
   rw[hd]at h hz;refine Cib rfl (Cqb (Ps s d.2.1 (by omega)) ?_);simp only at h hz
   cases hh:Hr s d.2.1 with
   |true=>
    rw[hh]at h;exact Chb rfl (next _ ⟨h,by omega⟩)
   |false=>
    rw[hh]at h hz;exact Cib rfl (Cnb (by simp only[Vh,Vs];omega) (next _ ⟨h,by rw[cond_false]at hz;exact Zu hz (by omega)⟩))

def V3 {l:List Int} {j:Nat} (hj:j<l.length) (h:(l.take j).Nodup) (hn:l.getD j 0∉l.take j):(l.take (j+1)).Nodup:=by
 rw[Wg hj,Xs];rw[Vb,Vg hj,Wm]at hn;exact⟨h,by simp,λ a ha b hb e=>by rw[Vp.1 hb]at e;subst e;exact hn ha⟩
def Oma {l:List Int} {j:Nat} (hj:j<l.length) (hn:l.getD j 0∈l.take j):¬ l.Nodup:=by
 intro h;have h1:(l.take (j+1)).Nodup:=h.sublist (Fab _ _);rw[Wg hj,Xs]at h1;rw[Vb,Vg hj,Wm]at hn;exact h1.2.2 _ hn _ (by simp) rfl
def Dna (l:List Int) (hl:l.length≤5000000):Tot (λ k=>Eh k l) (λ r=>r=decide l.Nodup):=by
 unfold Eh
 refine Cgb (Q:=λ r=>r=bif decide l.Nodup then .inr () else .inl false) ?_ (by rintro r rfl;cases decide l.Nodup<;>exact Cfb rfl)
 refine Cob (L:=λ k i (_:Unit)=>Fn k l l (l.length:Int) i) (Q:=λ r=>r=bif decide l.Nodup then .inr () else .inl false) l.length (λ j _=>(l.take j).Nodup) ?_ ?_ 0 () (Vu _) (by simp)
 ·intro _ h;rw[Zf]at h;simp (disch:=omega) only [Fn,dF,decide_eq_true h];exact Cfb rfl
 ·intro j _ hj h next;simp (disch:=omega) only [Fn,dT,Vj,w64];refine Cqb (Ps (l.take j) (l.getD j 0) (by rw[Vq];omega)) ?_;refine Clb (λ hc=>Cfb ?_) (λ hc=>next () (V3 hj h (λ c=>by rw[Hy.2 c]at hc;cases hc)));rw[decide_eq_false (Oma hj (Hy.1 hc))];rfl
def RBd (r:Rng):Prop:=r.2.length≤2000000∧∀ p∈r.2,p.length≤2000000
def M8 (l:List Dev) (n:Int) (p:List Int):Bool:=(decide p.Nodup&&((p.length:Int)==n))&&p.all λ id=>(Ih l id).isSome
def Gb (r:Rng) (l:List Dev):Bool:=H7 l&&(inR r.1 1 5&&(inR (r.2.length:Int) 1 64&&r.2.all (M8 l r.1)))
def Bl {r:Rng} {l:List Dev}:Gb r l=true↔H7 l=true∧(1≤r.1∧r.1≤5)∧(1≤r.2.length∧r.2.length≤64)∧∀ p∈r.2,p.Nodup∧(p.length:Int)=r.1∧∀ id∈p,∃ d,Ih l id=some d:=by
 unfold Gb M8;simp only[Va,Dg,Yc,decide_eq_true_iff,beq_iff_eq,Zl];constructor
 ·rintro⟨h1,h2,⟨h3,h4⟩,h5⟩;exact⟨h1,h2,⟨by omega,by omega⟩,λ p hp=>⟨(h5 p hp).1.1,(h5 p hp).1.2,(h5 p hp).2⟩⟩
 ·rintro⟨h1,h2,⟨h3,h4⟩,h5⟩;exact⟨h1,h2,⟨by omega,by omega⟩,λ p hp=>⟨⟨(h5 p hp).1,(h5 p hp).2.1⟩,(h5 p hp).2.2⟩⟩
def Jp {r:Rng} {l:List Dev} (h:Gb r l=true):RBd r:=by
 obtain⟨_,h2,h3,h4⟩:=Bl.1 h;exact⟨by omega,λ p hp=>by have:=(h4 p hp).2.1;omega⟩
def Sta (r:Rng) (l:List Dev) (hr:RBd r) (hl:l.length≤5000000):Tot (λ k=>Dw k r l) (λ b=>b=Gb r l):=by
 unfold Dw Gb;refine Cqb (Tc l (by omega)) ?_;cases hd:H7 l
 ·exact Cib rfl (Cfb rfl)
 have hrl:=hr.1;simp only[Zb,cond_false,Lc,Vt,Wf];cases inR r.1 1 5
 ·exact Cib rfl (Cfb rfl)
 refine Chb rfl ?_;cases inR (r.2.length:Int) 1 64
 ·exact Cib rfl (Cfb rfl)
 refine Chb rfl (Cgb (Q:=λ b=>b=bif r.2.all (M8 l r.1) then .inr () else .inl false) ?_ (by rintro r' rfl;cases r.2.all (M8 l r.1)<;>exact Cfb rfl))
 refine Cob (L:=λ k i (_:Unit)=>Ey k l r.2 (r.2.length:Int) i r) (Q:=λ b=>b=bif r.2.all (M8 l r.1) then .inr () else .inl false) r.2.length (λ j _=>(r.2.drop j).all (M8 l r.1)=r.2.all (M8 l r.1)) ?_ ?_ 0 () (Vu _) rfl
 ·intro _ h;rw[Ye]at h;simp (disch:=omega) only [Ey,dF,← h];exact Cfb rfl
 ·intro j _ hj h next;rw[C8 (d:=[]) hj,Dtb]at h;have hp:=hr.2 _ (A3 (d:=[]) hj);simp (disch:=omega) only [Ey,dT,Vj,w64]
  have no:M8 l r.1 (r.2.getD j [])=false→r.2.all (M8 l r.1)=false:=λ c=>by rw[← h,c];rfl
  unfold M8 at no h;refine Clb (λ hc=>Cfb ?_) (λ h1=>Cgb (Dna (r.2.getD j []) (by omega)) ?_)
  ·have hc':(((r.2.getD j []).length:Int)==r.1)=false:=by simpa using hc
   rw[show r.2.all (M8 l r.1)=false from no (by rw[hc',Yp,Zc])];rfl
  ·have h1':(((r.2.getD j []).length:Int)==r.1)=true:=by simpa using h1
   rintro b rfl;refine Clb (λ hc=>Cfb ?_) (λ h2=>?_)
   ·rw[show r.2.all (M8 l r.1)=false from no (by rw[Wb]at hc;rw[hc];rfl)];rfl
   ·rw[Yg]at h2;generalize r.2.getD j []=p at *;refine Cgb (Q:=λ b=>b=bif p.all (λ id=>(Ih l id).isSome) then .inr (l,r.2,(r.2.length:Int),(j:Int),r) else .inl false) ?_ ?_
    ·refine Cob (L:=λ k i (_:Unit)=>Ew k l r.2 (r.2.length:Int) (j:Int) p (p.length:Int) i r) (Q:=λ b=>b=bif p.all (λ id=>(Ih l id).isSome) then .inr (l,r.2,(r.2.length:Int),(j:Int),r) else .inl false) p.length (λ m _=>(p.drop m).all (λ id=>(Ih l id).isSome)=p.all (λ id=>(Ih l id).isSome)) ?_ ?_ 0 () (Vu _) rfl
     ·intro _ h;rw[Ye]at h;simp (disch:=omega) only [Ew,dF,← h];exact Cfb rfl
     ·intro m _ hm h next;rw[C8 (d:=0) hm,Dtb]at h;simp (disch:=omega) only [Ew,dT,Vj,w64];refine Cqb (O4 l (p.getD m 0) (by omega)) ?_
      cases hd:Ih l (p.getD m 0) with
      |none=>exact Cib rfl (Cfb (by rw[← h,hd];rfl))
      |some d=>exact Chb rfl (next () (by rw[hd]at h;exact h))
    ·rintro b rfl;cases hc:p.all (λ id=>(Ih l id).isSome)
     ·exact Cfb (by rw[show r.2.all (M8 l r.1)=false from no (by rw[hc,Yp])];rfl)
     simp (disch:=omega) only [cond_true,F3b,w64];exact next () (by rw[h2,h1',hc]at h;exact h)
def Sg (l:List Int) (hl:l.length≤5000000):Bs l=some l:=by
 unfold Bs;rw[bT (by simp only[Vs];omega),Wn]
def Sh (r:Rng) (hr:RBd r):Tot (λ k=>Ci k r) (λ x=>x=r):=by
 have hrl:=hr.1;unfold Ci;refine Cgb (Q:=λ x=>x=((0,[]),r)) ?_ (by rintro x rfl;exact Cfb rfl);refine Cob (L:=λ k i s=>Cq k r.2 (r.2.length:Int) i (0,[]) (r.1,s)) (Q:=λ x=>x=((0,[]),r)) r.2.length (λ j s=>s=r.2.take j) ?_ ?_ 0 [] (Vu _) rfl
 ·rintro s rfl;simp (disch:=omega) only [Cq,dF,Zf];exact Cfb rfl
 ·rintro j s hj rfl next;have hp:=hr.2 _ (A3 (d:=[]) hj);simp (disch:=omega) only [Cq,dT,Vj,w64,Sg,Vt];refine Cnb (by simp only[Vq,Vh,Vs];omega) (next _ ?_);rw[Wg hj,Vb,Vg hj,Wm]
def cnt (id n x:Int):Int:=bif x==id then n+1 else n
def G6a (id n:Int) (p:List Int):Int:=p.foldl (cnt id) n
def He (r:Rng) (id:Int):Int:=r.2.foldl (G6a id) 0
def G7a (id:Int):∀ (p:List Int) (n:Int),n≤G6a id n p∧G6a id n p≤n+p.length
 |[],n=>by simp[G6a]
 |x::p,n=>by
  have h:=G7a id p (cnt id n x);unfold G6a at h ⊢
  have hc:n≤cnt id n x∧cnt id n x≤n+1:=by unfold cnt;cases x==id<;>simp<;>omega
  rw[Za,Vh];omega
def Ona (id:Int) (m:Nat):∀ (ps:List (List Int)) (n:Int),(∀ p∈ps,p.length≤m)→n≤ps.foldl (G6a id) n∧ps.foldl (G6a id) n≤n+(m*ps.length:Nat)
 |[],n,_=>by simp
 |p::ps,n,h=>by
  have h1:=Ona id m ps (G6a id n p) (λ q hq=>h q (Vd _ hq));have h2:=G7a id p n;have h3:=h p Wj;rw[Za,Vh,Nat.mul_succ];omega
def Qs {r:Rng} (hr:RBd r) (id:Int):0≤He r id∧He r id≤4000000000000:=by
 have h:=Ona id 2000000 r.2 0 hr.2;have h2:=hr.1;unfold He;omega
def B2a (r:Rng) (id:Int) (hr:RBd r):Tot (λ k=>E9 k r id) (λ x=>x=He r id):=by
 have hrl:=hr.1;unfold E9;refine Cgb (Q:=λ x=>x=He r id) ?_ (by rintro x rfl;exact Cfb rfl);refine Cob (L:=λ k i s=>F5 k id s r.2 (r.2.length:Int) i) (Q:=λ x=>x=He r id) r.2.length (λ j s=>(r.2.drop j).foldl (G6a id) s=He r id∧0≤s∧s≤2000000*j) ?_ ?_ 0 0 (Vu _) ⟨rfl,by omega,by omega⟩
 ·rintro s ⟨h,_⟩;rw[Ye]at h;simp (disch:=omega) only [F5,dF];exact Cfb h
 ·rintro j s hj ⟨h,h0,h1⟩ next;rw[C8 (d:=[]) hj,Za]at h;have hp:=hr.2 _ (A3 (d:=[]) hj);have hc:=G7a id (r.2.getD j []) s;simp (disch:=omega) only [F5,dT,Vj];refine Cgb (Q:=λ x=>x=(id,G6a id s (r.2.getD j []),r.2,(r.2.length:Int),(j:Int))) ?_ ?_
  ·generalize r.2.getD j []=p at *;refine Cob (L:=λ k i s=>Ef k id s r.2 (r.2.length:Int) (j:Int) p (p.length:Int) i) (Q:=λ x=>x=(id,G6a id s p,r.2,(r.2.length:Int),(j:Int))) p.length (λ m z=>G6a id z (p.drop m)=G6a id s p∧0≤z∧z≤2000000*j+m) ?_ ?_ 0 s (Vu _) ⟨rfl,h0,by omega⟩
   ·rintro z ⟨h,_⟩;rw[Ye]at h;simp (disch:=omega) only [Ef,dF];exact Cfb (by rw[← h];rfl)
   ·rintro m z hm ⟨h,z0,z1⟩ next;rw[C8 (d:=0) hm]at h;simp (disch:=omega) only [Ef,dT,Vj,w64];have h':G6a id (cnt id z (p.getD m 0)) (p.drop (m+1))=G6a id s p:=h;unfold cnt at h';refine Clb (λ hc=>next _ ?_) (λ hc=>next _ ?_)
    ·rw[hc]at h';exact⟨h',by omega,by omega⟩
    ·rw[hc]at h';exact⟨h',by omega,by omega⟩
  ·rintro x rfl;simp (disch:=omega) only [w64];exact next _ ⟨h,by omega,by omega⟩

def C3b {a w:Int} (h0:0≤a) (h1:a≤4000000000001) (w0:0≤w) (w1:w≤1000) : -9223372036854775808≤a*w∧a*w≤9223372036854775807:=by
 have e1:=Int.mul_nonneg h0 w0;have e2:a*w≤4000000000001*1000:=Int.mul_le_mul h1 w1 w0 (by decide);omega
def V4 (r:Rng) (p zs:List Int) (a:Option (Dev×Bool)) (d:Dev):Option (Dev×Bool):=
 bif Hr p d.1 then a else match a with
 |none=>some (d,!(Hr zs d.2.1))
 |some (b,fr)=>bif (!(Hr zs d.2.1)&&!fr)||(((!(Hr zs d.2.1))==fr)&&decide ((He r d.1+1)*b.2.2<(He r b.1+1)*d.2.2)) then some (d,!(Hr zs d.2.1)) else some (b,fr)
def Pt (r:Rng) (p:List Int) (l:List Dev):Option (Dev×Bool):=l.foldl (V4 r p (Fj p l)) none
def Td (r:Rng) (p:List Int) (l:List Dev):Int:=match Pt r p l with
 |some b=>b.1.1
 |none => -1
def Ida {r:Rng} {p zs:List Int} {l:List Dev} {a:Option (Dev×Bool)} {d:Dev} (ha:∀ b,a=some b→b.1∈l∧b.1.1∉p) (hd:d∈l):∀ b,V4 r p zs a d=some b→b.1∈l∧b.1.1∉p:=by
 intro b hb;unfold V4 at hb;cases hp:Hr p d.1
 case true=>rw[hp]at hb;exact ha b hb
 have hn:d.1∉p:=λ c=>by rw[Hy.2 c]at hp;cases hp
 rw[hp,cond_false]at hb
 cases a with
 |none=>cases hb;exact⟨hd,hn⟩
 |some c=>
  obtain⟨c,fr⟩:=c;simp only at hb
  cases hq:(!(Hr zs d.2.1)&&!fr)||(((!(Hr zs d.2.1))==fr)&&decide ((He r d.1+1)*c.2.2<(He r c.1+1)*d.2.2)) with
  |true=>rw[hq]at hb;cases hb;exact⟨hd,hn⟩
  |false=>rw[hq]at hb;cases hb;exact ha _ rfl
def Iea {r:Rng} {p zs:List Int} {l:List Dev}:∀ (m:List Dev) (a:Option (Dev×Bool)),(∀ b,a=some b→b.1∈l∧b.1.1∉p)→(∀ d∈m,d∈l)→∀ b,m.foldl (V4 r p zs) a=some b→b.1∈l∧b.1.1∉p
 |[],_,ha,_=>ha
 |d::m,_,ha,hm=>Iea m _ (Ida ha (hm d Wj)) (λ x hx=>hm x (Vd _ hx))
def Ifa {r:Rng} {p:List Int} {l:List Dev} {b:Dev×Bool} (h:Pt r p l=some b):b.1∈l∧b.1.1∉p:=Iea l none (λ b h=>by cases h) (λ _ h=>h) b h
def Kia {r:Rng} {p zs:List Int} {a:Option (Dev×Bool)} {d:Dev} (h:a.isSome=true∨d.1∉p):(V4 r p zs a d).isSome=true:=by
 unfold V4
 cases hp:Hr p d.1 with
 |true=>
  rcases h with h|h
  ·exact h
  ·exact absurd (Hy.1 hp) h
 |false=>
  cases a with
  |none=>rfl
  |some c=>
   obtain⟨c,fr⟩:=c;simp only[cond_false]
   cases (!(Hr zs d.2.1)&&!fr)||(((!(Hr zs d.2.1))==fr)&&decide ((He r d.1+1)*c.2.2<(He r c.1+1)*d.2.2))<;>rfl
def Y0 {r:Rng} {p zs:List Int}:∀ (m:List Dev) (a:Option (Dev×Bool)),(a.isSome=true∨∃ d∈m,d.1∉p)→(m.foldl (V4 r p zs) a).isSome=true
 |[],a,h=>by
  rcases h with h|⟨d,h,_⟩
  ·exact h
  ·cases h
 |d::m,a,h=>by
  refine Y0 m _ ?_
  by_cases hd:a.isSome=true∨d.1∉p
  ·exact .inl (Kia hd)
  ·rcases h with h|⟨x,hx,hn⟩
   ·exact absurd (.inl h) hd
   ·rcases Vk.1 hx with rfl|hx
    ·exact absurd (.inr hn) hd
    ·exact .inr ⟨x,hx,hn⟩
def Sua {r:Rng} {p:List Int} {l:List Dev} (h:∃ d∈l,d.1∉p):∃ d∈l,Td r p l=d.1∧d.1∉p:=by
 obtain⟨b,hb⟩:=Zl.1 (Y0 (r:=r) (zs:=Fj p l) l none (.inr h));obtain⟨h1,h2⟩:=Ifa hb;exact⟨b.1,h1,by unfold Td;rw[show Pt r p l=some b from hb],h2⟩
def Kja (r:Rng) (p:List Int) (l:List Dev):(Pt r p l=none∧Td r p l = -1)∨∃ b,Pt r p l=some b∧Td r p l=b.1.1∧b.1∈l∧b.1.1∉p:=by
 cases h:Pt r p l with
 |none=>exact .inl ⟨rfl,by unfold Td;rw[h]⟩
 |some b=>exact .inr ⟨b,rfl,by unfold Td;rw[h],Ifa h⟩
def V5 (p:List Int) (l:List Dev):(Fj p l).length≤p.length:=by
 have:=Dla l p [];rwa [Vs,Wh]at this
def bs (r:Rng):Option (Dev×Bool)→Int×Bool×Dev
 |some (b,fr)=>(He r b.1+1,fr,b)
 |none=>(0,false,-1,0,0)
def Iga (r:Rng) (p:List Int) (l:List Dev) (hr:RBd r) (hp:p.length≤2000000) (hl:H7 l=true):Tot (λ k=>Em k r p l) (λ x=>x=Td r p l):=by
 obtain⟨_,hdv,_,h12⟩:=D7.1 hl;have hz:=V5 p l;unfold Em;refine Cqb (Tc l (by omega)) ?_;refine Chb (by rw[hl];rfl) (Cqb (Dma p l (by omega) (by omega)) ?_)
 refine Cgb (Q:=λ x=>x=match Pt r p l with|some b=>b.1|none=>(-1,0,0)) ?_ (by rintro x rfl;unfold Td;cases Pt r p l<;>exact Cfb rfl)
 refine Cob (L:=λ k i (s:Int×Bool×Dev)=>Bo k (Fj p l) s.1 s.2.1 l (l.length:Int) i r p s.2.2) (Q:=λ x=>x=match Pt r p l with|some b=>b.1|none=>(-1,0,0)) l.length
  (λ j s=>∃ a,s=bs r a∧(∀ b,a=some b→b.1∈l∧b.1.1∉p)∧(l.drop j).foldl (V4 r p (Fj p l)) a=Pt r p l) ?_ ?_ 0 (0,false,-1,0,0) (Vu _) ⟨none,rfl,λ b h=>(by cases h),rfl⟩
 ·rintro s ⟨a,rfl,_,h⟩;rw[Ye]at h;simp (disch:=omega) only [Bo,dF];refine Cfb ?_;rw[← h]
  cases a<;>rfl
 ·rintro j s hj ⟨a,rfl,ha,h⟩ next;rw[C8 (d:=Kw) hj,Za]at h;have hd:=A3 (d:=Kw) hj;obtain⟨d,ed⟩:∃ d:Dev,l.getD j Kw=d:=⟨_,rfl⟩;rw[ed]at h hd;have e0:l.getD j ((0:Int),((0:Int),(0:Int)))=d:=ed;have ha':=Ida (r:=r) (p:=p) (zs:=Fj p l) ha hd;obtain⟨_,_,w0,w1⟩:=J1.1 (hdv _ hd);have l1:=Qs hr d.1;simp (disch:=omega) only [Bo,dT,Vj,w64,e0];unfold V4 at h ha';refine Cqb (Ps p d.1 (by omega)) ?_
  cases hp':Hr p d.1 with
  |true=>
   rw[hp']at h;exact Cib rfl (next _ ⟨a,rfl,ha,h⟩)
  |false=>
   rw[hp',cond_false]at h ha';refine Chb rfl (Cqb (B2a r d.1 hr) ?_);refine Cqb (Ps (Fj p l) d.2.1 (by omega)) ?_;simp (disch:=omega) only [w64];have take:(∀ b,some (d,!(Hr (Fj p l) d.2.1))=some b→b.1∈l∧b.1.1∉p)→(l.drop (j+1)).foldl (V4 r p (Fj p l)) (some (d,!(Hr (Fj p l) d.2.1)))=Pt r p l→Tot (λ k=>Bo k (Fj p l) (He r d.1+1) (!(Hr (Fj p l) d.2.1)) l (l.length:Int) ((j:Int)+1) r p d) (λ x=>x=match Pt r p l with|some b=>b.1|none=>(-1,0,0)):=λ h1 h2=>next (He r d.1+1,!(Hr (Fj p l) d.2.1),d) ⟨_,rfl,h1,h2⟩
   cases a with
   |none=>exact Cjb (show (-1:Int)<0 by decide) (take ha' h)
   |some bf=>
    obtain⟨b,fr⟩:=bf;have hb:b∈l:=(ha _ rfl).1;obtain⟨⟨i0,_⟩,_,v0,v1⟩:=J1.1 (hdv _ hb);have l2:=Qs hr b.1;have m1:=C3b (a:=He r d.1+1) (w:=b.2.2) (by omega) (by omega) (by omega) v1;have m2:=C3b (a:=He r b.1+1) (w:=d.2.2) (by omega) (by omega) (by omega) w1;have stay:(l.drop (j+1)).foldl (V4 r p (Fj p l)) (some (b,fr))=Pt r p l→Tot (λ k=>Bo k (Fj p l) (He r b.1+1) fr l (l.length:Int) ((j:Int)+1) r p b) (λ x=>x=match Pt r p l with|some b=>b.1|none=>(-1,0,0)):=λ h2=>next (He r b.1+1,fr,b) ⟨some (b,fr),rfl,ha,h2⟩;refine Ckb (by show ¬ b.1<0;omega) ?_;dsimp only at h ha';have eb:bs r (some (b,fr))=(He r b.1+1,fr,b):=rfl;simp only[eb,w64 m1.1 m1.2,w64 m2.1 m2.2]
    have cmp:∀ {z:Bool},Hr (Fj p l) d.2.1=z→((!z)==fr)=true→(!z&&!fr)=false→Tot (λ k=>cond (decide ((He r d.1+1)*b.2.2<(He r b.1+1)*d.2.2)) (Bo k (Fj p l) (He r d.1+1) (!(Hr (Fj p l) d.2.1)) l (l.length:Int) ((j:Int)+1) r p d) (Bo k (Fj p l) (He r b.1+1) fr l (l.length:Int) ((j:Int)+1) r p b)) (λ x=>x=match Pt r p l with|some b=>b.1|none=>(-1,0,0)):=by
     intro z hz e1 e2;rw[hz]at h ha' take ⊢;rw[e1,e2,Feb,Wf]at h ha';refine Clb (λ hc=>?_) (λ hc=>?_)
     ·rw[hc]at h ha';exact take ha' h
     ·rw[hc]at h;exact stay h
    cases hz:Hr (Fj p l) d.2.1 with
    |false=>
     have cm:=cmp hz;rw[hz]at h ha' take cm
     cases fr with
     |false=>exact Cib rfl (Cib rfl (take ha' h))
     |true=>exact Cib rfl (Chb rfl (Cib rfl (cm rfl rfl)))
    |true=>
     have cm:=cmp hz;rw[hz]at h ha' take cm
     cases fr with
     |false=>exact Chb rfl (Cib rfl (cm rfl rfl))
     |true=>exact Chb rfl (Chb rfl (stay h))

def Ooa {l:List Dev} (h:H7 l=true) {d:Dev} (hd:d∈l):Ih l d.1=some d:=by
 have hp:=(D7.1 h).1;clear h
 induction l with
 |nil=>cases hd
 |cons x l ih=>
  obtain⟨h1,h2⟩:=Wa.1 hp;unfold Ih;rw[Drb];rcases Vk.1 hd with rfl|hd
  ·rw[beq_self_eq_true]
  ·have:=h1 d hd;rw[show (x.1==d.1)=false from beq_eq_false_iff_ne.2 (by omega)];exact ih hd h2
def V0a:∀ (p:List Int) (l:List Dev),l.Pairwise (λ a b=>a.1<b.1)→p.length<l.length→∃ d∈l,d.1∉p
 |p,[],_,h=>by simp at h
 |p,d::l,hl,h=>by
  obtain⟨h1,h2⟩:=Wa.1 hl
  by_cases hd:d.1∈p
  ·have hlen:(p.erase d.1).length=p.length-1:=E9b hd;have hpos:=Cwb hd;rw[Vh]at h;obtain⟨x,hx,hn⟩:=V0a (p.erase d.1) l h2 (by omega);refine⟨x,Vd _ hx,λ c=>hn ?_⟩;have:=h1 x hx;exact(Etb (by omega)).2 c
  ·exact⟨d,Wj,hd⟩
def Kka (l:List Dev) (n:Nat) (p:List Int):Prop:=p.Nodup∧p.length=n∧∀ id∈p,∃ d,Ih l id=some d
def Opa {r:Rng} {l:List Dev} {n:Nat} {p:List Int} (hl:H7 l=true) (h:Kka l n p) (hn:n<l.length):Kka l (n+1) (p++[Td r p l]):=by
 obtain⟨h1,h2,h3⟩:=h;obtain⟨d,hd,e,hne⟩:=Sua (r:=r) (V0a p l (D7.1 hl).1 (by omega));rw[e];refine⟨?_,by rw[Vi];simp[h2],λ id hid=>?_⟩
 ·rw[Xs];exact⟨h1,by simp,λ a ha b hb c=>by rw[Vp.1 hb]at c;subst c;exact hne ha⟩
 ·rcases Vm.1 hid with hid|hid
  ·exact h3 id hid
  ·rw[Vp.1 hid];exact⟨d,Ooa hl hd⟩
def Doa (l:List Dev) (reps:Int) (ps:List (List Int)):Nat→List Int→List Int
 |0,p=>p
 |n+1,p=>Doa l reps ps n (p++[Td (reps,ps++[p]) p l])
def L6a (l:List Dev) (reps:Int):Nat→List (List Int)→List (List Int)
 |0,ps=>ps
 |n+1,ps=>L6a l reps n (ps++[Doa l reps ps reps.toNat []])
def build (l:List Dev) (parts reps:Int):Rng×Bool:=bif H7 l&&(inR parts 1 64&&(inR reps 1 5&&!(decide (reps > (l.length:Int))))) then ((reps,L6a l reps parts.toNat []),true) else ((0,[]),false)
def Iha {l:List Dev} {reps:Int} {ps:List (List Int)} (hl:H7 l=true):∀ (n m:Nat) (p:List Int),Kka l m p→m+n≤l.length→Kka l (m+n) (Doa l reps ps n p)
 |0,_,_,h,_=>h
 |n+1,m,p,h,hm=>by
  have:=Iha (reps:=reps) (ps:=ps) hl n (m+1) _ (Opa (r:=(reps,ps++[p])) hl h (by omega)) (by omega);rwa [show m+1+n=m+(n+1) by omega]at this
def Oqa {l:List Dev} {reps:Int} (hl:H7 l=true) (hr:reps≤(l.length:Int)):∀ (n:Nat) (ps:List (List Int)),(∀ p∈ps,Kka l reps.toNat p)→(L6a l reps n ps).length=ps.length+n∧∀ p∈L6a l reps n ps,Kka l reps.toNat p
 |0,ps,h=>⟨rfl,h⟩
 |n+1,ps,h=>by
  have hf:=Iha (reps:=reps) (ps:=ps) hl reps.toNat 0 [] ⟨Frb,rfl,λ _ h=>by cases h⟩ (by omega);rw[Wh]at hf
  obtain⟨h1,h2⟩:=Oqa hl hr n (ps++[Doa l reps ps reps.toNat []]) (λ p hp=>by
   rcases Vm.1 hp with hp|hp
   ·exact h p hp
   ·rw[Vp.1 hp];exact hf)
  refine⟨?_,h2⟩;show (L6a l reps n _).length=_;rw[h1,Vi];simp only[Vh,Vs];omega
def Te {l:List Dev} {parts reps:Int} (h:(build l parts reps).2=true):H7 l=true∧Gb (build l parts reps).1 l=true∧(build l parts reps).1.1=reps∧((build l parts reps).1.2.length:Int)=parts:=by
 unfold build at h ⊢;cases hc:H7 l&&(inR parts 1 64&&(inR reps 1 5&&!(decide (reps > (l.length:Int)))))
 ·rw[hc]at h;cases h
 rw[Va,Va,Va,Wb,decide_eq_false_iff_not,Dg,Dg]at hc;obtain⟨h1,h2,h3,h4⟩:=hc;obtain⟨b1,b2⟩:=Oqa (reps:=reps) h1 (by omega) parts.toNat [] (λ p hp=>by cases hp);rw[Vs,Wh]at b1
 have b1':((L6a l reps parts.toNat []).length:Int)=parts:=by rw[b1];omega
 refine⟨h1,Bl.2 ⟨h1,h3,⟨by show 1≤(L6a l reps parts.toNat []).length;omega,by show (L6a l reps parts.toNat []).length≤64;omega⟩,λ p hp=>?_⟩,rfl,b1'⟩;obtain⟨c1,c2,c3⟩:=b2 p hp;exact⟨c1,by rw[c2];show ((reps.toNat:Nat):Int)=reps;omega,c3⟩
def Dpa {l:List Dev} {reps:Int} {ps:List (List Int)}:∀ (n:Nat) (p:List Int),(Doa l reps ps n p).length=p.length+n
 |0,_=>rfl
 |n+1,p=>by
  show (Doa l reps ps n _).length=_;rw[Dpa n,Vi];simp only[Vh,Vs];omega
def Ora {α:Type} (l:List α) (x d:α):(l++[x]).getD l.length d=x:=by
 rw[Vb,Yd (Vw _),E6b];rfl
def Sva {α:Type} (l:List α) (x y:α):(l++[x]).set l.length y=l++[y]:=by
 rw[Fmb _ _ (Vw _),E6b];rfl

def Iia:∀ (p q:List Int),p.Nodup→(∀ x∈p,x∈q)→p.length≤q.length
 |[],_,_,_=>Vu _
 |x::p,q,h,hs=>by
  obtain⟨h1,h2⟩:=Yl.1 h;have hx:=hs x Wj;have hlen:(q.erase x).length=q.length-1:=E9b hx;have hpos:=Cwb hx;have:=Iia p (q.erase x) h2 (λ y hy=>(Etb (λ c=>by subst c;exact h1 hy)).2 (hs y (Vd _ hy)));rw[Vh];omega
def Osa {r:Rng} {l:List Dev} (h:Gb r l=true):r.1≤(l.length:Int):=by
 obtain⟨_,_,h3,h4⟩:=Bl.1 h;obtain⟨p,hp⟩:=Dlb (show 0<r.2.length by omega);obtain⟨q1,q2,q3⟩:=h4 p hp
 have:=Iia p (l.map (·.1)) q1 (λ x hx=>by
  obtain⟨d,hd⟩:=q3 x hx;obtain⟨hm,he⟩:=Xz hd
  exact Yt.2 ⟨d,hm,he⟩)
 rw[Vz]at this;omega
def G8a {r:Rng} {l:List Dev} (h:Gb r l=true):Tot (λ k=>Dv k r l) (λ b=>b=true):=by
 have hrp:=Osa h;obtain⟨h1,h2,h3,h4⟩:=Bl.1 h;obtain⟨_,_,_,h12⟩:=D7.1 h1;unfold Dv;refine Cqb (Tc l (by omega)) ?_;refine Chb (by rw[h1];rfl) ?_;simp only[Lc,Vt];refine Chb (by rw[Dg.2 h2];rfl) (Ckb (by omega) (Chb (by rw[Dg.2 (by omega)];rfl) ?_));refine Cgb (Q:=λ b=>b = .inr ()) ?_ (by rintro b rfl;exact Cfb rfl);refine Cob (L:=λ k i (_:Unit)=>Ea k r.2 (r.2.length:Int) i r) (Q:=λ b=>b = .inr ()) r.2.length (λ _ _=>True) ?_ ?_ 0 () (Vu _) trivial
 ·intro _ _;simp (disch:=omega) only [Ea,dF];exact Cfb rfl
 ·intro j _ hj _ next;obtain⟨q1,q2,_⟩:=h4 _ (A3 (d:=[]) hj);simp (disch:=omega) only [Ea,dT,Vj,w64];refine Chb (by rw[q2];simp) (Cqb (Dna _ (by omega)) ?_);exact Chb (by rw[decide_eq_true q1];rfl) (next () trivial)
def Swa (p:List Int) (l:List Dev) (h:∀ id∈p,∃ d,Ih l id=some d) (hp:p.length≤5000000) (hl:l.length≤5000000):Tot (λ k=>Gy k p l) (λ x=>x = -1):=by
 unfold Gy;refine Cgb (Q:=λ x=>x = .inr ()) ?_ (by rintro x rfl;exact Cfb rfl);refine Cob (L:=λ k i (_:Unit)=>Gp k l p (p.length:Int) i) (Q:=λ x=>x = .inr ()) p.length (λ _ _=>True) ?_ ?_ 0 () (Vu _) trivial
 ·intro _ _;simp (disch:=omega) only [Gp,dF];exact Cfb rfl
 ·intro j _ hj _ next;simp (disch:=omega) only [Gp,dT,Vj,w64];refine Cqb (O4 l _ (by omega)) ?_;obtain⟨d,hd⟩:=h _ (A3 (d:=0) hj);exact Chb (by rw[hd];rfl) (next () trivial)
def hv (r:Rng) (l:List Dev) (b id:Int):Bool:=match Ih l b with
 |none=>false
 |some x=>match Ih l id with
  |none=>false
  |some d=>(d.2.1==x.2.1)&&decide (He r id-He r b≥2)
def Qha (r:Rng) (l:List Dev) (p:List Int) (b:Int):Option Nat:=p.findIdx? (hv r l b)
def Dqa {f:Int→Bool} {p:List Int} {j:Nat} (hj:j<p.length) (h:((p.drop j).findIdx? f).map (· + j)=p.findIdx? f):
  (f (p.getD j 0)=true→p.findIdx? f=some j)∧(f (p.getD j 0)=false→((p.drop (j+1)).findIdx? f).map (· + (j+1))=p.findIdx? f):=by
 rw[C8 (d:=0) hj,F4b]at h;constructor
 ·intro c;rw[if_pos c]at h;rw[← h,Dpb,Wh]
 ·intro c;rw[if_neg (by rw[c];simp)]at h;rw[← h,Option.map_map];congr 1;funext x;show x+(j+1)=x+1+j;omega
def Ota (r:Rng) (p:List Int) (l:List Dev) (hr:RBd r) (hp:p.length≤2000000) (hl:H7 l=true) (hq:∀ id∈p,∃ d,Ih l id=some d):Tot (λ k=>G3 k r p l) (λ x=>x=match Qha r l p (Td r p l) with|some i=>((i:Int),Td r p l)|none=>(-1,-1)):=by
 obtain⟨_,_,_,h12⟩:=D7.1 hl;unfold G3;refine Cqb (Iga r p l hr hp hl) ?_;generalize Td r p l=b;refine Cqb (O4 l b (by omega)) ?_
 refine Cgb (Q:=λ x=>x=match Qha r l p b with|some i => .inl ((i:Int),b)|none => .inr ()) ?_ (by rintro x rfl;cases Qha r l p b<;>exact Cfb rfl)
 refine Cob (L:=λ k i (_:Unit)=>Ei k l b (Brb (Ih l b)).2 p (p.length:Int) i r (Brb (Ih l b)).1) (Q:=λ x=>x=match Qha r l p b with|some i => .inl ((i:Int),b)|none => .inr ()) p.length (λ j _=>((p.drop j).findIdx? (hv r l b)).map (· + j)=p.findIdx? (hv r l b)) ?_ ?_ 0 () (Vu _) (by simp)
 ·intro _ h;rw[Ye]at h;have hn:Qha r l p b=none:=h.symm;rw[hn];simp (disch:=omega) only [Ei,dF];exact Cfb rfl
 ·intro j _ hj h next;obtain⟨k1,k2⟩:=Dqa hj h;have hid:=hq _ (A3 (d:=0) hj);simp (disch:=omega) only [Ei,dT,Vj,w64];generalize p.getD j 0=id at *;refine Cqb (O4 l id (by omega)) ?_;obtain⟨d,hd⟩:=hid
  cases hb:Ih l b with
  |none=>
   have hnv:hv r l b id=false:=by unfold hv;rw[hb]
   have:=next () (k2 hnv);rw[hb]at this;exact Chb rfl this
  |some x=>
   have hvI:hv r l b id=((d.2.1==x.2.1)&&decide (He r id-He r b≥2)):=by unfold hv;rw[hb,hd]
   rw[hvI]at k1 k2;have next':=next ();rw[hb]at next';refine Cib rfl ?_;rw[hd];cases hz:d.2.1==x.2.1
   ·exact Chb hz (next' (k2 (by simp only[hz,Zc])))
   refine Cib hz (Cqb (B2a r id hr) ?_);refine Cqb (B2a r b hr) ?_;have l1:=Qs hr id;have l2:=Qs hr b;simp (disch:=omega) only [w64];refine Cmb (λ hc=>Cfb ?_) (λ hc=>next' (k2 ?_))
   ·have hn:Qha r l p b=some j:=k1 (by simp only[hz,Wf];exact decide_eq_true hc);rw[hn]
   ·simp only[hz,Wf];exact decide_eq_false hc
def rb1 (l:List Dev) (s:Int×Rng) (j:Nat):Int×Rng:=match Qha s.2 l (s.2.2.getD j []) (Td s.2 (s.2.2.getD j []) l) with
 |none=>s
 |some i=>(s.1+1,(s.2.1,s.2.2.set j ((s.2.2.getD j []).set i (Td s.2 (s.2.2.getD j []) l))))
def rbs (l:List Dev) (r:Rng) (n:Nat):Int×Rng:=(List.range n).foldl (rb1 l) (0,r)
def Dra (r:Rng) (l:List Dev):Rng×Int:=((rbs l r r.2.length).2,(rbs l r r.2.length).1)
def Ija (l:List Dev) (r:Rng) (n:Nat):rbs l r (n+1)=rb1 l (rbs l r n) n:=by
 unfold rbs;rw[Fnb,Dib];rfl
def Si {r:Rng} {l:List Dev} {p:List Int} {i:Nat} (hl:H7 l=true) (h:Qha r l p (Td r p l)=some i):i<p.length∧Td r p l∉p∧0≤Td r p l∧∃ d,Ih l (Td r p l)=some d:=by
 obtain⟨h1,h2,_⟩:=Ecb.1 h;refine⟨h1,?_⟩;unfold hv at h2
 cases hb:Ih l (Td r p l) with
 |none=>rw[hb]at h2;cases h2
 |some d=>
  obtain⟨hd,he⟩:=Xz hb;obtain⟨⟨i0,_⟩,_⟩:=J1.1 ((D7.1 hl).2.1 _ hd);refine⟨?_,by omega,d,rfl⟩;rcases Kja r p l with⟨_,e⟩|⟨b,_,e,_,hn⟩
  ·omega
  ·rw[e];exact hn
def Oua {p:List Int} {b:Int} (h:p.Nodup) (hb:b∉p) (i:Nat):(p.set i b).Nodup:=by
 induction p generalizing i with
 |nil=>exact h
 |cons x p ih=>
  obtain⟨h1,h2⟩:=Yl.1 h
  cases i with
  |zero=>exact Yl.2 ⟨λ c=>hb (Vd _ c),h2⟩
  |succ i=>
   refine Yl.2 ⟨λ c=>?_,ih h2 (λ c=>hb (Vd _ c)) i⟩;rcases Yw c with c|c
   ·exact h1 c
   ·exact hb (c ▸ Wj)
def A8b {l:List Dev} {s:Int×Rng} {j:Nat} (hj:j<s.2.2.length) (h:Gb s.2 l=true):Gb (rb1 l s j).2 l=true∧(rb1 l s j).2.1=s.2.1∧(rb1 l s j).2.2.length=s.2.2.length∧s.1≤(rb1 l s j).1∧(rb1 l s j).1≤s.1+1:=by
 unfold rb1;obtain⟨h1,h2,h3,h4⟩:=Bl.1 h
 cases hx:Qha s.2 l (s.2.2.getD j []) (Td s.2 (s.2.2.getD j []) l) with
 |none=>exact⟨h,rfl,rfl,by dsimp only;omega,by dsimp only;omega⟩
 |some i=>
  obtain⟨b1,b2,_,b3⟩:=Si h1 hx;obtain⟨q1,q2,q3⟩:=h4 _ (A3 (d:=[]) hj);refine⟨Bl.2 ⟨h1,h2,by dsimp only;rw[List.length_set];exact h3,λ p hp=>?_⟩,rfl,by dsimp only;rw[List.length_set],by dsimp only;omega,by dsimp only;omega⟩;rcases List.mem_or_eq_of_mem_set hp with hp|hp
  ·exact h4 p hp
  ·subst hp;refine⟨Oua q1 b2 i,by rw[Vv];exact q2,λ id hid=>?_⟩;rcases Yw hid with hid|hid
   ·exact q3 id hid
   ·rw[hid];exact b3
def Ova {l:List Dev} {r:Rng} (h:Gb r l=true):∀ (n:Nat),n≤r.2.length→Gb (rbs l r n).2 l=true∧(rbs l r n).2.1=r.1∧(rbs l r n).2.2.length=r.2.length∧0≤(rbs l r n).1∧(rbs l r n).1≤n
 |0,_=>⟨h,rfl,rfl,Zza _,Zza _⟩
 |n+1,hn=>by
  obtain⟨h1,h2,h3,h4,h5⟩:=Ova h n (by omega);obtain⟨g1,g2,g3,g4,g5⟩:=A8b (j:=n) (by omega) h1;rw[Ija];exact⟨g1,by rw[g2,h2],by rw[g3,h3],by omega,by omega⟩
def Tf {r:Rng} {l:List Dev} (h:Gb r l=true):Gb (Dra r l).1 l=true∧(Dra r l).1.1=r.1∧(Dra r l).1.2.length=r.2.length∧0≤(Dra r l).2:=by
 obtain⟨h1,h2,h3,h4,_⟩:=Ova h r.2.length (Vw _);exact⟨h1,h2,h3,h4⟩
def Owa {r:Rng} {l:List Dev} (h:Gb r l=true):Tot (λ k=>C7 k r l) (λ x=>x=Dra r l):=by
 obtain⟨_,_,h64,_⟩:=Bl.1 h;unfold C7;refine Cgb (Sh r (Jp h)) ?_;rintro x rfl;refine Cgb (G8a h) ?_;rintro b rfl;refine Chb rfl (Cgb (Q:=λ y=>y=((rbs l x x.2.length).1,((0:Int),([]:List (List Int))),(rbs l x x.2.length).2)) ?_ (by rintro y rfl;exact Cfb rfl));refine Cob (L:=λ k i (s:Int×Rng)=>Ba k l s.1 (x.2.length:Int) i (0,[]) s.2) (Q:=λ y=>y=((rbs l x x.2.length).1,((0:Int),([]:List (List Int))),(rbs l x x.2.length).2)) x.2.length (λ j s=>s=rbs l x j) ?_ ?_ 0 (0,x) (Vu _) rfl
 ·rintro s rfl;simp (disch:=omega) only [Ba,dF];exact Cfb rfl
 ·rintro j s hj rfl next;obtain⟨g1,g2,g3,g4,g5⟩:=Ova h j (by omega);rw[Ija]at next;generalize rbs l x j=s at *;obtain⟨c,r⟩:=s;dsimp only at g1 g2 g3 g4 g5;obtain⟨q0,_,_,q4⟩:=Bl.1 g1;obtain⟨p1,p2,p3⟩:=q4 _ (A3 (d:=[]) (show j<r.2.length by omega));have hx2:=(Bl.1 h).2.1;have l12:=(D7.1 q0).2.2.2;unfold rb1 at next;dsimp only at next;obtain⟨p,hp⟩:∃ p,r.2.getD j []=p:=⟨_,rfl⟩;rw[hp]at p1 p2 p3;simp only[hp]at next;simp (disch:=omega) only [Ba,dT,Int.toNat_natCast,w64,hp];refine Cgb (Swa p l p3 (by omega) (by omega)) ?_;rintro x rfl;refine Ckb (by omega) (Cgb (Ota r p l (Jp g1) (by omega) q0 p3) ?_);rintro y rfl
  cases hi:Qha r l p (Td r p l) with
  |none=>
   rw[hi]at next;exact Ckb (by show ¬ ((-1:Int)≥0);omega) (next _ rfl)
  |some i=>
   obtain⟨b1,b2,b3,_⟩:=Si q0 hi;rw[hi]at next;simp (disch:=omega) only [dT,Vj];exact next _ rfl
def wgt (l:List Dev) (i:Nat) (w:Int):List Dev:=l.set i ((l.getD i Kw).1,(l.getD i Kw).2.1,w)
def B3a (l:List Dev) (i:Nat) (w:Int):(wgt l i w).map (·.1)=l.map (·.1):=by
 unfold wgt;rw[Fub]
 by_cases hi:i<l.length
 ·have:(l.getD i Kw).1=(l.map (·.1)).getD i 0:=by
   simp only[Vb,Zx,Vg hi,Dpb,Wm]
  rw[this,Vb,Vg (by simpa using hi),Wm];exact Emb _
 ·rw[List.set_eq_of_length_le (by simpa using hi)]
def Lh {l:List Dev} {id:Int}:(∃ d,Ih l id=some d)↔id∈l.map (·.1):=by
 unfold Ih;rw[← Zl,List.find?_isSome,Yt];exact⟨λ ⟨x,h,e⟩=>⟨x,h,eq_of_beq e⟩,λ ⟨x,h,e⟩=>⟨x,h,beq_iff_eq.2 e⟩⟩
def A9b {l:List Dev} {i:Nat} {w:Int} (h:H7 l=true) (hi:i<l.length) (h1:1≤w) (h2:w≤1000):H7 (wgt l i w)=true:=by
 obtain⟨g1,g2,g3,g4⟩:=D7.1 h;refine D7.2 ⟨?_,λ d hd=>?_,?_⟩
 ·have e:(l.map (·.1)).Pairwise (· < ·):=Zi.2 g1;rw[← B3a l i w]at e;exact Zi.1 e
 ·rcases Yw hd with hd|hd
  ·exact g2 d hd
  ·obtain⟨e1,e2,_⟩:=J1.1 (g2 _ (A3 (d:=Kw) hi));subst hd;exact J1.2 ⟨e1,e2,h1,h2⟩
 ·unfold wgt;rw[Vv];exact⟨g3,g4⟩
def Tg {r:Rng} {l:List Dev} {i:Nat} {w:Int} (h:Gb r l=true) (hi:i<l.length) (h1:1≤w) (h2:w≤1000):Gb r (wgt l i w)=true:=by
 obtain⟨g1,g2,g3,g4⟩:=Bl.1 h;refine Bl.2 ⟨A9b g1 hi h1 h2,g2,g3,λ p hp=>?_⟩;obtain⟨q1,q2,q3⟩:=g4 p hp;exact⟨q1,q2,λ id hid=>by rw[Lh,B3a,← Lh];exact q3 id hid⟩

def Oxa (x:BitVec 32):(cst x).getLsbD 31=x.getLsbD 0:=by
 have h0:(x >>> 1).getLsbD 31=false:=by
  rw[Ezb];exact BitVec.getLsbD_of_ge _ _ (by decide)
 unfold cst
 cases h:x.getLsbD 0 with
 |true=>
  rw[if_pos rfl,BitVec.getLsbD_xor,h0]
  decide
 |false=>
  rw[if_neg (by simp),h0]
def Rv {n:Nat} {x y c:BitVec n} (h:x ^^^ c=y ^^^ c):x=y:=by
 have:=congrArg (λ z=>z ^^^ c) h
 simpa[BitVec.xor_assoc] using this
def X9a {x y:BitVec 32} (h:cst x=cst y):x=y:=by
 have h0:x.getLsbD 0=y.getLsbD 0:=by rw[← Oxa,← Oxa,h]
 have h1:x >>> 1=y >>> 1:=by
  unfold cst at h;rw[h0]at h
  cases hb:y.getLsbD 0 with
  |true=>rw[hb,if_pos rfl,if_pos rfl]at h;exact Rv h
  |false=>rw[hb,if_neg (by simp),if_neg (by simp)]at h;exact h
 refine BitVec.eq_of_getLsbD_eq λ i hi=>?_
 cases i with
 |zero=>exact h0
 |succ i=>
  have:=congrArg (λ z=>z.getLsbD i) h1
  simpa[Ezb,Ctb] using this
def V6:∀ (n:Nat) {x y:BitVec 32},Fxa n x=Fxa n y→x=y
 |0,_,_,h=>h
 |n+1,_,_,h=>X9a (V6 n h)
def Xaa {x y:BitVec 32} {b:Int} (h:cby x b=cby y b):x=y:=Rv (V6 8 h)
def Sxa {x:BitVec 32} {a b:Int} (ha:0≤a∧a≤255) (hb:0≤b∧b≤255) (h:cby x a=cby x b):a=b:=by
 have h1:x ^^^ ofInt 32 a=x ^^^ ofInt 32 b:=V6 8 h;rw[Fkb,Fkb x]at h1;have h2:=Rv h1;rw[Uqa ha,Uqa hb,h2]
def Ika:∀ (l:List Int) {x y:BitVec 32},l.foldl cby x=l.foldl cby y→x=y
 |[],_,_,h=>h
 |_::l,_,_,h=>Xaa (Ika l h)
def V1a (l:List Int):0≤crc l∧crc l≤4294967295:=by
 unfold crc;have:=(Yna l).isLt;omega
def Xba {l:List Int} {i:Nat} {y:Int} (hi:i<l.length) (hy:0≤y∧y≤255) (hb:Ax l) (hne:y≠l.getD i 0):crc (l.set i y)≠crc l:=by
 intro h;have h1:Yna (l.set i y)=Yna l:=Flb (by unfold crc at h;omega);unfold Yna at h1;have h2:=BitVec.not_inj.1 h1
 have e1:l.set i y=l.take i++y::l.drop (i+1):=by rw[D7b,if_pos hi]
 have e2:l=l.take i++l.getD i 0::l.drop (i+1):=by
  conv => { lhs;rw[← Wi i l] }
  rw[C8 (d:=0) hi]
 rw[e1,Dib,Za]at h2;rw[e2]at h2;rw[Dib,Za]at h2
 have e3:(l.take i++l.getD i 0::l.drop (i+1)).take i=l.take i:=by rw[← e2]
 have e4:(l.take i++l.getD i 0::l.drop (i+1)).drop (i+1)=l.drop (i+1):=by rw[← e2]
 rw[e3,e4]at h2;exact hne (Sxa hy (hb _ (A3 hi)) (Ika _ h2))
def Aab {a b:Int} (ha:0≤a∧a≤4294967295) (hb:0≤b∧b≤4294967295) (h:c4 a=c4 b):a=b:=by
 have e:∀ c:Int,0≤c→c4 c=[c/16777216 % 256,c/65536 % 256,c/256 % 256,c % 256]:=λ c hc=>by
  unfold c4
  rw[show (2:Int) ^ (min (toNat 24) (IntKind.bits .i64))=16777216 from by decide,show (2:Int) ^ (min (toNat 16) (IntKind.bits .i64))=65536 from by decide,show (2:Int) ^ (min (toNat 8) (IntKind.bits .i64))=256 from by decide,
   D4b _ (by omega),D4b _ (by omega),D4b _ (by omega),Ebb,Ebb,Ebb,Ebb]
 rw[e a ha.1,e b hb.1]at h;simp only[Yh,and_true]at h;omega
def Kla {l m:List Int} {j:Nat} (h:j<l.length):(l++m).getD j 0=l.getD j 0:=by rw[Vb,Vb,Yj h]
def Kma {l m:List Int} {j:Nat} (h:l.length≤j):(l++m).getD j 0=m.getD (j-l.length) 0:=by rw[Vb,Vb,Yd h]
def Ila {f:Fil} (hf:Ds f=true) {n:Nat} (hn:n<8*(G5 f).length):Ka (Jo (G5 f) n)=none:=by
 cases hg:Ka (Jo (G5 f) n) with
 |none=>rfl
 |some g=>
  exfalso;obtain⟨g1,_,g3⟩:=Aya hg;have hpb:=Rt f
  have hj:n/8<(G5 f).length:=by omega
  have hy:=Ica ((G5 f).getD (n/8) 0) (n % 8);have hne:=Soa (hpb _ (A3 (d:=0) hj)) (Ftb n (show 0<8 by omega));unfold Jo at g3;generalize Wu ((G5 f).getD (n/8) 0) (n % 8)=y at g3 hy hne;generalize n/8=j at g3 hj hne
  have ef:G5 f=Mv f++c4 (crc (Mv f)):=by unfold G5;rw[hf];rfl
  have eg:G5 g=Mv g++c4 (crc (Mv g)):=by unfold G5;rw[g1];rfl
  have l4:∀ c,(c4 c).length=4:=λ c=>rfl;rw[eg]at g3;rw[ef]at g3 hj hne
  have hlen:(Mv g).length=(Mv f).length:=by
   have:=congrArg length g3;rw[Vv,Vi,Vi,l4,l4]at this;omega
  by_cases hjb:j<(Mv f).length
  ·rw[List.set_append_left _ _ hjb]at g3;obtain⟨a1,a2⟩:=List.append_inj g3 (by rw[Vv];exact hlen);rw[Kla hjb]at hne;have:=Aab (V1a _) (V1a _) a2;rw[a1]at this;exact Xba hjb hy (Pr f) hne this
  ·rw[Fmb _ _ (by omega)]at g3;obtain⟨a1,a2⟩:=List.append_inj g3 hlen;rw[a1]at a2;rw[Kma (by omega)]at hne;rw[Vi,l4]at hj
   have:(c4 (crc (Mv f))).getD (j-(Mv f).length) 0=y:=by
    rw[a2,Vb,Dnb (by rw[l4];omega),Wm]
   exact hne this.symm

def B4a (l:List Nmd) (ns:List ByteArray):List ByteArray:=l.foldl (λ ns x=>wt ns x.1) ns
def nms (d:Dsk):List ByteArray:=B4a (d.1++d.2) []
def pk1:Option Nmd→List Nmd
 |some x=>[x]
 |none=>[]
def Xca (o:Option Nmd):(pk1 o).length≤1:=by cases o<;>simp[pk1]
def Pz (kp:List Bool) (a b:List Nmd):List ByteArray→Nat→List Nmd
 |[],_=>[]
 |s::ns,i=>pk1 (pk (bif kp.getD i false then a else b) s)++Pz kp a b ns (i+1)
def Xda (kp:List Bool) (a b:List Nmd) (i:Nat):Pz kp a b [] i=[]:=rfl
def Sya (kp:List Bool) (a b:List Nmd) (s:ByteArray) (ns:List ByteArray) (i:Nat):Pz kp a b (s::ns) i=pk1 (pk (bif kp.getD i false then a else b) s)++Pz kp a b ns (i+1):=rfl
def P0 (d:Dsk) (kp:List Bool):Dsk:=bif decide ((Pz kp d.1 d.2 (nms d) 0).length > 60) then d else (Pz kp d.1 d.2 (nms d) 0,Pz kp d.1 d.2 (nms d) 0)
def Ima:∀ (l:List Nmd) (ns:List ByteArray),TS ns→TS (B4a l ns)
 |[],_,h=>h
 |_::l,_,h=>Ima l _ (Daa h)
def Dsa:∀ (l:List Nmd) (ns:List ByteArray) (t:ByteArray),t∈B4a l ns↔(∃ x∈l,x.1=t)∨t∈ns
 |[],ns,t=>by simp[B4a]
 |x::l,ns,t=>by
  show t∈B4a l (wt ns x.1)↔_;rw[Dsa l,Oca];simp only[Vk,exists_eq_or_imp];constructor
  ·rintro (h|rfl|h)
   ·exact .inl (.inr h)
   ·exact .inl (.inl rfl)
   ·exact .inr h
  ·rintro ((h|h)|h)
   ·exact .inr (.inl h.symm)
   ·exact .inl h
   ·exact .inr (.inr h)
def Dta:∀ (l:List Nmd) (ns:List ByteArray),(B4a l ns).length≤ns.length+l.length
 |[],_=>by simp[B4a]
 |x::l,ns=>by
  have h1:=Dta l (wt ns x.1);have h2:=Iaa (l:=ns) (s:=x.1);show (B4a l (wt ns x.1)).length≤_;rw[Vh];omega
def V2a (d:Dsk):TS (nms d):=Ima _ _ List.Pairwise.nil
def Xea {d:Dsk} {t:ByteArray}:t∈nms d↔(gt d.1 t).isSome=true∨(gt d.2 t).isSome=true:=by
 have h:∀ l:List Nmd,(gt l t).isSome=true↔∃ x∈l,x.1=t:=λ l=>by
  cases hg:gt l t with
  |none=>
   constructor
   ·intro h;cases h
   ·rintro⟨x,hx,e⟩;exact absurd e (Ks.1 hg x hx)
  |some b=>simp only[Option.isSome_some,true_iff];exact⟨_,Kd hg,rfl⟩
 unfold nms;rw[Dsa,h,h];simp only[Vm,E0b,or_false];constructor
 ·rintro⟨x,h1|h1,h2⟩
  ·exact .inl ⟨x,h1,h2⟩
  ·exact .inr ⟨x,h1,h2⟩
 ·rintro (⟨x,h1,h2⟩|⟨x,h1,h2⟩)
  ·exact⟨x,.inl h1,h2⟩
  ·exact⟨x,.inr h1,h2⟩
def Xfa (l:List Nmd) (s:ByteArray):pk l s=(gt l s).map λ b=>(s,b):=by
 unfold pk gt
 cases h:fnd l s with
 |none=>rfl
 |some i=>rw[Dpb,← (M5 h).2]
def Rw (kp:List Bool) (a b:List Nmd):∀ (ns:List ByteArray) (i:Nat),((Pz kp a b ns i).map Prod.fst).Sublist ns
 |[],_=>List.Sublist.slnil
 |s::ns,i=>by
  unfold Pz;rw[Xfa]
  cases gt (bif kp.getD i false then a else b) s with
  |none=>exact(Rw kp a b ns (i+1)).cons s
  |some c=>exact(Rw kp a b ns (i+1)).cons_cons s
def Xga (kp:List Bool) (a b:List Nmd) (ns:List ByteArray) (i:Nat):(Pz kp a b ns i).length≤ns.length:=by
 have:=(Rw kp a b ns i).length_le;rwa [Vz]at this
def Kna {kp:List Bool} {a b:List Nmd} {ns:List ByteArray} {i:Nat} (h:TS ns):Db (Pz kp a b ns i):=by
 have:=Elb (Rw kp a b ns i) h;rwa [Zi]at this
def Oya {kp:List Bool} {a b:List Nmd}:∀ {ns:List ByteArray} {i:Nat} {x:Nmd},x∈Pz kp a b ns i→gt a x.1=some x.2∨gt b x.1=some x.2
 |[],_,_,h=>by cases h
 |s::ns,i,x,h=>by
  unfold Pz at h;rw[Xfa]at h;rcases Vm.1 h with h|h
  ·cases hg:gt (bif kp.getD i false then a else b) s with
   |none=>rw[hg]at h;cases h
   |some c=>
    rw[hg]at h;rw[Vp.1 h]
    cases hk:kp.getD i false with
    |true=>rw[hk]at hg;exact .inl hg
    |false=>rw[hk]at hg;exact .inr hg
  ·exact Oya h
def V3a {kp:List Bool} {a b:List Nmd} {t:ByteArray}:∀ {ns:List ByteArray} {i:Nat},TS ns→t∈ns→∃ j,i≤j∧gt (Pz kp a b ns i) t=gt (bif kp.getD j false then a else b) t
 |[],_,_,h=>by cases h
 |s::ns,i,hs,h=>by
  obtain⟨h1,h2⟩:=Wa.1 hs
  have hn:∀ j,gt (Pz kp a b ns j) s=none:=λ j=>Ks.2 λ x hx e=>by
   have:=h1 x.1 ((Rw kp a b ns j).subset (Ym hx));rw[e,Ek]at this;cases this
  unfold Pz;rw[Xfa];rcases Vk.1 h with rfl|h
  ·refine⟨i,Vw _,?_⟩
   cases hg:gt (bif kp.getD i false then a else b) t with
   |none=>exact hn _
   |some c=>
    show gt ((t,c)::Pz kp a b ns (i+1)) t=_;rw[Ru,if_pos rfl]
  ·obtain⟨j,hj,e⟩:=V3a (kp:=kp) (a:=a) (b:=b) (i:=i+1) h2 h;refine⟨j,by omega,?_⟩;rw[← e]
   have hst:s≠t:=λ e=>by
    have:=h1 t h;rw[e,Ek]at this;cases this
   cases gt (bif kp.getD i false then a else b) s with
   |none=>rfl
   |some c=>
    show gt ((s,c)::Pz kp a b ns (i+1)) t=_;rw[Ru,if_neg hst]
def Oza {d:Dsk} {kp:List Bool} (h:DG d):DG (P0 d kp):=by
 unfold P0;cases hc:decide ((Pz kp d.1 d.2 (nms d) 0).length > 60)
 case true=>exact h
 have hl:=of_decide_eq_false hc;have n1:=(B5.1 (E4.1 h.1).1).2.1;have n2:=(B5.1 (E4.1 h.1).2).2.1;have q:H6 (Pz kp d.1 d.2 (nms d) 0)=true:=B5.2 ⟨Kna (V2a d),λ x hx=>(Oya hx).elim (λ e=>n1 _ (Kd e)) (λ e=>n2 _ (Kd e)),by omega⟩;have b:LB (Pz kp d.1 d.2 (nms d) 0):=λ x hx=>(Oya hx).elim (λ e=>h.2.1.gt e) (λ e=>h.2.2.gt e);exact⟨E4.2 ⟨q,q⟩,b,b⟩
def P0a {d:Dsk} {kp:List Bool} (t:ByteArray):P0 d kp=d∨((P0 d kp).2=(P0 d kp).1∧(gt (P0 d kp).1 t=gt d.1 t∨gt (P0 d kp).1 t=gt d.2 t)):=by
 unfold P0;cases hc:decide ((Pz kp d.1 d.2 (nms d) 0).length > 60)
 case true=>exact .inl rfl
 refine .inr ⟨rfl,?_⟩;show gt (Pz kp d.1 d.2 (nms d) 0) t=_∨gt (Pz kp d.1 d.2 (nms d) 0) t=_
 by_cases ht:t∈nms d
 ·obtain⟨j,_,e⟩:=V3a (kp:=kp) (a:=d.1) (b:=d.2) (i:=0) (V2a d) ht;rw[e]
  cases kp.getD j false with
  |true=>exact .inl rfl
  |false=>exact .inr rfl
 ·have h1:gt d.1 t=none:=by
   cases hg:gt d.1 t with
   |none=>rfl
   |some b=>exact absurd (Xea.2 (.inl (by rw[hg];rfl))) ht
  left;rw[h1];exact Ks.2 λ x hx e=>ht (by rw[← e];exact(Rw _ _ _ _ _).subset (Ym hx))
def B5a {R:Type} {L:Nat→List Nmd→Option R} {Q:R→Prop} (c:List Nmd) (s:ByteArray) (acc:List Nmd) (hc:c.length≤5000000) (ha:acc.length≤5000000) (next:Tot (λ k=>L k (acc++pk1 (pk c s))) Q):
  Tot (λ k=>(Fh k c s).bind λ r=>cond (decide (r≥0)) (cond (decide ((0:Int)≤r)) (cond (decide (r<(length c:Int))) (cond (Nat.ble ((length acc+length [getD c (toNat r) ((⟨#[]⟩:ByteArray),[])])*40) 140737488355328) (L k (acc++[getD c (toNat r) ((⟨#[]⟩:ByteArray),[])])) none) none) none) (L k acc)) Q:=by
 refine Cqb (Ux c s (by omega)) ?_;unfold pk at next;unfold Sda
 cases h:fnd c s with
 |none=>
  rw[h]at next;simp only[pk1,Wo]at next;exact Ckb (by decide) next
 |some i=>
  rw[h]at next;have:=(M5 h).1;simp only[Vj];exact Cjb (by omega) (Cjb (by omega) (Cjb (by omega) (Cnb (by simp only[Vh,Vs];omega) next)))
def P1a (d:Dsk) (kp:List Bool) (hd:DG d) (hk:kp.length≤4000000000000):Tot (λ k=>C3 k d kp) (λ r=>r=P0 d kp):=by
 have hin:=P8 hd.1;have g1:=(B5.1 (E4.1 hd.1).1).2.2;have g2:=(B5.1 (E4.1 hd.1).2).2.2;unfold C3;refine Cqb (Ld d hin.1.1 hin.1.2) ?_;rw[hd.1];refine Chb rfl (Cnb (by simp only[Vs];omega) ?_);rw[Wn];refine Cnb (by omega) ?_
 have hm:(d.1++d.2).length≤120:=by rw[Vi];omega
 have hn:(nms d).length≤120:=by have:=Dta (d.1++d.2) [];rw[Vs]at this;exact Zu this (by omega)
 refine Cgb (Q:=λ r=>r=(kp,nms d,d.1,d.2,[],[])) ?_ ?_
 ·refine Cob (L:=λ k i s=>Dr k kp s (d.1++d.2) ((d.1++d.2).length:Int) i d.1 d.2 [] []) (Q:=λ r=>r=(kp,nms d,d.1,d.2,[],[])) (d.1++d.2).length (λ j s=>B4a ((d.1++d.2).drop j) s=nms d∧s.length≤j) ?_ ?_ 0 [] (Vu _) ⟨rfl,Vw _⟩
  ·rintro s ⟨h,_⟩;rw[Ye]at h;simp (disch:=omega) only [Dr,dF];exact Cfb (by rw[← h];rfl)
  ·rintro j s hj ⟨h,hs⟩ next;rw[C8 (d:=Hg) hj]at h;simp (disch:=omega) only [Dr,dT,Vj,w64];refine Cqb (Mu s _ (by omega)) ?_;have:=Iaa (l:=s) (s:=((d.1++d.2).getD j Hg).1);exact next _ ⟨h,by have e:(d.1++d.2).getD j ((⟨#[]⟩:ByteArray),([]:List Int))=(d.1++d.2).getD j Hg:=rfl;rw[e];omega⟩
 ·rintro r rfl;refine Cgb (Q:=λ r=>r=(Pz kp d.1 d.2 (nms d) 0,d.1,d.2,[],[])) ?_ ?_
  ·refine Cob (L:=λ k i s=>Aq k kp s (nms d) ((nms d).length:Int) i d.1 d.2 [] []) (Q:=λ r=>r=(Pz kp d.1 d.2 (nms d) 0,d.1,d.2,[],[])) (nms d).length (λ j s=>s++Pz kp d.1 d.2 ((nms d).drop j) j=Pz kp d.1 d.2 (nms d) 0∧s.length≤j) ?_ ?_ 0 [] (Vu _) ⟨rfl,Vw _⟩
   ·rintro s ⟨h,_⟩;rw[Ye,Xda,Wo]at h;simp (disch:=omega) only [Aq,dF];exact Cfb (by rw[h])
   ·rintro j s hj ⟨h,hs⟩ next;rw[C8 (d:=Le) hj]at h;rw[Sya,← Vo]at h;simp (disch:=omega) only [Aq,dT,Vj,w64];have hl:=Xca (pk (bif kp.getD j false then d.1 else d.2) ((nms d).getD j Le));have nx:=next (s++pk1 (pk (bif kp.getD j false then d.1 else d.2) ((nms d).getD j Le))) ⟨h,by rw[Vi];omega⟩;have e0:(nms d).getD j (⟨#[]⟩:ByteArray)=(nms d).getD j Le:=rfl;rw[e0];refine Cmb (λ hc=>?_) (λ hc=>?_)
    ·refine Cjb (by omega) (Clb (λ hk=>?_) (λ hk=>?_))
     ·rw[hk]at nx;exact B5a (L:=λ k acc=>Aq k kp acc (nms d) ((nms d).length:Int) ((j:Int)+1) d.1 d.2 [] []) d.1 _ s (by omega) (by omega) nx
     ·rw[hk]at nx;exact B5a (L:=λ k acc=>Aq k kp acc (nms d) ((nms d).length:Int) ((j:Int)+1) d.1 d.2 [] []) d.2 _ s (by omega) (by omega) nx
    ·have hk:kp.getD j false=false:=by rw[Vb,Yx (by omega)];rfl
     rw[hk]at nx;exact B5a (L:=λ k acc=>Aq k kp acc (nms d) ((nms d).length:Int) ((j:Int)+1) d.1 d.2 [] []) d.2 _ s (by omega) (by omega) nx
  ·rintro r rfl;have hp:=Xga kp d.1 d.2 (nms d) 0;unfold P0;refine Cmb (λ h=>?_) (λ h=>?_)
   ·dsimp only at h;rw[decide_eq_true (show (Pz kp d.1 d.2 (nms d) 0).length > 60 by omega)];refine Cqb (Fm (d.1,d.2) hin.1.1) ?_;exact Cfb rfl
   ·dsimp only at h;have hc:decide ((Pz kp d.1 d.2 (nms d) 0).length > 60)=false:=decide_eq_false (by omega);have hg:=Oza (kp:=kp) hd;unfold P0 at hg;rw[hc]at hg ⊢;rw[cond_false]at hg;have hf:=(P8 hg.1).1.1.1;refine Cqb (Ki _ hf) ?_;refine Cqb (Ki _ hf) ?_;exact Cfb rfl

end Go.Proofs.YtcpligincipmhaaGreat.Vf
