import Derived.Test.YtiiekghlhfbmmaaGreatMan
set_option linter.all false
namespace Go.Proofs.YtiiekghlhfbmmaaGreat.Vf
open Go
open List (length getD)
open Int (toNat)
open Go.IntKind (wrap)
open BitVec (ofInt)
def Zc:=@List.mem_range
def Kwb:=@Bool.or_false
def Lwb:=@List.pairwise_singleton
def M9b:=@List.drop_append_of_le_length
def Mbb:=@List.take_append_of_le_length
def Nab:=@List.all_append
def Nbb:=@List.any_append
def Ncb:=@List.any_nil

def Exb (d:Dsk):List ByteArray:=(d.1.filter λ x=>(O6 x.2).isSome).map Prod.fst
def hI (d:Dsk) (out:List ByteArray) (x:Nmd):List ByteArray:=bif (lkD d x.1).2==0 then wt out x.1 else out
def Qk (d:Dsk):List ByteArray:=d.1.foldl (hI d) []
def Wga (d:Dsk):∀ (l:List Nmd) (out:List ByteArray),(l.foldl (hI d) out).length≤out.length+l.length
 |[],out=>by simp
 |x::l,out=>by
  have h1:=Wga d l (hI d out x)
  have h2:(hI d out x).length≤out.length+1:=by
   unfold hI
   cases (lkD d x.1).2==0 with
   |false=>exact Klb _
   |true=>exact Jna
  rw[Ye,Vd];omega
def Pia (d:Dsk) (hd:DIn d) (hb:DB d):Tot (λ k=>J5 k d) (λ r=>r=Qk d):=by
 have hl:=hd.2.1;unfold J5;refine Jsb (Q:=λ r=>r=Qk d) ?_ (by rintro r rfl;exact Jrb rfl);refine K0b (L:=λ k i s=>K7 k s d.1 (d.1.length:Int) i d) (Q:=λ r=>r=Qk d) d.1.length (λ j s=>(d.1.drop j).foldl (hI d) s=Qk d∧s.length≤j) ?_ ?_ 0 [] (Vq _) ⟨rfl,Vv _⟩
 ·rintro s ⟨h,_⟩;rw[Vz]at h;simp (disch:=omega) only [K7,dF];exact Jrb h
 ·rintro j s hj ⟨h,hs⟩ next;rw[Aj (d:=Dy) hj,Ye]at h;simp (disch:=omega) only [K7,dT,Vc,w64];have e0:d.1.getD j ((⟨#[]⟩:ByteArray),([]:List Int))=d.1.getD j Dy:=rfl;rw[e0];refine K3b (Bja hd.1.1.1 hb.1 _) ?_;unfold hI at h
  cases hc:(lkD d (d.1.getD j Dy).1).2==0 with
  |false=>
   rw[hc]at h;exact Jtb rfl (next _ ⟨h,by omega⟩)
  |true=>
   rw[hc]at h;refine Jub rfl (K3b (Gsa s _ (by omega)) ?_);have:=Jna (l:=s) (s:=(d.1.getD j Dy).1);exact next _ ⟨h,by omega⟩
def K7a {p:ByteArray→Bool}:∀ {l:List ByteArray},(∀ y∈l,p y=true)→l.takeWhile p=l
 |[],_=>rfl
 |x::l,h=>by rw[Zq,if_pos (h x Ya),K7a (λ y hy=>h y (Vh _ hy))]
def Eyb {l:List ByteArray} {s:ByteArray} (h:∀ y∈l,tlt y s=true):wt l s=l++[s]:=by
 have e:tpl l s=l.length:=by
  unfold tpl;rw[K7a h]
 unfold wt;rw[e,if_neg (by omega),Yp,Vz,Wq]
def Hkb {d:Dsk} (hs:E4 d.1) {x:Nmd} (hx:x∈d.1):((lkD d x.1).2==0)=(O6 x.2).isSome:=by
 unfold lkD;rw[D3a hs hx];simp only
 cases O6 x.2<;>rfl
def Ajb {d:Dsk} (hs:E4 d.1):Qk d=Exb d:=by
 have key:∀ (l:List Nmd) (out:List ByteArray),(∀ x∈l,x∈d.1)→E4 l→(∀ y∈out,∀ x∈l,tlt y x.1=true)→l.foldl (hI d) out=out++(l.filter λ x=>(O6 x.2).isSome).map Prod.fst:=by
  intro l
  induction l with
  |nil=>intro out _ _ _;simp
  |cons x l ih=>
   intro out hm hsl ho;obtain⟨h1,h2⟩:=Wh.1 hsl;rw[Ye,Zz];have hx:=Hkb hs (hm x Ya);unfold hI;rw[hx];cases hf:(O6 x.2).isSome
   ·exact ih out (λ y hy=>hm y (Vh _ hy)) h2 (λ y hy z hz=>ho y hy z (Vh _ hz))
   rw[cond_true,Eyb (λ y hy=>ho y hy x Ya),if_pos rfl,Yh]
   have:=ih (out++[x.1]) (λ y hy=>hm y (Vh _ hy)) h2 (λ y hy z hz=>by
    rcases Vo.1 hy with hy|hy
    ·exact ho y hy z (Vh _ hz)
    ·rw[Vu.1 hy];exact h1 z hz)
   unfold hI at this;rw[this,Vn];rfl
 unfold Qk Exb;rw[key d.1 [] (λ _ h=>h) hs (λ y hy=>by cases hy),Wa]
def B3a (l:List ByteArray) (s:ByteArray):Bool:=l.any λ y=>teq y s
def Qu {l:List ByteArray} {s:ByteArray}:B3a l s=true↔s∈l:=by
 unfold B3a;rw[K9b];constructor
 ·rintro⟨x,hx,e⟩;rw[← Db.1 e];exact hx
 ·intro h;exact⟨s,h,Db.2 rfl⟩
def Pja (l:List ByteArray) (s:ByteArray) (hl:l.length≤1000000000):Tot (λ k=>J2 k l s) (λ r=>r=B3a l s):=by
 unfold J2
 refine Jsb (Q:=λ r=>r=bif B3a l s then .inl true else .inr ()) ?_ (by rintro r rfl;cases B3a l s<;>exact Jrb rfl)
 refine K0b (L:=λ k i (_:Unit)=>Ig k l s i) (Q:=λ r=>r=bif B3a l s then .inl true else .inr ()) l.length (λ j _=>B3a (l.drop j) s=B3a l s) ?_ ?_ 0 () (Vq _) rfl
 ·intro _ h;rw[Vz]at h;simp (disch:=omega) only [Ig,dF,← h];exact Jrb rfl
 ·intro j _ hj h next;rw[Aj (d:=Oz) hj]at h;unfold B3a at h;rw[L5b]at h;simp (disch:=omega) only [Ig,dT,Vc,w64];refine Jxb (λ hc=>Jrb ?_) (λ hc=>next () ?_)
  ·rw[show teq (l.getD j Oz) s=true from hc,Lpb]at h;unfold B3a;rw[← h];rfl
  ·rw[show teq (l.getD j Oz) s=false from hc,Zza]at h;exact h
def Kva (l:List ByteArray):Nat→ByteArray→List ByteArray×Nat
 |0,_=>(l,0)
 |k+1,s=>bif tlt s (l.getD k Oz) then Kva (l.set (k+1) (l.getD k Oz)) k s else (l,k+1)
def Cib (l:List ByteArray) (s:ByteArray):List ByteArray:=(Kva (l++[s]) l.length s).1.set (Kva (l++[s]) l.length s).2 s
def Dba:∀ (k:Nat) (l:List ByteArray) (s:ByteArray),(Kva l k s).1.length=l.length∧(Kva l k s).2≤k∧∀ y∈(Kva l k s).1,y∈l∨y=Oz
 |0,_,_=>⟨rfl,Vv _,λ _ h => .inl h⟩
 |k+1,l,s=>by
  unfold Kva;cases tlt s (l.getD k Oz)
  ·exact⟨rfl,Vv _,λ _ h => .inl h⟩
  obtain⟨h1,h2,h3⟩:=Dba k (l.set (k+1) (l.getD k Oz)) s;rw[cond_true];refine⟨by rw[h1,Wc],by omega,λ y hy=>?_⟩;rcases h3 y hy with h|h
  ·rcases Ys h with h|h
   ·exact .inl h
   ·by_cases hk:k<l.length
    ·rw[h];exact .inl (A3 hk)
    ·rw[h,Vb,Za (by omega)];exact .inr rfl
  ·exact .inr h
def Akb (l:List ByteArray) (s:ByteArray):(Cib l s).length=l.length+1:=by
 unfold Cib;rw[Wc,(Dba _ _ _).1,Ve];rfl
def Alb {l:List ByteArray} {s y:ByteArray} (h:y∈Cib l s):y∈l∨y=s∨y=Oz:=by
 unfold Cib at h;rcases Ys h with h|h
 ·rcases (Dba _ _ _).2.2 y h with h|h
  ·rcases Vo.1 h with h|h
   ·exact .inl h
   ·exact .inr (.inl (Vu.1 h))
  ·exact .inr (.inr h)
 ·exact .inr (.inl h)
def hS1 (l:List Nmd) (j:Nat) (out:List ByteArray) (x:Nmd):List ByteArray:=bif (O6 x.2).isSome&&(!(B3a out x.1)&&(F5a l x.1==(j:Int))) then Cib out x.1 else out
def hS (l:List Nmd):List Nmd→Nat→List ByteArray→List ByteArray
 |[],_,out=>out
 |x::r,j,out=>hS l r (j+1) (hS1 l j out x)
def Rla (d:Dsk):List ByteArray:=hS d.1 d.1 0 []
def Wha (l:List Nmd) (j:Nat) (out:List ByteArray) (x:Nmd):(hS1 l j out x).length≤out.length+1:=by
 unfold hS1
 cases (O6 x.2).isSome&&(!(B3a out x.1)&&(F5a l x.1==(j:Int))) with
 |false=>exact Klb _
 |true=>rw[cond_true,Akb];exact Vv _
def Hlb (l:List Nmd) (hl:Rl l):∀ (r:List Nmd) (j:Nat) (out:List ByteArray),(∀ x∈r,x∈l)→(∀ y∈out,Ni y)→(hS l r j out).length≤out.length+r.length∧∀ y∈hS l r j out,Ni y
 |[],_,out,_,h=>⟨by simp[hS],h⟩
 |x::r,j,out,hm,h=>by
  have h2:=Wha l j out x
  obtain⟨a1,a2⟩:=Hlb l hl r (j+1) (hS1 l j out x) (λ y hy=>hm y (Vh _ hy)) (λ y hy=>by
   unfold hS1 at hy;cases hc:(O6 x.2).isSome&&(!(B3a out x.1)&&(F5a l x.1==(j:Int)))
   ·rw[hc]at hy;exact h y hy
   rw[hc]at hy;rcases Alb hy with hy|rfl|rfl
   ·exact h y hy
   ·exact hl x (hm x Ya)
   ·unfold Ni;decide)
  refine⟨?_,a2⟩;show (hS l r (j+1) (hS1 l j out x)).length≤_;rw[Vd];omega
def Mva (a b:List Nmd) (j:Nat) (hj:j<a.length) (ha:a.length≤5000000):∀ (k:Nat) (x:List ByteArray),k<x.length→x.length≤5000000→
  Tot (λ n=>La n x (j:Int) (k:Int) (a,b)) (λ r=>r=((Kva x k (a.getD j Dy).1).1,(j:Int),((Kva x k (a.getD j Dy).1).2:Int),(a,b))):=by
 intro k
 induction k with
 |zero=>
  intro x hk hx;refine Tot.succ ?_;simp (disch:=omega) only [La,dF];exact Jrb rfl
 |succ k ih=>
  intro x hk hx;refine Tot.succ ?_
  have e1:((k+1:Nat):Int)-1=(k:Int):=by omega
  simp (disch:=omega) only [La,dT,w64,e1,Vc];have e0:a.getD j ((⟨#[]⟩:ByteArray),([]:List Int))=a.getD j Dy:=rfl;rw[e0];unfold Kva;refine Jxb (λ h=>?_) (λ h=>?_)
  ·rw[J7a]at h;rw[show tlt (a.getD j Dy).1 (x.getD k Oz)=true from h,cond_true];exact ih _ (by rw[Wc];omega) (by rw[Wc];omega)
  ·rw[J7a]at h;rw[show tlt (a.getD j Dy).1 (x.getD k Oz)=false from h,cond_false];exact Jrb rfl
def Amb (d:Dsk) (hd:DIn d) (hb:DB d):Tot (λ k=>Hm k d) (λ r=>r=Rla d):=by
 have hl:=hd.2.1;unfold Hm;refine Jsb (Q:=λ r=>r=Rla d) ?_ (by rintro r rfl;exact Jrb rfl);refine K0b (L:=λ k i s=>Hx k s i d) (Q:=λ r=>r=Rla d) d.1.length (λ j s=>hS d.1 (d.1.drop j) j s=Rla d∧s.length≤j) ?_ ?_ 0 [] (Vq _) ⟨rfl,Vv _⟩
 ·rintro s ⟨h,_⟩;rw[Vz]at h;simp (disch:=omega) only [Hx,dF];exact Jrb h
 ·rintro j s hj ⟨h,hs⟩ next;rw[Aj (d:=Dy) hj]at h;have hlen:=Wha d.1 j s (d.1.getD j Dy);have nx:=next _ ⟨show hS d.1 (d.1.drop (j+1)) (j+1) (hS1 d.1 j s (d.1.getD j Dy))=Rla d from h,by omega⟩;have hx:=A3 (d:=Dy) hj;simp (disch:=omega) only [Hx,dT,Vc,w64];have e0:d.1.getD j ((⟨#[]⟩:ByteArray),([]:List Int))=d.1.getD j Dy:=rfl;rw[e0];unfold hS1 at nx;refine K3b (D2a _ (hb.1 _ hx) (hd.1.1.1.2 _ hx)) ?_;unfold Ti
  cases hf:O6 (d.1.getD j Dy).2 with
  |none=>
   rw[hf]at nx;exact Jub rfl nx
  |some f=>
   rw[hf]at nx;refine Jtb rfl (K3b (Pja s _ (by omega)) ?_)
   cases hc:B3a s (d.1.getD j Dy).1 with
   |true=>
    rw[hc]at nx;exact Jub rfl nx
   |false=>
    rw[hc]at nx;refine Jtb rfl (K3b (F6a d.1 _ (by omega)) ?_)
    cases he:F5a d.1 (d.1.getD j Dy).1==(j:Int) with
    |false=>
     rw[he]at nx;exact Jub (by unfold bne;rw[he];rfl) nx
    |true=>
     rw[he]at nx;refine Jtb (by unfold bne;rw[he];rfl) (Jzb (by simp only[Vd,Vk];omega) ?_);have hq:=Mva d.1 d.2 j hj (by omega) s.length (s++[(d.1.getD j Dy).1]) (by simp) (by simp only[Ve,Vd,Vk];omega);refine Jsb hq ?_;rintro r rfl;obtain⟨w1,w2,_⟩:=Dba s.length (s++[(d.1.getD j Dy).1]) (d.1.getD j Dy).1;rw[Ve]at w1;simp only[Vd,Vk]at w1;simp (disch:=omega) only [dT,Vc,w64];exact nx

def Ezb (n:Nod):Nod×Int:=((n.1,(No n.2.1).1,n.2.2),(No n.2.1).2)
def H7a {n:Nod} (hn:NG n) {d:Dsk} (hd:DG d):NG (n.1,d,n.2.2):=by
 obtain⟨h1,h2,h3,h4,h5⟩:=Cb.1 hn.1;exact⟨Cb.2 ⟨h1,h2,hd.1,h4,h5⟩,hd.2⟩
def Pka {n:Nod} (hn:NG n):NG (Ezb n).1:=H7a hn (Aib hn.g)
def Wia (n:Nod) (hn:NG n):Tot (λ k=>Ey k n) (λ r=>r=Ezb n):=by
 unfold Ey;refine K3b (Qt n (Aya hn)) ?_;refine K3b (Wea n.2.1 hn.g) ?_;exact Jrb rfl

def E4a (v:BitVec 32) (b:Int):BitVec 32:=(v ^^^ ofInt 32 b)*16777619#32
def E5a (x:ByteArray):Nat→BitVec 32
 |0=>2166136261#32
 |n+1=>E4a (E5a x n) (bt x (n:Int))
def Pla (x:ByteArray):Nat:=(E5a x x.size).toNat
def Job (v:BitVec 32):wrap .u32 ((v.toNat:Int)*16777619)=((v*16777619#32).toNat:Int):=by
 rw[IntKind.wrap_u32,BitVec.toNat_mul];show (v.toNat:Int)*16777619 % 4294967296=((v.toNat*16777619 % 4294967296:Nat):Int);omega
def Jpb (v:BitVec 32):wrap .i64 ((ofInt (IntKind.bits .i64) ((v.toNat:Int)*16777619) &&& ofInt (IntKind.bits .i64) 4294967295).toNat)=((v*16777619#32).toNat:Int):=by
 have h:=v.isLt;rw[Lgb,show (v.toNat:Int)*16777619=((v.toNat*16777619:Nat):Int) by omega,Tf _ (by omega),show (ofInt (IntKind.bits .i64) 4294967295).toNat=2 ^ 32-1 from by decide,M6b,BitVec.toNat_mul];show wrap .i64 ((v.toNat*16777619 % 4294967296:Nat):Int)=((v.toNat*16777619 % 4294967296:Nat):Int);exact w64 (by omega) (by omega)
def Anb (x:ByteArray) (hx:x.size≤1000000000):Tot (λ k=>Nf k x) (λ r=>r=(Pla x:Int)):=by
 unfold Nf
 refine Jsb (Q:=λ r=>r=(Pla x:Int)) ?_ (by
  rintro r rfl;have:=(E5a x x.size).isLt
  exact Jrb (w64 (n:=(Pla x:Int)) (by omega) (by show ((E5a x x.size).toNat:Int)≤_;omega)))
 refine K0b (L:=λ k i (s:Int)=>Kt k x s i) (Q:=λ r=>r=(Pla x:Int)) x.size (λ j s=>s=((E5a x j).toNat:Int)) ?_ ?_ 0 _ (Vq _) rfl
 ·rintro s rfl;simp (disch:=omega) only [Kt,dF];exact Jrb rfl
 ·rintro j s hj rfl next;have hb:=Cna x (j:Int);have e1:wrap .u32 (bt x (j:Int))=bt x (j:Int):=Myb _ ⟨by omega,by omega⟩;simp (disch:=omega) only [Kt,dT,w64,e1,J2b (E5a x j) _ (bt x (j:Int)) rfl,Job];exact next _ rfl
def Aob (x:ByteArray) (hx:x.size≤1000000000):Tot (λ k=>Ng k x) (λ r=>r=(Pla x:Int)):=by
 unfold Ng;refine Jsb (Q:=λ r=>r=(Pla x:Int)) ?_ (by rintro r rfl;exact Jrb rfl);refine K0b (L:=λ k i (s:Int)=>Kw k x s i) (Q:=λ r=>r=(Pla x:Int)) x.size (λ j s=>s=((E5a x j).toNat:Int)) ?_ ?_ 0 _ (Vq _) rfl
 ·rintro s rfl;simp (disch:=omega) only [Kw,dF];exact Jrb rfl
 ·rintro j s hj rfl next;have hb:=Cna x (j:Int)
  have hx:wrap .i64 ((ofInt (IntKind.bits .i64) ((E5a x j).toNat:Int) ^^^ ofInt (IntKind.bits .i64) (bt x (j:Int))).toNat)=((E5a x j ^^^ ofInt 32 (bt x (j:Int))).toNat:Int):=by
   have:=Iib (E5a x j) (ofInt 32 (bt x (j:Int)));rwa [← P4a hb]at this
  simp (disch:=omega) only [Kw,dT,w64,hx,Jpb];exact next _ rfl
def Sr (r:Rng) (x:ByteArray):List Int:=r.2.getD (Pla x % r.2.length) []
def Hmb (a b:Nat):Int.tmod (a:Int) (b:Int)=((a % b:Nat):Int):=by
 rw[Kcb (by omega)];exact(Int.natCast_emod _ _).symm
def H8a (r:Rng) (x:ByteArray) (hr:RBd r) (hx:x.size≤1000000000):Tot (λ k=>B0 k r x) (λ y=>y=Sr r x):=by
 have hrl:=hr.1;unfold B0
 by_cases h0:r.2.length=0
 ·refine Jub (by rw[h0];rfl) (Jrb ?_);unfold Sr;rw[Wn h0];rfl
 ·have hm:=Ndb (Pla x) (show 0<r.2.length by omega);refine Jtb (by rw[beq_eq_false_iff_ne];omega) (Jsb (Q:=λ y=>y=((Pla x % r.2.length:Nat):Int)) ?_ ?_)
  ·unfold Mj;refine Jwb (by omega) (K3b (Anb x hx) ?_);exact Jwb (by omega) (Jrb (Hmb _ _))
  ·rintro y rfl;simp (disch:=omega) only [dT,Vc];have hp:=hr.2 _ (A3 (d:=[]) hm);rw[Aka _ (by omega)];exact Jrb rfl
def Bna (r:Rng) (x:ByteArray) (hr:RBd r) (hx:x.size≤1000000000):Tot (λ k=>Bq k r x) (λ y=>y=Sr r x):=by
 have hrl:=hr.1;unfold Bq
 by_cases h0:r.2.length=0
 ·refine Jub (by rw[h0];rfl) (Jrb ?_);unfold Sr;rw[Wn h0];rfl
 ·have hm:=Ndb (Pla x) (show 0<r.2.length by omega);refine Jtb (by rw[beq_eq_false_iff_ne];omega) (Jsb (Q:=λ y=>y=((Pla x % r.2.length:Nat):Int)) ?_ ?_)
  ·unfold Ml;refine Jwb (by omega) (K3b (Aob x hx) ?_);exact Jwb (by omega) (Jrb (Hmb _ _))
  ·rintro y rfl;have hp:=hr.2 _ (A3 (d:=[]) hm);simp (disch:=omega) only [dT,Vc];exact Jzb (by simp only[Vk];omega) (Jrb rfl)
def Apb {r:Rng} {l:List Dev} (h:Jd r l=true) (x:ByteArray):Sr r x∈r.2:=by
 obtain⟨_,_,h3,_⟩:=Bh.1 h;exact A3 (d:=[]) (Ndb _ (by omega))
def Dca {r:Rng} {l:List Dev} (h:Jd r l=true) (x:ByteArray):(Sr r x).Nodup∧((Sr r x).length:Int)=r.1∧∀ id∈Sr r x,∃ d,Lv l id=some d:=(Bh.1 h).2.2.2 _ (Apb h x)
def Rma (r:Rng) (x:ByteArray) (id:Int) (hr:RBd r) (hx:x.size≤1000000000):Tot (λ k=>Iq k r x id) (λ y=>y=M7 (Sr r x) id):=by
 unfold Iq;refine K3b (H8a r x hr hx) ?_
 have hp:(Sr r x).length≤2000000:=by
  unfold Sr
  by_cases hm:Pla x % r.2.length<r.2.length
  ·exact hr.2 _ (A3 (d:=[]) hm)
  ·rw[Vb,Za (by omega)];exact Vq _
 exact Jsb (Tj _ _ (by omega)) (by rintro b rfl;exact Jrb rfl)
def hoA (p zs:List Int) (z:Bool) (l:List Dev):List Int:=(l.filter λ d => !(M7 p d.1)&&(M7 zs d.2.1==z)).map (·.1)
def Ub (r:Rng) (l:List Dev) (x:ByteArray):List Int:=hoA (Sr r x) (Du (Sr r x) l) false l++hoA (Sr r x) (Du (Sr r x) l) true l
def H9a (p zs:List Int) (z:Bool) (l:List Dev):(hoA p zs z l).length≤l.length:=by
 unfold hoA;rw[Wd];exact List.length_filter_le _ _
def Aqb (p zs:List Int) (z:Bool) (d:Dev) (l:List Dev):hoA p zs z (d::l)=bif !(M7 p d.1)&&(M7 zs d.2.1==z) then d.1::hoA p zs z l else hoA p zs z l:=by
 unfold hoA;rw[Zz]
 cases !(M7 p d.1)&&(M7 zs d.2.1==z)<;>rfl
def Dda (p zs:List Int) (l:List Dev) (hp:p.length≤2000000) (hz:zs.length≤2000000) (hl:l.length≤2000000) (out:List Int) (ho:out.length≤5000000) (t:Int):Tot (λ k=>Ci k l p zs out t 0) (λ y=>y=(l,p,zs,out++hoA p zs (t==1) l,t)):=by
 have m1:=H9a p zs (t==1) l;refine K0b (L:=λ k i (s:List Int)=>Ci k l p zs s t i) (Q:=λ y=>y=(l,p,zs,out++hoA p zs (t==1) l,t)) l.length (λ j s=>s++hoA p zs (t==1) (l.drop j)=out++hoA p zs (t==1) l) ?_ ?_ 0 out (Vq _) rfl
 ·rintro s e1;rw[Vz]at e1;simp (disch:=omega) only [Ci,dF];refine Jrb ?_;rw[← e1];show _=(l,p,zs,s++[],t);rw[Wq]
 ·rintro j s hj e1 next;have g1:=congrArg length e1;rw[Ve,Ve]at g1;rw[Aj (d:=P4) hj,Aqb]at e1;obtain⟨d,ed⟩:∃ d:Dev,l.getD j P4=d:=⟨_,rfl⟩;rw[ed]at e1;have e0:l.getD j ((0:Int),((0:Int),(0:Int)))=d:=ed;simp (disch:=omega) only [Ci,dT,Vc,w64,e0];refine K3b (V8 p d.1 (by omega)) ?_
  cases hp':M7 p d.1 with
  |true=>
   rw[hp']at e1;exact Jtb rfl (next s e1)
  |false=>
   rw[hp']at e1;refine Jub rfl (K3b (V8 zs d.2.1 (by omega)) ?_)
   cases hz':M7 zs d.2.1==(t==1) with
   |true=>
    rw[hz']at e1;exact Jub rfl (Jzb (by simp only[Vd,Vk];omega) (next (s++[d.1]) (by rw[← e1];simp)))
   |false=>
    rw[hz']at e1;exact Jtb rfl (next s e1)
def Arb (r:Rng) (l:List Dev) (x:ByteArray) (h:Jd r l=true) (hx:x.size≤1000000000):Tot (λ k=>Cq k r l x) (λ y=>y=Ub r l x):=by
 obtain⟨h1,h2,_,_⟩:=Bh.1 h;obtain⟨_,p2,_⟩:=Dca h x;obtain⟨_,_,_,h12⟩:=Dz.1 h1;have hz:=Vr (Sr r x) l;unfold Cq Ub;refine K3b (Bna r x (N1 h) hx) ?_;generalize Sr r x=p at *;refine K3b (Jya p l (by omega) (by omega)) ?_;generalize Du p l=zs at *;have m1:=H9a p zs false l;refine Jsb (Q:=λ y=>y=hoA p zs false l++hoA p zs true l) ?_ (by rintro y rfl;exact Jrb rfl);refine Tot.succ ?_;simp (disch:=omega) only [Fp,dT];refine K3b (Dda p zs l (by omega) (by omega) (by omega) [] (by simp) 0) ?_;refine Tot.succ ?_;simp (disch:=omega) only [Fp,dT,w64,Wa];refine K3b (Dda p zs l (by omega) (by omega) (by omega) (hoA p zs false l) (by omega) 1) ?_;refine Tot.succ ?_;simp (disch:=omega) only [Fp,dF,w64];exact Jrb rfl

section
variable {R:Type} {L:Nat→Int→Option (Sum Bool R)}
def Ur (p:Nat→Bool) (n:Nat):(List.range (n+1)).all p=((List.range n).all p&&p n):=by
 rw[Mlb,Nab,Kub,List.all_nil,Kfb]
def E6a (p:Nat→Bool) (n:Nat):(List.range (n+1)).any p=((List.range n).any p||p n):=by
 rw[Mlb,Nbb,L5b,Ncb,Kwb]
def E7a {p:Nat→Bool} {m n:Nat} (h:m≤n) (hn:(List.range n).all p=true):(List.range m).all p=true:=by
 rw[Wj]at hn ⊢;exact λ x hx=>hn x (Zc.2 (by have:=Zc.1 hx;omega))
def K1b (n:Nat) (p:Nat→Bool) (e:R) (hend:Tot (λ k=>L (k+1) (n:Int)) (λ r=>r = .inr e))
  (E4a:∀ j,j<n→∀ (Q:Sum Bool R→Prop),(p j=false→Q (.inl false))→(p j=true→Tot (λ k=>L k ((j:Int)+1)) Q)→Tot (λ k=>L (k+1) (j:Int)) Q):
  Tot (λ k=>L k 0) (λ r=>r=bif (List.range n).all p then .inr e else .inl false):=by
 refine K0b (L:=λ k i (_:Unit)=>L k i) (Q:=λ r=>r=bif (List.range n).all p then .inr e else .inl false) n (λ j _=>(List.range j).all p=true) ?_ ?_ 0 () (Vq _) rfl
 ·intro _ h;rw[h];exact hend
 ·intro j _ hj h next;refine E4a j hj _ (λ hp=>?_) (λ hp=>next () (by rw[Ur,h,hp];rfl));cases hc:(List.range n).all p
  ·rfl
  have:=E7a (show j+1≤n by omega) hc;rw[Ur,hp,Yc]at this;cases this
def K2b (n:Nat) (p:Nat→Bool) (e:R) (hend:Tot (λ k=>L (k+1) (n:Int)) (λ r=>r = .inr e))
  (E4a:∀ j,j<n→∀ (Q:Sum Bool R→Prop),(p j=true→Q (.inl true))→(p j=false→Tot (λ k=>L k ((j:Int)+1)) Q)→Tot (λ k=>L (k+1) (j:Int)) Q):
  Tot (λ k=>L k 0) (λ r=>r=bif (List.range n).any p then .inl true else .inr e):=by
 refine K0b (L:=λ k i (_:Unit)=>L k i) (Q:=λ r=>r=bif (List.range n).any p then .inl true else .inr e) n (λ j _=>(List.range j).any p=false) ?_ ?_ 0 () (Vq _) rfl
 ·intro _ h;rw[h];exact hend
 ·intro j _ hj h next;refine E4a j hj _ (λ hp=>?_) (λ hp=>next () (by rw[E6a,h,hp];rfl));rw[K9b.2 ⟨j,Zc.2 hj,hp⟩];rfl
end
def Qf {α:Type} (l:List α) (d:α) (p:α→Bool):l.all p=(List.range l.length).all λ j=>p (l.getD j d):=by
 rw[Lcb,Wj,Wj];constructor
 ·intro h j hj;exact h _ (A3 (Zc.1 hj))
 ·intro h x hx;obtain⟨j,hj,rfl⟩:=Zf.1 hx;have:=h j (Zc.2 hj);rwa [Vb,Vj hj,Yo]at this
def Dea {α:Type} (l:List α) (d:α) (p:α→Bool):l.any p=(List.range l.length).any λ j=>p (l.getD j d):=by
 rw[Lcb,K9b,K9b];constructor
 ·rintro⟨x,hx,h⟩;obtain⟨j,hj,rfl⟩:=Zf.1 hx;exact⟨j,Zc.2 hj,by rwa [Vb,Vj hj,Yo]⟩
 ·rintro⟨j,hj,h⟩;exact⟨_,A3 (Zc.1 hj),h⟩
abbrev Wri:=ByteArray×Fil×Bool
abbrev Wld:=List Dev×Rng×List Nod×Stp×List Wri×List ByteArray
def Haa:Wri:=((⟨#[]⟩:ByteArray),((((0:Int),((0:Int),(0:Int))),(false,[])),false))
def Xo (l:List ByteArray):Bool:=(List.range l.length).all λ j=>Bi (l.getD j Oz)&&(decide (j=0)||tlt (l.getD (j-1) Oz) (l.getD j Oz))
def Mwa (c:Stp) (w:Wri):Bool:=Bi w.1&&(Hf w.2.1&&!(sle c w.2.1.1))
def Asb (c:Stp) (l:List Wri):Bool:=l.all (Mwa c)&&decide ((l.length:Int)≤200)
def Us (l:List Dev) (ns:List Nod):Bool:=((ns.length:Int)==(l.length:Int))&&(List.range ns.length).all λ j=>((ns.getD j Ac).1==(l.getD j P4).1)&&Po (ns.getD j Ac)
def A7a (w:Wld):Bool:=Jd w.2.1 w.1&&(Us w.1 w.2.2.1&&(J3 w.2.2.2.1&&(Asb w.2.2.2.1 w.2.2.2.2.1&&Xo w.2.2.2.2.2)))
def WIn (w:Wld):Prop:=RBd w.2.1∧w.1.length≤2000000∧(w.2.2.1.length≤2000000∧∀ n∈w.2.2.1,NIn n)∧(w.2.2.2.2.1.length≤2000000∧∀ x∈w.2.2.2.2.1,Ni x.1)∧(w.2.2.2.2.2.length≤2000000∧∀ s∈w.2.2.2.2.2,Ni s)
def Atb (w:Wld) (hw:WIn w):Tot (λ k=>E8 k w) (λ r=>r=Asb w.2.2.2.1 w.2.2.2.2.1):=by
 obtain⟨_,_,_,⟨h1,h2⟩,_⟩:=hw;unfold E8 Asb
 refine Jsb (Q:=λ r=>r=bif w.2.2.2.2.1.all (Mwa w.2.2.2.1) then .inr w else .inl false) ?_ (by
  rintro r rfl
  cases w.2.2.2.2.1.all (Mwa w.2.2.2.1)<;>exact Jrb rfl)
 rw[Qf _ Haa];refine K1b (L:=λ k i=>Fg k w.2.2.2.2.1 (w.2.2.2.2.1.length:Int) i w) _ _ w ?_ ?_
 ·simp (disch:=omega) only [Fg,dF];exact Jrb rfl
 ·intro j hj Q no yes;have hs:=h2 _ (A3 (d:=Haa) hj);obtain⟨x,ex⟩:∃ x:Wri,w.2.2.2.2.1.getD j Haa=x:=⟨_,rfl⟩;rw[ex]at hs;simp only[ex]at no yes;have e0:w.2.2.2.2.1.getD j ((⟨#[]⟩:ByteArray),((((0:Int),((0:Int),(0:Int))),(false,[])),false))=x:=ex;simp (disch:=omega) only [Fg,dT,Vc,w64,e0,Gta,Xa,Vp];unfold Mwa at no yes;refine K3b (Sa x.1 hs) ?_;refine Jxb (λ hc=>Jrb (no ?_)) (λ h3=>Jxb (λ hc=>Jrb (no ?_)) (λ h4=>Jxb (λ hc=>Jrb (no ?_)) (λ h5=>yes ?_)))
  ·rw[Vx]at hc;rw[hc];rfl
  ·rw[Vx]at hc;rw[hc,Yt,Yc]
  ·rw[hc,Yw,Yc,Yc]
  ·rw[Wl]at h3 h4;rw[h3,h4,h5];rfl
def K8a (w:Wld) (hw:WIn w):Tot (λ k=>Dc k w.2.2.2.2.2 (w.2.2.2.2.2.length:Int) 0 w) (λ r=>r=bif Xo w.2.2.2.2.2 then .inr () else .inl false):=by
 obtain⟨_,_,_,_,h1,h2⟩:=hw;unfold Xo;refine K1b (L:=λ k i=>Dc k w.2.2.2.2.2 (w.2.2.2.2.2.length:Int) i w) _ _ () ?_ ?_
 ·simp (disch:=omega) only [Dc,dF];exact Jrb rfl
 ·intro j hj Q no yes;have hs:=h2 _ (A3 (d:=Oz) hj);have e0:∀ i,w.2.2.2.2.2.getD i (⟨#[]⟩:ByteArray)=w.2.2.2.2.2.getD i Oz:=λ _=>rfl;simp (disch:=omega) only [Dc,dT,Vc,w64,e0];refine K3b (Sa _ hs) ?_;refine Jxb (λ hc=>Jrb (no ?_)) (λ h3=>Jyb (λ h0=>?_) (λ h0=>yes ?_))
  ·rw[Vx]at hc;rw[hc];rfl
  ·simp (disch:=omega) only [dT,w64,show toNat ((j:Int)-1)=j-1 by omega];rw[Wl]at h3;rw[h3,decide_eq_false (show ¬ j=0 by omega),Zza,Vw]at no yes;refine Jxb (λ hc=>Jrb (no ?_)) (λ h4=>yes ?_)
   ·rw[Vx]at hc;exact hc
   ·rw[Wl]at h4;exact h4
  ·rw[Wl]at h3;rw[h3,decide_eq_true (show j=0 by omega)];rfl
def Mxa (w:Wld) (hw:WIn w) (hl:w.2.2.1.length=w.1.length):Tot (λ k=>Fi k w.2.2.1 (w.2.2.1.length:Int) 0 w) (λ r=>r=bif Us w.1 w.2.2.1 then .inr w else .inl false):=by
 obtain⟨_,_,⟨h1,h2⟩,_⟩:=hw;unfold Us;rw[show ((w.2.2.1.length:Int)==(w.1.length:Int))=true by rw[beq_iff_eq];omega,Vw];refine K1b (L:=λ k i=>Fi k w.2.2.1 (w.2.2.1.length:Int) i w) _ _ w ?_ ?_
 ·simp (disch:=omega) only [Fi,dF];exact Jrb rfl
 ·intro j hj Q no yes;have hs:=h2 _ (A3 (d:=Ac) hj);obtain⟨x,ex⟩:∃ x:Nod,w.2.2.1.getD j Ac=x:=⟨_,rfl⟩;rw[ex]at hs no yes;have e0:w.2.2.1.getD j ((0:Int),(([],[]),([],[])))=x:=ex;have e1:w.1.getD j ((0:Int),((0:Int),(0:Int)))=w.1.getD j P4:=rfl;simp (disch:=omega) only [Fi,dT,Vc,w64,e0,e1];refine Jxb (λ hc=>Jrb (no ?_)) (λ h3=>Jsb (P7a x hs) ?_)
  ·rw[bne,Vx]at hc;rw[hc];rfl
  ·rw[bne,Wl]at h3;rw[h3,Vw]at no yes;rintro b rfl;refine Jxb (λ hc=>Jrb (no ?_)) (λ h4=>yes ?_)
   ·rw[Vx]at hc;exact hc
   ·rw[Wl]at h4;exact h4
def Dfa (w:Wld) (hw:WIn w):Tot (λ k=>Bv k w) (λ r=>r=A7a w):=by
 unfold Bv A7a;refine K3b (A8b w.2.1 w.1 hw.1 (by have:=hw.2.1;omega)) ?_;cases hr:Jd w.2.1 w.1
 ·exact Jub rfl (Jrb rfl)
 refine Jtb rfl ?_;rw[Vw]
 by_cases hl:w.2.2.1.length=w.1.length
 ·refine Jtb (by rw[bne,hl,beq_self_eq_true];rfl) ?_;simp only[Coa,Vp];cases hs:J3 w.2.2.2.1
  ·exact Jub rfl (Jrb (by rw[Yt,Yc]))
  refine Jtb rfl (K3b (Atb w hw) ?_);cases hws:Asb w.2.2.2.1 w.2.2.2.2.1
  ·exact Jub rfl (Jrb (by rw[Yt,Yc,Yc]))
  refine Jtb rfl (K3b (Mxa w hw hl) ?_);cases Us w.1 w.2.2.1
  ·exact Jrb rfl
  refine K3b (K8a w hw) ?_
  cases Xo w.2.2.2.2.2<;>exact Jrb rfl
 ·have hn:((w.2.2.1.length:Int)==(w.1.length:Int))=false:=by rw[beq_eq_false_iff_ne];omega
  refine Jub (by rw[bne,hn];rfl) (Jrb ?_);unfold Us;rw[hn];rfl

def atN:List Nod→Int→Nat→List Int
 |[],_,_=>[]
 |n::ns,id,i=>bif n.1==id then (i:Int)::atN ns id (i+1) else atN ns id (i+1)
def Hba (n:Nod) (ns:List Nod) (id:Int) (i:Nat):atN (n::ns) id i=bif n.1==id then (i:Int)::atN ns id (i+1) else atN ns id (i+1):=rfl
def whr (ns:List Nod) (ids:List Int):List Int:=ids.flatMap λ id=>atN ns id 0
def Hca (id:Int):∀ (ns:List Nod) (i:Nat),(atN ns id i).length≤ns.length
 |[],_=>Vv _
 |n::ns,i=>by
  unfold atN;have:=Hca id ns (i+1);cases n.1==id
  ·rw[cond_false,Vd];omega
  ·rw[cond_true,Vd,Vd];omega
def Wja (ns:List Nod):∀ (ids:List Int),(whr ns ids).length≤ids.length*ns.length
 |[]=>Vq _
 |id::ids=>by
  have h1:=Hca id ns 0;have h2:=Wja ns ids;unfold whr at h2 ⊢;rw[M1b,Ve,Vd,Nat.succ_mul];omega
def Qv {ns:List Nod} {ids:List Int} (h1:ns.length≤2000000) (h2:ids.length≤2000000):(whr ns ids).length≤4000000000000:=
 Zt (Wja ns ids) (Mub h2 h1)
def Hda (ns:List Nod) (id:Int) (ids:List Int):whr ns (id::ids)=atN ns id 0++whr ns ids:=M1b
def F0b (ns:List Nod) (a b:List Int):whr ns (a++b)=whr ns a++whr ns b:=List.flatMap_append
def E8a (w:Wld) (id:Int) (a b c:List Int) (m i0:Int) (out:List Int) (h1:w.2.2.1.length≤2000000) (ho:out.length≤4000000000000):
  Tot (λ k=>Ei k out id a m i0 w.2.2.1 (w.2.2.1.length:Int) 0 w) (λ r=>r=(out++atN w.2.2.1 id 0,a,m,i0,w)):=by
 have m1:=Hca id w.2.2.1 0;refine K0b (L:=λ k i (s:List Int)=>Ei k s id a m i0 w.2.2.1 (w.2.2.1.length:Int) i w) (Q:=λ r=>r=(out++atN w.2.2.1 id 0,a,m,i0,w)) w.2.2.1.length (λ j s=>s++atN (w.2.2.1.drop j) id j=out++atN w.2.2.1 id 0) ?_ ?_ 0 out (Vq _) rfl
 ·intro s h;rw[Vz]at h;simp (disch:=omega) only [Ei,dF];refine Jrb ?_;rw[← h];show _=(s++[],a,m,i0,w);rw[Wq]
 ·intro j s hj h next;have g:=congrArg length h;rw[Ve,Ve]at g;rw[Aj (d:=Ac) hj,Hba]at h;obtain⟨x,ex⟩:∃ x:Nod,w.2.2.1.getD j Ac=x:=⟨_,rfl⟩;rw[ex]at h;have e0:w.2.2.1.getD j ((0:Int),(([],[]),([],[])))=x:=ex;simp (disch:=omega) only [Ei,dT,Vc,w64,e0]
  cases hx:x.1==id with
  |true=>
   rw[hx,cond_true]at h;refine Jub rfl (Jzb (by simp only[Vd,Vk];omega) (next (s++[(j:Int)]) ?_));rw[← h,Vn];rfl
  |false=>
   rw[hx,cond_false]at h;refine Jtb rfl (next s h)
def Dga (w:Wld) (ids:List Int) (h1:w.2.2.1.length≤2000000) (h2:ids.length≤2000000):Tot (λ k=>Dn k w ids) (λ r=>r=whr w.2.2.1 ids):=by
 have m1:=Qv h1 h2;unfold Dn;refine Jsb (Q:=λ r=>r=whr w.2.2.1 ids) ?_ (by rintro r rfl;exact Jrb rfl);refine K0b (L:=λ k i (s:List Int)=>Gn k s ids (ids.length:Int) i w) (Q:=λ r=>r=whr w.2.2.1 ids) ids.length (λ j s=>s++whr w.2.2.1 (ids.drop j)=whr w.2.2.1 ids) ?_ ?_ 0 [] (Vq _) rfl
 ·intro s h;rw[Vz]at h;simp (disch:=omega) only [Gn,dF];refine Jrb ?_;rw[← h];exact(Wq s).symm
 ·intro j s hj h next;have g:=congrArg length h;rw[Ve]at g;rw[Aj (d:=0) hj,Hda]at h;simp (disch:=omega) only [Gn,dT,Vc,w64];refine K3b (E8a w (ids.getD j 0) ids [] [] (ids.length:Int) (j:Int) s h1 (by omega)) ?_;simp (disch:=omega) only [w64];exact next _ (by rw[Vn];exact h)
def Hea (w:Wld) (ids:List Int) (n:Nat) (hn:n<ids.length) (out:List Int) (h1:w.2.2.1.length≤2000000) (ho:out.length≤4000000000000):
  Tot (λ k=>Cg k ids out (n:Int) 0 w) (λ r=>r=(ids,out++atN w.2.2.1 (ids.getD n 0) 0,(n:Int),w)):=by
 have m1:=Hca (ids.getD n 0) w.2.2.1 0;refine K0b (L:=λ k i (s:List Int)=>Cg k ids s (n:Int) i w) (Q:=λ r=>r=(ids,out++atN w.2.2.1 (ids.getD n 0) 0,(n:Int),w)) w.2.2.1.length (λ j s=>s++atN (w.2.2.1.drop j) (ids.getD n 0) j=out++atN w.2.2.1 (ids.getD n 0) 0) ?_ ?_ 0 out (Vq _) rfl
 ·intro s h;rw[Vz]at h;simp (disch:=omega) only [Cg,dF];refine Jrb ?_;rw[← h];show _=(ids,s++[],(n:Int),w);rw[Wq]
 ·intro j s hj h next;have g:=congrArg length h;rw[Ve,Ve]at g;rw[Aj (d:=Ac) hj,Hba]at h;obtain⟨x,ex⟩:∃ x:Nod,w.2.2.1.getD j Ac=x:=⟨_,rfl⟩;rw[ex]at h;have e0:w.2.2.1.getD j ((0:Int),(([],[]),([],[])))=x:=ex;simp (disch:=omega) only [Cg,dT,Vc,w64,e0]
  cases hx:x.1==ids.getD n 0 with
  |true=>
   rw[hx,cond_true]at h;refine Jub rfl (Jzb (by simp only[Vd,Vk];omega) (next (s++[(j:Int)]) ?_));rw[← h,Vn];rfl
  |false=>
   rw[hx,cond_false]at h;refine Jtb rfl (next s h)
def Uc (w:Wld) (ids:List Int) (h1:w.2.2.1.length≤2000000) (h2:ids.length≤2000000):Tot (λ k=>Bp k w ids) (λ r=>r=whr w.2.2.1 ids):=by
 have m1:=Qv h1 h2;unfold Bp;refine Jsb (Q:=λ r=>r=whr w.2.2.1 ids) ?_ (by rintro r rfl;exact Jrb rfl);refine K0b (L:=λ k i (s:List Int)=>Em k ids s i w) (Q:=λ r=>r=whr w.2.2.1 ids) ids.length (λ j s=>s++whr w.2.2.1 (ids.drop j)=whr w.2.2.1 ids) ?_ ?_ 0 [] (Vq _) rfl
 ·intro s h;rw[Vz]at h;simp (disch:=omega) only [Em,dF];refine Jrb ?_;rw[← h];exact(Wq s).symm
 ·intro j s hj h next;have g:=congrArg length h;rw[Ve]at g;rw[Aj (d:=0) hj,Hda]at h;simp (disch:=omega) only [Em,dT,Vc,w64];refine K3b (Hea w ids j hj s h1 (by omega)) ?_;simp (disch:=omega) only [w64];exact next _ (by rw[Vn];exact h)
def Hfa (id:Int):∀ (ns:List Nod) (i:Nat) (x:Int),x∈atN ns id i↔∃ j,j<ns.length∧(ns.getD j Ac).1=id∧x=((i+j:Nat):Int)
 |[],i,x=>by simp[atN]
 |n::ns,i,x=>by
  have ih:=Hfa id ns (i+1) x
  have tl:(∃ j,j<(n::ns).length∧((n::ns).getD j Ac).1=id∧x=((i+j:Nat):Int))↔(n.1=id∧x=(i:Int))∨x∈atN ns id (i+1):=by
   rw[ih];constructor
   ·rintro⟨j,h1,h2,h3⟩
    cases j with
    |zero=>exact .inl ⟨h2,by omega⟩
    |succ j=>exact .inr ⟨j,by simpa using h1,by simpa using h2,by omega⟩
   ·rintro (⟨h1,h2⟩|⟨j,h1,h2,h3⟩)
    ·exact⟨0,by simp,h1,by omega⟩
    ·exact⟨j+1,by simpa using h1,by simpa using h2,by omega⟩
  rw[tl,Hba]
  cases hx:n.1==id with
  |true=>
   rw[cond_true,Vl,eq_of_beq hx];simp
  |false=>
   rw[cond_false];have:=beq_eq_false_iff_ne.1 hx;simp[this]
def A8a {ns:List Nod} {ids:List Int} {x:Int}:x∈whr ns ids↔∃ j,j<ns.length∧(ns.getD j Ac).1∈ids∧x=(j:Int):=by
 unfold whr;rw[List.mem_flatMap];constructor
 ·rintro⟨id,h1,h2⟩;obtain⟨j,h3,h4,h5⟩:=(Hfa _ _ _ _).1 h2;exact⟨j,h3,h4 ▸ h1,by omega⟩
 ·rintro⟨j,h3,h4,h5⟩;exact⟨_,h4,(Hfa _ _ _ _).2 ⟨j,h3,rfl,by omega⟩⟩
def M8 (w:Wld) (x:ByteArray):List Int:=whr w.2.2.1 (Sr w.2.1 x++Ub w.2.1 w.1 x)
def R5:ByteArray:=⟨#[108,105,115,116]⟩
def C6 (w:Wld):List Int:=whr w.2.2.1 (Sr w.2.1 R5)
def Si {r:Rng} (hr:RBd r) (x:ByteArray):(Sr r x).length≤2000000:=by
 unfold Sr
 by_cases hm:Pla x % r.2.length<r.2.length
 ·exact hr.2 _ (A3 (d:=[]) hm)
 ·rw[Vb,Za (by omega)];exact Vq _
def Ana (r:Rng) (l:List Dev) (x:ByteArray):(Ub r l x).length≤l.length+l.length:=by
 unfold Ub;rw[Ve];have h1:=H9a (Sr r x) (Du (Sr r x) l) false l;have h2:=H9a (Sr r x) (Du (Sr r x) l) true l;omega
def K9a (w:Wld) (x:ByteArray) (h:Jd w.2.1 w.1=true) (hn:w.2.2.1.length≤2000000) (hx:x.size≤1000000000):Tot (λ k=>Fq k w x) (λ r=>r=M8 w x):=by
 have h5:=(Bh.1 h).2.1;have p2:=(Dca h x).2.1;have h12:=(Dz.1 (Bh.1 h).1).2.2.2;have hh:=Ana w.2.1 w.1 x;unfold Fq M8;rw[F0b];refine K3b (Bna _ x (N1 h) hx) ?_;refine K3b (Uc w _ hn (by omega)) ?_;refine K3b (Arb _ _ x h hx) ?_;refine K3b (Uc w _ hn (by omega)) ?_;have l1:=Qv hn (show (Sr w.2.1 x).length≤2000000 by omega);have l2:=Qv hn (show (Ub w.2.1 w.1 x).length≤2000000 by omega);exact Jzb (by omega) (Jrb rfl)
def W2 (w:Wld) (hr:RBd w.2.1) (hn:w.2.2.1.length≤2000000):Tot (λ k=>F9 k w) (λ r=>r=C6 w):=by
 unfold F9;refine K3b (H8a _ R5 hr (by decide)) ?_;refine K3b (Dga w _ hn (Si hr _)) ?_;exact Jrb rfl
def Dha (w:Wld) (hr:RBd w.2.1) (hn:w.2.2.1.length≤2000000):Tot (λ k=>Hw k w) (λ r=>r=C6 w):=by
 unfold Hw;refine K3b (Bna _ R5 hr (by decide)) ?_;refine K3b (Uc w _ hn (Si hr _)) ?_;exact Jrb rfl
def quo (n:Int):Int:=n/2+1
def J6b {n:Int} (h0:0≤n):Int.tdiv n 2=n/2:=Kpb h0
def F1b {n:Int} (h0:0≤n) (h1:n≤1000000000):M2 n=some (quo n):=by
 unfold M2 quo;rw[J6b h0,w64 (n:=n/2) (by omega) (by omega),w64 (n:=n/2+1) (by omega) (by omega)]
def rch (l:List Int) (i:Nat):Int:=bif decide (i<l.length)&&inR (l.getD i 0) 1 3 then l.getD i 0 else 0
def Wka (l:List Int) (i:Nat):F8 l (i:Int)=some (rch l i):=by
 unfold F8 rch
 by_cases h:i<l.length
 ·simp (disch:=omega) only [dT,Vc,Sq,Vp];rw[decide_eq_true h,Vw]
  cases inR (l.getD i 0) 1 3<;>rfl
 ·rw[dF (by omega),decide_eq_false h];rfl
def Mya (l:List Int) (i:Nat):Ce l (i:Int)=some (rch l i):=by
 unfold Ce rch
 by_cases h:i<l.length
 ·rw[dF (by omega)];simp (disch:=omega) only [dT,Vc,Q9,Vp];rw[decide_eq_true h,Vw]
  cases inR (l.getD i 0) 1 3<;>rfl
 ·rw[dT (by omega),decide_eq_false h];rfl

def Dia (a b:Fil):Bool:=((a.1.1==b.1.1)&&((a.1.2.1==b.1.2.1)&&(a.1.2.2==b.1.2.2)))&&((a.2.1==b.2.1)&&((Mn a.2.2).toList==(Mn b.2.2).toList))
def Kaa (a b:Fil):Gf a b=some (Dia a b):=by
 unfold Gf Dia
 cases (a.1.1==b.1.1)&&((a.1.2.1==b.1.2.1)&&(a.1.2.2==b.1.2.2))<;>cases a.2.1==b.2.1<;>rfl
def Dja {a b:Fil} (ha:An a.2.2) (hb:An b.2.2):Dia a b=true↔a=b:=by
 unfold Dia;rw[Xk ha hb];obtain⟨⟨a1,a2,a3⟩,a4,a5⟩:=a;obtain⟨⟨b1,b2,b3⟩,b4,b5⟩:=b;simp only[Va,beq_iff_eq,decide_eq_true_iff,Vy]
def Wla (ws:List Wri) (s:ByteArray) (f:Fil):Bool:=ws.any λ x=>teq x.1 s&&Dia x.2.1 f
def Wma (w:Wld) (s:ByteArray) (f:Fil) (h:w.2.2.2.2.1.length≤2000000):Tot (λ k=>D5 k w s f) (λ r=>r=Wla w.2.2.2.2.1 s f):=by
 unfold D5 Wla
 refine Jsb (Q:=λ r=>r=bif w.2.2.2.2.1.any (λ x=>teq x.1 s&&Dia x.2.1 f) then .inl true else .inr ()) ?_ (by
  rintro r rfl
  cases w.2.2.2.2.1.any (λ x=>teq x.1 s&&Dia x.2.1 f)<;>exact Jrb rfl)
 rw[Dea _ Haa];refine K2b (L:=λ k i=>Dg k s w.2.2.2.2.1 (w.2.2.2.2.1.length:Int) i f) _ _ () ?_ ?_
 ·simp (disch:=omega) only [Dg,dF];exact Jrb rfl
 ·intro j hj Q yes no;obtain⟨x,ex⟩:∃ x:Wri,w.2.2.2.2.1.getD j Haa=x:=⟨_,rfl⟩;simp only[ex]at no yes;have e0:w.2.2.2.2.1.getD j ((⟨#[]⟩:ByteArray),((((0:Int),((0:Int),(0:Int))),(false,[])),false))=x:=ex;simp (disch:=omega) only [Dg,dT,Vc,w64,e0,Kaa,Vp];refine Jxb (λ h1=>Jxb (λ h2=>Jrb (yes ?_)) (λ h2=>no ?_)) (λ h1=>no ?_)
  ·show ((x.1.toList==s.toList)&&Dia x.2.1 f)=true;rw[h1,h2];rfl
  ·rw[h2,Yc]
  ·show ((x.1.toList==s.toList)&&Dia x.2.1 f)=false;rw[h1];rfl
def Wna (ws:List Wri) (e:Nmd):Bool:=match O6 e.2 with
 |none=>true
 |some f=>Wla ws e.1 f
def Ud (w:Wld):Bool:=(List.range w.2.2.1.length).all λ j=>(w.2.2.1.getD j Ac).2.1.1.all (Wna w.2.2.2.2.1)&&(w.2.2.1.getD j Ac).2.1.2.all (Wna w.2.2.2.2.1)
def Mza (w:Wld) (hw:WIn w):Tot (λ k=>E7 k w) (λ r=>r=Ud w):=by
 obtain⟨_,_,⟨h1,h2⟩,⟨h3,_⟩,_⟩:=hw;unfold E7 Ud
 refine Jsb (Q:=λ r=>r=bif (List.range w.2.2.1.length).all (λ j=>(w.2.2.1.getD j Ac).2.1.1.all (Wna w.2.2.2.2.1)&&(w.2.2.1.getD j Ac).2.1.2.all (Wna w.2.2.2.2.1)) then .inr () else .inl false) ?_ (by
  rintro r rfl
  cases (List.range w.2.2.1.length).all (λ j=>(w.2.2.1.getD j Ac).2.1.1.all (Wna w.2.2.2.2.1)&&(w.2.2.1.getD j Ac).2.1.2.all (Wna w.2.2.2.2.1))<;>exact Jrb rfl)
 refine K1b (L:=λ k i=>H3 k w.2.2.1 (w.2.2.1.length:Int) i w) _ _ () ?_ ?_
 ·simp (disch:=omega) only [H3,dF];exact Jrb rfl
 ·intro j hj Q no yes;have hm:=h2 _ (A3 (d:=Ac) hj);obtain⟨x,ex⟩:∃ x:Nod,w.2.2.1.getD j Ac=x:=⟨_,rfl⟩;rw[ex]at hm no yes;have e0:w.2.2.1.getD j ((0:Int),(([],[]),([],[])))=x:=ex;obtain⟨⟨⟨⟨f1,f2⟩,_⟩,l1,l2⟩,b1,b2⟩:=hm.1;have n0:([]:List (ByteArray×(List Int))).length=0:=rfl;simp (disch:=omega) only [H3,dT,Vc,w64,e0,Wa];refine Jzb (by rw[n0];omega) (Jzb (by omega) ?_);rw[← Nab]at no yes;have hf:Hoa (x.2.1.1++x.2.1.2):=⟨by rw[Ve];omega,λ y hy=>(Vo.1 hy).elim (f1.2 y) (f2.2 y)⟩;have hb:LB (x.2.1.1++x.2.1.2):=λ y hy=>(Vo.1 hy).elim (b1 y) (b2 y)
  have hl:(x.2.1.1++x.2.1.2).length≤4000000:=by rw[Ve];omega
  generalize x.2.1.1++x.2.1.2=l at *;refine Jsb (Q:=λ r=>r=bif l.all (Wna w.2.2.2.2.1) then .inr (w.2.2.1,(w.2.2.1.length:Int),(j:Int),w) else .inl false) ?_ ?_
  ·rw[Qf _ Dy];refine K1b (L:=λ k i=>Fw k w.2.2.1 (w.2.2.1.length:Int) (j:Int) l (l.length:Int) i w) _ _ (w.2.2.1,(w.2.2.1.length:Int),(j:Int),w) ?_ ?_
   ·simp (disch:=omega) only [Fw,dF];exact Jrb rfl
   ·intro j hj Q no yes;have hm:=A3 (d:=Dy) hj;obtain⟨x,ex⟩:∃ x:Nmd,l.getD j Dy=x:=⟨_,rfl⟩;rw[ex]at hm;simp only[ex]at no yes;have e0:l.getD j ((⟨#[]⟩:ByteArray),[])=x:=ex;simp (disch:=omega) only [Fw,dT,Vc,w64,e0];refine K3b (Pc x.2 (hb x hm) (hf.2 x hm)) ?_;unfold Wna at no yes;unfold Ti
    cases hg:O6 x.2 with
    |none=>rw[hg]at yes;exact Jtb rfl (yes rfl)
    |some f=>
     rw[hg]at yes no;refine Jub rfl (K3b (Wma w x.1 f h3) ?_);exact K4b (λ hc=>Jrb (no hc)) yes
  ·rintro r rfl;cases hc:l.all (Wna w.2.2.2.2.1)
   ·exact Jrb (no hc)
   simp (disch:=omega) only [cond_true,Kgb,w64];exact yes hc

def Aub (a b:Row):Bool:=(a.1==b.1)&&((a.2.1.1==b.2.1.1)&&((a.2.1.2.1==b.2.1.2.1)&&((a.2.1.2.2==b.2.1.2.2)&&((a.2.2.1==b.2.2.1)&&(a.2.2.2==b.2.2.2)))))
def Kba {a b:Row}:Aub a b=true↔a=b:=by
 unfold Aub;obtain⟨a0,⟨a1,a2,a3⟩,a4,a5⟩:=a;obtain⟨b0,⟨b1,b2,b3⟩,b4,b5⟩:=b;simp only[Bga,Va,beq_iff_eq,Vy,Db];constructor
 ·rintro⟨h0,h1,h2,h3,h4,h5⟩;exact⟨h0,⟨h1,h2,h3⟩,h4,h5⟩
 ·rintro⟨h0,⟨h1,h2,h3⟩,h4,h5⟩;exact⟨h0,h1,h2,h3,h4,h5⟩
def Q1 (ws:List Wri) (r:Row):Bool:=ws.any λ x=>Aub (Aza x.1 x.2.1) r
def A9a (w:Wld):Bool:=(List.range w.2.2.1.length).all λ j=>(w.2.2.1.getD j Ac).2.2.1.all (Q1 w.2.2.2.2.1)&&(w.2.2.1.getD j Ac).2.2.2.all (Q1 w.2.2.2.2.1)
def Xva:Row:=((⟨#[]⟩:ByteArray),(((0:Int),((0:Int),(0:Int))),(false,(0:Int))))
def Hga (w:Wld) (ns:List Nod) (n m:Int) (l:List Row) (len i:Int) (r0:Row) (h:w.2.2.2.2.1.length≤2000000):Tot (λ k=>F5 k false ns n m l len i w.2.2.2.2.1 (w.2.2.2.2.1.length:Int) 0 w r0) (λ r=>r=(Q1 w.2.2.2.2.1 r0,ns,n,m,l,len,i,w)):=by
 refine K0b (L:=λ k i' (s:Bool)=>F5 k s ns n m l len i w.2.2.2.2.1 (w.2.2.2.2.1.length:Int) i' w r0) (Q:=λ r=>r=(Q1 w.2.2.2.2.1 r0,ns,n,m,l,len,i,w)) w.2.2.2.2.1.length (λ j s=>(s||(w.2.2.2.2.1.drop j).any λ x=>Aub (Aza x.1 x.2.1) r0)=Q1 w.2.2.2.2.1 r0) ?_ ?_ 0 false (Vq _) (Zza _)
 ·intro s hs;rw[Vz,Ncb,Kwb]at hs;simp (disch:=omega) only [F5,dF];exact Jrb (by rw[hs])
 ·intro j s hj hs next
  cases s with
  |true=>
   rw[Lpb]at hs;simp (disch:=omega) only [F5,dT,w64,cond_true];exact next true (by rw[Lpb];exact hs)
  |false=>
   rw[Aj (d:=Haa) hj,L5b,Zza]at hs;obtain⟨x,ex⟩:∃ x:Wri,w.2.2.2.2.1.getD j Haa=x:=⟨_,rfl⟩;rw[ex]at hs;have e0:w.2.2.2.2.1.getD j ((⟨#[]⟩:ByteArray),((((0:Int),((0:Int),(0:Int))),(false,[])),false))=x:=ex;simp (disch:=omega) only [F5,dT,Vc,w64,e0,cond_false,Ls,Vp];exact next _ hs
def Rna (w:Wld) (hw:WIn w):Tot (λ k=>Eu k w) (λ r=>r=A9a w):=by
 obtain⟨_,_,⟨h1,h2⟩,⟨h3,_⟩,_⟩:=hw;unfold Eu A9a
 refine Jsb (Q:=λ r=>r=bif (List.range w.2.2.1.length).all (λ j=>(w.2.2.1.getD j Ac).2.2.1.all (Q1 w.2.2.2.2.1)&&(w.2.2.1.getD j Ac).2.2.2.all (Q1 w.2.2.2.2.1)) then .inr () else .inl false) ?_ (by
  rintro r rfl
  cases (List.range w.2.2.1.length).all (λ j=>(w.2.2.1.getD j Ac).2.2.1.all (Q1 w.2.2.2.2.1)&&(w.2.2.1.getD j Ac).2.2.2.all (Q1 w.2.2.2.2.1))<;>exact Jrb rfl)
 refine K1b (L:=λ k i=>Ip k w.2.2.1 (w.2.2.1.length:Int) i w) _ _ () ?_ ?_
 ·simp (disch:=omega) only [Ip,dF];exact Jrb rfl
 ·intro j hj Q no yes;have hm:=h2 _ (A3 (d:=Ac) hj);obtain⟨x,ex⟩:∃ x:Nod,w.2.2.1.getD j Ac=x:=⟨_,rfl⟩;rw[ex]at hm no yes;have e0:w.2.2.1.getD j ((0:Int),(([],[]),([],[])))=x:=ex;obtain⟨_,f1,f2⟩:=hm;have g1:=f1.1;have g2:=f2.1
  have ec:Ae x.2.2.1=some x.2.2.1:=by
   unfold Ae;rw[bT (by simp only[Vk];omega),Wa]
  simp (disch:=omega) only [Ip,dT,Vc,w64,e0,ec,Vp];refine Jzb (by omega) ?_;rw[← Nab]at no yes
  have hl:(x.2.2.1++x.2.2.2).length≤4000000:=by rw[Ve];omega
  generalize x.2.2.1++x.2.2.2=l at *;refine Jsb (Q:=λ r=>r=bif l.all (Q1 w.2.2.2.2.1) then .inr (w.2.2.1,(w.2.2.1.length:Int),(j:Int),w) else .inl false) ?_ ?_
  ·rw[Qf _ Xva];refine K1b (L:=λ k i=>Io k w.2.2.1 (w.2.2.1.length:Int) (j:Int) l (l.length:Int) i w) _ _ (w.2.2.1,(w.2.2.1.length:Int),(j:Int),w) ?_ ?_
   ·simp (disch:=omega) only [Io,dF];exact Jrb rfl
   ·intro i hi Q no yes;have e1:l.getD i ((⟨#[]⟩:ByteArray),(((0:Int),((0:Int),(0:Int))),(false,(0:Int))))=l.getD i Xva:=rfl;simp (disch:=omega) only [Io,dT,Vc,e1];refine K3b (Hga w _ _ _ l _ _ (l.getD i Xva) h3) ?_;simp (disch:=omega) only [w64];exact K4b (λ hc=>Jrb (no hc)) yes
  ·rintro r rfl;cases hc:l.all (Q1 w.2.2.2.2.1)
   ·exact Jrb (no hc)
   simp (disch:=omega) only [cond_true,Kgb,w64];exact yes hc
def N0a (s:ByteArray) (st:Stp) (n:Nod):Bool:=match gt n.2.1.2 s with
 |none=>false
 |some b=>match O6 b with
  |none=>false
  |some f => !(sle f.1 st)
def Woa (w:Wld) (x:Wri):Bool := !x.2.2||(B3a w.2.2.2.2.2 x.1||w.2.2.1.any (N0a x.1 x.2.1.1))
def Roa (w:Wld):Bool:=w.2.2.2.2.1.all (Woa w)
def F2b (l:List Nmd) (s:ByteArray):(F5a l s<0∧gt l s=none)∨∃ i:Nat,F5a l s=(i:Int)∧i<l.length∧gt l s=some (l.getD i Dy).2:=by
 unfold F5a gt
 cases h:fnd l s with
 |none=>exact .inl ⟨by decide,rfl⟩
 |some i=>
  obtain⟨hi,_⟩:=Kvb.1 h;exact .inr ⟨i,rfl,hi,rfl⟩
def Wpa (w:Wld) (hw:WIn w) (s:ByteArray) (st:Stp):Tot (λ k=>K5 k w s st) (λ r=>r=w.2.2.1.any (N0a s st)):=by
 obtain⟨_,_,⟨h1,h2⟩,⟨h3,_⟩,_⟩:=hw;unfold K5
 refine Jsb (Q:=λ r=>r=bif w.2.2.1.any (N0a s st) then .inl true else .inr ()) ?_ (by
  rintro r rfl
  cases w.2.2.1.any (N0a s st)<;>exact Jrb rfl)
 rw[Dea _ Ac];refine K2b (L:=λ k i=>Hl k s w.2.2.1 (w.2.2.1.length:Int) i st) _ _ () ?_ ?_
 ·simp (disch:=omega) only [Hl,dF];exact Jrb rfl
 ·intro j hj Q yes no;have hm:=h2 _ (A3 (d:=Ac) hj);obtain⟨x,ex⟩:∃ x:Nod,w.2.2.1.getD j Ac=x:=⟨_,rfl⟩;rw[ex]at hm no yes;have e0:w.2.2.1.getD j ((0:Int),(([],[]),([],[])))=x:=ex;obtain⟨⟨⟨⟨f1,f2⟩,_⟩,l1,l2⟩,b1,b2⟩:=hm.1;simp (disch:=omega) only [Hl,dT,Vc,w64,e0];unfold N0a at yes no;refine K3b (Jea x.2.1.2 s f2.1) ?_;rcases F2b x.2.1.2 s with⟨hn,hg⟩|⟨i,e,hi,hg⟩
  ·rw[hg]at no;exact Jvb hn (no rfl)
  ·rw[e];have hm:=A3 (d:=Dy) hi;obtain⟨y,ey⟩:∃ y:Nmd,x.2.1.2.getD i Dy=y:=⟨_,rfl⟩;rw[ey]at hm hg;rw[hg]at no yes;have e2:x.2.1.2.getD i ((⟨#[]⟩:ByteArray),[])=y:=ey;refine Jwb (by omega) ?_;simp (disch:=omega) only [dT,Vc,e2];refine K3b (Pc y.2 (b2 y hm) (f2.2 y hm)) ?_;unfold Ti
   cases hy:O6 y.2 with
   |none=>simp only[hy]at no;exact Jtb rfl (no trivial)
   |some f=>
    simp only[hy]at no yes;simp only[Xa,Vp];exact Jub rfl (Jxb (λ hc=>Jrb (yes hc)) (λ hc=>no hc))
def Avb (l:List ByteArray) (s:ByteArray) (hl:l.length≤1000000000):Tot (λ k=>Kd k l s) (λ r=>r=B3a l s):=by
 unfold Kd B3a
 refine Jsb (Q:=λ r=>r=bif l.any (λ y=>teq y s) then .inl true else .inr ()) ?_ (by
  rintro r rfl
  cases l.any (λ y=>teq y s)<;>exact Jrb rfl)
 rw[Dea _ Oz];refine K2b (L:=λ k i=>H4 k s l (l.length:Int) i) _ _ () ?_ ?_
 ·simp (disch:=omega) only [H4,dF];exact Jrb rfl
 ·intro j hj Q yes no;have e0:l.getD j (⟨#[]⟩:ByteArray)=l.getD j Oz:=rfl;simp (disch:=omega) only [H4,dT,Vc,w64,e0];exact Jxb (λ hc=>Jrb (yes hc)) (λ hc=>no hc)
def Awb (w:Wld) (hw:WIn w):Tot (λ k=>Lq k w) (λ r=>r=Roa w):=by
 have hw':=hw;obtain⟨_,_,⟨h1,h2⟩,⟨h3,_⟩,h5,_⟩:=hw';unfold Lq Roa
 refine Jsb (Q:=λ r=>r=bif w.2.2.2.2.1.all (Woa w) then .inr () else .inl false) ?_ (by
  rintro r rfl
  cases w.2.2.2.2.1.all (Woa w)<;>exact Jrb rfl)
 rw[Qf _ Haa];refine K1b (L:=λ k i=>J9 k w.2.2.2.2.1 (w.2.2.2.2.1.length:Int) i w) _ _ () ?_ ?_
 ·simp (disch:=omega) only [J9,dF];exact Jrb rfl
 ·intro j hj Q no yes;obtain⟨x,ex⟩:∃ x:Wri,w.2.2.2.2.1.getD j Haa=x:=⟨_,rfl⟩;rw[ex]at no yes;have e0:w.2.2.2.2.1.getD j ((⟨#[]⟩:ByteArray),((((0:Int),((0:Int),(0:Int))),(false,[])),false))=x:=ex;simp (disch:=omega) only [J9,dT,Vc,w64,e0];unfold Woa at no yes;refine Jxb (λ hk=>?_) (λ hk=>yes (by rw[hk];rfl));rw[hk,Yw,Zza]at no yes;refine K3b (Avb _ x.1 (by omega)) ?_;refine Jxb (λ hh=>?_) (λ hh=>yes (by rw[Wl]at hh;rw[hh,Lpb]));rw[Vx]at hh;rw[hh,Zza]at no yes;refine K3b (Wpa w hw x.1 x.2.1.1) ?_;refine Jxb (λ hc=>Jrb (no ?_)) (λ hc=>yes ?_)
  ·rw[Vx]at hc;exact hc
  ·rw[Wl]at hc;exact hc
def Ue (w:Wld):Bool:=(List.range w.2.2.2.2.1.length).all λ j => !(sle w.2.2.2.1 (w.2.2.2.2.1.getD j Haa).2.1.1)&&(decide (j=0)||sle (w.2.2.2.2.1.getD (j-1) Haa).2.1.1 (w.2.2.2.2.1.getD j Haa).2.1.1)
def N1a (w:Wld) (hw:WIn w):Tot (λ k=>G7 k w) (λ r=>r=Ue w):=by
 obtain⟨_,_,_,⟨h3,_⟩,h5,_⟩:=hw;unfold G7 Ue;generalize hP:(λ j => !(sle w.2.2.2.1 (w.2.2.2.2.1.getD j Haa).2.1.1)&&(decide (j=0)||sle (w.2.2.2.2.1.getD (j-1) Haa).2.1.1 (w.2.2.2.2.1.getD j Haa).2.1.1))=P
 refine Jsb (Q:=λ r=>r=bif (List.range w.2.2.2.2.1.length).all P then .inr () else .inl false) ?_ (by
  rintro r rfl
  cases (List.range w.2.2.2.2.1.length).all P<;>exact Jrb rfl)
 refine K1b (L:=λ k i=>Fx k w.2.2.2.2.1 (w.2.2.2.2.1.length:Int) i w) _ _ () ?_ ?_
 ·simp (disch:=omega) only [Fx,dF];exact Jrb rfl
 ·intro j hj Q no yes;subst hP;dsimp only at no yes;have e0:∀ i,w.2.2.2.2.1.getD i ((⟨#[]⟩:ByteArray),((((0:Int),((0:Int),(0:Int))),(false,[])),false))=w.2.2.2.2.1.getD i Haa:=λ _=>rfl;simp (disch:=omega) only [Fx,dT,Int.toNat_natCast,w64,e0,Xa,Option.bind_some];refine Jxb (λ hc=>Jrb (no (by rw[hc];rfl))) (λ hc=>?_);rw[hc,Bool.not_false,Bool.true_and]at no yes;refine Jyb (λ h0=>?_) (λ h0=>yes (by rw[decide_eq_true (show j=0 by omega)];rfl));simp (disch:=omega) only [dT,w64,show toNat ((j:Int)-1)=j-1 by omega];rw[decide_eq_false (show ¬ j=0 by omega),Bool.false_or]at no yes;refine Jxb (λ hc=>Jrb (no ?_)) (λ hc=>yes ?_)
  ·rw[Vx]at hc;exact hc
  ·rw[Wl]at hc;exact hc
def Axb (w:Wld):Int:=bif A7a w then (bif Ud w then (bif A9a w then (bif Roa w then (bif Ue w then 0 else 5) else 4) else 3) else 2) else 1
def Ayb (w:Wld) (hw:WIn w):Tot (λ k=>Nq k w) (λ r=>r=Axb w):=by
 unfold Nq Axb;refine K3b (Dfa w hw) ?_;cases A7a w
 ·exact Jub rfl (Jrb rfl)
 refine Jtb rfl (K3b (Mza w hw) ?_);cases Ud w
 ·exact Jub rfl (Jrb rfl)
 refine Jtb rfl (K3b (Rna w hw) ?_);cases A9a w
 ·exact Jub rfl (Jrb rfl)
 refine Jtb rfl (K3b (Awb w hw) ?_);cases Roa w
 ·exact Jub rfl (Jrb rfl)
 refine Jtb rfl (K3b (N1a w hw) ?_)
 cases Ue w with
 |false=>exact Jub rfl (Jrb rfl)
 |true=>exact Jtb rfl (Jrb rfl)

def run {α:Type} (st:α→Nat→α) (n:Nat) (a:α):α:=(List.range n).foldl st a
def P0 {α:Type} (st:α→Nat→α) (n:Nat) (a:α):run st (n+1) a=st (run st n a) n:=by
 unfold run;rw[Mlb,Kjb];rfl
def Azb {α:Type} {st:α→Nat→α} {a:α} {j n:Nat} (hj:j≤n) (h:∀ i,st (run st j a) i=run st j a):run st n a=run st j a:=by
 obtain⟨m,rfl⟩:=Nat.exists_eq_add_of_le hj
 induction m with
 |zero=>rfl
 |succ m ih=>rw[← Zl,P0,ih (by omega),h]
def Nl {α:Type} {st:α→Nat→α} (P:Nat→α→Prop) {n:Nat} {a:α} (h0:P 0 a) (hs:∀ j b,j<n→P j b→P (j+1) (st b j)):P n (run st n a):=by
 have:∀ m,m≤n→P m (run st m a):=by
  intro m
  induction m with
  |zero=>intro _;exact h0
  |succ m ih=>intro hm;rw[P0];exact hs m _ (by omega) (ih (by omega))
 exact this n (Vv _)
def NS (ns:List Nod):Prop:=ns.length≤2000000∧∀ n∈ns,NG n
def NS.set {ns:List Nod} (h:NS ns) {i:Nat} {n:Nod} (hn:NG n):NS (ns.set i n):=⟨by rw[Wc];exact h.1,λ m hm=>by
 rcases Ys hm with hm|rfl
 ·exact h.2 m hm
 ·exact hn⟩
def NS.get {ns:List Nod} (h:NS ns) {i:Nat} (hi:i<ns.length):NG (ns.getD i Ac):=h.2 _ (A3 hi)
abbrev wN (w:Wld) (ns:List Nod):Wld:=(w.1,w.2.1,ns,w.2.2.2)
def P3 (c:Stp) (t d:Int):Stp:=bif decide (t≤c.1) then (bif J3 (c.1,c.2.1+1,d) then (c.1,c.2.1+1,d) else c) else (bif J3 (t,0,d) then (t,0,d) else c)
def Wqa {c:Stp} (hc:J3 c=true) (t d:Int):Ib c t d=some (P3 c t d):=by
 have h2:0≤c.2.1∧c.2.1≤1000000:=by
  unfold J3 at hc;rw[Va,Va,Dt,Dt]at hc;exact hc.2.1
 unfold Ib P3;rw[w64 (n:=c.2.1+1) (by omega) (by omega)];simp only[Cpa,Vp]
 cases decide (t≤c.1) with
 |true=>cases J3 (c.1,c.2.1+1,d)<;>rfl
 |false=>cases J3 (t,0,d)<;>rfl
def Hha {c:Stp} (hc:J3 c=true) (t d:Int):J3 (P3 c t d)=true∧(P3 c t d=c∨sle c (P3 c t d)=true):=by
 unfold P3
 by_cases h:t≤c.1
 ·rw[decide_eq_true h,cond_true]
  cases hs:J3 (c.1,c.2.1+1,d) with
  |true=>exact⟨hs,.inr (Qz.2 (.inr ⟨rfl,.inl (by show c.2.1<c.2.1+1;omega)⟩))⟩
  |false=>exact⟨hc,.inl rfl⟩
 ·rw[decide_eq_false h,cond_false]
  cases hs:J3 (t,0,d) with
  |true=>exact⟨hs,.inr (Qz.2 (.inl (by show c.1<t;omega)))⟩
  |false=>exact⟨hc,.inl rfl⟩
def wst (R:Int) (rc:List Int) (s:ByteArray) (f:Fil) (cs:List Int) (a:List Nod×Int×Int) (j:Nat):List Nod×Int×Int:=
 bif decide (a.2.1<R) then (bif rch rc j==0 then a else
  (a.1.set (cs.getD j 0).toNat (B0a (a.1.getD (cs.getD j 0).toNat Ac) s f (rch rc j != 3)).1,a.2.1+1,
   bif rch rc j==1&&((B0a (a.1.getD (cs.getD j 0).toNat Ac) s f (rch rc j != 3)).2==0||(B0a (a.1.getD (cs.getD j 0).toNat Ac) s f (rch rc j != 3)).2==1) then a.2.2+1 else a.2.2))
 else a
def wrN (w:Wld) (s:ByteArray) (f:Fil) (rc:List Int):List Nod×Int×Int:=run (wst w.2.1.1 rc s f (M8 w s)) (M8 w s).length (w.2.2.1,0,0)
def Dka (w:Wld) (s:ByteArray) (f:Fil) (rc:List Int):Int×Wld:=
 (bif decide ((wrN w s f rc).2.2≥quo w.2.1.1) then 0 else 1,(w.1,w.2.1,(wrN w s f rc).1,w.2.2.2.1,w.2.2.2.2.1++[(s,f,decide ((wrN w s f rc).2.2≥quo w.2.1.1))],w.2.2.2.2.2))
def W3 {w:Wld} {s:ByteArray} {x:Int} (h:x∈M8 w s):0≤x∧x<(w.2.2.1.length:Int):=by
 obtain⟨j,h1,_,rfl⟩:=A8a.1 h;omega
def Hnb {R:Int} {rc:List Int} {s:ByteArray} {f:Fil} {cs:List Int} {a:List Nod×Int×Int} {j m:Nat} (hs:Bi s=true) (hf:Hf f=true) (h:NS a.1∧a.1.length=m∧(0≤a.2.1∧a.2.1≤j)∧0≤a.2.2∧a.2.2≤j) (hc:(cs.getD j 0).toNat<m):
  let b:=wst R rc s f cs a j
  NS b.1∧b.1.length=m∧(0≤b.2.1∧b.2.1≤((j+1:Nat):Int))∧0≤b.2.2∧b.2.2≤((j+1:Nat):Int):=by
 obtain⟨h1,h2,h3,h4,h5⟩:=h;intro b;have hb:b=wst R rc s f cs a j:=rfl;unfold wst at hb;cases hR:decide (a.2.1<R)
 ·rw[hR,cond_false]at hb;rw[hb];exact⟨h1,h2,⟨h3.1,by omega⟩,h4,by omega⟩
 rw[hR,cond_true]at hb;cases hr:rch rc j==0
 case true=>rw[hr,cond_true]at hb;rw[hb];exact⟨h1,h2,⟨h3.1,by omega⟩,h4,by omega⟩
 rw[hr,cond_false]at hb;rw[hb];refine⟨h1.set (Vua (h1.get (by omega)) hs hf),by rw[List.length_set];exact h2,⟨by dsimp only;omega,by dsimp only;omega⟩,?_⟩;dsimp only;cases rch rc j==1&&((B0a (a.1.getD (cs.getD j 0).toNat Ac) s f (rch rc j != 3)).2==0||(B0a (a.1.getD (cs.getD j 0).toNat Ac) s f (rch rc j != 3)).2==1)
 ·exact⟨h4,by rw[cond_false];omega⟩
 ·exact⟨by rw[cond_true];omega,by rw[cond_true];omega⟩
def Rpa (w:Wld) (s:ByteArray) (f:Fil) (rc:List Int) (hr:Jd w.2.1 w.1=true) (hn:NS w.2.2.1) (hs:Bi s=true) (hf:Hf f=true) (hw:w.2.2.2.2.1.length≤2000000):
  Tot (λ k=>C9 k w s f rc) (λ r=>r=Dka w s f rc):=by
 have hsz:s.size≤1000000000:=by
  have:=Dt.1 (Va _ _ ▸ hs:_∧_).2;omega
 obtain⟨_,hR,_⟩:=Bh.1 hr;unfold C9 Dka;refine K3b (K9a w s hr hn.1 hsz) ?_;have hc:=λ x=>W3 (w:=w) (s:=s) (x:=x)
 have hcl:(M8 w s).length≤4000000000000:=by
  unfold M8;refine Qv hn.1 ?_;have h5:=(Bh.1 hr).2.1;have p2:=(Dca hr s).2.1;have h12:=(Dz.1 (Bh.1 hr).1).2.2.2;have hh:=Ana w.2.1 w.1 s;rw[Ve];omega
 have hrun:wrN w s f rc=run (wst w.2.1.1 rc s f (M8 w s)) (M8 w s).length (w.2.2.1,0,0):=rfl
 have inv:∀ n,n≤(M8 w s).length→NS (run (wst w.2.1.1 rc s f (M8 w s)) n (w.2.2.1,0,0)).1∧(run (wst w.2.1.1 rc s f (M8 w s)) n (w.2.2.1,0,0)).1.length=w.2.2.1.length∧(0≤(run (wst w.2.1.1 rc s f (M8 w s)) n (w.2.2.1,0,0)).2.1∧(run (wst w.2.1.1 rc s f (M8 w s)) n (w.2.2.1,0,0)).2.1≤n)∧0≤(run (wst w.2.1.1 rc s f (M8 w s)) n (w.2.2.1,0,0)).2.2∧(run (wst w.2.1.1 rc s f (M8 w s)) n (w.2.2.1,0,0)).2.2≤n:=by
  intro n hn';refine Nl (λ j (b:List Nod×Int×Int)=>NS b.1∧b.1.length=w.2.2.1.length∧(0≤b.2.1∧b.2.1≤(j:Int))∧0≤b.2.2∧b.2.2≤(j:Int)) ⟨hn,rfl,⟨Keb _,Keb _⟩,Keb _,Keb _⟩ (λ j b hj hb=>Hnb hs hf hb ?_);have:=hc _ (A3 (d:=0) (show j<(M8 w s).length by omega));omega
 generalize hcs:M8 w s=cs at *;refine Jsb (Q:=λ r=>r=(s,(wrN w s f rc).2.2,wN w (wrN w s f rc).1,f)) ?_ ?_
 ·refine K0b (L:=λ k i (a:List Nod×Int×Int)=>Bc k s rc cs a.2.1 a.2.2 i (wN w a.1) f) (Q:=λ r=>r=(s,(wrN w s f rc).2.2,wN w (wrN w s f rc).1,f)) cs.length (λ j a=>a=run (wst w.2.1.1 rc s f cs) j (w.2.2.1,0,0)) ?_ ?_ 0 (w.2.2.1,0,0) (Vq _) rfl
  ·rintro a rfl;simp (disch:=omega) only [Bc,dF];exact Jrb (by rw[hrun])
  ·rintro j a hj rfl next;obtain⟨i1,i2,i3,i4,i5⟩:=inv j (by omega);rw[P0]at next;have hst:=Azb (st:=wst w.2.1.1 rc s f cs) (a:=(w.2.2.1,(0:Int),(0:Int))) (j:=j) (n:=cs.length) (by omega);generalize run (wst w.2.1.1 rc s f cs) j (w.2.2.1,0,0)=a at *;obtain⟨ns,o,g⟩:=a;dsimp only at i1 i2 i3 i4 i5;have hci:=hc _ (A3 (d:=0) hj);obtain⟨i,ei⟩:∃ i:Nat,cs.getD j 0=(i:Int):=⟨(cs.getD j 0).toNat,by omega⟩;rw[ei]at hci;unfold wst at next;rw[ei,Int.toNat_natCast]at next;simp (disch:=omega) only [Bc,dT,wN];refine Jyb (λ hR'=>?_) (λ hR'=>Jrb ?_)
   ·dsimp only at next;rw[decide_eq_true hR']at next;simp only[Mya,Option.bind_some]
    cases h0:rch rc j==0 with
    |true=>
     rw[h0]at next;simp (disch:=omega) only [w64];exact Jub rfl (next _ rfl)
    |false=>
     rw[h0]at next;have e0:ns.getD i ((0:Int),(([],[]),([],[])))=ns.getD i Ac:=rfl;simp (disch:=omega) only [dT,Int.toNat_natCast,w64,ei,e0,cond_false];refine K3b (Vva (ns.getD i Ac) s f (rch rc j != 3) (Aya (i1.get (by omega))) (K6 hs)) ?_;dsimp only at next ⊢;generalize B0a (ns.getD i Ac) s f (rch rc j != 3)=p at *
     cases h1:rch rc j==1 with
     |false=>
      rw[h1]at next;exact Jtb rfl (next _ rfl)
     |true=>
      rw[h1]at next;refine Jub rfl ?_;cases h2:p.2==0
      case true=>rw[h2]at next;exact Jub rfl (next _ rfl)
      rw[h2]at next;refine Jtb rfl ?_
      cases h3:p.2==1 with
      |true=>rw[h3]at next;exact Jub rfl (next _ rfl)
      |false=>rw[h3]at next;exact Jtb rfl (next _ rfl)
   ·rw[hrun,hst (λ i=>by unfold wst;dsimp only;rw[decide_eq_false hR'];rfl)]
 ·rintro r rfl;obtain⟨_,_,_,h4,h5⟩:=inv cs.length (Nat.le_refl _);dsimp only[wN];rw[F1b (by omega) (by omega)]
  have ec:Fo f=some f:=by
   have:=(Lu.1 hf).2.1;unfold Fo;rw[bT (by simp only[Vk];omega),Wa]
  rw[ec];simp only[Vp];refine Jzb (by simp only[Vd,Vk];omega) ?_
  cases decide ((wrN w s f rc).2.2≥quo w.2.1.1) with
  |true=>exact Jrb rfl
  |false=>exact Jrb rfl
def ask (w:Wld) (s:ByteArray) (f:Fil) (t:Int) (rc:List Int):Int×Wld:=
 bif !(Bi s) then (2,w) else bif decide ((f.2.2.length:Int) > 200) then (2,w) else bif !(inR t 0 1000000000) then (2,w) else
 bif (w.2.2.2.2.1.length:Int)==200 then (3,w) else
 bif (P3 w.2.2.2.1 t 0).1==w.2.2.2.1.1&&((P3 w.2.2.2.1 t 0).2.1==w.2.2.2.1.2.1&&(P3 w.2.2.2.1 t 0).2.2==w.2.2.2.1.2.2) then (3,w) else
 Dka (w.1,w.2.1,w.2.2.1,P3 w.2.2.2.1 t 0,w.2.2.2.2) s (P3 w.2.2.2.1 t 0,f.2) rc
def Wra (w:Wld) (s:ByteArray) (f:Fil) (t:Int) (rc:List Int) (hr:Jd w.2.1 w.1=true) (hn:NS w.2.2.1) (hst:J3 w.2.2.2.1=true) (hs:Ni s) (hd:f.2.1=true→f.2.2=[]) (hw:w.2.2.2.2.1.length≤2000000):
  Tot (λ k=>Ix k w s f t rc) (λ r=>r=ask w s f t rc):=by
 unfold Ix ask;refine K3b (Xd s hs) ?_;cases hs':Bi s
 ·exact Jub rfl (Jrb rfl)
 refine Jtb rfl ?_;rw[Yw,cond_false]
 by_cases hl:(f.2.2.length:Int) > 200
 ·rw[decide_eq_true hl];exact Jub rfl (Jrb rfl)
 ·rw[decide_eq_false hl,cond_false];refine Jtb rfl ?_;simp only[Q9,Wqa hst,Vp];cases inR t 0 1000000000
  ·exact Jub rfl (Jrb rfl)
  refine Jtb rfl ?_;rw[Yw,cond_false];cases (w.2.2.2.2.1.length:Int)==200
  case true=>exact Jub rfl (Jrb rfl)
  refine Jtb rfl ?_;rw[cond_false];cases (P3 w.2.2.2.1 t 0).1==w.2.2.2.1.1&&((P3 w.2.2.2.1 t 0).2.1==w.2.2.2.1.2.1&&(P3 w.2.2.2.1 t 0).2.2==w.2.2.2.1.2.2)
  case true=>exact Jub rfl (Jrb rfl)
  refine Jtb rfl (K3b (Rpa (w.1,w.2.1,w.2.2.1,P3 w.2.2.2.1 t 0,w.2.2.2.2) s (P3 w.2.2.2.1 t 0,f.2) rc hr hn hs' (Lu.2 ⟨(Hha hst t 0).1,by show f.2.2.length≤200;omega,hd⟩) hw) ?_);exact Jrb rfl
def pst (src:Int) (s:ByteArray) (f:Fil) (rc ps:List Int) (a:List Nod×Bool×Bool) (j:Nat):List Nod×Bool×Bool:=
 bif ps.getD j 0==src then (a.1,true,a.2.2) else bif rch rc j != 1 then (a.1,a.2.1,false) else
  (a.1.set (ps.getD j 0).toNat ((a.1.getD (ps.getD j 0).toNat Ac).1,(keep (a.1.getD (ps.getD j 0).toNat Ac).2.1 s f true).1,(a.1.getD (ps.getD j 0).toNat Ac).2.2),a.2.1,
   bif (keep (a.1.getD (ps.getD j 0).toNat Ac).2.1 s f true).2 != 0&&(keep (a.1.getD (ps.getD j 0).toNat Ac).2.1 s f true).2 != 1 then false else a.2.2)
def Oh (w:Wld) (s:ByteArray):List Int:=whr w.2.2.1 (Sr w.2.1 s)
def puN (w:Wld) (i:Nat) (s:ByteArray) (rc:List Int):List Nod×Bool×Bool:=run (pst (i:Int) s (lkD (w.2.2.1.getD i Ac).2.1 s).1 rc (Oh w s)) (Oh w s).length (w.2.2.1,false,true)
def Ikb (n:Nod) (s:ByteArray):Nod:=(n.1,(syD (rmD n.2.1 s).1 s).1,n.2.2)
def Sj (w:Wld) (i:Nat) (s:ByteArray) (rc:List Int):Bool×Wld:=bif (lkD (w.2.2.1.getD i Ac).2.1 s).2 != 0 then (false,w) else
 (true,wN w (bif (puN w i s rc).2.2&&!(puN w i s rc).2.1 then (puN w i s rc).1.set i (Ikb ((puN w i s rc).1.getD i Ac) s) else (puN w i s rc).1))
def Cjb {n:Nod} (hn:NG n) {s:ByteArray} (hs:Bi s=true):NG (Ikb n s):=H7a hn (Hbb (A0b hn.g) hs)
def Hia {n:Nod} (hn:NG n) {s:ByteArray} {f:Fil} {sure:Bool}:NG (n.1,(keep n.2.1 s f sure).1,n.2.2):=H7a hn (Cbb hn.g)
def Wsa {src:Int} {s:ByteArray} {f:Fil} {rc ps:List Int} {a:List Nod×Bool×Bool} {j m:Nat} (h:NS a.1∧a.1.length=m) (hc:(ps.getD j 0).toNat<m):NS (pst src s f rc ps a j).1∧(pst src s f rc ps a j).1.length=m:=by
 unfold pst;cases ps.getD j 0==src
 case true=>exact h
 cases rch rc j != 1 with
 |true=>exact h
 |false=>exact⟨h.1.set (Hia (h.1.get (by have:=h.2;omega))),by rw[cond_false,cond_false,Wc];exact h.2⟩
def Sk {w:Wld} {s:ByteArray} {x:Int} (h:x∈Oh w s):0≤x∧x<(w.2.2.1.length:Int):=by
 obtain⟨j,h1,_,rfl⟩:=A8a.1 h;omega
def Kca {w:Wld} {s:ByteArray} (hr:Jd w.2.1 w.1=true) (hn:w.2.2.1.length≤2000000):(Oh w s).length≤4000000000000:=Qv hn (Si (N1 hr) s)
def Ckb {w:Wld} {i:Nat} {s:ByteArray} {rc:List Int} (hn:NS w.2.2.1):NS (puN w i s rc).1∧(puN w i s rc).1.length=w.2.2.1.length:=
 Nl (λ _ (b:List Nod×Bool×Bool)=>NS b.1∧b.1.length=w.2.2.1.length) ⟨hn,rfl⟩ (λ j b hj hb=>Wsa hb (by have:=Sk (A3 (d:=0) hj);omega))
def B0b (w:Wld) (i:Nat) (s:ByteArray) (rc:List Int) (hr:Jd w.2.1 w.1=true) (hn:NS w.2.2.1) (hi:i<w.2.2.1.length):Tot (λ k=>Cw k w (i:Int) s rc) (λ r=>r=Sj w i s rc):=by
 have hni:=hn.get hi;unfold Cw Sj;have e0:w.2.2.1.getD i ((0:Int),(([],[]),([],[])))=w.2.2.1.getD i Ac:=rfl;simp (disch:=omega) only [dT,Vc,e0];have hin:=(Aya hni).1;refine K3b (Bka hin.1.1.1.1 hin.2.1 s) ?_;cases hl:(lkD (w.2.2.1.getD i Ac).2.1 s).2 != 0
 case true=>exact Jub rfl (Jrb rfl)
 refine Jtb rfl ?_;rw[cond_false]
 have hlk:∃ b,gt (w.2.2.1.getD i Ac).2.1.1 s=some b:=by
  rw[bne,Wl,beq_iff_eq]at hl;obtain⟨b,hb,_⟩:=Qe.1 (show lkD (w.2.2.1.getD i Ac).2.1 s=((lkD (w.2.2.1.getD i Ac).2.1 s).1,0) from by rw[← hl]);exact⟨b,hb⟩
 have hs:Bi s=true:=Rba hni.g.1 (by obtain⟨b,hb⟩:=hlk;rw[hb];rfl)
 have hsz:s.size≤1000000000:=by
  have:=Dt.1 (Va _ _ ▸ hs:_∧_).2;omega
 refine K3b (Bna _ s (N1 hr) hsz) ?_;refine K3b (Uc w _ hn.1 (Si (N1 hr) s)) ?_;have hpl:=Kca (s:=s) hr hn.1;have hc:=λ x=>Sk (w:=w) (s:=s) (x:=x);have hrun:puN w i s rc=run (pst (i:Int) s (lkD (w.2.2.1.getD i Ac).2.1 s).1 rc (Oh w s)) (Oh w s).length (w.2.2.1,false,true):=rfl;obtain⟨p1,p2⟩:=Ckb (w:=w) (i:=i) (s:=s) (rc:=rc) hn
 have inv:∀ n,n≤(Oh w s).length→NS (run (pst (i:Int) s (lkD (w.2.2.1.getD i Ac).2.1 s).1 rc (Oh w s)) n (w.2.2.1,false,true)).1∧(run (pst (i:Int) s (lkD (w.2.2.1.getD i Ac).2.1 s).1 rc (Oh w s)) n (w.2.2.1,false,true)).1.length=w.2.2.1.length:=λ n hn'=>
  Nl (λ _ (b:List Nod×Bool×Bool)=>NS b.1∧b.1.length=w.2.2.1.length) ⟨hn,rfl⟩ (λ j b hj hb=>Wsa hb (by have:=hc _ (A3 (d:=0) (show j<(Oh w s).length by omega));omega))
 rw[show whr w.2.2.1 (Sr w.2.1 s)=Oh w s from rfl];generalize (lkD (w.2.2.1.getD i Ac).2.1 s).1=f at *;generalize Oh w s=ps at *;refine Jsb (Q:=λ r=>r=((i:Int),s,(puN w i s rc).2.1,(puN w i s rc).2.2,wN w (puN w i s rc).1)) ?_ ?_
 ·refine K0b (L:=λ k j (a:List Nod×Bool×Bool)=>Bx k (i:Int) s rc ps a.2.1 a.2.2 j (wN w a.1) f) (Q:=λ r=>r=((i:Int),s,(puN w i s rc).2.1,(puN w i s rc).2.2,wN w (puN w i s rc).1)) ps.length (λ j a=>a=run (pst (i:Int) s f rc ps) j (w.2.2.1,false,true)) ?_ ?_ 0 (w.2.2.1,false,true) (Vq _) rfl
  ·rintro a rfl;simp (disch:=omega) only [Bx,dF];exact Jrb (by rw[hrun])
  ·rintro j a hj rfl next;obtain⟨i1,i2⟩:=inv j (by omega);rw[P0]at next;generalize run (pst (i:Int) s f rc ps) j (w.2.2.1,false,true)=a at *;obtain⟨ns,o,g⟩:=a;dsimp only at i1 i2;have hci:=hc _ (A3 (d:=0) hj);obtain⟨m,em⟩:∃ m:Nat,ps.getD j 0=(m:Int):=⟨(ps.getD j 0).toNat,by omega⟩;rw[em]at hci;unfold pst at next;rw[em,Int.toNat_natCast]at next;have e0:ns.getD m ((0:Int),(([],[]),([],[])))=ns.getD m Ac:=rfl;simp (disch:=omega) only [Bx,dT,Int.toNat_natCast,w64,em,wN]
   cases hz:(m:Int)==(i:Int) with
   |true=>
    rw[hz]at next;exact Jub rfl (next _ rfl)
   |false=>
    rw[hz]at next;refine Jtb rfl ?_;simp only[Mya,Vp]
    cases h1:rch rc j != 1 with
    |true=>
     rw[h1]at next;exact Jub rfl (next _ rfl)
    |false=>
     rw[h1]at next;refine Jtb rfl ?_;simp (disch:=omega) only [dT,Int.toNat_natCast,e0];have hm:=Aya (i1.get (i:=m) (by omega));refine K3b (P5a (ns.getD m Ac).2.1 s f true hm.1.1 hm.1.2.1 (K6 hs)) ?_;dsimp only at next;generalize keep (ns.getD m Ac).2.1 s f true=q at *;cases h2:q.2 != 0
     ·rw[h2]at next;exact Jtb rfl (next _ rfl)
     rw[h2]at next;refine Jub rfl ?_
     cases h3:q.2 != 1 with
     |true=>rw[h3]at next;exact Jub rfl (next _ rfl)
     |false=>rw[h3]at next;exact Jtb rfl (next _ rfl)
 ·rintro r rfl;dsimp only[wN];generalize puN w i s rc=a at *;obtain⟨ns,o,g⟩:=a;dsimp only at p1 p2 ⊢;cases g
  ·exact Jtb rfl (Jrb rfl)
  refine Jub rfl ?_;cases o
  case true=>exact Jtb rfl (Jrb rfl)
  refine Jub rfl ?_;have e0:ns.getD i ((0:Int),(([],[]),([],[])))=ns.getD i Ac:=rfl
  have hil:(i:Int)<(ns.length:Int):=by omega
  simp (disch:=omega) only [dT,Vc,e0];have hg:=(p1.get (i:=i) (by omega)).g;refine K3b (D6a hg.1 (K6 hs)) ?_;refine K3b (D5a (A0b hg).1 hs) ?_;exact Jrb rfl

def tk (n:Nod) (l:List Row):Bool×Nod:=bif decide ((Qa n.2.2.1 l).length > 60) then (false,n) else (true,(n.1,n.2.1,Qa n.2.2.1 l,n.2.2.2))
def J7b {n:Nod} {l:List Row} (hn:NG n) (hl:Mi l=true):NG (tk n l).2:=by
 obtain⟨h1,h2,h3,h4,h5⟩:=Cb.1 hn.1;unfold tk
 by_cases h:(Qa n.2.2.1 l).length > 60
 ·rw[decide_eq_true h];exact hn
 ·rw[decide_eq_false h];exact⟨Cb.2 ⟨h1,h2,h3,Mpa h4 hl (by omega),h5⟩,hn.2⟩
def gst (src:Int) (l:List Row) (self:Bool) (rc ls:List Int) (a:List Nod×Bool) (j:Nat):List Nod×Bool:=
 bif ls.getD j 0==src&&!self then a else bif rch rc j != 1 then (a.1,false) else
  (a.1.set (ls.getD j 0).toNat (tk (a.1.getD (ls.getD j 0).toNat Ac) l).2,bif (tk (a.1.getD (ls.getD j 0).toNat Ac) l).1 then a.2 else false)
def N2 (w:Wld) (src:Int) (l:List Row) (self:Bool) (rc:List Int):List Nod×Bool:=run (gst src l self rc (C6 w)) (C6 w).length (w.2.2.1,true)
def Wta {src:Int} {l:List Row} {self:Bool} {rc ls:List Int} {a:List Nod×Bool} {j m:Nat} (hl:Mi l=true) (h:NS a.1∧a.1.length=m) (hc:(ls.getD j 0).toNat<m):NS (gst src l self rc ls a j).1∧(gst src l self rc ls a j).1.length=m:=by
 unfold gst;cases ls.getD j 0==src&&!self
 case true=>exact h
 cases rch rc j != 1 with
 |true=>exact h
 |false=>exact⟨h.1.set (J7b (h.1.get (by have:=h.2;omega)) hl),by rw[cond_false,cond_false,Wc];exact h.2⟩
def Pf {w:Wld} {x:Int} (h:x∈C6 w):0≤x∧x<(w.2.2.1.length:Int):=by
 obtain⟨j,h1,_,rfl⟩:=A8a.1 h;omega
def Sm {w:Wld} (hr:RBd w.2.1) (hn:w.2.2.1.length≤2000000):(C6 w).length≤4000000000000:=Qv hn (Si hr _)
def Xp {w:Wld} {src:Int} {l:List Row} {self:Bool} {rc:List Int} (hl:Mi l=true) (hn:NS w.2.2.1):NS (N2 w src l self rc).1∧(N2 w src l self rc).1.length=w.2.2.1.length:=
 Nl (λ _ (b:List Nod×Bool)=>NS b.1∧b.1.length=w.2.2.1.length) ⟨hn,rfl⟩ (λ j b hj hb=>Wta hl hb (by have:=Pf (A3 (d:=0) hj);omega))
def Pma (w:Wld) (src:Int) (l:List Row) (self:Bool) (rc:List Int) (hr:RBd w.2.1) (hn:NS w.2.2.1) (hl:Mi l=true):
  Tot (λ k=>Bz k w src l self rc) (λ r=>r=((N2 w src l self rc).2,wN w (N2 w src l self rc).1)):=by
 have hll:=(Gwa hl).1;unfold Bz;refine K3b (Dha w hr hn.1) ?_;have hpl:=Sm hr hn.1;have hc:=λ x=>Pf (w:=w) (x:=x);have hrun:N2 w src l self rc=run (gst src l self rc (C6 w)) (C6 w).length (w.2.2.1,true):=rfl
 have inv:∀ n,n≤(C6 w).length→NS (run (gst src l self rc (C6 w)) n (w.2.2.1,true)).1∧(run (gst src l self rc (C6 w)) n (w.2.2.1,true)).1.length=w.2.2.1.length:=λ n hn'=>
  Nl (λ _ (b:List Nod×Bool)=>NS b.1∧b.1.length=w.2.2.1.length) ⟨hn,rfl⟩ (λ j b hj hb=>Wta hl hb (by have:=hc _ (A3 (d:=0) (show j<(C6 w).length by omega));omega))
 generalize C6 w=ls at *;refine Jsb (Q:=λ r=>r=((N2 w src l self rc).2,wN w (N2 w src l self rc).1)) ?_ (by rintro r rfl;exact Jrb rfl);refine K0b (L:=λ k j (a:List Nod×Bool)=>Ao k src l self rc ls a.2 j (wN w a.1)) (Q:=λ r=>r=((N2 w src l self rc).2,wN w (N2 w src l self rc).1)) ls.length (λ j a=>a=run (gst src l self rc ls) j (w.2.2.1,true)) ?_ ?_ 0 (w.2.2.1,true) (Vq _) rfl
 ·rintro a rfl;simp (disch:=omega) only [Ao,dF];exact Jrb (by rw[hrun])
 ·rintro j a hj rfl next;obtain⟨i1,i2⟩:=inv j (by omega);rw[P0]at next;generalize run (gst src l self rc ls) j (w.2.2.1,true)=a at *;obtain⟨ns,g⟩:=a;dsimp only at i1 i2;have hci:=hc _ (A3 (d:=0) hj);obtain⟨m,em⟩:∃ m:Nat,ls.getD j 0=(m:Int):=⟨(ls.getD j 0).toNat,by omega⟩;rw[em]at hci;unfold gst at next;rw[em,Int.toNat_natCast]at next;have e0:ns.getD m ((0:Int),(([],[]),([],[])))=ns.getD m Ac:=rfl;have hm:=Aya (i1.get (i:=m) (by omega));have h12:=Rda (ns.getD m Ac) l hm.2.1.1 hll;rw[show (bif decide ((Qa (ns.getD m Ac).2.2.1 l).length > 60) then (false,(ns.getD m Ac)) else (true,((ns.getD m Ac).1,(ns.getD m Ac).2.1,Qa (ns.getD m Ac).2.2.1 l,(ns.getD m Ac).2.2.2)))=tk (ns.getD m Ac) l from rfl]at h12
  have body:(bif (m:Int)==src&&!self then false else true)=true→Tot (λ k=>(Ce rc (j:Int)).bind λ r2=>cond (r2 != 1) (Ao k src l self rc ls false ((j:Int)+1) (wN w ns)) (cond (decide ((0:Int)≤(m:Int))) (cond (decide ((m:Int)<(length ns:Int))) ((J8 k (ns.getD m Ac) l).bind λ r5=>cond (!r5.1) (Ao k src l self rc ls false ((j:Int)+1) (wN w (ns.set m r5.2))) (Ao k src l self rc ls g ((j:Int)+1) (wN w (ns.set m r5.2)))) none) none)) (λ r=>r=((N2 w src l self rc).2,wN w (N2 w src l self rc).1)):=by
   intro hb
   have hb':((m:Int)==src&&!self)=false:=by
    cases hx:((m:Int)==src&&!self) with
    |false=>rfl
    |true=>rw[hx]at hb;cases hb
   rw[hb']at next;simp only[Mya,Vp]
   cases h1:rch rc j != 1 with
   |true=>
    rw[h1]at next;exact Jub rfl (next _ rfl)
   |false=>
    rw[h1]at next;refine Jtb rfl (Jvb (by omega) (Jvb (by omega) (Jsb h12 ?_)));rintro q rfl;dsimp only at next;generalize tk (ns.getD m Ac) l=q at *
    cases h2:q.1 with
    |false=>rw[h2]at next;exact Jub rfl (next _ rfl)
    |true=>rw[h2]at next;exact Jtb rfl (next _ rfl)
  simp (disch:=omega) only [Ao,dT,Vc,w64,em,e0]
  cases hz:(m:Int)==src with
  |true=>
   rw[hz]at next body;refine Jub rfl ?_;cases self
   ·exact Jub rfl (next _ rfl)
   refine Jtb rfl ?_;have:=body rfl;dsimp only[wN]at this ⊢;simp (disch:=omega) only [dT]at this;exact this
  |false=>
   rw[hz]at next body;refine Jtb rfl ?_;have:=body rfl;dsimp only[wN]at this ⊢;simp (disch:=omega) only [dT]at this;exact this
def Rqa {r:Row} (h:P9 r=true):Mi [r]=true:=O3.2 ⟨Lwb _ _,λ x hx=>by rw[Vu.1 hx];exact h,by simp⟩
def Aaa:Mi []=true:=O3.2 ⟨List.Pairwise.nil,(λ _ hx=>nomatch hx),Vq _⟩
def Aoa (n:Nod):Nod:=(n.1,n.2.1,[],n.2.2.2)
def Fyb (n:Nod) (q:List Row):Nod:=(n.1,n.2.1,n.2.2.1,q)
def Pna {n:Nod} (hn:NG n):NG (Aoa n):=by
 obtain⟨h1,h2,h3,h4,h5⟩:=Cb.1 hn.1;exact⟨Cb.2 ⟨h1,h2,h3,Aaa,h5⟩,hn.2⟩
def Clb {n:Nod} {q:List Row} (hn:NG n) (h:∀ r∈q,P9 r=true) (hl:q.length≤60):NG (Fyb n q):=by
 obtain⟨h1,h2,h3,h4,h5⟩:=Cb.1 hn.1;exact⟨Cb.2 ⟨h,h2,h3,h4,hl⟩,hn.2⟩
def Pg (w:Wld) (i:Nat) (rc:List Int):List Nod×Bool:=N2 w (i:Int) (w.2.2.1.getD i Ac).2.2.1 false rc
def Sn (w:Wld) (i:Nat) (rc:List Int):Bool×Wld:=bif ((w.2.2.1.getD i Ac).2.2.1.length:Int)==0 then (false,w) else
 (true,wN w (bif (Pg w i rc).2&&!(M7 (C6 (wN w (Pg w i rc).1)) (i:Int)) then (Pg w i rc).1.set i (Aoa ((Pg w i rc).1.getD i Ac)) else (Pg w i rc).1))
def Wua (w:Wld) (i:Nat) (rc:List Int) (hr:RBd w.2.1) (hn:NS w.2.2.1) (hi:i<w.2.2.1.length):Tot (λ k=>Id k w (i:Int) rc) (λ r=>r=Sn w i rc):=by
 have hni:=hn.get hi;have e0:w.2.2.1.getD i ((0:Int),(([],[]),([],[])))=w.2.2.1.getD i Ac:=rfl;have hl:=(Cb.1 hni.1).2.2.2.1;unfold Id Sn;simp (disch:=omega) only [dT,Vc,e0];cases hz:((w.2.2.1.getD i Ac).2.2.1.length:Int)==0
 case true=>exact Jub rfl (Jrb rfl)
 refine Jtb rfl (K3b (Pma w (i:Int) _ false rc hr hn hl) ?_);obtain⟨p1,p2⟩:=Xp (w:=w) (src:=(i:Int)) (self:=false) (rc:=rc) hl hn;rw[show N2 w (i:Int) (w.2.2.1.getD i Ac).2.2.1 false rc=Pg w i rc from rfl]at p1 p2 ⊢;generalize Pg w i rc=a at *;obtain⟨ns,g⟩:=a;dsimp only at p1 p2 ⊢;cases g
 ·exact Jtb rfl (Jrb rfl)
 refine Jub rfl ?_;refine Jsb (Q:=λ r=>r=M7 (C6 (wN w ns)) (i:Int)) ?_ ?_
 ·unfold Kj;refine K3b (Dha (wN w ns) hr p1.1) ?_;refine K3b (V8 _ _ (by have:=Sm (w:=wN w ns) hr p1.1;omega)) ?_;exact Jrb rfl
 ·rintro b rfl;cases M7 (C6 (wN w ns)) (i:Int)
  case true=>exact Jtb rfl (Jrb rfl)
  have e1:ns.getD i ((0:Int),(([],[]),([],[])))=ns.getD i Ac:=rfl;refine Jub rfl ?_;simp (disch:=omega) only [dT,Vc,e1];exact Jrb rfl
def Qg (w:Wld) (i:Nat) (rc:List Int):List Nod×Bool:=N2 w (i:Int) ((w.2.2.1.getD i Ac).2.2.2.take 1) true rc
def Ug (w:Wld) (i:Nat) (rc:List Int):Bool×Wld:=bif ((w.2.2.1.getD i Ac).2.2.2.length:Int)==0 then (false,w) else
 (true,wN w (bif (Qg w i rc).2 then (Qg w i rc).1.set i (Fyb ((Qg w i rc).1.getD i Ac) ((w.2.2.1.getD i Ac).2.2.2.drop 1)) else (Qg w i rc).1))
def Ph {q:List Row} (h:∀ r∈q,P9 r=true):Mi (q.take 1)=true:=by
 cases q with
 |nil=>exact Aaa
 |cons r q=>exact Rqa (h r Ya)
def Wva (w:Wld) (i:Nat) (rc:List Int) (hr:RBd w.2.1) (hn:NS w.2.2.1) (hi:i<w.2.2.1.length):Tot (λ k=>Ic k w (i:Int) rc) (λ r=>r=Ug w i rc):=by
 have hni:=hn.get hi;have e0:w.2.2.1.getD i ((0:Int),(([],[]),([],[])))=w.2.2.1.getD i Ac:=rfl;obtain⟨hq,_,_,_,hq60⟩:=Cb.1 hni.1;have hl:=Ph hq;unfold Ic Ug;simp (disch:=omega) only [dT,Vc,e0];cases hz:((w.2.2.1.getD i Ac).2.2.2.length:Int)==0
 case true=>exact Jub rfl (Jrb rfl)
 have h1:=beq_eq_false_iff_ne.1 hz;refine Jtb rfl (Jvb (by omega) (K3b (Pma w (i:Int) _ true rc hr hn hl) ?_));obtain⟨p1,p2⟩:=Xp (w:=w) (src:=(i:Int)) (self:=true) (rc:=rc) hl hn;rw[show N2 w (i:Int) ((w.2.2.1.getD i Ac).2.2.2.take (toNat 1)) true rc=Qg w i rc from rfl];rw[show N2 w (i:Int) ((w.2.2.1.getD i Ac).2.2.2.take 1) true rc=Qg w i rc from rfl]at p1 p2;generalize Qg w i rc=a at *;obtain⟨ns,g⟩:=a;dsimp only at p1 p2 ⊢;cases g
 ·exact Jtb rfl (Jrb rfl)
 refine Jub rfl (Jvb (by omega) (Jzb (by rw[We,Vk];omega) ?_));have e1:ns.getD i ((0:Int),(([],[]),([],[])))=ns.getD i Ac:=rfl;simp (disch:=omega) only [dT,Vc,e1,Wa];exact Jrb rfl
def Wwa:∀ (k:Nat) (l:List ByteArray) (s:ByteArray),k<l.length→∃ j,j≤k∧(Kva l k s).2=j∧(Kva l k s).1.set j s=l.take j++s::((l.take k).drop j++l.drop (k+1))∧(∀ y∈(l.take k).drop j,tlt s y=true)∧(0<j→tlt s (l.getD (j-1) Oz)=false)
 |0,l,s,hk=>by
  refine⟨0,Vv _,rfl,?_,λ y hy=>by simp at hy,λ h=>by omega⟩
  cases l with
  |nil=>simp at hk
  |cons x l=>rfl
 |k+1,l,s,hk=>by
  unfold Kva
  cases hc:tlt s (l.getD k Oz) with
  |false=>
   rw[cond_false];refine⟨k+1,Vv _,rfl,?_,λ y hy=>?_,λ _=>hc⟩
   ·rw[L7b,L4b,Kib,Wa];exact Ktb .. |>.trans (if_pos hk)
   ·rw[L7b,L4b,Kib]at hy;cases hy
  |true=>
   rw[cond_true];obtain⟨j,h1,h2,h3,h4,h5⟩:=Wwa k (l.set (k+1) (l.getD k Oz)) s (by rw[Wc];omega)
   have t1:(l.set (k+1) (l.getD k Oz)).take j=l.take j:=by rw[Mhb (by omega)]
   have t2:(l.set (k+1) (l.getD k Oz)).take k=l.take k:=by rw[Mhb (by omega)]
   have t3:(l.set (k+1) (l.getD k Oz)).drop (k+1)=l.getD k Oz::l.drop (k+2):=by
    rw[Zg (by rw[Wc];exact hk),List.getElem_set_self,List.drop_set_of_lt (by omega)]
   have t4:l.take (k+1)=l.take k++[l.getD k Oz]:=by
    rw[Wi (by omega),Vb,Vj (by omega),Yo]
   have hlk:(l.take k).length=k:=by rw[Vt];omega
   rw[t1,t2,t3]at h3;rw[t2]at h4;refine⟨j,by omega,h2,?_,λ y hy=>?_,λ h=>?_⟩
   ·rw[h3,t4,M9b (by omega),Vn];rfl
   ·rw[t4,M9b (by omega)]at hy;rcases Vo.1 hy with hy|hy
    ·exact h4 y hy
    ·rw[Vu.1 hy];exact hc
   ·have:=h5 h;rwa [Vb,Leb (by omega),← Vb]at this
def Fda {l:List ByteArray} {s:ByteArray}:∃ j,j≤l.length∧Cib l s=l.take j++s::l.drop j∧(∀ y∈l.drop j,tlt s y=true)∧(0<j→tlt s (l.getD (j-1) Oz)=false):=by
 obtain⟨j,h1,h2,h3,h4,h5⟩:=Wwa l.length (l++[s]) s (by simp)
 have t1:(l++[s]).take l.length=l:=by rw[Mbb (Vv _),Yp]
 have t2:(l++[s]).drop (l.length+1)=[]:=Lxb (by simp);have t3:(l++[s]).take j=l.take j:=Mbb h1;rw[t1]at h4;rw[t1,t2,t3,Wq]at h3;refine⟨j,h1,?_,h4,λ h=>?_⟩
 ·unfold Cib;rw[h2,h3]
 ·have:=h5 h;rwa [Vb,Yf (by omega),← Vb]at this
def spl (l:List ByteArray) (s:ByteArray):List ByteArray:=bif B3a l s then l else Cib l s
def Hja {l:List ByteArray} {s y:ByteArray}:y∈spl l s↔y=s∨y∈l:=by
 unfold spl
 cases h:B3a l s with
 |true=>
  have:=Qu.1 h;exact⟨.inr,λ h=>h.elim (λ e=>e ▸ this) id⟩
 |false=>
  obtain⟨j,_,e,_⟩:=Fda (l:=l) (s:=s);rw[cond_false,e,Vo,Vl]
  conv=>rhs;rw[← Wo j l,Vo]
  constructor
  ·rintro (h|h|h)
   ·exact .inr (.inl h)
   ·exact .inl h
   ·exact .inr (.inr h)
  ·rintro (h|h|h)
   ·exact .inr (.inl h)
   ·exact .inl h
   ·exact .inr (.inr h)
def Fea {l:List ByteArray} {s:ByteArray} (h:TS l):TS (spl l s):=by
 unfold spl;cases hh:B3a l s
 case true=>exact h
 have hn:s∉l:=λ c=>by rw[Qu.2 c]at hh;cases hh
 obtain⟨j,h1,e,h4,h5⟩:=Fda (l:=l) (s:=s);rw[cond_false,e]
 have hs:∀ y∈l.take j,tlt y s=true:=by
  intro y hy
  by_cases hj:0<j
  ·have hlast:l.getD (j-1) Oz∈l:=A3 (by omega)
   have hlt:tlt (l.getD (j-1) Oz) s=true:=by
    cases hc:tlt (l.getD (j-1) Oz) s with
    |true=>rfl
    |false=>exact absurd (Cla hc (h5 hj) ▸ hlast) hn
   obtain⟨i,hi,rfl⟩:=Zf.1 hy;rw[Vt]at hi;rw[List.getElem_take]
   by_cases hij:i=j-1
   ·subst hij;rwa [Vb,Vj (by omega),Yo]at hlt
   ·have:=Zj.1 h i (j-1) (by omega) (by omega) (by omega);rw[Vb,Vj (by omega),Yo]at hlt;exact Oe this hlt
  ·rw[show j=0 by omega,Kib]at hy;cases hy
 have hd:TS (l.drop j):=h.sublist (List.drop_sublist _ _);have ht:TS (l.take j):=h.sublist (Mxb _ _)
 exact Zh.2 ⟨ht,Wh.2 ⟨h4,hd⟩,λ a ha b hb=>by
  rcases Vl.1 hb with rfl|hb
  ·exact hs a ha
  ·exact Oe (hs a ha) (h4 b hb)⟩
def Wxa (l:List ByteArray) (s:ByteArray) (hl:l.length≤5000000):Tot (λ k=>Ea k l s) (λ r=>r=spl l s):=by
 unfold Ea spl;refine K3b (Pja l s (by omega)) ?_;cases B3a l s
 case true=>exact Jub rfl (Jrb rfl)
 have loop:∀ (k:Nat) (x:List ByteArray),k<x.length→x.length≤5000001→Tot (λ n=>Fu n s x (k:Int)) (λ r=>r=(s,(Kva x k s).1,((Kva x k s).2:Int))):=by
  intro k
  induction k with
  |zero=>
   intro x hk hx;refine Tot.succ ?_;simp (disch:=omega) only [Fu,dF];exact Jrb rfl
  |succ k ih=>
   intro x hk hx;refine Tot.succ ?_
   have e1:((k+1:Nat):Int)-1=(k:Int):=by omega
   have e0:x.getD k (⟨#[]⟩:ByteArray)=x.getD k Oz:=rfl;simp (disch:=omega) only [Fu,dT,w64,e1,Vc,e0,J7a];unfold Kva;refine Jxb (λ h=>?_) (λ h=>?_)
   ·rw[h,cond_true];exact ih _ (by rw[Wc];omega) (by rw[Wc];omega)
   ·rw[h,cond_false];exact Jrb rfl
 have n0:([]:List ByteArray).length=0:=rfl;have n1:([s]:List ByteArray).length=1:=rfl
 have nl:(l++[s]).length=l.length+1:=by simp
 refine Jtb rfl (Jzb (by rw[n0];omega) ?_);simp only[Wa];refine Jzb (by rw[n1];omega) ?_;rw[nl,w64 (n:=((l.length+1:Nat):Int)-1) (by omega) (by omega),show ((l.length+1:Nat):Int)-1=(l.length:Int) by omega];refine K3b (loop l.length (l++[s]) (by omega) (by omega)) ?_;obtain⟨i1,i2,_⟩:=Dba l.length (l++[s]) s;simp (disch:=omega) only [dT,Vc];exact Jrb rfl

abbrev Evt:=Int×Int×ByteArray×List Int×Int×List Int
def Ilb (e:Evt):Prop:=Ni e.2.2.1∧e.2.2.2.1.length≤1000000000∧(-9223372036854775808≤e.2.2.2.2.1∧e.2.2.2.2.1≤9223372036854775807)∧e.2.2.2.2.2.length≤4000000000000
def Kda (l:List Int):List Bool:=l.map (· == 1)
def crN (n:Nod) (kp:List Bool):Nod:=(n.1,W0 n.2.1 kp,n.2.2)
def Hob {n:Nod} {kp:List Bool} (hn:NG n):NG (crN n kp):=H7a hn (Waa hn.g)
def F3b (w:Wld) (i:Nat) (s:ByteArray) (b:Int):Bool×Wld:=bif (Mqa (w.2.2.1.getD i Ac) s b).2 then (true,(w.1,w.2.1,w.2.2.1.set i (Mqa (w.2.2.1.getD i Ac) s b).1,w.2.2.2.1,w.2.2.2.2.1,spl w.2.2.2.2.2 s)) else (false,w)
def E9a (w:Wld) (e:Evt) (i:Nat):Bool×Wld:=
 bif e.1==3 then Sj w i e.2.2.1 e.2.2.2.2.2 else bif e.1==4 then Sn w i e.2.2.2.2.2 else bif e.1==5 then Ug w i e.2.2.2.2.2 else
 bif e.1==6 then (true,wN w (w.2.2.1.set i (Ezb (w.2.2.1.getD i Ac)).1)) else
 bif e.1==7 then (true,wN w (w.2.2.1.set i (crN (w.2.2.1.getD i Ac) (Kda e.2.2.2.2.2)))) else F3b w i e.2.2.1 e.2.2.2.2.1
def Wya (w:Wld) (e:Evt) (i:Nat) (hei:e.2.1=(i:Int)) (he:Ilb e) (hr:Jd w.2.1 w.1=true) (hn:NS w.2.2.1) (hi:i<w.2.2.1.length) (hsp:w.2.2.2.2.2.length≤2000000):
  Tot (λ k=>B9 k w e) (λ r=>r=E9a w e i):=by
 have hni:=hn.get hi;have e0:w.2.2.1.getD i ((0:Int),(([],[]),([],[])))=w.2.2.1.getD i Ac:=rfl;obtain⟨he1,he2,he3,he4⟩:=he;unfold B9 E9a
 cases e.1==3 with
 |true=>
  rw[hei];refine Jub rfl (K3b (B0b w i _ _ hr hn hi) ?_);exact Jrb rfl
 |false=>
  refine Jtb rfl ?_
  cases e.1==4 with
  |true=>
   rw[hei];refine Jub rfl (K3b (Wua w i _ (N1 hr) hn hi) ?_);exact Jrb rfl
  |false=>
   refine Jtb rfl ?_
   cases e.1==5 with
   |true=>
    rw[hei];refine Jub rfl (K3b (Wva w i _ (N1 hr) hn hi) ?_);exact Jrb rfl
   |false=>
    refine Jtb rfl ?_
    cases e.1==6 with
    |true=>
     refine Jub rfl ?_;simp (disch:=omega) only [hei,dT,Vc,e0];refine K3b (Wfa _ hni.g) ?_;exact Jrb rfl
    |false=>
     refine Jtb rfl ?_
     cases e.1==7 with
     |true=>
      refine Jub rfl (Jsb (Q:=λ r=>r=(Kda e.2.2.2.2.2,w,e)) ?_ ?_)
      ·refine K0b (L:=λ k j (s:List Bool)=>Dq k s j w e) (Q:=λ r=>r=(Kda e.2.2.2.2.2,w,e)) e.2.2.2.2.2.length (λ j s=>s=Kda (e.2.2.2.2.2.take j)) ?_ ?_ 0 [] (Vq _) rfl
       ·rintro s rfl;simp (disch:=omega) only [Dq,dF];exact Jrb (by rw[Yp])
       ·rintro j s hj rfl next;simp (disch:=omega) only [Dq,dT,Vc,w64]
        have hk:(Kda (e.2.2.2.2.2.take j)).length=j:=by unfold Kda;rw[Wd,Vt];omega
        refine Jzb (by rw[hk,M3b];omega) (next _ ?_);unfold Kda;rw[Wi hj,Kmb,Vb,Vj hj];rfl
      ·rintro r rfl;simp (disch:=omega) only [hei,dT,Vc,e0];refine K3b (Wda _ _ hni.g (by unfold Kda;rw[Wd];exact he4)) ?_;exact Jrb rfl
     |false=>
      refine Jtb rfl ?_;simp (disch:=omega) only [hei,dT,Vc,e0];refine K3b (Mra _ _ _ (Aya hni) he3.2 he3.1) ?_;unfold F3b;rw[cond_false,cond_false,cond_false,cond_false,cond_false];generalize Mqa (w.2.2.1.getD i Ac) e.2.2.1 e.2.2.2.2.1=q
      cases h:q.2 with
      |true=>
       refine Jub rfl (K3b (Wxa _ _ (by omega)) ?_);exact Jrb rfl
      |false=>exact Jtb rfl (Jrb rfl)
def Uh (w:Wld) (i wt:Int):Bool×Wld:=bif !(inR i 0 ((w.1.length:Int)-1)) then (false,w) else bif !(inR wt 1 1000) then (false,w) else
 (decide ((B2a w.2.1 (wgt w.1 i.toNat wt)).2≥0),(wgt w.1 i.toNat wt,(B2a w.2.1 (wgt w.1 i.toNat wt)).1,w.2.2))
def Wza (w:Wld) (i wt:Int) (hr:Jd w.2.1 w.1=true):Tot (λ k=>Ik k w i wt) (λ r=>r=Uh w i wt):=by
 have h12:=(Dz.1 (Bh.1 hr).1).2.2.2;unfold Ik Uh;rw[w64 (n:=(w.1.length:Int)-1) (by omega) (by omega)];simp only[Q9,Vp];cases h1:inR i 0 ((w.1.length:Int)-1)
 ·exact Jub rfl (Jrb rfl)
 refine Jtb rfl ?_;cases h2:inR wt 1 1000
 ·exact Jub rfl (Jrb rfl)
 refine Jtb rfl ?_;obtain⟨i0,i1⟩:=Dt.1 h1;obtain⟨w0,w1⟩:=Dt.1 h2;simp (disch:=omega) only [dT];refine K3b (W6a (r:=w.2.1) (l:=wgt w.1 i.toNat wt) (Ua hr (by omega) w0 w1)) ?_;exact Jrb rfl
def Xwa (r:Int×Wld):Bool×Wld:=bif r.1 != 2 then (r.1 != 3,r.2) else (false,r.2)
def doW (w:Wld) (e:Evt):Bool×Wld:=
 bif e.1==1 then Xwa (ask w e.2.2.1 ((0,0,0),false,e.2.2.2.1) e.2.2.2.2.1 e.2.2.2.2.2) else
 bif e.1==2 then Xwa (ask w e.2.2.1 ((0,0,0),true,[]) e.2.2.2.2.1 e.2.2.2.2.2) else
 bif e.1==3||(e.1==4||(e.1==5||(e.1==6||(e.1==7||e.1==8)))) then (bif inR e.2.1 0 ((w.2.2.1.length:Int)-1) then E9a w e e.2.1.toNat else (false,w)) else
 bif e.1==9 then Uh w e.2.1 e.2.2.2.2.1 else (false,w)
def Hpb (w:Wld) (e:Evt) (he:Ilb e) (hr:Jd w.2.1 w.1=true) (hn:NS w.2.2.1) (hst:J3 w.2.2.2.1=true) (hw:w.2.2.2.2.1.length≤2000000) (hsp:w.2.2.2.2.2.length≤2000000):
  Tot (λ k=>K8 k w e) (λ r=>r=doW w e):=by
 have hnl:=hn.1
 have node:∀ {f:Nat→Option (Bool×Wld)} ,Tot (λ k=>(A9 e.2.1 0 (wrap .i64 ((length w.2.2.1:Int)-1))).bind λ r4=>cond r4 ((B9 k w e).bind λ r5=>some (r5.1,r5.2)) (some (false,w))) (λ r=>r=bif inR e.2.1 0 ((w.2.2.1.length:Int)-1) then E9a w e e.2.1.toNat else (false,w)):=by
  intro f;rw[w64 (n:=(w.2.2.1.length:Int)-1) (by omega) (by omega)];simp only[Q9,Vp];cases h1:inR e.2.1 0 ((w.2.2.1.length:Int)-1)
  ·exact Jtb rfl (Jrb rfl)
  obtain⟨i0,i1⟩:=Dt.1 h1;refine Jub rfl (K3b (Wya w e e.2.1.toNat (by omega) he hr hn (by omega) hsp) ?_);exact Jrb rfl
 have answer:∀ (q:Int×Wld),Tot (λ _=>cond (q.1 != 2) (some (q.1 != 3,q.2)) (some (false,q.2))) (λ r=>r=Xwa q):=by
  intro q;unfold Xwa
  cases q.1 != 2<;>exact Jrb rfl
 unfold K8 doW
 cases e.1==1 with
 |true=>
  refine Jub rfl (Jzb (by have:=he.2.1;rw[Vk];omega) (K3b (Wra w e.2.2.1 ((0,0,0),false,e.2.2.2.1) e.2.2.2.2.1 e.2.2.2.2.2 hr hn hst he.1 (λ h=>by cases h) hw) ?_));exact answer _
 |false=>
  refine Jtb rfl ?_
  cases e.1==2 with
  |true=>
   refine Jub rfl (K3b (Wra w e.2.2.1 ((0,0,0),true,[]) e.2.2.2.2.1 e.2.2.2.2.2 hr hn hst he.1 (λ _=>rfl) hw) ?_);exact answer _
  |false=>
   refine Jtb rfl ?_;cases e.1==3
   case true=>exact Jub rfl (node (f:=λ _=>none))
   refine Jtb rfl ?_;cases e.1==4
   case true=>exact Jub rfl (node (f:=λ _=>none))
   refine Jtb rfl ?_;cases e.1==5
   case true=>exact Jub rfl (node (f:=λ _=>none))
   refine Jtb rfl ?_;cases e.1==6
   case true=>exact Jub rfl (node (f:=λ _=>none))
   refine Jtb rfl ?_;cases e.1==7
   case true=>exact Jub rfl (node (f:=λ _=>none))
   refine Jtb rfl ?_;cases e.1==8
   case true=>exact Jub rfl (node (f:=λ _=>none))
   refine Jtb rfl ?_
   cases e.1==9 with
   |true=>
    refine Jub rfl (K3b (Wza w _ _ hr) ?_);exact Jrb rfl
   |false=>exact Jtb rfl (Jrb rfl)

end Go.Proofs.YtiiekghlhfbmmaaGreat.Vf
