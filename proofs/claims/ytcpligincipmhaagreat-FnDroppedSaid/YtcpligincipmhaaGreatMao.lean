import Derived.Test.YtcpligincipmhaaGreatMan
set_option linter.all false
namespace Go.Proofs.YtcpligincipmhaaGreat.Vf
open Go
open List (length getD)
open Int (toNat)
open Go.IntKind (wrap)
open BitVec (ofInt)
def Zv:=@List.mem_range
def Hib:=@List.pairwise_singleton
def Ijb:=@List.drop_append_of_le_length
def Ikb:=@List.take_append_of_le_length

def hI (d:Dsk) (out:List ByteArray) (x:Nmd):List ByteArray:=bif (lkD d x.1).2==0 then wt out x.1 else out
def Eza (l:List ByteArray) (s:ByteArray):Bool:=l.any λ y=>teq y s
def Nda {l:List ByteArray} {s:ByteArray}:Eza l s=true↔s∈l:=by
 unfold Eza;rw[Gtb];constructor
 ·rintro⟨x,hx,e⟩;rw[← Jq.1 e];exact hx
 ·intro h;exact⟨s,h,Jq.2 rfl⟩
def Nea (l:List ByteArray) (s:ByteArray) (hl:l.length≤1000000000):Tot (λ k=>I4 k l s) (λ r=>r=Eza l s):=by
 unfold I4
 refine Gab (Q:=λ r=>r=bif Eza l s then .inl true else .inr ()) ?_ (by rintro r rfl;cases Eza l s<;>exact G9b rfl)
 refine Gib (L:=λ k i (_:Unit)=>Hk k l s i) (Q:=λ r=>r=bif Eza l s then .inl true else .inr ()) l.length (λ j _=>Eza (l.drop j) s=Eza l s) ?_ ?_ 0 () (Vt _) rfl
 ·intro _ h;rw[Wf]at h;simp (disch:=omega) only [Hk,dF,← h];exact G9b rfl
 ·intro j _ hj h next;rw[Au (d:=P3) hj]at h;unfold Eza at h;rw[Iob]at h;simp (disch:=omega) only [Hk,dT,Vg,w64];refine Gfb (λ hc=>G9b ?_) (λ hc=>next () ?_)
  ·rw[show teq (l.getD j P3) s=true from hc,Jib]at h;unfold Eza;rw[← h];rfl
  ·rw[show teq (l.getD j P3) s=false from hc,H5b]at h;exact h
def I9a (l:List ByteArray):Nat→ByteArray→List ByteArray×Nat
 |0,_=>(l,0)
 |k+1,s=>bif tlt s (l.getD k P3) then I9a (l.set (k+1) (l.getD k P3)) k s else (l,k+1)
def Zga (l:List ByteArray) (s:ByteArray):List ByteArray:=(I9a (l++[s]) l.length s).1.set (I9a (l++[s]) l.length s).2 s
def B5a:∀ (k:Nat) (l:List ByteArray) (s:ByteArray),(I9a l k s).1.length=l.length∧(I9a l k s).2≤k∧∀ y∈(I9a l k s).1,y∈l∨y=P3
 |0,_,_=>⟨rfl,Vw _,λ _ h => .inl h⟩
 |k+1,l,s=>by
  unfold I9a;cases tlt s (l.getD k P3)
  ·exact⟨rfl,Vw _,λ _ h => .inl h⟩
  obtain⟨h1,h2,h3⟩:=B5a k (l.set (k+1) (l.getD k P3)) s;rw[cond_true];refine⟨by rw[h1,Vz],by omega,λ y hy=>?_⟩;rcases h3 y hy with h|h
  ·rcases Yg h with h|h
   ·exact .inl h
   ·by_cases hk:k<l.length
    ·rw[h];exact .inl (A4 hk)
    ·rw[h,Vc,Zy (by omega)];exact .inr rfl
  ·exact .inr h
def Xka (l:List ByteArray) (s:ByteArray):(Zga l s).length=l.length+1:=by
 unfold Zga;rw[Vz,(B5a _ _ _).1,Vd];rfl
def Xla {l:List ByteArray} {s y:ByteArray} (h:y∈Zga l s):y∈l∨y=s∨y=P3:=by
 unfold Zga at h;rcases Yg h with h|h
 ·rcases (B5a _ _ _).2.2 y h with h|h
  ·rcases Vo.1 h with h|h
   ·exact .inl h
   ·exact .inr (.inl (Vs.1 h))
  ·exact .inr (.inr h)
 ·exact .inr (.inl h)
def hS1 (l:List Nmd) (j:Nat) (out:List ByteArray) (x:Nmd):List ByteArray:=bif (O3 x.2).isSome&&(!(Eza out x.1)&&(I7a l x.1==(j:Int))) then Zga out x.1 else out
def hS (l:List Nmd):List Nmd→Nat→List ByteArray→List ByteArray
 |[],_,out=>out
 |x::r,j,out=>hS l r (j+1) (hS1 l j out x)
def P3a (d:Dsk):List ByteArray:=hS d.1 d.1 0 []
def Tya (l:List Nmd) (j:Nat) (out:List ByteArray) (x:Nmd):(hS1 l j out x).length≤out.length+1:=by
 unfold hS1
 cases (O3 x.2).isSome&&(!(Eza out x.1)&&(I7a l x.1==(j:Int))) with
 |false=>exact H7b _
 |true=>rw[cond_true,Xka];exact Vw _
def Edb (l:List Nmd) (hl:Ou l):∀ (r:List Nmd) (j:Nat) (out:List ByteArray),(∀ x∈r,x∈l)→(∀ y∈out,Jr y)→(hS l r j out).length≤out.length+r.length∧∀ y∈hS l r j out,Jr y
 |[],_,out,_,h=>⟨by simp[hS],h⟩
 |x::r,j,out,hm,h=>by
  have h2:=Tya l j out x
  obtain⟨a1,a2⟩:=Edb l hl r (j+1) (hS1 l j out x) (λ y hy=>hm y (Vi _ hy)) (λ y hy=>by
   unfold hS1 at hy;cases hc:(O3 x.2).isSome&&(!(Eza out x.1)&&(I7a l x.1==(j:Int)))
   ·rw[hc]at hy;exact h y hy
   rw[hc]at hy;rcases Xla hy with hy|rfl|rfl
   ·exact h y hy
   ·exact hl x (hm x Yu)
   ·unfold Jr;decide)
  refine⟨?_,a2⟩;show (hS l r (j+1) (hS1 l j out x)).length≤_;rw[Vb];omega
def Kba (a b:List Nmd) (j:Nat) (hj:j<a.length) (ha:a.length≤5000000):∀ (k:Nat) (x:List ByteArray),k<x.length→x.length≤5000000→
  Tot (λ n=>Jk n x (j:Int) (k:Int) (a,b)) (λ r=>r=((I9a x k (a.getD j Er).1).1,(j:Int),((I9a x k (a.getD j Er).1).2:Int),(a,b))):=by
 intro k
 induction k with
 |zero=>
  intro x hk hx;refine Tot.succ ?_;simp (disch:=omega) only [Jk,dF];exact G9b rfl
 |succ k ih=>
  intro x hk hx;refine Tot.succ ?_
  have e1:((k+1:Nat):Int)-1=(k:Int):=by omega
  simp (disch:=omega) only [Jk,dT,w64,e1,Vg];have e0:a.getD j ((⟨#[]⟩:ByteArray),([]:List Int))=a.getD j Er:=rfl;rw[e0];unfold I9a;refine Gfb (λ h=>?_) (λ h=>?_)
  ·rw[M7a]at h;rw[show tlt (a.getD j Er).1 (x.getD k P3)=true from h,cond_true];exact ih _ (by rw[Vz];omega) (by rw[Vz];omega)
  ·rw[M7a]at h;rw[show tlt (a.getD j Er).1 (x.getD k P3)=false from h,cond_false];exact G9b rfl
def Xma (d:Dsk) (hd:DIn d) (hb:DB d):Tot (λ k=>Gx k d) (λ r=>r=P3a d):=by
 have hl:=hd.2.1;unfold Gx;refine Gab (Q:=λ r=>r=P3a d) ?_ (by rintro r rfl;exact G9b rfl);refine Gib (L:=λ k i s=>H7 k s i d) (Q:=λ r=>r=P3a d) d.1.length (λ j s=>hS d.1 (d.1.drop j) j s=P3a d∧s.length≤j) ?_ ?_ 0 [] (Vt _) ⟨rfl,Vw _⟩
 ·rintro s ⟨h,_⟩;rw[Wf]at h;simp (disch:=omega) only [H7,dF];exact G9b h
 ·rintro j s hj ⟨h,hs⟩ next;rw[Au (d:=Er) hj]at h;have hlen:=Tya d.1 j s (d.1.getD j Er);have nx:=next _ ⟨show hS d.1 (d.1.drop (j+1)) (j+1) (hS1 d.1 j s (d.1.getD j Er))=P3a d from h,by omega⟩;have hx:=A4 (d:=Er) hj;simp (disch:=omega) only [H7,dT,Vg,w64];have e0:d.1.getD j ((⟨#[]⟩:ByteArray),([]:List Int))=d.1.getD j Er:=rfl;rw[e0];unfold hS1 at nx;refine Glb (T7 _ (hb.1 _ hx) (hd.1.1.1.2 _ hx)) ?_;unfold T5
  cases hf:O3 (d.1.getD j Er).2 with
  |none=>
   rw[hf]at nx;exact Gcb rfl nx
  |some f=>
   rw[hf]at nx;refine Gbb rfl (Glb (Nea s _ (by omega)) ?_)
   cases hc:Eza s (d.1.getD j Er).1 with
   |true=>
    rw[hc]at nx;exact Gcb rfl nx
   |false=>
    rw[hc]at nx;refine Gbb rfl (Glb (Cxa d.1 _ (by omega)) ?_)
    cases he:I7a d.1 (d.1.getD j Er).1==(j:Int) with
    |false=>
     rw[he]at nx;exact Gcb (by unfold bne;rw[he];rfl) nx
    |true=>
     rw[he]at nx;refine Gbb (by unfold bne;rw[he];rfl) (Ghb (by simp only[Vb,Vj];omega) ?_);have hq:=Kba d.1 d.2 j hj (by omega) s.length (s++[(d.1.getD j Er).1]) (by simp) (by simp only[Vd,Vb,Vj];omega);refine Gab hq ?_;rintro r rfl;obtain⟨w1,w2,_⟩:=B5a s.length (s++[(d.1.getD j Er).1]) (d.1.getD j Er).1;rw[Vd]at w1;simp only[Vb,Vj]at w1;simp (disch:=omega) only [dT,Vg,w64];exact nx

def Kca (n:Nod) (s:ByteArray) (f:Fil) (sure:Bool) (hn:NIn n) (hs:Jr s):Tot (λ k=>Jp k n s f sure) (λ r=>r=Z9a n s f sure):=by
 have hq:=hn.2.2.1;unfold Jp Z9a;refine Glb (Wz n hn) ?_;refine Glb (N0a n hn) ?_;cases h1:Mp n
 ·exact Gcb rfl (G9b rfl)
 have h60:=(C2.1 h1).2.2.2.2;refine Gbb rfl (Glb (Nx s hs) ?_);cases Ao s
 ·exact Gcb rfl (G9b rfl)
 refine Gbb rfl (Glb (Gmb (Q:=λ r=>r=Cu f) (Xx f) rfl) ?_);cases Cu f
 ·exact Gcb rfl (G9b rfl)
 refine Gbb rfl ?_;unfold Pg;refine Ggb (λ h=>G9b ?_) (λ h=>?_)
 ·rw[show ((n.2.2.2.length:Int)==60)=true from beq_iff_eq.2 (by omega)];rfl
 ·rw[show ((n.2.2.2.length:Int)==60)=false from beq_eq_false_iff_ne.2 (by omega)];refine Glb (X1a n.2.1 s f sure hn.1.1 hn.1.2.1 hs) ?_;cases (keep n.2.1 s f sure).2==0
  ·exact Gbb rfl (G9b rfl)
  refine Gcb rfl ?_;cases sure
  ·exact Gbb rfl (G9b rfl)
  refine Gcb rfl (Glb (Gmb (Q:=λ r=>r=W2 s f) (show M2 s f=some (W2 s f) from rfl) rfl) ?_);exact Ghb (by simp only[Vb,Vj];omega) (G9b rfl)
def Fzb (n:Nod):Nod×Int:=((n.1,(Oy n.2.1).1,n.2.2),(Oy n.2.1).2)
def Eoa {n:Nod} (hn:NG n) {d:Dsk} (hd:DG d):NG (n.1,d,n.2.2):=by
 obtain⟨h1,h2,h3,h4,h5⟩:=C2.1 hn.1;exact⟨C2.2 ⟨h1,h2,hd.1,h4,h5⟩,hd.2⟩
def Zha {n:Nod} (hn:NG n):NG (Fzb n).1:=Eoa hn (Xia hn.g)

def Kda (v:BitVec 32) (b:Int):BitVec 32:=(v ^^^ ofInt 32 b)*16777619#32
def Bsa (x:ByteArray):Nat→BitVec 32
 |0=>2166136261#32
 |n+1=>Kda (Bsa x n) (bt x (n:Int))
def P4a (x:ByteArray):Nat:=(Bsa x x.size).toNat
def G7b (v:BitVec 32):wrap .u32 ((v.toNat:Int)*16777619)=((v*16777619#32).toNat:Int):=by
 rw[IntKind.wrap_u32,BitVec.toNat_mul];show (v.toNat:Int)*16777619 % 4294967296=((v.toNat*16777619 % 4294967296:Nat):Int);omega
def G8b (v:BitVec 32):wrap .i64 ((ofInt (IntKind.bits .i64) ((v.toNat:Int)*16777619) &&& ofInt (IntKind.bits .i64) 4294967295).toNat)=((v*16777619#32).toNat:Int):=by
 have h:=v.isLt;rw[Hsb,show (v.toNat:Int)*16777619=((v.toNat*16777619:Nat):Int) by omega,Rn _ (by omega),show (ofInt (IntKind.bits .i64) 4294967295).toNat=2 ^ 32-1 from by decide,Igb,BitVec.toNat_mul];show wrap .i64 ((v.toNat*16777619 % 4294967296:Nat):Int)=((v.toNat*16777619 % 4294967296:Nat):Int);exact w64 (by omega) (by omega)
def Xna (x:ByteArray) (hx:x.size≤1000000000):Tot (λ k=>M0 k x) (λ r=>r=(P4a x:Int)):=by
 unfold M0
 refine Gab (Q:=λ r=>r=(P4a x:Int)) ?_ (by
  rintro r rfl;have:=(Bsa x x.size).isLt
  exact G9b (w64 (n:=(P4a x:Int)) (by omega) (by show ((Bsa x x.size).toNat:Int)≤_;omega)))
 refine Gib (L:=λ k i (s:Int)=>Jm k x s i) (Q:=λ r=>r=(P4a x:Int)) x.size (λ j s=>s=((Bsa x j).toNat:Int)) ?_ ?_ 0 _ (Vt _) rfl
 ·rintro s rfl;simp (disch:=omega) only [Jm,dF];exact G9b rfl
 ·rintro j s hj rfl next;have hb:=Ala x (j:Int);have e1:wrap .u32 (bt x (j:Int))=bt x (j:Int):=J8b _ ⟨by omega,by omega⟩;simp (disch:=omega) only [Jm,dT,w64,e1,Ffb (Bsa x j) _ (bt x (j:Int)) rfl,G7b];exact next _ rfl
def Xoa (x:ByteArray) (hx:x.size≤1000000000):Tot (λ k=>Lz k x) (λ r=>r=(P4a x:Int)):=by
 unfold Lz;refine Gab (Q:=λ r=>r=(P4a x:Int)) ?_ (by rintro r rfl;exact G9b rfl);refine Gib (L:=λ k i (s:Int)=>Jd k x s i) (Q:=λ r=>r=(P4a x:Int)) x.size (λ j s=>s=((Bsa x j).toNat:Int)) ?_ ?_ 0 _ (Vt _) rfl
 ·rintro s rfl;simp (disch:=omega) only [Jd,dF];exact G9b rfl
 ·rintro j s hj rfl next;have hb:=Ala x (j:Int)
  have hx:wrap .i64 ((ofInt (IntKind.bits .i64) ((Bsa x j).toNat:Int) ^^^ ofInt (IntKind.bits .i64) (bt x (j:Int))).toNat)=((Bsa x j ^^^ ofInt 32 (bt x (j:Int))).toNat:Int):=by
   have:=Exb (Bsa x j) (ofInt 32 (bt x (j:Int)));rwa [← Mva hb]at this
  simp (disch:=omega) only [Jd,dT,w64,hx,G8b];exact next _ rfl
def Pi (r:Rng) (x:ByteArray):List Int:=r.2.getD (P4a x % r.2.length) []
def Eeb (a b:Nat):Int.tmod (a:Int) (b:Int)=((a % b:Nat):Int):=by
 rw[Gpb (by omega)];exact(Int.natCast_emod _ _).symm
def Nfa (r:Rng) (x:ByteArray) (hr:RBd r) (hx:x.size≤1000000000):Tot (λ k=>Cr k r x) (λ y=>y=Pi r x):=by
 have hrl:=hr.1;unfold Cr
 by_cases h0:r.2.length=0
 ·refine Gcb (by rw[h0];rfl) (G9b ?_);unfold Pi;rw[Wp h0];rfl
 ·have hm:=Jnb (P4a x) (show 0<r.2.length by omega);refine Gbb (by rw[beq_eq_false_iff_ne];omega) (Gab (Q:=λ y=>y=((P4a x % r.2.length:Nat):Int)) ?_ ?_)
  ·unfold L9;refine Geb (by omega) (Glb (Xna x hx) ?_);exact Geb (by omega) (G9b (Eeb _ _))
  ·rintro y rfl;simp (disch:=omega) only [dT,Vg];have hp:=hr.2 _ (A4 (d:=[]) hm);rw[X1 _ (by omega)];exact G9b rfl
def Y3 (r:Rng) (x:ByteArray) (hr:RBd r) (hx:x.size≤1000000000):Tot (λ k=>Bc k r x) (λ y=>y=Pi r x):=by
 have hrl:=hr.1;unfold Bc
 by_cases h0:r.2.length=0
 ·refine Gcb (by rw[h0];rfl) (G9b ?_);unfold Pi;rw[Wp h0];rfl
 ·have hm:=Jnb (P4a x) (show 0<r.2.length by omega);refine Gbb (by rw[beq_eq_false_iff_ne];omega) (Gab (Q:=λ y=>y=((P4a x % r.2.length:Nat):Int)) ?_ ?_)
  ·unfold L7;refine Geb (by omega) (Glb (Xoa x hx) ?_);exact Geb (by omega) (G9b (Eeb _ _))
  ·rintro y rfl;have hp:=hr.2 _ (A4 (d:=[]) hm);simp (disch:=omega) only [dT,Vg];exact Ghb (by simp only[Vj];omega) (G9b rfl)
def Xpa {r:Rng} {l:List Dev} (h:Ha r l=true) (x:ByteArray):Pi r x∈r.2:=by
 obtain⟨_,_,h3,_⟩:=Ay.1 h;exact A4 (d:=[]) (Jnb _ (by omega))
def Oz {r:Rng} {l:List Dev} (h:Ha r l=true) (x:ByteArray):(Pi r x).Nodup∧((Pi r x).length:Int)=r.1∧∀ id∈Pi r x,∃ d,K6 l id=some d:=(Ay.1 h).2.2.2 _ (Xpa h x)
def hoA (p zs:List Int) (z:Bool) (l:List Dev):List Int:=(l.filter λ d => !(Nn p d.1)&&(Nn zs d.2.1==z)).map (·.1)
def Lw (r:Rng) (l:List Dev) (x:ByteArray):List Int:=hoA (Pi r x) (H4 (Pi r x) l) false l++hoA (Pi r x) (H4 (Pi r x) l) true l
def W7 (p zs:List Int) (z:Bool) (l:List Dev):(hoA p zs z l).length≤l.length:=by
 unfold hoA;rw[Wd];exact List.length_filter_le _ _
def Nga (p zs:List Int) (z:Bool) (d:Dev) (l:List Dev):hoA p zs z (d::l)=bif !(Nn p d.1)&&(Nn zs d.2.1==z) then d.1::hoA p zs z l else hoA p zs z l:=by
 unfold hoA;rw[Gob]
 cases !(Nn p d.1)&&(Nn zs d.2.1==z)<;>rfl
def Xqa (r:Rng) (l:List Dev) (x:ByteArray) (h:Ha r l=true) (hx:x.size≤1000000000):Tot (λ k=>Cl k r l x) (λ y=>y=Lw r l x):=by
 obtain⟨h1,h2,_,_⟩:=Ay.1 h;obtain⟨_,p2,_⟩:=Oz h x;obtain⟨_,_,_,h12⟩:=De.1 h1;have hz:=Tb (Pi r x) l;unfold Cl Lw;refine Glb (Nfa r x (Nj h) hx) ?_;generalize Pi r x=p at *;refine Glb (Tfa p l (by omega) (by omega)) ?_;generalize H4 p l=zs at *;have m1:=W7 p zs false l;have m2:=W7 p zs true l;refine Gab (Q:=λ y=>y=(hoA p zs false l,hoA p zs true l)) ?_ (by rintro y rfl;exact Ghb (by dsimp only;omega) (G9b rfl));refine Gib (L:=λ k i (s:List Int×List Int)=>Cw k p zs s.1 s.2 l (l.length:Int) i) (Q:=λ y=>y=(hoA p zs false l,hoA p zs true l)) l.length (λ j s=>s.1++hoA p zs false (l.drop j)=hoA p zs false l∧s.2++hoA p zs true (l.drop j)=hoA p zs true l) ?_ ?_ 0 ([],[]) (Nat.zero_le _) ⟨rfl,rfl⟩
 ·rintro s ⟨e1,e2⟩;rw[Wf]at e1 e2;simp (disch:=omega) only [Cw,dF];refine G9b ?_;rw[← e1,← e2];show _=(s.1++[],s.2++[]);rw[Wn,Wn]
 ·rintro j ⟨s1,s2⟩ hj ⟨e1,e2⟩ next;dsimp only at e1 e2 next ⊢;have g1:=congrArg length e1;have g2:=congrArg length e2;rw[List.length_append]at g1 g2;rw[Au (d:=Ni) hj,Nga]at e1 e2;obtain⟨d,ed⟩:∃ d:Dev,l.getD j Ni=d:=⟨_,rfl⟩;rw[ed]at e1 e2;have e0:l.getD j ((0:Int),((0:Int),(0:Int)))=d:=ed;simp (disch:=omega) only [Cw,dT,Int.toNat_natCast,w64,e0];refine Glb (Ega p d.1 (by omega)) ?_
  cases hp:Nn p d.1 with
  |true=>
   rw[hp]at e1 e2;exact Gcb rfl (next (s1,s2) ⟨e1,e2⟩)
  |false=>
   refine Gbb rfl (Glb (Ega zs d.2.1 (by omega)) ?_)
   cases hz':Nn zs d.2.1 with
   |true=>
    rw[hp,hz']at e1 e2;exact Gcb rfl (Ghb (by simp only[Vb,Vj];omega) (next (s1,s2++[d.1]) ⟨e1,by rw[← e2];simp⟩))
   |false=>
    rw[hp,hz']at e1 e2;exact Gbb rfl (Ghb (by simp only[Vb,Vj];omega) (next (s1++[d.1],s2) ⟨by rw[← e1];simp,e2⟩))
def B6a (p zs:List Int) (l:List Dev) (hp:p.length≤2000000) (hz:zs.length≤2000000) (hl:l.length≤2000000) (out:List Int) (ho:out.length≤5000000) (t:Int):Tot (λ k=>Cb k l p zs out t 0) (λ y=>y=(l,p,zs,out++hoA p zs (t==1) l,t)):=by
 have m1:=W7 p zs (t==1) l;refine Gib (L:=λ k i (s:List Int)=>Cb k l p zs s t i) (Q:=λ y=>y=(l,p,zs,out++hoA p zs (t==1) l,t)) l.length (λ j s=>s++hoA p zs (t==1) (l.drop j)=out++hoA p zs (t==1) l) ?_ ?_ 0 out (Vt _) rfl
 ·rintro s e1;rw[Wf]at e1;simp (disch:=omega) only [Cb,dF];refine G9b ?_;rw[← e1];show _=(l,p,zs,s++[],t);rw[Wn]
 ·rintro j s hj e1 next;have g1:=congrArg length e1;rw[Vd,Vd]at g1;rw[Au (d:=Ni) hj,Nga]at e1;obtain⟨d,ed⟩:∃ d:Dev,l.getD j Ni=d:=⟨_,rfl⟩;rw[ed]at e1;have e0:l.getD j ((0:Int),((0:Int),(0:Int)))=d:=ed;simp (disch:=omega) only [Cb,dT,Vg,w64,e0];refine Glb (T9 p d.1 (by omega)) ?_
  cases hp':Nn p d.1 with
  |true=>
   rw[hp']at e1;exact Gbb rfl (next s e1)
  |false=>
   rw[hp']at e1;refine Gcb rfl (Glb (T9 zs d.2.1 (by omega)) ?_)
   cases hz':Nn zs d.2.1==(t==1) with
   |true=>
    rw[hz']at e1;exact Gcb rfl (Ghb (by simp only[Vb,Vj];omega) (next (s++[d.1]) (by rw[← e1];simp)))
   |false=>
    rw[hz']at e1;exact Gbb rfl (next s e1)
def Xra (r:Rng) (l:List Dev) (x:ByteArray) (h:Ha r l=true) (hx:x.size≤1000000000):Tot (λ k=>Cj k r l x) (λ y=>y=Lw r l x):=by
 obtain⟨h1,h2,_,_⟩:=Ay.1 h;obtain⟨_,p2,_⟩:=Oz h x;obtain⟨_,_,_,h12⟩:=De.1 h1;have hz:=Tb (Pi r x) l;unfold Cj Lw;refine Glb (Y3 r x (Nj h) hx) ?_;generalize Pi r x=p at *;refine Glb (Hfa p l (by omega) (by omega)) ?_;generalize H4 p l=zs at *;have m1:=W7 p zs false l;refine Gab (Q:=λ y=>y=hoA p zs false l++hoA p zs true l) ?_ (by rintro y rfl;exact G9b rfl);refine Tot.succ ?_;simp (disch:=omega) only [Et,dT];refine Glb (B6a p zs l (by omega) (by omega) (by omega) [] (by simp) 0) ?_;refine Tot.succ ?_;simp (disch:=omega) only [Et,dT,w64,Wb];refine Glb (B6a p zs l (by omega) (by omega) (by omega) (hoA p zs false l) (by omega) 1) ?_;refine Tot.succ ?_;simp (disch:=omega) only [Et,dF,w64];exact G9b rfl

section
variable {R:Type} {L:Nat→Int→Option (Sum Bool R)}
def So (p:Nat→Bool) (n:Nat):(List.range (n+1)).all p=((List.range n).all p&&p n):=by
 rw[Ivb,List.all_append,Grb,List.all_nil,I1b]
def Bta (p:Nat→Bool) (n:Nat):(List.range (n+1)).any p=((List.range n).any p||p n):=by
 rw[Ivb,List.any_append,Iob,List.any_nil,Bool.or_false]
def Bua {p:Nat→Bool} {m n:Nat} (h:m≤n) (hn:(List.range n).all p=true):(List.range m).all p=true:=by
 rw[Yp]at hn ⊢;exact λ x hx=>hn x (Zv.2 (by have:=Zv.1 hx;omega))
def Gjb (n:Nat) (p:Nat→Bool) (e:R) (hend:Tot (λ k=>L (k+1) (n:Int)) (λ r=>r = .inr e))
  (Kda:∀ j,j<n→∀ (Q:Sum Bool R→Prop),(p j=false→Q (.inl false))→(p j=true→Tot (λ k=>L k ((j:Int)+1)) Q)→Tot (λ k=>L (k+1) (j:Int)) Q):
  Tot (λ k=>L k 0) (λ r=>r=bif (List.range n).all p then .inr e else .inl false):=by
 refine Gib (L:=λ k i (_:Unit)=>L k i) (Q:=λ r=>r=bif (List.range n).all p then .inr e else .inl false) n (λ j _=>(List.range j).all p=true) ?_ ?_ 0 () (Vt _) rfl
 ·intro _ h;rw[h];exact hend
 ·intro j _ hj h next;refine Kda j hj _ (λ hp=>?_) (λ hp=>next () (by rw[So,h,hp];rfl));cases hc:(List.range n).all p
  ·rfl
  have:=Bua (show j+1≤n by omega) hc;rw[So,hp,Yr]at this;cases this
def Gkb (n:Nat) (p:Nat→Bool) (e:R) (hend:Tot (λ k=>L (k+1) (n:Int)) (λ r=>r = .inr e))
  (Kda:∀ j,j<n→∀ (Q:Sum Bool R→Prop),(p j=true→Q (.inl true))→(p j=false→Tot (λ k=>L k ((j:Int)+1)) Q)→Tot (λ k=>L (k+1) (j:Int)) Q):
  Tot (λ k=>L k 0) (λ r=>r=bif (List.range n).any p then .inl true else .inr e):=by
 refine Gib (L:=λ k i (_:Unit)=>L k i) (Q:=λ r=>r=bif (List.range n).any p then .inl true else .inr e) n (λ j _=>(List.range j).any p=false) ?_ ?_ 0 () (Vt _) rfl
 ·intro _ h;rw[h];exact hend
 ·intro j _ hj h next;refine Kda j hj _ (λ hp=>?_) (λ hp=>next () (by rw[Bta,h,hp];rfl));rw[Gtb.2 ⟨j,Zv.2 hj,hp⟩];rfl
end
def B7a {α:Type} (l:List α) (d:α) (p:α→Bool):l.all p=(List.range l.length).all λ j=>p (l.getD j d):=by
 rw[I6b,Yp,Yp];constructor
 ·intro h j hj;exact h _ (A4 (Zv.1 hj))
 ·intro h x hx;obtain⟨j,hj,rfl⟩:=Zg.1 hx;have:=h j (Zv.2 hj);rwa [Vc,Vk hj,Ye]at this
def Tza {α:Type} (l:List α) (d:α) (p:α→Bool):l.any p=(List.range l.length).any λ j=>p (l.getD j d):=by
 rw[I6b,Gtb,Gtb];constructor
 ·rintro⟨x,hx,h⟩;obtain⟨j,hj,rfl⟩:=Zg.1 hx;exact⟨j,Zv.2 hj,by rwa [Vc,Vk hj,Ye]⟩
 ·rintro⟨j,hj,h⟩;exact⟨_,A4 (Zv.1 hj),h⟩
abbrev Wri:=ByteArray×Fil×Bool
abbrev Wld:=List Dev×Rng×List Nod×Stp×List Wri×List ByteArray
def P5a:Wri:=((⟨#[]⟩:ByteArray),((((0:Int),((0:Int),(0:Int))),(false,[])),false))
def Sp (l:List ByteArray):Bool:=(List.range l.length).all λ j=>Ao (l.getD j P3)&&(decide (j=0)||tlt (l.getD (j-1) P3) (l.getD j P3))
def Epa (c:Stp) (w:Wri):Bool:=Ao w.1&&(Cu w.2.1&&!(sle c w.2.1.1))
def Xsa (c:Stp) (l:List Wri):Bool:=l.all (Epa c)&&decide ((l.length:Int)≤200)
def Rt (l:List Dev) (ns:List Nod):Bool:=((ns.length:Int)==(l.length:Int))&&(List.range ns.length).all λ j=>((ns.getD j C9).1==(l.getD j Ni).1)&&Mp (ns.getD j C9)
def Sg (w:Wld):Bool:=Ha w.2.1 w.1&&(Rt w.1 w.2.2.1&&(Ep w.2.2.2.1&&(Xsa w.2.2.2.1 w.2.2.2.2.1&&Sp w.2.2.2.2.2)))
def WIn (w:Wld):Prop:=RBd w.2.1∧w.1.length≤2000000∧(w.2.2.1.length≤2000000∧∀ n∈w.2.2.1,NIn n)∧(w.2.2.2.2.1.length≤2000000∧∀ x∈w.2.2.2.2.1,Jr x.1)∧(w.2.2.2.2.2.length≤2000000∧∀ s∈w.2.2.2.2.2,Jr s)
def Xta (w:Wld) (hw:WIn w):Tot (λ k=>Dk k w) (λ r=>r=Xsa w.2.2.2.1 w.2.2.2.2.1):=by
 obtain⟨_,_,_,⟨h1,h2⟩,_⟩:=hw;unfold Dk Xsa
 refine Gab (Q:=λ r=>r=bif w.2.2.2.2.1.all (Epa w.2.2.2.1) then .inr w else .inl false) ?_ (by
  rintro r rfl
  cases w.2.2.2.2.1.all (Epa w.2.2.2.1)<;>exact G9b rfl)
 rw[B7a _ P5a];refine Gjb (L:=λ k i=>F4 k w.2.2.2.2.1 (w.2.2.2.2.1.length:Int) i w) _ _ w ?_ ?_
 ·simp (disch:=omega) only [F4,dF];exact G9b rfl
 ·intro j hj Q no yes;have hs:=h2 _ (A4 (d:=P5a) hj);obtain⟨x,ex⟩:∃ x:Wri,w.2.2.2.2.1.getD j P5a=x:=⟨_,rfl⟩;rw[ex]at hs;simp only[ex]at no yes;have e0:w.2.2.2.2.1.getD j ((⟨#[]⟩:ByteArray),((((0:Int),((0:Int),(0:Int))),(false,[])),false))=x:=ex;simp (disch:=omega) only [F4,dT,Vg,w64,e0,Xx,M8a,Vn];unfold Epa at no yes;refine Glb (Nx x.1 hs) ?_;refine Gfb (λ hc=>G9b (no ?_)) (λ h3=>Gfb (λ hc=>G9b (no ?_)) (λ h4=>Gfb (λ hc=>G9b (no ?_)) (λ h5=>yes ?_)))
  ·rw[Vv]at hc;rw[hc];rfl
  ·rw[Vv]at hc;rw[hc,Zs,Yr]
  ·rw[hc,Zb,Yr,Yr]
  ·rw[Wg]at h3 h4;rw[h3,h4,h5];rfl
def Hna (w:Wld) (hw:WIn w):Tot (λ k=>Cv k w.2.2.2.2.2 (w.2.2.2.2.2.length:Int) 0 w) (λ r=>r=bif Sp w.2.2.2.2.2 then .inr () else .inl false):=by
 obtain⟨_,_,_,_,h1,h2⟩:=hw;unfold Sp;refine Gjb (L:=λ k i=>Cv k w.2.2.2.2.2 (w.2.2.2.2.2.length:Int) i w) _ _ () ?_ ?_
 ·simp (disch:=omega) only [Cv,dF];exact G9b rfl
 ·intro j hj Q no yes;have hs:=h2 _ (A4 (d:=P3) hj);have e0:∀ i,w.2.2.2.2.2.getD i (⟨#[]⟩:ByteArray)=w.2.2.2.2.2.getD i P3:=λ _=>rfl;simp (disch:=omega) only [Cv,dT,Vg,w64,e0];refine Glb (Nx _ hs) ?_;refine Gfb (λ hc=>G9b (no ?_)) (λ h3=>Ggb (λ h0=>?_) (λ h0=>yes ?_))
  ·rw[Vv]at hc;rw[hc];rfl
  ·simp (disch:=omega) only [dT,w64,show toNat ((j:Int)-1)=j-1 by omega];rw[Wg]at h3;rw[h3,decide_eq_false (show ¬ j=0 by omega),H5b,Vy]at no yes;refine Gfb (λ hc=>G9b (no ?_)) (λ h4=>yes ?_)
   ·rw[Vv]at hc;exact hc
   ·rw[Wg]at h4;exact h4
  ·rw[Wg]at h3;rw[h3,decide_eq_true (show j=0 by omega)];rfl
def Hoa (w:Wld) (hw:WIn w):Tot (λ k=>Cz k 0 w) (λ r=>r=bif Sp w.2.2.2.2.2 then .inr () else .inl false):=by
 obtain⟨_,_,_,_,h1,h2⟩:=hw;unfold Sp;refine Gjb (L:=λ k i=>Cz k i w) _ _ () ?_ ?_
 ·simp (disch:=omega) only [Cz,dF];exact G9b rfl
 ·intro j hj Q no yes;have hs:=h2 _ (A4 (d:=P3) hj);have e0:∀ i,w.2.2.2.2.2.getD i (⟨#[]⟩:ByteArray)=w.2.2.2.2.2.getD i P3:=λ _=>rfl;simp (disch:=omega) only [Cz,dT,Vg,w64,e0];refine Glb (Pd _ hs) ?_;refine Gfb (λ hc=>G9b (no ?_)) (λ h3=>Ggb (λ h0=>?_) (λ h0=>yes ?_))
  ·rw[Vv]at hc;rw[hc];rfl
  ·simp (disch:=omega) only [dT,w64,show toNat ((j:Int)-1)=j-1 by omega];rw[Wg]at h3;rw[h3,decide_eq_false (show ¬ j=0 by omega),H5b,Vy]at no yes;refine Gfb (λ hc=>G9b (no ?_)) (λ h4=>yes ?_)
   ·rw[Vv]at hc;exact hc
   ·rw[Wg]at h4;exact h4
  ·rw[Wg]at h3;rw[h3,decide_eq_true (show j=0 by omega)];rfl
def Kea (w:Wld) (hw:WIn w) (hl:w.2.2.1.length=w.1.length):Tot (λ k=>F6 k w.2.2.1 (w.2.2.1.length:Int) 0 w) (λ r=>r=bif Rt w.1 w.2.2.1 then .inr w else .inl false):=by
 obtain⟨_,_,⟨h1,h2⟩,_⟩:=hw;unfold Rt;rw[show ((w.2.2.1.length:Int)==(w.1.length:Int))=true by rw[beq_iff_eq];omega,Vy];refine Gjb (L:=λ k i=>F6 k w.2.2.1 (w.2.2.1.length:Int) i w) _ _ w ?_ ?_
 ·simp (disch:=omega) only [F6,dF];exact G9b rfl
 ·intro j hj Q no yes;have hs:=h2 _ (A4 (d:=C9) hj);obtain⟨x,ex⟩:∃ x:Nod,w.2.2.1.getD j C9=x:=⟨_,rfl⟩;rw[ex]at hs no yes;have e0:w.2.2.1.getD j ((0:Int),(([],[]),([],[])))=x:=ex;have e1:w.1.getD j ((0:Int),((0:Int),(0:Int)))=w.1.getD j Ni:=rfl;simp (disch:=omega) only [F6,dT,Vg,w64,e0,e1];refine Gfb (λ hc=>G9b (no ?_)) (λ h3=>Gab (N0a x hs) ?_)
  ·rw[bne,Vv]at hc;rw[hc];rfl
  ·rw[bne,Wg]at h3;rw[h3,Vy]at no yes;rintro b rfl;refine Gfb (λ hc=>G9b (no ?_)) (λ h4=>yes ?_)
   ·rw[Vv]at hc;exact hc
   ·rw[Wg]at h4;exact h4
def Xua (w:Wld) (hw:WIn w):Tot (λ k=>Dn k w) (λ r=>r=Rt w.1 w.2.2.1):=by
 obtain⟨_,_,⟨h1,h2⟩,_⟩:=hw;unfold Rt Dn;refine Gfb (λ hc=>G9b ?_) (λ hl=>?_)
 ·rw[bne,Vv]at hc;rw[hc];rfl
 ·rw[bne,Wg]at hl;rw[hl,Vy];rw[beq_iff_eq]at hl
  refine Gab (Q:=λ r=>r=bif (List.range w.2.2.1.length).all (λ j=>((w.2.2.1.getD j C9).1==(w.1.getD j Ni).1)&&Mp (w.2.2.1.getD j C9)) then .inr () else .inl false) ?_ (by
   rintro r rfl
   cases (List.range w.2.2.1.length).all (λ j=>((w.2.2.1.getD j C9).1==(w.1.getD j Ni).1)&&Mp (w.2.2.1.getD j C9))<;>exact G9b rfl)
  refine Gjb (L:=λ k i=>F8 k i w) _ _ () ?_ ?_
  ·simp (disch:=omega) only [F8,dF];exact G9b rfl
  ·intro j hj Q no yes;have hs:=h2 _ (A4 (d:=C9) hj);obtain⟨x,ex⟩:∃ x:Nod,w.2.2.1.getD j C9=x:=⟨_,rfl⟩;rw[ex]at hs no yes;have e0:w.2.2.1.getD j ((0:Int),(([],[]),([],[])))=x:=ex;have e1:w.1.getD j ((0:Int),((0:Int),(0:Int)))=w.1.getD j Ni:=rfl;simp (disch:=omega) only [F8,dT,Vg,w64,e0,e1];refine Gfb (λ hc=>G9b (no ?_)) (λ h3=>Gab (Y0 x hs) ?_)
   ·rw[bne,Vv]at hc;rw[hc];rfl
   ·rw[bne,Wg]at h3;rw[h3,Vy]at no yes;rintro b rfl;refine Gfb (λ hc=>G9b (no ?_)) (λ h4=>yes ?_)
    ·rw[Vv]at hc;exact hc
    ·rw[Wg]at h4;exact h4
def B8a (w:Wld) (hw:WIn w):Tot (λ k=>Bj k w) (λ r=>r=Sg w):=by
 unfold Bj Sg;refine Glb (X9a w.2.1 w.1 hw.1 (by have:=hw.2.1;omega)) ?_;cases hr:Ha w.2.1 w.1
 ·exact Gcb rfl (G9b rfl)
 refine Gbb rfl ?_;rw[Vy]
 by_cases hl:w.2.2.1.length=w.1.length
 ·refine Gbb (by rw[bne,hl,beq_self_eq_true];rfl) ?_;simp only[U6,Vn];cases hs:Ep w.2.2.2.1
  ·exact Gcb rfl (G9b (by rw[Zs,Yr]))
  refine Gbb rfl (Glb (Xta w hw) ?_);cases hws:Xsa w.2.2.2.1 w.2.2.2.2.1
  ·exact Gcb rfl (G9b (by rw[Zs,Yr,Yr]))
  refine Gbb rfl (Glb (Kea w hw hl) ?_);cases Rt w.1 w.2.2.1
  ·exact G9b rfl
  refine Glb (Hna w hw) ?_
  cases Sp w.2.2.2.2.2<;>exact G9b rfl
 ·have hn:((w.2.2.1.length:Int)==(w.1.length:Int))=false:=by rw[beq_eq_false_iff_ne];omega
  refine Gcb (by rw[bne,hn];rfl) (G9b ?_);unfold Rt;rw[hn];rfl
def U0a (w:Wld) (hw:WIn w):Tot (λ k=>Dh k w) (λ r=>r=Sg w):=by
 have hw':=hw;obtain⟨_,_,_,⟨h1,h2⟩,_⟩:=hw';unfold Dh Sg;refine Glb (Xaa w.2.1 w.1 hw.1 (by have:=hw.2.1;omega)) ?_;cases hr:Ha w.2.1 w.1
 ·exact Gcb rfl (G9b rfl)
 refine Gbb rfl (Glb (Xua w hw) ?_);rw[Vy];cases hn:Rt w.1 w.2.2.1
 ·exact Gcb rfl (G9b rfl)
 refine Gbb rfl ?_;simp only[Rm,Vn];cases hs:Ep w.2.2.2.1
 ·exact Gcb rfl (G9b rfl)
 refine Gbb rfl ?_
 by_cases hl:(w.2.2.2.2.1.length:Int) > 200
 ·refine Gdb hl (G9b ?_);unfold Xsa;rw[decide_eq_false (show ¬ (w.2.2.2.2.1.length:Int)≤200 by omega),Yr];rfl
 ·refine Geb hl (Gab (Q:=λ r=>r=bif w.2.2.2.2.1.all (Epa w.2.2.2.1) then .inr w else .inl false) ?_ ?_)
  ·rw[B7a _ P5a];refine Gjb (L:=λ k i=>Gg k i w) _ _ w ?_ ?_
   ·simp (disch:=omega) only [Gg,dF];exact G9b rfl
   ·intro j hj Q no yes;have hs:=h2 _ (A4 (d:=P5a) hj);obtain⟨x,ex⟩:∃ x:Wri,w.2.2.2.2.1.getD j P5a=x:=⟨_,rfl⟩;rw[ex]at hs;simp only[ex]at no yes;have e0:w.2.2.2.2.1.getD j ((⟨#[]⟩:ByteArray),((((0:Int),((0:Int),(0:Int))),(false,[])),false))=x:=ex;simp (disch:=omega) only [Gg,dT,Vg,w64,e0,Ua,E7a,Vn];unfold Epa at no yes;refine Glb (Pd x.1 hs) ?_;refine Gfb (λ hc=>G9b (no ?_)) (λ h3=>Gfb (λ hc=>G9b (no ?_)) (λ h4=>Gfb (λ hc=>G9b (no ?_)) (λ h5=>yes ?_)))
    ·rw[Vv]at hc;rw[hc];rfl
    ·rw[Vv]at hc;rw[hc,Zs,Yr]
    ·rw[hc,Zb,Yr,Yr]
    ·rw[Wg]at h3 h4;rw[h3,h4,h5];rfl
  ·rintro b rfl;unfold Xsa;rw[decide_eq_true (show (w.2.2.2.2.1.length:Int)≤200 by omega),I1b];cases w.2.2.2.2.1.all (Epa w.2.2.2.1)
   ·exact G9b rfl
   refine Glb (Hoa w hw) ?_
   cases Sp w.2.2.2.2.2<;>exact G9b rfl

def atN:List Nod→Int→Nat→List Int
 |[],_,_=>[]
 |n::ns,id,i=>bif n.1==id then (i:Int)::atN ns id (i+1) else atN ns id (i+1)
def Eqa (n:Nod) (ns:List Nod) (id:Int) (i:Nat):atN (n::ns) id i=bif n.1==id then (i:Int)::atN ns id (i+1) else atN ns id (i+1):=rfl
def whr (ns:List Nod) (ids:List Int):List Int:=ids.flatMap λ id=>atN ns id 0
def Era (id:Int):∀ (ns:List Nod) (i:Nat),(atN ns id i).length≤ns.length
 |[],_=>Vw _
 |n::ns,i=>by
  unfold atN;have:=Era id ns (i+1);cases n.1==id
  ·rw[cond_false,Vb];omega
  ·rw[cond_true,Vb,Vb];omega
def U1a (ns:List Nod):∀ (ids:List Int),(whr ns ids).length≤ids.length*ns.length
 |[]=>Vt _
 |id::ids=>by
  have h1:=Era id ns 0;have h2:=U1a ns ids;unfold whr at h2 ⊢;rw[Ibb,Vd,Vb,Nat.succ_mul];omega
def Og {ns:List Nod} {ids:List Int} (h1:ns.length≤2000000) (h2:ids.length≤2000000):(whr ns ids).length≤4000000000000:=
 Zo (U1a ns ids) (J4b h2 h1)
def Sd (ns:List Nod) (id:Int) (ids:List Int):whr ns (id::ids)=atN ns id 0++whr ns ids:=Ibb
def Esa (ns:List Nod) (a b:List Int):whr ns (a++b)=whr ns a++whr ns b:=List.flatMap_append
def Bva (w:Wld) (id:Int) (a b c:List Int) (m i0:Int) (out:List Int) (h1:w.2.2.1.length≤2000000) (ho:out.length≤4000000000000):
  Tot (λ k=>E6 k out id a m i0 w.2.2.1 (w.2.2.1.length:Int) 0 w) (λ r=>r=(out++atN w.2.2.1 id 0,a,m,i0,w)):=by
 have m1:=Era id w.2.2.1 0;refine Gib (L:=λ k i (s:List Int)=>E6 k s id a m i0 w.2.2.1 (w.2.2.1.length:Int) i w) (Q:=λ r=>r=(out++atN w.2.2.1 id 0,a,m,i0,w)) w.2.2.1.length (λ j s=>s++atN (w.2.2.1.drop j) id j=out++atN w.2.2.1 id 0) ?_ ?_ 0 out (Vt _) rfl
 ·intro s h;rw[Wf]at h;simp (disch:=omega) only [E6,dF];refine G9b ?_;rw[← h];show _=(s++[],a,m,i0,w);rw[Wn]
 ·intro j s hj h next;have g:=congrArg length h;rw[Vd,Vd]at g;rw[Au (d:=C9) hj,Eqa]at h;obtain⟨x,ex⟩:∃ x:Nod,w.2.2.1.getD j C9=x:=⟨_,rfl⟩;rw[ex]at h;have e0:w.2.2.1.getD j ((0:Int),(([],[]),([],[])))=x:=ex;simp (disch:=omega) only [E6,dT,Vg,w64,e0]
  cases hx:x.1==id with
  |true=>
   rw[hx,cond_true]at h;refine Gcb rfl (Ghb (by simp only[Vb,Vj];omega) (next (s++[(j:Int)]) ?_));rw[← h,Vp];rfl
  |false=>
   rw[hx,cond_false]at h;refine Gbb rfl (next s h)
def Kfa (w:Wld) (ids:List Int) (h1:w.2.2.1.length≤2000000) (h2:ids.length≤2000000):Tot (λ k=>Ge k w ids) (λ r=>r=whr w.2.2.1 ids):=by
 have m1:=Og h1 h2;unfold Ge;refine Gab (Q:=λ r=>r=whr w.2.2.1 ids) ?_ (by rintro r rfl;exact G9b rfl);refine Gib (L:=λ k i (s:List Int)=>Gd k s ids (ids.length:Int) i w) (Q:=λ r=>r=whr w.2.2.1 ids) ids.length (λ j s=>s++whr w.2.2.1 (ids.drop j)=whr w.2.2.1 ids) ?_ ?_ 0 [] (Vt _) rfl
 ·intro s h;rw[Wf]at h;simp (disch:=omega) only [Gd,dF];refine G9b ?_;rw[← h];exact(Wn s).symm
 ·intro j s hj h next;have g:=congrArg length h;rw[Vd]at g;rw[Au (d:=0) hj,Sd]at h;simp (disch:=omega) only [Gd,dT,Vg,w64];refine Glb (Bva w (ids.getD j 0) ids [] [] (ids.length:Int) (j:Int) s h1 (by omega)) ?_;simp (disch:=omega) only [w64];exact next _ (by rw[Vp];exact h)
def Eta (w:Wld) (ids:List Int) (n:Nat) (hn:n<ids.length) (out:List Int) (h1:w.2.2.1.length≤2000000) (ho:out.length≤4000000000000):
  Tot (λ k=>Ca k ids out (n:Int) 0 w) (λ r=>r=(ids,out++atN w.2.2.1 (ids.getD n 0) 0,(n:Int),w)):=by
 have m1:=Era (ids.getD n 0) w.2.2.1 0;refine Gib (L:=λ k i (s:List Int)=>Ca k ids s (n:Int) i w) (Q:=λ r=>r=(ids,out++atN w.2.2.1 (ids.getD n 0) 0,(n:Int),w)) w.2.2.1.length (λ j s=>s++atN (w.2.2.1.drop j) (ids.getD n 0) j=out++atN w.2.2.1 (ids.getD n 0) 0) ?_ ?_ 0 out (Vt _) rfl
 ·intro s h;rw[Wf]at h;simp (disch:=omega) only [Ca,dF];refine G9b ?_;rw[← h];show _=(ids,s++[],(n:Int),w);rw[Wn]
 ·intro j s hj h next;have g:=congrArg length h;rw[Vd,Vd]at g;rw[Au (d:=C9) hj,Eqa]at h;obtain⟨x,ex⟩:∃ x:Nod,w.2.2.1.getD j C9=x:=⟨_,rfl⟩;rw[ex]at h;have e0:w.2.2.1.getD j ((0:Int),(([],[]),([],[])))=x:=ex;simp (disch:=omega) only [Ca,dT,Vg,w64,e0]
  cases hx:x.1==ids.getD n 0 with
  |true=>
   rw[hx,cond_true]at h;refine Gcb rfl (Ghb (by simp only[Vb,Vj];omega) (next (s++[(j:Int)]) ?_));rw[← h,Vp];rfl
  |false=>
   rw[hx,cond_false]at h;refine Gbb rfl (next s h)
def Se (w:Wld) (ids:List Int) (h1:w.2.2.1.length≤2000000) (h2:ids.length≤2000000):Tot (λ k=>Bb k w ids) (λ r=>r=whr w.2.2.1 ids):=by
 have m1:=Og h1 h2;unfold Bb;refine Gab (Q:=λ r=>r=whr w.2.2.1 ids) ?_ (by rintro r rfl;exact G9b rfl);refine Gib (L:=λ k i (s:List Int)=>Ds k ids s i w) (Q:=λ r=>r=whr w.2.2.1 ids) ids.length (λ j s=>s++whr w.2.2.1 (ids.drop j)=whr w.2.2.1 ids) ?_ ?_ 0 [] (Vt _) rfl
 ·intro s h;rw[Wf]at h;simp (disch:=omega) only [Ds,dF];refine G9b ?_;rw[← h];exact(Wn s).symm
 ·intro j s hj h next;have g:=congrArg length h;rw[Vd]at g;rw[Au (d:=0) hj,Sd]at h;simp (disch:=omega) only [Ds,dT,Vg,w64];refine Glb (Eta w ids j hj s h1 (by omega)) ?_;simp (disch:=omega) only [w64];exact next _ (by rw[Vp];exact h)
def W8 (id:Int):∀ (ns:List Nod) (i:Nat) (x:Int),x∈atN ns id i↔∃ j,j<ns.length∧(ns.getD j C9).1=id∧x=((i+j:Nat):Int)
 |[],i,x=>by simp[atN]
 |n::ns,i,x=>by
  have ih:=W8 id ns (i+1) x
  have tl:(∃ j,j<(n::ns).length∧((n::ns).getD j C9).1=id∧x=((i+j:Nat):Int))↔(n.1=id∧x=(i:Int))∨x∈atN ns id (i+1):=by
   rw[ih];constructor
   ·rintro⟨j,h1,h2,h3⟩
    cases j with
    |zero=>exact .inl ⟨h2,by omega⟩
    |succ j=>exact .inr ⟨j,by simpa using h1,by simpa using h2,by omega⟩
   ·rintro (⟨h1,h2⟩|⟨j,h1,h2,h3⟩)
    ·exact⟨0,by simp,h1,by omega⟩
    ·exact⟨j+1,by simpa using h1,by simpa using h2,by omega⟩
  rw[tl,Eqa]
  cases hx:n.1==id with
  |true=>
   rw[cond_true,Vl,eq_of_beq hx];simp
  |false=>
   rw[cond_false];have:=beq_eq_false_iff_ne.1 hx;simp[this]
def B9a {ns:List Nod} {ids:List Int} {x:Int}:x∈whr ns ids↔∃ j,j<ns.length∧(ns.getD j C9).1∈ids∧x=(j:Int):=by
 unfold whr;rw[List.mem_flatMap];constructor
 ·rintro⟨id,h1,h2⟩;obtain⟨j,h3,h4,h5⟩:=(W8 _ _ _ _).1 h2;exact⟨j,h3,h4 ▸ h1,by omega⟩
 ·rintro⟨j,h3,h4,h5⟩;exact⟨_,h4,(W8 _ _ _ _).2 ⟨j,h3,rfl,by omega⟩⟩
def Am (w:Wld) (x:ByteArray):List Int:=whr w.2.2.1 (Pi w.2.1 x++Lw w.2.1 w.1 x)
def G0b:ByteArray:=⟨#[108,105,115,116]⟩
def Lx (w:Wld):List Int:=whr w.2.2.1 (Pi w.2.1 G0b)
def Y4 {r:Rng} (hr:RBd r) (x:ByteArray):(Pi r x).length≤2000000:=by
 unfold Pi
 by_cases hm:P4a x % r.2.length<r.2.length
 ·exact hr.2 _ (A4 (d:=[]) hm)
 ·rw[Vc,Zy (by omega)];exact Vt _
def O6 (r:Rng) (l:List Dev) (x:ByteArray):(Lw r l x).length≤l.length+l.length:=by
 unfold Lw;rw[Vd];have h1:=W7 (Pi r x) (H4 (Pi r x) l) false l;have h2:=W7 (Pi r x) (H4 (Pi r x) l) true l;omega
def X4 (w:Wld) (x:ByteArray) (h:Ha w.2.1 w.1=true) (hn:w.2.2.1.length≤2000000) (hx:x.size≤1000000000):Tot (λ k=>C0 k w x) (λ r=>r=(Am w x,w)):=by
 have h5:=(Ay.1 h).2.1;have p2:=(Oz h x).2.1;have h12:=(De.1 (Ay.1 h).1).2.2.2;have hh:=O6 w.2.1 w.1 x;unfold C0 Am;refine Glb (Nfa _ x (Nj h) hx) ?_;refine Glb (Xqa _ _ x h hx) ?_;refine Ghb (by omega) (Glb (Kfa w _ hn (by rw[Vd];omega)) ?_);exact G9b rfl
def Hpa (w:Wld) (x:ByteArray) (h:Ha w.2.1 w.1=true) (hn:w.2.2.1.length≤2000000) (hx:x.size≤1000000000):Tot (λ k=>Eu k w x) (λ r=>r=Am w x):=by
 have h5:=(Ay.1 h).2.1;have p2:=(Oz h x).2.1;have h12:=(De.1 (Ay.1 h).1).2.2.2;have hh:=O6 w.2.1 w.1 x;unfold Eu Am;rw[Esa];refine Glb (Y3 _ x (Nj h) hx) ?_;refine Glb (Se w _ hn (by omega)) ?_;refine Glb (Xra _ _ x h hx) ?_;refine Glb (Se w _ hn (by omega)) ?_;have l1:=Og hn (show (Pi w.2.1 x).length≤2000000 by omega);have l2:=Og hn (show (Lw w.2.1 w.1 x).length≤2000000 by omega);exact Ghb (by omega) (G9b rfl)
def Baa (w:Wld) (hr:RBd w.2.1) (hn:w.2.2.1.length≤2000000):Tot (λ k=>H6 k w) (λ r=>r=Lx w):=by
 unfold H6;refine Glb (Y3 _ G0b hr (by decide)) ?_;refine Glb (Se w _ hn (Y4 hr _)) ?_;exact G9b rfl
def quo (n:Int):Int:=n/2+1
def Efb {n:Int} (h0:0≤n):Int.tdiv n 2=n/2:=H0b h0
def Btb {n:Int} (h0:0≤n) (h1:n≤1000000000):Ko n=some (quo n):=by
 unfold Ko quo;rw[Efb h0,w64 (n:=n/2) (by omega) (by omega),w64 (n:=n/2+1) (by omega) (by omega)]
def Bub {n:Int} (h0:0≤n) (h1:n≤1000000000):Kf n=some (quo n):=by
 unfold Kf quo;rw[Efb h0,w64 (n:=n/2) (by omega) (by omega),w64 (n:=n/2+1) (by omega) (by omega)]
def rch (l:List Int) (i:Nat):Int:=bif decide (i<l.length)&&inR (l.getD i 0) 1 3 then l.getD i 0 else 0
def U2a (l:List Int) (i:Nat):H8 l (i:Int)=some (rch l i):=by
 unfold H8 rch
 by_cases h:i<l.length
 ·simp (disch:=omega) only [dT,Vg,U4,Vn];rw[decide_eq_true h,Vy]
  cases inR (l.getD i 0) 1 3<;>rfl
 ·rw[dF (by omega),decide_eq_false h];rfl
def Kga (l:List Int) (i:Nat):C3 l (i:Int)=some (rch l i):=by
 unfold C3 rch
 by_cases h:i<l.length
 ·rw[dF (by omega)];simp (disch:=omega) only [dT,Vg,Ob,Vn];rw[decide_eq_true h,Vy]
  cases inR (l.getD i 0) 1 3<;>rfl
 ·rw[dT (by omega),decide_eq_false h];rfl

def Eua (a b:Fil):Bool:=((a.1.1==b.1.1)&&((a.1.2.1==b.1.2.1)&&(a.1.2.2==b.1.2.2)))&&((a.2.1==b.2.1)&&((La a.2.2).toList==(La b.2.2).toList))
def U3a (a b:Fil):Kq a b=some (Eua a b):=by
 unfold Kq Eua
 cases (a.1.1==b.1.1)&&((a.1.2.1==b.1.2.1)&&(a.1.2.2==b.1.2.2))<;>cases a.2.1==b.2.1<;>rfl
def Hqa {a b:Fil} (ha:Aj a.2.2) (hb:Aj b.2.2):Eua a b=true↔a=b:=by
 unfold Eua;rw[Uc ha hb];obtain⟨⟨a1,a2,a3⟩,a4,a5⟩:=a;obtain⟨⟨b1,b2,b3⟩,b4,b5⟩:=b;simp only[Va,beq_iff_eq,decide_eq_true_iff,Vx]
def U4a (ws:List Wri) (s:ByteArray) (f:Fil):Bool:=ws.any λ x=>teq x.1 s&&Eua x.2.1 f
def U5a (w:Wld) (s:ByteArray) (f:Fil) (h:w.2.2.2.2.1.length≤2000000):Tot (λ k=>Dp k w s f) (λ r=>r=U4a w.2.2.2.2.1 s f):=by
 unfold Dp U4a
 refine Gab (Q:=λ r=>r=bif w.2.2.2.2.1.any (λ x=>teq x.1 s&&Eua x.2.1 f) then .inl true else .inr ()) ?_ (by
  rintro r rfl
  cases w.2.2.2.2.1.any (λ x=>teq x.1 s&&Eua x.2.1 f)<;>exact G9b rfl)
 rw[Tza _ P5a];refine Gkb (L:=λ k i=>Dq k s i w f) _ _ () ?_ ?_
 ·simp (disch:=omega) only [Dq,dF];exact G9b rfl
 ·intro j hj Q yes no;obtain⟨x,ex⟩:∃ x:Wri,w.2.2.2.2.1.getD j P5a=x:=⟨_,rfl⟩;simp only[ex]at no yes;have e0:w.2.2.2.2.1.getD j ((⟨#[]⟩:ByteArray),((((0:Int),((0:Int),(0:Int))),(false,[])),false))=x:=ex;simp (disch:=omega) only [Dq,dT,Vg,w64,e0,U3a,Vn];refine Gfb (λ h1=>Gfb (λ h2=>G9b (yes ?_)) (λ h2=>no ?_)) (λ h1=>no ?_)
  ·show ((x.1.toList==s.toList)&&Eua x.2.1 f)=true;rw[h1,h2];rfl
  ·rw[h2,Yr]
  ·show ((x.1.toList==s.toList)&&Eua x.2.1 f)=false;rw[h1];rfl
def U6a (ws:List Wri) (e:Nmd):Bool:=match O3 e.2 with
 |none=>true
 |some f=>U4a ws e.1 f
def Qs (w:Wld):Bool:=(List.range w.2.2.1.length).all λ j=>(w.2.2.1.getD j C9).2.1.1.all (U6a w.2.2.2.2.1)&&(w.2.2.1.getD j C9).2.1.2.all (U6a w.2.2.2.2.1)
def D5a (w:Wld) (l:List Nmd) (h:w.2.2.2.2.1.length≤2000000) (hf:Cva l) (hb:LB l):Tot (λ k=>Eg k w l) (λ r=>r=l.all (U6a w.2.2.2.2.1)):=by
 have hl:=hf.1;unfold Eg
 refine Gab (Q:=λ r=>r=bif l.all (U6a w.2.2.2.2.1) then .inr () else .inl false) ?_ (by
  rintro r rfl
  cases l.all (U6a w.2.2.2.2.1)<;>exact G9b rfl)
 rw[B7a _ Er];refine Gjb (L:=λ k i=>F9 k l i w) _ _ () ?_ ?_
 ·simp (disch:=omega) only [F9,dF];exact G9b rfl
 ·intro j hj Q no yes;have hm:=A4 (d:=Er) hj;obtain⟨x,ex⟩:∃ x:Nmd,l.getD j Er=x:=⟨_,rfl⟩;rw[ex]at hm;simp only[ex]at no yes;have e0:l.getD j ((⟨#[]⟩:ByteArray),[])=x:=ex;simp (disch:=omega) only [F9,dT,Vg,w64,e0];refine Gab (T7 x.2 (hb x hm) (hf.2 x hm)) ?_;rintro r rfl;unfold U6a at no yes;unfold T5
  cases hg:O3 x.2 with
  |none=>rw[hg]at yes;exact Gbb rfl (yes rfl)
  |some f=>
   rw[hg]at yes no;refine Gcb rfl (Gab (U5a w x.1 f h) ?_);rintro b rfl;refine Gfb (λ hc=>G9b (no ?_)) (λ hc=>yes ?_)
   ·rw[Vv]at hc;exact hc
   ·rw[Wg]at hc;exact hc
def Kha (w:Wld) (hw:WIn w):Tot (λ k=>Fh k w) (λ r=>r=Qs w):=by
 obtain⟨_,_,⟨h1,h2⟩,⟨h3,_⟩,_⟩:=hw;unfold Fh Qs
 refine Gab (Q:=λ r=>r=bif (List.range w.2.2.1.length).all (λ j=>(w.2.2.1.getD j C9).2.1.1.all (U6a w.2.2.2.2.1)&&(w.2.2.1.getD j C9).2.1.2.all (U6a w.2.2.2.2.1)) then .inr () else .inl false) ?_ (by
  rintro r rfl
  cases (List.range w.2.2.1.length).all (λ j=>(w.2.2.1.getD j C9).2.1.1.all (U6a w.2.2.2.2.1)&&(w.2.2.1.getD j C9).2.1.2.all (U6a w.2.2.2.2.1))<;>exact G9b rfl)
 refine Gjb (L:=λ k i=>Gj k i w) _ _ () ?_ ?_
 ·simp (disch:=omega) only [Gj,dF];exact G9b rfl
 ·intro j hj Q no yes;have hm:=h2 _ (A4 (d:=C9) hj);obtain⟨x,ex⟩:∃ x:Nod,w.2.2.1.getD j C9=x:=⟨_,rfl⟩;rw[ex]at hm no yes;have e0:w.2.2.1.getD j ((0:Int),(([],[]),([],[])))=x:=ex;obtain⟨⟨⟨⟨f1,f2⟩,_⟩,_⟩,b1,b2⟩:=hm.1;simp (disch:=omega) only [Gj,dT,Vg,w64,e0];refine Gab (D5a w x.2.1.1 h3 f1 b1) ?_;rintro r rfl;refine Gfb (λ hc=>G9b (no ?_)) (λ hc=>Gab (D5a w x.2.1.2 h3 f2 b2) ?_)
  ·rw[Vv]at hc;rw[hc,Zs]
  ·rw[Wg]at hc;rw[hc,Vy]at no yes;rintro r rfl;refine Gfb (λ hc=>G9b (no ?_)) (λ hc=>yes ?_)
   ·rw[Vv]at hc;exact hc
   ·rw[Wg]at hc;exact hc

def Bvb (a b:Row):Bool:=(a.1==b.1)&&((a.2.1.1==b.2.1.1)&&((a.2.1.2.1==b.2.1.2.1)&&((a.2.1.2.2==b.2.1.2.2)&&((a.2.2.1==b.2.2.1)&&(a.2.2.2==b.2.2.2)))))
def Hra {a b:Row}:Bvb a b=true↔a=b:=by
 unfold Bvb;obtain⟨a0,⟨a1,a2,a3⟩,a4,a5⟩:=a;obtain⟨b0,⟨b1,b2,b3⟩,b4,b5⟩:=b;simp only[Eba,Va,beq_iff_eq,Vx,Jq];constructor
 ·rintro⟨h0,h1,h2,h3,h4,h5⟩;exact⟨h0,⟨h1,h2,h3⟩,h4,h5⟩
 ·rintro⟨h0,⟨h1,h2,h3⟩,h4,h5⟩;exact⟨h0,h1,h2,h3,h4,h5⟩
def Bwa (ws:List Wri) (r:Row):Bool:=ws.any λ x=>Bvb (W2 x.1 x.2.1) r

def run {α:Type} (st:α→Nat→α) (n:Nat) (a:α):α:=(List.range n).foldl st a
def Nk {α:Type} (st:α→Nat→α) (n:Nat) (a:α):run st (n+1) a=st (run st n a) n:=by
 unfold run;rw[Ivb,Hob];rfl
def Xva {α:Type} {st:α→Nat→α} {a:α} {j n:Nat} (hj:j≤n) (h:∀ i,st (run st j a) i=run st j a):run st n a=run st j a:=by
 obtain⟨m,rfl⟩:=Nat.exists_eq_add_of_le hj
 induction m with
 |zero=>rfl
 |succ m ih=>rw[← Zf,Nk,ih (by omega),h]
def N0 {α:Type} {st:α→Nat→α} (P:Nat→α→Prop) {n:Nat} {a:α} (h0:P 0 a) (hs:∀ j b,j<n→P j b→P (j+1) (st b j)):P n (run st n a):=by
 have:∀ m,m≤n→P m (run st m a):=by
  intro m
  induction m with
  |zero=>intro _;exact h0
  |succ m ih=>intro hm;rw[Nk];exact hs m _ (by omega) (ih (by omega))
 exact this n (Vw _)
def NS (ns:List Nod):Prop:=ns.length≤2000000∧∀ n∈ns,NG n
def NS.set {ns:List Nod} (h:NS ns) {i:Nat} {n:Nod} (hn:NG n):NS (ns.set i n):=⟨by rw[Vz];exact h.1,λ m hm=>by
 rcases Yg hm with hm|rfl
 ·exact h.2 m hm
 ·exact hn⟩
def NS.get {ns:List Nod} (h:NS ns) {i:Nat} (hi:i<ns.length):NG (ns.getD i C9):=h.2 _ (A4 hi)
abbrev wN (w:Wld) (ns:List Nod):Wld:=(w.1,w.2.1,ns,w.2.2.2)
def K8 (c:Stp) (t d:Int):Stp:=bif decide (t≤c.1) then (bif Ep (c.1,c.2.1+1,d) then (c.1,c.2.1+1,d) else c) else (bif Ep (t,0,d) then (t,0,d) else c)
def U7a {c:Stp} (hc:Ep c=true) (t d:Int):Hf c t d=some (K8 c t d):=by
 have h2:0≤c.2.1∧c.2.1≤1000000:=by
  unfold Ep at hc;rw[Va,Va,Dg,Dg]at hc;exact hc.2.1
 unfold Hf K8;rw[w64 (n:=c.2.1+1) (by omega) (by omega)];simp only[Rm,Vn]
 cases decide (t≤c.1) with
 |true=>cases Ep (c.1,c.2.1+1,d)<;>rfl
 |false=>cases Ep (t,0,d)<;>rfl
def Uh {c:Stp} (hc:Ep c=true) (t d:Int):Ep (K8 c t d)=true∧(K8 c t d=c∨sle c (K8 c t d)=true):=by
 unfold K8
 by_cases h:t≤c.1
 ·rw[decide_eq_true h,cond_true]
  cases hs:Ep (c.1,c.2.1+1,d) with
  |true=>exact⟨hs,.inr (Rl.2 (.inr ⟨rfl,.inl (by show c.2.1<c.2.1+1;omega)⟩))⟩
  |false=>exact⟨hc,.inl rfl⟩
 ·rw[decide_eq_false h,cond_false]
  cases hs:Ep (t,0,d) with
  |true=>exact⟨hs,.inr (Rl.2 (.inl (by show c.1<t;omega)))⟩
  |false=>exact⟨hc,.inl rfl⟩
def wst (R:Int) (rc:List Int) (s:ByteArray) (f:Fil) (cs:List Int) (a:List Nod×Int×Int) (j:Nat):List Nod×Int×Int:=
 bif decide (a.2.1<R) then (bif rch rc j==0 then a else
  (a.1.set (cs.getD j 0).toNat (Pg (a.1.getD (cs.getD j 0).toNat C9) s f (rch rc j != 3)).1,a.2.1+1,
   bif rch rc j==1&&((Pg (a.1.getD (cs.getD j 0).toNat C9) s f (rch rc j != 3)).2==0||(Pg (a.1.getD (cs.getD j 0).toNat C9) s f (rch rc j != 3)).2==1) then a.2.2+1 else a.2.2))
 else a
def wrN (w:Wld) (s:ByteArray) (f:Fil) (rc:List Int):List Nod×Int×Int:=run (wst w.2.1.1 rc s f (Am w s)) (Am w s).length (w.2.2.1,0,0)
def Pj (w:Wld) (s:ByteArray) (f:Fil) (rc:List Int):Int×Wld:=
 (bif decide ((wrN w s f rc).2.2≥quo w.2.1.1) then 0 else 1,(w.1,w.2.1,(wrN w s f rc).1,w.2.2.2.1,w.2.2.2.2.1++[(s,f,decide ((wrN w s f rc).2.2≥quo w.2.1.1))],w.2.2.2.2.2))
def N1 {w:Wld} {s:ByteArray} {x:Int} (h:x∈Am w s):0≤x∧x<(w.2.2.1.length:Int):=by
 obtain⟨j,h1,_,rfl⟩:=B9a.1 h;omega
def Zia {R:Int} {rc:List Int} {s:ByteArray} {f:Fil} {cs:List Int} {a:List Nod×Int×Int} {j m:Nat} (hs:Ao s=true) (hf:Cu f=true) (h:NS a.1∧a.1.length=m∧(0≤a.2.1∧a.2.1≤j)∧0≤a.2.2∧a.2.2≤j) (hc:(cs.getD j 0).toNat<m):
  let b:=wst R rc s f cs a j
  NS b.1∧b.1.length=m∧(0≤b.2.1∧b.2.1≤((j+1:Nat):Int))∧0≤b.2.2∧b.2.2≤((j+1:Nat):Int):=by
 obtain⟨h1,h2,h3,h4,h5⟩:=h;intro b;have hb:b=wst R rc s f cs a j:=rfl;unfold wst at hb;cases hR:decide (a.2.1<R)
 ·rw[hR,cond_false]at hb;rw[hb];exact⟨h1,h2,⟨h3.1,by omega⟩,h4,by omega⟩
 rw[hR,cond_true]at hb;cases hr:rch rc j==0
 case true=>rw[hr,cond_true]at hb;rw[hb];exact⟨h1,h2,⟨h3.1,by omega⟩,h4,by omega⟩
 rw[hr,cond_false]at hb;rw[hb];refine⟨h1.set (H9a (h1.get (by omega)) hs hf),by rw[List.length_set];exact h2,⟨by dsimp only;omega,by dsimp only;omega⟩,?_⟩;dsimp only;cases rch rc j==1&&((Pg (a.1.getD (cs.getD j 0).toNat C9) s f (rch rc j != 3)).2==0||(Pg (a.1.getD (cs.getD j 0).toNat C9) s f (rch rc j != 3)).2==1)
 ·exact⟨h4,by rw[cond_false];omega⟩
 ·exact⟨by rw[cond_true];omega,by rw[cond_true];omega⟩
def P6a (w:Wld) (s:ByteArray) (f:Fil) (rc:List Int) (hr:Ha w.2.1 w.1=true) (hn:NS w.2.2.1) (hs:Ao s=true) (hf:Cu f=true) (hw:w.2.2.2.2.1.length≤2000000):
  Tot (λ k=>C1 k w s f rc) (λ r=>r=Pj w s f rc):=by
 have hsz:s.size≤1000000000:=by
  have:=Dg.1 (Va _ _ ▸ hs:_∧_).2;omega
 obtain⟨_,hR,_⟩:=Ay.1 hr;unfold C1 Pj;refine Glb (Hpa w s hr hn.1 hsz) ?_;have hc:=λ x=>N1 (w:=w) (s:=s) (x:=x)
 have hcl:(Am w s).length≤4000000000000:=by
  unfold Am;refine Og hn.1 ?_;have h5:=(Ay.1 hr).2.1;have p2:=(Oz hr s).2.1;have h12:=(De.1 (Ay.1 hr).1).2.2.2;have hh:=O6 w.2.1 w.1 s;rw[Vd];omega
 have hrun:wrN w s f rc=run (wst w.2.1.1 rc s f (Am w s)) (Am w s).length (w.2.2.1,0,0):=rfl
 have inv:∀ n,n≤(Am w s).length→NS (run (wst w.2.1.1 rc s f (Am w s)) n (w.2.2.1,0,0)).1∧(run (wst w.2.1.1 rc s f (Am w s)) n (w.2.2.1,0,0)).1.length=w.2.2.1.length∧(0≤(run (wst w.2.1.1 rc s f (Am w s)) n (w.2.2.1,0,0)).2.1∧(run (wst w.2.1.1 rc s f (Am w s)) n (w.2.2.1,0,0)).2.1≤n)∧0≤(run (wst w.2.1.1 rc s f (Am w s)) n (w.2.2.1,0,0)).2.2∧(run (wst w.2.1.1 rc s f (Am w s)) n (w.2.2.1,0,0)).2.2≤n:=by
  intro n hn';refine N0 (λ j (b:List Nod×Int×Int)=>NS b.1∧b.1.length=w.2.2.1.length∧(0≤b.2.1∧b.2.1≤(j:Int))∧0≤b.2.2∧b.2.2≤(j:Int)) ⟨hn,rfl,⟨Zh _,Zh _⟩,Zh _,Zh _⟩ (λ j b hj hb=>Zia hs hf hb ?_);have:=hc _ (A4 (d:=0) (show j<(Am w s).length by omega));omega
 generalize hcs:Am w s=cs at *;refine Gab (Q:=λ r=>r=(s,(wrN w s f rc).2.2,wN w (wrN w s f rc).1,f)) ?_ ?_
 ·refine Gib (L:=λ k i (a:List Nod×Int×Int)=>B6 k s rc cs a.2.1 a.2.2 i (wN w a.1) f) (Q:=λ r=>r=(s,(wrN w s f rc).2.2,wN w (wrN w s f rc).1,f)) cs.length (λ j a=>a=run (wst w.2.1.1 rc s f cs) j (w.2.2.1,0,0)) ?_ ?_ 0 (w.2.2.1,0,0) (Vt _) rfl
  ·rintro a rfl;simp (disch:=omega) only [B6,dF];exact G9b (by rw[hrun])
  ·rintro j a hj rfl next;obtain⟨i1,i2,i3,i4,i5⟩:=inv j (by omega);rw[Nk]at next;have hst:=Xva (st:=wst w.2.1.1 rc s f cs) (a:=(w.2.2.1,(0:Int),(0:Int))) (j:=j) (n:=cs.length) (by omega);generalize run (wst w.2.1.1 rc s f cs) j (w.2.2.1,0,0)=a at *;obtain⟨ns,o,g⟩:=a;dsimp only at i1 i2 i3 i4 i5;have hci:=hc _ (A4 (d:=0) hj);obtain⟨i,ei⟩:∃ i:Nat,cs.getD j 0=(i:Int):=⟨(cs.getD j 0).toNat,by omega⟩;rw[ei]at hci;unfold wst at next;rw[ei,Int.toNat_natCast]at next;simp (disch:=omega) only [B6,dT,wN];refine Ggb (λ hR'=>?_) (λ hR'=>G9b ?_)
   ·dsimp only at next;rw[decide_eq_true hR']at next;simp only[Kga,Option.bind_some]
    cases h0:rch rc j==0 with
    |true=>
     rw[h0]at next;simp (disch:=omega) only [w64];exact Gcb rfl (next _ rfl)
    |false=>
     rw[h0]at next;have e0:ns.getD i ((0:Int),(([],[]),([],[])))=ns.getD i C9:=rfl;simp (disch:=omega) only [dT,Int.toNat_natCast,w64,ei,e0,cond_false];refine Glb (Haa (ns.getD i C9) s f (rch rc j != 3) (Xf (i1.get (by omega))) (J0 hs)) ?_;dsimp only at next ⊢;generalize Pg (ns.getD i C9) s f (rch rc j != 3)=p at *
     cases h1:rch rc j==1 with
     |false=>
      rw[h1]at next;exact Gbb rfl (next _ rfl)
     |true=>
      rw[h1]at next;refine Gcb rfl ?_;cases h2:p.2==0
      case true=>rw[h2]at next;exact Gcb rfl (next _ rfl)
      rw[h2]at next;refine Gbb rfl ?_
      cases h3:p.2==1 with
      |true=>rw[h3]at next;exact Gcb rfl (next _ rfl)
      |false=>rw[h3]at next;exact Gbb rfl (next _ rfl)
   ·rw[hrun,hst (λ i=>by unfold wst;dsimp only;rw[decide_eq_false hR'];rfl)]
 ·rintro r rfl;obtain⟨_,_,_,h4,h5⟩:=inv cs.length (Nat.le_refl _);dsimp only[wN];rw[Bub (by omega) (by omega)]
  have ec:Bo f=some f:=by
   have:=(J9.1 hf).2.1;unfold Bo;rw[bT (by simp only[Vj];omega),Wb]
  rw[ec];simp only[Vn];refine Ghb (by simp only[Vb,Vj];omega) ?_
  cases decide ((wrN w s f rc).2.2≥quo w.2.1.1) with
  |true=>exact G9b rfl
  |false=>exact G9b rfl
def ask (w:Wld) (s:ByteArray) (f:Fil) (t:Int) (rc:List Int):Int×Wld:=
 bif !(Ao s) then (2,w) else bif decide ((f.2.2.length:Int) > 200) then (2,w) else bif !(inR t 0 1000000000) then (2,w) else
 bif (w.2.2.2.2.1.length:Int)==200 then (3,w) else
 bif (K8 w.2.2.2.1 t 0).1==w.2.2.2.1.1&&((K8 w.2.2.2.1 t 0).2.1==w.2.2.2.1.2.1&&(K8 w.2.2.2.1 t 0).2.2==w.2.2.2.1.2.2) then (3,w) else
 Pj (w.1,w.2.1,w.2.2.1,K8 w.2.2.2.1 t 0,w.2.2.2.2) s (K8 w.2.2.2.1 t 0,f.2) rc
def Kia (w:Wld) (s:ByteArray) (f:Fil) (t:Int) (rc:List Int) (hr:Ha w.2.1 w.1=true) (hn:NS w.2.2.1) (hst:Ep w.2.2.2.1=true) (hs:Jr s) (hd:f.2.1=true→f.2.2=[]) (hw:w.2.2.2.2.1.length≤2000000):
  Tot (λ k=>Ej k w s f t rc) (λ r=>r=ask w s f t rc):=by
 unfold Ej ask;refine Glb (Pd s hs) ?_;cases hs':Ao s
 ·exact Gcb rfl (G9b rfl)
 refine Gbb rfl ?_;rw[Zb,cond_false]
 by_cases hl:(f.2.2.length:Int) > 200
 ·rw[decide_eq_true hl];exact Gcb rfl (G9b rfl)
 ·rw[decide_eq_false hl,cond_false];refine Gbb rfl ?_;simp only[Ob,U7a hst,Vn];cases inR t 0 1000000000
  ·exact Gcb rfl (G9b rfl)
  refine Gbb rfl ?_;rw[Zb,cond_false];cases (w.2.2.2.2.1.length:Int)==200
  case true=>exact Gcb rfl (G9b rfl)
  refine Gbb rfl ?_;rw[cond_false];cases (K8 w.2.2.2.1 t 0).1==w.2.2.2.1.1&&((K8 w.2.2.2.1 t 0).2.1==w.2.2.2.1.2.1&&(K8 w.2.2.2.1 t 0).2.2==w.2.2.2.1.2.2)
  case true=>exact Gcb rfl (G9b rfl)
  refine Gbb rfl (Glb (P6a (w.1,w.2.1,w.2.2.1,K8 w.2.2.2.1 t 0,w.2.2.2.2) s (K8 w.2.2.2.1 t 0,f.2) rc hr hn hs' (J9.2 ⟨(Uh hst t 0).1,by show f.2.2.length≤200;omega,hd⟩) hw) ?_);exact G9b rfl
def pst (src:Int) (s:ByteArray) (f:Fil) (rc ps:List Int) (a:List Nod×Bool×Bool) (j:Nat):List Nod×Bool×Bool:=
 bif ps.getD j 0==src then (a.1,true,a.2.2) else bif rch rc j != 1 then (a.1,a.2.1,false) else
  (a.1.set (ps.getD j 0).toNat ((a.1.getD (ps.getD j 0).toNat C9).1,(keep (a.1.getD (ps.getD j 0).toNat C9).2.1 s f true).1,(a.1.getD (ps.getD j 0).toNat C9).2.2),a.2.1,
   bif (keep (a.1.getD (ps.getD j 0).toNat C9).2.1 s f true).2 != 0&&(keep (a.1.getD (ps.getD j 0).toNat C9).2.1 s f true).2 != 1 then false else a.2.2)
def P0 (w:Wld) (s:ByteArray):List Int:=whr w.2.2.1 (Pi w.2.1 s)
def puN (w:Wld) (i:Nat) (s:ByteArray) (rc:List Int):List Nod×Bool×Bool:=run (pst (i:Int) s (lkD (w.2.2.1.getD i C9).2.1 s).1 rc (P0 w s)) (P0 w s).length (w.2.2.1,false,true)
def G1b (n:Nod) (s:ByteArray):Nod:=(n.1,(syD (rmD n.2.1 s).1 s).1,n.2.2)
def Hsa (w:Wld) (i:Nat) (s:ByteArray) (rc:List Int):Bool×Wld:=bif (lkD (w.2.2.1.getD i C9).2.1 s).2 != 0 then (false,w) else
 (true,wN w (bif (puN w i s rc).2.2&&!(puN w i s rc).2.1 then (puN w i s rc).1.set i (G1b ((puN w i s rc).1.getD i C9) s) else (puN w i s rc).1))
def Zja {n:Nod} (hn:NG n) {s:ByteArray} (hs:Ao s=true):NG (G1b n s):=Eoa hn (Bgb (X2a hn.g) hs)
def Kja {n:Nod} (hn:NG n) {s:ByteArray} {f:Fil} {sure:Bool}:NG (n.1,(keep n.2.1 s f sure).1,n.2.2):=Eoa hn (Z7a hn.g)
def Zka {src:Int} {s:ByteArray} {f:Fil} {rc ps:List Int} {a:List Nod×Bool×Bool} {j m:Nat} (h:NS a.1∧a.1.length=m) (hc:(ps.getD j 0).toNat<m):NS (pst src s f rc ps a j).1∧(pst src s f rc ps a j).1.length=m:=by
 unfold pst;cases ps.getD j 0==src
 case true=>exact h
 cases rch rc j != 1 with
 |true=>exact h
 |false=>exact⟨h.1.set (Kja (h.1.get (by have:=h.2;omega))),by rw[cond_false,cond_false,Vz];exact h.2⟩
def Ui {w:Wld} {s:ByteArray} {x:Int} (h:x∈P0 w s):0≤x∧x<(w.2.2.1.length:Int):=by
 obtain⟨j,h1,_,rfl⟩:=B9a.1 h;omega
def U8a {w:Wld} {s:ByteArray} (hr:Ha w.2.1 w.1=true) (hn:w.2.2.1.length≤2000000):(P0 w s).length≤4000000000000:=Og hn (Y4 (Nj hr) s)
def Egb {w:Wld} {i:Nat} {s:ByteArray} {rc:List Int} (hn:NS w.2.2.1):NS (puN w i s rc).1∧(puN w i s rc).1.length=w.2.2.1.length:=
 N0 (λ _ (b:List Nod×Bool×Bool)=>NS b.1∧b.1.length=w.2.2.1.length) ⟨hn,rfl⟩ (λ j b hj hb=>Zka hb (by have:=Ui (A4 (d:=0) hj);omega))
def Xwa (w:Wld) (i:Nat) (s:ByteArray) (rc:List Int) (hr:Ha w.2.1 w.1=true) (hn:NS w.2.2.1) (hi:i<w.2.2.1.length):Tot (λ k=>Cp k w (i:Int) s rc) (λ r=>r=Hsa w i s rc):=by
 have hni:=hn.get hi;unfold Cp Hsa;have e0:w.2.2.1.getD i ((0:Int),(([],[]),([],[])))=w.2.2.1.getD i C9:=rfl;simp (disch:=omega) only [dT,Vg,e0];have hin:=(Xf hni).1;refine Glb (Xz hin.1.1.1.1 hin.2.1 s) ?_;cases hl:(lkD (w.2.2.1.getD i C9).2.1 s).2 != 0
 case true=>exact Gcb rfl (G9b rfl)
 refine Gbb rfl ?_;rw[cond_false]
 have hlk:∃ b,gt (w.2.2.1.getD i C9).2.1.1 s=some b:=by
  rw[bne,Wg,beq_iff_eq]at hl;obtain⟨b,hb,_⟩:=Ox.1 (show lkD (w.2.2.1.getD i C9).2.1 s=((lkD (w.2.2.1.getD i C9).2.1 s).1,0) from by rw[← hl]);exact⟨b,hb⟩
 have hs:Ao s=true:=T3a hni.g.1 (by obtain⟨b,hb⟩:=hlk;rw[hb];rfl)
 have hsz:s.size≤1000000000:=by
  have:=Dg.1 (Va _ _ ▸ hs:_∧_).2;omega
 refine Glb (Y3 _ s (Nj hr) hsz) ?_;refine Glb (Se w _ hn.1 (Y4 (Nj hr) s)) ?_;have hpl:=U8a (s:=s) hr hn.1;have hc:=λ x=>Ui (w:=w) (s:=s) (x:=x);have hrun:puN w i s rc=run (pst (i:Int) s (lkD (w.2.2.1.getD i C9).2.1 s).1 rc (P0 w s)) (P0 w s).length (w.2.2.1,false,true):=rfl;obtain⟨p1,p2⟩:=Egb (w:=w) (i:=i) (s:=s) (rc:=rc) hn
 have inv:∀ n,n≤(P0 w s).length→NS (run (pst (i:Int) s (lkD (w.2.2.1.getD i C9).2.1 s).1 rc (P0 w s)) n (w.2.2.1,false,true)).1∧(run (pst (i:Int) s (lkD (w.2.2.1.getD i C9).2.1 s).1 rc (P0 w s)) n (w.2.2.1,false,true)).1.length=w.2.2.1.length:=λ n hn'=>
  N0 (λ _ (b:List Nod×Bool×Bool)=>NS b.1∧b.1.length=w.2.2.1.length) ⟨hn,rfl⟩ (λ j b hj hb=>Zka hb (by have:=hc _ (A4 (d:=0) (show j<(P0 w s).length by omega));omega))
 rw[show whr w.2.2.1 (Pi w.2.1 s)=P0 w s from rfl];generalize (lkD (w.2.2.1.getD i C9).2.1 s).1=f at *;generalize P0 w s=ps at *;refine Gab (Q:=λ r=>r=((i:Int),s,(puN w i s rc).2.1,(puN w i s rc).2.2,wN w (puN w i s rc).1)) ?_ ?_
 ·refine Gib (L:=λ k j (a:List Nod×Bool×Bool)=>Bm k (i:Int) s rc ps a.2.1 a.2.2 j (wN w a.1) f) (Q:=λ r=>r=((i:Int),s,(puN w i s rc).2.1,(puN w i s rc).2.2,wN w (puN w i s rc).1)) ps.length (λ j a=>a=run (pst (i:Int) s f rc ps) j (w.2.2.1,false,true)) ?_ ?_ 0 (w.2.2.1,false,true) (Vt _) rfl
  ·rintro a rfl;simp (disch:=omega) only [Bm,dF];exact G9b (by rw[hrun])
  ·rintro j a hj rfl next;obtain⟨i1,i2⟩:=inv j (by omega);rw[Nk]at next;generalize run (pst (i:Int) s f rc ps) j (w.2.2.1,false,true)=a at *;obtain⟨ns,o,g⟩:=a;dsimp only at i1 i2;have hci:=hc _ (A4 (d:=0) hj);obtain⟨m,em⟩:∃ m:Nat,ps.getD j 0=(m:Int):=⟨(ps.getD j 0).toNat,by omega⟩;rw[em]at hci;unfold pst at next;rw[em,Int.toNat_natCast]at next;have e0:ns.getD m ((0:Int),(([],[]),([],[])))=ns.getD m C9:=rfl;simp (disch:=omega) only [Bm,dT,Int.toNat_natCast,w64,em,wN]
   cases hz:(m:Int)==(i:Int) with
   |true=>
    rw[hz]at next;exact Gcb rfl (next _ rfl)
   |false=>
    rw[hz]at next;refine Gbb rfl ?_;simp only[Kga,Vn]
    cases h1:rch rc j != 1 with
    |true=>
     rw[h1]at next;exact Gcb rfl (next _ rfl)
    |false=>
     rw[h1]at next;refine Gbb rfl ?_;simp (disch:=omega) only [dT,Int.toNat_natCast,e0];have hm:=Xf (i1.get (i:=m) (by omega));refine Glb (Mxa (ns.getD m C9).2.1 s f true hm.1.1 hm.1.2.1 (J0 hs)) ?_;dsimp only at next;generalize keep (ns.getD m C9).2.1 s f true=q at *;cases h2:q.2 != 0
     ·rw[h2]at next;exact Gbb rfl (next _ rfl)
     rw[h2]at next;refine Gcb rfl ?_
     cases h3:q.2 != 1 with
     |true=>rw[h3]at next;exact Gcb rfl (next _ rfl)
     |false=>rw[h3]at next;exact Gbb rfl (next _ rfl)
 ·rintro r rfl;dsimp only[wN];generalize puN w i s rc=a at *;obtain⟨ns,o,g⟩:=a;dsimp only at p1 p2 ⊢;cases g
  ·exact Gbb rfl (G9b rfl)
  refine Gcb rfl ?_;cases o
  case true=>exact Gbb rfl (G9b rfl)
  refine Gcb rfl ?_;have e0:ns.getD i ((0:Int),(([],[]),([],[])))=ns.getD i C9:=rfl
  have hil:(i:Int)<(ns.length:Int):=by omega
  simp (disch:=omega) only [dT,Vg,e0];have hg:=(p1.get (i:=i) (by omega)).g;refine Glb (T8 hg.1 (J0 hs)) ?_;refine Glb (Ue (X2a hg).1 hs) ?_;exact G9b rfl

def tk (n:Nod) (l:List Row):Bool×Nod:=bif decide ((Xu n.2.2.1 l).length > 60) then (false,n) else (true,(n.1,n.2.1,Xu n.2.2.1 l,n.2.2.2))
def Flb {n:Nod} {l:List Row} (hn:NG n) (hl:L5 l=true):NG (tk n l).2:=by
 obtain⟨h1,h2,h3,h4,h5⟩:=C2.1 hn.1;unfold tk
 by_cases h:(Xu n.2.2.1 l).length > 60
 ·rw[decide_eq_true h];exact hn
 ·rw[decide_eq_false h];exact⟨C2.2 ⟨h1,h2,h3,Axa h4 hl (by omega),h5⟩,hn.2⟩
def gst (src:Int) (l:List Row) (self:Bool) (rc ls:List Int) (a:List Nod×Bool) (j:Nat):List Nod×Bool:=
 bif ls.getD j 0==src&&!self then a else bif rch rc j != 1 then (a.1,false) else
  (a.1.set (ls.getD j 0).toNat (tk (a.1.getD (ls.getD j 0).toNat C9) l).2,bif (tk (a.1.getD (ls.getD j 0).toNat C9) l).1 then a.2 else false)
def Pp (w:Wld) (src:Int) (l:List Row) (self:Bool) (rc:List Int):List Nod×Bool:=run (gst src l self rc (Lx w)) (Lx w).length (w.2.2.1,true)
def Zla {src:Int} {l:List Row} {self:Bool} {rc ls:List Int} {a:List Nod×Bool} {j m:Nat} (hl:L5 l=true) (h:NS a.1∧a.1.length=m) (hc:(ls.getD j 0).toNat<m):NS (gst src l self rc ls a j).1∧(gst src l self rc ls a j).1.length=m:=by
 unfold gst;cases ls.getD j 0==src&&!self
 case true=>exact h
 cases rch rc j != 1 with
 |true=>exact h
 |false=>exact⟨h.1.set (Flb (h.1.get (by have:=h.2;omega)) hl),by rw[cond_false,cond_false,Vz];exact h.2⟩
def Sf {w:Wld} {x:Int} (h:x∈Lx w):0≤x∧x<(w.2.2.1.length:Int):=by
 obtain⟨j,h1,_,rfl⟩:=B9a.1 h;omega
def Bba {w:Wld} (hr:RBd w.2.1) (hn:w.2.2.1.length≤2000000):(Lx w).length≤4000000000000:=Og hn (Y4 hr _)
def Nha {w:Wld} {src:Int} {l:List Row} {self:Bool} {rc:List Int} (hl:L5 l=true) (hn:NS w.2.2.1):NS (Pp w src l self rc).1∧(Pp w src l self rc).1.length=w.2.2.1.length:=
 N0 (λ _ (b:List Nod×Bool)=>NS b.1∧b.1.length=w.2.2.1.length) ⟨hn,rfl⟩ (λ j b hj hb=>Zla hl hb (by have:=Sf (A4 (d:=0) hj);omega))
def Nia (w:Wld) (src:Int) (l:List Row) (self:Bool) (rc:List Int) (hr:RBd w.2.1) (hn:NS w.2.2.1) (hl:L5 l=true):
  Tot (λ k=>Bq k w src l self rc) (λ r=>r=((Pp w src l self rc).2,wN w (Pp w src l self rc).1)):=by
 have hll:=(K5a hl).1;unfold Bq;refine Glb (Baa w hr hn.1) ?_;have hpl:=Bba hr hn.1;have hc:=λ x=>Sf (w:=w) (x:=x);have hrun:Pp w src l self rc=run (gst src l self rc (Lx w)) (Lx w).length (w.2.2.1,true):=rfl
 have inv:∀ n,n≤(Lx w).length→NS (run (gst src l self rc (Lx w)) n (w.2.2.1,true)).1∧(run (gst src l self rc (Lx w)) n (w.2.2.1,true)).1.length=w.2.2.1.length:=λ n hn'=>
  N0 (λ _ (b:List Nod×Bool)=>NS b.1∧b.1.length=w.2.2.1.length) ⟨hn,rfl⟩ (λ j b hj hb=>Zla hl hb (by have:=hc _ (A4 (d:=0) (show j<(Lx w).length by omega));omega))
 generalize Lx w=ls at *;refine Gab (Q:=λ r=>r=((Pp w src l self rc).2,wN w (Pp w src l self rc).1)) ?_ (by rintro r rfl;exact G9b rfl);refine Gib (L:=λ k j (a:List Nod×Bool)=>An k src l self rc ls a.2 j (wN w a.1)) (Q:=λ r=>r=((Pp w src l self rc).2,wN w (Pp w src l self rc).1)) ls.length (λ j a=>a=run (gst src l self rc ls) j (w.2.2.1,true)) ?_ ?_ 0 (w.2.2.1,true) (Vt _) rfl
 ·rintro a rfl;simp (disch:=omega) only [An,dF];exact G9b (by rw[hrun])
 ·rintro j a hj rfl next;obtain⟨i1,i2⟩:=inv j (by omega);rw[Nk]at next;generalize run (gst src l self rc ls) j (w.2.2.1,true)=a at *;obtain⟨ns,g⟩:=a;dsimp only at i1 i2;have hci:=hc _ (A4 (d:=0) hj);obtain⟨m,em⟩:∃ m:Nat,ls.getD j 0=(m:Int):=⟨(ls.getD j 0).toNat,by omega⟩;rw[em]at hci;unfold gst at next;rw[em,Int.toNat_natCast]at next;have e0:ns.getD m ((0:Int),(([],[]),([],[])))=ns.getD m C9:=rfl;have hm:=Xf (i1.get (i:=m) (by omega));have h12:=D3a (ns.getD m C9) l hm.2.1.1 hll;rw[show (bif decide ((Xu (ns.getD m C9).2.2.1 l).length > 60) then (false,(ns.getD m C9)) else (true,((ns.getD m C9).1,(ns.getD m C9).2.1,Xu (ns.getD m C9).2.2.1 l,(ns.getD m C9).2.2.2)))=tk (ns.getD m C9) l from rfl]at h12
  have body:(bif (m:Int)==src&&!self then false else true)=true→Tot (λ k=>(C3 rc (j:Int)).bind λ r2=>cond (r2 != 1) (An k src l self rc ls false ((j:Int)+1) (wN w ns)) (cond (decide ((0:Int)≤(m:Int))) (cond (decide ((m:Int)<(length ns:Int))) ((I9 k (ns.getD m C9) l).bind λ r5=>cond (!r5.1) (An k src l self rc ls false ((j:Int)+1) (wN w (ns.set m r5.2))) (An k src l self rc ls g ((j:Int)+1) (wN w (ns.set m r5.2)))) none) none)) (λ r=>r=((Pp w src l self rc).2,wN w (Pp w src l self rc).1)):=by
   intro hb
   have hb':((m:Int)==src&&!self)=false:=by
    cases hx:((m:Int)==src&&!self) with
    |false=>rfl
    |true=>rw[hx]at hb;cases hb
   rw[hb']at next;simp only[Kga,Vn]
   cases h1:rch rc j != 1 with
   |true=>
    rw[h1]at next;exact Gcb rfl (next _ rfl)
   |false=>
    rw[h1]at next;refine Gbb rfl (Gdb (by omega) (Gdb (by omega) (Gab h12 ?_)));rintro q rfl;dsimp only at next;generalize tk (ns.getD m C9) l=q at *
    cases h2:q.1 with
    |false=>rw[h2]at next;exact Gcb rfl (next _ rfl)
    |true=>rw[h2]at next;exact Gbb rfl (next _ rfl)
  simp (disch:=omega) only [An,dT,Vg,w64,em,e0]
  cases hz:(m:Int)==src with
  |true=>
   rw[hz]at next body;refine Gcb rfl ?_;cases self
   ·exact Gcb rfl (next _ rfl)
   refine Gbb rfl ?_;have:=body rfl;dsimp only[wN]at this ⊢;simp (disch:=omega) only [dT]at this;exact this
  |false=>
   rw[hz]at next body;refine Gbb rfl ?_;have:=body rfl;dsimp only[wN]at this ⊢;simp (disch:=omega) only [dT]at this;exact this
def P7a {r:Row} (h:Nd r=true):L5 [r]=true:=Mm.2 ⟨Hib _ _,λ x hx=>by rw[Vs.1 hx];exact h,by simp⟩
def W9:L5 []=true:=Mm.2 ⟨List.Pairwise.nil,(λ _ hx=>nomatch hx),Vt _⟩
def U9a (n:Nod):Nod:=(n.1,n.2.1,[],n.2.2.2)
def Fmb (n:Nod) (q:List Row):Nod:=(n.1,n.2.1,n.2.2.1,q)
def Nja {n:Nod} (hn:NG n):NG (U9a n):=by
 obtain⟨h1,h2,h3,h4,h5⟩:=C2.1 hn.1;exact⟨C2.2 ⟨h1,h2,h3,W9,h5⟩,hn.2⟩
def Zma {n:Nod} {q:List Row} (hn:NG n) (h:∀ r∈q,Nd r=true) (hl:q.length≤60):NG (Fmb n q):=by
 obtain⟨h1,h2,h3,h4,h5⟩:=C2.1 hn.1;exact⟨C2.2 ⟨h,h2,h3,h4,hl⟩,hn.2⟩
def Sh (w:Wld) (i:Nat) (rc:List Int):List Nod×Bool:=Pp w (i:Int) (w.2.2.1.getD i C9).2.2.1 false rc
def Kka (w:Wld) (i:Nat) (rc:List Int):Bool×Wld:=bif ((w.2.2.1.getD i C9).2.2.1.length:Int)==0 then (false,w) else
 (true,wN w (bif (Sh w i rc).2&&!(Nn (Lx (wN w (Sh w i rc).1)) (i:Int)) then (Sh w i rc).1.set i (U9a ((Sh w i rc).1.getD i C9)) else (Sh w i rc).1))
def Uaa (w:Wld) (i:Nat) (rc:List Int) (hr:RBd w.2.1) (hn:NS w.2.2.1) (hi:i<w.2.2.1.length):Tot (λ k=>Hh k w (i:Int) rc) (λ r=>r=Kka w i rc):=by
 have hni:=hn.get hi;have e0:w.2.2.1.getD i ((0:Int),(([],[]),([],[])))=w.2.2.1.getD i C9:=rfl;have hl:=(C2.1 hni.1).2.2.2.1;unfold Hh Kka;simp (disch:=omega) only [dT,Vg,e0];cases hz:((w.2.2.1.getD i C9).2.2.1.length:Int)==0
 case true=>exact Gcb rfl (G9b rfl)
 refine Gbb rfl (Glb (Nia w (i:Int) _ false rc hr hn hl) ?_);obtain⟨p1,p2⟩:=Nha (w:=w) (src:=(i:Int)) (self:=false) (rc:=rc) hl hn;rw[show Pp w (i:Int) (w.2.2.1.getD i C9).2.2.1 false rc=Sh w i rc from rfl]at p1 p2 ⊢;generalize Sh w i rc=a at *;obtain⟨ns,g⟩:=a;dsimp only at p1 p2 ⊢;cases g
 ·exact Gbb rfl (G9b rfl)
 refine Gcb rfl ?_;refine Gab (Q:=λ r=>r=Nn (Lx (wN w ns)) (i:Int)) ?_ ?_
 ·unfold Ja;refine Glb (Baa (wN w ns) hr p1.1) ?_;refine Glb (T9 _ _ (by have:=Bba (w:=wN w ns) hr p1.1;omega)) ?_;exact G9b rfl
 ·rintro b rfl;cases Nn (Lx (wN w ns)) (i:Int)
  case true=>exact Gbb rfl (G9b rfl)
  have e1:ns.getD i ((0:Int),(([],[]),([],[])))=ns.getD i C9:=rfl;refine Gcb rfl ?_;simp (disch:=omega) only [dT,Vg,e1];exact G9b rfl
def Td (w:Wld) (i:Nat) (rc:List Int):List Nod×Bool:=Pp w (i:Int) ((w.2.2.1.getD i C9).2.2.2.take 1) true rc
def Kla (w:Wld) (i:Nat) (rc:List Int):Bool×Wld:=bif ((w.2.2.1.getD i C9).2.2.2.length:Int)==0 then (false,w) else
 (true,wN w (bif (Td w i rc).2 then (Td w i rc).1.set i (Fmb ((Td w i rc).1.getD i C9) ((w.2.2.1.getD i C9).2.2.2.drop 1)) else (Td w i rc).1))
def Te {q:List Row} (h:∀ r∈q,Nd r=true):L5 (q.take 1)=true:=by
 cases q with
 |nil=>exact W9
 |cons r q=>exact P7a (h r Yu)
def Uba (w:Wld) (i:Nat) (rc:List Int) (hr:RBd w.2.1) (hn:NS w.2.2.1) (hi:i<w.2.2.1.length):Tot (λ k=>Hi k w (i:Int) rc) (λ r=>r=Kla w i rc):=by
 have hni:=hn.get hi;have e0:w.2.2.1.getD i ((0:Int),(([],[]),([],[])))=w.2.2.1.getD i C9:=rfl;obtain⟨hq,_,_,_,hq60⟩:=C2.1 hni.1;have hl:=Te hq;unfold Hi Kla;simp (disch:=omega) only [dT,Vg,e0];cases hz:((w.2.2.1.getD i C9).2.2.2.length:Int)==0
 case true=>exact Gcb rfl (G9b rfl)
 have h1:=beq_eq_false_iff_ne.1 hz;refine Gbb rfl (Gdb (by omega) (Glb (Nia w (i:Int) _ true rc hr hn hl) ?_));obtain⟨p1,p2⟩:=Nha (w:=w) (src:=(i:Int)) (self:=true) (rc:=rc) hl hn;rw[show Pp w (i:Int) ((w.2.2.1.getD i C9).2.2.2.take (toNat 1)) true rc=Td w i rc from rfl];rw[show Pp w (i:Int) ((w.2.2.1.getD i C9).2.2.2.take 1) true rc=Td w i rc from rfl]at p1 p2;generalize Td w i rc=a at *;obtain⟨ns,g⟩:=a;dsimp only at p1 p2 ⊢;cases g
 ·exact Gbb rfl (G9b rfl)
 refine Gcb rfl (Gdb (by omega) (Ghb (by rw[Wh,Vj];omega) ?_));have e1:ns.getD i ((0:Int),(([],[]),([],[])))=ns.getD i C9:=rfl;simp (disch:=omega) only [dT,Vg,e1,Wb];exact G9b rfl
def Uca:∀ (k:Nat) (l:List ByteArray) (s:ByteArray),k<l.length→∃ j,j≤k∧(I9a l k s).2=j∧(I9a l k s).1.set j s=l.take j++s::((l.take k).drop j++l.drop (k+1))∧(∀ y∈(l.take k).drop j,tlt s y=true)∧(0<j→tlt s (l.getD (j-1) P3)=false)
 |0,l,s,hk=>by
  refine⟨0,Vw _,rfl,?_,λ y hy=>by simp at hy,λ h=>by omega⟩
  cases l with
  |nil=>simp at hk
  |cons x l=>rfl
 |k+1,l,s,hk=>by
  unfold I9a
  cases hc:tlt s (l.getD k P3) with
  |false=>
   rw[cond_false];refine⟨k+1,Vw _,rfl,?_,λ y hy=>?_,λ _=>hc⟩
   ·rw[Hkb,Hgb,Gub,Wb];exact H4b .. |>.trans (if_pos hk)
   ·rw[Hkb,Hgb,Gub]at hy;cases hy
  |true=>
   rw[cond_true];obtain⟨j,h1,h2,h3,h4,h5⟩:=Uca k (l.set (k+1) (l.getD k P3)) s (by rw[Vz];omega)
   have t1:(l.set (k+1) (l.getD k P3)).take j=l.take j:=by rw[Irb (by omega)]
   have t2:(l.set (k+1) (l.getD k P3)).take k=l.take k:=by rw[Irb (by omega)]
   have t3:(l.set (k+1) (l.getD k P3)).drop (k+1)=l.getD k P3::l.drop (k+2):=by
    rw[Za (by rw[Vz];exact hk),List.getElem_set_self,List.drop_set_of_lt (by omega)]
   have t4:l.take (k+1)=l.take k++[l.getD k P3]:=by
    rw[Wl (by omega),Vc,Vk (by omega),Ye]
   have hlk:(l.take k).length=k:=by rw[Vu];omega
   rw[t1,t2,t3]at h3;rw[t2]at h4;refine⟨j,by omega,h2,?_,λ y hy=>?_,λ h=>?_⟩
   ·rw[h3,t4,Ijb (by omega),Vp];rfl
   ·rw[t4,Ijb (by omega)]at hy;rcases Vo.1 hy with hy|hy
    ·exact h4 y hy
    ·rw[Vs.1 hy];exact hc
   ·have:=h5 h;rwa [Vc,Hab (by omega),← Vc]at this
def D6a {l:List ByteArray} {s:ByteArray}:∃ j,j≤l.length∧Zga l s=l.take j++s::l.drop j∧(∀ y∈l.drop j,tlt s y=true)∧(0<j→tlt s (l.getD (j-1) P3)=false):=by
 obtain⟨j,h1,h2,h3,h4,h5⟩:=Uca l.length (l++[s]) s (by simp)
 have t1:(l++[s]).take l.length=l:=by rw[Ikb (Vw _),Yx]
 have t2:(l++[s]).drop (l.length+1)=[]:=I7b (by simp);have t3:(l++[s]).take j=l.take j:=Ikb h1;rw[t1]at h4;rw[t1,t2,t3,Wn]at h3;refine⟨j,h1,?_,h4,λ h=>?_⟩
 ·unfold Zga;rw[h2,h3]
 ·have:=h5 h;rwa [Vc,Yf (by omega),← Vc]at this
def spl (l:List ByteArray) (s:ByteArray):List ByteArray:=bif Eza l s then l else Zga l s
def Eva {l:List ByteArray} {s y:ByteArray}:y∈spl l s↔y=s∨y∈l:=by
 unfold spl
 cases h:Eza l s with
 |true=>
  have:=Nda.1 h;exact⟨.inr,λ h=>h.elim (λ e=>e ▸ this) id⟩
 |false=>
  obtain⟨j,_,e,_⟩:=D6a (l:=l) (s:=s);rw[cond_false,e,Vo,Vl]
  conv=>rhs;rw[← Wm j l,Vo]
  constructor
  ·rintro (h|h|h)
   ·exact .inr (.inl h)
   ·exact .inl h
   ·exact .inr (.inr h)
  ·rintro (h|h|h)
   ·exact .inr (.inl h)
   ·exact .inl h
   ·exact .inr (.inr h)
def D7a {l:List ByteArray} {s:ByteArray} (h:TS l):TS (spl l s):=by
 unfold spl;cases hh:Eza l s
 case true=>exact h
 have hn:s∉l:=λ c=>by rw[Nda.2 c]at hh;cases hh
 obtain⟨j,h1,e,h4,h5⟩:=D6a (l:=l) (s:=s);rw[cond_false,e]
 have hs:∀ y∈l.take j,tlt y s=true:=by
  intro y hy
  by_cases hj:0<j
  ·have hlast:l.getD (j-1) P3∈l:=A4 (by omega)
   have hlt:tlt (l.getD (j-1) P3) s=true:=by
    cases hc:tlt (l.getD (j-1) P3) s with
    |true=>rfl
    |false=>exact absurd (Aha hc (h5 hj) ▸ hlast) hn
   obtain⟨i,hi,rfl⟩:=Zg.1 hy;rw[Vu]at hi;rw[List.getElem_take]
   by_cases hij:i=j-1
   ·subst hij;rwa [Vc,Vk (by omega),Ye]at hlt
   ·have:=Zk.1 h i (j-1) (by omega) (by omega) (by omega);rw[Vc,Vk (by omega),Ye]at hlt;exact My this hlt
  ·rw[show j=0 by omega,Gub]at hy;cases hy
 have hd:TS (l.drop j):=h.sublist (List.drop_sublist _ _);have ht:TS (l.take j):=h.sublist (J7b _ _)
 exact Zc.2 ⟨ht,Wi.2 ⟨h4,hd⟩,λ a ha b hb=>by
  rcases Vl.1 hb with rfl|hb
  ·exact hs a ha
  ·exact My (hs a ha) (h4 b hb)⟩
def Uda (l:List ByteArray) (s:ByteArray) (hl:l.length≤5000000):Tot (λ k=>Dj k l s) (λ r=>r=spl l s):=by
 unfold Dj spl;refine Glb (Nea l s (by omega)) ?_;cases Eza l s
 case true=>exact Gcb rfl (G9b rfl)
 have loop:∀ (k:Nat) (x:List ByteArray),k<x.length→x.length≤5000001→Tot (λ n=>Ey n s x (k:Int)) (λ r=>r=(s,(I9a x k s).1,((I9a x k s).2:Int))):=by
  intro k
  induction k with
  |zero=>
   intro x hk hx;refine Tot.succ ?_;simp (disch:=omega) only [Ey,dF];exact G9b rfl
  |succ k ih=>
   intro x hk hx;refine Tot.succ ?_
   have e1:((k+1:Nat):Int)-1=(k:Int):=by omega
   have e0:x.getD k (⟨#[]⟩:ByteArray)=x.getD k P3:=rfl;simp (disch:=omega) only [Ey,dT,w64,e1,Vg,e0,M7a];unfold I9a;refine Gfb (λ h=>?_) (λ h=>?_)
   ·rw[h,cond_true];exact ih _ (by rw[Vz];omega) (by rw[Vz];omega)
   ·rw[h,cond_false];exact G9b rfl
 have n0:([]:List ByteArray).length=0:=rfl;have n1:([s]:List ByteArray).length=1:=rfl
 have nl:(l++[s]).length=l.length+1:=by simp
 refine Gbb rfl (Ghb (by rw[n0];omega) ?_);simp only[Wb];refine Ghb (by rw[n1];omega) ?_;rw[nl,w64 (n:=((l.length+1:Nat):Int)-1) (by omega) (by omega),show ((l.length+1:Nat):Int)-1=(l.length:Int) by omega];refine Glb (loop l.length (l++[s]) (by omega) (by omega)) ?_;obtain⟨i1,i2,_⟩:=B5a l.length (l++[s]) s;simp (disch:=omega) only [dT,Vg];exact G9b rfl

abbrev Evt:=Int×Int×ByteArray×List Int×Int×List Int
def Eyb (e:Evt):Prop:=Jr e.2.2.1∧e.2.2.2.1.length≤1000000000∧(-9223372036854775808≤e.2.2.2.2.1∧e.2.2.2.2.1≤9223372036854775807)∧e.2.2.2.2.2.length≤4000000000000
def Hta (l:List Int):List Bool:=l.map (· == 1)
def crN (n:Nod) (kp:List Bool):Nod:=(n.1,Tc n.2.1 kp,n.2.2)
def Ehb {n:Nod} {kp:List Bool} (hn:NG n):NG (crN n kp):=Eoa hn (Tta hn.g)
def Crb (w:Wld) (i:Nat) (s:ByteArray) (b:Int):Bool×Wld:=bif (N1a (w.2.2.1.getD i C9) s b).2 then (true,(w.1,w.2.1,w.2.2.1.set i (N1a (w.2.2.1.getD i C9) s b).1,w.2.2.2.1,w.2.2.2.2.1,spl w.2.2.2.2.2 s)) else (false,w)
def Hua (w:Wld) (e:Evt) (i:Nat):Bool×Wld:=
 bif e.1==3 then Hsa w i e.2.2.1 e.2.2.2.2.2 else bif e.1==4 then Kka w i e.2.2.2.2.2 else bif e.1==5 then Kla w i e.2.2.2.2.2 else
 bif e.1==6 then (true,wN w (w.2.2.1.set i (Fzb (w.2.2.1.getD i C9)).1)) else
 bif e.1==7 then (true,wN w (w.2.2.1.set i (crN (w.2.2.1.getD i C9) (Hta e.2.2.2.2.2)))) else Crb w i e.2.2.1 e.2.2.2.2.1
def Uea (w:Wld) (e:Evt) (i:Nat) (hei:e.2.1=(i:Int)) (he:Eyb e) (hr:Ha w.2.1 w.1=true) (hn:NS w.2.2.1) (hi:i<w.2.2.1.length) (hsp:w.2.2.2.2.2.length≤2000000):
  Tot (λ k=>B3 k w e) (λ r=>r=Hua w e i):=by
 have hni:=hn.get hi;have e0:w.2.2.1.getD i ((0:Int),(([],[]),([],[])))=w.2.2.1.getD i C9:=rfl;obtain⟨he1,he2,he3,he4⟩:=he;unfold B3 Hua
 cases e.1==3 with
 |true=>
  rw[hei];refine Gcb rfl (Glb (Xwa w i _ _ hr hn hi) ?_);exact G9b rfl
 |false=>
  refine Gbb rfl ?_
  cases e.1==4 with
  |true=>
   rw[hei];refine Gcb rfl (Glb (Uaa w i _ (Nj hr) hn hi) ?_);exact G9b rfl
  |false=>
   refine Gbb rfl ?_
   cases e.1==5 with
   |true=>
    rw[hei];refine Gcb rfl (Glb (Uba w i _ (Nj hr) hn hi) ?_);exact G9b rfl
   |false=>
    refine Gbb rfl ?_
    cases e.1==6 with
    |true=>
     refine Gcb rfl ?_;simp (disch:=omega) only [hei,dT,Vg,e0];refine Glb (Txa _ hni.g) ?_;exact G9b rfl
    |false=>
     refine Gbb rfl ?_
     cases e.1==7 with
     |true=>
      refine Gcb rfl (Gab (Q:=λ r=>r=(Hta e.2.2.2.2.2,w,e)) ?_ ?_)
      ·refine Gib (L:=λ k j (s:List Bool)=>D5 k s j w e) (Q:=λ r=>r=(Hta e.2.2.2.2.2,w,e)) e.2.2.2.2.2.length (λ j s=>s=Hta (e.2.2.2.2.2.take j)) ?_ ?_ 0 [] (Vt _) rfl
       ·rintro s rfl;simp (disch:=omega) only [D5,dF];exact G9b (by rw[Yx])
       ·rintro j s hj rfl next;simp (disch:=omega) only [D5,dT,Vg,w64]
        have hk:(Hta (e.2.2.2.2.2.take j)).length=j:=by unfold Hta;rw[Wd,Vu];omega
        refine Ghb (by rw[hk,Idb];omega) (next _ ?_);unfold Hta;rw[Wl hj,Gxb,Vc,Vk hj];rfl
      ·rintro r rfl;simp (disch:=omega) only [hei,dT,Vg,e0];refine Glb (Twa _ _ hni.g (by unfold Hta;rw[Wd];exact he4)) ?_;exact G9b rfl
     |false=>
      refine Gbb rfl ?_;simp (disch:=omega) only [hei,dT,Vg,e0];refine Glb (Aya _ _ _ (Xf hni) he3.2 he3.1) ?_;unfold Crb;rw[cond_false,cond_false,cond_false,cond_false,cond_false];generalize N1a (w.2.2.1.getD i C9) e.2.2.1 e.2.2.2.2.1=q
      cases h:q.2 with
      |true=>
       refine Gcb rfl (Glb (Uda _ _ (by omega)) ?_);exact G9b rfl
      |false=>exact Gbb rfl (G9b rfl)
def Kma (w:Wld) (i wt:Int):Bool×Wld:=bif !(inR i 0 ((w.1.length:Int)-1)) then (false,w) else bif !(inR wt 1 1000) then (false,w) else
 (decide ((Kaa w.2.1 (wgt w.1 i.toNat wt)).2≥0),(wgt w.1 i.toNat wt,(Kaa w.2.1 (wgt w.1 i.toNat wt)).1,w.2.2))
def Ufa (w:Wld) (i wt:Int) (hr:Ha w.2.1 w.1=true):Tot (λ k=>Hn k w i wt) (λ r=>r=Kma w i wt):=by
 have h12:=(De.1 (Ay.1 hr).1).2.2.2;unfold Hn Kma;rw[w64 (n:=(w.1.length:Int)-1) (by omega) (by omega)];simp only[Ob,Vn];cases h1:inR i 0 ((w.1.length:Int)-1)
 ·exact Gcb rfl (G9b rfl)
 refine Gbb rfl ?_;cases h2:inR wt 1 1000
 ·exact Gcb rfl (G9b rfl)
 refine Gbb rfl ?_;obtain⟨i0,i1⟩:=Dg.1 h1;obtain⟨w0,w1⟩:=Dg.1 h2;simp (disch:=omega) only [dT];refine Glb (Tqa (r:=w.2.1) (l:=wgt w.1 i.toNat wt) (Ela hr (by omega) w0 w1)) ?_;exact G9b rfl
def Zna (r:Int×Wld):Bool×Wld:=bif r.1 != 2 then (r.1 != 3,r.2) else (false,r.2)
def doW (w:Wld) (e:Evt):Bool×Wld:=
 bif e.1==1 then Zna (ask w e.2.2.1 ((0,0,0),false,e.2.2.2.1) e.2.2.2.2.1 e.2.2.2.2.2) else
 bif e.1==2 then Zna (ask w e.2.2.1 ((0,0,0),true,[]) e.2.2.2.2.1 e.2.2.2.2.2) else
 bif e.1==3||(e.1==4||(e.1==5||(e.1==6||(e.1==7||e.1==8)))) then (bif inR e.2.1 0 ((w.2.2.1.length:Int)-1) then Hua w e e.2.1.toNat else (false,w)) else
 bif e.1==9 then Kma w e.2.1 e.2.2.2.2.1 else (false,w)
def Eib (w:Wld) (e:Evt) (he:Eyb e) (hr:Ha w.2.1 w.1=true) (hn:NS w.2.2.1) (hst:Ep w.2.2.2.1=true) (hw:w.2.2.2.2.1.length≤2000000) (hsp:w.2.2.2.2.2.length≤2000000):
  Tot (λ k=>J1 k w e) (λ r=>r=doW w e):=by
 have hnl:=hn.1
 have node:∀ {f:Nat→Option (Bool×Wld)} ,Tot (λ k=>(A8 e.2.1 0 (wrap .i64 ((length w.2.2.1:Int)-1))).bind λ r4=>cond r4 ((B3 k w e).bind λ r5=>some (r5.1,r5.2)) (some (false,w))) (λ r=>r=bif inR e.2.1 0 ((w.2.2.1.length:Int)-1) then Hua w e e.2.1.toNat else (false,w)):=by
  intro f;rw[w64 (n:=(w.2.2.1.length:Int)-1) (by omega) (by omega)];simp only[Ob,Vn];cases h1:inR e.2.1 0 ((w.2.2.1.length:Int)-1)
  ·exact Gbb rfl (G9b rfl)
  obtain⟨i0,i1⟩:=Dg.1 h1;refine Gcb rfl (Glb (Uea w e e.2.1.toNat (by omega) he hr hn (by omega) hsp) ?_);exact G9b rfl
 have answer:∀ (q:Int×Wld),Tot (λ _=>cond (q.1 != 2) (some (q.1 != 3,q.2)) (some (false,q.2))) (λ r=>r=Zna q):=by
  intro q;unfold Zna
  cases q.1 != 2<;>exact G9b rfl
 unfold J1 doW
 cases e.1==1 with
 |true=>
  refine Gcb rfl (Ghb (by have:=he.2.1;rw[Vj];omega) (Glb (Kia w e.2.2.1 ((0,0,0),false,e.2.2.2.1) e.2.2.2.2.1 e.2.2.2.2.2 hr hn hst he.1 (λ h=>by cases h) hw) ?_));exact answer _
 |false=>
  refine Gbb rfl ?_
  cases e.1==2 with
  |true=>
   refine Gcb rfl (Glb (Kia w e.2.2.1 ((0,0,0),true,[]) e.2.2.2.2.1 e.2.2.2.2.2 hr hn hst he.1 (λ _=>rfl) hw) ?_);exact answer _
  |false=>
   refine Gbb rfl ?_;cases e.1==3
   case true=>exact Gcb rfl (node (f:=λ _=>none))
   refine Gbb rfl ?_;cases e.1==4
   case true=>exact Gcb rfl (node (f:=λ _=>none))
   refine Gbb rfl ?_;cases e.1==5
   case true=>exact Gcb rfl (node (f:=λ _=>none))
   refine Gbb rfl ?_;cases e.1==6
   case true=>exact Gcb rfl (node (f:=λ _=>none))
   refine Gbb rfl ?_;cases e.1==7
   case true=>exact Gcb rfl (node (f:=λ _=>none))
   refine Gbb rfl ?_;cases e.1==8
   case true=>exact Gcb rfl (node (f:=λ _=>none))
   refine Gbb rfl ?_
   cases e.1==9 with
   |true=>
    refine Gcb rfl (Glb (Ufa w _ _ hr) ?_);exact G9b rfl
   |false=>exact Gbb rfl (G9b rfl)

def Sq {a b c:Stp} (h1:sle a b=false) (h2:sle b c=false):sle a c=false:=by
 cases h:sle a c
 ·rfl
 have n1:¬ _:=λ k=>by rw[Rl.2 k]at h1;cases h1
 have n2:¬ _:=λ k=>by rw[Rl.2 k]at h2;cases h2
 have h3:=Rl.1 h;omega
def Uj {a b:Stp} (h:sle a b=true):sle b a=false:=by
 cases h':sle b a
 ·rfl
 have h1:=Rl.1 h;have h2:=Rl.1 h';omega
def Ewa (ws:List Wri):Prop:=∀ x∈ws,Ao x.1=true∧Cu x.2.1=true∧Aj x.2.1.2.2
def IsW (ws:List Wri) (s:ByteArray) (f:Fil):Prop:=∃ x∈ws,x.1=s∧x.2.1=f
def EO (ws:List Wri) (sp:List ByteArray) (s:ByteArray) (b:List Int):Prop:=∃ f,IsW ws s f∧(b=Lr f∨(s∈sp∧∃ n,n<8*(Lr f).length∧b=Nt (Lr f) n))
def ED (ws:List Wri) (sp:List ByteArray) (d:Dsk) (s:ByteArray):Prop:=
 (∀ b,gt d.1 s=some b→EO ws sp s b)∧(∀ b,gt d.2 s=some b→EO ws sp s b)∧
 (s∉sp→∀ b f,gt d.2 s=some b→O3 b=some f→∃ b' f',gt d.1 s=some b'∧O3 b'=some f'∧sle f'.1 f.1=false)
def DI (ws:List Wri) (sp:List ByteArray) (d:Dsk):Prop:=∀ s,ED ws sp d s
def HD (d:Dsk) (s:ByteArray) (st:Stp):Prop:=∃ b f,gt d.2 s=some b∧O3 b=some f∧sle f.1 st=false
def MO (sp:List ByteArray) (d d':Dsk):Prop:=∀ s,s∉sp→∀ st,HD d s st→HD d' s st
def IsW.good {ws:List Wri} (hw:Ewa ws) {s:ByteArray} {f:Fil} (h:IsW ws s f):Ao s=true∧Cu f=true∧Aj f.2.2:=by
 obtain⟨x,hx,rfl,rfl⟩:=h;exact hw x hx
def EO.get {ws:List Wri} {sp:List ByteArray} (hw:Ewa ws) {s:ByteArray} {b:List Int} (h:EO ws sp s b) {f:Fil} (hf:O3 b=some f):IsW ws s f∧b=Lr f:=by
 obtain⟨g,h1,h2⟩:=h;obtain⟨_,g2,g3⟩:=h1.good hw;rcases h2 with rfl|⟨_,n,hn,rfl⟩
 ·rw[Ub g2 g3]at hf;cases hf;exact⟨h1,rfl⟩
 ·rw[Xga g2 hn]at hf;cases hf
def EO.fine {ws:List Wri} {sp:List ByteArray} (hw:Ewa ws) {s:ByteArray} {b:List Int} (h:EO ws sp s b) (hs:s∉sp):∃ f,O3 b=some f∧IsW ws s f:=by
 obtain⟨g,h1,h2⟩:=h;obtain⟨_,g2,g3⟩:=h1.good hw;rcases h2 with rfl|⟨h,_⟩
 ·exact⟨g,Ub g2 g3,h1⟩
 ·exact absurd h hs
def EO.mono {ws ws':List Wri} {sp sp':List ByteArray} (h1:∀ x∈ws,x∈ws') (h2:∀ s∈sp,s∈sp') {s:ByteArray} {b:List Int} (h:EO ws sp s b):EO ws' sp' s b:=by
 obtain⟨g,⟨x,hx,e⟩,h3⟩:=h;refine⟨g,⟨x,h1 x hx,e⟩,?_⟩;rcases h3 with h3|⟨h3,h4⟩
 ·exact .inl h3
 ·exact .inr ⟨h2 s h3,h4⟩
def ED.mono {ws ws':List Wri} {sp sp':List ByteArray} (h1:∀ x∈ws,x∈ws') (h2:∀ s∈sp,s∈sp') {d:Dsk} {s:ByteArray} (h:ED ws sp d s):ED ws' sp' d s:=
 ⟨λ b hb=>(h.1 b hb).mono h1 h2,λ b hb=>(h.2.1 b hb).mono h1 h2,λ hs=>h.2.2 (λ c=>hs (h2 s c))⟩
def DI.mono {ws ws':List Wri} {sp sp':List ByteArray} (h1:∀ x∈ws,x∈ws') (h2:∀ s∈sp,s∈sp') {d:Dsk} (h:DI ws sp d):DI ws' sp' d:=λ s=>(h s).mono h1 h2
def ED.same {ws:List Wri} {sp:List ByteArray} {d d':Dsk} {s:ByteArray} (h:ED ws sp d s) (e1:gt d'.1 s=gt d.1 s) (e2:gt d'.2 s=gt d.2 s):ED ws sp d' s:=by
 unfold ED;rw[e1,e2];exact h
def HD.same {d d':Dsk} {s:ByteArray} {st:Stp} (h:HD d s st) (e2:gt d'.2 s=gt d.2 s):HD d' s st:=by
 unfold HD;rw[e2];exact h
def MO.refl (sp:List ByteArray) (d:Dsk):MO sp d d:=λ _ _ _ h=>h
def MO.trans {sp:List ByteArray} {a b c:Dsk} (h1:MO sp a b) (h2:MO sp b c):MO sp a c:=λ s hs st h=>h2 s hs st (h1 s hs st h)
section
variable {ws:List Wri} {sp:List ByteArray} {d:Dsk} {s:ByteArray}
def ED.ge (h:ED ws sp d s) (hs:s∉sp) {st:Stp} (hh:HD d s st):∃ b f,gt d.1 s=some b∧O3 b=some f∧sle f.1 st=false:=by
 obtain⟨b,f,h1,h2,h3⟩:=hh;obtain⟨b',f',h4,h5,h6⟩:=h.2.2 hs b f h1 h2;exact⟨b',f',h4,h5,Sq h6 h3⟩
def Bwb (hd:Ap d=true) (h:DI ws sp d):DI ws sp (d.1,sy d s):=by
 intro t
 by_cases ht:s=t
 ·subst ht
  have e:gt (sy d s) s=gt d.1 s:=by rw[K4a hd,if_pos rfl]
  refine⟨(h s).1,λ b hb=>(h s).1 b (by rw[← e];exact hb),λ hs b f hb hf=>⟨b,f,by rw[← e];exact hb,hf,Ln _⟩⟩
 ·exact(h t).same rfl (by show gt (sy d s) t=_;rw[K4a hd,if_neg ht])
def Ejb (hd:Ap d=true) (h:DI ws sp d):MO sp d (d.1,sy d s):=by
 intro t ht st hh
 by_cases hst:s=t
 ·subst hst;obtain⟨b,f,h1,h2,h3⟩:=(h s).ge ht hh;exact⟨b,f,by show gt (sy d s) s=_;rw[K4a hd,if_pos rfl,h1],h2,h3⟩
 ·exact hh.same (by show gt (sy d s) t=_;rw[K4a hd,if_neg hst])
def Fnb (hw:Ewa ws) (hd:Ap d=true) (h:DI ws sp d) {f:Fil} (hf:IsW ws s f) (hn:∀ o,old d s=some o→sle o.1 f.1=true):DI ws sp (wr d.1 s (Lr f),d.2):=by
 intro t
 by_cases ht:s=t
 ·subst ht
  have e:gt (wr d.1 s (Lr f)) s=some (Lr f):=by rw[H8a (Ng hd),if_pos rfl]
  obtain⟨_,g2,g3⟩:=hf.good hw;refine⟨λ b hb=>?_,(h s).2.1,λ hs b g hb hg=>⟨Lr f,f,e,Ub g2 g3,?_⟩⟩
  ·rw[show gt (wr d.1 s (Lr f)) s=some b from hb]at e;cases e;exact⟨f,hf,.inl rfl⟩
  ·obtain⟨b',f',k1,k2,k3⟩:=(h s).2.2 hs b g hb hg;have:=hn f' (by unfold old;rw[k1];exact k2);exact Sq (Uj this) k3
 ·exact(h t).same (by show gt (wr d.1 s (Lr f)) t=_;rw[H8a (Ng hd),if_neg ht]) rfl
def Uga (hw:Ewa ws) (hd:DG d) (h:DI ws sp d) {f:Fil} {sure:Bool} (hf:IsW ws s f):DI ws sp (keep d s f sure).1∧MO sp d (keep d s f sure).1:=by
 obtain⟨g1,g2,g3⟩:=hf.good hw;rw[Awa hd.1 g1 g2];rcases W1 (f:=f) (sure:=sure) hd g1 with k|⟨o,_,_,k,hg,h3⟩|⟨h1,h2,k,hg,h3⟩
 ·rw[k];exact⟨h,MO.refl _ _⟩
 ·rcases h3 with⟨_,h3⟩|⟨_,h3⟩
  ·rw[h3];exact⟨h,MO.refl _ _⟩
  ·rw[h3];exact⟨Bwb hd.1 h,Ejb hd.1 h⟩
 ·have hw':=Fnb hw hd.1 h hf h1;rcases h3 with⟨_,h3⟩|⟨_,h3⟩
  ·rw[h3];exact⟨hw',λ t _ st hh=>hh.same rfl⟩
  ·rw[h3];exact⟨Bwb h2.1 hw',(show MO sp d (wr d.1 s (Lr f),d.2) from λ t _ st hh=>hh.same rfl).trans (Ejb h2.1 hw')⟩
def Uha (hw:Ewa ws) (hd:DG d) {f:Fil} (hf:IsW ws s f) (hc:(keep d s f true).2=0∨(keep d s f true).2=1):HD (keep d s f true).1 s f.1:=by
 obtain⟨g1,g2,g3⟩:=hf.good hw;rw[Awa hd.1 g1 g2]at hc ⊢;obtain⟨o,g,b,ho,_,e,h1,h2,h3⟩:=T9a hd g1 g2 g3 hc;rw[e];exact⟨b,g,by show gt (sy o s) s=_;rw[K4a ho.1,if_pos rfl,h1],h2,h3⟩
def Bxb (hd:DG d) (h:DI ws sp d) (kp:List Bool):DI ws sp (Tc d kp):=by
 intro t;rcases Tua (d:=d) (kp:=kp) t with e|⟨e1,e2⟩
 ·rw[e];exact h t
 ·unfold ED;rw[e1]
  have eo:∀ b,gt (Tc d kp).1 t=some b→EO ws sp t b:=by
   intro b hb;rcases e2 with e2|e2
   ·exact(h t).1 b (by rw[← e2];exact hb)
   ·exact(h t).2.1 b (by rw[← e2];exact hb)
  exact⟨eo,eo,λ _ b f hb hf=>⟨b,f,hb,hf,Ln _⟩⟩
def Byb (hd:DG d) (h:DI ws sp d) (kp:List Bool):MO sp d (Tc d kp):=by
 intro t ht st hh;rcases Tua (d:=d) (kp:=kp) t with e|⟨e1,e2⟩
 ·rw[e];exact hh
 ·unfold HD;rw[e1];rcases e2 with e2|e2
  ·rw[e2];exact(h t).ge ht hh
  ·rw[e2];exact hh
def Xxa (hw:Ewa ws) (hd:DG d) (h:DI ws sp d):DI ws sp (Oy d).1∧MO sp d (Oy d).1:=by
 obtain⟨_,hc⟩:=B4a d.1 (d,0) hd;have hc':∀ t,(t∈Eya d.1→gt (Oy d).1.1 t=none∧gt (Oy d).1.2 t=none)∧(t∉Eya d.1→gt (Oy d).1.1 t=gt d.1 t∧gt (Oy d).1.2 t=gt d.2 t):=hc
 have hb:∀ t,t∈Eya d.1→t∈sp:=by
  intro t ht;obtain⟨b,h1,h2⟩:=(Xja hd.1).1 ht
  by_cases hs:t∈sp
  ·exact hs
  ·obtain⟨f,hf,_⟩:=((h t).1 b h1).fine hw hs;rw[hf]at h2;cases h2
 constructor
 ·intro t
  by_cases ht:t∈Eya d.1
  ·obtain⟨e1,e2⟩:=(hc' t).1 ht;unfold ED;rw[e1,e2];exact⟨λ b hb=>(by cases hb),λ b hb=>(by cases hb),λ _ b f hb=>(by cases hb)⟩
  ·obtain⟨e1,e2⟩:=(hc' t).2 ht;exact(h t).same e1 e2
 ·intro t ht st hh;exact hh.same ((hc' t).2 (λ c=>ht (hb t c))).2
def Ekb (hd:DG d) (h:DI ws sp d) (hs:Ao s=true):DI ws sp (syD (rmD d s).1 s).1∧∀ t,t≠s→∀ st,HD d t st→HD (syD (rmD d s).1 s).1 t st:=by
 have hr:DI ws sp (rmD d s).1∨True := .inr trivial;unfold rmD
 cases hg:gt d.1 s with
 |none=>
  have e:(bif (none:Option (List Int)).isSome then ((cut d.1 s,d.2),true) else (d,false)).1=d:=rfl;rw[e];unfold syD
  by_cases hl:(sy d s).length≤60
  ·rw[decide_eq_true hl];exact⟨Bwb hd.1 h,λ t ht st hh=>hh.same (by show gt (sy d s) t=_;rw[K4a hd.1,if_neg (Hyb ht)])⟩
  ·rw[decide_eq_false hl];exact⟨h,λ t ht st hh=>hh⟩
 |some b=>
  have e:(bif (some b:Option (List Int)).isSome then ((cut d.1 s,d.2),true) else (d,false)).1=(cut d.1 s,d.2):=rfl;rw[e];have hd':Ap (cut d.1 s,d.2)=true:=Ec.2 ⟨Wy (Ec.1 hd.1).1,(Ec.1 hd.1).2⟩
  have e1:∀ t,gt (cut d.1 s) t=if s=t then none else gt d.1 t:=λ t=>Ud (Ng hd.1)
  have e2:∀ t,gt (sy (cut d.1 s,d.2) s) t=if s=t then none else gt d.2 t:=λ t=>by
   rw[K4a hd']
   by_cases hst:s=t
   ·rw[if_pos hst,if_pos hst];show gt (cut d.1 s) s=none;rw[e1,if_pos rfl]
   ·rw[if_neg hst,if_neg hst]
  have hlen:(sy (cut d.1 s,d.2) s).length≤60:=by
   have:sy (cut d.1 s,d.2) s=cut d.2 s:=by
    unfold sy;have:=e1 s;rw[if_pos rfl]at this;rw[show gt (cut d.1 s,d.2).1 s=none from this]
   rw[this];exact Zo Ov.length_le (Al.1 (Ec.1 hd.1).2).2.2
  unfold syD;rw[decide_eq_true hlen];constructor
  ·intro t;show ED ws sp (cut d.1 s,sy (cut d.1 s,d.2) s) t
   by_cases hst:s=t
   ·unfold ED;dsimp only;rw[e1,e2,if_pos hst,if_pos hst];exact⟨λ b hb=>(by cases hb),λ b hb=>(by cases hb),λ _ b f hb=>(by cases hb)⟩
   ·exact(h t).same (by show gt (cut d.1 s) t=_;rw[e1,if_neg hst]) (by show gt (sy (cut d.1 s,d.2) s) t=_;rw[e2,if_neg hst])
  ·intro t ht st hh;exact hh.same (by show gt (sy (cut d.1 s,d.2) s) t=_;rw[e2,if_neg (Hyb ht)])
def Elb (hw:Ewa ws) (hd:DG d) (h:DI ws sp d) {n:Int} (hl:(lkD d s).2=0) (hr:(I8a d s n).2=true) (sp':List ByteArray) (hsp:∀ t,t∈sp'↔t=s∨t∈sp):DI ws sp' (I8a d s n).1∧MO sp' d (I8a d s n).1∧∃ f,IsW ws s f:=by
 obtain⟨b,hb,hf⟩:=Ox.1 (show lkD d s=((lkD d s).1,0) by rw[← hl]);obtain⟨hW,e⟩:=((h s).1 b hb).get hw hf;have hsub:∀ t∈sp,t∈sp':=λ t ht=>(hsp t).2 (.inr ht);generalize (lkD d s).1=f at *;unfold I8a at hr ⊢;rw[hb]at hr ⊢;dsimp only at hr ⊢;cases hin:inR n 0 (8*(b.length:Int)-1)
 ·rw[hin]at hr;cases hr
 rw[cond_true];obtain⟨n0,n1⟩:=Dg.1 hin
 have hn:n.toNat<8*(Lr f).length:=by rw[← e];omega
 have e1:∀ t,gt (wr d.1 s (Nt b n.toNat)) t=if s=t then some (Nt b n.toNat) else gt d.1 t:=λ t=>H8a (Ng hd.1)
 have e2:∀ t,gt (bif decide (gt d.2 s=some b) then wr d.2 s (Nt b n.toNat) else d.2) t=if s=t∧gt d.2 s=some b then some (Nt b n.toNat) else gt d.2 t:=by
  intro t
  by_cases hg:gt d.2 s=some b
  ·rw[decide_eq_true hg,cond_true,H8a (Rq hd.1)]
   by_cases hst:s=t
   ·rw[if_pos hst,if_pos ⟨hst,hg⟩]
   ·rw[if_neg hst,if_neg (λ c=>hst c.1)]
  ·rw[decide_eq_false hg,cond_false,if_neg (λ c=>hg c.2)]
 have hflip:EO ws sp' s (Nt b n.toNat):=⟨f,hW,.inr ⟨(hsp s).2 (.inl rfl),n.toNat,hn,by rw[e]⟩⟩;refine⟨λ t=>?_,λ t ht st hh=>?_,f,hW⟩
 ·by_cases hst:s=t
  ·subst hst;refine⟨λ x hx=>?_,λ x hx=>?_,λ c=>absurd ((hsp s).2 (.inl rfl)) c⟩
   ·have:=e1 s;rw[if_pos rfl]at this;rw[show gt (wr d.1 s (Nt b n.toNat)) s=some x from hx]at this;cases this;exact hflip
   ·have:=e2 s;rw[show gt (bif decide (gt d.2 s=some b) then wr d.2 s (Nt b n.toNat) else d.2) s=some x from hx]at this
    by_cases hg:gt d.2 s=some b
    ·rw[if_pos ⟨rfl,hg⟩]at this;cases this;exact hflip
    ·rw[if_neg (λ c=>hg c.2)]at this;exact((h s).2.1 x this.symm).mono (λ _ h=>h) hsub
  ·refine((h t).mono (λ _ h=>h) hsub).same ?_ ?_
   ·show gt (wr d.1 s (Nt b n.toNat)) t=_;rw[e1,if_neg hst]
   ·show gt (bif decide (gt d.2 s=some b) then wr d.2 s (Nt b n.toNat) else d.2) t=_;rw[e2,if_neg (λ c=>hst c.1)]
 ·have hst:s≠t:=λ c=>ht ((hsp t).2 (.inl c.symm));exact hh.same (by show gt (bif decide (gt d.2 s=some b) then wr d.2 s (Nt b n.toNat) else d.2) t=_;rw[e2,if_neg (λ c=>hst c.1)])
end

end Go.Proofs.YtcpligincipmhaaGreat.Vf
