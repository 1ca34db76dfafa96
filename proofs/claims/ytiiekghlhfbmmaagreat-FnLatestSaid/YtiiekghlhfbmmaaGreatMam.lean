import Derived.Test.YtiiekghlhfbmmaaGreatMal
set_option linter.all false
namespace Go.Proofs.YtiiekghlhfbmmaaGreat.Vf
open Go
open List (length getD)
open Int (toNat)
open Go.IntKind (wrap)
open BitVec (ofInt)
def Yj:=@Bool.and_false
def Zh:=@Bool.not_true
def Zl:=@List.mem_iff_getElem
def Zy:=@List.filter_cons
def Hzb:=@Bool.false_or
def I5b:=@List.takeWhile_append_dropWhile
def Ieb:=@Bool.eq_iff_iff
def Ijb:=@Bool.not_false
def Imb:=@List.dropWhile_cons
def Izb:=@List.mem_filter
def Jxb:=@List.findIdx?_eq_none_iff
def K0b:=@Go.IntWalk.u32_in
def K2b:=@List.append_cancel_left
def K9b:=@Bool.true_or
def Kab:=@BitVec.xor_comm
def Kbb:=@BitVec.eq_of_toNat_eq
def Kfb:=@Nat.mod_lt

def Kra (l:List Int) (h:l.length≤1000000000000):(length ([]:List Int)+l.length)*1≤140737488355328:=by
 simp only[Vj];omega
def B7a (l:List Nmd) (hf:F1a l):∀ (n i:Nat) (acc:List Nmd),l.length-i=n→i≤l.length→acc.length≤i→
  Tot (λ k=>Ci k l acc (i:Int)) (λ r=>r=acc++l.drop i):=by
 obtain⟨h1,h2⟩:=hf;intro n
 induction n with
 |zero=>
  intro i acc hd hi ha;refine Tot.succ ?_;simp only[Ci];refine H9b (by omega) (H4b ?_);rw[Wj (by omega),Wp]
 |succ n ih=>
  intro i acc hd hi ha
  have hlt:i<l.length:=by omega
  refine Tot.succ ?_;simp only[Ci];refine H8b (by omega) (H8b (by omega) (H8b (by omega) (H8b (by omega) (H8b (by omega) ?_))));rw[show toNat (i:Int)=i from Vc i,w64 (n:=(i:Int)+1) (by omega) (by omega),Ah (d:=Ea) hlt];have e0:l.getD i ((⟨#[]⟩:ByteArray),([]:List Int))=l.getD i Ea:=rfl;rw[e0];have hb:=h2 _ (A4 (d:=Ea) hlt);refine Hcb (Kra _ hb) (Hcb (by simp only[Vd,Vj];omega) ?_);refine(ih (i+1) (acc++[l.getD i Ea]) (by omega) (by omega) (by simp only[Ve,Vd,Vj];omega)).mono ?_;rintro r rfl;rw[Vo];rfl
def Pl (l:List Nmd) (hf:F1a l):Tot (λ k=>Bi k l) (λ r=>r=l):=by
 unfold Bi;refine H5b (B7a l hf _ 0 [] rfl (Vq _) (Vq _)) ?_;intro r hr;rw[Wn,Wa]at hr;exact H4b hr
def Mg (d:Dsk) (hf:Xoa d):Tot (λ k=>A7 k d) (λ r=>r=d):=by
 unfold A7;refine Hfb (Pl d.1 hf.1) ?_;refine Hfb (Pl d.2 hf.2) ?_;exact H4b rfl
def Tia (l:List Nmd) (s:ByteArray) (hf:l.length≤1000000000000):∀ (n i:Nat),l.length-i=n→i≤l.length→
  Tot (λ k=>Jt k l s (i:Int)) (λ r=>r=match fnd (l.drop i) s with|some j => .inl ((i+j:Nat):Int)|none => .inr ()):=by
 intro n
 induction n with
 |zero=>
  intro i hd hi;refine Tot.succ ?_;simp only[Jt];refine H9b (by omega) (H4b ?_);rw[Wj (by omega)];rfl
 |succ n ih=>
  intro i hd hi
  have hlt:i<l.length:=by omega
  refine Tot.succ ?_;simp only[Jt];refine H8b (by omega) (H8b (by omega) (H8b (by omega) ?_));rw[show toNat (i:Int)=i from Vc i,w64 (n:=(i:Int)+1) (by omega) (by omega),Ah (d:=Ea) hlt];have e0:l.getD i ((⟨#[]⟩:ByteArray),([]:List Int))=l.getD i Ea:=rfl;rw[e0]
  have e1:fnd (l.getD i Ea::l.drop (i+1)) s=if teq (l.getD i Ea).1 s then some 0 else (fnd (l.drop (i+1)) s).map (· + 1):=by
   unfold fnd;rw[Ixb]
  rw[e1];refine Hab (λ h=>?_) (λ h=>?_)
  ·have h':teq (l.getD i Ea).1 s=true:=h;rw[if_pos h'];exact H4b rfl
  ·have h':¬ (teq (l.getD i Ea).1 s=true):=by
    have:teq (l.getD i Ea).1 s=false:=h;rw[this];simp
   rw[if_neg h'];refine(ih (i+1) (by omega) (by omega)).mono ?_;rintro r rfl
   cases fnd (l.drop (i+1)) s with
   |none=>rfl
   |some j=>
    show Sum.inl _=Sum.inl _;rw[show i+1+j=i+(j+1) by omega]
def Dia (l:List Nmd) (s:ByteArray) (hf:l.length≤1000000000000):Tot (λ k=>Dg k l s) (λ r=>r=Hka l s):=by
 unfold Dg Hka;refine Hfb (Tia l s hf _ 0 rfl (Vq _)) ?_;rw[Wn]
 cases fnd l s with
 |none=>exact H4b rfl
 |some j=>
  refine H4b ?_;rw[Wl]
def cut (l:List Nmd) (s:ByteArray):List Nmd:=l.filter (λ x => !(teq x.1 s))
def Pna (l:List Nmd) (s:ByteArray) (hf:l.length≤1000000000000):∀ (n i:Nat) (acc:List Nmd),l.length-i=n→i≤l.length→acc.length≤i→
  Tot (λ k=>I1 k l s acc (i:Int)) (λ r=>r=acc++cut (l.drop i) s):=by
 intro n
 induction n with
 |zero=>
  intro i acc hd hi ha;refine Tot.succ ?_;simp only[I1];refine H9b (by omega) (H4b ?_);rw[Wj (by omega)];simp[cut]
 |succ n ih=>
  intro i acc hd hi ha
  have hlt:i<l.length:=by omega
  refine Tot.succ ?_;simp only[I1];refine H8b (by omega) (H8b (by omega) (H8b (by omega) ?_));rw[show toNat (i:Int)=i from Vc i,w64 (n:=(i:Int)+1) (by omega) (by omega),Ah (d:=Ea) hlt];have e0:l.getD i ((⟨#[]⟩:ByteArray),([]:List Int))=l.getD i Ea:=rfl;rw[e0]
  have e1:cut (l.getD i Ea::l.drop (i+1)) s=if (!(teq (l.getD i Ea).1 s))=true then l.getD i Ea::cut (l.drop (i+1)) s else cut (l.drop (i+1)) s:=by
   unfold cut;rw[Zy]
  rw[e1];refine Hab (λ h=>?_) (λ h=>?_)
  ·have h':(!(teq (l.getD i Ea).1 s))=true:=h;rw[if_pos h'];refine H8b (by omega) (H8b (by omega) (Hcb (by simp only[Vd,Vj];omega) ?_));refine(ih (i+1) (acc++[l.getD i Ea]) (by omega) (by omega) (by simp only[Ve,Vd,Vj];omega)).mono ?_;rintro r rfl;rw[Vo];rfl
  ·have h':¬ ((!(teq (l.getD i Ea).1 s))=true):=by
    have:(!(teq (l.getD i Ea).1 s))=false:=h;rw[this];simp
   rw[if_neg h'];exact ih (i+1) acc (by omega) (by omega) (by omega)
def Tja (l:List Nmd) (s:ByteArray) (hf:l.length≤1000000000000):Tot (λ k=>Jj k l s) (λ r=>r=cut l s):=by
 unfold Jj;refine H5b (Pna l s hf _ 0 [] rfl (Vq _) (Vq _)) ?_;intro r hr;rw[Wn,Wa]at hr;exact H4b hr
def Qt (d:Dsk) (hf:Xoa d) (hs:B6a d):Tot (λ k=>Bp k d) (λ r=>r=Al d):=by
 unfold Bp Al;refine Hfb (Hoa d.1 hf.1.1 hs.1) ?_;cases h:Jp d.1
 ·exact H6b rfl (H4b rfl)
 refine H7b rfl (Hfb (Hoa d.2 hf.2.1 hs.2) ?_);exact H4b (by rw[Vz])

def rdN (l:List Nmd) (s:ByteArray):List Int×Bool:=match fnd l s with
 |some i=>((l.getD i Ea).2,true)
 |none=>([],false)
def Nda (d:Dsk) (s:ByteArray) (hf:F1a d.1):Tot (λ k=>Fq k d s) (λ r=>r=rdN d.1 s):=by
 unfold Fq rdN;refine Hfb (Naa d.1 s hf.1) ?_;unfold Hka;have hl1:=hf.1
 cases h:fnd d.1 s with
 |none=>exact H8b (by decide) (H4b rfl)
 |some i=>
  have hl:=(P6 h).1;dsimp only;refine H9b (by omega) (H8b (by omega) (H8b (by omega) ?_));rw[show toNat (i:Int)=i from Int.toNat_natCast i];have hb:=hf.2 _ (A4 (d:=Ea) hl);refine Hfb (Hgb (Q:=λ r=>r=(d.1.getD i Ea).2) (Nr _ hb) rfl) ?_;exact H4b rfl
def Nea (d:Dsk) (s:ByteArray) (hf:F1a d.1):Tot (λ k=>Fs k d s) (λ r=>r=rdN d.1 s):=by
 unfold Fs rdN;refine Hfb (Dia d.1 s hf.1) ?_;unfold Hka;have hl1:=hf.1
 cases h:fnd d.1 s with
 |none=>exact H8b (by decide) (H4b rfl)
 |some i=>
  have hl:=(P6 h).1;dsimp only;refine H9b (by omega) (H8b (by omega) (H8b (by omega) ?_));rw[show toNat (i:Int)=i from Int.toNat_natCast i];have hb:=hf.2 _ (A4 (d:=Ea) hl);exact Hcb (Kra _ hb) (H4b rfl)

def H0 (l:List Nmd):Prop:=l.Pairwise (λ a b=>tlt a.1 b.1=true)
def Ksa:∀ (p:Option ByteArray) (l:List Nmd),chn p l=true↔H0 l∧(∀ r∈l,nOk r=true)∧(∀ q,p=some q→∀ r∈l,tlt q r.1=true)
 |p,[]=>by
  have:chn p []=true:=by cases p<;>rfl
  simp[this,H0]
 |none,r::l=>by
  simp only[chn,Va,Ksa (some r.1) l,H0,Wk];constructor
  ·rintro⟨h1,h2,h3,h4⟩;exact⟨⟨λ a ha=>h4 _ rfl a ha,h2⟩,λ a ha=>by rcases Vl.1 ha with rfl|ha;exact h1;exact h3 a ha,λ q hq=>by cases hq⟩
  ·rintro⟨⟨h1,h2⟩,h3,_⟩;exact⟨h3 r (by simp),h2,λ a ha=>h3 a (Vi _ ha),λ q hq a ha=>by cases hq;exact h1 a ha⟩
 |some q,r::l=>by
  simp only[chn,Va,Ksa (some r.1) l,H0,Wk];constructor
  ·rintro⟨h1,h0,h2,h3,h4⟩;refine⟨⟨λ a ha=>h4 _ rfl a ha,h2⟩,λ a ha=>by rcases Vl.1 ha with rfl|ha;exact h1;exact h3 a ha,λ q' hq a ha=>?_⟩;cases hq;rcases Vl.1 ha with rfl|ha
   ·exact h0
   ·exact Nb h0 (h4 _ rfl a ha)
  ·rintro⟨⟨h1,h2⟩,h3,h4⟩;exact⟨h3 r (by simp),h4 q rfl r (by simp),h2,λ a ha=>h3 a (Vi _ ha),λ q' hq a ha=>by cases hq;exact h1 a ha⟩
def Ae {l:List Nmd}:Jp l=true↔H0 l∧(∀ r∈l,nOk r=true)∧l.length≤60:=by
 unfold Jp;simp only[Va,Ksa,decide_eq_true_eq];constructor
 ·rintro⟨⟨h1,h2,_⟩,h3⟩;exact⟨h1,h2,by omega⟩
 ·rintro⟨h1,h2,h3⟩;exact⟨⟨h1,h2,λ q hq=>by cases hq⟩,by omega⟩
def Qu {x:Nmd}:nOk x=true↔B1 x.1=true∧x.2.length≤400:=by
 unfold nOk;simp only[Va,Vv,decide_eq_false_iff_not];constructor
 ·rintro⟨h1,h2⟩;exact⟨h1,by omega⟩
 ·rintro⟨h1,h2⟩;exact⟨h1,by omega⟩
def Xg {l:List Nmd} (h:Jp l=true):F1a l∧P7 l:=by
 obtain⟨_,h2,h3⟩:=Ae.1 h;refine⟨⟨by omega,λ x hx=>by have:=(Qu.1 (h2 x hx)).2;omega⟩,λ x hx=>?_⟩;have:=B5a (Qu.1 (h2 x hx)).1;unfold Lc;omega
def Nfa (y:Nmd) (l:List Nmd) (s:ByteArray):fnd (y::l) s=if teq y.1 s then some 0 else (fnd l s).map (· + 1):=by
 unfold fnd;rw[Ixb]
def Xpa {l:List Nmd} {s:ByteArray}:fnd l s=none↔∀ x∈l,x.1≠s:=by
 unfold fnd;rw[Jxb];constructor
 ·intro h x hx e;have:=h x hx;rw[Km.2 e]at this;cases this
 ·intro h x hx
  cases ht:teq x.1 s with
  |false=>rfl
  |true=>exact absurd (Km.1 ht) (h x hx)
def Qv:∀ {l:List Nmd} {s:ByteArray},H0 l→del l s=cut l s
 |[],s,_=>rfl
 |y::l,s,h=>by
  have hc:=Wk.1 h;have ih:=Qv (l:=l) (s:=s) hc.2;unfold del cut at *;rw[Nfa,Zy]
  cases ht:teq y.1 s with
  |true=>
   have hno:∀ x∈l,(!(teq x.1 s))=true:=λ x hx=>by
    cases hx2:teq x.1 s
    ·rfl
    have e1:=Km.1 ht;have e2:=Km.1 hx2;have:=hc.1 x hx;rw[e1,e2,M0]at this;cases this
   rw[if_pos rfl,if_neg (by simp)];show []++l=_;rw[Wa,List.filter_eq_self.2 hno]
  |false=>
   rw[if_neg (by simp),if_pos (show (!false)=true from rfl),← ih]
   cases hf:fnd l s with
   |none=>rfl
   |some i=>rfl
def O4 {l:List Nmd} {s:ByteArray} (h:H0 l):H0 (cut l s):=h.sublist List.filter_sublist
def P8 {l:List Nmd} {s:ByteArray}:(cut l s).Sublist l:=List.filter_sublist
def Xh {l:List Nmd} {s:ByteArray} (h:Jp l=true):Jp (cut l s)=true:=by
 obtain⟨h1,h2,h3⟩:=Ae.1 h;exact Ae.2 ⟨O4 h1,λ x hx=>h2 x (P8.subset hx),by have:=(P8 (l:=l) (s:=s)).length_le;omega⟩
def C8b {l:List Nmd} {s:ByteArray} {i:Nat} (h:fnd l s=some i):(del l s).length+1=l.length:=by
 have hl:=(P6 h).1;unfold del;rw[h];simp only[Ve,Vt,Wc];omega
def Tka {l m:List Nmd} (h:m.Sublist l) (hf:F1a l):F1a m:=⟨by have:=h.length_le;have:=hf.1;omega,λ x hx=>hf.2 x (h.subset hx)⟩
def Hpa {l m:List Nmd} (h:m.Sublist l) (hf:P7 l):P7 m:=λ x hx=>hf x (h.subset hx)

def Poa (l:List Int) (x4:Int):∀ (n:Nat) (x3 i:Int),0≤i→8-i=n→Tot (λ k=>Ia k l x3 x4 i) (λ r=>r.1=l∧r.2.2=x4):=by
 intro n
 induction n with
 |zero=>
  intro x3 i h0 hn;refine Tot.succ ?_;simp only[Ia];exact H9b (by omega) (H4b ⟨rfl,rfl⟩)
 |succ n ih=>
  intro x3 i h0 hn;refine Tot.succ ?_;simp only[Ia];refine H8b (by omega) ?_;rw[w64 (n:=i+1) (by omega) (by omega)];exact Hab (λ _=>ih _ (i+1) (by omega) (by omega)) (λ _=>ih _ (i+1) (by omega) (by omega))
def Ppa (l:List Int) (hl:l.length≤1000000000000):∀ (n i:Nat) (x3:Int),l.length-i=n→i≤l.length→Tot (λ k=>It k l x3 (i:Int)) (λ _=>True):=by
 intro n
 induction n with
 |zero=>
  intro i x3 hd hi;refine Tot.succ ?_;simp only[It];exact H9b (by omega) (H4b trivial)
 |succ n ih=>
  intro i x3 hd hi;refine Tot.succ ?_;simp only[It];refine H8b (by omega) (H8b (by omega) (H8b (by omega) ?_));refine H5b (Poa l (i:Int) 8 _ 0 (by decide) (by decide)) ?_;rintro⟨a,b,c⟩ ⟨h1,h2⟩;simp only at h1 h2;subst h1 h2;dsimp only;rw[w64 (n:=(i:Int)+1) (by omega) (by omega)];exact ih (i+1) b (by omega) (by omega)
def Kta (l:List Int) (hl:l.length≤1000000000000):Tot (λ k=>M5 k l) (λ _=>True):=by
 unfold M5;refine H5b (Ppa l hl _ 0 _ rfl (Vq _)) (λ r _=>H4b trivial)
def B8a (f:Fil) (hf:Zwa f):Tot (λ k=>Bn k f) (λ r=>r.length≤2000000):=by
 unfold Bn
 have hfo:∃ b,C5 f=some b:=by
  unfold C5;rw[Rx];simp only[Vn]
  cases Gz f.1<;>cases decide ((length f.2.2:Int)≤200)<;>cases f.2.1<;>exact⟨_,rfl⟩
 obtain⟨b,hb⟩:=hfo
 have hl:f.2.2.length≤9:=by have:=hf.2.2.1;omega
 refine Hfb (Hgb (Q:=λ r=>r=b) hb rfl) ?_;refine Hab (λ _=>H4b (by simp)) (λ _=>?_);refine Hfb (Dga [] f.1 (by simp)) ?_;refine Hfb (Hgb (Q:=λ r=>r=Caa f.2.1) (N8a _) rfl) ?_;have h1:=Eza f.1;refine Hfb (Wv _ _ (by simp only[Ve,Vj];omega)) ?_;have h2:=(Mz (Br (Caa f.2.1))).1;have h3:(M9 f.2.2).size=f.2.2.length:=O3 _;refine Hfb (N5a _ _ (by simp only[Ve,Vj];omega) (by omega)) ?_;have h4:=Tfa (M9 f.2.2);refine H5b (Kta _ (by simp only[Ve,Vj];omega)) (λ q _=>?_);refine Hcb (by simp only[Ve,Vd,Vj];omega) (H4b ?_);simp only[Ve,Vd,Vj];omega
def F2a (d out:Dsk) (s:ByteArray) (hd:Xoa d∧B6a d) (ho:Xoa out∧B6a out) (hs:Lc s):Tot (λ k=>El k d out s) (λ r=>r=bif Al d&&(B1 s&&Al out) then (out,true) else (d,false)):=by
 unfold El;refine Hfb (Qt d hd.1 hd.2) ?_
 cases h1:Al d with
 |false=>
  refine H7b rfl (Hfb (Mg d hd.1) ?_);exact H4b rfl
 |true=>
  refine H6b rfl (Hfb (Pk s hs) ?_)
  cases h2:B1 s with
  |false=>
   refine H7b rfl (Hfb (Mg d hd.1) ?_);exact H4b rfl
  |true=>
   refine H6b rfl (Hfb (Qt out ho.1 ho.2) ?_)
   cases h3:Al out with
   |false=>
    refine H7b rfl (Hfb (Mg d hd.1) ?_);exact H4b rfl
   |true=>exact H6b rfl (H4b rfl)
def Dja (d:Dsk) (s:ByteArray) (hd:Xoa d∧B6a d) (hs:Lc s):Tot (λ k=>Bj k d s) (λ r=>r=bif (fnd d.1 s).isSome&&(Al d&&(B1 s&&Al (cut d.1 s,d.2))) then ((cut d.1 s,d.2),true) else (d,false)):=by
 unfold Bj;refine H5b (Mg d hd.1) ?_;rintro r rfl;refine H5b (Dia r.1 s hd.1.1.1) ?_;rintro i rfl;unfold Hka
 cases h:fnd r.1 s with
 |none=>exact H8b (by decide) (H4b rfl)
 |some i=>
  dsimp only;refine H9b (by omega) (H5b (Tja r.1 s hd.1.1.1) ?_);rintro c rfl;refine H5b (F2a r (cut r.1 s,r.2) s hd ⟨⟨Tka P8 hd.1.1,hd.1.2⟩,Hpa P8 hd.2.1,hd.2.2⟩ hs) ?_;rintro e rfl;exact H4b rfl

def ptl (x:Nmd):Bool→List Nmd→List Nmd
 |p,[]=>bif p then [] else [x]
 |p,y::l=>(bif !p&&!(tlt y.1 x.1) then [x] else [])++((bif !(teq y.1 x.1) then [y] else [])++ptl x (p||!(tlt y.1 x.1)) l)
def Kua (l:List Nmd) (s:ByteArray) (b:List Int) (hf:l.length≤1000000000000):∀ (n i:Nat) (acc:List Nmd) (p:Bool),l.length-i=n→i≤l.length→acc.length≤2*i→
  Tot (λ k=>Cp k l s acc p (i:Int) s b) (λ r=>r.1++(bif r.2.1 then [] else [(s,b)])=acc++ptl (s,b) p (l.drop i)∧r.2.2=(s,b)∧r.1.length≤2*l.length):=by
 intro n
 induction n with
 |zero=>
  intro i acc p hd hi ha;refine Tot.succ ?_;simp only[Cp];refine H9b (by omega) (H4b ?_);rw[List.drop_of_length_le (by omega)];exact⟨rfl,rfl,by dsimp only;omega⟩
 |succ n ih=>
  intro i acc p hd hi ha
  have hlt:i<l.length:=by omega
  refine Tot.succ ?_;simp only[Cp];refine H8b (by omega) ?_;rw[show toNat (i:Int)=i from Vc i,w64 (n:=(i:Int)+1) (by omega) (by omega),Ah (d:=Ea) hlt];have e0:l.getD i ((⟨#[]⟩:ByteArray),([]:List Int))=l.getD i Ea:=rfl;rw[e0]
  have B5:∀ (ac:List Nmd) (q:Bool),ac.length≤2*i+1→Tot (λ k=>cond (decide ((0:Int)≤i)) (cond (decide ((i:Int)<(length l:Int))) (cond (!((l.getD i Ea).1.toList==s.toList)) (cond (decide ((0:Int)≤i)) (cond (decide ((i:Int)<(length l:Int))) (cond (Nat.ble ((length ac+length [l.getD i Ea])*40) 140737488355328) (Cp k l s (ac++[l.getD i Ea]) q ((i:Int)+1) s b) none) none) none) (Cp k l s ac q ((i:Int)+1) s b)) none) none)
    (λ r=>r.1++(bif r.2.1 then [] else [(s,b)])=ac++((bif !(teq (l.getD i Ea).1 s) then [l.getD i Ea] else [])++ptl (s,b) q (l.drop (i+1)))∧r.2.2=(s,b)∧r.1.length≤2*l.length):=by
   intro ac q hac;refine H8b (by omega) (H8b (by omega) (Hab (λ h=>?_) (λ h=>?_)))
   ·have h':(!(teq (l.getD i Ea).1 s))=true:=h;rw[h'];refine H8b (by omega) (H8b (by omega) (Hcb (by simp only[Vd,Vj];omega) ?_));refine(ih (i+1) (ac++[l.getD i Ea]) q (by omega) (by omega) (by simp only[Ve,Vd,Vj];omega)).mono ?_;rintro r ⟨h1,h2,h3⟩;refine⟨?_,h2,h3⟩;rw[h1,Vo];rfl
   ·have h':(!(teq (l.getD i Ea).1 s))=false:=h;rw[h'];exact ih (i+1) ac q (by omega) (by omega) (by omega)
  cases p with
  |true=>
   refine H6b rfl ?_;refine(B5 acc true (by omega)).mono ?_;rintro r ⟨h1,h2,h3⟩;exact⟨h1,h2,h3⟩
  |false=>
   refine H7b rfl (H8b (by omega) (H8b (by omega) (Hab (λ h=>?_) (λ h=>?_))))
   ·have h':(!(tlt (l.getD i Ea).1 s))=true:=h;refine Hcb (by simp only[Vd,Vj];omega) ?_;refine(B5 (acc++[(s,b)]) true (by simp only[Ve,Vd,Vj];omega)).mono ?_;rintro r ⟨h1,h2,h3⟩;refine⟨?_,h2,h3⟩;rw[h1];simp only[ptl,h',Ijb,Bool.and_self,Hzb,cond_true,Vo]
   ·have h':(!(tlt (l.getD i Ea).1 s))=false:=h;refine(B5 acc false (by omega)).mono ?_;rintro r ⟨h1,h2,h3⟩;refine⟨?_,h2,h3⟩;rw[h1];simp only[ptl,h',Ijb,Yj,Hzb,cond_false,Wa]
def F3a (l:List Nmd) (s:ByteArray) (b:List Int) (hf:l.length≤1000000000000) (hb:b.length≤1000000000000):Tot (λ k=>Fw k l s b) (λ r=>r=ptl (s,b) false l):=by
 unfold Fw;refine Hcb (Kra b hb) ?_;rw[List.nil_append];refine H5b (Kua l s b hf _ 0 [] false rfl (Nat.zero_le _) (Nat.zero_le _)) ?_;rintro⟨r,q,x,y⟩ ⟨h1,h2,h3⟩;rw[List.drop_zero,List.nil_append]at h1;dsimp only at h1 h2 h3;dsimp only
 cases q with
 |true=>
  refine H6b rfl (H4b ?_);rw[← h1];simp
 |false=>
  refine H7b rfl (Hcb (by simp only[Vd,Vj];omega) (H4b ?_));rw[← h1];obtain⟨rfl,rfl⟩:=Prod.mk.inj h2;rfl
def Tla (x:Nmd):∀ (p:Bool) (l:List Nmd),∀ y∈ptl x p l,y∈l∨y=x:=by
 intro p l
 induction l generalizing p with
 |nil=>intro y hy;cases p<;>simp_all [ptl]
 |cons a l ih=>
  intro y hy;simp only[ptl,Vp]at hy;rcases hy with hy|hy|hy
  ·revert hy;cases (!p&&!(tlt a.1 x.1))<;>simp_all
  ·revert hy;cases (!(teq a.1 x.1))<;>simp_all
  ·rcases ih _ y hy with h|h
   ·exact Or.inl (Vi _ h)
   ·exact Or.inr h
def C9b (x:Nmd):∀ (p:Bool) (l:List Nmd),(ptl x p l).length≤l.length+(bif p then 0 else 1):=by
 intro p l
 induction l generalizing p with
 |nil=>cases p<;>simp[ptl]
 |cons a l ih=>
  simp only[ptl,Ve,Vd];have:=ih (p||!(tlt a.1 x.1))
  revert this
  cases p<;>cases tlt a.1 x.1<;>cases teq a.1 x.1<;>simp<;>omega
def Xqa (x:Nmd):∀ (l:List Nmd),ptl x true l=cut l x.1:=by
 intro l
 induction l with
 |nil=>rfl
 |cons a l ih=>
  simp only[ptl,Zh,Zr,cond_false,Wa,K9b,ih,cut,Zy]
  cases teq a.1 x.1<;>simp
def Ww (x:Nmd):∀ {l:List Nmd},H0 l→ptl x false l=ins (cut l x.1) x:=by
 intro l
 induction l with
 |nil=>intro _;rfl
 |cons a l ih=>
  intro h;have hl:H0 l:=(Wk.1 h).2;have ha:=(Wk.1 h).1;simp only[ptl,Ijb,Vz,Hzb]
  cases ht:tlt a.1 x.1 with
  |true=>
   have he:teq a.1 x.1=false:=by
    cases hq:teq a.1 x.1 with
    |false=>rfl
    |true=>rw[(Km.1 hq),M0]at ht;cases ht
   simp only[he,Zh,Ijb,cond_false,cond_true,Wa,ih hl,cut,Zy,if_true];unfold ins plc;rw[Zp,if_pos ht];rfl
  |false=>
   have hc:plc (cut (a::l) x.1) x.1=0:=by
    unfold plc cut;rw[List.length_eq_zero_iff];rw[Zy];cases hq:teq a.1 x.1
    ·rw[Ijb,if_pos rfl,Zp,if_neg (by rw[ht];simp)]
    have hx:=(Km.1 hq);simp only[Zh,Xs,if_false]
    cases hf:l.filter (λ y => !(teq y.1 x.1)) with
    |nil=>rfl
    |cons b m=>
     have hb:b∈l:=by
      have:b∈l.filter (λ y => !(teq y.1 x.1)):=by rw[hf];exact Yv
      exact(Izb.1 this).1
     have hab:=ha b hb;rw[hx]at hab;rw[Zp,if_neg (by rw[Axa hab];simp)]
   simp only[Ijb,cond_true,Xqa];unfold ins;rw[hc];simp only[Hib,Wa,Wn,cut,Zy]
   cases teq a.1 x.1<;>simp

def Tma {l:List Nmd} {x:Nmd} {p:Bool} (hl:F1a l) (hl':l.length≤999999999999) (hx:x.2.length≤1000000000000):F1a (ptl x p l):=by
 refine⟨?_,λ y hy=>?_⟩
 ·have:=C9b x p l
  revert this
  cases p<;>simp<;>omega
 ·rcases Tla x p l y hy with h|rfl
  ·exact hl.2 y h
  ·exact hx
def Hqa {l:List Nmd} {x:Nmd} {p:Bool} (hl:P7 l) (hx:Lc x.1):P7 (ptl x p l):=by
 intro y hy;rcases Tla x p l y hy with h|rfl
 ·exact hl y h
 ·exact hx
def DIn (d:Dsk):Prop:=(Xoa d∧B6a d)∧d.1.length≤2000000∧d.2.length≤2000000
def Nk {d:Dsk} (h:Al d=true):DIn d:=by
 unfold Al at h;rw[Va]at h;have h1:=Xg h.1;have h2:=Xg h.2;exact⟨⟨⟨h1.1,h2.1⟩,h1.2,h2.2⟩,by have:=(Ae.1 h.1).2.2;omega,by have:=(Ae.1 h.2).2.2;omega⟩
def Hra (d:Dsk) (s:ByteArray) (b:List Int) (hd:DIn d) (hs:Lc s) (hb:b.length≤1000000000000):Tot (λ k=>Bh k d s b) (λ r=>r=bif Al d&&(B1 s&&Al (ptl (s,b) false d.1,d.2)) then ((ptl (s,b) false d.1,d.2),true) else (d,false)):=by
 unfold Bh;refine H5b (Mg d hd.1.1) ?_;rintro r rfl;refine H5b (F3a r.1 s b hd.1.1.1.1 hb) ?_;rintro c rfl;refine H5b (F2a r (ptl (s,b) false r.1,r.2) s hd.1 ⟨⟨Tma hd.1.1.1 (by have:=hd.2.1;omega) hb,hd.1.1.2⟩,Hqa hd.1.2.1 hs,hd.1.2.2⟩ hs) ?_;rintro e rfl;exact H4b rfl
def syS (d:Dsk) (s:ByteArray):List Nmd:=match fnd d.1 s with
 |some i=>ptl (s,(d.1.getD i Ea).2) false (cut d.2 s)
 |none=>cut d.2 s
def Eub {d:Dsk} {s:ByteArray} (hd:DIn d) (hs:Lc s):F1a (syS d s)∧P7 (syS d s):=by
 unfold syS;have h1:=Tka (P8 (l:=d.2) (s:=s)) hd.1.1.2;have h2:=Hpa (P8 (l:=d.2) (s:=s)) hd.1.2.2
 cases h:fnd d.1 s with
 |none=>exact⟨h1,h2⟩
 |some i=>
  have hb:=hd.1.1.1.2 _ (A4 (d:=Ea) (P6 h).1);have hc:(cut d.2 s).length≤d.2.length:=(P8 (l:=d.2) (s:=s)).length_le;exact⟨Tma h1 (by have:=hd.2.2;omega) hb,Hqa h2 hs⟩
def Nga (d:Dsk) (s:ByteArray) (hd:DIn d) (hs:Lc s):Tot (λ k=>An k d s) (λ r=>r=bif Al d&&(B1 s&&Al (d.1,syS d s)) then ((d.1,syS d s),true) else (d,false)):=by
 unfold An;have hin:=Eub hd hs;refine H5b (Mg d hd.1.1) ?_;rintro r rfl;refine H5b (Nea r s hd.1.1.1) ?_;rintro b rfl;refine H5b (Tja r.2 s hd.1.1.2.1) ?_;rintro c rfl
 have e:∀ o,o=syS r s→Tot (λ k=>(El k r (r.1,o) s).bind λ r5=>some (r5.1,r5.2)) (λ q=>q=bif Al r&&(B1 s&&Al (r.1,syS r s)) then ((r.1,syS r s),true) else (r,false)):=by
  rintro o rfl;refine H5b (F2a r (r.1,syS r s) s hd.1 ⟨⟨hd.1.1.1,hin.1⟩,hd.1.2.1,hin.2⟩ hs) ?_;rintro e rfl;exact H4b rfl
 have hc:(cut r.2 s).length≤r.2.length:=(P8 (l:=r.2) (s:=s)).length_le
 cases h:fnd r.1 s with
 |none=>
  have h':rdN r.1 s=([],false):=by unfold rdN;rw[h]
  rw[h'];refine H6b rfl (e _ ?_);unfold syS;rw[h]
 |some i=>
  have h':rdN r.1 s=((r.1.getD i Ea).2,true):=by unfold rdN;rw[h]
  rw[h'];have hb:=hd.1.1.1.2 _ (A4 (d:=Ea) (P6 h).1);refine H7b rfl (H5b (F3a (cut r.2 s) s _ (by have:=hd.2.2;omega) hb) ?_);rintro o rfl;refine e _ ?_;unfold syS;rw[h]
def Pqa (d:Dsk) (s:ByteArray) (hd:Xoa d∧B6a d):Tot (λ k=>Fa k d s) (λ r=>r=bif (fnd d.1 s).isSome&&Al d then ((del d.1 s,d.2),true) else (d,false)):=by
 unfold Fa;refine H5b (K8 d hd.1) ?_;rintro r rfl;refine H5b (Sr r hd.1 hd.2) ?_;rintro b rfl;cases h1:Al r
 ·refine H7b rfl (H4b ?_);rw[Yj];rfl
 refine H6b rfl (H5b (Naa r.1 s hd.1.1.1) ?_);rintro i rfl;unfold Hka
 cases h:fnd r.1 s with
 |none=>exact H8b (by decide) (H4b rfl)
 |some i=>
  dsimp only;refine H9b (by omega) (H5b (Uu r.1 s hd.1.1.1) ?_);rintro c rfl;exact H4b rfl
def syI (d:Dsk) (s:ByteArray):List Nmd:=match fnd d.1 s with
 |some i=>ins (del d.2 s) (s,(d.1.getD i Ea).2)
 |none=>del d.2 s
def Dka (l:List Nmd) (s:ByteArray):(del l s).length≤l.length:=by
 cases h:fnd l s with
 |none=>unfold del;rw[h];exact Vx _
 |some i=>have:=C8b h;omega
def Cab (l:List Nmd) (x:Nmd):(ins l x).length=l.length+1:=by
 unfold ins;have:=A0b l x.1;simp only[Ve,Vt,Wc,Vd,Vj];omega
def Xra (d:Dsk) (s:ByteArray) (hd:DIn d) (hs:Lc s):Tot (λ k=>Ca k d s) (λ r=>r=bif Al d&&(B1 s&&decide ((syI d s).length≤60)) then ((d.1,syI d s),true) else (d,false)):=by
 unfold Ca;refine H5b (K8 d hd.1.1) ?_;rintro r rfl;refine H5b (Sr r hd.1.1 hd.1.2) ?_;rintro b rfl;cases h1:Al r
 ·exact H7b rfl (H4b rfl)
 refine H6b rfl (H5b (Qq s hs) ?_);rintro b rfl;cases h2:B1 s
 ·exact H7b rfl (H4b rfl)
 refine H6b rfl (H5b (Uu r.2 s hd.1.1.2.1) ?_);rintro c rfl;refine H5b (Naa r.1 s hd.1.1.1.1) ?_;rintro i rfl;have hdl:=Dka r.2 s;have hr2:=hd.2.2;have hr1:=hd.2.1
 have e:∀ o,o=syI r s→o.length≤4000000→Tot (λ k=>cond (decide ((length o:Int) > 60)) ((A6 k r).bind λ r9=>some (r9,false)) (some ((r.1,o),true))) (λ q=>q=bif true&&(true&&decide ((syI r s).length≤60)) then ((r.1,syI r s),true) else (r,false)):=by
  rintro o rfl _;refine Hbb (λ h=>?_) (λ h=>?_)
  ·refine H5b (K8 r hd.1.1) ?_;rintro q rfl;refine H4b ?_;rw[decide_eq_false (by omega)];rfl
  ·refine H4b ?_;rw[decide_eq_true (by omega)];rfl
 unfold Hka
 cases h:fnd r.1 s with
 |none=>
  refine H9b (by decide) (e _ ?_ (by omega));unfold syI;rw[h]
 |some i=>
  have hl:=(P6 h).1;dsimp only;refine H8b (by omega) (H8b (by omega) (H8b (by omega) ?_));rw[show toNat (i:Int)=i from Int.toNat_natCast i];have hb:=hd.1.1.1.2 _ (A4 (d:=Ea) hl);refine H5b (Hgb (Q:=λ q=>q=(r.1.getD i Ea).2) (Nr _ hb) rfl) ?_;rintro q rfl;refine H5b (Nca (del r.2 s) (s,(r.1.getD i Ea).2) (by omega)) ?_;rintro o rfl;refine e _ ?_ (by rw[Cab];omega);unfold syI;rw[h]

def Tna {d o:Dsk} {b:Bool} (hd:Al d=true):Al (bif Al d&&(b&&Al o) then (o,true) else (d,false)).1=true:=by
 cases b<;>cases h:Al o<;>simp[hd,h]
def Xsa {d o:Dsk} {a b:Bool} (hd:Al d=true):Al (bif a&&(Al d&&(b&&Al o)) then (o,true) else (d,false)).1=true:=by
 cases a<;>cases b<;>cases h:Al o<;>simp[hd,h]
def Toa:∀ (n:Nat) (i:Int) (c:Cur) (a0 a1:List Nmd) (d:Dsk),i=n→n≤6→Dc c→Al d=true→
  Tot (λ k=>B4 k i c.1 c.2.1 c.2.2 a0 a1 d.1 d.2) (λ r=>Al (r.2.2.1,r.2.2.2.1)=true∧Dc r.2.2.2.2):=by
 intro n
 induction n with
 |zero=>
  intro i c a0 a1 d hi h6 hc hd;refine Tot.succ ?_;simp only[B4];exact H9b (by omega) (H4b ⟨hd,hc⟩)
 |succ n ih=>
  intro i c a0 a1 d hi h6 hc hd;refine Tot.succ ?_;simp only[B4];refine H8b (by omega) ?_;rw[w64 (n:=i-1) (by omega) (by omega)];obtain⟨s,c1,e1,hs,k1⟩:=Od c hc;refine Hfb (Hgb (Q:=λ r=>r=(s,c1)) e1 rfl) ?_;obtain⟨x,c2,e2,_,_,_,k2⟩:=B0 c1 k1 6 (by decide);refine Hfb (Hgb (Q:=λ r=>r=(x,c2)) e2 rfl) ?_;dsimp only;have hin:=Nk hd;have hsh:=(Mp s hs).1
  have wr:Tot (λ k=>(Cm k c2).bind λ r5=>(Bn k r5.1).bind λ r6=>(Bh k (d.1,d.2) s r6).bind λ r7=>B4 k (i-1) r5.2.1 r5.2.2.1 r5.2.2.2 a0 a1 r7.1.1 r7.1.2) (λ r=>Al (r.2.2.1,r.2.2.2.1)=true∧Dc r.2.2.2.2):=by
   refine H5b (Q6 c2 k2) (λ f hf=>?_);refine H5b (B8a f.1 hf.1) (λ b hb=>?_);refine H5b (Hra d s b hin hsh (by omega)) (λ q hq=>?_);have hq':=Tna (d:=d) (o:=(ptl (s,b) false d.1,d.2)) (b:=B1 s) hd;rw[← hq]at hq';exact ih (i-1) f.2 a0 a1 q.1 (by omega) (by omega) hf.2 hq'
  have sy:Tot (λ k=>(An k (d.1,d.2) s).bind λ r4=>B4 k (i-1) c2.1 c2.2.1 c2.2.2 a0 a1 r4.1.1 r4.1.2) (λ r=>Al (r.2.2.1,r.2.2.2.1)=true∧Dc r.2.2.2.2):=by
   refine H5b (Nga d s hin hsh) (λ q hq=>?_);have hq':=Tna (d:=d) (o:=(d.1,syS d s)) (b:=B1 s) hd;rw[← hq]at hq';exact ih (i-1) c2 a0 a1 q.1 (by omega) (by omega) k2 hq'
  refine Hab (λ _=>?_) (λ _=>Hab (λ h=>Hab (λ _=>sy) (λ _=>wr)) (λ _=>Hab (λ _=>sy) (λ _=>wr)));refine H5b (Dja d s hin.1 hsh) (λ q hq=>?_);have hq':=Xsa (d:=d) (o:=(cut d.1 s,d.2)) (a:=(fnd d.1 s).isSome) (b:=B1 s) hd;rw[← hq]at hq';exact ih (i-1) c2 a0 a1 q.1 (by omega) (by omega) k2 hq'
def Tpa (c:Cur) (hc:Dc c):Tot (λ k=>Fn k c) (λ r=>Al r.1=true∧Dc r.2):=by
 unfold Fn;obtain⟨x,c2,e2,h0,h1,_,k2⟩:=B0 c hc 7 (by decide);have h1:=h1 (by decide);refine Hfb (Hgb (Q:=λ r=>r=(x,c2)) e2 rfl) ?_;refine H5b (Toa x.toNat x c2 [] [] ([],[]) (by omega) (by omega) k2 (by decide)) (λ r hr=>?_);exact H4b hr
def Qw (c:Cur) (hc:Dc c):∃ x c',Fg c=some (x,c')∧Lc x∧Dc c':=by
 obtain⟨b,c1,e1,k1⟩:=P4 c hc 5 (by decide);unfold Fg
 cases b with
 |true=>
  obtain⟨x,c',e,hx,k⟩:=Mwa c1 k1 [(⟨#[]⟩:ByteArray),(⟨#[65]⟩:ByteArray),(⟨#[97,32,98]⟩:ByteArray),(⟨#[116,119,101,110,116,121,111,110,101,98,121,116,101,115,116,119,101,110,116,121,111]⟩:ByteArray),(⟨#[116,119,101,110,116,121,98,121,116,101,115,116,119,101,110,116,121,98,121,116]⟩:ByteArray),(⟨#[47]⟩:ByteArray)] (by decide) (by decide);refine⟨x,c',by simp only[e1,e,Vn,cond_true],?_,k⟩;simp only[Vl,Zq,or_false]at hx;unfold Lc
  rcases hx with rfl|rfl|rfl|rfl|rfl|rfl<;>decide
 |false=>
  obtain⟨x,c',e,hx,k⟩:=Od c1 k1;exact⟨x,c',by simp only[e1,e,Vn,cond_false],(Mp x hx).1,k⟩
def Tqa {l:List Nmd} {x:Nmd} (h:F1a l) (hl:l.length≤999) (hx:x.2.length≤1000000000000):F1a (l++[x]):=by
 refine⟨by simp only[Ve,Vd,Vj];omega,λ y hy=>?_⟩;rcases Vp.1 hy with hy|hy
 ·exact h.2 y hy
 ·rw[Vu.1 hy];exact hx
def Hsa {l:List Nmd} {x:Nmd} (h:P7 l) (hx:Lc x.1):P7 (l++[x]):=by
 intro y hy;rcases Vp.1 hy with hy|hy
 ·exact h y hy
 ·rw[Vu.1 hy];exact hx
def Xta (c:Cur) (hc:Dc c):Tot (λ k=>Ke k c) (λ r=>DIn r.1∧Dc r.2):=by
 unfold Ke;refine H5b (Tpa c hc) (λ d hd=>?_);obtain⟨hd,k0⟩:=hd;have hin:=Nk hd;have hd':=hd;unfold Al at hd';rw[Va]at hd';have g1:=(Ae.1 hd'.1).2.2;have g2:=(Ae.1 hd'.2).2.2;obtain⟨x,c2,e2,_,_,_,k2⟩:=B0 d.2 k0 12 (by decide);refine Hfb (Hgb (Q:=λ r=>r=(x,c2)) e2 rfl) ?_;refine Hab (λ _=>?_) (λ _=>Hab (λ _=>?_) (λ _=>H4b ⟨hin,k2⟩))
 ·obtain⟨s,c3,e3,hs,k3⟩:=Qw c2 k2;refine Hfb (Hgb (Q:=λ r=>r=(s,c3)) e3 rfl) ?_;refine Hcb (by simp only[Vd,Vj];omega) (H4b ⟨⟨⟨⟨Tqa hin.1.1.1 (by omega) (Vq _),hin.1.1.2⟩,Hsa hin.1.2.1 hs,hin.1.2.2⟩,?_,hin.2.2⟩,k3⟩);simp only[Ve,Vd,Vj];omega
 ·obtain⟨s,c3,e3,hs,k3⟩:=Qw c2 k2;refine Hfb (Hgb (Q:=λ r=>r=(s,c3)) e3 rfl) ?_;obtain⟨y,c4,e4,y0,y1,_,k4⟩:=B0 c3 k3 2 (by decide);have y1:=y1 (by decide);refine Hfb (Hgb (Q:=λ r=>r=(y,c4)) e4 rfl) ?_;dsimp only;rw[w64 (n:=400+y) (by omega) (by omega)];refine H8b rfl (H8b (by omega) (H8b (by omega) (Hcb (by simp only[List.length_cons,List.length_nil];omega) (H4b ⟨⟨⟨⟨hin.1.1.1,Tqa hin.1.1.2 (by omega) ?_⟩,hin.1.2.1,Hsa hin.1.2.2 hs⟩,hin.2.1,?_⟩,k4⟩))))
  ·simp only[J8b];omega
  ·simp only[Ve,Vd,Vj];omega

section
open Go
end

def T4 (p:Nmd→Bool):∀ l:List Nmd,l.take (l.takeWhile p).length=l.takeWhile p∧l.drop (l.takeWhile p).length=l.dropWhile p
 |[]=>⟨rfl,rfl⟩
 |y::l=>by
  obtain⟨h1,h2⟩:=T4 p l;simp only[Zp,Imb]
  cases p y with
  |true=>simp[h1,h2]
  |false=>simp
def Hta {p:Nmd→Bool}:∀ {l:List Nmd} {y:Nmd},y∈l.takeWhile p→p y=true
 |[],y,h=>by simp at h
 |z::l,y,h=>by
  simp only[Zp]at h;cases hz:p z
  ·rw[hz]at h;simp at h
  rw[hz]at h;simp only[if_true]at h;rcases Vl.1 h with rfl|h
  ·exact hz
  ·exact Hta h
def A1b (l:List Nmd) (x:Nmd):ins l x=l.takeWhile (λ y=>tlt y.1 x.1)++([x]++l.dropWhile (λ y=>tlt y.1 x.1)):=by
 unfold ins plc;obtain⟨h1,h2⟩:=T4 (λ y=>tlt y.1 x.1) l;rw[h1,h2,Vo]
def Dla {x:Nmd}:∀ {l:List Nmd},H0 l→(∀ y∈l,y.1≠x.1)→∀ z∈l.dropWhile (λ y=>tlt y.1 x.1),tlt x.1 z.1=true
 |[],_,_,z,hz=>by simp at hz
 |y::l,hs,hn,z,hz=>by
  obtain⟨h1,h2⟩:=Wk.1 hs;simp only[Imb]at hz
  cases hy:tlt y.1 x.1 with
  |true=>
   rw[hy]at hz;simp only[if_true]at hz;exact Dla h2 (λ w hw=>hn w (Vi _ hw)) z hz
  |false=>
   rw[hy]at hz;simp only[Xs,if_false]at hz
   have hxy:tlt x.1 y.1=true:=by
    cases hh:tlt x.1 y.1 with
    |true=>rfl
    |false=>exact absurd (Awa hy hh) (hn y (by simp))
   rcases Vl.1 hz with rfl|hz
   ·exact hxy
   ·exact Nb hxy (h1 z hz)
def Ss {l:List Nmd} {x:Nmd} (hs:H0 l) (hn:∀ y∈l,y.1≠x.1):H0 (ins l x):=by
 rw[A1b]
 have hs':H0 (l.takeWhile (λ y=>tlt y.1 x.1)++l.dropWhile (λ y=>tlt y.1 x.1)):=by rw[I5b];exact hs
 obtain⟨h1,h2,h3⟩:=Ze.1 hs';have h4:∀ y∈l.takeWhile (λ y=>tlt y.1 x.1),tlt y.1 x.1=true:=λ y hy=>Hta (p:=λ y=>tlt y.1 x.1) hy;refine Ze.2 ⟨h1,Wk.2 ⟨λ z hz=>Dla hs hn z hz,h2⟩,λ a ha b hb=>?_⟩;rcases Vl.1 hb with rfl|hb
 ·exact h4 a ha
 ·exact h3 a ha b hb
def Wx {l:List Nmd} {x y:Nmd}:y∈ins l x↔y=x∨y∈l:=by
 rw[A1b];have e:=I5b (p:=λ y:Nmd=>tlt y.1 x.1) (l:=l);constructor
 ·intro h;rcases Vp.1 h with h|h
  ·right;rw[← e];exact Wb _ h
  ·rcases Vl.1 h with h|h
   ·exact .inl h
   ·right;rw[← e];exact Vs _ h
 ·rintro (rfl|h)
  ·exact Vs _ (by simp)
  ·rw[← e]at h;rcases Vp.1 h with h|h
   ·exact Wb _ h
   ·exact Vs _ (Vi _ h)
def A2b {l:List Nmd} {x:Nmd} (hl:Jp l=true) (hn:∀ y∈l,y.1≠x.1) (hx:nOk x=true):Jp (ins l x)=decide ((ins l x).length≤60):=by
 obtain⟨h1,h2,h3⟩:=Ae.1 hl
 by_cases h:(ins l x).length≤60
 ·rw[decide_eq_true h];exact Ae.2 ⟨Ss h1 hn,λ y hy=>by rcases Wx.1 hy with rfl|hy;exact hx;exact h2 y hy,h⟩
 ·rw[decide_eq_false h]
  cases hc:Jp (ins l x) with
  |false=>rfl
  |true=>exact absurd (Ae.1 hc).2.2 h
def B9a {l:List Nmd} {s:ByteArray}:∀ y∈cut l s,y.1≠s:=λ y hy e=>by
 have:=(Izb.1 hy).2;simp[e,Km.2 rfl]at this
def Cbb {l:List Nmd} {s:ByteArray}:cut (cut l s) s=cut l s:=by
 unfold cut;rw[List.filter_filter];congr 1;funext x;simp
def Ccb {d:Dsk} {s:ByteArray} (hd:Al d=true):syS d s=syI d s:=by
 unfold Al at hd;rw[Va]at hd;have hs:=(Ae.1 hd.2).1;unfold syS syI;rw[Qv hs]
 cases fnd d.1 s with
 |none=>rfl
 |some i=>
  show ptl _ false (cut d.2 s)=ins (cut d.2 s) _;rw[Ww _ (O4 hs)];show ins (cut (cut d.2 s) s) _=_;rw[Cbb]
def Tra {d:Dsk} {s:ByteArray} (hd:Al d=true) (hs:B1 s=true):Al (d.1,syI d s)=decide ((syI d s).length≤60):=by
 have hd':=hd;unfold Al at hd';rw[Va]at hd';have h2:=Ae.1 hd'.2;unfold Al;rw[hd'.1,Vz];unfold syI;rw[Qv h2.1]
 cases h:fnd d.1 s with
 |none=>show Jp (cut d.2 s)=decide ((cut d.2 s).length≤60);rw[Xh hd'.2,decide_eq_true (Ae.1 (Xh (s:=s) hd'.2)).2.2]
 |some i=>
  refine A2b (Xh hd'.2) B9a (Qu.2 ⟨hs,?_⟩);have h1:=(Ae.1 hd'.1).2.1 _ (A4 (d:=Ea) (P6 h).1);exact(Qu.1 h1).2
def Cdb {l:List Nmd} (hs:H0 l) {x y:Nmd} (hx:x∈l) (hy:y∈l) (e:x.1=y.1):x=y:=by
 induction l with
 |nil=>simp at hx
 |cons z l ih=>
  obtain⟨h1,h2⟩:=Wk.1 hs;rcases Vl.1 hx with hx'|hx'
  ·rcases Vl.1 hy with hy'|hy'
   ·rw[hx',hy']
   ·have:=h1 y hy';rw[← hx',e,M0]at this;cases this
  ·rcases Vl.1 hy with hy'|hy'
   ·have:=h1 x hx';rw[← hy',e,M0]at this;cases this
   ·exact ih h2 hx' hy'

def wrI (d:Dsk) (s:ByteArray) (b:List Int):List Nmd:=ins (del d.1 s) (s,b)
def Tsa (d:Dsk) (s:ByteArray) (b:List Int) (hd:DIn d) (hs:Lc s) (hb:b.length≤1000000000000):Tot (λ k=>Ed k d s b) (λ r=>r=bif Al d&&(B1 s&&(decide (b.length≤400)&&decide ((wrI d s b).length≤60))) then ((wrI d s b,d.2),true) else (d,false)):=by
 unfold Ed;refine H5b (K8 d hd.1.1) ?_;rintro r rfl;refine H5b (Sr r hd.1.1 hd.1.2) ?_;rintro b1 rfl;cases h1:Al r
 ·exact H7b rfl (H4b rfl)
 refine H6b rfl (H5b (Qq s hs) ?_);rintro b2 rfl;cases h2:B1 s
 ·exact H7b rfl (H4b rfl)
 refine H6b rfl (Hbb (λ h=>?_) (λ h=>?_))
 ·rw[decide_eq_false (show ¬ b.length≤400 by omega)];exact H4b rfl
 ·rw[decide_eq_true (show b.length≤400 by omega)];refine H5b (Uu r.1 s hd.1.1.1.1) ?_;rintro c rfl;refine H5b (Hgb (Q:=λ x=>x=b) (Nr b hb) rfl) ?_;rintro e rfl;have hdl:=Dka r.1 s;refine H5b (Nca (del r.1 s) (s,e) (by have:=hd.2.1;omega)) ?_;rintro m rfl;refine Hbb (λ h=>?_) (λ h=>?_)
  ·rw[decide_eq_false (show ¬ (wrI r s e).length≤60 by unfold wrI;omega)];refine H5b (K8 r hd.1.1) ?_;rintro x rfl;exact H4b rfl
  ·rw[decide_eq_true (show (wrI r s e).length≤60 by unfold wrI;omega)];exact H4b rfl
def Nha {d:Dsk} {s:ByteArray} {b:List Int} (hd:Al d=true) (hs:B1 s=true):ptl (s,b) false d.1=wrI d s b∧Al (wrI d s b,d.2)=(decide (b.length≤400)&&decide ((wrI d s b).length≤60)):=by
 have hd':=hd;unfold Al at hd';rw[Va]at hd';have h1:=Ae.1 hd'.1
 have e1:wrI d s b=ins (cut d.1 s) (s,b):=by unfold wrI;rw[Qv h1.1]
 refine⟨by rw[e1];exact Ww _ h1.1,?_⟩;unfold Al;rw[hd'.2,Igb,e1]
 by_cases hb:b.length≤400
 ·rw[decide_eq_true hb,Vz];exact A2b (Xh hd'.1) B9a (Qu.2 ⟨hs,hb⟩)
 ·rw[decide_eq_false hb,Zr]
  cases hc:Jp (ins (cut d.1 s) (s,b)) with
  |false=>rfl
  |true=>exact absurd (Qu.1 ((Ae.1 hc).2.1 (s,b) (Wx.2 (.inl rfl)))).2 hb

def TS (l:List ByteArray):Prop:=l.Pairwise (λ a b=>tlt a b=true)
def pk (l:List Nmd) (s:ByteArray):Option Nmd:=match fnd l s with
 |some i=>some (l.getD i Ea)
 |none=>none
def Nw:ByteArray:=⟨#[]⟩
def tpl (l:List ByteArray) (s:ByteArray):Nat:=(l.takeWhile (λ y=>tlt y s)).length
def wt (l:List ByteArray) (s:ByteArray):List ByteArray:=if tpl l s<l.length∧teq (l.getD (tpl l s) Nw) s=true then l else l.take (tpl l s)++[s]++l.drop (tpl l s)
def A3b (l:List ByteArray) (s:ByteArray):tpl l s≤l.length:=(K6b _).length_le
def Xx (l:List ByteArray) (s:ByteArray) (hf:l.length≤1000000000000):∀ (n i:Nat),l.length-i=n→i≤l.length→
  Tot (λ k=>F9 k l s (i:Int)) (λ r=>r=(l,s,((i+tpl (l.drop i) s:Nat):Int))):=by
 intro n
 induction n with
 |zero=>
  intro i hd hi;refine Tot.succ ?_;simp only[F9];refine H9b (by omega) (H4b ?_);rw[Wj (by omega)];rfl
 |succ n ih=>
  intro i hd hi
  have hlt:i<l.length:=by omega
  refine Tot.succ ?_;simp only[F9];refine H8b (by omega) (H8b (by omega) (H8b (by omega) ?_));rw[show toNat (i:Int)=i from Vc i,w64 (n:=(i:Int)+1) (by omega) (by omega),Ah (d:=Nw) hlt];have e0:l.getD i (⟨#[]⟩:ByteArray)=l.getD i Nw:=rfl;rw[e0]
  have e1:tpl (l.getD i Nw::l.drop (i+1)) s=if tlt (l.getD i Nw) s then tpl (l.drop (i+1)) s+1 else 0:=by
   unfold tpl;rw[Zp]
   split<;>rfl
  rw[e1];refine Hab (λ h=>?_) (λ h=>?_)
  ·have h':tlt (l.getD i Nw) s=true:=h;rw[if_pos h'];refine(ih (i+1) (by omega) (by omega)).mono ?_;rintro r rfl;rw[show i+1+tpl (l.drop (i+1)) s=i+(tpl (l.drop (i+1)) s+1) by omega]
  ·have h':¬ (tlt (l.getD i Nw) s=true):=by
    have:tlt (l.getD i Nw) s=false:=h;rw[this];simp
   rw[if_neg h'];exact H4b rfl
def F4a (l:List ByteArray) (s:ByteArray) (hf:l.length≤1000000000):Tot (λ k=>I5 k l s) (λ r=>r=wt l s):=by
 unfold I5;refine H5b (Xx l s (by omega) _ 0 rfl (Nat.zero_le _)) ?_;intro r hr;rw[List.drop_zero,Nat.zero_add]at hr;subst hr;have hj:=A3b l s;generalize hjj:tpl l s=j at *;dsimp only
 have hno:¬ (j<l.length∧teq (l.getD j Nw) s=true)→Tot (λ k=>cond (decide ((0:Int)≤(j:Int))) (cond (decide ((j:Int)≤(length l:Int))) (cond (Nat.ble ((length ([]:List ByteArray)+length (List.take (toNat (j:Int)) l))*16) 140737488355328) (let v3:List ByteArray:=([]:List ByteArray)++(List.take (toNat (j:Int)) l);cond (Nat.ble ((length v3+length [s])*16) 140737488355328) (cond (decide ((0:Int)≤(j:Int))) (cond (decide ((j:Int)≤(length l:Int))) (cond (Nat.ble ((length (v3++[s])+length (List.drop (toNat (j:Int)) l))*16) 140737488355328) (some ((v3++[s])++(List.drop (toNat (j:Int)) l))) none) none) none) none) none) none) none)
   (λ r=>r=wt l s):=by
  intro hn;refine H8b (by omega) (H8b (by omega) ?_);rw[show toNat (j:Int)=j from Vc j];refine Hcb (by simp only[Vj,Vt];omega) ?_;refine Hcb (by simp only[Ve,Vj,Vt,Vd];omega) ?_;refine H8b (by omega) (H8b (by omega) (Hcb (by simp only[Ve,Vj,Vt,Wc,Vd];omega) (H4b ?_)));unfold wt;rw[hjj,if_neg hn,Wa]
 refine Hbb (λ h=>?_) (λ h=>hno (λ hh=>h (by omega)));refine H8b (by omega) (H8b h ?_);rw[show toNat (j:Int)=j from Vc j]at *;refine Hab (λ he=>H4b ?_) (λ he=>hno (λ hh=>?_))
 ·unfold wt;rw[hjj,if_pos ⟨by omega,he⟩]
 ·have h2:teq (l.getD j Nw) s=false:=he;rw[h2]at hh;cases hh.2
def Nia {l:List ByteArray} {s y:ByteArray}:y∈wt l s↔y=s∨y∈l:=by
 unfold wt
 by_cases h:tpl l s<l.length∧teq (l.getD (tpl l s) Nw) s=true
 ·rw[if_pos h];refine⟨.inr,λ h'=>?_⟩;rcases h' with rfl|h'
  ·have:=A4 (d:=Nw) h.1;rwa [Km.1 h.2]at this
  ·exact h'
 ·rw[if_neg h];have e:l.take (tpl l s)++l.drop (tpl l s)=l:=Wo _ _;constructor
  ·intro h';rw[Vo]at h';rcases Vp.1 h' with h'|h'
   ·right;rw[← e];exact Wb _ h'
   ·rcases Vp.1 h' with h'|h'
    ·left;simpa using h'
    ·right;rw[← e];exact Vs _ h'
  ·rintro (rfl|h')
   ·simp
   ·rw[← e]at h'
    rcases Vp.1 h' with h'|h'<;>simp[h']
def Nja (p:ByteArray→Bool):∀ l:List ByteArray,l.take (l.takeWhile p).length=l.takeWhile p∧l.drop (l.takeWhile p).length=l.dropWhile p
 |[]=>⟨rfl,rfl⟩
 |y::l=>by
  obtain⟨h1,h2⟩:=Nja p l;simp only[Zp,Imb]
  cases p y with
  |true=>simp[h1,h2]
  |false=>simp
def Dma {p:ByteArray→Bool}:∀ {l:List ByteArray} {y:ByteArray},y∈l.takeWhile p→p y=true
 |[],y,h=>by simp at h
 |z::l,y,h=>by
  simp only[Zp]at h;cases hz:p z
  ·rw[hz]at h;simp at h
  rw[hz]at h;simp only[if_true]at h;rcases Vl.1 h with rfl|h
  ·exact hz
  ·exact Dma h
def Baa {s:ByteArray}:∀ {l:List ByteArray},TS l→(∀ y r,l.dropWhile (λ y=>tlt y s)=y::r→y≠s)→∀ z∈l.dropWhile (λ y=>tlt y s),tlt s z=true
 |[],_,_,z,hz=>by simp at hz
 |y::l,hs,hn,z,hz=>by
  obtain⟨h1,h2⟩:=Wk.1 hs;simp only[Imb]at hz hn
  cases hy:tlt y s with
  |true=>
   rw[hy]at hz hn;simp only[if_true]at hz hn;exact Baa h2 hn z hz
  |false=>
   rw[hy]at hz hn;simp only[Xs,if_false]at hz hn
   have hxy:tlt s y=true:=by
    cases hh:tlt s y with
    |true=>rfl
    |false=>exact absurd (Awa hy hh) (hn y l rfl)
   rcases Vl.1 hz with rfl|hz
   ·exact hxy
   ·exact Nb hxy (h1 z hz)
def Rz {l:List ByteArray} {s:ByteArray} (hs:TS l):TS (wt l s):=by
 unfold wt
 by_cases h:tpl l s<l.length∧teq (l.getD (tpl l s) Nw) s=true
 ·rw[if_pos h];exact hs
 ·rw[if_neg h];obtain⟨e1,e2⟩:=Nja (λ y=>tlt y s) l
  have hd:∀ y r,l.dropWhile (λ y=>tlt y s)=y::r→y≠s:=by
   intro y r hr hy;rw[← e2]at hr
   have hlt:tpl l s<l.length:=by
    rcases Iob (tpl l s) l.length with h'|h'
    ·exact h'
    ·have:l.drop (tpl l s)=[]:=Wj h';unfold tpl at this;rw[this]at hr;cases hr
   have:l.drop (tpl l s)=l.getD (tpl l s) Nw::l.drop (tpl l s+1):=Ah hlt;unfold tpl at this;rw[this]at hr;simp only[Yk]at hr;exact h ⟨hlt,Km.2 (hr.1.trans hy)⟩
  have e1':l.take (tpl l s)=l.takeWhile (λ y=>tlt y s):=e1;have e2':l.drop (tpl l s)=l.dropWhile (λ y=>tlt y s):=e2;rw[e1',e2',Vo]
  have hs':TS (l.takeWhile (λ y=>tlt y s)++l.dropWhile (λ y=>tlt y s)):=by rw[I5b];exact hs
  obtain⟨h1,h2,h3⟩:=Ze.1 hs';refine Ze.2 ⟨h1,Wk.2 ⟨λ z hz=>Baa hs hd z hz,h2⟩,λ a ha b hb=>?_⟩;rcases Vl.1 hb with rfl|hb
  ·exact Dma (p:=λ y=>tlt y b) ha
  ·exact h3 a ha b hb

def Hua {l:List ByteArray} {s:ByteArray}:(wt l s).length≤l.length+1:=by
 unfold wt;have:=A3b l s;split
 ·omega
 ·simp only[Ve,Vt,Wc,Vd,Vj];omega

section
variable {α σ R:Type} {a b:α} {p:Prop} [Decidable p]
def dT (h:p):cond (decide p) a b=a:=by rw[decide_eq_true h];rfl
def dF (h:¬ p):cond (decide p) a b=b:=by rw[decide_eq_false h];rfl
def bT {m n:Nat} (h:m≤n):cond (Nat.ble m n) a b=a:=by rw[Zj h];rfl
def Hdb {L:Nat→Int→σ→Option R} {Q:R→Prop} (n:Nat) (I:Nat→σ→Prop) (hend:∀ s,I n s→Tot (λ k=>L (k+1) (n:Int) s) Q)
  (Uza:∀ i s,i<n→I i s→(∀ s',I (i+1) s'→Tot (λ k=>L k ((i:Int)+1) s') Q)→Tot (λ k=>L (k+1) (i:Int) s) Q):
  ∀ (i:Nat) (s:σ),i≤n→I i s→Tot (λ k=>L k (i:Int) s) Q:=by
 suffices h:∀ (m i:Nat) (s:σ),n-i=m→i≤n→I i s→Tot (λ k=>L k (i:Int) s) Q from λ i s hi hs=>h _ i s rfl hi hs
 intro m
 induction m with
 |zero=>
  intro i s hm hi hs
  obtain rfl:i=n:=by omega
  exact Tot.succ (hend s hs)
 |succ m ih=>
  intro i s hm hi hs;refine Tot.succ (Uza i s (by omega) hs λ s' hs'=>?_);have:=ih (i+1) s' (by omega) (by omega) hs';rwa [show (((i+1:Nat)):Int)=(i:Int)+1 by omega]at this
end
def cst (x:BitVec 32):BitVec 32:=if x.getLsbD 0 then (x >>> 1) ^^^ 2197175160#32 else x >>> 1
def Cca:Nat→BitVec 32→BitVec 32
 |0,x=>x
 |n+1,x=>Cca n (cst x)
def cby (x:BitVec 32) (b:Int):BitVec 32:=Cca 8 (x ^^^ ofInt 32 b)
def Dnb (l:List Int):BitVec 32 := ~~~ (l.foldl cby 4294967295#32)
def crc (l:List Int):Int:=((Dnb l).toNat:Int)
def Gub (v:BitVec 32):v.getLsbD 0=decide (v.toNat % 2=1):=by
 rw[BitVec.getLsbD,Nat.testBit_zero]
def Kva (v:BitVec 32):ofInt (IntKind.bits .u32) (v.toNat:Int)=v:=by
 show ofInt 32 (v.toNat:Int)=v;rw[BitVec.ofInt_natCast,BitVec.ofNat_toNat,BitVec.setWidth_eq]
def Kwa (n:Nat) (h:n<4294967296):(ofInt (IntKind.bits .i64) (n:Int)).toNat=n:=Ry n (by omega)
def Gab (v:BitVec 32):wrap .u32 (v.toNat:Int)=(v.toNat:Int):=K0b _ ⟨by omega,by have:=v.isLt;omega⟩
def sh1 (v:BitVec 32):Int.fdiv (v.toNat:Int) 2=((v >>> 1).toNat:Int):=by
 rw[Zza _ (by omega),BitVec.toNat_ushiftRight,Nat.shiftRight_eq_div_pow];omega
def Gbb (v:BitVec 32):((wrap .u32 ((ofInt (IntKind.bits .u32) (v.toNat:Int) &&& ofInt (IntKind.bits .u32) 1).toNat))==1)=v.getLsbD 0:=by
 show (wrap .u32 (((ofInt 32 (v.toNat:Int) &&& ofInt 32 1).toNat:Nat):Int)==1)=_;rw[show ofInt 32 (v.toNat:Int)=v from Kva v,Gab,Gub,Ilb,show (ofInt 32 1).toNat=1 from by decide,Nat.and_one_is_mod,Ieb,beq_iff_eq,decide_eq_true_iff];omega
def Gcb (v:BitVec 32):((wrap .i64 ((ofInt (IntKind.bits .i64) (v.toNat:Int) &&& ofInt (IntKind.bits .i64) 1).toNat))==1)=v.getLsbD 0:=by
 have:=v.isLt;rw[Gub,Ilb,Kwa _ v.isLt,show (ofInt (IntKind.bits .i64) 1).toNat=1 from by decide,Nat.and_one_is_mod,w64 (by omega) (by omega),Ieb,beq_iff_eq,decide_eq_true_iff];omega
def Gdb (v w:BitVec 32) (x:Int) (h:ofInt 32 x=w):wrap .u32 ((ofInt (IntKind.bits .u32) (v.toNat:Int) ^^^ ofInt (IntKind.bits .u32) x).toNat)=((v ^^^ w).toNat:Int):=by
 show wrap .u32 (((ofInt 32 (v.toNat:Int) ^^^ ofInt 32 x).toNat:Nat):Int)=_;rw[show ofInt 32 (v.toNat:Int)=v from Kva v,h];exact Gab _
def Ftb (v w:BitVec 32):wrap .i64 ((ofInt (IntKind.bits .i64) (v.toNat:Int) ^^^ ofInt (IntKind.bits .i64) (w.toNat:Int)).toNat)=((v ^^^ w).toNat:Int):=by
 have:=(v ^^^ w).isLt;rw[BitVec.toNat_xor,Kwa _ v.isLt,Kwa _ w.isLt,← BitVec.toNat_xor];exact w64 (by omega) (by omega)
def Gvb (K:IntKind) (h:1≤IntKind.bits K):(2:Int) ^ (min (toNat 1) (IntKind.bits K))=2:=by
 rw[show toNat 1=1 from rfl,Zu h];rfl
def Pra (l:List Int) (x8 x9:Int):∀ (n:Nat) (v:BitVec 32) (i:Int),0≤i→8-i=n→Tot (λ k=>Kh k (v.toNat:Int) l x8 x9 i) (λ r=>r=(((Cca n v).toNat:Int),l,x8,x9)):=by
 intro n
 induction n with
 |zero=>
  intro v i h0 hn;refine Tot.succ ?_;simp only[Kh];exact H9b (by omega) (H4b rfl)
 |succ n ih=>
  intro v i h0 hn;refine Tot.succ ?_;simp only[Kh];refine H8b (by omega) ?_;rw[w64 (n:=i+1) (by omega) (by omega),Gbb,Gvb _ (by decide),sh1,Gdb _ 2197175160#32 _ (by decide)];have e:Cca (n+1) v=Cca n (cst v):=rfl;rw[e];refine Hab (λ h=>?_) (λ h=>?_)
  ·have:=ih (v >>> 1 ^^^ 2197175160#32) (i+1) (by omega) (by omega);rwa [show v >>> 1 ^^^ 2197175160#32=cst v by unfold cst;rw[if_pos h]]at this ⊢
  ·have:=ih (v >>> 1) (i+1) (by omega) (by omega);rwa [show v >>> 1=cst v by unfold cst;rw[if_neg (by rw[h];simp)]]at this ⊢
def Kxa (l:List Int) (x4:Int):∀ (n:Nat) (v:BitVec 32) (i:Int),0≤i→8-i=n→Tot (λ k=>Ia k l (v.toNat:Int) x4 i) (λ r=>r=(l,((Cca n v).toNat:Int),x4)):=by
 intro n
 induction n with
 |zero=>
  intro v i h0 hn;refine Tot.succ ?_;simp only[Ia];exact H9b (by omega) (H4b rfl)
 |succ n ih=>
  intro v i h0 hn;refine Tot.succ ?_;simp only[Ia]
  have hp:(2197175160:Int)=((2197175160#32:BitVec 32).toNat:Int):=by decide
  refine H8b (by omega) ?_;rw[w64 (n:=i+1) (by omega) (by omega),Gcb,Gvb _ (by decide),sh1,hp,Ftb];have e:Cca (n+1) v=Cca n (cst v):=rfl;rw[e];refine Hab (λ h=>?_) (λ h=>?_)
  ·have:=ih (v >>> 1 ^^^ 2197175160#32) (i+1) (by omega) (by omega);rwa [show v >>> 1 ^^^ 2197175160#32=cst v by unfold cst;rw[if_pos h]]at this ⊢
  ·have:=ih (v >>> 1) (i+1) (by omega) (by omega);rwa [show v >>> 1=cst v by unfold cst;rw[if_neg (by rw[h];simp)]]at this ⊢
def Nka {b:Int} (h:0≤b∧b≤255):b=((ofInt 32 b).toNat:Int):=by
 rw[Ivb];omega
def Ceb (l:List Int) (hb:Aj l) (hl:l.length≤1000000000000):Tot (λ k=>Mu k l) (λ r=>r=crc l):=by
 unfold Mu;refine H5b (Q:=λ r=>r=(((l.foldl cby 4294967295#32).toNat:Nat):Int)) ?_ ?_
 ·have:=Hdb (L:=λ k i s=>Ku k s l (l.length:Int) i) (Q:=λ r=>r=(((l.foldl cby 4294967295#32).toNat:Nat):Int)) l.length (λ i s=>∃ v:BitVec 32,s=(v.toNat:Int)∧(l.drop i).foldl cby v=l.foldl cby 4294967295#32) ?_ ?_ 0 4294967295 (Vq _) ⟨4294967295#32,by decide,by rw[Wn]⟩
  ·exact this
  ·rintro s ⟨v,rfl,hv⟩;simp only[Ku];rw[Wd]at hv;exact H9b (by omega) (H4b (by rw[← hv];rfl))
  ·rintro i s hi ⟨v,rfl,hv⟩ next;simp only[Ku];have hx:=hb _ (A4 (d:=0) hi);refine H8b (by omega) (H8b (by omega) (H8b (by omega) ?_));rw[Vc,K0b _ ⟨hx.1,by omega⟩,Gdb v _ _ rfl];refine Hfb (Pra l _ _ 8 _ 0 (by decide) (by decide)) ?_;simp only;rw[w64 (n:=(i:Int)+1) (by omega) (by omega)];refine next _ ⟨_,rfl,?_⟩;rw[Ah (d:=0) hi,Ym]at hv;exact hv
 ·rintro r rfl;refine H4b ?_;unfold crc Dnb
  have hm:ofInt 32 (if IntKind.signed .u32 then -1 else IntKind.max .u32)=BitVec.allOnes 32:=by decide
  have e:BitVec.allOnes 32 ^^^ l.foldl cby 4294967295#32 = ~~~ (l.foldl cby 4294967295#32):=by rw[Kab];exact BitVec.xor_allOnes
  show wrap .i64 (wrap .u32 (((ofInt 32 (if IntKind.signed .u32 then -1 else IntKind.max .u32) ^^^ ofInt 32 ((l.foldl cby 4294967295#32).toNat:Int)).toNat:Nat):Int))=_;rw[show ofInt 32 ((l.foldl cby 4294967295#32).toNat:Int)=l.foldl cby 4294967295#32 from Kva _,hm,e];have:=(~~~ (l.foldl cby 4294967295#32)).isLt;rw[Gab,w64 (by omega) (by omega)]
def Cfb (l:List Int) (hb:Aj l) (hl:l.length≤1000000000000):Tot (λ k=>M5 k l) (λ r=>r=crc l):=by
 unfold M5;refine H5b (Q:=λ r=>r=(((l.foldl cby 4294967295#32).toNat:Nat):Int)) ?_ ?_
 ·have:=Hdb (L:=λ k i s=>It k l s i) (Q:=λ r=>r=(((l.foldl cby 4294967295#32).toNat:Nat):Int)) l.length (λ i s=>∃ v:BitVec 32,s=(v.toNat:Int)∧(l.drop i).foldl cby v=l.foldl cby 4294967295#32) ?_ ?_ 0 4294967295 (Vq _) ⟨4294967295#32,by decide,by rw[Wn]⟩
  ·exact this
  ·rintro s ⟨v,rfl,hv⟩;simp only[It];rw[Wd]at hv;exact H9b (by omega) (H4b (by rw[← hv];rfl))
  ·rintro i s hi ⟨v,rfl,hv⟩ next;simp only[It];have hx:=hb _ (A4 (d:=0) hi);refine H8b (by omega) (H8b (by omega) (H8b (by omega) ?_));rw[Vc,w64 (n:=l.getD i 0) (by omega) (by omega),Nka hx,Ftb];refine Hfb (Kxa l _ 8 _ 0 (by decide) (by decide)) ?_;simp only;rw[w64 (n:=(i:Int)+1) (by omega) (by omega)];refine next _ ⟨_,rfl,?_⟩;rw[Ah (d:=0) hi,Ym]at hv;exact hv
 ·rintro r rfl;refine H4b ?_
  have hp:(4294967295:Int)=((BitVec.allOnes 32:BitVec 32).toNat:Int):=by decide
  rw[hp,Ftb,BitVec.xor_allOnes];rfl

def Z1:Fil:=(((0:Int),((0:Int),(0:Int))),(false,([]:List Int)))
def Ej (f:Fil):Bool:=Gz f.1&&(decide ((f.2.2.length:Int)≤200)&&(!f.2.1||((f.2.2.length:Int)==0)))
def F5a (f:Fil):Fz f=some (Ej f):=by
 unfold Fz Ej;rw[B1a];simp only[Vn]
 cases Gz f.1<;>cases decide ((length f.2.2:Int)≤200)<;>cases f.2.1<;>rfl
def Uv (f:Fil):C5 f=some (Ej f):=by
 unfold C5 Ej;rw[Rx];simp only[Vn]
 cases Gz f.1<;>cases decide ((length f.2.2:Int)≤200)<;>cases f.2.1<;>rfl
def Kg {f:Fil}:Ej f=true↔Gz f.1=true∧f.2.2.length≤200∧(f.2.1=true→f.2.2=[]):=by
 unfold Ej;rw[Va,Va,decide_eq_true_iff]
 have:(!f.2.1||((f.2.2.length:Int)==0))=true↔(f.2.1=true→f.2.2=[]):=by
  cases f.2.1 with
  |false=>simp
  |true=>simp
 rw[this];constructor
 ·rintro⟨h1,h2,h3⟩;exact⟨h1,by omega,h3⟩
 ·rintro⟨h1,h2,h3⟩;exact⟨h1,by omega,h3⟩
def Bba (a b:Fil):Ie a b=some (sle b.1 a.1):=by unfold Ie;rw[Eta];rfl
def Hva (a b:Fil):Ka a b=some (sle b.1 a.1):=by unfold Ka;rw[Esa];rfl
def hdF (s:Stp) (d:Bool):List Int:=Qka s++Pr (Br (Caa d))
def Ps (f:Fil):List Int:=hdF f.1 f.2.1++txt (M9 f.2.2)
def c4 (c:Int):List Int:=[wrap .u8 (Int.fdiv c (2 ^ (min (toNat 24) (IntKind.bits .i64)))),wrap .u8 (Int.fdiv c (2 ^ (min (toNat 16) (IntKind.bits .i64)))),wrap .u8 (Int.fdiv c (2 ^ (min (toNat 8) (IntKind.bits .i64)))),wrap .u8 c]
def M3 (f:Fil):List Int:=bif Ej f then Ps f++c4 (crc (Ps f)) else []
def Q8 {a b:List Int} (ha:Aj a) (hb:Aj b):Aj (a++b):=λ x hx=>(Vp.1 hx).elim (ha x) (hb x)
def S4 (n:Int):Aj (Pr (Br n)):=Pla _ (P5 n)
def Tta (s:Stp) (d:Bool):Aj (hdF s d):=Q8 (Q8 (S4 _) (Q8 (S4 _) (S4 _))) (S4 _)
def Qx (f:Fil):Aj (Ps f):=Q8 (Tta _ _) (Q8 (S4 _) (Dea _))
def Xua (c:Int):Aj (c4 c):=by
 intro x hx;simp only[c4,Vl,Zq,or_false]at hx
 rcases hx with rfl|rfl|rfl|rfl<;>exact H6a _
def Q9 (f:Fil):Aj (M3 f):=by
 unfold M3
 cases Ej f with
 |false=>intro x hx;simp at hx
 |true=>exact Q8 (Qx f) (Xua _)
def Kya (s:Stp) (d:Bool):(hdF s d).length≤20:=by
 have h1:=Eza s;have h2:=(Mz (Br (Caa d))).1;unfold hdF;rw[Ve];omega
def Bca (f:Fil):(Ps f).length≤25+f.2.2.length:=by
 have h1:=Kya f.1 f.2.1;have h2:=Tfa (M9 f.2.2);have h3:(M9 f.2.2).size=f.2.2.length:=O3 _;unfold Ps;rw[Ve];omega
def Z2 (f:Fil):(M3 f).length≤229:=by
 unfold M3;cases h:Ej f
 ·simp
 have h1:=Bca f;have h2:=(Kg.1 h).2.1;rw[cond_true,Ve];simp only[c4,Vd,Vj];omega
def Qy (f:Fil):Tot (λ k=>Fh k f) (λ r=>r=M3 f):=by
 unfold Fh M3;refine Hfb (Hgb (Q:=λ b=>b=Ej f) (F5a f) rfl) ?_;cases h:Ej f
 ·exact H7b rfl (H4b rfl)
 have h2:=(Kg.1 h).2.1;have h3:(M9 f.2.2).size=f.2.2.length:=O3 _;have h4:=Kya f.1 f.2.1;have h5:=Bca f;refine H6b rfl (Hfb (Pma [] f.1 f.2.1 (by simp)) ?_);rw[Wa];refine Hfb (Xla _ _ (by unfold hdF at h4;omega) (by omega)) ?_;have e:Qka f.1++Pr (Br (Caa f.2.1))++txt (M9 f.2.2)=Ps f:=rfl;rw[e];refine Hfb (Ceb _ (Qx f) (by omega)) ?_;exact Hcb (by simp only[Vd,Vj];omega) (H4b rfl)
def Tp (f:Fil):Tot (λ k=>Bn k f) (λ r=>r=M3 f):=by
 unfold Bn M3;refine Hfb (Hgb (Q:=λ b=>b=Ej f) (Uv f) rfl) ?_;cases h:Ej f
 ·exact H7b rfl (H4b rfl)
 have h2:=(Kg.1 h).2.1;have h3:(M9 f.2.2).size=f.2.2.length:=O3 _;have h4:=Kya f.1 f.2.1;have h5:=Bca f;have h6:=Eza f.1;refine H6b rfl (Hfb (Dga [] f.1 (by simp)) ?_);rw[Wa];refine Hfb (Hgb (Q:=λ r=>r=Caa f.2.1) (N8a _) rfl) ?_;refine Hfb (Wv _ _ (by omega)) ?_;refine Hfb (N5a _ _ (by unfold hdF at h4;omega) (by omega)) ?_;have e:Qka f.1++Pr (Br (Caa f.2.1))++txt (M9 f.2.2)=Ps f:=rfl;rw[e];refine Hfb (Cfb _ (Qx f) (by omega)) ?_;exact Hcb (by simp only[Vd,Vj];omega) (H4b rfl)
def Oe (b:List Int):Option Fil:=(Rd b 0).bind λ a=>(N6a b a.2).bind λ t=>bif Ej (a.1.1,a.1.2,bytesOf t.1)&&decide (M3 (a.1.1,a.1.2,bytesOf t.1)=b) then some (a.1.1,a.1.2,bytesOf t.1) else none
def Tq (b:List Int):Fil×Bool:=match Oe b with
 |some f=>(f,true)
 |none=>(Z1,false)
def Bda {b:List Int} {f:Fil} (h:Oe b=some f):Ej f=true∧Aj f.2.2∧M3 f=b:=by
 unfold Oe at h;simp only[Iub]at h;obtain⟨a,_,t,_,h⟩:=h;cases hc:(Ej (a.1.1,a.1.2,bytesOf t.1)&&decide (M3 (a.1.1,a.1.2,bytesOf t.1)=b))
 ·rw[hc]at h;cases h
 rw[hc]at h;simp only[cond_true,Vg]at h;subst h;rw[Va,decide_eq_true_iff]at hc;exact⟨hc.1,Dea _,hc.2⟩
def Tua (s:Stp) (d:Bool) (rest:List Int) (h:Gz s=true):Rd (hdF s d++rest) 0=some ((s,d),(hdF s d).length):=by
 obtain⟨t,c,n⟩:=s;unfold Gz at h;simp only[Va,Et]at h;obtain⟨⟨t0,t1⟩,⟨c0,c1⟩,n0,n1⟩:=h;have ht:=B3a t0 t1;have hc:=B3a c0 (show c≤1000000000 by omega);have hn:=B3a n0 (show n≤1000000000 by omega)
 have hbit:(((Br (Caa d):Nat):Int)==1)=d:=by cases d<;>decide
 have hbit2:¬ (1<Br (Caa d)):=by cases d<;>decide
 have k:∀ (a:List Int) (n:Nat) (b:List Int),n≤1000000000→Pt (a++(Pr n++b)) a.length=some (n,(a++Pr n).length):=λ a n b hn=>by rw[N3a a n b hn,Ve]
 have e0:hdF (t,c,n) d++rest=Pr (Br t)++(Pr (Br c)++(Pr (Br n)++(Pr (Br (Caa d))++rest))):=by
  unfold hdF Qka;simp only[Vo]
 have el:(hdF (t,c,n) d).length=(Pr (Br t)).length+(Pr (Br c)).length+(Pr (Br n)).length+(Pr (Br (Caa d))).length:=by
  unfold hdF Qka;simp only[Ve];omega
 have g1:=k [] (Br t) (Pr (Br c)++(Pr (Br n)++(Pr (Br (Caa d))++rest))) (P5 t);have g2:=k (Pr (Br t)) (Br c) (Pr (Br n)++(Pr (Br (Caa d))++rest)) (P5 c);have g3:=k (Pr (Br t)++Pr (Br c)) (Br n) (Pr (Br (Caa d))++rest) (P5 n);have g4:=k (Pr (Br t)++Pr (Br c)++Pr (Br n)) (Br (Caa d)) rest (P5 _);simp only[Vo,Wa,Vj]at g1 g2 g3 g4;simp only[Ve]at g1 g2 g3 g4;unfold Rd;rw[e0,el];simp only[Zg]at g1 g2 g3 g4 ⊢;simp only[g1,g2,g3,g4,Vn,decide_eq_false hbit2,cond_false];rw[ht,hc,hn,hbit]
def Xva {l:List Int} {q:Nat} {s:Stp} {d:Bool} (hb:Aj l) (h:Rd l 0=some ((s,d),q)):l=hdF s d++l.drop q∧q≤l.length:=by
 unfold Rd at h;simp only[Iub]at h;obtain⟨⟨t,p2⟩,h2,⟨c,p3⟩,h3,⟨n,p4⟩,h4,⟨e,p5⟩,h5,h⟩:=h;obtain⟨b1,b2,b3,b4⟩:=Tn hb h2;obtain⟨c1,c2,c3,c4⟩:=Tn hb h3;obtain⟨d1,d2,d3,d4⟩:=Tn hb h4;obtain⟨e1,e2,e3,e4⟩:=Tn hb h5;cases hd:decide (1<e)
 case true=>simp only[hd,cond_true]at h;cases h
 simp only[hd,cond_false,Vg,Vy]at h;obtain⟨⟨⟨rfl,rfl,rfl⟩,rfl⟩,rfl⟩:=h
 have he:e≤1:=by
  have:=of_decide_eq_false hd;omega
 have hbit:Br (Caa ((e:Int)==1))=e:=by
  have:e=0∨e=1:=by omega
  rcases this with rfl|rfl<;>decide
 have k:∀ n:Nat,n≤1000000000→Br (n:Int)=n:=λ n hn=>by unfold Br;omega
 simp only at b1 b2 c1 c2 d1 d2 e1 e2;refine⟨?_,e4⟩;rw[Wn]at b1;unfold hdF Qka;simp only;rw[k t b2,k c c2,k n d2,hbit,Vo,Vo,Vo,← e1,← d1,← c1,← b1]
def Uw {f:Fil} (h:Ej f=true) (hb:Aj f.2.2):Oe (M3 f)=some f:=by
 obtain⟨h1,h2,h3⟩:=Kg.1 h
 have e:M3 f=hdF f.1 f.2.1++(txt (M9 f.2.2)++c4 (crc (Ps f))):=by
  unfold M3;rw[h,cond_true];unfold Ps;rw[Vo]
 have g1:=Tua f.1 f.2.1 (txt (M9 f.2.2)++c4 (crc (Ps f))) h1;have g2:=Xma (hdF f.1 f.2.1) (M9 f.2.2) (c4 (crc (Ps f))) (by rw[O3];omega);rw[← e]at g1 g2;unfold Oe;simp only[g1,g2,Vn];rw[Ov hb];have e1:(f.1,f.2.1,f.2.2)=f:=rfl;rw[e1,h,decide_eq_true rfl];rfl
def Bea {a b:List Int} (ha:Aj a) (hb:Aj b):((M9 a).toList==(M9 b).toList)=decide (a=b):=by
 have:teq (M9 a) (M9 b)=decide (a=b):=by
  rw[Ieb,Km,decide_eq_true_iff];constructor
  ·intro h;have:=congrArg bytesOf h;rwa [Ov ha,Ov hb]at this
  ·rintro rfl;rfl
 exact this
def Xwa (l:List Int) (hb:Aj l) (hl:l.length≤1000000000000) (p:Int) (hp:p≤1000000000000):
  Tot (λ k=>Cz k (l,p,true)) (λ r=>r=((⟨#[]⟩:ByteArray),l,p,true)):=by
 unfold Cz;refine Hfb (N7a l hb hl p hp) ?_;exact H7b rfl (H4b rfl)
def Xxa {f:Fil}:(((M3 f).length:Int)==0) = !(Ej f):=by
 unfold M3;cases h:Ej f
 ·rfl
 rw[cond_true,Ve,Zh,beq_eq_false_iff_ne];simp only[c4,Vd,Vj];omega
def Qz (b:List Int) (hb:Aj b) (hl:b.length≤1000000000000):Tot (λ k=>Ef k b) (λ r=>r=Tq b):=by
 unfold Ef;refine H5b (G9b b hb hl 0 (Vq _) false) ?_;rintro r (⟨_,⟨s,d⟩,q,h1,h2,rfl⟩|⟨h1,s,d,q,h2,rfl⟩)
 ·refine H5b (G8b b hb hl q h2) ?_;rintro r (⟨t,q2,h3,h4,rfl⟩|⟨h3,rfl⟩)
  ·have hsz:=(Kpa hb h3).2.1;refine Hcb (by dsimp only;omega) (Hfb (Qy _) ?_);refine H6b rfl ?_
   have e:Tq b=bif Ej (s,d,bytesOf t)&&decide (M3 (s,d,bytesOf t)=b) then ((s,d,bytesOf t),true) else (Z1,false):=by
    unfold Tq Oe;simp only[h1,h3,Vn]
    cases Ej (s,d,bytesOf t)&&decide (M3 (s,d,bytesOf t)=b)<;>rfl
   simp only;rw[e,Xxa];cases hf:Ej (s,d,bytesOf t)
   ·exact H7b rfl (H4b rfl)
   refine H6b rfl ?_;rw[Bea (Q9 _) hb]
   cases decide (M3 (s,d,bytesOf t)=b) with
   |false=>exact H7b rfl (H4b rfl)
   |true=>exact H6b rfl (H4b rfl)
  ·refine Hcb (Vq _) (Hfb (Qy _) ?_);refine H7b rfl (H4b ?_);unfold Tq Oe;simp only[h1,h3,Vn,Hwb];rfl
 ·refine Hfb (Xwa b hb hl q (by omega)) ?_;refine Hcb (Vq _) (Hfb (Qy _) ?_);refine H7b rfl (H4b ?_);unfold Tq Oe;simp only[h1.resolve_left (by simp),Hwb];rfl
def Bfa (b:List Int) (hb:Aj b) (hl:b.length≤1000000000000):Tot (λ k=>H8 k b) (λ r=>r=Tq b):=by
 have none_of:Oe b=none→Tq b=(Z1,false):=λ h=>by unfold Tq;rw[h]
 unfold H8;refine H5b (C7b b hb hl 0) ?_;rintro r (⟨n1,p1,n2,p2,n3,p3,_,g1,g2,g3,rfl⟩|⟨h,hr⟩)
 ·refine Hfb (Wu b hb hl (p3:Int)) ?_;rw[Z0];have g1':Pt b 0=some (n1,p1):=g1
  cases g4:Pt b p3 with
  |none=>
   refine Hfb (Eya b hb hl 0) ?_;refine H6b rfl (H7b rfl (H4b (none_of ?_).symm));unfold Oe Rd;simp only[g1',g2,g3,g4,Vn,Hwb]
  |some x=>
   obtain⟨n4,p4⟩:=x;simp only
   have es:Rd b 0=bif decide (1<n4) then none else some ((((n1:Int),(n2:Int),(n3:Int)),(n4:Int)==1),p4):=by
    unfold Rd;simp only[g1',g2,g3,g4,Vn]
   refine Hfb (Eya b hb hl (p4:Int)) ?_;rw[N9a];refine H6b rfl (H6b rfl ?_)
   cases g5:N6a b p4 with
   |none=>
    refine H7b rfl (H4b (none_of ?_).symm);unfold Oe;rw[es]
    cases decide (1<n4) with
    |true=>rfl
    |false=>simp only[cond_false,Vn,g5,Hwb]
   |some y=>
    obtain⟨t,q⟩:=y;refine H6b rfl (Hbb (λ h=>H4b (none_of ?_).symm) (λ h=>?_))
    ·unfold Oe;rw[es,decide_eq_true (by omega)];rfl
    ·rw[decide_eq_false (by omega),cond_false]at es;have hq:=Kpa hb g5;simp only;rw[w64 (n:=(q:Int)+4) (by omega) (by omega)]
     have ef:Oe b=bif Ej (((n1:Int),(n2:Int),(n3:Int)),(n4:Int)==1,bytesOf t)&&decide (M3 (((n1:Int),(n2:Int),(n3:Int)),(n4:Int)==1,bytesOf t)=b) then some (((n1:Int),(n2:Int),(n3:Int)),(n4:Int)==1,bytesOf t) else none:=by
      unfold Oe;simp only[es,g5,Vn]
     refine Hab (λ h4=>H4b (none_of ?_).symm) (λ h4=>?_)
     ·rw[ef];cases hc:(Ej (((n1:Int),(n2:Int),(n3:Int)),(n4:Int)==1,bytesOf t)&&decide (M3 (((n1:Int),(n2:Int),(n3:Int)),(n4:Int)==1,bytesOf t)=b))
      ·rfl
      exfalso;rw[Va,decide_eq_true_iff]at hc;have a1:=(Xva hb es).1;rw[hq.1]at a1;have a2:=hc.2;unfold M3 at a2;rw[hc.1,cond_true]at a2;unfold Ps at a2;simp only at a2;rw[Us,Vo]at a2;rw[← a2]at a1;have a3:=K2b (K2b a1);have a4:=congrArg length a3;rw[a2,Wc]at a4;simp only[c4,Vd,Vj]at a4
      have:(q:Int)+4=(b.length:Int):=by omega
      simp[this]at h4
     ·refine Hcb (by simp only[Vj];omega) ?_;rw[Wa];refine Hfb (Hgb (Q:=λ r=>r=Ej (((n1:Int),(n2:Int),(n3:Int)),(n4:Int)==1,bytesOf t)) (Uv _) rfl) ?_;unfold Tq;rw[ef];cases hf:Ej (((n1:Int),(n2:Int),(n3:Int)),(n4:Int)==1,bytesOf t)
      ·exact H7b rfl (H4b rfl)
      refine H6b rfl (Hfb (Tp _) ?_);rw[Bea (Q9 _) hb,Vz]
      cases decide (M3 (((n1:Int),(n2:Int),(n3:Int)),(n4:Int)==1,bytesOf t)=b) with
      |false=>exact H7b rfl (H4b rfl)
      |true=>exact H6b rfl (H4b rfl)
 ·obtain⟨r1,r2,r3⟩:=r;simp only at hr;subst hr;refine Hfb (Wu b hb hl _) ?_;refine Hfb (Eya b hb hl _) ?_;refine H7b rfl (H4b (none_of ?_).symm);unfold Oe;rw[Tga (p:=0) (h.resolve_right (by omega))];rfl

def gt (l:List Nmd) (s:ByteArray):Option (List Int):=match fnd l s with
 |some i=>some (l.getD i Ea).2
 |none=>none
def Kza (y:Nmd) (l:List Nmd) (s:ByteArray):gt (y::l) s=if y.1=s then some y.2 else gt l s:=by
 unfold gt;rw[Nfa]
 by_cases h:y.1=s
 ·rw[if_pos (Km.2 h),if_pos h];rfl
 ·rw[if_neg (λ c=>h (Km.1 c)),if_neg h]
  cases fnd l s<;>rfl
def P9 {l:List Nmd} {s:ByteArray} {b:List Int} (h:gt l s=some b):(s,b)∈l:=by
 induction l with
 |nil=>cases h
 |cons y l ih=>
  rw[Kza]at h
  by_cases e:y.1=s
  ·rw[if_pos e]at h;cases h;subst e;exact Yv
  ·rw[if_neg e]at h;exact Vi _ (ih h)
def O5 {l:List Nmd} {s:ByteArray}:gt l s=none↔∀ x∈l,x.1≠s:=by
 rw[← Xpa];unfold gt
 cases fnd l s with
 |none=>simp
 |some i=>simp
def Tva {l:List Nmd} (hs:H0 l) {x:Nmd} (hx:x∈l):gt l x.1=some x.2:=by
 cases h:gt l x.1 with
 |none=>exact absurd rfl (O5.1 h x hx)
 |some b=>rw[show x=(x.1,b) from Cdb hs hx (P9 h) rfl]
def Hwa {l:List Nmd} (hs:H0 l) {s:ByteArray} {b:List Int}:gt l s=some b↔(s,b)∈l:=⟨P9,λ h=>Tva hs h⟩
def Bga {l:List Nmd} {s:ByteArray}:(gt l s).isSome=(fnd l s).isSome:=by
 unfold gt
 cases fnd l s<;>rfl
def T5 {l:List Nmd} (hs:H0 l) {s t:ByteArray}:gt (cut l s) t=if s=t then none else gt l t:=by
 by_cases h:s=t
 ·subst h;rw[if_pos rfl,O5];exact B9a
 ·rw[if_neg h]
  cases hg:gt l t with
  |none=>exact O5.2 λ x hx=>O5.1 hg x (P8.subset hx)
  |some b=>
   rw[Hwa (O4 hs)];refine Izb.2 ⟨P9 hg,?_⟩
   cases ht:teq t s with
   |false=>simp[ht]
   |true=>exact absurd (Km.1 ht).symm h
def A4b {l:List Nmd} (hs:H0 l) {x:Nmd} (hn:∀ y∈l,y.1≠x.1) {t:ByteArray}:gt (ins l x) t=if x.1=t then some x.2 else gt l t:=by
 have hi:=Ss hs hn
 by_cases h:x.1=t
 ·subst h;rw[if_pos rfl,Hwa hi];exact Wx.2 (.inl rfl)
 ·rw[if_neg h]
  cases hg:gt l t with
  |none=>
   refine O5.2 λ y hy=>?_;rcases Wx.1 hy with rfl|hy
   ·exact h
   ·exact O5.1 hg y hy
  |some b=>
   rw[Hwa hi];exact Wx.2 (.inr (P9 hg))
def A5b:∀ {l m:List Nmd},H0 l→H0 m→(∀ s,gt l s=gt m s)→l=m:=by
 have key:∀ {l m:List Nmd},H0 l→H0 m→(∀ s,gt l s=gt m s)→∀ x∈l,x∈m:=λ hl hm h x hx=>by
  have:=h x.1;rw[Tva hl hx]at this;exact P9 this.symm
 intro l m hl hm h;have h1:∀ x,x∈l↔x∈m:=λ x=>⟨key hl hm h x,key hm hl (λ s=>(h s).symm) x⟩;clear h key
 induction l generalizing m with
 |nil=>
  cases m with
  |nil=>rfl
  |cons y m=>exact absurd ((h1 y).2 (by simp)) (by simp)
 |cons x l ih=>
  cases m with
  |nil=>exact absurd ((h1 x).1 (by simp)) (by simp)
  |cons y m=>
   obtain⟨a1,a2⟩:=Wk.1 hl;obtain⟨b1,b2⟩:=Wk.1 hm
   have e:x=y:=by
    rcases Vl.1 ((h1 x).1 (by simp)) with h|h
    ·exact h
    ·rcases Vl.1 ((h1 y).2 (by simp)) with h'|h'
     ·exact h'.symm
     ·have c1:=a1 y h';rw[Axa (b1 x h)]at c1;cases c1
   subst e;congr 1;refine ih a2 b2 λ z=>⟨λ hz=>?_,λ hz=>?_⟩
   ·rcases Vl.1 ((h1 z).1 (Vi _ hz)) with rfl|h
    ·have c:=a1 z hz;rw[M0]at c;cases c
    ·exact h
   ·rcases Vl.1 ((h1 z).2 (Vi _ hz)) with rfl|h
    ·have c:=b1 z hz;rw[M0]at c;cases c
    ·exact h
def Twa (l:List Nmd) (s:ByteArray):rdN l s=match gt l s with|some b=>(b,true)|none=>([],false):=by
 unfold rdN gt
 cases fnd l s<;>rfl
def Jc {s:ByteArray} (h:B1 s=true):Lc s:=by
 have:=(B5a h).2;unfold Lc;omega
def Df {d:Dsk}:Al d=true↔Jp d.1=true∧Jp d.2=true:=by
 unfold Al;rw[Va]
def Mq {d:Dsk} (h:Al d=true):H0 d.1:=(Ae.1 (Df.1 h).1).1
def R3 {d:Dsk} (h:Al d=true):H0 d.2:=(Ae.1 (Df.1 h).2).1
def LB (l:List Nmd):Prop:=∀ x∈l,Aj x.2
def DB (d:Dsk):Prop:=LB d.1∧LB d.2
def LB.cut {l:List Nmd} (h:LB l) (s:ByteArray):LB (cut l s):=λ x hx=>h x (P8.subset hx)
def LB.ins {l:List Nmd} (h:LB l) {x:Nmd} (hx:Aj x.2):LB (ins l x):=λ y hy=>by
 rcases Wx.1 hy with rfl|hy
 ·exact hx
 ·exact h y hy
def LB.gt {l:List Nmd} (h:LB l) {s:ByteArray} {b:List Int} (hg:gt l s=some b):Aj b:=h _ (P9 hg)
def Ns:Aj []:=λ x hx=>by cases hx
def wr (l:List Nmd) (s:ByteArray) (b:List Int):List Nmd:=ins (cut l s) (s,b)
def sy (d:Dsk) (s:ByteArray):List Nmd:=match gt d.1 s with
 |some b=>wr d.2 s b
 |none=>cut d.2 s
def wrD (d:Dsk) (s:ByteArray) (b:List Int):Dsk×Bool:=bif decide (b.length≤400)&&decide ((wr d.1 s b).length≤60) then ((wr d.1 s b,d.2),true) else (d,false)
def syD (d:Dsk) (s:ByteArray):Dsk×Bool:=bif decide ((sy d s).length≤60) then ((d.1,sy d s),true) else (d,false)
def rmD (d:Dsk) (s:ByteArray):Dsk×Bool:=bif (gt d.1 s).isSome then ((cut d.1 s,d.2),true) else (d,false)
section
variable {d:Dsk} {s:ByteArray} {b:List Int}
def Txa (hd:Al d=true):wrI d s b=wr d.1 s b:=by
 unfold wrI wr;rw[Qv (Mq hd)]
def Tya (hd:Al d=true):syI d s=sy d s:=by
 unfold syI sy gt wr;rw[Qv (R3 hd)]
 cases fnd d.1 s<;>rfl
def Psa (hd:Al d=true) (hs:B1 s=true) (hb:b.length≤1000000000000):Tot (λ k=>Ed k d s b) (λ r=>r=wrD d s b):=by
 refine(Tsa d s b (Nk hd) (Jc hs) hb).mono ?_;rintro r rfl;rw[hd,hs,Txa hd];rfl
def Dna (hd:Al d=true) (hs:B1 s=true) (hb:b.length≤1000000000000):Tot (λ k=>Bh k d s b) (λ r=>r=wrD d s b):=by
 refine(Hra d s b (Nk hd) (Jc hs) hb).mono ?_;rintro r rfl;obtain⟨h1,h2⟩:=Nha (b:=b) hd hs;rw[hd,hs,h1,h2,Txa hd];rfl
def Hxa (hd:Al d=true) (hs:B1 s=true):Tot (λ k=>Ca k d s) (λ r=>r=syD d s):=by
 refine(Xra d s (Nk hd) (Jc hs)).mono ?_;rintro r rfl;rw[hd,hs,Tya hd];rfl
def Ux (hd:Al d=true) (hs:B1 s=true):Tot (λ k=>An k d s) (λ r=>r=syD d s):=by
 refine(Nga d s (Nk hd) (Jc hs)).mono ?_;rintro r rfl;rw[hd,hs,Ccb hd,Tra hd hs,Tya hd];rfl
def Cgb (hd:Al d=true) (hs:B1 s=true) (hb:b.length≤400) (hl:(wr d.1 s b).length≤60):Al (wr d.1 s b,d.2)=true:=by
 have:=(Nha (b:=b) hd hs).2;rw[Txa hd,decide_eq_true hb,decide_eq_true hl]at this;exact this
def Geb (hd:Al d=true) (hs:B1 s=true) (hl:(sy d s).length≤60):Al (d.1,sy d s)=true:=by
 have:=Tra hd hs;rw[Tya hd,decide_eq_true hl]at this;exact this
def Nla (hd:Al d=true) (hs:B1 s=true):Al (wrD d s b).1=true:=by
 unfold wrD;cases hc:decide (b.length≤400)&&decide ((wr d.1 s b).length≤60)
 ·exact hd
 rw[Va,decide_eq_true_iff,decide_eq_true_iff]at hc;exact Cgb hd hs hc.1 hc.2
def Evb (hd:Al d=true) (hs:B1 s=true):Al (syD d s).1=true:=by
 unfold syD
 cases hc:decide ((sy d s).length≤60) with
 |false=>exact hd
 |true=>exact Geb hd hs (of_decide_eq_true hc)
def A6b (hd:Al d=true):Al (rmD d s).1=true:=by
 unfold rmD
 cases (gt d.1 s).isSome with
 |false=>exact hd
 |true=>exact Df.2 ⟨Xh (Df.1 hd).1,(Df.1 hd).2⟩
def Pta (hd:Al d=true) (h:(gt d.1 s).isSome=true):B1 s=true:=by
 cases hg:gt d.1 s with
 |none=>rw[hg]at h;cases h
 |some b=>exact(Qu.1 ((Ae.1 (Df.1 hd).1).2.1 _ (P9 hg))).1
def L0a (hd:Al d=true):Tot (λ k=>Fa k d s) (λ r=>r=rmD d s):=by
 refine(Pqa d s (Nk hd).1).mono ?_;rintro r rfl;rw[hd,← Bga,Igb,Qv (Mq hd)];rfl
def Tr (hd:Al d=true) (hs:Lc s):Tot (λ k=>Bj k d s) (λ r=>r=rmD d s):=by
 refine(Dja d s (Nk hd).1 hs).mono ?_;rintro r rfl;unfold rmD;rw[hd,← Bga];cases h:(gt d.1 s).isSome
 ·rfl
 have h1:Al (cut d.1 s,d.2)=true:=by
  have:=A6b (s:=s) hd;unfold rmD at this;rw[h]at this;exact this
 rw[Pta hd h,h1];rfl
end
def lkD (d:Dsk) (s:ByteArray):Fil×Int:=match gt d.1 s with
 |none=>(Z1,1)
 |some b=>match Oe b with
  |some f=>(f,0)
  |none=>(Z1,2)
def Tza {l:List Nmd} {s:ByteArray} {b:List Int} (h:F1a l) (hg:gt l s=some b):b.length≤1000000000000:=h.2 _ (P9 hg)
def Z3 {d:Dsk} (hf:F1a d.1) (hb:LB d.1) (s:ByteArray):Tot (λ k=>Ig k d s) (λ r=>r=lkD d s):=by
 unfold Ig lkD;refine Hfb (Nda d s hf) ?_;rw[Twa]
 cases hg:gt d.1 s with
 |none=>exact H7b rfl (H4b rfl)
 |some b=>
  refine H6b rfl (Hfb (Qz b (hb.gt hg) (Tza hf hg)) ?_);unfold Tq;dsimp only
  cases Oe b with
  |none=>exact H7b rfl (H4b rfl)
  |some f=>exact H6b rfl (H4b rfl)
def Uy {d:Dsk} (hf:F1a d.1) (hb:LB d.1) (s:ByteArray):Tot (λ k=>G4 k d s) (λ r=>r=lkD d s):=by
 unfold G4 lkD;refine Hfb (Nea d s hf) ?_;rw[Twa]
 cases hg:gt d.1 s with
 |none=>exact H7b rfl (H4b rfl)
 |some b=>
  refine H6b rfl (Hfb (Bfa b (hb.gt hg) (Tza hf hg)) ?_);unfold Tq;dsimp only
  cases Oe b with
  |none=>exact H7b rfl (H4b rfl)
  |some f=>exact H6b rfl (H4b rfl)
def Pa {d:Dsk} {s:ByteArray} {f:Fil}:lkD d s=(f,0)↔∃ b,gt d.1 s=some b∧Oe b=some f:=by
 unfold lkD
 cases gt d.1 s with
 |none=>simp
 |some b=>cases h:Oe b<;>simp[h]
def old (d:Dsk) (s:ByteArray):Option Fil:=(gt d.1 s).bind Oe
def kp1 (d:Dsk) (s:ByteArray) (f:Fil):Option (Dsk×Int):=
 let w:=bif (wrD d s (M3 f)).2 then some ((wrD d s (M3 f)).1,(0:Int)) else none
 match old d s with
 |some o=>bif sle o.1 f.1 then w else some (d,1)
 |none=>w
def kp2 (d:Dsk) (s:ByteArray) (sure:Bool) (x:Dsk×Int):Dsk×Int:=bif sure then (bif (syD x.1 s).2 then ((syD x.1 s).1,x.2) else (d,3)) else x
def N5 (d:Dsk) (s:ByteArray) (f:Fil) (sure:Bool):Dsk×Int:=match kp1 d s f with
 |some x=>kp2 d s sure x
 |none=>(d,3)
def keep (d:Dsk) (s:ByteArray) (f:Fil) (sure:Bool):Dsk×Int:=bif Al d&&(B1 s&&Ej f) then N5 d s f sure else (d,2)
def Xya:Oe []=none:=by
 cases h:Oe [] with
 |none=>rfl
 |some f=>
  obtain⟨h1,_,h3⟩:=Bda h;unfold M3 at h3;rw[h1]at h3;simp[c4]at h3
def Ewb {d:Dsk} {s:ByteArray} {f:Fil} (hd:Al d=true) (hs:B1 s=true) {x:Dsk×Int} (h:kp1 d s f=some x):Al x.1=true:=by
 have hw:∀ x,(bif (wrD d s (M3 f)).2 then some ((wrD d s (M3 f)).1,(0:Int)) else none)=some x→Al x.1=true:=by
  intro x h
  cases hc:(wrD d s (M3 f)).2 with
  |false=>rw[hc]at h;cases h
  |true=>rw[hc]at h;cases h;exact Nla hd hs
 unfold kp1 at h;simp only at h;split at h
 ·rename_i o _
  cases hc:sle o.1 f.1 with
  |false=>rw[hc]at h;cases h;exact hd
  |true=>rw[hc]at h;exact hw _ h
 ·exact hw _ h
def Exb {d:Dsk} {s:ByteArray} (hd:Al d=true) (hs:B1 s=true) {x:Dsk} {c:Int} (hx:Al x=true) (sure:Bool):
  Tot (λ k=>cond sure ((Ca k x s).bind λ r=>cond (!r.2) ((A6 k d).bind λ q=>some (q,3)) (some (r.1,c))) (some (x,c))) (λ r=>r=kp2 d s sure (x,c)):=by
 unfold kp2;cases sure
 ·exact H4b rfl
 refine H7b rfl (Hfb (Hxa hx hs) ?_);cases h:(syD x s).2
 case true=>exact H6b rfl (H4b rfl)
 refine H7b rfl (Hfb (K8 d (Nk hd).1.1) ?_);exact H4b rfl
def Xza (d:Dsk) (s:ByteArray) (f:Fil) (sure:Bool) (hd:DIn d) (hb:LB d.1) (hs:Lc s):Tot (λ k=>Mj k d s f sure) (λ r=>r=keep d s f sure):=by
 have bad:Tot (λ k=>(A6 k d).bind λ r2=>some (r2,(2:Int))) (λ r=>r=(d,2)):=by
  refine Hfb (K8 d hd.1.1) ?_;exact H4b rfl
 unfold Mj keep;refine Hfb (Sr d hd.1.1 hd.1.2) ?_;cases h1:Al d
 ·exact H7b rfl bad
 refine H6b rfl (Hfb (Qq s hs) ?_);cases h2:B1 s
 ·exact H7b rfl bad
 refine H6b rfl (Hfb (Hgb (Q:=λ b=>b=Ej f) (F5a f) rfl) ?_);cases h3:Ej f
 ·exact H7b rfl bad
 refine H6b rfl (Hfb (K8 d hd.1.1) ?_);refine Hfb (Nda d s hd.1.1.1) ?_;have hlen:=Z2 f
 have w:∀ {o:Option Fil},(kp1 d s f=bif (wrD d s (M3 f)).2 then some ((wrD d s (M3 f)).1,(0:Int)) else none)→Tot (λ k=>(Fh k f).bind λ r13=>(Ed k d s r13).bind λ r14=>cond (!r14.2) ((A6 k d).bind λ r15=>some (r15,(3:Int))) (cond sure ((Ca k r14.1 s).bind λ r16=>cond (!r16.2) ((A6 k d).bind λ r17=>some (r17,3)) (some (r16.1,0))) (some (r14.1,0)))) (λ r=>r=N5 d s f sure):=by
  intro _ e;refine Hfb (Qy f) ?_;refine Hfb (Psa h1 h2 (by omega)) ?_;unfold N5;rw[e]
  cases h4:(wrD d s (M3 f)).2 with
  |false=>
   refine H7b rfl (Hfb (K8 d hd.1.1) ?_);exact H4b rfl
  |true=>exact H6b rfl (Exb h1 h2 (Nla h1 h2) sure)
 rw[Twa];have eo:old d s=(gt d.1 s).bind Oe:=rfl
 cases hg:gt d.1 s with
 |none=>
  rw[hg]at eo;refine Hfb (Qz [] Ns (by simp)) ?_;unfold Tq;rw[Xya];refine H6b rfl (w (o:=none) ?_);unfold kp1;rw[eo];rfl
 |some b=>
  rw[hg]at eo;have eo:old d s=Oe b:=eo;refine Hfb (Qz b (hb.gt hg) (Tza hd.1.1.1 hg)) ?_;unfold Tq
  cases ho:Oe b with
  |none=>
   refine H6b rfl (w (o:=none) ?_);unfold kp1;rw[eo,ho]
  |some o=>
   rw[ho]at eo;refine H7b rfl (Hfb (Hgb (Q:=λ b=>b=sle o.1 f.1) (Bba f o) rfl) ?_)
   cases hl:sle o.1 f.1 with
   |true=>
    refine H6b rfl (w (o:=none) ?_);unfold kp1;simp only[eo,hl,cond_true]
   |false=>
    have e1:N5 d s f sure=kp2 d s sure (d,1):=by
     unfold N5 kp1;simp only[eo,hl,cond_false]
    refine H7b rfl ?_;show Tot _ (λ r=>r=N5 d s f sure);rw[e1];exact Exb h1 h2 h1 sure
def Eyb {d:Dsk} {s:ByteArray} (hd:Al d=true) (hs:B1 s=true) {x:Dsk} {c:Int} (hx:Al x=true):
  Tot (λ k=>(An k x s).bind λ r=>cond (!r.2) ((A7 k d).bind λ q=>some (q,3)) (some (r.1,c))) (λ r=>r=kp2 d s true (x,c)):=by
 unfold kp2;refine Hfb (Ux hx hs) ?_;cases h:(syD x s).2
 case true=>exact H6b rfl (H4b rfl)
 refine H7b rfl (Hfb (Mg d (Nk hd).1.1) ?_);exact H4b rfl
def Nma (d:Dsk) (s:ByteArray) (f:Fil) (sure:Bool) (hd:DIn d) (hb:LB d.1) (hs:Lc s):Tot (λ k=>Kj k d s f sure) (λ r=>r=keep d s f sure):=by
 have bad:Tot (λ k=>(A7 k d).bind λ r2=>some (r2,(2:Int))) (λ r=>r=(d,2)):=by
  refine Hfb (Mg d hd.1.1) ?_;exact H4b rfl
 unfold Kj keep;refine Hfb (Qt d hd.1.1 hd.1.2) ?_;cases h1:Al d
 ·exact H7b rfl bad
 refine H6b rfl (Hfb (Pk s hs) ?_);cases h2:B1 s
 ·exact H7b rfl bad
 refine H6b rfl (Hfb (Hgb (Q:=λ b=>b=Ej f) (Uv f) rfl) ?_);cases h3:Ej f
 ·exact H7b rfl bad
 refine H6b rfl (Hfb (Uy hd.1.1.1 hb s) ?_);have hlen:=Z2 f
 have w:(kp1 d s f=bif (wrD d s (M3 f)).2 then some ((wrD d s (M3 f)).1,(0:Int)) else none)→Tot (λ k=>(Bn k f).bind λ r12=>(Bh k d s r12).bind λ r13=>cond r13.2 (cond sure ((An k r13.1 s).bind λ r14=>cond (!r14.2) ((A7 k d).bind λ r15=>some (r15,(3:Int))) (some (r14.1,0))) (cond (!r13.2) ((A7 k d).bind λ r16=>some (r16,3)) (some (r13.1,0)))) (cond (!r13.2) ((A7 k d).bind λ r17=>some (r17,3)) (some (r13.1,0)))) (λ r=>r=N5 d s f sure):=by
  intro e;refine Hfb (Tp f) ?_;refine Hfb (Dna h1 h2 (by omega)) ?_;unfold N5;rw[e]
  cases h4:(wrD d s (M3 f)).2 with
  |false=>
   refine H6b rfl (H7b rfl (Hfb (Mg d hd.1.1) ?_));exact H4b rfl
  |true=>
   refine H7b rfl ?_
   cases sure with
   |true=>exact H7b rfl (Eyb h1 h2 (Nla h1 h2))
   |false=>exact H6b rfl (H6b rfl (H4b rfl))
 have eo:old d s=(gt d.1 s).bind Oe:=rfl;unfold lkD
 cases hg:gt d.1 s with
 |none=>
  rw[hg]at eo;refine H6b rfl (w ?_);unfold kp1;rw[eo];rfl
 |some b=>
  rw[hg]at eo;have eo:old d s=Oe b:=eo;simp only
  cases ho:Oe b with
  |none=>
   refine H6b rfl (w ?_);unfold kp1;rw[eo,ho]
  |some o=>
   rw[ho]at eo;refine H7b rfl (Hfb (Hgb (Q:=λ b=>b=sle o.1 f.1) (Hva f o) rfl) ?_)
   cases hl:sle o.1 f.1 with
   |true=>
    refine H6b rfl (w ?_);unfold kp1;simp only[eo,hl,cond_true]
   |false=>
    have e1:N5 d s f sure=kp2 d s sure (d,1):=by
     unfold N5 kp1;simp only[eo,hl,cond_false]
    refine H7b rfl ?_;show Tot _ (λ r=>r=N5 d s f sure);rw[e1];refine Hfb (Mg d hd.1.1) ?_
    cases sure with
    |true=>exact H7b rfl (Eyb h1 h2 h1)
    |false=>exact H6b rfl (H4b rfl)

def DG (d:Dsk):Prop:=Al d=true∧DB d
def A7b {d:Dsk} {s:ByteArray} {b:List Int} (hd:Al d=true) (h:gt d.1 s=some b):b.length≤400:=(Qu.1 ((Ae.1 (Df.1 hd).1).2.1 _ (P9 h))).2
def A8b {d:Dsk} {s:ByteArray} {b:List Int} (h:DB d) (hb:Aj b):DB (wrD d s b).1:=by
 unfold wrD
 cases decide (b.length≤400)&&decide ((wr d.1 s b).length≤60) with
 |false=>exact h
 |true=>exact⟨(h.1.cut s).ins hb,h.2⟩
def Gfb {d:Dsk} {s:ByteArray} (h:DB d):LB (sy d s):=by
 unfold sy
 cases hg:gt d.1 s with
 |none=>exact h.2.cut s
 |some b=>exact(h.2.cut s).ins (h.1.gt hg)
def Ezb {d:Dsk} {s:ByteArray} (h:DB d):DB (syD d s).1:=by
 unfold syD
 cases decide ((sy d s).length≤60) with
 |false=>exact h
 |true=>exact⟨h.1,Gfb h⟩
def F0b {d:Dsk} {s:ByteArray} (h:DB d):DB (rmD d s).1:=by
 unfold rmD
 cases (gt d.1 s).isSome with
 |false=>exact h
 |true=>exact⟨h.1.cut s,h.2⟩
def Ggb {d:Dsk} {s:ByteArray} {b:List Int} (h:DG d) (hs:B1 s=true) (hb:Aj b):DG (wrD d s b).1:=⟨Nla h.1 hs,A8b h.2 hb⟩
def Chb {d:Dsk} {s:ByteArray} (h:DG d) (hs:B1 s=true):DG (syD d s).1:=⟨Evb h.1 hs,Ezb h.2⟩
def U0a {d:Dsk} {s:ByteArray} (h:DG d):DG (rmD d s).1:=⟨A6b h.1,F0b h.2⟩
def F1b {d:Dsk} {s:ByteArray} {f:Fil} (hd:DG d) (hs:B1 s=true) {x:Dsk×Int} (h:kp1 d s f=some x):DG x.1:=by
 refine⟨Ewb hd.1 hs h,?_⟩
 have hw:∀ x,(bif (wrD d s (M3 f)).2 then some ((wrD d s (M3 f)).1,(0:Int)) else none)=some x→DB x.1:=by
  intro x h
  cases hc:(wrD d s (M3 f)).2 with
  |false=>rw[hc]at h;cases h
  |true=>rw[hc]at h;cases h;exact A8b hd.2 (Q9 f)
 unfold kp1 at h;simp only at h;split at h
 ·rename_i o _
  cases hc:sle o.1 f.1 with
  |false=>rw[hc]at h;cases h;exact hd.2
  |true=>rw[hc]at h;exact hw _ h
 ·exact hw _ h
def Ghb {d:Dsk} {s:ByteArray} {sure:Bool} (hd:DG d) (hs:B1 s=true) {x:Dsk×Int} (hx:DG x.1):DG (kp2 d s sure x).1:=by
 unfold kp2;cases sure
 ·exact hx
 rw[cond_true]
 cases (syD x.1 s).2 with
 |false=>exact hd
 |true=>exact Chb hx hs
def U1a {d:Dsk} {s:ByteArray} {f:Fil} {sure:Bool} (hd:DG d) (hs:B1 s=true):DG (N5 d s f sure).1:=by
 unfold N5
 cases h:kp1 d s f with
 |none=>exact hd
 |some x=>exact Ghb hd hs (F1b hd hs h)
def A9b {d:Dsk} {s:ByteArray} {f:Fil} {sure:Bool} (hd:DG d):DG (keep d s f sure).1:=by
 unfold keep;cases h:B1 s
 ·rw[hd.1];exact hd
 cases Ej f with
 |false=>rw[hd.1];exact hd
 |true=>rw[hd.1];exact U1a hd h
def Cda (b:Int) (j:Nat):Int:=((ofInt 8 b ^^^ BitVec.twoPow 8 j).toNat:Int)
def Nna (b:Int) (j:Nat):0≤Cda b j∧Cda b j≤255:=by
 unfold Cda;have:=(ofInt 8 b ^^^ BitVec.twoPow 8 j).isLt;omega
def Cib (b:Int):∀ j,j<8→wrap .u8 ((ofInt (IntKind.bits .u8) b ^^^ ofInt (IntKind.bits .u8) (wrap .u8 ((1:Int)*2 ^ (min j (IntKind.bits .u8))))).toNat)=Cda b j:=by
 intro j hj
 have h1:∀ j,j<8→ofInt 8 (wrap .u8 ((1:Int)*2 ^ (min j 8)))=BitVec.twoPow 8 j:=by decide
 show wrap .u8 (((ofInt 8 b ^^^ ofInt 8 (wrap .u8 ((1:Int)*2 ^ (min j 8)))).toNat:Nat):Int)=_;rw[h1 j hj];have:=(ofInt 8 b ^^^ BitVec.twoPow 8 j).isLt;rw[Hha _ (by omega)];rfl
def Y0a {b:Int} (hb:0≤b∧b≤255) {j:Nat} (hj:j<8):Cda b j≠b:=by
 intro h;unfold Cda at h
 have h1:b=((ofInt 8 b).toNat:Int):=by rw[Ivb];omega
 have h2:(ofInt 8 b ^^^ BitVec.twoPow 8 j).toNat=(ofInt 8 b).toNat:=by omega
 have h3:=Kbb h2
 have h4:BitVec.twoPow 8 j=0#8:=by
  have:=congrArg (λ x=>ofInt 8 b ^^^ x) h3
  simpa[← BitVec.xor_assoc] using this
 have h5:∀ j,j<8→BitVec.twoPow 8 j≠0#8:=by decide
 exact h5 j hj h4
def O6 (l:List Int) (n:Nat):List Int:=l.set (n/8) (Cda (l.getD (n/8) 0) (n % 8))
def Hya (l:List Int) (n:Nat):(O6 l n).length=l.length:=by unfold O6;rw[Vw]
def L1a {l:List Int} (h:Aj l) (n:Nat):Aj (O6 l n):=λ x hx=>by
 rcases Yc hx with h'|rfl
 ·exact h x h'
 ·exact Nna _ _
def J5a (d:Dsk) (s:ByteArray) (n:Int):Dsk×Bool:=match gt d.1 s with
 |none=>(d,false)
 |some b=>bif inR n 0 (8*(b.length:Int)-1) then ((wr d.1 s (O6 b n.toNat),bif decide (gt d.2 s=some b) then wr d.2 s (O6 b n.toNat) else d.2),true) else (d,false)
def U2a {l:List Nmd} (hs:H0 l) {s:ByteArray} {i:Nat} (h:fnd l s=some i) (b:List Int):l.set i (s,b)=wr l s b:=by
 obtain⟨hi,hn⟩:=P6 h
 have hm:(l.set i (s,b)).map Prod.fst=l.map Prod.fst:=by
  rw[List.map_set];apply Ifb;intro j
  by_cases hj:i=j
  ·subst hj;rw[J3b (by rw[Wh];exact hi),Hob,Vk hi];rw[Vb,Vk hi]at hn;exact congrArg some hn.symm
  ·rw[Ihb hj]
 have h1:H0 (l.set i (s,b)):=by
  have e:∀ m:List Nmd,H0 m↔(m.map Prod.fst).Pairwise (λ a b=>tlt a b=true):=λ m=>by
   unfold H0;rw[Hhb]
  rw[e,hm,← e];exact hs
 refine A5b h1 (Ss (O4 hs) B9a) λ t=>?_;have h2:=A4b (x:=(s,b)) (t:=t) (O4 hs (s:=s)) B9a;unfold wr;rw[h2]
 by_cases ht:s=t
 ·subst ht;rw[if_pos rfl,Hwa h1];exact List.mem_set hi _
 ·rw[if_neg ht,T5 hs,if_neg ht]
  cases hg:gt l t with
  |none=>
   refine O5.2 λ x hx=>?_;rcases Yc hx with h'|rfl
   ·exact O5.1 hg x h'
   ·exact ht
  |some c=>
   rw[Hwa h1];obtain⟨j,hj,e⟩:=Zl.1 (P9 hg)
   have hij:i≠j:=by
    rintro rfl;rw[Vb,Vk hi,Yq,e]at hn;exact ht hn.symm
   refine Zl.2 ⟨j,by rw[Vw];exact hj,?_⟩;rw[List.getElem_set_ne hij];exact e
def Hza {l:List Nmd} {s:ByteArray} {b:List Int} (hs:H0 l) (h:(gt l s).isSome=true):(wr l s b).length=l.length:=by
 rw[Bga]at h;obtain⟨i,hi⟩:=Zd.1 h;rw[← U2a hs hi,Vw]
def F2b {d:Dsk} {s:ByteArray} {n:Int} (h:DG d):DG (J5a d s n).1:=by
 unfold J5a
 cases hg:gt d.1 s with
 |none=>exact h
 |some b=>
  simp only;cases inR n 0 (8*(b.length:Int)-1)
  ·exact h
  have hn:=Pta h.1 (s:=s) (by rw[hg];rfl);have hb:=A7b h.1 hg;have hbb:=L1a (h.2.1.gt hg) n.toNat;have l1:=Hza (b:=O6 b n.toNat) (Mq h.1) (s:=s) (by rw[hg];rfl);have q1:=Cgb h.1 hn (b:=O6 b n.toNat) (by rw[Hya];exact hb) (by rw[l1];exact(Ae.1 (Df.1 h.1).1).2.2);rw[cond_true];cases hc:decide (gt d.2 s=some b)
  ·exact⟨q1,(h.2.1.cut s).ins hbb,h.2.2⟩
  have hg2:=of_decide_eq_true hc;have l2:=Hza (b:=O6 b n.toNat) (R3 h.1) (s:=s) (by rw[hg2];rfl);have h':Al (d.2,d.1)=true:=Df.2 ⟨(Df.1 h.1).2,(Df.1 h.1).1⟩;have q2:=Cgb h' hn (b:=O6 b n.toNat) (by rw[Hya];exact hb) (by show (wr d.2 s _).length≤60;rw[l2];exact(Ae.1 (Df.1 h.1).2).2.2);exact⟨Df.2 ⟨(Df.1 q1).1,(Df.1 q2).1⟩,(h.2.1.cut s).ins hbb,(h.2.2.cut s).ins hbb⟩
def Cjb {d:Dsk} {s:ByteArray} {n:Int} (h:DG d) (hn:n≤9223372036854775807) (hn0 : -9223372036854775808≤n):Tot (λ k=>L5 k d s n) (λ r=>r=J5a d s n):=by
 have hin:=Nk h.1;unfold L5;refine Hfb (Mg d hin.1.1) ?_;refine Hfb (Dia d.1 s hin.1.1.1.1) ?_;refine Hfb (Qt d hin.1.1 hin.1.2) ?_;rw[h.1];refine H6b rfl ?_;unfold J5a;unfold Hka
 cases hf:fnd d.1 s with
 |none=>
  have hg:gt d.1 s=none:=by unfold gt;rw[hf]
  rw[hg];exact H8b (by decide) (H4b rfl)
 |some i=>
  have hg:gt d.1 s=some (d.1.getD i Ea).2:=by unfold gt;rw[hf]
  have hi:=(P6 hf).1;have hnm:=(P6 hf).2;have hb:=A7b h.1 hg;rw[hg];have e0:d.1.getD i ((⟨#[]⟩:ByteArray),([]:List Int))=d.1.getD i Ea:=rfl;simp only[Vc,e0];refine H9b (by omega) (H8b (by omega) (H8b (by omega) ?_));rw[w64 (n:=8*((d.1.getD i Ea).2.length:Int)) (by omega) (by omega),w64 (n:=8*((d.1.getD i Ea).2.length:Int)-1) (by omega) (by omega)];refine Hfb (Hgb (Q:=λ b=>b=inR n 0 (8*((d.1.getD i Ea).2.length:Int)-1)) (Oq _ _ _) rfl) ?_;cases hr:inR n 0 (8*((d.1.getD i Ea).2.length:Int)-1)
  ·exact H7b rfl (H4b rfl)
  obtain⟨n0,n1⟩:=Et.1 hr;obtain⟨m,rfl⟩:∃ m:Nat,n=(m:Int):=⟨n.toNat,by omega⟩
  have hm8:m/8<(d.1.getD i Ea).2.length:=by omega
  have et:wrap .i64 (Int.tdiv (m:Int) 8)=((m/8:Nat):Int):=by
   rw[Htb (by omega),w64 (by omega) (by omega)];omega
  have eu:wrap .u64 (Int.tmod (m:Int) 8)=((m % 8:Nat):Int):=by
   have h8:∀ j:Nat,j<8→wrap .u64 (j:Int)=(j:Int):=by decide
   rw[Zz (by omega),← h8 (m % 8) (by omega)];congr 1
  refine H6b rfl (Hfb (Dia d.2 s hin.1.1.2.1) ?_);simp only[et,eu,Vc,Cib _ _ (Kfb m (show 0<8 by omega))]
  have ew:d.1.set i ((d.1.getD i Ea).1,O6 (d.1.getD i Ea).2 m)=wr d.1 s (O6 (d.1.getD i Ea).2 m):=by rw[hnm];exact U2a (Mq h.1) hf _
  have ew':d.1.set i ((d.1.getD i Ea).1,(d.1.getD i Ea).2.set (m/8) (Cda ((d.1.getD i Ea).2.getD (m/8) 0) (m % 8)))=wr d.1 s (O6 (d.1.getD i Ea).2 m):=ew;unfold Hka
  cases hf2:fnd d.2 s with
  |none=>
   have hg2:gt d.2 s=none:=by unfold gt;rw[hf2]
   rw[hg2];refine H9b (by decide) (H8b (by omega) (H8b (by omega) (H8b (by omega) (H8b (by omega) (H9b (by omega) (H8b (by omega) (H8b (by omega) (H4b ?_))))))));rw[ew'];rfl
  |some j=>
   have hg2:gt d.2 s=some (d.2.getD j Ea).2:=by unfold gt;rw[hf2]
   have hj:=(P6 hf2).1;have hjn:=(P6 hf2).2;have e1:d.2.getD j ((⟨#[]⟩:ByteArray),([]:List Int))=d.2.getD j Ea:=rfl;rw[hg2];simp only[Vc,e1];refine H8b (by omega) (H8b (by omega) (H8b (by omega) (H8b (by omega) (H8b (by omega) (H8b (by omega) (H8b (by omega) (H8b (by omega) (H8b (by omega) (H9b (by omega) (H8b (by omega) (H8b (by omega) ?_)))))))))));rw[Bea (h.2.2.gt hg2) (h.2.1.gt hg)];refine Hbb (λ he=>?_) (λ he=>?_)
   ·have hl2:(d.2.getD j Ea).2.length=(d.1.getD i Ea).2.length:=by rw[he]
    refine H8b (by omega) (H8b (by omega) (H8b (by omega) (H8b (by omega) (H9b (by omega) (H8b (by omega) (H8b (by omega) (H4b ?_)))))))
    have ew2:d.2.set j ((d.2.getD j Ea).1,(d.2.getD j Ea).2.set (m/8) (Cda ((d.2.getD j Ea).2.getD (m/8) 0) (m % 8)))=wr d.2 s (O6 (d.1.getD i Ea).2 m):=by
     rw[hjn,he];exact U2a (R3 h.1) hf2 _
    rw[ew',ew2,he,decide_eq_true rfl];rfl
   ·refine H4b ?_;rw[ew',decide_eq_false (λ c=>he (K8b c))];rfl
def Pua:∀ (n:Nat) (i:Int) (c:Cur) (a0 a1:List Nmd) (d:Dsk),i=n→n≤6→Dc c→DG d→
  Tot (λ k=>B4 k i c.1 c.2.1 c.2.2 a0 a1 d.1 d.2) (λ r=>DG (r.2.2.1,r.2.2.2.1)∧Dc r.2.2.2.2):=by
 intro n
 induction n with
 |zero=>
  intro i c a0 a1 d hi h6 hc hd;refine Tot.succ ?_;simp only[B4];exact H9b (by omega) (H4b ⟨hd,hc⟩)
 |succ n ih=>
  intro i c a0 a1 d hi h6 hc hd;refine Tot.succ ?_;simp only[B4];refine H8b (by omega) ?_;rw[w64 (n:=i-1) (by omega) (by omega)];obtain⟨s,c1,e1,hs,k1⟩:=Od c hc;refine Hfb (Hgb (Q:=λ r=>r=(s,c1)) e1 rfl) ?_;obtain⟨x,c2,e2,_,_,_,k2⟩:=B0 c1 k1 6 (by decide);refine Hfb (Hgb (Q:=λ r=>r=(x,c2)) e2 rfl) ?_;dsimp only;obtain⟨hsh,hsn⟩:=Mp s hs
  have wr:Tot (λ k=>(Cm k c2).bind λ r5=>(Bn k r5.1).bind λ r6=>(Bh k (d.1,d.2) s r6).bind λ r7=>B4 k (i-1) r5.2.1 r5.2.2.1 r5.2.2.2 a0 a1 r7.1.1 r7.1.2) (λ r=>DG (r.2.2.1,r.2.2.2.1)∧Dc r.2.2.2.2):=by
   refine H5b (Q6 c2 k2) (λ f hf=>?_);refine Hfb (Tp f.1) ?_;refine Hfb (Dna hd.1 hsn (by have:=Z2 f.1;omega)) ?_;exact ih (i-1) f.2 a0 a1 _ (by omega) (by omega) hf.2 (Ggb hd hsn (Q9 _))
  have sy:Tot (λ k=>(An k (d.1,d.2) s).bind λ r4=>B4 k (i-1) c2.1 c2.2.1 c2.2.2 a0 a1 r4.1.1 r4.1.2) (λ r=>DG (r.2.2.1,r.2.2.2.1)∧Dc r.2.2.2.2):=by
   refine Hfb (Ux hd.1 hsn) ?_;exact ih (i-1) c2 a0 a1 _ (by omega) (by omega) k2 (Chb hd hsn)
  refine Hab (λ _=>?_) (λ _=>Hab (λ h=>Hab (λ _=>sy) (λ _=>wr)) (λ _=>Hab (λ _=>sy) (λ _=>wr)));refine Hfb (Tr hd.1 hsh) ?_;exact ih (i-1) c2 a0 a1 _ (by omega) (by omega) k2 (U0a hd)
def lb0:LB []:=λ x hx=>by cases hx
def dg0:DG ([],[]):=⟨by decide,⟨lb0,lb0⟩⟩
def Ckb (c:Cur) (hc:Dc c):Tot (λ k=>Fn k c) (λ r=>DG r.1∧Dc r.2):=by
 unfold Fn;obtain⟨x,c2,e2,h0,h1,_,k2⟩:=B0 c hc 7 (by decide);have h1:=h1 (by decide);refine Hfb (Hgb (Q:=λ r=>r=(x,c2)) e2 rfl) ?_;exact H5b (Pua x.toNat x c2 [] [] ([],[]) (by omega) (by omega) k2 dg0) (λ r hr=>H4b hr)
def Aab {l:List Nmd} {x:Nmd} (h:LB l) (hx:Aj x.2):LB (l++[x]):=λ y hy=>by
 rcases Vp.1 hy with hy|hy
 ·exact h y hy
 ·rw[Vu.1 hy];exact hx
def I0a (n:Nat):Aj (List.replicate n 0):=λ x hx=>by
 rw[List.eq_of_mem_replicate hx];omega
def F3b (c:Cur) (hc:Dc c):Tot (λ k=>Ke k c) (λ r=>(DIn r.1∧DB r.1)∧Dc r.2):=by
 have h0:=Xta c hc
 have h1:Tot (λ k=>Ke k c) (λ r=>DB r.1):=by
  unfold Ke;refine H5b (Ckb c hc) (λ d hd=>?_);obtain⟨hd,k0⟩:=hd;have hin:=Nk hd.1;have g1:=(Ae.1 (Df.1 hd.1).1).2.2;have g2:=(Ae.1 (Df.1 hd.1).2).2.2;obtain⟨x,c2,e2,_,_,_,k2⟩:=B0 d.2 k0 12 (by decide);refine Hfb (Hgb (Q:=λ r=>r=(x,c2)) e2 rfl) ?_;refine Hab (λ _=>?_) (λ _=>Hab (λ _=>?_) (λ _=>H4b hd.2))
  ·obtain⟨s,c3,e3,hs,k3⟩:=Qw c2 k2;refine Hfb (Hgb (Q:=λ r=>r=(s,c3)) e3 rfl) ?_;exact Hcb (by simp only[Vd,Vj];omega) (H4b ⟨Aab hd.2.1 Ns,hd.2.2⟩)
  ·obtain⟨s,c3,e3,hs,k3⟩:=Qw c2 k2;refine Hfb (Hgb (Q:=λ r=>r=(s,c3)) e3 rfl) ?_;obtain⟨y,c4,e4,y0,y1,_,k4⟩:=B0 c3 k3 2 (by decide);have y1:=y1 (by decide);refine Hfb (Hgb (Q:=λ r=>r=(y,c4)) e4 rfl) ?_;dsimp only;rw[w64 (n:=400+y) (by omega) (by omega)];exact H8b rfl (H8b (by omega) (H8b (by omega) (Hcb (by simp only[List.length_cons,List.length_nil];omega) (H4b ⟨hd.2.1,Aab hd.2.2 (I0a _)⟩))))
 exact(h0.and h1).mono λ r h=>⟨⟨h.1.1,h.2⟩,h.1.2⟩
def Noa (c:Cur) (hc:Dc c):∃ x c',Jl c=some (x,c')∧Dc c':=by
 obtain⟨s,c1,e1,hs,k1⟩:=H9a c hc;obtain⟨x,c2,e2,_,_,_,k2⟩:=B0 c1 k1 10 (by decide);unfold Jl;simp only[e1,e2,Vn]
 cases x==0 with
 |true=>
  obtain⟨y,c3,e3,_,k3⟩:=M8 c2 k2 [(-1),1000000001] (by decide) (by decide);exact⟨(y,s.2),c3,by simp only[e3,Vn,cond_true],k3⟩
 |false=>
  cases x==1 with
  |true=>
   obtain⟨y,c3,e3,_,k3⟩:=M8 c2 k2 [(-1),1000000,1000001] (by decide) (by decide);exact⟨(s.1,y,s.2.2),c3,by simp only[e3,Vn,cond_true,cond_false],k3⟩
  |false=>
   cases x==2 with
   |true=>
    obtain⟨y,c3,e3,_,k3⟩:=M8 c2 k2 [(-1),20,21] (by decide) (by decide);exact⟨(s.1,s.2.1,y),c3,by simp only[e3,Vn,cond_true,cond_false],k3⟩
   |false=>exact⟨s,c2,by simp only[cond_false],k2⟩
def U3a (c:Cur) (hc:Dc c):Tot (λ k=>Lh k c) (λ r=>(Aj r.1.2.2∧r.1.2.2.length≤2000000)∧Dc r.2):=by
 unfold Lh;refine H5b (Q6 c hc) ?_;rintro⟨f,c1⟩ ⟨hf,k1⟩
 have hl:f.2.2.length≤9:=by have:=hf.2.2.1;dsimp only at this;omega
 obtain⟨x,c2,e2,_,_,_,k2⟩:=B0 c1 k1 12 (by decide);refine Hfb (Hgb (Q:=λ r=>r=(x,c2)) e2 rfl) ?_;refine Hab (λ _=>?_) (λ _=>Hab (λ _=>H4b ⟨⟨hf.2.1,by dsimp only;omega⟩,k2⟩) (λ _=>Hab (λ _=>?_) (λ _=>H4b ⟨⟨hf.2.1,by dsimp only;omega⟩,k2⟩)))
 ·obtain⟨y,c3,e3,k3⟩:=Noa c2 k2;refine Hfb (Hgb (Q:=λ r=>r=(y,c3)) e3 rfl) ?_;exact H4b ⟨⟨hf.2.1,by dsimp only;omega⟩,k3⟩
 ·obtain⟨y,c4,e4,y0,y1,_,k4⟩:=B0 c2 k2 2 (by decide);have y1:=y1 (by decide);refine Hfb (Hgb (Q:=λ r=>r=(y,c4)) e4 rfl) ?_;dsimp only;rw[w64 (n:=200+y) (by omega) (by omega)];exact H8b rfl (H8b (by omega) (H8b (by omega) (H4b ⟨⟨I0a _,by dsimp only;rw[List.length_replicate];omega⟩,k4⟩)))

end Go.Proofs.YtiiekghlhfbmmaaGreat.Vf
