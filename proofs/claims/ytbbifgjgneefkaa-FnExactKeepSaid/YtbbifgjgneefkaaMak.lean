import Derived.Test.YtbbifgjgneefkaaMaj
set_option linter.all false
namespace Go.Proofs.Ytbbifgjgneefkaa.Vf
open Go
open List (length getD)
open Int (toNat)
open Go.IntKind (wrap)
open BitVec (ofInt)
def Zo:=@List.takeWhile_cons
def Zp:=@Option.bind_none
def Osa:=@List.filter_cons
def Oza:=@Bool.not_false
def Pea:=@List.takeWhile_append_dropWhile
def Pna:=@Int.tdiv_eq_ediv_of_nonneg
def Poa:=@Int.fdiv_eq_ediv_of_nonneg
def Pra:=@List.findIdx?_cons
def Q0a:=@Bool.not_true
def Q1a:=@List.append_cancel_left
def Qca:=@Bool.eq_iff_iff
def Qea:=@Bool.false_or

def B3a (l:List Int) (hb:Aw l) (hl:l.length≤1000000000000) (p:Nat) (hp:p<l.length):∀ (f i acc:Nat),f+i=5→acc<128 ^ i→
  Tot (λ k=>Bt k l (p:Int) (acc:Int) (i:Int)) (λ r=>On r=N0a p (P6 f i acc (l.drop (p+i)))):=by
 intro f
 induction f with
 |zero=>
  intro i acc hi ha;refine Tot.succ ?_;simp only[Bt];exact Oja (by omega) (Oea rfl)
 |succ f ih=>
  intro i acc hi ha
  have hi5:i<5:=by omega
  refine Tot.succ ?_;simp only[Bt];refine Oia (by omega) (Oia (by omega) (Oia (by omega) ?_));rw[w64 (n:=(p:Int)+(i:Int)) (by omega) (by omega),show toNat ((p:Int)+(i:Int))=p+i by omega];refine Ola (λ h=>?_) (λ h=>?_)
  ·have hlt:p+i<l.length:=by omega
   refine Oia (by omega) (Oia (by omega) ?_);have hx:=hb (l.getD (p+i) 0) (Du hlt);rw[Tj hlt,Nea i hi5]
   have he:P6 (f+1) i acc (l.getD (p+i) 0::l.drop (p+i+1))=if 128≤l.getD (p+i) 0 then P6 f (i+1) (acc+(l.getD (p+i) 0).toNat % 128*128 ^ i) (l.drop (p+i+1)) else if (l.getD (p+i) 0=0∧0<i)∨1000000000<acc+(l.getD (p+i) 0).toNat % 128*128 ^ i then none else some (acc+(l.getD (p+i) 0).toNat % 128*128 ^ i,i+1):=rfl
   rw[he];generalize l.getD (p+i) 0=x at hx ⊢;obtain⟨v,rfl⟩:∃ v:Nat,x=(v:Int):=⟨x.toNat,by omega⟩;rw[Vq];have hp1:=I1 i (by omega);have hmul:v % 128*128 ^ i≤127*34359738368:=Qda (by omega) hp1;rw[w64 (n:=(v:Int)) (by omega) (by omega),Ika v (by omega)]
   have e1:((v % 128:Nat):Int)*((128 ^ i:Nat):Int)=((v % 128*128 ^ i:Nat):Int):=by push_cast;rfl
   rw[e1,w64 (n:=((v % 128*128 ^ i:Nat):Int)) (by omega) (by omega),Z5 acc (v % 128) i ha (by omega) hi5,w64 (n:=(i:Int)+1) (by omega) (by omega),w64 (n:=(p:Int)+(i:Int)+1) (by omega) (by omega)];refine Oja (sh7 i hi5).2 ?_;refine Ola (λ h128=>?_) (λ h128=>?_)
   ·rw[if_pos (by omega)]
    have h1:acc+v % 128*128 ^ i<128 ^ (i+1):=by
     have h2:v % 128≤127:=by omega
     have h3:=Wa (128 ^ i) h2;rw[Zi];omega
    have:=ih (i+1) (acc+v % 128*128 ^ i) (by omega) h1;rw[show p+(i+1)=p+i+1 by omega]at this;exact this
   ·rw[if_neg (by omega)]
    have big:Tot (λ _:Nat=>cond (decide (((acc+v % 128*128 ^ i:Nat):Int) > 1000000000)) (some (Sum.inl ((0:Int),(0:Int),false))) (some (Sum.inl (((acc+v % 128*128 ^ i:Nat):Int),(p:Int)+(i:Int)+1,true))):Nat→Option (Sum (Int×Int×Bool) Unit))
      (λ r=>On r=if 1000000000<acc+v % 128*128 ^ i then (0,0,false) else (((acc+v % 128*128 ^ i:Nat):Int),((p+(i+1):Nat):Int),true)):=by
     refine Ola (λ hbig=>?_) (λ hbig=>?_)
     ·rw[if_pos (by omega)];exact Oea rfl
     ·rw[if_neg (by omega)];refine Oea ?_;show (_,_,_)=_;rw[show (p:Int)+(i:Int)+1=((p+(i+1):Nat):Int) by omega]
    have goal:∀ c:Prop,[Decidable c]→(if c∨1000000000<acc+v % 128*128 ^ i then none else some (acc+v % 128*128 ^ i,i+1))=if c then none else if 1000000000<acc+v % 128*128 ^ i then (none:Option (Nat×Nat)) else some (acc+v % 128*128 ^ i,i+1):=by
     intro c _
     by_cases h1:c<;>by_cases h2:1000000000<acc+v % 128*128 ^ i<;>simp[h1,h2]
    rw[goal]
    have fin:(N0a p (if 1000000000<acc+v % 128*128 ^ i then (none:Option (Nat×Nat)) else some (acc+v % 128*128 ^ i,i+1)))=if 1000000000<acc+v % 128*128 ^ i then (0,0,false) else (((acc+v % 128*128 ^ i:Nat):Int),((p+(i+1):Nat):Int),true):=by
     split<;>rfl
    refine Ola (λ hi0=>?_) (λ hi0=>?_)
    ·refine Oka (λ h0=>?_) (λ h0=>?_)
     ·have hv:v=0:=by
       have:=beq_iff_eq.1 h0;omega
      rw[if_pos ⟨by omega,by omega⟩];exact Oea rfl
     ·have hv:v≠0:=by
       intro e;subst e;simp at h0
      rw[if_neg (by omega),fin];exact big
    ·rw[if_neg (by omega),fin];exact big
  ·refine Oea ?_;rw[Wo (by omega)];rfl
def Mi (l:List Int) (hb:Aw l) (hl:l.length≤1000000000000) (p:Int):Tot (λ k=>Bf k l p) (λ r=>r=W5 l p):=by
 unfold Bf W5
 by_cases h0:p<0
 ·rw[if_pos h0];refine Ofa (Q:=λ r=>r = .inr ()) ?_ ?_
  ·refine Tot.succ ?_;simp only[Bt];exact Oia (by omega) (Oja (by omega) (Oea rfl))
  ·rintro r rfl;exact Oea rfl
 ·rw[if_neg h0]
  by_cases h1:p<(l.length:Int)
  ·obtain⟨n,rfl⟩:∃ n:Nat,p=(n:Int):=⟨p.toNat,by omega⟩;rw[Vq];refine Ofa (B3a l hb hl n (by omega) 5 0 0 rfl (by decide)) ?_;intro r hr;unfold Il;rw[Yt]at hr
   have hr':On r=(match (match P6 5 0 0 (l.drop n) with|some (m,c)=>some (m,n+c)|none=>none) with|some (m,q)=>((m:Int),(q:Int),true)|none=>((0:Int),(0:Int),false)):=by
    rw[hr]
    cases P6 5 0 0 (l.drop n) with
    |none=>rfl
    |some mc=>rfl
   refine Tot.mono (Q:=λ y=>y=On r) ?_ (λ y hy=>hy.trans hr')
   cases r with
   |inl y=>exact Oea rfl
   |inr z=>exact Oea rfl
  ·have e:Il l p.toNat=none:=by
    unfold Il;rw[Wo (by omega)];rfl
   rw[e];refine Ofa (Q:=λ r=>r = .inr ()) ?_ ?_
   ·refine Tot.succ ?_;simp only[Bt];exact Oia (by omega) (Oia (by omega) (Oja h1 (Oea rfl)))
   ·rintro r rfl;exact Oea rfl
def Cu (n:Int):Nat:=(max 0 (min n 1000000000)).toNat
def Oo (n:Int):Cu n≤1000000000:=by unfold Cu;omega
def Z6 (n:Nat) (h:n≤255):wrap .u8 (n:Int)=(n:Int):=by
 rw[IntKind.wrap_u8];omega
def B4a:∀ (f n:Nat) (out:List Int),n<128 ^ (f+1)→f≤4→out.length+f≤1000000000010→
  Tot (λ k=>Cp k out (n:Int)) (λ r=>∃ m:Nat,r.2=(m:Int)∧m≤127∧r.1++[(m:Int)]=out++Rt f n∧r.1.length≤out.length+f):=by
 intro f
 induction f with
 |zero=>
  intro n out hn hf hl;refine Tot.succ ?_;simp only[Cp]
  have:n<128:=by simpa using hn
  exact Oja (by omega) (Oea ⟨n,rfl,by omega,rfl,by simp⟩)
 |succ f ih=>
  intro n out hn hf hl;have hp:=I1 (f+1+1-1) (by omega);refine Tot.succ ?_;simp only[Cp];refine Ola (λ h=>?_) (λ h=>?_)
  ·have hn2:n/128<128 ^ (f+1):=by rw[Zi]at hn;omega
   have hn3:n<4398046511104:=by
    have:=I1 (f+1) (by omega);rw[Zi]at hn;omega
   have e1:Int.tmod (n:Int) 128+128=((n % 128+128:Nat):Int):=by
    rw[Pma (by omega)];omega
   have e2:Int.tdiv (n:Int) 128=((n/128:Nat):Int):=by
    rw[Pna (by omega)];omega
   rw[e1,e2,w64 (n:=((n % 128+128:Nat):Int)) (by omega) (by omega),w64 (n:=((n/128:Nat):Int)) (by omega) (by omega),Z6 _ (by omega)];refine Oma (by simp only[Vg,Vs];omega) ?_;refine(ih (n/128) (out++[((n % 128+128:Nat):Int)]) hn2 (by omega) (by simp only[Vh,Vg,Vs];omega)).mono ?_;rintro r ⟨m,h1,h2,h3,h4⟩;refine⟨m,h1,h2,?_,by simp only[Vh,Vg,Vs]at h4;omega⟩;rw[h3,Vj];congr 1
   conv => { rhs;unfold Rt }
   rw[if_neg (by omega)];rfl
  ·refine Oea ⟨n,rfl,by omega,?_,by show out.length≤out.length+(f+1);omega⟩;unfold Rt;rw[if_pos (by omega)]
def Oq (out:List Int) (n:Int) (hl:out.length≤1000000000000):Tot (λ k=>Bw k out n) (λ r=>r=out++U5 (Cu n)):=by
 unfold Bw
 have e:(if (0:Int)<(if (1000000000:Int)<n then 1000000000 else n) then (if (1000000000:Int)<n then 1000000000 else n) else 0)=((Cu n:Nat):Int):=by
  unfold Cu
  split<;>split<;>omega
 simp only;rw[e];have hc:=Oo n;refine Ofa (B4a 4 (Cu n) out (by omega) (by omega) (by omega)) ?_;rintro r ⟨m,h1,h2,h3,h4⟩;rw[h1,Z6 m (by omega)];refine Oma (by simp only[Vg,Vs];omega) (Oea h3)
def B5a:∀ (f n:Nat) (out:List Int),n<128 ^ (f+1)→f≤4→out.length+f≤1000000000010→
  Tot (λ k=>B7 k (n:Int) out) (λ r=>∃ m:Nat,r.1=(m:Int)∧m≤127∧r.2++[(m:Int)]=out++Rt f n∧r.2.length≤out.length+f):=by
 intro f
 induction f with
 |zero=>
  intro n out hn hf hl;refine Tot.succ ?_;simp only[B7]
  have:n<128:=by simpa using hn
  exact Oja (by omega) (Oea ⟨n,rfl,by omega,rfl,by simp⟩)
 |succ f ih=>
  intro n out hn hf hl;refine Tot.succ ?_;simp only[B7];refine Ola (λ h=>?_) (λ h=>?_)
  ·have hn2:n/128<128 ^ (f+1):=by rw[Zi]at hn;omega
   have hn3:n<4398046511104:=by
    have:=I1 (f+1) (by omega);rw[Zi]at hn;omega
   have e1:wrap .i64 ((ofInt (IntKind.bits .i64) ((n % 128:Nat):Int) ||| ofInt (IntKind.bits .i64) 128).toNat)=((n % 128+128:Nat):Int):=by
    have:=Z5 (n % 128) 1 1 (by omega) (by omega) (by omega);exact this
   have e2:Int.fdiv (n:Int) (2 ^ (min (toNat 7) (IntKind.bits .i64)))=((n/128:Nat):Int):=by
    have:(2:Int) ^ (min (toNat 7) (IntKind.bits .i64))=128:=by decide
    rw[this,Poa _ (by omega)];omega
   rw[Ika n (by omega),e1,e2,Z6 _ (by omega)];refine Oma (by simp only[Vg,Vs];omega) ?_;refine(ih (n/128) (out++[((n % 128+128:Nat):Int)]) hn2 (by omega) (by simp only[Vh,Vg,Vs];omega)).mono ?_;rintro r ⟨m,h1,h2,h3,h4⟩;refine⟨m,h1,h2,?_,by simp only[Vh,Vg,Vs]at h4;omega⟩;rw[h3,Vj];congr 1
   conv => { rhs;unfold Rt }
   rw[if_neg (by omega)];rfl
  ·refine Oea ⟨n,rfl,by omega,?_,by show out.length≤out.length+(f+1);omega⟩;unfold Rt;rw[if_pos (by omega)]
def Ot (out:List Int) (n:Int) (hl:out.length≤1000000000000):Tot (λ k=>Be k out n) (λ r=>r=out++U5 (Cu n)):=by
 have hc:=Oo n
 have fin:Tot (λ k=>(B7 k ((Cu n:Nat):Int) (([]:List Int)++out)).bind λ r1=>cond (Nat.ble ((length r1.2+length [wrap .u8 r1.1])*1) 140737488355328) (some (r1.2++[wrap .u8 r1.1])) none) (λ r=>r=out++U5 (Cu n)):=by
  rw[Wf];refine Ofa (B5a 4 (Cu n) out (by omega) (by omega) (by omega)) ?_;rintro r ⟨m,h1,h2,h3,h4⟩;rw[h1,Z6 m (by omega)];exact Oma (by simp only[Vg,Vs];omega) (Oea h3)
 unfold Be;refine Oma (by simp only[Vs];omega) ?_;refine Ola (λ h1=>?_) (λ h1=>?_)
 ·refine Oja (by omega) ?_
  have e:((Cu n:Nat):Int)=1000000000:=by unfold Cu;omega
  rw[e]at fin;exact fin
 ·refine Ola (λ h2=>?_) (λ h2=>?_)
  ·have e:((Cu n:Nat):Int)=0:=by unfold Cu;omega
   rw[e]at fin;exact fin
  ·have e:((Cu n:Nat):Int)=n:=by unfold Cu;omega
   rw[e]at fin;exact fin
def Gb (n:Nat):(U5 n).length≤5∧0<(U5 n).length:=Ena 4 n
def Pz:∀ (f n:Nat),n<128 ^ (f+1)→Aw (Rt f n)
 |0,n,hn=>by
  intro x hx;simp only[Rt,Vz]at hx
  have:n<128:=by simpa using hn
  omega
 |f+1,n,hn=>by
  unfold Rt;split
  ·intro x hx;simp only[Vz]at hx;omega
  ·intro x hx;rcases Vk.1 hx with rfl|hx
   ·omega
   ·exact Pz f (n/128) (by rw[Zi]at hn;omega) x hx
def B6a (n:Nat) (hn:n≤1000000000):Aw (U5 n):=Pz 4 n (by omega)
def Q0 (s:ByteArray):Aw (bytesOf s):=by
 intro x hx;unfold bytesOf at hx;obtain⟨b,_,rfl⟩:=Za.1 hx;have:=b.toNat_lt;omega
def W6 (s:ByteArray):(bytesOf s).length=s.size:=by
 unfold bytesOf;rw[Yj];exact Yh
def Rm (s:ByteArray):Ft (bytesOf s)=s:=by
 unfold Ft bytesOf;rw[Oua]
 have:(λ n:Int=>UInt8.ofNat n.toNat) ∘ (λ b:UInt8=>(b.toNat:Int))=id:=by
  funext b;show UInt8.ofNat ((b.toNat:Int)).toNat=b;rw[Vq];exact UInt8.ofNat_toNat
 rw[this,List.map_id]
def Im {l:List Int} (h:Aw l):bytesOf (Ft l)=l:=by
 unfold Ft bytesOf;show List.map _ (List.map _ l)=l;rw[Oua]
 have:∀ x∈l,((λ b:UInt8=>(b.toNat:Int)) ∘ (λ n:Int=>UInt8.ofNat n.toNat)) x=x:=by
  intro x hx;have hb:=h x hx;show ((UInt8.ofNat x.toNat).toNat:Int)=x;rw[UInt8.toNat_ofNat'];omega
 exact(Zn this).trans (List.map_id' l)
def H7 (l:List Int):(Ft l).size=l.length:=by
 unfold Ft;show (List.map _ l).toArray.size=l.length;simp
def txt (s:ByteArray):List Int:=U5 (Cu (s.size:Int))++bytesOf s
def Hea (out:List Int) (s:ByteArray) (hl:out.length≤1000000000000) (hs:s.size≤1000000000000):Tot (λ k=>Dq k out s) (λ r=>r=out++txt s):=by
 unfold Dq txt;refine Ooa (Oq out _ hl) ?_;have:=(Gb (Cu (s.size:Int))).1;refine Oma (by simp only[Vh];omega) (Oea ?_);rw[Vj]
def Hfa (out:List Int) (s:ByteArray) (hl:out.length≤1000000000000) (hs:s.size≤1000000000000):Tot (λ k=>Dk k out s) (λ r=>r=out++txt s):=by
 unfold Dk txt;refine Ooa (Ot out _ hl) ?_;have:=(Gb (Cu (s.size:Int))).1;refine Oma (by simp only[Vh];omega) (Oea ?_);rw[Vj]
def Bma (l:List Int) (p:Nat):Option (ByteArray×Nat):=match Il l p with
 |some (n,q)=>if q+n≤l.length then some (Ft ((l.drop q).take n),q+n) else none
 |none=>none
def L5a (l:List Int) (p:Int):ByteArray×Int×Bool:=if p<0 then ((⟨#[]⟩:ByteArray),0,false) else match Bma l p.toNat with
 |some (s,q)=>(s,(q:Int),true)
 |none=>((⟨#[]⟩:ByteArray),0,false)
def Q1 (l:List Int) (hb:Aw l) (p:Int):W5 l p=(0,0,false)∨∃ n q,0≤p∧Il l p.toNat=some (n,q)∧W5 l p=((n:Int),(q:Int),true)∧n≤1000000000∧q≤l.length:=by
 unfold W5
 by_cases h:p<0
 ·rw[if_pos h];exact .inl rfl
 ·rw[if_neg h]
  cases hg:Il l p.toNat with
  |none=>exact .inl rfl
  |some nq=>
   obtain⟨n,q⟩:=nq;have:=Kk hb hg;exact .inr ⟨n,q,by omega,rfl,rfl,this.2.1,this.2.2.2⟩
def Z7 (l:List Int) (hb:Aw l) (hl:l.length≤1000000000000) (p:Int) (hp:p≤1000000000000):Tot (λ k=>Dr k l p) (λ r=>r=L5a l p):=by
 unfold Dr;refine Ooa (Epa l hb hl p hp) ?_;unfold L5a Bma;rcases Q1 l hb p with h|⟨n,q,h0,hg,h,hn,hq⟩
 ·rw[h];refine Oha rfl (Oea ?_);unfold W5 at h;split
  ·rfl
  ·rename_i h0;rw[if_neg h0]at h
   cases hg:Il l p.toNat with
   |none=>rfl
   |some nq=>rw[hg]at h;simp at h
 ·rw[h];refine Oga rfl ?_;rw[if_neg (by omega),hg];simp only;rw[w64 (n:=(l.length:Int)-(q:Int)) (by omega) (by omega),w64 (n:=(q:Int)+(n:Int)) (by omega) (by omega)];refine Ola (λ hgt=>?_) (λ hgt=>?_)
  ·rw[if_neg (by omega)];exact Oea rfl
  ·rw[if_pos (by omega)];refine Oia (by omega) (Oia (by omega) (Oia (by omega) (Oea ?_)));rw[show toNat ((q:Int)+(n:Int))=q+n by omega,Vq,Pfa,show q+n-q=n by omega];simp only[Vu,true_and,and_true]
   push_cast
   rfl
def Rn (l:List Int) (hb:Aw l) (hl:l.length≤1000000000000) (p:Int):Tot (λ k=>Dm k l p) (λ r=>r=L5a l p):=by
 unfold Dm;refine Ooa (Mi l hb hl p) ?_;unfold L5a Bma;rcases Q1 l hb p with h|⟨n,q,h0,hg,h,hn,hq⟩
 ·rw[h];refine Oha rfl (Oea ?_);unfold W5 at h;split
  ·rfl
  ·rename_i h0;rw[if_neg h0]at h
   cases hg:Il l p.toNat with
   |none=>rfl
   |some nq=>rw[hg]at h;simp at h
 ·rw[h];refine Oga rfl ?_;rw[if_neg (by omega),hg];simp only;rw[w64 (n:=(l.length:Int)-(q:Int)) (by omega) (by omega),w64 (n:=(q:Int)+(n:Int)) (by omega) (by omega)];refine Ola (λ hgt=>?_) (λ hgt=>?_)
  ·rw[if_neg (by omega)];exact Oea rfl
  ·rw[if_pos (by omega)];refine Oia (by omega) (Oia (by omega) (Oia (by omega) (Oea ?_)));rw[show toNat ((q:Int)+(n:Int))=q+n by omega,Vq,Pfa,show q+n-q=n by omega];simp only[Vu,true_and,and_true]
   push_cast
   rfl
def W7 {l:List Int} {p q:Nat} {s:ByteArray} (hb:Aw l) (h:Bma l p=some (s,q)):l.drop p=txt s++l.drop q∧s.size≤1000000000∧p<q∧q≤l.length:=by
 unfold Bma at h;split at h
 ·rename_i n q0 hg;obtain⟨h1,h2,h3,h4⟩:=Kk hb hg;split at h
  ·rename_i hle;simp only[Vc,Vu]at h;obtain⟨rfl,rfl⟩:=h
   have hlen:((l.drop q0).take n).length=n:=by rw[Vl,Vx];omega
   have hbb:Aw ((l.drop q0).take n):=λ x hx=>hb x (Zk (Pja hx));refine⟨?_,by rw[H7,hlen];exact h2,by omega,by omega⟩;unfold txt;rw[H7,hlen,Im hbb,h1,show Cu (n:Int)=n by unfold Cu;omega,Vj];congr 1;rw[← Wn,Wm]
  ·cases h
 ·cases h

def Eqa (b:Bool):Int:=bif b then 1 else 0
def Kba (b:Bool):Gt b=some (Eqa b):=by cases b<;>rfl
def Hga (b:Bool):Ep b=some (Eqa b):=by cases b<;>rfl
def Fna (s:Stp):List Int:=U5 (Cu s.1)++(U5 (Cu s.2.1)++U5 (Cu s.2.2))
def Z8 (s:Stp):(Fna s).length≤15:=by
 unfold Fna;have h1:=(Gb (Cu s.1)).1;have h2:=(Gb (Cu s.2.1)).1;have h3:=(Gb (Cu s.2.2)).1;simp only[Vh];omega
def B7a (out:List Int) (s:Stp) (b:Bool) (hl:out.length≤999999999900):Tot (λ k=>D8 k out s b) (λ r=>r=out++(Fna s++U5 (Cu (Eqa b)))):=by
 have h1:=(Gb (Cu s.1)).1;have h2:=(Gb (Cu s.2.1)).1;have h3:=(Gb (Cu s.2.2)).1;unfold D8 Fna;refine Ooa (Oq out s.1 (by omega)) ?_;refine Ooa (Oq _ s.2.1 (by simp only[Vh];omega)) ?_;refine Ooa (Oq _ s.2.2 (by simp only[Vh];omega)) ?_;refine Ooa (Opa (Q:=λ y=>y=Eqa b) (Kba b) rfl) ?_;refine Ooa (Oq _ (Eqa b) (by simp only[Vh];omega)) ?_;exact Oea (by simp only[Vj])
def B8a (out:List Int) (s:Stp) (hl:out.length≤999999999900):Tot (λ k=>Dl k out s) (λ r=>r=out++Fna s):=by
 have h1:=(Gb (Cu s.1)).1;have h2:=(Gb (Cu s.2.1)).1;unfold Dl Fna;refine Ooa (Ot out s.1 (by omega)) ?_;refine Ooa (Ot _ s.2.1 (by simp only[Vh];omega)) ?_;refine Ooa (Ot _ s.2.2 (by simp only[Vh];omega)) ?_;exact Oea (by simp only[Vj])
def Kl {s:ByteArray} (h:Db s=true):1≤s.size∧s.size≤20:=by
 unfold Db at h;rw[Va,Kaa]at h;omega
def Kca (s:ByteArray):(txt s).length≤5+s.size:=by
 have h1:=(Gb (Cu (s.size:Int))).1;unfold txt;simp only[Vh,W6];omega

def Ng (l:List Int) (p:Nat):W5 l (p:Int)=match Il l p with
 |some (n,q)=>((n:Int),(q:Int),true)
 |none=>(0,0,false):=by
 unfold W5;rw[if_neg (by omega),Vq]
 all_goals cases Il l p<;>rfl
def Z9 (l:List Int) (p:Nat):L5a l (p:Int)=match Bma l p with
 |some (s,q)=>(s,(q:Int),true)
 |none=>((⟨#[]⟩:ByteArray),0,false):=by
 unfold L5a;rw[if_neg (by omega),Vq]
 all_goals cases Bma l p<;>rfl
def Pd (l:List Int) (hb:Aw l) (hl:l.length≤1000000000000) (p:Nat) (hp:p≤l.length) (bad:Bool):
  Tot (λ k=>B4 k (l,(p:Int),bad)) (λ r=>(bad=false∧∃ n q:Nat,Il l p=some (n,q)∧q≤l.length∧r=((n:Int),l,(q:Int),false))∨((bad=true∨Il l p=none)∧r=(0,l,(p:Int),true))):=by
 unfold B4;refine Ooa (Epa l hb hl (p:Int) (by omega)) ?_;refine Oka (λ h=>Oea (.inr ⟨.inl h,rfl⟩)) (λ h=>?_);rw[Ng]
 cases hg:Il l p with
 |none=>exact Oha rfl (Oea (.inr ⟨.inr rfl,rfl⟩))
 |some nq=>
  obtain⟨n,q⟩:=nq;simp only at h;subst h;exact Oga rfl (Oea (.inl ⟨rfl,n,q,rfl,(Kk hb hg).2.2.2,rfl⟩))
def Nfa (l:List Int) (hb:Aw l) (hl:l.length≤1000000000000) (p:Nat) (hp:p≤l.length):
  Tot (λ k=>Ax k (l,(p:Int),false)) (λ r=>(∃ (s:ByteArray) (q:Nat),Bma l p=some (s,q)∧q≤l.length∧r=(s,l,(q:Int),false))∨(Bma l p=none∧r=((⟨#[]⟩:ByteArray),l,(p:Int),true))):=by
 unfold Ax;refine Ooa (Z7 l hb hl (p:Int) (by omega)) ?_;refine Oga rfl ?_;rw[Z9]
 cases hg:Bma l p with
 |none=>exact Oha rfl (Oea (.inr ⟨rfl,rfl⟩))
 |some nq=>
  obtain⟨n,q⟩:=nq;exact Oga rfl (Oea (.inl ⟨n,q,rfl,(W7 hb hg).2.2.2,rfl⟩))
def Jv (l:List Int) (p:Nat):Option ((Stp×Bool)×Nat):=
 (Il l p).bind λ b=>(Il l b.2).bind λ c=>(Il l c.2).bind λ d=>(Il l d.2).bind λ e=>bif decide (1<e.1) then none else
  some ((((b.1:Int),(c.1:Int),(d.1:Int)),(e.1:Int)==1),e.2)
def Nga (l:List Int) (hb:Aw l) (hl:l.length≤1000000000000) (p:Nat) (hp:p≤l.length) (bad:Bool):
  Tot (λ k=>Bh k (l,(p:Int),bad)) (λ r=>(bad=false∧∃ (x:Stp×Bool) (q:Nat),Jv l p=some (x,q)∧q≤l.length∧r=(x.1,x.2,l,(q:Int),false))∨((bad=true∨Jv l p=none)∧∃ s b,∃ q:Nat,q≤l.length∧r=(s,b,l,(q:Int),true))):=by
 unfold Bh
 have nx:∀ {o:Option (Nat×Nat)} {f:Nat×Nat→Option ((Stp×Bool)×Nat)},o=none→o.bind f=none:=by
  intro o f h;rw[h];rfl
 refine Ofa (Pd l hb hl p hp bad) ?_;rintro r (⟨h0,n1,p1,h1,l1,rfl⟩|⟨h1,rfl⟩)
 ·simp only;refine Ofa (Pd l hb hl p1 l1 false) ?_;rintro r (⟨_,n2,p2,h2,l2,rfl⟩|⟨h2,rfl⟩)
  ·simp only;refine Ofa (Pd l hb hl p2 l2 false) ?_;rintro r (⟨_,n3,p3,h3,l3,rfl⟩|⟨h3,rfl⟩)
   ·simp only;refine Ofa (Pd l hb hl p3 l3 false) ?_;rintro r (⟨_,n4,p4,h4,l4,rfl⟩|⟨h4,rfl⟩)
    ·simp only;refine Oga rfl (Oea ?_)
     have e:Jv l p=bif decide (1<n4) then none else some ((((n1:Int),(n2:Int),(n3:Int)),(n4:Int)==1),p4):=by
      unfold Jv;simp only[h1,h2,h3,h4,Vy]
     cases hd:decide (1<n4) with
     |true=>
      rw[hd,cond_true]at e;refine .inr ⟨.inr e,((n1:Int),(n2:Int),(n3:Int)),((n4:Int)==1),p4,l4,?_⟩;have:decide ((n4:Int) > 1)=true:=decide_eq_true (by have:=of_decide_eq_true hd;omega);rw[this]
     |false=>
      rw[hd,cond_false]at e;refine .inl ⟨h0,_,p4,e,l4,?_⟩;have:decide ((n4:Int) > 1)=false:=decide_eq_false (by have:=of_decide_eq_false hd;omega);rw[this]
    ·refine Oha rfl (Oea (.inr ⟨.inr ?_,_,_,p3,l3,rfl⟩));have h4':=h4.resolve_left (by simp);unfold Jv;simp only[h1,h2,h3,h4',Vy,Zp]
   ·simp only;refine Ofa (Pd l hb hl p2 l2 true) ?_;rintro r (⟨hh,_⟩|⟨_,rfl⟩)
    ·cases hh
    ·refine Oha rfl (Oea (.inr ⟨.inr ?_,_,_,p2,l2,rfl⟩));have h3':=h3.resolve_left (by simp);unfold Jv;simp only[h1,h2,h3',Vy,Zp]
  ·simp only;refine Ofa (Pd l hb hl p1 l1 true) ?_;rintro r (⟨hh,_⟩|⟨_,rfl⟩)
   ·cases hh
   ·refine Ofa (Pd l hb hl p1 l1 true) ?_;rintro r (⟨hh,_⟩|⟨_,rfl⟩)
    ·cases hh
    ·refine Oha rfl (Oea (.inr ⟨.inr ?_,_,_,p1,l1,rfl⟩));have h2':=h2.resolve_left (by simp);unfold Jv;simp only[h1,h2',Vy,Zp]
 ·simp only;refine Ofa (Pd l hb hl p hp true) ?_;rintro r (⟨hh,_⟩|⟨_,rfl⟩)
  ·cases hh
  ·refine Ofa (Pd l hb hl p hp true) ?_;rintro r (⟨hh,_⟩|⟨_,rfl⟩)
   ·cases hh
   ·refine Ofa (Pd l hb hl p hp true) ?_;rintro r (⟨hh,_⟩|⟨_,rfl⟩)
    ·cases hh
    ·refine Oha rfl (Oea (.inr ⟨?_,_,_,p,hp,rfl⟩));rcases h1 with h1|h1
     ·exact .inl h1
     ·refine .inr ?_;unfold Jv;rw[h1];rfl
def Kda (l:List Int) (hb:Aw l) (hl:l.length≤1000000000000) (p:Int):
  Tot (λ k=>C6 k l p) (λ r=>(∃ n1 p1 n2 p2 n3 p3,0≤p∧Il l p.toNat=some (n1,p1)∧Il l p1=some (n2,p2)∧Il l p2=some (n3,p3)∧r=(((n1:Int),(n2:Int),(n3:Int)),(p3:Int),true))∨(((Il l p.toNat).bind λ a=>(Il l a.2).bind λ b=>Il l b.2)=none∨p<0)∧r.2.2=false):=by
 unfold C6;refine Ooa (Mi l hb hl p) ?_;refine Ooa (Mi l hb hl _) ?_;refine Ooa (Mi l hb hl _) ?_
 by_cases hp:p<0
 ·have:(W5 l p).2.2=false:=by unfold W5;rw[if_pos hp]
  exact Oga this (Oea (.inr ⟨.inr hp,rfl⟩))
 ·have e1:W5 l p=match Il l p.toNat with|some (n,q)=>((n:Int),(q:Int),true)|none=>(0,0,false):=by
   unfold W5;rw[if_neg hp];all_goals cases Il l p.toNat<;>rfl
  cases h1:Il l p.toNat with
  |none=>
   rw[h1]at e1;simp only[e1];exact Oga rfl (Oea (.inr ⟨.inl rfl,rfl⟩))
  |some a=>
   obtain⟨n1,p1⟩:=a;rw[h1]at e1;simp only[e1,Ng,Vy];refine Oha rfl ?_
   cases h2:Il l p1 with
   |none=>exact Oga rfl (Oea (.inr ⟨.inl rfl,rfl⟩))
   |some b=>
    obtain⟨n2,p2⟩:=b;refine Oha rfl ?_;simp only[Ng,Vy]
    cases h3:Il l p2 with
    |none=>exact Oea (.inr ⟨.inl rfl,rfl⟩)
    |some c=>
     obtain⟨n3,p3⟩:=c;exact Oea (.inl ⟨n1,p1,n2,p2,n3,p3,by omega,rfl,h2,h3,rfl⟩)
def Era {l:List Int} {p:Nat} (h:((Il l p).bind λ a=>(Il l a.2).bind λ b=>Il l b.2)=none):Jv l p=none:=by
 unfold Jv
 cases h1:Il l p with
 |none=>rfl
 |some a=>
  rw[h1]at h;simp only[Vy]at h ⊢
  cases h2:Il l a.2 with
  |none=>rfl
  |some b=>
   rw[h2]at h;simp only[Vy]at h ⊢;rw[h];rfl

section
open Go
end

abbrev Nmd:=ByteArray×List Int
abbrev Dsk:=List Nmd×List Nmd
def Dv:Nmd:=((⟨#[]⟩:ByteArray),[])
def Tk (l:List Nmd):Prop:=l.length≤1000000000000∧∀ x∈l,x.2.length≤1000000000000
def Kea (d:Dsk):Prop:=Tk d.1∧Tk d.2
def H4 (l:List Int) (h:l.length≤1000000000000):Am l=some l:=by
 unfold Am;rw[show Nat.ble ((length ([]:List Int)+length l)*1) 140737488355328=true from Yq (by simp only[Vs];omega)];rfl
def My (l:List Nmd) (hf:Tk l):∀ (n i:Nat) (acc:List Nmd),l.length-i=n→i≤l.length→acc.length≤i→
  Tot (λ k=>Bg k acc l (l.length:Int) (i:Int)) (λ r=>r=acc++l.drop i):=by
 obtain⟨h1,h2⟩:=hf;intro n
 induction n with
 |zero=>
  intro i acc hd hi ha;refine Tot.succ ?_;simp only[Bg];refine Oja (by omega) (Oea ?_);rw[Wo (by omega),Ye]
 |succ n ih=>
  intro i acc hd hi ha
  have hlt:i<l.length:=by omega
  refine Tot.succ ?_;simp only[Bg];refine Oia (by omega) (Oia (by omega) (Oia (by omega) ?_));rw[show toNat (i:Int)=i from Vq i,w64 (n:=(i:Int)+1) (by omega) (by omega),Fs (d:=Dv) hlt];have e0:l.getD i ((⟨#[]⟩:ByteArray),([]:List Int))=l.getD i Dv:=rfl;rw[e0];have hb:=h2 _ (Du (d:=Dv) hlt);refine Ooa (Opa (Q:=λ r=>r=(l.getD i Dv).2) (H4 _ hb) rfl) ?_;refine Oma (by simp only[Vg,Vs];omega) ?_;refine(ih (i+1) (acc++[l.getD i Dv]) (by omega) (by omega) (by simp only[Vh,Vg,Vs];omega)).mono ?_;rintro r rfl;rw[Vj];rfl
def Ls (l:List Nmd) (hf:Tk l):Tot (λ k=>Aq k l) (λ r=>r=l):=by
 unfold Aq;refine Ofa (My l hf _ 0 [] rfl (Wh _) (Wh _)) ?_;intro r hr;rw[Wj,Wf]at hr;exact Oea hr
def F9 (d:Dsk) (hf:Kea d):Tot (λ k=>A6 k d) (λ r=>r=d):=by
 unfold A6;refine Ooa (Ls d.1 hf.1) ?_;refine Ooa (Ls d.2 hf.2) ?_;exact Oea rfl
def fnd (l:List Nmd) (s:ByteArray):Option Nat:=l.findIdx? (λ x=>teq x.1 s)
def Hha (l:List Nmd) (s:ByteArray):Int:=match fnd l s with
 |some i=>(i:Int)
 |none => -1
def Esa (l:List Nmd) (s:ByteArray) (hf:l.length≤1000000000000):∀ (n i:Nat),l.length-i=n→i≤l.length→
  Tot (λ k=>Ew k s l (l.length:Int) (i:Int)) (λ r=>r=match fnd (l.drop i) s with|some j => .inl ((i+j:Nat):Int)|none => .inr ()):=by
 intro n
 induction n with
 |zero=>
  intro i hd hi;refine Tot.succ ?_;simp only[Ew];refine Oja (by omega) (Oea ?_);rw[Wo (by omega)];rfl
 |succ n ih=>
  intro i hd hi
  have hlt:i<l.length:=by omega
  refine Tot.succ ?_;simp only[Ew];refine Oia (by omega) (Oia (by omega) (Oia (by omega) ?_));rw[show toNat (i:Int)=i from Vq i,w64 (n:=(i:Int)+1) (by omega) (by omega),Fs (d:=Dv) hlt];have e0:l.getD i ((⟨#[]⟩:ByteArray),([]:List Int))=l.getD i Dv:=rfl;rw[e0]
  have e1:fnd (l.getD i Dv::l.drop (i+1)) s=if teq (l.getD i Dv).1 s then some 0 else (fnd (l.drop (i+1)) s).map (· + 1):=by
   unfold fnd;rw[Pra]
  rw[e1];refine Oka (λ h=>?_) (λ h=>?_)
  ·have h':teq (l.getD i Dv).1 s=true:=h;rw[if_pos h'];exact Oea rfl
  ·have h':¬ (teq (l.getD i Dv).1 s=true):=by
    have:teq (l.getD i Dv).1 s=false:=h;rw[this];simp
   rw[if_neg h'];refine(ih (i+1) (by omega) (by omega)).mono ?_;rintro r rfl
   cases fnd (l.drop (i+1)) s with
   |none=>rfl
   |some j=>
    show Sum.inl _=Sum.inl _;rw[show i+1+j=i+(j+1) by omega]
def Eta (l:List Nmd) (s:ByteArray) (hf:l.length≤1000000000000):Tot (λ k=>Fj k l s) (λ r=>r=Hha l s):=by
 unfold Fj Hha;refine Ooa (Esa l s hf _ 0 rfl (Wh _)) ?_;rw[Wj]
 cases fnd l s with
 |none=>exact Oea rfl
 |some j=>
  refine Oea ?_;rw[Wb]
def Mr {l:List Nmd} {s:ByteArray} {i:Nat} (h:fnd l s=some i):i<l.length∧(l.getD i Dv).1=s:=by
 unfold fnd at h;rw[List.findIdx?_eq_some_iff_getElem]at h;obtain⟨h1,h2,_⟩:=h;refine⟨h1,?_⟩;rw[Vn,Vp h1];exact Ij.1 h2
def del (l:List Nmd) (s:ByteArray):List Nmd:=match fnd l s with
 |some i=>l.take i++l.drop (i+1)
 |none=>l
def Zv (l:List Nmd) (s:ByteArray) (hf:l.length≤1000000000000):Tot (λ k=>Ek k l s) (λ r=>r=del l s):=by
 unfold Ek del;refine Ooa (Eta l s hf) ?_;unfold Hha
 cases h:fnd l s with
 |none=>exact Oia (by decide) (Oea rfl)
 |some i=>
  have hl:=(Mr h).1;dsimp only
  first
  |refine Oja (by omega) (Oia (by omega) (Oia (by omega) ?_))
   rw[w64 (n:=(i:Int)+1) (by omega) (by omega),show toNat (i:Int)=i from Vq i,show toNat ((i:Int)+1)=i+1 by omega];refine Oma (by simp only[Vs,Vl];omega) ?_;refine Oia (by omega) (Oia (by omega) (Oma (by simp only[Vh,Vs,Vl,Vx];omega) (Oea rfl)))
  |refine Oja (by omega) (Oha (by rw[Va,decide_eq_true_iff,decide_eq_true_iff];omega) ?_)
   rw[w64 (n:=(i:Int)+1) (by omega) (by omega),show toNat (i:Int)=i from Vq i,show toNat ((i:Int)+1)=i+1 by omega];refine Oia (by simp only[Vl];omega) (Oma (by simp only[Vs,Vl];omega) ?_);refine Oha (by rw[Va,Va,decide_eq_true_iff,decide_eq_true_iff];exact⟨⟨by omega,by omega⟩,Yq (by omega)⟩) (Oma (by simp only[Vh,Vs,Vl,Vx];omega) (Oea rfl))

def nOk (x:Nmd):Bool:=Db x.1&&!(decide ((x.2.length:Int) > 400))
def chn:Option ByteArray→List Nmd→Bool
 |_,[]=>true
 |none,r::l=>nOk r&&chn (some r.1) l
 |some q,r::l=>nOk r&&(tlt q r.1&&chn (some r.1) l)
def Dg (l:List Nmd):Bool:=chn none l&&decide ((l.length:Int)≤60)
def Au (d:Dsk):Bool:=Dg d.1&&Dg d.2
def I2 (l:List Nmd):Prop:=∀ x∈l,Hq x.1
def Tl (d:Dsk):Prop:=I2 d.1∧I2 d.2
def Mz (l:List Nmd):Nat→Option ByteArray
 |0=>none
 |i+1=>some (l.getD i Dv).1
def Zw (l:List Nmd) (i:Nat) (h:i<l.length):chn (Mz l i) (l.drop i)=(nOk (l.getD i Dv)&&(bif decide (0<i) then tlt (l.getD (i-1) Dv).1 (l.getD i Dv).1 else true)&&chn (Mz l (i+1)) (l.drop (i+1))):=by
 rw[Fs (d:=Dv) h]
 cases i with
 |zero=>simp[Mz,chn]
 |succ i=>simp[Mz,chn,Bool.and_assoc]
def Tm (l:List Nmd) (hf:l.length≤1000000000000) (hs:I2 l):∀ (n i:Nat),l.length-i=n→i≤l.length→
  Tot (λ k=>Br k l l (l.length:Int) (i:Int)) (λ r=>r=bif chn (Mz l i) (l.drop i) then .inr l else .inl false):=by
 intro n
 induction n with
 |zero=>
  intro i hn hi;refine Tot.succ ?_;simp only[Br];refine Oja (by omega) (Oea ?_);rw[Wo (by omega)]
  cases Mz l i<;>rfl
 |succ n ih=>
  intro i hn hi
  have hlt:i<l.length:=by omega
  refine Tot.succ ?_;simp only[Br];refine Oia (by omega) (Oia (by omega) (Oia (by omega) ?_));rw[show toNat (i:Int)=i from Vq i,w64 (n:=(i:Int)+1) (by omega) (by omega),Zw l i hlt];have h1:=ih (i+1) (by omega) (by omega)
  have e:(((i+1:Nat)):Int)=(i:Int)+1:=by omega
  rw[e]at h1;have e0:l.getD i ((⟨#[]⟩:ByteArray),([]:List Int))=l.getD i Dv:=rfl;rw[e0];refine Ooa (Nf (l.getD i Dv).1 (hs _ (Du hlt))) ?_;cases hb:Db (l.getD i Dv).1
  ·exact Oha rfl (Oea (by rw[show nOk (l.getD i Dv)=false by unfold nOk;rw[hb];rfl];rfl))
  refine Oga rfl ?_;refine Ola (λ h4=>Oea (by rw[show nOk (l.getD i Dv)=false by unfold nOk;rw[decide_eq_true h4,hb];rfl];rfl)) (λ h4=>?_)
  have hnk:nOk (l.getD i Dv)=true:=by unfold nOk;rw[hb,decide_eq_false h4];rfl
  rw[hnk,Ym];refine Ola (λ h0=>?_) (λ h0=>?_)
  ·rw[w64 (n:=(i:Int)-1) (by omega) (by omega)];refine Oia (by omega) (Oia (by omega) ?_);rw[show toNat ((i:Int)-1)=i-1 by omega,decide_eq_true (show 0<i by omega),cond_true];refine Oka (λ ht=>?_) (λ ht=>?_)
   ·have ht':(!(tlt (l.getD (i-1) Dv).1 (l.getD i Dv).1))=true:=ht;rw[Wk]at ht';exact Oea (by rw[ht'];rfl)
   ·have ht':(!(tlt (l.getD (i-1) Dv).1 (l.getD i Dv).1))=false:=ht;rw[Bool.not_eq_false']at ht';rw[ht',Ym];exact h1
  ·rw[decide_eq_false (show ¬ 0<i by omega),cond_false,Ym];exact h1
def Tn (l:List Nmd) (hf:l.length≤1000000000000) (hs:I2 l):∀ (n i:Nat),l.length-i=n→i≤l.length→
  Tot (λ k=>Cb k l (i:Int)) (λ r=>r=bif chn (Mz l i) (l.drop i) then .inr l else .inl false):=by
 intro n
 induction n with
 |zero=>
  intro i hn hi;refine Tot.succ ?_;simp only[Cb];refine Oja (by omega) (Oea ?_);rw[Wo (by omega)]
  cases Mz l i<;>rfl
 |succ n ih=>
  intro i hn hi
  have hlt:i<l.length:=by omega
  refine Tot.succ ?_;simp only[Cb];refine Oia (by omega) (Oia (by omega) (Oia (by omega) ?_));rw[show toNat (i:Int)=i from Vq i,w64 (n:=(i:Int)+1) (by omega) (by omega),Zw l i hlt];have h1:=ih (i+1) (by omega) (by omega)
  have e:(((i+1:Nat)):Int)=(i:Int)+1:=by omega
  rw[e]at h1;have e0:l.getD i ((⟨#[]⟩:ByteArray),([]:List Int))=l.getD i Dv:=rfl;rw[e0];refine Ooa (Rl (l.getD i Dv).1 (hs _ (Du hlt))) ?_;cases hb:Db (l.getD i Dv).1
  ·exact Oha rfl (Oea (by rw[show nOk (l.getD i Dv)=false by unfold nOk;rw[hb];rfl];rfl))
  refine Oga rfl (Oia (by omega) (Oia (by omega) ?_));refine Ola (λ h4=>Oea (by rw[show nOk (l.getD i Dv)=false by unfold nOk;rw[decide_eq_true h4,hb];rfl];rfl)) (λ h4=>?_)
  have hnk:nOk (l.getD i Dv)=true:=by unfold nOk;rw[hb,decide_eq_false h4];rfl
  rw[hnk,Ym];refine Ola (λ h0=>?_) (λ h0=>?_)
  ·rw[w64 (n:=(i:Int)-1) (by omega) (by omega)];refine Oia (by omega) (Oia (by omega) (Oia (by omega) (Oia (by omega) ?_)));rw[show toNat ((i:Int)-1)=i-1 by omega,decide_eq_true (show 0<i by omega),cond_true];refine Oka (λ ht=>?_) (λ ht=>?_)
   ·have ht':(!(tlt (l.getD (i-1) Dv).1 (l.getD i Dv).1))=true:=ht;rw[Wk]at ht';exact Oea (by rw[ht'];rfl)
   ·have ht':(!(tlt (l.getD (i-1) Dv).1 (l.getD i Dv).1))=false:=ht;rw[Bool.not_eq_false']at ht';rw[ht',Ym];exact h1
  ·rw[decide_eq_false (show ¬ 0<i by omega),cond_false,Ym];exact h1
def Tp (l:List Nmd) (hf:l.length≤1000000000000) (hs:I2 l):Tot (λ k=>Bm k l) (λ r=>r=Dg l):=by
 unfold Bm Dg;refine Ooa (Tm l hf hs _ 0 rfl (Wh _)) ?_;rw[Wj];show Tot _ (λ r=>r=(chn none l&&_))
 cases hc:chn none l with
 |true=>rw[show chn (Mz l 0) l=true from hc];exact Oea (by rw[Ym])
 |false=>rw[show chn (Mz l 0) l=false from hc];exact Oea rfl
def Tq (l:List Nmd) (hf:l.length≤1000000000000) (hs:I2 l):Tot (λ k=>C4 k l) (λ r=>r=Dg l):=by
 unfold C4 Dg;refine Ooa (Tn l hf hs _ 0 rfl (Wh _)) ?_;rw[Wj];show Tot _ (λ r=>r=(chn none l&&_))
 cases hc:chn none l with
 |true=>rw[show chn (Mz l 0) l=true from hc];exact Oea (by rw[Ym])
 |false=>rw[show chn (Mz l 0) l=false from hc];exact Oea rfl
def Ro (d:Dsk) (hf:Kea d) (hs:Tl d):Tot (λ k=>C7 k d) (λ r=>r=Au d):=by
 unfold C7 Au;refine Ooa (Tp d.1 hf.1.1 hs.1) ?_;cases h:Dg d.1
 ·exact Oga rfl (Oea rfl)
 refine Oha rfl (Ooa (Tp d.2 hf.2.1 hs.2) ?_);exact Oea (by rw[Ym])
def plc (l:List Nmd) (s:ByteArray):Nat:=(l.takeWhile (λ y=>tlt y.1 s)).length
def ins (l:List Nmd) (x:Nmd):List Nmd:=l.take (plc l x.1)++[x]++l.drop (plc l x.1)
def Ila (l:List Nmd) (s:ByteArray):plc l s≤l.length:=(List.takeWhile_sublist _).length_le
def W8 (l:List Nmd) (s:ByteArray) (b:List Int) (hf:l.length≤1000000000000):∀ (n i:Nat),l.length-i=n→i≤l.length→
  Tot (λ k=>E9 k l (i:Int) s b) (λ r=>r=(l,((i+plc (l.drop i) s:Nat):Int),s,b)):=by
 intro n
 induction n with
 |zero=>
  intro i hd hi;refine Tot.succ ?_;simp only[E9];refine Oja (by omega) (Oea ?_);rw[Wo (by omega)];rfl
 |succ n ih=>
  intro i hd hi
  have hlt:i<l.length:=by omega
  refine Tot.succ ?_;simp only[E9];refine Oia (by omega) (Oia (by omega) (Oia (by omega) ?_));rw[show toNat (i:Int)=i from Vq i,w64 (n:=(i:Int)+1) (by omega) (by omega),Fs (d:=Dv) hlt];have e0:l.getD i ((⟨#[]⟩:ByteArray),([]:List Int))=l.getD i Dv:=rfl;rw[e0]
  have e1:plc (l.getD i Dv::l.drop (i+1)) s=if tlt (l.getD i Dv).1 s then plc (l.drop (i+1)) s+1 else 0:=by
   unfold plc;rw[Zo]
   split<;>rfl
  rw[e1];refine Oka (λ h=>?_) (λ h=>?_)
  ·have h':tlt (l.getD i Dv).1 s=true:=h;rw[if_pos h'];refine(ih (i+1) (by omega) (by omega)).mono ?_;rintro r rfl;rw[show i+1+plc (l.drop (i+1)) s=i+(plc (l.drop (i+1)) s+1) by omega]
  ·have h':¬ (tlt (l.getD i Dv).1 s=true):=by
    have:tlt (l.getD i Dv).1 s=false:=h;rw[this];simp
   rw[if_neg h'];exact Oea rfl
def Zx (l:List Nmd) (x:Nmd) (hf:l.length≤1000000000000):Tot (λ k=>Fa k l x) (λ r=>r=ins l x):=by
 unfold Fa ins;refine Ofa (W8 l x.1 x.2 hf _ 0 rfl (Nat.zero_le _)) ?_;intro r hr;rw[List.drop_zero,Nat.zero_add]at hr;subst hr;have hp:=Ila l x.1;dsimp only
 first
 |refine Oia (by omega) (Oia (by omega) ?_)
  rw[show toNat ((plc l x.1:Nat):Int)=plc l x.1 from Vq _];refine Oma (by simp only[Vs,Vl];omega) ?_;refine Oma (by simp only[Vh,Vs,Vl,Vg];omega) ?_;refine Oia (by omega) (Oia (by omega) (Oma (by simp only[Vh,Vs,Vl,Vx,Vg];omega) (Oea ?_)))
 |refine Oha (by rw[Va,decide_eq_true_iff,decide_eq_true_iff];omega) ?_
  rw[show toNat ((plc l x.1:Nat):Int)=plc l x.1 from Vq _];refine Oia (by simp only[Vl];omega) ?_;refine Oma (by simp only[Vs,Vl];omega) ?_;refine Oma (by simp only[Vh,Vs,Vl,Vg];omega) ?_;refine Oha (by rw[Va,Va,decide_eq_true_iff,decide_eq_true_iff];exact⟨⟨by omega,by omega⟩,Yq (by omega)⟩) (Oma (by simp only[Vh,Vs,Vl,Vx,Vg];omega) (Oea ?_))
 rw[Wf]

def W9 (l:List Int) (h:l.length≤1000000000000):(length ([]:List Int)+l.length)*1≤140737488355328:=by
 simp only[Vs];omega
def Ou (l:List Nmd) (hf:Tk l):∀ (n i:Nat) (acc:List Nmd),l.length-i=n→i≤l.length→acc.length≤i→
  Tot (λ k=>B3 k l acc (i:Int)) (λ r=>r=acc++l.drop i):=by
 obtain⟨h1,h2⟩:=hf;intro n
 induction n with
 |zero=>
  intro i acc hd hi ha;refine Tot.succ ?_;simp only[B3];refine Oja (by omega) (Oea ?_);rw[Wo (by omega),Ye]
 |succ n ih=>
  intro i acc hd hi ha
  have hlt:i<l.length:=by omega
  refine Tot.succ ?_;simp only[B3];refine Oia (by omega) (Oia (by omega) (Oia (by omega) (Oia (by omega) (Oia (by omega) ?_))));rw[show toNat (i:Int)=i from Vq i,w64 (n:=(i:Int)+1) (by omega) (by omega),Fs (d:=Dv) hlt];have e0:l.getD i ((⟨#[]⟩:ByteArray),([]:List Int))=l.getD i Dv:=rfl;rw[e0];have hb:=h2 _ (Du (d:=Dv) hlt);refine Oma (W9 _ hb) (Oma (by simp only[Vg,Vs];omega) ?_);refine(ih (i+1) (acc++[l.getD i Dv]) (by omega) (by omega) (by simp only[Vh,Vg,Vs];omega)).mono ?_;rintro r rfl;rw[Vj];rfl
def Ms (l:List Nmd) (hf:Tk l):Tot (λ k=>Bd k l) (λ r=>r=l):=by
 unfold Bd;refine Ofa (Ou l hf _ 0 [] rfl (Wh _) (Wh _)) ?_;intro r hr;rw[Wj,Wf]at hr;exact Oea hr
def H5 (d:Dsk) (hf:Kea d):Tot (λ k=>A9 k d) (λ r=>r=d):=by
 unfold A9;refine Ooa (Ms d.1 hf.1) ?_;refine Ooa (Ms d.2 hf.2) ?_;exact Oea rfl
def Eua (l:List Nmd) (s:ByteArray) (hf:l.length≤1000000000000):∀ (n i:Nat),l.length-i=n→i≤l.length→
  Tot (λ k=>Di k l s (i:Int)) (λ r=>r=match fnd (l.drop i) s with|some j => .inl ((i+j:Nat):Int)|none => .inr ()):=by
 intro n
 induction n with
 |zero=>
  intro i hd hi;refine Tot.succ ?_;simp only[Di];refine Oja (by omega) (Oea ?_);rw[Wo (by omega)];rfl
 |succ n ih=>
  intro i hd hi
  have hlt:i<l.length:=by omega
  refine Tot.succ ?_;simp only[Di];refine Oia (by omega) (Oia (by omega) (Oia (by omega) ?_));rw[show toNat (i:Int)=i from Vq i,w64 (n:=(i:Int)+1) (by omega) (by omega),Fs (d:=Dv) hlt];have e0:l.getD i ((⟨#[]⟩:ByteArray),([]:List Int))=l.getD i Dv:=rfl;rw[e0]
  have e1:fnd (l.getD i Dv::l.drop (i+1)) s=if teq (l.getD i Dv).1 s then some 0 else (fnd (l.drop (i+1)) s).map (· + 1):=by
   unfold fnd;rw[Pra]
  rw[e1];refine Oka (λ h=>?_) (λ h=>?_)
  ·have h':teq (l.getD i Dv).1 s=true:=h;rw[if_pos h'];exact Oea rfl
  ·have h':¬ (teq (l.getD i Dv).1 s=true):=by
    have:teq (l.getD i Dv).1 s=false:=h;rw[this];simp
   rw[if_neg h'];refine(ih (i+1) (by omega) (by omega)).mono ?_;rintro r rfl
   cases fnd (l.drop (i+1)) s with
   |none=>rfl
   |some j=>
    show Sum.inl _=Sum.inl _;rw[show i+1+j=i+(j+1) by omega]
def Mba (l:List Nmd) (s:ByteArray) (hf:l.length≤1000000000000):Tot (λ k=>Fg k l s) (λ r=>r=Hha l s):=by
 unfold Fg Hha;refine Ooa (Eua l s hf _ 0 rfl (Wh _)) ?_;rw[Wj]
 cases fnd l s with
 |none=>exact Oea rfl
 |some j=>
  refine Oea ?_;rw[Wb]
def cut (l:List Nmd) (s:ByteArray):List Nmd:=l.filter (λ x => !(teq x.1 s))
def B9a (l:List Nmd) (s:ByteArray) (hf:l.length≤1000000000000):∀ (n i:Nat) (acc:List Nmd),l.length-i=n→i≤l.length→acc.length≤i→
  Tot (λ k=>Cs k l s acc (i:Int)) (λ r=>r=acc++cut (l.drop i) s):=by
 intro n
 induction n with
 |zero=>
  intro i acc hd hi ha;refine Tot.succ ?_;simp only[Cs];refine Oja (by omega) (Oea ?_);rw[Wo (by omega)];simp[cut]
 |succ n ih=>
  intro i acc hd hi ha
  have hlt:i<l.length:=by omega
  refine Tot.succ ?_;simp only[Cs];refine Oia (by omega) (Oia (by omega) (Oia (by omega) ?_));rw[show toNat (i:Int)=i from Vq i,w64 (n:=(i:Int)+1) (by omega) (by omega),Fs (d:=Dv) hlt];have e0:l.getD i ((⟨#[]⟩:ByteArray),([]:List Int))=l.getD i Dv:=rfl;rw[e0]
  have e1:cut (l.getD i Dv::l.drop (i+1)) s=if (!(teq (l.getD i Dv).1 s))=true then l.getD i Dv::cut (l.drop (i+1)) s else cut (l.drop (i+1)) s:=by
   unfold cut;rw[Osa]
  rw[e1];refine Oka (λ h=>?_) (λ h=>?_)
  ·have h':(!(teq (l.getD i Dv).1 s))=true:=h;rw[if_pos h'];refine Oia (by omega) (Oia (by omega) (Oma (by simp only[Vg,Vs];omega) ?_));refine(ih (i+1) (acc++[l.getD i Dv]) (by omega) (by omega) (by simp only[Vh,Vg,Vs];omega)).mono ?_;rintro r rfl;rw[Vj];rfl
  ·have h':¬ ((!(teq (l.getD i Dv).1 s))=true):=by
    have:(!(teq (l.getD i Dv).1 s))=false:=h;rw[this];simp
   rw[if_neg h'];exact ih (i+1) acc (by omega) (by omega) (by omega)
def Kfa (l:List Nmd) (s:ByteArray) (hf:l.length≤1000000000000):Tot (λ k=>Ej k l s) (λ r=>r=cut l s):=by
 unfold Ej;refine Ofa (B9a l s hf _ 0 [] rfl (Wh _) (Wh _)) ?_;intro r hr;rw[Wj,Wf]at hr;exact Oea hr
def Rp (d:Dsk) (hf:Kea d) (hs:Tl d):Tot (λ k=>Cv k d) (λ r=>r=Au d):=by
 unfold Cv Au;refine Ooa (Tq d.1 hf.1.1 hs.1) ?_;cases h:Dg d.1
 ·exact Oga rfl (Oea rfl)
 refine Oha rfl (Ooa (Tq d.2 hf.2.1 hs.2) ?_);exact Oea (by rw[Ym])

def rdN (l:List Nmd) (s:ByteArray):List Int×Bool:=match fnd l s with
 |some i=>((l.getD i Dv).2,true)
 |none=>([],false)
def Hia (d:Dsk) (s:ByteArray) (hf:Tk d.1):Tot (λ k=>D7 k d s) (λ r=>r=rdN d.1 s):=by
 unfold D7 rdN;refine Ooa (Eta d.1 s hf.1) ?_;unfold Hha;have hl1:=hf.1
 cases h:fnd d.1 s with
 |none=>exact Oia (by decide) (Oea rfl)
 |some i=>
  have hl:=(Mr h).1;dsimp only;refine Oja (by omega) (Oia (by omega) (Oia (by omega) ?_));rw[show toNat (i:Int)=i from Int.toNat_natCast i];have hb:=hf.2 _ (Du (d:=Dv) hl);refine Ooa (Opa (Q:=λ r=>r=(d.1.getD i Dv).2) (H4 _ hb) rfl) ?_;exact Oea rfl
def Zy (d:Dsk) (s:ByteArray) (hf:Tk d.1):Tot (λ k=>Bx k d s) (λ r=>r=rdN d.1 s):=by
 unfold Bx rdN;refine Ooa (Mba d.1 s hf.1) ?_;unfold Hha;have hl1:=hf.1
 cases h:fnd d.1 s with
 |none=>exact Oia (by decide) (Oea rfl)
 |some i=>
  have hl:=(Mr h).1;dsimp only;refine Oja (by omega) (Oia (by omega) (Oia (by omega) ?_));rw[show toNat (i:Int)=i from Int.toNat_natCast i];have hb:=hf.2 _ (Du (d:=Dv) hl);exact Oma (W9 _ hb) (Oea rfl)

def G4 (l:List Nmd):Prop:=l.Pairwise (λ a b=>tlt a.1 b.1=true)
def Wr:∀ (p:Option ByteArray) (l:List Nmd),chn p l=true↔G4 l∧(∀ r∈l,nOk r=true)∧(∀ q,p=some q→∀ r∈l,tlt q r.1=true)
 |p,[]=>by
  have:chn p []=true:=by cases p<;>rfl
  simp[this,G4]
 |none,r::l=>by
  simp only[chn,Va,Wr (some r.1) l,G4,Yu];constructor
  ·rintro⟨h1,h2,h3,h4⟩;exact⟨⟨λ a ha=>h4 _ rfl a ha,h2⟩,λ a ha=>by rcases Vk.1 ha with rfl|ha;exact h1;exact h3 a ha,λ q hq=>by cases hq⟩
  ·rintro⟨⟨h1,h2⟩,h3,_⟩;exact⟨h3 r (by simp),h2,λ a ha=>h3 a (Ve _ ha),λ q hq a ha=>by cases hq;exact h1 a ha⟩
 |some q,r::l=>by
  simp only[chn,Va,Wr (some r.1) l,G4,Yu];constructor
  ·rintro⟨h1,h0,h2,h3,h4⟩;refine⟨⟨λ a ha=>h4 _ rfl a ha,h2⟩,λ a ha=>by rcases Vk.1 ha with rfl|ha;exact h1;exact h3 a ha,λ q' hq a ha=>?_⟩;cases hq;rcases Vk.1 ha with rfl|ha
   ·exact h0
   ·exact Om h0 (h4 _ rfl a ha)
  ·rintro⟨⟨h1,h2⟩,h3,h4⟩;exact⟨h3 r (by simp),h4 q rfl r (by simp),h2,λ a ha=>h3 a (Ve _ ha),λ q' hq a ha=>by cases hq;exact h1 a ha⟩
def Bn {l:List Nmd}:Dg l=true↔G4 l∧(∀ r∈l,nOk r=true)∧l.length≤60:=by
 unfold Dg;simp only[Va,Wr,decide_eq_true_eq];constructor
 ·rintro⟨⟨h1,h2,_⟩,h3⟩;exact⟨h1,h2,by omega⟩
 ·rintro⟨h1,h2,h3⟩;exact⟨⟨h1,h2,λ q hq=>by cases hq⟩,by omega⟩
def Km {x:Nmd}:nOk x=true↔Db x.1=true∧x.2.length≤400:=by
 unfold nOk;simp only[Va,Wk,decide_eq_false_iff_not];constructor
 ·rintro⟨h1,h2⟩;exact⟨h1,by omega⟩
 ·rintro⟨h1,h2⟩;exact⟨h1,by omega⟩
def Mt {l:List Nmd} (h:Dg l=true):Tk l∧I2 l:=by
 obtain⟨_,h2,h3⟩:=Bn.1 h;refine⟨⟨by omega,λ x hx=>by have:=(Km.1 (h2 x hx)).2;omega⟩,λ x hx=>?_⟩;have:=Kl (Km.1 (h2 x hx)).1;unfold Hq;omega
def Zz (y:Nmd) (l:List Nmd) (s:ByteArray):fnd (y::l) s=if teq y.1 s then some 0 else (fnd l s).map (· + 1):=by
 unfold fnd;rw[Pra]
def Mj:∀ {l:List Nmd} {s:ByteArray},G4 l→del l s=cut l s
 |[],s,_=>rfl
 |y::l,s,h=>by
  have hc:=Yu.1 h;have ih:=Mj (l:=l) (s:=s) hc.2;unfold del cut at *;rw[Zz,Osa]
  cases ht:teq y.1 s with
  |true=>
   have hno:∀ x∈l,(!(teq x.1 s))=true:=λ x hx=>by
    cases hx2:teq x.1 s
    ·rfl
    have e1:=Ij.1 ht;have e2:=Ij.1 hx2;have:=hc.1 x hx;rw[e1,e2,Mh]at this;cases this
   rw[if_pos rfl,if_neg (by simp)];show []++l=_;rw[Wf,List.filter_eq_self.2 hno]
  |false=>
   rw[if_neg (by simp),if_pos (show (!false)=true from rfl),← ih]
   cases hf:fnd l s with
   |none=>rfl
   |some i=>rfl
def Q2 {l:List Nmd} {s:ByteArray} (h:G4 l):G4 (cut l s):=h.sublist List.filter_sublist
def Ko {l:List Nmd} {s:ByteArray}:(cut l s).Sublist l:=List.filter_sublist
def A0a {l:List Nmd} {s:ByteArray} (h:Dg l=true):Dg (cut l s)=true:=by
 obtain⟨h1,h2,h3⟩:=Bn.1 h;exact Bn.2 ⟨Q2 h1,λ x hx=>h2 x (Ko.subset hx),by have:=(Ko (l:=l) (s:=s)).length_le;omega⟩
def Kga {l:List Nmd} {s:ByteArray} {i:Nat} (h:fnd l s=some i):(del l s).length+1=l.length:=by
 have hl:=(Mr h).1;unfold del;rw[h];simp only[Vh,Vl,Vx];omega
def Kha {l m:List Nmd} (h:m.Sublist l) (hf:Tk l):Tk m:=⟨by have:=h.length_le;have:=hf.1;omega,λ x hx=>hf.2 x (h.subset hx)⟩
def Eva {l m:List Nmd} (h:m.Sublist l) (hf:I2 l):I2 m:=λ x hx=>hf x (h.subset hx)

def A1a (d out:Dsk) (s:ByteArray) (hd:Kea d∧Tl d) (ho:Kea out∧Tl out) (hs:Hq s):Tot (λ k=>Cj k d out s) (λ r=>r=bif Au d&&(Db s&&Au out) then (out,true) else (d,false)):=by
 unfold Cj;refine Ooa (Rp d hd.1 hd.2) ?_
 cases h1:Au d with
 |false=>
  refine Oha rfl (Ooa (H5 d hd.1) ?_);exact Oea rfl
 |true=>
  refine Oga rfl (Ooa (Rl s hs) ?_)
  cases h2:Db s with
  |false=>
   refine Oha rfl (Ooa (H5 d hd.1) ?_);exact Oea rfl
  |true=>
   refine Oga rfl (Ooa (Rp out ho.1 ho.2) ?_)
   cases h3:Au out with
   |false=>
    refine Oha rfl (Ooa (H5 d hd.1) ?_);exact Oea rfl
   |true=>exact Oga rfl (Oea rfl)

def ptl (x:Nmd):Bool→List Nmd→List Nmd
 |p,[]=>bif p then [] else [x]
 |p,y::l=>(bif !p&&!(tlt y.1 x.1) then [x] else [])++((bif !(teq y.1 x.1) then [y] else [])++ptl x (p||!(tlt y.1 x.1)) l)
def Ws (l:List Nmd) (s:ByteArray) (b:List Int) (hf:l.length≤1000000000000):∀ (n i:Nat) (acc:List Nmd) (p:Bool),l.length-i=n→i≤l.length→acc.length≤2*i→
  Tot (λ k=>As k l s acc p (i:Int) s b) (λ r=>r.1++(bif r.2.1 then [] else [(s,b)])=acc++ptl (s,b) p (l.drop i)∧r.2.2=(s,b)∧r.1.length≤2*l.length):=by
 intro n
 induction n with
 |zero=>
  intro i acc p hd hi ha;refine Tot.succ ?_;simp only[As];refine Oja (by omega) (Oea ?_);rw[List.drop_of_length_le (by omega)];exact⟨rfl,rfl,by dsimp only;omega⟩
 |succ n ih=>
  intro i acc p hd hi ha
  have hlt:i<l.length:=by omega
  refine Tot.succ ?_;simp only[As];refine Oia (by omega) ?_;rw[show toNat (i:Int)=i from Vq i,w64 (n:=(i:Int)+1) (by omega) (by omega),Fs (d:=Dv) hlt];have e0:l.getD i ((⟨#[]⟩:ByteArray),([]:List Int))=l.getD i Dv:=rfl;rw[e0]
  have Ai:∀ (ac:List Nmd) (q:Bool),ac.length≤2*i+1→Tot (λ k=>cond (decide ((0:Int)≤i)) (cond (decide ((i:Int)<(length l:Int))) (cond (!((l.getD i Dv).1.toList==s.toList)) (cond (decide ((0:Int)≤i)) (cond (decide ((i:Int)<(length l:Int))) (cond (Nat.ble ((length ac+length [l.getD i Dv])*40) 140737488355328) (As k l s (ac++[l.getD i Dv]) q ((i:Int)+1) s b) none) none) none) (As k l s ac q ((i:Int)+1) s b)) none) none)
    (λ r=>r.1++(bif r.2.1 then [] else [(s,b)])=ac++((bif !(teq (l.getD i Dv).1 s) then [l.getD i Dv] else [])++ptl (s,b) q (l.drop (i+1)))∧r.2.2=(s,b)∧r.1.length≤2*l.length):=by
   intro ac q hac;refine Oia (by omega) (Oia (by omega) (Oka (λ h=>?_) (λ h=>?_)))
   ·have h':(!(teq (l.getD i Dv).1 s))=true:=h;rw[h'];refine Oia (by omega) (Oia (by omega) (Oma (by simp only[Vg,Vs];omega) ?_));refine(ih (i+1) (ac++[l.getD i Dv]) q (by omega) (by omega) (by simp only[Vh,Vg,Vs];omega)).mono ?_;rintro r ⟨h1,h2,h3⟩;refine⟨?_,h2,h3⟩;rw[h1,Vj];rfl
   ·have h':(!(teq (l.getD i Dv).1 s))=false:=h;rw[h'];exact ih (i+1) ac q (by omega) (by omega) (by omega)
  cases p with
  |true=>
   refine Oga rfl ?_;refine(Ai acc true (by omega)).mono ?_;rintro r ⟨h1,h2,h3⟩;exact⟨h1,h2,h3⟩
  |false=>
   refine Oha rfl (Oia (by omega) (Oia (by omega) (Oka (λ h=>?_) (λ h=>?_))))
   ·have h':(!(tlt (l.getD i Dv).1 s))=true:=h;refine Oma (by simp only[Vg,Vs];omega) ?_;refine(Ai (acc++[(s,b)]) true (by simp only[Vh,Vg,Vs];omega)).mono ?_;rintro r ⟨h1,h2,h3⟩;refine⟨?_,h2,h3⟩;rw[h1];simp only[ptl,h',Oza,Bool.and_self,Qea,cond_true,Vj]
   ·have h':(!(tlt (l.getD i Dv).1 s))=false:=h;refine(Ai acc false (by omega)).mono ?_;rintro r ⟨h1,h2,h3⟩;refine⟨?_,h2,h3⟩;rw[h1];simp only[ptl,h',Oza,Bool.and_false,Qea,cond_false,Wf]
def A2a (l:List Nmd) (s:ByteArray) (b:List Int) (hf:l.length≤1000000000000) (hb:b.length≤1000000000000):Tot (λ k=>De k l s b) (λ r=>r=ptl (s,b) false l):=by
 unfold De;refine Oma (W9 b hb) ?_;rw[List.nil_append];refine Ofa (Ws l s b hf _ 0 [] false rfl (Nat.zero_le _) (Nat.zero_le _)) ?_;rintro⟨r,q,x,y⟩ ⟨h1,h2,h3⟩;rw[List.drop_zero,List.nil_append]at h1;dsimp only at h1 h2 h3;dsimp only
 cases q with
 |true=>
  refine Oga rfl (Oea ?_);rw[← h1];simp
 |false=>
  refine Oha rfl (Oma (by simp only[Vg,Vs];omega) (Oea ?_));rw[← h1];obtain⟨rfl,rfl⟩:=Prod.mk.inj h2;rfl
def Ewa (x:Nmd):∀ (p:Bool) (l:List Nmd),∀ y∈ptl x p l,y∈l∨y=x:=by
 intro p l
 induction l generalizing p with
 |nil=>intro y hy;cases p<;>simp_all [ptl]
 |cons a l ih=>
  intro y hy;simp only[ptl,Vm]at hy;rcases hy with hy|hy|hy
  ·revert hy;cases (!p&&!(tlt a.1 x.1))<;>simp_all
  ·revert hy;cases (!(teq a.1 x.1))<;>simp_all
  ·rcases ih _ y hy with h|h
   ·exact Or.inl (Ve _ h)
   ·exact Or.inr h
def Kia (x:Nmd):∀ (p:Bool) (l:List Nmd),(ptl x p l).length≤l.length+(bif p then 0 else 1):=by
 intro p l
 induction l generalizing p with
 |nil=>cases p<;>simp[ptl]
 |cons a l ih=>
  simp only[ptl,Vh,Vg];have:=ih (p||!(tlt a.1 x.1))
  revert this
  cases p<;>cases tlt a.1 x.1<;>cases teq a.1 x.1<;>simp<;>omega
def Hja (x:Nmd):∀ (l:List Nmd),ptl x true l=cut l x.1:=by
 intro l
 induction l with
 |nil=>rfl
 |cons a l ih=>
  simp only[ptl,Q0a,Pva,cond_false,Wf,Bool.true_or,ih,cut,Osa]
  cases teq a.1 x.1<;>simp
def Q3 (x:Nmd):∀ {l:List Nmd},G4 l→ptl x false l=ins (cut l x.1) x:=by
 intro l
 induction l with
 |nil=>intro _;rfl
 |cons a l ih=>
  intro h;have hl:G4 l:=(Yu.1 h).2;have ha:=(Yu.1 h).1;simp only[ptl,Oza,Ym,Qea]
  cases ht:tlt a.1 x.1 with
  |true=>
   have he:teq a.1 x.1=false:=by
    cases hq:teq a.1 x.1 with
    |false=>rfl
    |true=>rw[(Ij.1 hq),Mh]at ht;cases ht
   simp only[he,Q0a,Oza,cond_false,cond_true,Wf,ih hl,cut,Osa,if_true];unfold ins plc;rw[Zo,if_pos ht];rfl
  |false=>
   have hc:plc (cut (a::l) x.1) x.1=0:=by
    unfold plc cut;rw[List.length_eq_zero_iff];rw[Osa];cases hq:teq a.1 x.1
    ·rw[Oza,if_pos rfl,Zo,if_neg (by rw[ht];simp)]
    have hx:=(Ij.1 hq);simp only[Q0a,Wc,if_false]
    cases hf:l.filter (λ y => !(teq y.1 x.1)) with
    |nil=>rfl
    |cons b m=>
     have hb:b∈l:=by
      have:b∈l.filter (λ y => !(teq y.1 x.1)):=by rw[hf];exact P6a
      exact(List.mem_filter.1 this).1
     have hab:=ha b hb;rw[hx]at hab;rw[Zo,if_neg (by rw[Eia hab];simp)]
   simp only[Oza,cond_true,Hja];unfold ins;rw[hc];simp only[Ota,Wf,Wj,cut,Osa]
   cases teq a.1 x.1<;>simp

def Exa {l:List Nmd} {x:Nmd} {p:Bool} (hl:Tk l) (hl':l.length≤999999999999) (hx:x.2.length≤1000000000000):Tk (ptl x p l):=by
 refine⟨?_,λ y hy=>?_⟩
 ·have:=Kia x p l
  revert this
  cases p<;>simp<;>omega
 ·rcases Ewa x p l y hy with h|rfl
  ·exact hl.2 y h
  ·exact hx
def Tr {l:List Nmd} {x:Nmd} {p:Bool} (hl:I2 l) (hx:Hq x.1):I2 (ptl x p l):=by
 intro y hy;rcases Ewa x p l y hy with h|rfl
 ·exact hl y h
 ·exact hx
def DIn (d:Dsk):Prop:=(Kea d∧Tl d)∧d.1.length≤2000000∧d.2.length≤2000000
def Q4 {d:Dsk} (h:Au d=true):DIn d:=by
 unfold Au at h;rw[Va]at h;have h1:=Mt h.1;have h2:=Mt h.2;exact⟨⟨⟨h1.1,h2.1⟩,h1.2,h2.2⟩,by have:=(Bn.1 h.1).2.2;omega,by have:=(Bn.1 h.2).2.2;omega⟩
def Eya (d:Dsk) (s:ByteArray) (b:List Int) (hd:DIn d) (hs:Hq s) (hb:b.length≤1000000000000):Tot (λ k=>Bj k d s b) (λ r=>r=bif Au d&&(Db s&&Au (ptl (s,b) false d.1,d.2)) then ((ptl (s,b) false d.1,d.2),true) else (d,false)):=by
 unfold Bj;refine Ofa (H5 d hd.1.1) ?_;rintro r rfl;refine Ofa (A2a r.1 s b hd.1.1.1.1 hb) ?_;rintro c rfl;refine Ofa (A1a r (ptl (s,b) false r.1,r.2) s hd.1 ⟨⟨Exa hd.1.1.1 (by have:=hd.2.1;omega) hb,hd.1.1.2⟩,Tr hd.1.2.1 hs,hd.1.2.2⟩ hs) ?_;rintro e rfl;exact Oea rfl
def syS (d:Dsk) (s:ByteArray):List Nmd:=match fnd d.1 s with
 |some i=>ptl (s,(d.1.getD i Dv).2) false (cut d.2 s)
 |none=>cut d.2 s
def Mca {d:Dsk} {s:ByteArray} (hd:DIn d) (hs:Hq s):Tk (syS d s)∧I2 (syS d s):=by
 unfold syS;have h1:=Kha (Ko (l:=d.2) (s:=s)) hd.1.1.2;have h2:=Eva (Ko (l:=d.2) (s:=s)) hd.1.2.2
 cases h:fnd d.1 s with
 |none=>exact⟨h1,h2⟩
 |some i=>
  have hb:=hd.1.1.1.2 _ (Du (d:=Dv) (Mr h).1);have hc:(cut d.2 s).length≤d.2.length:=(Ko (l:=d.2) (s:=s)).length_le;exact⟨Exa h1 (by have:=hd.2.2;omega) hb,Tr h2 hs⟩
def Hka (d:Dsk) (s:ByteArray) (hd:DIn d) (hs:Hq s):Tot (λ k=>B9 k d s) (λ r=>r=bif Au d&&(Db s&&Au (d.1,syS d s)) then ((d.1,syS d s),true) else (d,false)):=by
 unfold B9;have hin:=Mca hd hs;refine Ofa (H5 d hd.1.1) ?_;rintro r rfl;refine Ofa (Zy r s hd.1.1.1) ?_;rintro b rfl;refine Ofa (Kfa r.2 s hd.1.1.2.1) ?_;rintro c rfl
 have e:∀ o,o=syS r s→Tot (λ k=>(Cj k r (r.1,o) s).bind λ r5=>some (r5.1,r5.2)) (λ q=>q=bif Au r&&(Db s&&Au (r.1,syS r s)) then ((r.1,syS r s),true) else (r,false)):=by
  rintro o rfl;refine Ofa (A1a r (r.1,syS r s) s hd.1 ⟨⟨hd.1.1.1,hin.1⟩,hd.1.2.1,hin.2⟩ hs) ?_;rintro e rfl;exact Oea rfl
 have hc:(cut r.2 s).length≤r.2.length:=(Ko (l:=r.2) (s:=s)).length_le
 cases h:fnd r.1 s with
 |none=>
  have h':rdN r.1 s=([],false):=by unfold rdN;rw[h]
  rw[h'];refine Oga rfl (e _ ?_);unfold syS;rw[h]
 |some i=>
  have h':rdN r.1 s=((r.1.getD i Dv).2,true):=by unfold rdN;rw[h]
  rw[h'];have hb:=hd.1.1.1.2 _ (Du (d:=Dv) (Mr h).1);refine Oha rfl (Ofa (A2a (cut r.2 s) s _ (by have:=hd.2.2;omega) hb) ?_);rintro o rfl;refine e _ ?_;unfold syS;rw[h]
def syI (d:Dsk) (s:ByteArray):List Nmd:=match fnd d.1 s with
 |some i=>ins (del d.2 s) (s,(d.1.getD i Dv).2)
 |none=>del d.2 s
def Q5 (l:List Nmd) (s:ByteArray):(del l s).length≤l.length:=by
 cases h:fnd l s with
 |none=>unfold del;rw[h];exact Vo _
 |some i=>have:=Kga h;omega
def Kja (l:List Nmd) (x:Nmd):(ins l x).length=l.length+1:=by
 unfold ins;have:=Ila l x.1;simp only[Vh,Vl,Vx,Vg,Vs];omega
def Hla (d:Dsk) (s:ByteArray) (hd:DIn d) (hs:Hq s):Tot (λ k=>Ba k d s) (λ r=>r=bif Au d&&(Db s&&decide ((syI d s).length≤60)) then ((d.1,syI d s),true) else (d,false)):=by
 unfold Ba;refine Ofa (F9 d hd.1.1) ?_;rintro r rfl;refine Ofa (Ro r hd.1.1 hd.1.2) ?_;rintro b rfl;cases h1:Au r
 ·exact Oha rfl (Oea rfl)
 refine Oga rfl (Ofa (Nf s hs) ?_);rintro b rfl;cases h2:Db s
 ·exact Oha rfl (Oea rfl)
 refine Oga rfl (Ofa (Zv r.2 s hd.1.1.2.1) ?_);rintro c rfl;refine Ofa (Eta r.1 s hd.1.1.1.1) ?_;rintro i rfl;have hdl:=Q5 r.2 s;have hr2:=hd.2.2;have hr1:=hd.2.1
 have e:∀ o,o=syI r s→o.length≤4000000→Tot (λ k=>cond (decide ((length o:Int) > 60)) ((A6 k r).bind λ r9=>some (r9,false)) (some ((r.1,o),true))) (λ q=>q=bif true&&(true&&decide ((syI r s).length≤60)) then ((r.1,syI r s),true) else (r,false)):=by
  rintro o rfl _;refine Ola (λ h=>?_) (λ h=>?_)
  ·refine Ofa (F9 r hd.1.1) ?_;rintro q rfl;refine Oea ?_;rw[decide_eq_false (by omega)];rfl
  ·refine Oea ?_;rw[decide_eq_true (by omega)];rfl
 unfold Hha
 cases h:fnd r.1 s with
 |none=>
  refine Oja (by decide) (e _ ?_ (by omega));unfold syI;rw[h]
 |some i=>
  have hl:=(Mr h).1;dsimp only;refine Oia (by omega) (Oia (by omega) (Oia (by omega) ?_));rw[show toNat (i:Int)=i from Int.toNat_natCast i];have hb:=hd.1.1.1.2 _ (Du (d:=Dv) hl);refine Ofa (Opa (Q:=λ q=>q=(r.1.getD i Dv).2) (H4 _ hb) rfl) ?_;rintro q rfl;refine Ofa (Zx (del r.2 s) (s,(r.1.getD i Dv).2) (by omega)) ?_;rintro o rfl;refine e _ ?_ (by rw[Kja];omega);unfold syI;rw[h]

section
open Go
end

section
open Go
end

def K5 (p:Nmd→Bool):∀ l:List Nmd,l.take (l.takeWhile p).length=l.takeWhile p∧l.drop (l.takeWhile p).length=l.dropWhile p
 |[]=>⟨rfl,rfl⟩
 |y::l=>by
  obtain⟨h1,h2⟩:=K5 p l;simp only[Zo,List.dropWhile_cons]
  cases p y with
  |true=>simp[h1,h2]
  |false=>simp
def Tt {p:Nmd→Bool}:∀ {l:List Nmd} {y:Nmd},y∈l.takeWhile p→p y=true
 |[],y,h=>by simp at h
 |z::l,y,h=>by
  simp only[Zo]at h;cases hz:p z
  ·rw[hz]at h;simp at h
  rw[hz]at h;simp only[if_true]at h;rcases Vk.1 h with rfl|h
  ·exact hz
  ·exact Tt h
def Ima (l:List Nmd) (x:Nmd):ins l x=l.takeWhile (λ y=>tlt y.1 x.1)++([x]++l.dropWhile (λ y=>tlt y.1 x.1)):=by
 unfold ins plc;obtain⟨h1,h2⟩:=K5 (λ y=>tlt y.1 x.1) l;rw[h1,h2,Vj]
def Q6 {x:Nmd}:∀ {l:List Nmd},G4 l→(∀ y∈l,y.1≠x.1)→∀ z∈l.dropWhile (λ y=>tlt y.1 x.1),tlt x.1 z.1=true
 |[],_,_,z,hz=>by simp at hz
 |y::l,hs,hn,z,hz=>by
  obtain⟨h1,h2⟩:=Yu.1 hs;simp only[List.dropWhile_cons]at hz
  cases hy:tlt y.1 x.1 with
  |true=>
   rw[hy]at hz;simp only[if_true]at hz;exact Q6 h2 (λ w hw=>hn w (Ve _ hw)) z hz
  |false=>
   rw[hy]at hz;simp only[Wc,if_false]at hz
   have hxy:tlt x.1 y.1=true:=by
    cases hh:tlt x.1 y.1 with
    |true=>rfl
    |false=>exact absurd (K9a hy hh) (hn y (by simp))
   rcases Vk.1 hz with rfl|hz
   ·exact hxy
   ·exact Om hxy (h1 z hz)
def Baa {l:List Nmd} {x:Nmd} (hs:G4 l) (hn:∀ y∈l,y.1≠x.1):G4 (ins l x):=by
 rw[Ima]
 have hs':G4 (l.takeWhile (λ y=>tlt y.1 x.1)++l.dropWhile (λ y=>tlt y.1 x.1)):=by rw[Pea];exact hs
 obtain⟨h1,h2,h3⟩:=Zt.1 hs';have h4:∀ y∈l.takeWhile (λ y=>tlt y.1 x.1),tlt y.1 x.1=true:=λ y hy=>Tt (p:=λ y=>tlt y.1 x.1) hy;refine Zt.2 ⟨h1,Yu.2 ⟨λ z hz=>Q6 hs hn z hz,h2⟩,λ a ha b hb=>?_⟩;rcases Vk.1 hb with rfl|hb
 ·exact h4 a ha
 ·exact h3 a ha b hb
def Wt {l:List Nmd} {x y:Nmd}:y∈ins l x↔y=x∨y∈l:=by
 rw[Ima];have e:=Pea (p:=λ y:Nmd=>tlt y.1 x.1) (l:=l);constructor
 ·intro h;rcases Vm.1 h with h|h
  ·right;rw[← e];exact Vt _ h
  ·rcases Vk.1 h with h|h
   ·exact .inl h
   ·right;rw[← e];exact Vi _ h
 ·rintro (rfl|h)
  ·exact Vi _ (by simp)
  ·rw[← e]at h;rcases Vm.1 h with h|h
   ·exact Vt _ h
   ·exact Vi _ (Ve _ h)
def Ina {l:List Nmd} {x:Nmd} (hl:Dg l=true) (hn:∀ y∈l,y.1≠x.1) (hx:nOk x=true):Dg (ins l x)=decide ((ins l x).length≤60):=by
 obtain⟨h1,h2,h3⟩:=Bn.1 hl
 by_cases h:(ins l x).length≤60
 ·rw[decide_eq_true h];exact Bn.2 ⟨Baa h1 hn,λ y hy=>by rcases Wt.1 hy with rfl|hy;exact hx;exact h2 y hy,h⟩
 ·rw[decide_eq_false h]
  cases hc:Dg (ins l x) with
  |false=>rfl
  |true=>exact absurd (Bn.1 hc).2.2 h
def Ioa {l:List Nmd} {s:ByteArray}:∀ y∈cut l s,y.1≠s:=λ y hy e=>by
 have:=(List.mem_filter.1 hy).2;simp[e,Ij.2 rfl]at this
def Kka {l:List Nmd} {s:ByteArray}:cut (cut l s) s=cut l s:=by
 unfold cut;rw[List.filter_filter];congr 1;funext x;simp
def Kla {d:Dsk} {s:ByteArray} (hd:Au d=true):syS d s=syI d s:=by
 unfold Au at hd;rw[Va]at hd;have hs:=(Bn.1 hd.2).1;unfold syS syI;rw[Mj hs]
 cases fnd d.1 s with
 |none=>rfl
 |some i=>
  show ptl _ false (cut d.2 s)=ins (cut d.2 s) _;rw[Q3 _ (Q2 hs)];show ins (cut (cut d.2 s) s) _=_;rw[Kka]
def Eza {d:Dsk} {s:ByteArray} (hd:Au d=true) (hs:Db s=true):Au (d.1,syI d s)=decide ((syI d s).length≤60):=by
 have hd':=hd;unfold Au at hd';rw[Va]at hd';have h2:=Bn.1 hd'.2;unfold Au;rw[hd'.1,Ym];unfold syI;rw[Mj h2.1]
 cases h:fnd d.1 s with
 |none=>show Dg (cut d.2 s)=decide ((cut d.2 s).length≤60);rw[A0a hd'.2,decide_eq_true (Bn.1 (A0a (s:=s) hd'.2)).2.2]
 |some i=>
  refine Ina (A0a hd'.2) Ioa (Km.2 ⟨hs,?_⟩);have h1:=(Bn.1 hd'.1).2.1 _ (Du (d:=Dv) (Mr h).1);exact(Km.1 h1).2

def wrI (d:Dsk) (s:ByteArray) (b:List Int):List Nmd:=ins (del d.1 s) (s,b)
def F0a (d:Dsk) (s:ByteArray) (b:List Int) (hd:DIn d) (hs:Hq s) (hb:b.length≤1000000000000):Tot (λ k=>Bl k d s b) (λ r=>r=bif Au d&&(Db s&&(decide (b.length≤400)&&decide ((wrI d s b).length≤60))) then ((wrI d s b,d.2),true) else (d,false)):=by
 unfold Bl;refine Ofa (F9 d hd.1.1) ?_;rintro r rfl;refine Ofa (Ro r hd.1.1 hd.1.2) ?_;rintro b1 rfl;cases h1:Au r
 ·exact Oha rfl (Oea rfl)
 refine Oga rfl (Ofa (Nf s hs) ?_);rintro b2 rfl;cases h2:Db s
 ·exact Oha rfl (Oea rfl)
 refine Oga rfl (Ola (λ h=>?_) (λ h=>?_))
 ·rw[decide_eq_false (show ¬ b.length≤400 by omega)];exact Oea rfl
 ·rw[decide_eq_true (show b.length≤400 by omega)];refine Ofa (Zv r.1 s hd.1.1.1.1) ?_;rintro c rfl;refine Ofa (Opa (Q:=λ x=>x=b) (H4 b hb) rfl) ?_;rintro e rfl;have hdl:=Q5 r.1 s;refine Ofa (Zx (del r.1 s) (s,e) (by have:=hd.2.1;omega)) ?_;rintro m rfl;refine Ola (λ h=>?_) (λ h=>?_)
  ·rw[decide_eq_false (show ¬ (wrI r s e).length≤60 by unfold wrI;omega)];refine Ofa (F9 r hd.1.1) ?_;rintro x rfl;exact Oea rfl
  ·rw[decide_eq_true (show (wrI r s e).length≤60 by unfold wrI;omega)];exact Oea rfl
def A3a {d:Dsk} {s:ByteArray} {b:List Int} (hd:Au d=true) (hs:Db s=true):ptl (s,b) false d.1=wrI d s b∧Au (wrI d s b,d.2)=(decide (b.length≤400)&&decide ((wrI d s b).length≤60)):=by
 have hd':=hd;unfold Au at hd';rw[Va]at hd';have h1:=Bn.1 hd'.1
 have e1:wrI d s b=ins (cut d.1 s) (s,b):=by unfold wrI;rw[Mj h1.1]
 refine⟨by rw[e1];exact Q3 _ h1.1,?_⟩;unfold Au;rw[hd'.2,Pya,e1]
 by_cases hb:b.length≤400
 ·rw[decide_eq_true hb,Ym];exact Ina (A0a hd'.1) Ioa (Km.2 ⟨hs,hb⟩)
 ·rw[decide_eq_false hb,Pva]
  cases hc:Dg (ins (cut d.1 s) (s,b)) with
  |false=>rfl
  |true=>exact absurd (Km.1 ((Bn.1 hc).2.1 (s,b) (Wt.2 (.inl rfl)))).2 hb

def Nya:ByteArray:=⟨#[]⟩

section
open Go
end

section
variable {α σ R:Type} {a b:α} {p:Prop} [Decidable p]
def dT (h:p):cond (decide p) a b=a:=by rw[decide_eq_true h];rfl
def dF (h:¬ p):cond (decide p) a b=b:=by rw[decide_eq_false h];rfl
def Ona {L:Nat→Int→σ→Option R} {Q:R→Prop} (n:Nat) (I:Nat→σ→Prop) (hend:∀ s,I n s→Tot (λ k=>L (k+1) (n:Int) s) Q)
  (Pe:∀ i s,i<n→I i s→(∀ s',I (i+1) s'→Tot (λ k=>L k ((i:Int)+1) s') Q)→Tot (λ k=>L (k+1) (i:Int) s) Q):
  ∀ (i:Nat) (s:σ),i≤n→I i s→Tot (λ k=>L k (i:Int) s) Q:=by
 suffices h:∀ (m i:Nat) (s:σ),n-i=m→i≤n→I i s→Tot (λ k=>L k (i:Int) s) Q from λ i s hi hs=>h _ i s rfl hi hs
 intro m
 induction m with
 |zero=>
  intro i s hm hi hs
  obtain rfl:i=n:=by omega
  exact Tot.succ (hend s hs)
 |succ m ih=>
  intro i s hm hi hs;refine Tot.succ (Pe i s (by omega) hs λ s' hs'=>?_);have:=ih (i+1) s' (by omega) (by omega) hs';rwa [show (((i+1:Nat)):Int)=(i:Int)+1 by omega]at this
end
def cst (x:BitVec 32):BitVec 32:=if x.getLsbD 0 then (x >>> 1) ^^^ 2197175160#32 else x >>> 1
def Tu:Nat→BitVec 32→BitVec 32
 |0,x=>x
 |n+1,x=>Tu n (cst x)
def cby (x:BitVec 32) (b:Int):BitVec 32:=Tu 8 (x ^^^ ofInt 32 b)
def Nza (l:List Int):BitVec 32 := ~~~ (l.foldl cby 4294967295#32)
def crc (l:List Int):Int:=((Nza l).toNat:Int)
def O0a (v:BitVec 32):v.getLsbD 0=decide (v.toNat % 2=1):=by
 rw[BitVec.getLsbD,Nat.testBit_zero]
def Wu (v:BitVec 32):ofInt (IntKind.bits .u32) (v.toNat:Int)=v:=by
 show ofInt 32 (v.toNat:Int)=v;rw[BitVec.ofInt_natCast,BitVec.ofNat_toNat,BitVec.setWidth_eq]
def Wv (n:Nat) (h:n<4294967296):(ofInt (IntKind.bits .i64) (n:Int)).toNat=n:=Lr n (by omega)
def Nha (v:BitVec 32):wrap .u32 (v.toNat:Int)=(v.toNat:Int):=Go.IntWalk.u32_in _ ⟨by omega,by have:=v.isLt;omega⟩
def sh1 (v:BitVec 32):Int.fdiv (v.toNat:Int) 2=((v >>> 1).toNat:Int):=by
 rw[Poa _ (by omega),BitVec.toNat_ushiftRight,Nat.shiftRight_eq_div_pow];omega
def Nia (v:BitVec 32):((wrap .u32 ((ofInt (IntKind.bits .u32) (v.toNat:Int) &&& ofInt (IntKind.bits .u32) 1).toNat))==1)=v.getLsbD 0:=by
 show (wrap .u32 (((ofInt 32 (v.toNat:Int) &&& ofInt 32 1).toNat:Nat):Int)==1)=_;rw[show ofInt 32 (v.toNat:Int)=v from Wu v,Nha,O0a,Q4a,show (ofInt 32 1).toNat=1 from by decide,Nat.and_one_is_mod,Qca,beq_iff_eq,decide_eq_true_iff];omega
def Nja (v:BitVec 32):((wrap .i64 ((ofInt (IntKind.bits .i64) (v.toNat:Int) &&& ofInt (IntKind.bits .i64) 1).toNat))==1)=v.getLsbD 0:=by
 have:=v.isLt;rw[O0a,Q4a,Wv _ v.isLt,show (ofInt (IntKind.bits .i64) 1).toNat=1 from by decide,Nat.and_one_is_mod,w64 (by omega) (by omega),Qca,beq_iff_eq,decide_eq_true_iff];omega
def O1a (v w:BitVec 32) (x:Int) (h:ofInt 32 x=w):wrap .u32 ((ofInt (IntKind.bits .u32) (v.toNat:Int) ^^^ ofInt (IntKind.bits .u32) x).toNat)=((v ^^^ w).toNat:Int):=by
 show wrap .u32 (((ofInt 32 (v.toNat:Int) ^^^ ofInt 32 x).toNat:Nat):Int)=_;rw[show ofInt 32 (v.toNat:Int)=v from Wu v,h];exact Nha _
def Nka (v w:BitVec 32):wrap .i64 ((ofInt (IntKind.bits .i64) (v.toNat:Int) ^^^ ofInt (IntKind.bits .i64) (w.toNat:Int)).toNat)=((v ^^^ w).toNat:Int):=by
 have:=(v ^^^ w).isLt;rw[BitVec.toNat_xor,Wv _ v.isLt,Wv _ w.isLt,← BitVec.toNat_xor];exact w64 (by omega) (by omega)
def O2a (K:IntKind) (h:1≤IntKind.bits K):(2:Int) ^ (min (toNat 1) (IntKind.bits K))=2:=by
 rw[show toNat 1=1 from rfl,Zf h];rfl
def Bba (l:List Int) (x8 x9:Int):∀ (n:Nat) (v:BitVec 32) (i:Int),0≤i→8-i=n→Tot (λ k=>Dz k (v.toNat:Int) l x8 x9 i) (λ r=>r=(((Tu n v).toNat:Int),l,x8,x9)):=by
 intro n
 induction n with
 |zero=>
  intro v i h0 hn;refine Tot.succ ?_;simp only[Dz];exact Oja (by omega) (Oea rfl)
 |succ n ih=>
  intro v i h0 hn;refine Tot.succ ?_;simp only[Dz];refine Oia (by omega) ?_;rw[w64 (n:=i+1) (by omega) (by omega),Nia,O2a _ (by decide),sh1,O1a _ 2197175160#32 _ (by decide)];have e:Tu (n+1) v=Tu n (cst v):=rfl;rw[e];refine Oka (λ h=>?_) (λ h=>?_)
  ·have:=ih (v >>> 1 ^^^ 2197175160#32) (i+1) (by omega) (by omega);rwa [show v >>> 1 ^^^ 2197175160#32=cst v by unfold cst;rw[if_pos h]]at this ⊢
  ·have:=ih (v >>> 1) (i+1) (by omega) (by omega);rwa [show v >>> 1=cst v by unfold cst;rw[if_neg (by rw[h];simp)]]at this ⊢
def Ww (l:List Int) (x4:Int):∀ (n:Nat) (v:BitVec 32) (i:Int),0≤i→8-i=n→Tot (λ k=>Dy k l (v.toNat:Int) x4 i) (λ r=>r=(l,((Tu n v).toNat:Int),x4)):=by
 intro n
 induction n with
 |zero=>
  intro v i h0 hn;refine Tot.succ ?_;simp only[Dy];exact Oja (by omega) (Oea rfl)
 |succ n ih=>
  intro v i h0 hn;refine Tot.succ ?_;simp only[Dy]
  have hp:(2197175160:Int)=((2197175160#32:BitVec 32).toNat:Int):=by decide
  refine Oia (by omega) ?_;rw[w64 (n:=i+1) (by omega) (by omega),Nja,O2a _ (by decide),sh1,hp,Nka];have e:Tu (n+1) v=Tu n (cst v):=rfl;rw[e];refine Oka (λ h=>?_) (λ h=>?_)
  ·have:=ih (v >>> 1 ^^^ 2197175160#32) (i+1) (by omega) (by omega);rwa [show v >>> 1 ^^^ 2197175160#32=cst v by unfold cst;rw[if_pos h]]at this ⊢
  ·have:=ih (v >>> 1) (i+1) (by omega) (by omega);rwa [show v >>> 1=cst v by unfold cst;rw[if_neg (by rw[h];simp)]]at this ⊢
def Mda {b:Int} (h:0≤b∧b≤255):b=((ofInt 32 b).toNat:Int):=by
 rw[BitVec.toNat_ofInt];omega
def Kma (l:List Int) (hb:Aw l) (hl:l.length≤1000000000000):Tot (λ k=>Fv k l) (λ r=>r=crc l):=by
 unfold Fv;refine Ofa (Q:=λ r=>r=(((l.foldl cby 4294967295#32).toNat:Nat):Int)) ?_ ?_
 ·have:=Ona (L:=λ k i s=>Ea k s l (l.length:Int) i) (Q:=λ r=>r=(((l.foldl cby 4294967295#32).toNat:Nat):Int)) l.length (λ i s=>∃ v:BitVec 32,s=(v.toNat:Int)∧(l.drop i).foldl cby v=l.foldl cby 4294967295#32) ?_ ?_ 0 4294967295 (Wh _) ⟨4294967295#32,by decide,by rw[Wj]⟩
  ·exact this
  ·rintro s ⟨v,rfl,hv⟩;simp only[Ea];rw[List.drop_length]at hv;exact Oja (by omega) (Oea (by rw[← hv];rfl))
  ·rintro i s hi ⟨v,rfl,hv⟩ next;simp only[Ea];have hx:=hb _ (Du (d:=0) hi);refine Oia (by omega) (Oia (by omega) (Oia (by omega) ?_));rw[Vq,Go.IntWalk.u32_in _ ⟨hx.1,by omega⟩,O1a v _ _ rfl];refine Ooa (Bba l _ _ 8 _ 0 (by decide) (by decide)) ?_;simp only;rw[w64 (n:=(i:Int)+1) (by omega) (by omega)];refine next _ ⟨_,rfl,?_⟩;rw[Fs (d:=0) hi,Q7a]at hv;exact hv
 ·rintro r rfl;refine Oea ?_;unfold crc Nza
  have hm:ofInt 32 (if IntKind.signed .u32 then -1 else IntKind.max .u32)=BitVec.allOnes 32:=by decide
  have e:BitVec.allOnes 32 ^^^ l.foldl cby 4294967295#32 = ~~~ (l.foldl cby 4294967295#32):=by rw[BitVec.xor_comm];exact BitVec.xor_allOnes
  show wrap .i64 (wrap .u32 (((ofInt 32 (if IntKind.signed .u32 then -1 else IntKind.max .u32) ^^^ ofInt 32 ((l.foldl cby 4294967295#32).toNat:Int)).toNat:Nat):Int))=_;rw[show ofInt 32 ((l.foldl cby 4294967295#32).toNat:Int)=l.foldl cby 4294967295#32 from Wu _,hm,e];have:=(~~~ (l.foldl cby 4294967295#32)).isLt;rw[Nha,w64 (by omega) (by omega)]
def Kna (l:List Int) (hb:Aw l) (hl:l.length≤1000000000000):Tot (λ k=>Fu k l) (λ r=>r=crc l):=by
 unfold Fu;refine Ofa (Q:=λ r=>r=(((l.foldl cby 4294967295#32).toNat:Nat):Int)) ?_ ?_
 ·have:=Ona (L:=λ k i s=>E8 k l s i) (Q:=λ r=>r=(((l.foldl cby 4294967295#32).toNat:Nat):Int)) l.length (λ i s=>∃ v:BitVec 32,s=(v.toNat:Int)∧(l.drop i).foldl cby v=l.foldl cby 4294967295#32) ?_ ?_ 0 4294967295 (Wh _) ⟨4294967295#32,by decide,by rw[Wj]⟩
  ·exact this
  ·rintro s ⟨v,rfl,hv⟩;simp only[E8];rw[List.drop_length]at hv;exact Oja (by omega) (Oea (by rw[← hv];rfl))
  ·rintro i s hi ⟨v,rfl,hv⟩ next;simp only[E8];have hx:=hb _ (Du (d:=0) hi);refine Oia (by omega) (Oia (by omega) (Oia (by omega) ?_));rw[Vq,w64 (n:=l.getD i 0) (by omega) (by omega),Mda hx,Nka];refine Ooa (Ww l _ 8 _ 0 (by decide) (by decide)) ?_;simp only;rw[w64 (n:=(i:Int)+1) (by omega) (by omega)];refine next _ ⟨_,rfl,?_⟩;rw[Fs (d:=0) hi,Q7a]at hv;exact hv
 ·rintro r rfl;refine Oea ?_
  have hp:(4294967295:Int)=((BitVec.allOnes 32:BitVec 32).toNat:Int):=by decide
  rw[hp,Nka,BitVec.xor_allOnes];rfl

def Mea:Fil:=(((0:Int),((0:Int),(0:Int))),(false,([]:List Int)))
def Ee (f:Fil):Bool:=Ja f.1&&(decide ((f.2.2.length:Int)≤200)&&(!f.2.1||((f.2.2.length:Int)==0)))
def A4a (f:Fil):D6 f=some (Ee f):=by
 unfold D6 Ee;rw[Ela];simp only[Vy]
 cases Ja f.1<;>cases decide ((length f.2.2:Int)≤200)<;>cases f.2.1<;>rfl
def Rq (f:Fil):C5 f=some (Ee f):=by
 unfold C5 Ee;rw[Ema];simp only[Vy]
 cases Ja f.1<;>cases decide ((length f.2.2:Int)≤200)<;>cases f.2.1<;>rfl
def Ml {f:Fil}:Ee f=true↔Ja f.1=true∧f.2.2.length≤200∧(f.2.1=true→f.2.2=[]):=by
 unfold Ee;rw[Va,Va,decide_eq_true_iff]
 have:(!f.2.1||((f.2.2.length:Int)==0))=true↔(f.2.1=true→f.2.2=[]):=by
  cases f.2.1 with
  |false=>simp
  |true=>simp
 rw[this];constructor
 ·rintro⟨h1,h2,h3⟩;exact⟨h1,by omega,h3⟩
 ·rintro⟨h1,h2,h3⟩;exact⟨h1,by omega,h3⟩
def F1a (a b:Fil):Ey a b=some (sle b.1 a.1):=by unfold Ey;rw[Hda];rfl
def F2a (a b:Fil):Ev a b=some (sle b.1 a.1):=by unfold Ev;rw[Hca];rfl
def hdF (s:Stp) (d:Bool):List Int:=Fna s++U5 (Cu (Eqa d))
def Tv (f:Fil):List Int:=hdF f.1 f.2.1++txt (Ft f.2.2)
def c4 (c:Int):List Int:=[wrap .u8 (Int.fdiv c (2 ^ (min (toNat 24) (IntKind.bits .i64)))),wrap .u8 (Int.fdiv c (2 ^ (min (toNat 16) (IntKind.bits .i64)))),wrap .u8 (Int.fdiv c (2 ^ (min (toNat 8) (IntKind.bits .i64)))),wrap .u8 c]
def K6 (f:Fil):List Int:=bif Ee f then Tv f++c4 (crc (Tv f)) else []
def I3 {a b:List Int} (ha:Aw a) (hb:Aw b):Aw (a++b):=λ x hx=>(Vm.1 hx).elim (ha x) (hb x)
def Jb (n:Int):Aw (U5 (Cu n)):=B6a _ (Oo n)
def F3a (s:Stp) (d:Bool):Aw (hdF s d):=I3 (I3 (Jb _) (I3 (Jb _) (Jb _))) (Jb _)
def Kq (f:Fil):Aw (Tv f):=I3 (F3a _ _) (I3 (Jb _) (Q0 _))
def Hma (c:Int):Aw (c4 c):=by
 intro x hx;simp only[c4,Vk,List.not_mem_nil,or_false]at hx
 rcases hx with rfl|rfl|rfl|rfl<;>exact Eha _
def Q7 (f:Fil):Aw (K6 f):=by
 unfold K6
 cases Ee f with
 |false=>intro x hx;simp at hx
 |true=>exact I3 (Kq f) (Hma _)
def Wx (s:Stp) (d:Bool):(hdF s d).length≤20:=by
 have h1:=Z8 s;have h2:=(Gb (Cu (Eqa d))).1;unfold hdF;rw[Vh];omega
def Ov (f:Fil):(Tv f).length≤25+f.2.2.length:=by
 have h1:=Wx f.1 f.2.1;have h2:=Kca (Ft f.2.2);have h3:(Ft f.2.2).size=f.2.2.length:=H7 _;unfold Tv;rw[Vh];omega
def A5a (f:Fil):(K6 f).length≤229:=by
 unfold K6;cases h:Ee f
 ·simp
 have h1:=Ov f;have h2:=(Ml.1 h).2.1;rw[cond_true,Vh];simp only[c4,Vg,Vs];omega
def Io (f:Fil):Tot (λ k=>Bv k f) (λ r=>r=K6 f):=by
 unfold Bv K6;refine Ooa (Opa (Q:=λ b=>b=Ee f) (A4a f) rfl) ?_;cases h:Ee f
 ·exact Oha rfl (Oea rfl)
 have h2:=(Ml.1 h).2.1;have h3:(Ft f.2.2).size=f.2.2.length:=H7 _;have h4:=Wx f.1 f.2.1;have h5:=Ov f;refine Oga rfl (Ooa (B7a [] f.1 f.2.1 (by simp)) ?_);rw[Wf];refine Ooa (Hea _ _ (by unfold hdF at h4;omega) (by omega)) ?_;have e:Fna f.1++U5 (Cu (Eqa f.2.1))++txt (Ft f.2.2)=Tv f:=rfl;rw[e];refine Ooa (Kma _ (Kq f) (by omega)) ?_;exact Oma (by simp only[Vg,Vs];omega) (Oea rfl)
def Ow (f:Fil):Tot (λ k=>Bu k f) (λ r=>r=K6 f):=by
 unfold Bu K6;refine Ooa (Opa (Q:=λ b=>b=Ee f) (Rq f) rfl) ?_;cases h:Ee f
 ·exact Oha rfl (Oea rfl)
 have h2:=(Ml.1 h).2.1;have h3:(Ft f.2.2).size=f.2.2.length:=H7 _;have h4:=Wx f.1 f.2.1;have h5:=Ov f;have h6:=Z8 f.1;refine Oga rfl (Ooa (B8a [] f.1 (by simp)) ?_);rw[Wf];refine Ooa (Opa (Q:=λ r=>r=Eqa f.2.1) (Hga _) rfl) ?_;refine Ooa (Ot _ _ (by omega)) ?_;refine Ooa (Hfa _ _ (by unfold hdF at h4;omega) (by omega)) ?_;have e:Fna f.1++U5 (Cu (Eqa f.2.1))++txt (Ft f.2.2)=Tv f:=rfl;rw[e];refine Ooa (Kna _ (Kq f) (by omega)) ?_;exact Oma (by simp only[Vg,Vs];omega) (Oea rfl)
def N0 (b:List Int):Option Fil:=(Jv b 0).bind λ a=>(Bma b a.2).bind λ t=>bif Ee (a.1.1,a.1.2,bytesOf t.1)&&decide (K6 (a.1.1,a.1.2,bytesOf t.1)=b) then some (a.1.1,a.1.2,bytesOf t.1) else none
def N1 (b:List Int):Fil×Bool:=match N0 b with
 |some f=>(f,true)
 |none=>(Mea,false)
def Koa {b:List Int} {f:Fil} (h:N0 b=some f):Ee f=true∧Aw f.2.2∧K6 f=b:=by
 unfold N0 at h;simp only[P7a]at h;obtain⟨a,_,t,_,h⟩:=h;cases hc:(Ee (a.1.1,a.1.2,bytesOf t.1)&&decide (K6 (a.1.1,a.1.2,bytesOf t.1)=b))
 ·rw[hc]at h;cases h
 rw[hc]at h;simp only[cond_true,Vc]at h;subst h;rw[Va,decide_eq_true_iff]at hc;exact⟨hc.1,Q0 _,hc.2⟩
def Hna {l:List Int} {q:Nat} {s:Stp} {d:Bool} (hb:Aw l) (h:Jv l 0=some ((s,d),q)):l=hdF s d++l.drop q∧q≤l.length:=by
 unfold Jv at h;simp only[P7a]at h;obtain⟨⟨t,p2⟩,h2,⟨c,p3⟩,h3,⟨n,p4⟩,h4,⟨e,p5⟩,h5,h⟩:=h;obtain⟨b1,b2,b3,b4⟩:=Kk hb h2;obtain⟨c1,c2,c3,c4⟩:=Kk hb h3;obtain⟨d1,d2,d3,d4⟩:=Kk hb h4;obtain⟨e1,e2,e3,e4⟩:=Kk hb h5;cases hd:decide (1<e)
 case true=>simp only[hd,cond_true]at h;cases h
 simp only[hd,cond_false,Vc,Vu]at h;obtain⟨⟨⟨rfl,rfl,rfl⟩,rfl⟩,rfl⟩:=h
 have he:e≤1:=by
  have:=of_decide_eq_false hd;omega
 have hbit:Cu (Eqa ((e:Int)==1))=e:=by
  have:e=0∨e=1:=by omega
  rcases this with rfl|rfl<;>decide
 have k:∀ n:Nat,n≤1000000000→Cu (n:Int)=n:=λ n hn=>by unfold Cu;omega
 simp only at b1 b2 c1 c2 d1 d2 e1 e2;refine⟨?_,e4⟩;rw[Wj]at b1;unfold hdF Fna;simp only;rw[k t b2,k c c2,k n d2,hbit,Vj,Vj,Vj,← e1,← d1,← c1,← b1]
def Tw {a b:List Int} (ha:Aw a) (hb:Aw b):((Ft a).toList==(Ft b).toList)=decide (a=b):=by
 have:teq (Ft a) (Ft b)=decide (a=b):=by
  rw[Qca,Ij,decide_eq_true_iff];constructor
  ·intro h;have:=congrArg bytesOf h;rwa [Im ha,Im hb]at this
  ·rintro rfl;rfl
 exact this
def Hoa (l:List Int) (hb:Aw l) (hl:l.length≤1000000000000) (p:Int) (hp:p≤1000000000000):
  Tot (λ k=>Ax k (l,p,true)) (λ r=>r=((⟨#[]⟩:ByteArray),l,p,true)):=by
 unfold Ax;refine Ooa (Z7 l hb hl p hp) ?_;exact Oha rfl (Oea rfl)
def Hpa {f:Fil}:(((K6 f).length:Int)==0) = !(Ee f):=by
 unfold K6;cases h:Ee f
 ·rfl
 rw[cond_true,Vh,Q0a,beq_eq_false_iff_ne];simp only[c4,Vg,Vs];omega
def Ox (b:List Int) (hb:Aw b) (hl:b.length≤1000000000000):Tot (λ k=>Ds k b) (λ r=>r=N1 b):=by
 unfold Ds;refine Ofa (Nga b hb hl 0 (Wh _) false) ?_;rintro r (⟨_,⟨s,d⟩,q,h1,h2,rfl⟩|⟨h1,s,d,q,h2,rfl⟩)
 ·refine Ofa (Nfa b hb hl q h2) ?_;rintro r (⟨t,q2,h3,h4,rfl⟩|⟨h3,rfl⟩)
  ·have hsz:=(W7 hb h3).2.1;refine Oma (by dsimp only;omega) (Ooa (Io _) ?_);refine Oga rfl ?_
   have e:N1 b=bif Ee (s,d,bytesOf t)&&decide (K6 (s,d,bytesOf t)=b) then ((s,d,bytesOf t),true) else (Mea,false):=by
    unfold N1 N0;simp only[h1,h3,Vy]
    cases Ee (s,d,bytesOf t)&&decide (K6 (s,d,bytesOf t)=b)<;>rfl
   simp only;rw[e,Hpa];cases hf:Ee (s,d,bytesOf t)
   ·exact Oha rfl (Oea rfl)
   refine Oga rfl ?_;rw[Tw (Q7 _) hb]
   cases decide (K6 (s,d,bytesOf t)=b) with
   |false=>exact Oha rfl (Oea rfl)
   |true=>exact Oga rfl (Oea rfl)
  ·refine Oma (Wh _) (Ooa (Io _) ?_);refine Oha rfl (Oea ?_);unfold N1 N0;simp only[h1,h3,Vy,Zp];rfl
 ·refine Ooa (Hoa b hb hl q (by omega)) ?_;refine Oma (Wh _) (Ooa (Io _) ?_);refine Oha rfl (Oea ?_);unfold N1 N0;simp only[h1.resolve_left (by simp),Zp];rfl
def Wy (b:List Int) (hb:Aw b) (hl:b.length≤1000000000000):Tot (λ k=>Dn k b) (λ r=>r=N1 b):=by
 have none_of:N0 b=none→N1 b=(Mea,false):=λ h=>by unfold N1;rw[h]
 unfold Dn;refine Ofa (Kda b hb hl 0) ?_;rintro r (⟨n1,p1,n2,p2,n3,p3,_,g1,g2,g3,rfl⟩|⟨h,hr⟩)
 ·refine Ooa (Mi b hb hl (p3:Int)) ?_;rw[Ng];have g1':Il b 0=some (n1,p1):=g1
  cases g4:Il b p3 with
  |none=>
   refine Ooa (Rn b hb hl 0) ?_;refine Oga rfl (Oha rfl (Oea (none_of ?_).symm));unfold N0 Jv;simp only[g1',g2,g3,g4,Vy,Zp]
  |some x=>
   obtain⟨n4,p4⟩:=x;simp only
   have es:Jv b 0=bif decide (1<n4) then none else some ((((n1:Int),(n2:Int),(n3:Int)),(n4:Int)==1),p4):=by
    unfold Jv;simp only[g1',g2,g3,g4,Vy]
   refine Ooa (Rn b hb hl (p4:Int)) ?_;rw[Z9];refine Oga rfl (Oga rfl ?_)
   cases g5:Bma b p4 with
   |none=>
    refine Oha rfl (Oea (none_of ?_).symm);unfold N0;rw[es]
    cases decide (1<n4) with
    |true=>rfl
    |false=>simp only[cond_false,Vy,g5,Zp]
   |some y=>
    obtain⟨t,q⟩:=y;refine Oga rfl (Ola (λ h=>Oea (none_of ?_).symm) (λ h=>?_))
    ·unfold N0;rw[es,decide_eq_true (by omega)];rfl
    ·rw[decide_eq_false (by omega),cond_false]at es;have hq:=W7 hb g5;simp only;rw[w64 (n:=(q:Int)+4) (by omega) (by omega)]
     have ef:N0 b=bif Ee (((n1:Int),(n2:Int),(n3:Int)),(n4:Int)==1,bytesOf t)&&decide (K6 (((n1:Int),(n2:Int),(n3:Int)),(n4:Int)==1,bytesOf t)=b) then some (((n1:Int),(n2:Int),(n3:Int)),(n4:Int)==1,bytesOf t) else none:=by
      unfold N0;simp only[es,g5,Vy]
     refine Oka (λ h4=>Oea (none_of ?_).symm) (λ h4=>?_)
     ·rw[ef];cases hc:(Ee (((n1:Int),(n2:Int),(n3:Int)),(n4:Int)==1,bytesOf t)&&decide (K6 (((n1:Int),(n2:Int),(n3:Int)),(n4:Int)==1,bytesOf t)=b))
      ·rfl
      exfalso;rw[Va,decide_eq_true_iff]at hc;have a1:=(Hna hb es).1;rw[hq.1]at a1;have a2:=hc.2;unfold K6 at a2;rw[hc.1,cond_true]at a2;unfold Tv at a2;simp only at a2;rw[Rm,Vj]at a2;rw[← a2]at a1;have a3:=Q1a (Q1a a1);have a4:=congrArg length a3;rw[a2,Vx]at a4;simp only[c4,Vg,Vs]at a4
      have:(q:Int)+4=(b.length:Int):=by omega
      simp[this]at h4
     ·refine Oma (by simp only[Vs];omega) ?_;rw[Wf];refine Ooa (Opa (Q:=λ r=>r=Ee (((n1:Int),(n2:Int),(n3:Int)),(n4:Int)==1,bytesOf t)) (Rq _) rfl) ?_;unfold N1;rw[ef];cases hf:Ee (((n1:Int),(n2:Int),(n3:Int)),(n4:Int)==1,bytesOf t)
      ·exact Oha rfl (Oea rfl)
      refine Oga rfl (Ooa (Ow _) ?_);rw[Tw (Q7 _) hb,Ym]
      cases decide (K6 (((n1:Int),(n2:Int),(n3:Int)),(n4:Int)==1,bytesOf t)=b) with
      |false=>exact Oha rfl (Oea rfl)
      |true=>exact Oga rfl (Oea rfl)
 ·obtain⟨r1,r2,r3⟩:=r;simp only at hr;subst hr;refine Ooa (Mi b hb hl _) ?_;refine Ooa (Rn b hb hl _) ?_;refine Oha rfl (Oea (none_of ?_).symm);unfold N0;rw[Era (p:=0) (h.resolve_right (by omega))];rfl

def gt (l:List Nmd) (s:ByteArray):Option (List Int):=match fnd l s with
 |some i=>some (l.getD i Dv).2
 |none=>none
def Kpa (y:Nmd) (l:List Nmd) (s:ByteArray):gt (y::l) s=if y.1=s then some y.2 else gt l s:=by
 unfold gt;rw[Zz]
 by_cases h:y.1=s
 ·rw[if_pos (Ij.2 h),if_pos h];rfl
 ·rw[if_neg (λ c=>h (Ij.1 c)),if_neg h]
  cases fnd l s<;>rfl
def Ipa {l:List Nmd} {s:ByteArray} {b:List Int} (h:gt l s=some b):(s,b)∈l:=by
 induction l with
 |nil=>cases h
 |cons y l ih=>
  rw[Kpa]at h
  by_cases e:y.1=s
  ·rw[if_pos e]at h;cases h;subst e;exact P6a
  ·rw[if_neg e]at h;exact Ve _ (ih h)
def Iqa (l:List Nmd) (s:ByteArray):rdN l s=match gt l s with|some b=>(b,true)|none=>([],false):=by
 unfold rdN gt
 cases fnd l s<;>rfl
def Jq {s:ByteArray} (h:Db s=true):Hq s:=by
 have:=(Kl h).2;unfold Hq;omega
def A6a {d:Dsk}:Au d=true↔Dg d.1=true∧Dg d.2=true:=by
 unfold Au;rw[Va]
def Kqa {d:Dsk} (h:Au d=true):G4 d.1:=(Bn.1 (A6a.1 h).1).1
def Kra {d:Dsk} (h:Au d=true):G4 d.2:=(Bn.1 (A6a.1 h).2).1
def LB (l:List Nmd):Prop:=∀ x∈l,Aw x.2
def LB.cut {l:List Nmd} (h:LB l) (s:ByteArray):LB (cut l s):=λ x hx=>h x (Ko.subset hx)
def LB.ins {l:List Nmd} (h:LB l) {x:Nmd} (hx:Aw x.2):LB (ins l x):=λ y hy=>by
 rcases Wt.1 hy with rfl|hy
 ·exact hx
 ·exact h y hy
def LB.gt {l:List Nmd} (h:LB l) {s:ByteArray} {b:List Int} (hg:gt l s=some b):Aw b:=h _ (Ipa hg)
def F4a:Aw []:=λ x hx=>by cases hx
def wr (l:List Nmd) (s:ByteArray) (b:List Int):List Nmd:=ins (cut l s) (s,b)
def sy (d:Dsk) (s:ByteArray):List Nmd:=match gt d.1 s with
 |some b=>wr d.2 s b
 |none=>cut d.2 s
def wrD (d:Dsk) (s:ByteArray) (b:List Int):Dsk×Bool:=bif decide (b.length≤400)&&decide ((wr d.1 s b).length≤60) then ((wr d.1 s b,d.2),true) else (d,false)
def syD (d:Dsk) (s:ByteArray):Dsk×Bool:=bif decide ((sy d s).length≤60) then ((d.1,sy d s),true) else (d,false)
section
variable {d:Dsk} {s:ByteArray} {b:List Int}
def F5a (hd:Au d=true):wrI d s b=wr d.1 s b:=by
 unfold wrI wr;rw[Mj (Kqa hd)]
def F6a (hd:Au d=true):syI d s=sy d s:=by
 unfold syI sy gt wr;rw[Mj (Kra hd)]
 cases fnd d.1 s<;>rfl
def Bca (hd:Au d=true) (hs:Db s=true) (hb:b.length≤1000000000000):Tot (λ k=>Bl k d s b) (λ r=>r=wrD d s b):=by
 refine(F0a d s b (Q4 hd) (Jq hs) hb).mono ?_;rintro r rfl;rw[hd,hs,F5a hd];rfl
def Bda (hd:Au d=true) (hs:Db s=true) (hb:b.length≤1000000000000):Tot (λ k=>Bj k d s b) (λ r=>r=wrD d s b):=by
 refine(Eya d s b (Q4 hd) (Jq hs) hb).mono ?_;rintro r rfl;obtain⟨h1,h2⟩:=A3a (b:=b) hd hs;rw[hd,hs,h1,h2,F5a hd];rfl
def F7a (hd:Au d=true) (hs:Db s=true):Tot (λ k=>Ba k d s) (λ r=>r=syD d s):=by
 refine(Hla d s (Q4 hd) (Jq hs)).mono ?_;rintro r rfl;rw[hd,hs,F6a hd];rfl
def F8a (hd:Au d=true) (hs:Db s=true):Tot (λ k=>B9 k d s) (λ r=>r=syD d s):=by
 refine(Hka d s (Q4 hd) (Jq hs)).mono ?_;rintro r rfl;rw[hd,hs,Kla hd,Eza hd hs,F6a hd];rfl
def Nla (hd:Au d=true) (hs:Db s=true) (hb:b.length≤400) (hl:(wr d.1 s b).length≤60):Au (wr d.1 s b,d.2)=true:=by
 have:=(A3a (b:=b) hd hs).2;rw[F5a hd,decide_eq_true hb,decide_eq_true hl]at this;exact this
def Nma (hd:Au d=true) (hs:Db s=true) (hl:(sy d s).length≤60):Au (d.1,sy d s)=true:=by
 have:=Eza hd hs;rw[F6a hd,decide_eq_true hl]at this;exact this
def F9a (hd:Au d=true) (hs:Db s=true):Au (wrD d s b).1=true:=by
 unfold wrD;cases hc:decide (b.length≤400)&&decide ((wr d.1 s b).length≤60)
 ·exact hd
 rw[Va,decide_eq_true_iff,decide_eq_true_iff]at hc;exact Nla hd hs hc.1 hc.2
def Mfa (hd:Au d=true) (hs:Db s=true):Au (syD d s).1=true:=by
 unfold syD
 cases hc:decide ((sy d s).length≤60) with
 |false=>exact hd
 |true=>exact Nma hd hs (of_decide_eq_true hc)
end
def lkD (d:Dsk) (s:ByteArray):Fil×Int:=match gt d.1 s with
 |none=>(Mea,1)
 |some b=>match N0 b with
  |some f=>(f,0)
  |none=>(Mea,2)
def Ira {l:List Nmd} {s:ByteArray} {b:List Int} (h:Tk l) (hg:gt l s=some b):b.length≤1000000000000:=h.2 _ (Ipa hg)
def Hqa {d:Dsk} (hf:Tk d.1) (hb:LB d.1) (s:ByteArray):Tot (λ k=>Fn k d s) (λ r=>r=lkD d s):=by
 unfold Fn lkD;refine Ooa (Zy d s hf) ?_;rw[Iqa]
 cases hg:gt d.1 s with
 |none=>exact Oha rfl (Oea rfl)
 |some b=>
  refine Oga rfl (Ooa (Wy b (hb.gt hg) (Ira hf hg)) ?_);unfold N1;dsimp only
  cases N0 b with
  |none=>exact Oha rfl (Oea rfl)
  |some f=>exact Oga rfl (Oea rfl)
def old (d:Dsk) (s:ByteArray):Option Fil:=(gt d.1 s).bind N0
def kp1 (d:Dsk) (s:ByteArray) (f:Fil):Option (Dsk×Int):=
 let w:=bif (wrD d s (K6 f)).2 then some ((wrD d s (K6 f)).1,(0:Int)) else none
 match old d s with
 |some o=>bif sle o.1 f.1 then w else some (d,1)
 |none=>w
def kp2 (d:Dsk) (s:ByteArray) (sure:Bool) (x:Dsk×Int):Dsk×Int:=bif sure then (bif (syD x.1 s).2 then ((syD x.1 s).1,x.2) else (d,3)) else x
def N2 (d:Dsk) (s:ByteArray) (f:Fil) (sure:Bool):Dsk×Int:=match kp1 d s f with
 |some x=>kp2 d s sure x
 |none=>(d,3)
def keep (d:Dsk) (s:ByteArray) (f:Fil) (sure:Bool):Dsk×Int:=bif Au d&&(Db s&&Ee f) then N2 d s f sure else (d,2)
def Hra:N0 []=none:=by
 cases h:N0 [] with
 |none=>rfl
 |some f=>
  obtain⟨h1,_,h3⟩:=Koa h;unfold K6 at h3;rw[h1]at h3;simp[c4]at h3
def Mga {d:Dsk} {s:ByteArray} {f:Fil} (hd:Au d=true) (hs:Db s=true) {x:Dsk×Int} (h:kp1 d s f=some x):Au x.1=true:=by
 have hw:∀ x,(bif (wrD d s (K6 f)).2 then some ((wrD d s (K6 f)).1,(0:Int)) else none)=some x→Au x.1=true:=by
  intro x h
  cases hc:(wrD d s (K6 f)).2 with
  |false=>rw[hc]at h;cases h
  |true=>rw[hc]at h;cases h;exact F9a hd hs
 unfold kp1 at h;simp only at h;split at h
 ·rename_i o _
  cases hc:sle o.1 f.1 with
  |false=>rw[hc]at h;cases h;exact hd
  |true=>rw[hc]at h;exact hw _ h
 ·exact hw _ h
def Mha {d:Dsk} {s:ByteArray} (hd:Au d=true) (hs:Db s=true) {x:Dsk} {c:Int} (hx:Au x=true) (sure:Bool):
  Tot (λ k=>cond sure ((Ba k x s).bind λ r=>cond (!r.2) ((A6 k d).bind λ q=>some (q,3)) (some (r.1,c))) (some (x,c))) (λ r=>r=kp2 d s sure (x,c)):=by
 unfold kp2;cases sure
 ·exact Oea rfl
 refine Oha rfl (Ooa (F7a hx hs) ?_);cases h:(syD x s).2
 case true=>exact Oga rfl (Oea rfl)
 refine Oha rfl (Ooa (F9 d (Q4 hd).1.1) ?_);exact Oea rfl
def Hsa (d:Dsk) (s:ByteArray) (f:Fil) (sure:Bool) (hd:DIn d) (hb:LB d.1) (hs:Hq s):Tot (λ k=>Ez k d s f sure) (λ r=>r=keep d s f sure):=by
 have bad:Tot (λ k=>(A6 k d).bind λ r2=>some (r2,(2:Int))) (λ r=>r=(d,2)):=by
  refine Ooa (F9 d hd.1.1) ?_;exact Oea rfl
 unfold Ez keep;refine Ooa (Ro d hd.1.1 hd.1.2) ?_;cases h1:Au d
 ·exact Oha rfl bad
 refine Oga rfl (Ooa (Nf s hs) ?_);cases h2:Db s
 ·exact Oha rfl bad
 refine Oga rfl (Ooa (Opa (Q:=λ b=>b=Ee f) (A4a f) rfl) ?_);cases h3:Ee f
 ·exact Oha rfl bad
 refine Oga rfl (Ooa (F9 d hd.1.1) ?_);refine Ooa (Hia d s hd.1.1.1) ?_;have hlen:=A5a f
 have w:∀ {o:Option Fil},(kp1 d s f=bif (wrD d s (K6 f)).2 then some ((wrD d s (K6 f)).1,(0:Int)) else none)→Tot (λ k=>(Bv k f).bind λ r13=>(Bl k d s r13).bind λ r14=>cond (!r14.2) ((A6 k d).bind λ r15=>some (r15,(3:Int))) (cond sure ((Ba k r14.1 s).bind λ r16=>cond (!r16.2) ((A6 k d).bind λ r17=>some (r17,3)) (some (r16.1,0))) (some (r14.1,0)))) (λ r=>r=N2 d s f sure):=by
  intro _ e;refine Ooa (Io f) ?_;refine Ooa (Bca h1 h2 (by omega)) ?_;unfold N2;rw[e]
  cases h4:(wrD d s (K6 f)).2 with
  |false=>
   refine Oha rfl (Ooa (F9 d hd.1.1) ?_);exact Oea rfl
  |true=>exact Oga rfl (Mha h1 h2 (F9a h1 h2) sure)
 rw[Iqa];have eo:old d s=(gt d.1 s).bind N0:=rfl
 cases hg:gt d.1 s with
 |none=>
  rw[hg]at eo;refine Ooa (Ox [] F4a (by simp)) ?_;unfold N1;rw[Hra];refine Oga rfl (w (o:=none) ?_);unfold kp1;rw[eo];rfl
 |some b=>
  rw[hg]at eo;have eo:old d s=N0 b:=eo;refine Ooa (Ox b (hb.gt hg) (Ira hd.1.1.1 hg)) ?_;unfold N1
  cases ho:N0 b with
  |none=>
   refine Oga rfl (w (o:=none) ?_);unfold kp1;rw[eo,ho]
  |some o=>
   rw[ho]at eo;refine Oha rfl (Ooa (Opa (Q:=λ b=>b=sle o.1 f.1) (F1a f o) rfl) ?_)
   cases hl:sle o.1 f.1 with
   |true=>
    refine Oga rfl (w (o:=none) ?_);unfold kp1;simp only[eo,hl,cond_true]
   |false=>
    have e1:N2 d s f sure=kp2 d s sure (d,1):=by
     unfold N2 kp1;simp only[eo,hl,cond_false]
    refine Oha rfl ?_;show Tot _ (λ r=>r=N2 d s f sure);rw[e1];exact Mha h1 h2 h1 sure
def Mia {d:Dsk} {s:ByteArray} (hd:Au d=true) (hs:Db s=true) {x:Dsk} {c:Int} (hx:Au x=true):
  Tot (λ k=>(B9 k x s).bind λ r=>cond (!r.2) ((A9 k d).bind λ q=>some (q,3)) (some (r.1,c))) (λ r=>r=kp2 d s true (x,c)):=by
 unfold kp2;refine Ooa (F8a hx hs) ?_;cases h:(syD x s).2
 case true=>exact Oga rfl (Oea rfl)
 refine Oha rfl (Ooa (H5 d (Q4 hd).1.1) ?_);exact Oea rfl
def Hta (d:Dsk) (s:ByteArray) (f:Fil) (sure:Bool) (hd:DIn d) (hb:LB d.1) (hs:Hq s):Tot (λ k=>Fh k d s f sure) (λ r=>r=keep d s f sure):=by
 have bad:Tot (λ k=>(A9 k d).bind λ r2=>some (r2,(2:Int))) (λ r=>r=(d,2)):=by
  refine Ooa (H5 d hd.1.1) ?_;exact Oea rfl
 unfold Fh keep;refine Ooa (Rp d hd.1.1 hd.1.2) ?_;cases h1:Au d
 ·exact Oha rfl bad
 refine Oga rfl (Ooa (Rl s hs) ?_);cases h2:Db s
 ·exact Oha rfl bad
 refine Oga rfl (Ooa (Opa (Q:=λ b=>b=Ee f) (Rq f) rfl) ?_);cases h3:Ee f
 ·exact Oha rfl bad
 refine Oga rfl (Ooa (Hqa hd.1.1.1 hb s) ?_);have hlen:=A5a f
 have w:(kp1 d s f=bif (wrD d s (K6 f)).2 then some ((wrD d s (K6 f)).1,(0:Int)) else none)→Tot (λ k=>(Bu k f).bind λ r12=>(Bj k d s r12).bind λ r13=>cond r13.2 (cond sure ((B9 k r13.1 s).bind λ r14=>cond (!r14.2) ((A9 k d).bind λ r15=>some (r15,(3:Int))) (some (r14.1,0))) (cond (!r13.2) ((A9 k d).bind λ r16=>some (r16,3)) (some (r13.1,0)))) (cond (!r13.2) ((A9 k d).bind λ r17=>some (r17,3)) (some (r13.1,0)))) (λ r=>r=N2 d s f sure):=by
  intro e;refine Ooa (Ow f) ?_;refine Ooa (Bda h1 h2 (by omega)) ?_;unfold N2;rw[e]
  cases h4:(wrD d s (K6 f)).2 with
  |false=>
   refine Oga rfl (Oha rfl (Ooa (H5 d hd.1.1) ?_));exact Oea rfl
  |true=>
   refine Oha rfl ?_
   cases sure with
   |true=>exact Oha rfl (Mia h1 h2 (F9a h1 h2))
   |false=>exact Oga rfl (Oga rfl (Oea rfl))
 have eo:old d s=(gt d.1 s).bind N0:=rfl;unfold lkD
 cases hg:gt d.1 s with
 |none=>
  rw[hg]at eo;refine Oga rfl (w ?_);unfold kp1;rw[eo];rfl
 |some b=>
  rw[hg]at eo;have eo:old d s=N0 b:=eo;simp only
  cases ho:N0 b with
  |none=>
   refine Oga rfl (w ?_);unfold kp1;rw[eo,ho]
  |some o=>
   rw[ho]at eo;refine Oha rfl (Ooa (Opa (Q:=λ b=>b=sle o.1 f.1) (F2a f o) rfl) ?_)
   cases hl:sle o.1 f.1 with
   |true=>
    refine Oga rfl (w ?_);unfold kp1;simp only[eo,hl,cond_true]
   |false=>
    have e1:N2 d s f sure=kp2 d s sure (d,1):=by
     unfold N2 kp1;simp only[eo,hl,cond_false]
    refine Oha rfl ?_;show Tot _ (λ r=>r=N2 d s f sure);rw[e1];refine Ooa (H5 d hd.1.1) ?_
    cases sure with
    |true=>exact Oha rfl (Mia h1 h2 h1)
    |false=>exact Oga rfl (Oea rfl)

section
open Go
end

section
variable {d:Dsk} {s:ByteArray} {f:Fil} {sure:Bool}
end

section
open Go
end

abbrev Dev:=Int×Int×Int
abbrev Rng:=Int×List (List Int)
def L6a (l:List Int) (n:Int):Bool:=l.any (· == n)
def Ksa (l:List Dev) (id:Int):Option Dev:=l.find? (λ d=>d.1==id)
def Mja (d:Dev):Bool:=inR d.1 0 20&&(inR d.2.1 0 20&&inR d.2.2 1 1000)
def Nna:Option Int→List Dev→Bool
 |_,[]=>true
 |none,d::l=>Mja d&&Nna (some d.1) l
 |some q,d::l=>Mja d&&(decide (q<d.1)&&Nna (some d.1) l)
def Mka (l:List Dev):Bool:=Nna none l&&inR (l.length:Int) 1 12
def Noa (l:List Dev) (out:List Int) (id:Int):List Int:=match Ksa l id with
 |some d=>bif L6a out d.2.1 then out else out++[d.2.1]
 |none=>out
def Kta (ids:List Int) (l:List Dev):List Int:=ids.foldl (Noa l) []

def cnt (id n x:Int):Int:=bif x==id then n+1 else n
def O7a (id n:Int) (p:List Int):Int:=p.foldl (cnt id) n
def Tx (r:Rng) (id:Int):Int:=r.2.foldl (O7a id) 0

end Go.Proofs.Ytbbifgjgneefkaa.Vf
