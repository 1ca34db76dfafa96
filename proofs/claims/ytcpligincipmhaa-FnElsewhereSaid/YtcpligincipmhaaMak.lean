import Derived.Test.YtcpligincipmhaaMaj
set_option linter.all false
namespace Go.Proofs.Ytcpligincipmhaa.Vf
open Go
open List (length getD)
open Int (toNat)
open Go.IntKind (wrap)
open BitVec (ofInt)
def Yn:=@Bool.and_false
def Yt:=@List.drop_length
def Za:=@Bool.not_true
def Zo:=@List.takeWhile_cons
def Zs:=@Bool.not_false
def B5b:=@List.filter_cons
def Bcb:=@List.mem_filter
def Bfb:=@Int.fdiv_eq_ediv_of_nonneg
def Bjb:=@Nat.pow_succ
def Brb:=@List.takeWhile_append_dropWhile
def C1b:=@Bool.eq_iff_iff
def C7b:=@Option.bind_none
def C8b:=@List.not_mem_nil
def Cbb:=@List.filter_sublist
def Ccb:=@List.dropWhile_cons
def Ckb:=@IntKind.wrap_u8
def Clb:=@List.findIdx?_eq_some_iff_getElem
def D8b:=@Int.tdiv_eq_ediv_of_nonneg
def Djb:=@Go.IntWalk.u32_in
def Dmb:=@Bool.false_or
def Dpb:=@List.takeWhile_sublist
def Dtb:=@BitVec.xor_comm
def Dub:=@BitVec.eq_of_toNat_eq
def E3b:=@List.map_set

def Y0:Nat→Nat→List Int
 |0,n=>[(n:Int)]
 |f+1,n=>if n≤127 then [(n:Int)] else ((n % 128+128:Nat):Int)::Y0 f (n/128)
def Lh (n:Nat):List Int:=Y0 4 n
def Rs:Nat→Nat→Nat→List Int→Option (Nat×Nat)
 |0,_,_,_=>none
 |_+1,_,_,[]=>none
 |f+1,k,acc,x::l=>if 128≤x then Rs f (k+1) (acc+x.toNat % 128*128 ^ k) l
  else if (x=0∧0<k)∨1000000000<acc+x.toNat % 128*128 ^ k then none else some (acc+x.toNat % 128*128 ^ k,k+1)
def V3 (l:List Int) (p:Nat):Option (Nat×Nat):=match Rs 5 0 0 (l.drop p) with
 |some (n,c)=>some (n,p+c)
 |none=>none
def Mra:∀ (f n:Nat),(Y0 f n).length≤f+1∧0<(Y0 f n).length
 |0,n=>by simp[Y0]
 |f+1,n=>by
  unfold Y0;split
  ·simp
  ·have:=Mra f (n/128);simp only[Vh];omega
def Of:∀ (f k acc:Nat) (l:List Int) (n c:Nat),Av l→Rs f k acc l=some (n,c)→acc<128 ^ k→k<c∧c≤k+f∧c-k≤l.length∧n≤1000000000
 |0,_,_,_,_,_,_,h,_=>by simp[Rs]at h
 |_+1,_,_,[],_,_,_,h,_=>by simp[Rs]at h
 |f+1,k,acc,x::l,n,c,hb,h,ha=>by
  have hx:=hb x (by simp);unfold Rs at h;split at h
  ·have h1:acc+x.toNat % 128*128 ^ k<128 ^ (k+1):=by
    have h2:x.toNat % 128≤127:=by omega
    have h3:=Wj (128 ^ k) h2;rw[Bjb];omega
   have:=Of f (k+1) _ l n c (λ y hy=>hb y (Vd _ hy)) h h1;simp only[Vh];omega
  ·split at h
   ·cases h
   ·simp only[Vc,Vx]at h;obtain⟨rfl,rfl⟩:=h;simp only[Vh];omega
def Msa:∀ (f k acc:Nat) (l:List Int) (n c:Nat),Av l→Rs (f+1) k acc l=some (n,c)→acc<128 ^ k→∃ m,n=acc+m*128 ^ k∧l=Y0 f m++l.drop (c-k)∧(m=0→c=k+1∧(0<k→False))∧m<128 ^ (f+1)
 |0,k,acc,[],n,c,hb,h,ha=>by simp[Rs]at h
 |_+1,k,acc,[],n,c,hb,h,ha=>by simp[Rs]at h
 |0,k,acc,x::l,n,c,hb,h,ha=>by
  have hx:=hb x (by simp);unfold Rs at h;split at h
  ·simp[Rs]at h
  ·rename_i h128;split at h
   ·cases h
   ·rename_i hz;simp only[Vc,Vx]at h;obtain⟨rfl,rfl⟩:=h;have hm:x.toNat % 128=x.toNat:=Bhb (by omega);refine⟨x.toNat,by rw[hm],?_,λ h0=>⟨rfl,λ hk=>hz (.inl ⟨by omega,hk⟩)⟩,by omega⟩;rw[show k+1-k=1 by omega];show x::l=[((x.toNat:Nat):Int)]++l;rw[show ((x.toNat:Nat):Int)=x by omega];rfl
 |f+1,k,acc,x::l,n,c,hb,h,ha=>by
  have hx:=hb x (by simp);have hb':Av l:=λ y hy=>hb y (Vd _ hy);unfold Rs at h;split at h
  ·rename_i h128
   have h1:acc+x.toNat % 128*128 ^ k<128 ^ (k+1):=by
    have h2:x.toNat % 128≤127:=by omega
    have h3:=Wj (128 ^ k) h2;rw[Bjb];omega
   obtain⟨m,e1,e2,e3,e4⟩:=Msa f (k+1) _ l n c hb' h h1;have hbd:=Of (f+1) (k+1) _ l n c hb' h h1;have hm0:m≠0:=λ h0=>(e3 h0).2 (by omega);refine⟨x.toNat % 128+m*128,?_,?_,λ h0=>by omega,?_⟩
   ·rw[e1,Bjb,Zb]
    have:m*128*128 ^ k=m*(128 ^ k*128):=by rw[Nat.mul_assoc,Nat.mul_comm 128]
    omega
   ·unfold Y0;rw[if_neg (by omega),show (x.toNat % 128+m*128)/128=m by omega,show (x.toNat % 128+m*128) % 128=x.toNat % 128 by omega,show c-k=(c-(k+1))+1 by omega,List.drop_succ_cons,List.cons_append,← e2];congr 1;omega
   ·rw[Bjb];omega
  ·rename_i h128;split at h
   ·cases h
   ·rename_i hz;simp only[Vc,Vx]at h;obtain⟨rfl,rfl⟩:=h;have hm:x.toNat % 128=x.toNat:=Bhb (by omega)
    have hp:128≤128 ^ (f+1+1):=by
     have:=Nat.pow_le_pow_right (show 0<128 by decide) (show 1≤f+1+1 by omega)
     simpa using this
    refine⟨x.toNat,by rw[hm],?_,λ h0=>⟨rfl,λ hk=>hz (.inl ⟨by omega,hk⟩)⟩,by omega⟩;rw[show k+1-k=1 by omega];unfold Y0;rw[if_pos (by omega)];show x::l=[((x.toNat:Nat):Int)]++l;rw[show ((x.toNat:Nat):Int)=x by omega];rfl
def Mta:∀ (f k acc m:Nat) (rest:List Int),m<128 ^ (f+1)→(0<k→0<m)→acc+m*128 ^ k≤1000000000→Rs (f+1) k acc (Y0 f m++rest)=some (acc+m*128 ^ k,k+(Y0 f m).length)
 |0,k,acc,m,rest,hm,hk,hn=>by
  show Rs 1 k acc ((m:Int)::rest)=_;unfold Rs
  have h1:m<128:=by simpa using hm
  rw[if_neg (by omega),if_neg (by
   rw[show (m:Int).toNat % 128=m by rw[Vm];exact Bhb h1]
   omega)]
  rw[show (m:Int).toNat % 128=m by rw[Vm];exact Bhb h1];rfl
 |f+1,k,acc,m,rest,hm,hk,hn=>by
  unfold Y0
  by_cases h:m≤127
  ·rw[if_pos h];show Rs (f+2) k acc ((m:Int)::rest)=_;unfold Rs
   rw[if_neg (by omega),if_neg (by
    rw[show (m:Int).toNat % 128=m by rw[Vm];exact Bhb (by omega)]
    omega)]
   rw[show (m:Int).toNat % 128=m by rw[Vm];exact Bhb (by omega)];rfl
  ·rw[if_neg h];show Rs (f+2) k acc (((m % 128+128:Nat):Int)::(Y0 f (m/128)++rest))=_;unfold Rs
   have e1:(((m % 128+128:Nat):Int)).toNat % 128=m % 128:=by rw[Vm];omega
   rw[if_pos (by omega),e1]
   have hmod:m=m % 128+m/128*128:=by omega
   have hm2:m/128<128 ^ (f+1):=by rw[Bjb]at hm;omega
   have e2:acc+m % 128*128 ^ k+m/128*128 ^ (k+1)=acc+m*128 ^ k:=by
    have h2:m*128 ^ k=(m % 128+m/128*128)*128 ^ k:=by rw[← hmod]
    rw[h2,Zb,Bjb]
    have:m/128*128*128 ^ k=m/128*(128 ^ k*128):=by rw[Nat.mul_assoc,Nat.mul_comm 128]
    omega
   rw[Mta f (k+1) (acc+m % 128*128 ^ k) (m/128) rest hm2 (λ _=>by omega) (by rw[e2];exact hn),e2,Vh];simp only[Vc,Vx,true_and];omega
def Gua (pre:List Int) (n:Nat) (rest:List Int) (hn:n≤1000000000):V3 (pre++(Lh n++rest)) pre.length=some (n,pre.length+(Lh n).length):=by
 unfold V3;rw[Zm];have:=Mta 4 0 0 n rest (by omega) (by omega) (by omega);unfold Lh;rw[this];simp
def Ela {l:List Int} {p n q:Nat} (hb:Av l) (h:V3 l p=some (n,q)):l.drop p=Lh n++l.drop q∧n≤1000000000∧p<q∧q≤l.length:=by
 unfold V3 at h;split at h
 ·rename_i m c hd;simp only[Vc,Vx]at h;obtain⟨rfl,rfl⟩:=h;have hb':Av (l.drop p):=λ y hy=>hb y (Zp hy);have hbd:=Of 5 0 0 _ _ _ hb' hd (by decide);obtain⟨m',e1,e2,_,_⟩:=Msa 4 0 0 _ _ _ hb' hd (by decide)
  have e3:m=m':=by rw[e1];simp
  subst e3;rw[We]at hbd;refine⟨?_,hbd.2.2.2,by omega,by omega⟩;rw[Cfb,Ym]at e2;exact e2
 ·cases h
def Alb (i:Nat) (hi:i<5):(2:Int) ^ (min (toNat (wrap .i64 (7*(i:Int)))) (IntKind.bits .i64))=((128 ^ i:Nat):Int):=by
 have:i=0∨i=1∨i=2∨i=3∨i=4:=by omega
 rcases this with rfl|rfl|rfl|rfl|rfl<;>decide
def sh7 (i:Nat) (hi:i<5):¬ (wrap .i64 (7*(i:Int))<0)∧¬ (wrap .u64 (wrap .i64 (7*(i:Int)))<0):=by
 have:i=0∨i=1∨i=2∨i=3∨i=4:=by omega
 rcases this with rfl|rfl|rfl|rfl|rfl<;>decide
def T9 (i:Nat) (hi:i≤5):128 ^ i≤34359738368:=by
 have:=Nat.pow_le_pow_right (show 0<128 by decide) hi
 simpa using this
def Sza (l:List Int) (p:Int):Int×Int×Bool:=if p<0 then (0,0,false) else match V3 l p.toNat with
 |some (n,q)=>((n:Int),(q:Int),true)
 |none=>(0,0,false)
def Acb (p:Nat):Option (Nat×Nat)→Int×Int×Bool
 |some (n,c)=>((n:Int),((p+c:Nat):Int),true)
 |none=>(0,0,false)
def Mua (r:Sum (Int×Int×Bool) Unit):Int×Int×Bool:=Sum.elim (λ y=>y) (λ _=>(0,0,false)) r
def Ta {l:List Int} {p:Nat} (h:p<l.length):l.drop p=l.getD p 0::l.drop (p+1):=Co h
def Iua (l:List Int) (hb:Av l) (hl:l.length≤1000000000000) (p:Nat) (hp:p≤1000000000000):∀ (f i acc:Nat),f+i=5→acc<128 ^ i→
  Tot (λ k=>Ds k l (p:Int) (acc:Int) (i:Int)) (λ r=>Mua r=Acb p (Rs f i acc (l.drop (p+i)))):=by
 intro f
 induction f with
 |zero=>
  intro i acc hi ha;refine Tot.succ ?_;simp only[Ds];exact Avb (by omega) (Aqb rfl)
 |succ f ih=>
  intro i acc hi ha
  have hi5:i<5:=by omega
  refine Tot.succ ?_;simp only[Ds];refine Aub (by omega) (Aub (by omega) ?_);rw[w64 (n:=(l.length:Int)-(i:Int)) (by omega) (by omega),w64 (n:=(p:Int)+(i:Int)) (by omega) (by omega),show toNat ((p:Int)+(i:Int))=p+i by omega];refine Axb (λ h=>?_) (λ h=>?_)
  ·have hlt:p+i<l.length:=by omega
   refine Aub (by omega) (Aub (by omega) ?_);have hx:=hb (l.getD (p+i) 0) (A3 hlt);rw[Ta hlt,Alb i hi5]
   have he:Rs (f+1) i acc (l.getD (p+i) 0::l.drop (p+i+1))=if 128≤l.getD (p+i) 0 then Rs f (i+1) (acc+(l.getD (p+i) 0).toNat % 128*128 ^ i) (l.drop (p+i+1)) else if (l.getD (p+i) 0=0∧0<i)∨1000000000<acc+(l.getD (p+i) 0).toNat % 128*128 ^ i then none else some (acc+(l.getD (p+i) 0).toNat % 128*128 ^ i,i+1):=rfl
   rw[he];generalize l.getD (p+i) 0=x at hx ⊢;obtain⟨v,rfl⟩:∃ v:Nat,x=(v:Int):=⟨x.toNat,by omega⟩;rw[Vm];have hp1:=T9 i (by omega);have hmul:v % 128*128 ^ i≤127*34359738368:=Nat.mul_le_mul (by omega) hp1;rw[w64 (n:=(v:Int)) (by omega) (by omega)]
   have e1:Int.tmod (v:Int) 128*((128 ^ i:Nat):Int)=((v % 128*128 ^ i:Nat):Int):=by
    rw[Beb (by omega)]
    push_cast
    rfl
   rw[e1,w64 (n:=((v % 128*128 ^ i:Nat):Int)) (by omega) (by omega),← Int.natCast_add,w64 (n:=((acc+v % 128*128 ^ i:Nat):Int)) (by omega) (by omega),w64 (n:=(i:Int)+1) (by omega) (by omega),w64 (n:=(p:Int)+(i:Int)+1) (by omega) (by omega)];refine Avb (sh7 i hi5).1 ?_;refine Axb (λ h128=>?_) (λ h128=>?_)
   ·rw[if_pos (by omega)]
    have h1:acc+v % 128*128 ^ i<128 ^ (i+1):=by
     have h2:v % 128≤127:=by omega
     have h3:=Wj (128 ^ i) h2;rw[Bjb];omega
    have:=ih (i+1) (acc+v % 128*128 ^ i) (by omega) h1;rw[show p+(i+1)=p+i+1 by omega]at this;exact this
   ·rw[if_neg (by omega)]
    have big:Tot (λ _:Nat=>cond (decide (((acc+v % 128*128 ^ i:Nat):Int) > 1000000000)) (some (Sum.inl ((0:Int),(0:Int),false))) (some (Sum.inl (((acc+v % 128*128 ^ i:Nat):Int),(p:Int)+(i:Int)+1,true))):Nat→Option (Sum (Int×Int×Bool) Unit))
      (λ r=>Mua r=if 1000000000<acc+v % 128*128 ^ i then (0,0,false) else (((acc+v % 128*128 ^ i:Nat):Int),((p+(i+1):Nat):Int),true)):=by
     refine Axb (λ hbig=>?_) (λ hbig=>?_)
     ·rw[if_pos (by omega)];exact Aqb rfl
     ·rw[if_neg (by omega)];refine Aqb ?_;show (_,_,_)=_;rw[show (p:Int)+(i:Int)+1=((p+(i+1):Nat):Int) by omega]
    have goal:∀ c:Prop,[Decidable c]→(if c∨1000000000<acc+v % 128*128 ^ i then none else some (acc+v % 128*128 ^ i,i+1))=if c then none else if 1000000000<acc+v % 128*128 ^ i then (none:Option (Nat×Nat)) else some (acc+v % 128*128 ^ i,i+1):=by
     intro c _
     by_cases h1:c<;>by_cases h2:1000000000<acc+v % 128*128 ^ i<;>simp[h1,h2]
    rw[goal]
    have fin:(Acb p (if 1000000000<acc+v % 128*128 ^ i then (none:Option (Nat×Nat)) else some (acc+v % 128*128 ^ i,i+1)))=if 1000000000<acc+v % 128*128 ^ i then (0,0,false) else (((acc+v % 128*128 ^ i:Nat):Int),((p+(i+1):Nat):Int),true):=by
     split<;>rfl
    refine Awb (λ h0=>?_) (λ h0=>?_)
    ·have hv:v=0:=by
      have:=beq_iff_eq.1 h0;omega
     refine Axb (λ hi0=>?_) (λ hi0=>?_)
     ·rw[if_pos ⟨by omega,by omega⟩];exact Aqb rfl
     ·rw[if_neg (by omega),fin];exact big
    ·have hv:v≠0:=by
      intro e;subst e;simp at h0
     rw[if_neg (by omega),fin];exact big
  ·refine Aqb ?_;rw[Yp (by omega)];rfl
def Mva (l:List Int) (hb:Av l) (hl:l.length≤1000000000000) (p:Int) (hp:p≤1000000000000):Tot (λ k=>Er k l p) (λ r=>r=Sza l p):=by
 unfold Er Sza
 by_cases h0:p<0
 ·rw[if_pos h0];refine Arb (Q:=λ r=>r = .inr ()) ?_ ?_
  ·refine Tot.succ ?_;simp only[Ds];exact Aub (by omega) (Avb (by omega) (Aqb rfl))
  ·rintro r rfl;exact Aqb rfl
 ·rw[if_neg h0];obtain⟨n,rfl⟩:∃ n:Nat,p=(n:Int):=⟨p.toNat,by omega⟩;rw[Vm];refine Arb (Iua l hb hl n (by omega) 5 0 0 rfl (by decide)) ?_;intro r hr;unfold V3;rw[Zu]at hr
  have hr':Mua r=(match (match Rs 5 0 0 (l.drop n) with|some (m,c)=>some (m,n+c)|none=>none) with|some (m,q)=>((m:Int),(q:Int),true)|none=>((0:Int),(0:Int),false)):=by
   rw[hr]
   cases Rs 5 0 0 (l.drop n) with
   |none=>rfl
   |some mc=>rfl
  rw[← hr']
  cases r with
  |inl y=>exact Aqb rfl
  |inr z=>exact Aqb rfl

def Cp (n:Int):Nat:=(max 0 (min n 1000000000)).toNat
def L7 (n:Int):Cp n≤1000000000:=by unfold Cp;omega
def Tb {n:Int} (h0:0≤n) (h1:n≤1000000000):(Cp n:Int)=n:=by unfold Cp;omega
def T0a (n:Nat) (h:n≤255):wrap .u8 (n:Int)=(n:Int):=by
 rw[Ckb];omega
def Iva:∀ (f n:Nat) (out:List Int),n<128 ^ (f+1)→f≤4→out.length+f≤1000000000010→
  Tot (λ k=>Ee k out (n:Int)) (λ r=>∃ m:Nat,r.2=(m:Int)∧m≤127∧r.1++[(m:Int)]=out++Y0 f n∧r.1.length≤out.length+f):=by
 intro f
 induction f with
 |zero=>
  intro n out hn hf hl;refine Tot.succ ?_;simp only[Ee]
  have:n<128:=by simpa using hn
  exact Avb (by omega) (Aqb ⟨n,rfl,by omega,rfl,by simp⟩)
 |succ f ih=>
  intro n out hn hf hl;have hp:=T9 (f+1+1-1) (by omega);refine Tot.succ ?_;simp only[Ee];refine Axb (λ h=>?_) (λ h=>?_)
  ·have hn2:n/128<128 ^ (f+1):=by rw[Bjb]at hn;omega
   have hn3:n<4398046511104:=by
    have:=T9 (f+1) (by omega);rw[Bjb]at hn;omega
   have e1:Int.tmod (n:Int) 128+128=((n % 128+128:Nat):Int):=by
    rw[Beb (by omega)];omega
   have e2:Int.tdiv (n:Int) 128=((n/128:Nat):Int):=by
    rw[D8b (by omega)];omega
   rw[e1,e2,w64 (n:=((n % 128+128:Nat):Int)) (by omega) (by omega),w64 (n:=((n/128:Nat):Int)) (by omega) (by omega),T0a _ (by omega)];refine Ayb (by simp only[Vh,Vs];omega) ?_;refine(ih (n/128) (out++[((n % 128+128:Nat):Int)]) hn2 (by omega) (by simp only[Vi,Vh,Vs];omega)).mono ?_;rintro r ⟨m,h1,h2,h3,h4⟩;refine⟨m,h1,h2,?_,by simp only[Vi,Vh,Vs]at h4;omega⟩;rw[h3,Vo];congr 1
   conv => { rhs;unfold Y0 }
   rw[if_neg (by omega)];rfl
  ·refine Aqb ⟨n,rfl,by omega,?_,by show out.length≤out.length+(f+1);omega⟩;unfold Y0;rw[if_pos (by omega)]
def Tc (out:List Int) (n:Int) (hl:out.length≤1000000000000):Tot (λ k=>Dg k out n) (λ r=>r=out++Lh (Cp n)):=by
 unfold Dg
 have e:(if (0:Int)<(if (1000000000:Int)<n then 1000000000 else n) then (if (1000000000:Int)<n then 1000000000 else n) else 0)=((Cp n:Nat):Int):=by
  unfold Cp
  split<;>split<;>omega
 simp only;rw[e];have hc:=L7 n;refine Arb (Iva 4 (Cp n) out (by omega) (by omega) (by omega)) ?_;rintro r ⟨m,h1,h2,h3,h4⟩;rw[h1,T0a m (by omega)];refine Ayb (by simp only[Vh,Vs];omega) (Aqb h3)
def Jj (n:Nat):(Lh n).length≤5∧0<(Lh n).length:=Mra 4 n
def V4:∀ (f n:Nat),n<128 ^ (f+1)→Av (Y0 f n)
 |0,n,hn=>by
  intro x hx;simp only[Y0,Vp]at hx
  have:n<128:=by simpa using hn
  omega
 |f+1,n,hn=>by
  unfold Y0;split
  ·intro x hx;simp only[Vp]at hx;omega
  ·intro x hx;rcases Vk.1 hx with rfl|hx
   ·omega
   ·exact V4 f (n/128) (by rw[Bjb]at hn;omega) x hx
def Iwa (n:Nat) (hn:n≤1000000000):Av (Lh n):=V4 4 n (by omega)
def V5 (s:ByteArray):Av (bytesOf s):=by
 intro x hx;unfold bytesOf at hx;obtain⟨b,_,rfl⟩:=Ys.1 hx;have:=b.toNat_lt;omega
def Lz (s:ByteArray):(bytesOf s).length=s.size:=by
 unfold bytesOf;rw[Vz];exact Zc
def Y1 (s:ByteArray):I8 (bytesOf s)=s:=by
 unfold I8 bytesOf;rw[Byb]
 have:(λ n:Int=>UInt8.ofNat n.toNat) ∘ (λ b:UInt8=>(b.toNat:Int))=id:=by
  funext b;show UInt8.ofNat ((b.toNat:Int)).toNat=b;rw[Vm];exact UInt8.ofNat_toNat
 rw[this,List.map_id]
def Jk {l:List Int} (h:Av l):bytesOf (I8 l)=l:=by
 unfold I8 bytesOf;show List.map _ (List.map _ l)=l;rw[Byb]
 have:∀ x∈l,((λ b:UInt8=>(b.toNat:Int)) ∘ (λ n:Int=>UInt8.ofNat n.toNat)) x=x:=by
  intro x hx;have hb:=h x hx;show ((UInt8.ofNat x.toNat).toNat:Int)=x;rw[UInt8.toNat_ofNat'];omega
 exact(Bbb this).trans (List.map_id' l)
def L8 (l:List Int):(I8 l).size=l.length:=by
 unfold I8;show (List.map _ l).toArray.size=l.length;simp
def txt (s:ByteArray):List Int:=Lh (Cp (s.size:Int))++bytesOf s
def Qqa (out:List Int) (s:ByteArray) (hl:out.length≤1000000000000) (hs:s.size≤1000000000000):Tot (λ k=>Fp k out s) (λ r=>r=out++txt s):=by
 unfold Fp txt;refine B1b (Tc out _ hl) ?_;have:=(Jj (Cp (s.size:Int))).1;refine Ayb (by simp only[Vi];omega) (Aqb ?_);rw[Vo]
def Jua (l:List Int) (p:Nat):Option (ByteArray×Nat):=match V3 l p with
 |some (n,q)=>if q+n≤l.length then some (I8 ((l.drop q).take n),q+n) else none
 |none=>none
def Zca (l:List Int) (p:Int):ByteArray×Int×Bool:=if p<0 then ((⟨#[]⟩:ByteArray),0,false) else match Jua l p.toNat with
 |some (s,q)=>(s,(q:Int),true)
 |none=>((⟨#[]⟩:ByteArray),0,false)
def Ixa (l:List Int) (hb:Av l) (p:Int):Sza l p=(0,0,false)∨∃ n q,0≤p∧V3 l p.toNat=some (n,q)∧Sza l p=((n:Int),(q:Int),true)∧n≤1000000000∧q≤l.length:=by
 unfold Sza
 by_cases h:p<0
 ·rw[if_pos h];exact .inl rfl
 ·rw[if_neg h]
  cases hg:V3 l p.toNat with
  |none=>exact .inl rfl
  |some nq=>
   obtain⟨n,q⟩:=nq;have:=Ela hb hg;exact .inr ⟨n,q,by omega,rfl,rfl,this.2.1,this.2.2.2⟩
def Gva (l:List Int) (hb:Av l) (hl:l.length≤1000000000000) (p:Int) (hp:p≤1000000000000):Tot (λ k=>Fo k l p) (λ r=>r=Zca l p):=by
 unfold Fo;refine B1b (Mva l hb hl p hp) ?_;unfold Zca Jua;rcases Ixa l hb p with h|⟨n,q,h0,hg,h,hn,hq⟩
 ·rw[h];refine Atb rfl (Aqb ?_);unfold Sza at h;split
  ·rfl
  ·rename_i h0;rw[if_neg h0]at h
   cases hg:V3 l p.toNat with
   |none=>rfl
   |some nq=>rw[hg]at h;simp at h
 ·rw[h];refine Asb rfl ?_;rw[if_neg (by omega),hg];simp only;rw[w64 (n:=(l.length:Int)-(q:Int)) (by omega) (by omega),w64 (n:=(q:Int)+(n:Int)) (by omega) (by omega)];refine Axb (λ hgt=>?_) (λ hgt=>?_)
  ·rw[if_neg (by omega)];exact Aqb rfl
  ·rw[if_pos (by omega)];refine Aub (by omega) (Aub (by omega) (Aub (by omega) (Aqb ?_)));rw[show toNat ((q:Int)+(n:Int))=q+n by omega,Vm,C6b,show q+n-q=n by omega];simp only[Vx,true_and,and_true]
   push_cast
   rfl
def Mwa {l:List Int} {p q:Nat} {s:ByteArray} (hb:Av l) (h:Jua l p=some (s,q)):l.drop p=txt s++l.drop q∧s.size≤1000000000∧p<q∧q≤l.length:=by
 unfold Jua at h;split at h
 ·rename_i n q0 hg;obtain⟨h1,h2,h3,h4⟩:=Ela hb hg;split at h
  ·rename_i hle;simp only[Vc,Vx]at h;obtain⟨rfl,rfl⟩:=h
   have hlen:((l.drop q0).take n).length=n:=by rw[Vq,We];omega
   have hbb:Av ((l.drop q0).take n):=λ x hx=>hb x (Zp (B3b hx));refine⟨?_,by rw[L8,hlen];exact h2,by omega,by omega⟩;unfold txt;rw[L8,hlen,Jk hbb,h1,show Cp (n:Int)=n by unfold Cp;omega,Vo];congr 1;rw[← Ym,Wh]
  ·cases h
 ·cases h
def Qra (pre:List Int) (s:ByteArray) (rest:List Int) (hs:s.size≤1000000000):Jua (pre++(txt s++rest)) pre.length=some (s,pre.length+(txt s).length):=by
 unfold Jua txt
 have hc:Cp (s.size:Int)=s.size:=by unfold Cp;omega
 rw[hc,Vo,Gua pre s.size _ hs];simp only;rw[if_pos (by simp only[Vi,Lz];omega)]
 have e:(pre++(Lh s.size++(bytesOf s++rest))).drop (pre.length+(Lh s.size).length)=bytesOf s++rest:=by
  rw[← Vo,← Vi,Zm]
 rw[e,Cjb (Lz s),Y1];simp only[Vi,Lz,Vc,Vx,true_and];omega

def Ema (b:Bool):Int:=bif b then 1 else 0
def Vha (b:Bool):J1 b=some (Ema b):=by cases b<;>rfl
def T1a (s:Stp):List Int:=Lh (Cp s.1)++(Lh (Cp s.2.1)++Lh (Cp s.2.2))
def Qsa (s:Stp):(T1a s).length≤15:=by
 unfold T1a;have h1:=(Jj (Cp s.1)).1;have h2:=(Jj (Cp s.2.1)).1;have h3:=(Jj (Cp s.2.2)).1;simp only[Vi];omega
def Iya (out:List Int) (s:Stp) (b:Bool) (hl:out.length≤999999999900):Tot (λ k=>F5 k out s b) (λ r=>r=out++(T1a s++Lh (Cp (Ema b)))):=by
 have h1:=(Jj (Cp s.1)).1;have h2:=(Jj (Cp s.2.1)).1;have h3:=(Jj (Cp s.2.2)).1;unfold F5 T1a;refine B1b (Tc out s.1 (by omega)) ?_;refine B1b (Tc _ s.2.1 (by simp only[Vi];omega)) ?_;refine B1b (Tc _ s.2.2 (by simp only[Vi];omega)) ?_;refine B1b (B2b (Q:=λ y=>y=Ema b) (Vha b) rfl) ?_;refine B1b (Tc _ (Ema b) (by simp only[Vi];omega)) ?_;exact Aqb (by simp only[Vo])
def Td {s:ByteArray} (h:B2 s=true):1≤s.size∧s.size≤20:=by
 unfold B2 at h;rw[Va,Fk]at h;omega
def V6 {r:Row} (h:Kk r=true):B2 r.1=true:=by
 unfold Kk at h;rw[Va]at h;exact h.1
def Via (s:ByteArray):(txt s).length≤5+s.size:=by
 have h1:=(Jj (Cp (s.size:Int))).1;unfold txt;simp only[Vi,Lz];omega

def Qta (l:List Int) (p:Nat):Sza l (p:Int)=match V3 l p with
 |some (n,q)=>((n:Int),(q:Int),true)
 |none=>(0,0,false):=by
 unfold Sza;rw[if_neg (by omega),Vm]
 all_goals cases V3 l p<;>rfl
def Qua (l:List Int) (p:Nat):Zca l (p:Int)=match Jua l p with
 |some (s,q)=>(s,(q:Int),true)
 |none=>((⟨#[]⟩:ByteArray),0,false):=by
 unfold Zca;rw[if_neg (by omega),Vm]
 all_goals cases Jua l p<;>rfl
def Ua (l:List Int) (hb:Av l) (hl:l.length≤1000000000000) (p:Nat) (hp:p≤l.length) (bad:Bool):
  Tot (λ k=>C5 k (l,(p:Int),bad)) (λ r=>(bad=false∧∃ n q:Nat,V3 l p=some (n,q)∧q≤l.length∧r=((n:Int),l,(q:Int),false))∨((bad=true∨V3 l p=none)∧r=(0,l,(p:Int),true))):=by
 unfold C5;refine B1b (Mva l hb hl (p:Int) (by omega)) ?_;refine Awb (λ h=>Aqb (.inr ⟨.inl h,rfl⟩)) (λ h=>?_);rw[Qta]
 cases hg:V3 l p with
 |none=>exact Atb rfl (Aqb (.inr ⟨.inr rfl,rfl⟩))
 |some nq=>
  obtain⟨n,q⟩:=nq;simp only at h;subst h;exact Asb rfl (Aqb (.inl ⟨rfl,n,q,rfl,(Ela hb hg).2.2.2,rfl⟩))
def Zra (l:List Int) (hb:Av l) (hl:l.length≤1000000000000) (p:Nat) (hp:p≤l.length):
  Tot (λ k=>C1 k (l,(p:Int),false)) (λ r=>(∃ (s:ByteArray) (q:Nat),Jua l p=some (s,q)∧q≤l.length∧r=(s,l,(q:Int),false))∨(Jua l p=none∧r=((⟨#[]⟩:ByteArray),l,(p:Int),true))):=by
 unfold C1;refine B1b (Gva l hb hl (p:Int) (by omega)) ?_;refine Asb rfl ?_;rw[Qua]
 cases hg:Jua l p with
 |none=>exact Atb rfl (Aqb (.inr ⟨rfl,rfl⟩))
 |some nq=>
  obtain⟨n,q⟩:=nq;exact Asb rfl (Aqb (.inl ⟨n,q,rfl,(Mwa hb hg).2.2.2,rfl⟩))
def Te (l:List Int) (p:Nat):Option ((Stp×Bool)×Nat):=
 (V3 l p).bind λ b=>(V3 l b.2).bind λ c=>(V3 l c.2).bind λ d=>(V3 l d.2).bind λ e=>bif decide (1<e.1) then none else
  some ((((b.1:Int),(c.1:Int),(d.1:Int)),(e.1:Int)==1),e.2)
def Zsa (l:List Int) (hb:Av l) (hl:l.length≤1000000000000) (p:Nat) (hp:p≤l.length) (bad:Bool):
  Tot (λ k=>Ck k (l,(p:Int),bad)) (λ r=>(bad=false∧∃ (x:Stp×Bool) (q:Nat),Te l p=some (x,q)∧q≤l.length∧r=(x.1,x.2,l,(q:Int),false))∨((bad=true∨Te l p=none)∧∃ s b,∃ q:Nat,q≤l.length∧r=(s,b,l,(q:Int),true))):=by
 unfold Ck
 have nx:∀ {o:Option (Nat×Nat)} {f:Nat×Nat→Option ((Stp×Bool)×Nat)},o=none→o.bind f=none:=by
  intro o f h;rw[h];rfl
 refine Arb (Ua l hb hl p hp bad) ?_;rintro r (⟨h0,n1,p1,h1,l1,rfl⟩|⟨h1,rfl⟩)
 ·simp only;refine Arb (Ua l hb hl p1 l1 false) ?_;rintro r (⟨_,n2,p2,h2,l2,rfl⟩|⟨h2,rfl⟩)
  ·simp only;refine Arb (Ua l hb hl p2 l2 false) ?_;rintro r (⟨_,n3,p3,h3,l3,rfl⟩|⟨h3,rfl⟩)
   ·simp only;refine Arb (Ua l hb hl p3 l3 false) ?_;rintro r (⟨_,n4,p4,h4,l4,rfl⟩|⟨h4,rfl⟩)
    ·simp only;refine Asb rfl (Aqb ?_)
     have e:Te l p=bif decide (1<n4) then none else some ((((n1:Int),(n2:Int),(n3:Int)),(n4:Int)==1),p4):=by
      unfold Te;simp only[h1,h2,h3,h4,Vt]
     cases hd:decide (1<n4) with
     |true=>
      rw[hd,cond_true]at e;refine .inr ⟨.inr e,((n1:Int),(n2:Int),(n3:Int)),((n4:Int)==1),p4,l4,?_⟩;have:decide ((n4:Int) > 1)=true:=decide_eq_true (by have:=of_decide_eq_true hd;omega);rw[this]
     |false=>
      rw[hd,cond_false]at e;refine .inl ⟨h0,_,p4,e,l4,?_⟩;have:decide ((n4:Int) > 1)=false:=decide_eq_false (by have:=of_decide_eq_false hd;omega);rw[this]
    ·refine Atb rfl (Aqb (.inr ⟨.inr ?_,_,_,p3,l3,rfl⟩));have h4':=h4.resolve_left (by simp);unfold Te;simp only[h1,h2,h3,h4',Vt,C7b]
   ·simp only;refine Arb (Ua l hb hl p2 l2 true) ?_;rintro r (⟨hh,_⟩|⟨_,rfl⟩)
    ·cases hh
    ·refine Atb rfl (Aqb (.inr ⟨.inr ?_,_,_,p2,l2,rfl⟩));have h3':=h3.resolve_left (by simp);unfold Te;simp only[h1,h2,h3',Vt,C7b]
  ·simp only;refine Arb (Ua l hb hl p1 l1 true) ?_;rintro r (⟨hh,_⟩|⟨_,rfl⟩)
   ·cases hh
   ·refine Arb (Ua l hb hl p1 l1 true) ?_;rintro r (⟨hh,_⟩|⟨_,rfl⟩)
    ·cases hh
    ·refine Atb rfl (Aqb (.inr ⟨.inr ?_,_,_,p1,l1,rfl⟩));have h2':=h2.resolve_left (by simp);unfold Te;simp only[h1,h2',Vt,C7b]
 ·simp only;refine Arb (Ua l hb hl p hp true) ?_;rintro r (⟨hh,_⟩|⟨_,rfl⟩)
  ·cases hh
  ·refine Arb (Ua l hb hl p hp true) ?_;rintro r (⟨hh,_⟩|⟨_,rfl⟩)
   ·cases hh
   ·refine Arb (Ua l hb hl p hp true) ?_;rintro r (⟨hh,_⟩|⟨_,rfl⟩)
    ·cases hh
    ·refine Atb rfl (Aqb (.inr ⟨?_,_,_,p,hp,rfl⟩));rcases h1 with h1|h1
     ·exact .inl h1
     ·refine .inr ?_;unfold Te;rw[h1];rfl
def Bua (a b:List Int) (hf:a.length≤1000000000000) (hl:a.length=b.length):∀ (n i:Nat),a.length-i=n→i≤a.length→
  Tot (λ k=>Cn k a b (i:Int)) (λ r=>(r = .inr ()∧a.drop i=b.drop i)∨(r = .inl false∧a.drop i≠b.drop i)):=by
 intro n
 induction n with
 |zero=>
  intro i hd hi;refine Tot.succ ?_;simp only[Cn];refine Avb (by omega) (Aqb (.inl ⟨rfl,?_⟩));rw[Yp (by omega),Yp (by omega)]
 |succ n ih=>
  intro i hd hi
  have h1:i<a.length:=by omega
  refine Tot.succ ?_;simp only[Cn];refine Aub (by omega) (Aub (by omega) (Aub (by omega) (Aub (by omega) (Aub (by omega) ?_))));rw[show toNat (i:Int)=i from Vm i,w64 (n:=(i:Int)+1) (by omega) (by omega),Ta h1,Ta (l:=b) (p:=i) (by omega)];refine Awb (λ h=>Aqb (.inr ⟨rfl,?_⟩)) (λ h=>?_)
  ·intro e
   injection e with e _
   rw[e]at h;simp at h
  ·have e:a.getD i 0=b.getD i 0:=by simpa using h
   refine(ih (i+1) (by omega) (by omega)).mono ?_;rintro r (⟨rfl,h⟩|⟨rfl,h⟩)
   ·exact .inl ⟨rfl,by rw[e,h]⟩
   ·refine .inr ⟨rfl,λ q=>h ?_⟩;injection q
def Y2 (a b:List Int) (hf:a.length≤1000000000000):Tot (λ k=>Dt k a b) (λ r=>r=decide (a=b)):=by
 unfold Dt;refine Awb (λ h=>Aqb ?_) (λ h=>?_)
 ·have:a≠b:=λ e=>by subst e;simp at h
  rw[decide_eq_false this]
 ·have hl:a.length=b.length:=by
   have:(a.length:Int)=b.length:=by simpa using h
   omega
  refine Arb (Bua a b hf hl _ 0 rfl (Vw _)) ?_;rintro r (⟨rfl,h⟩|⟨rfl,h⟩)
  ·rw[Yu,Yu]at h;rw[decide_eq_true h];exact Aqb rfl
  ·rw[Yu,Yu]at h;rw[decide_eq_false h];exact Aqb rfl

section
open Go
end

abbrev Nmd:=ByteArray×List Int
abbrev Dsk:=List Nmd×List Nmd
def Il:Nmd:=((⟨#[]⟩:ByteArray),[])
def T2a (l:List Nmd):Prop:=l.length≤1000000000000∧∀ x∈l,x.2.length≤1000000000000
def Zda (d:Dsk):Prop:=T2a d.1∧T2a d.2
def Hq (l:List Int) (h:l.length≤1000000000000):Aj l=some l:=by
 unfold Aj;rw[show Nat.ble ((length ([]:List Int)+length l)*1) 140737488355328=true from Zn (by simp only[Vs];omega)];rfl
def Rb (l:List Nmd) (hf:T2a l):∀ (n i:Nat) (acc:List Nmd),l.length-i=n→i≤l.length→acc.length≤i→
  Tot (λ k=>Cf k acc l (l.length:Int) (i:Int)) (λ r=>r=acc++l.drop i):=by
 obtain⟨h1,h2⟩:=hf;intro n
 induction n with
 |zero=>
  intro i acc hd hi ha;refine Tot.succ ?_;simp only[Cf];refine Avb (by omega) (Aqb ?_);rw[Yp (by omega),Yc]
 |succ n ih=>
  intro i acc hd hi ha
  have hlt:i<l.length:=by omega
  refine Tot.succ ?_;simp only[Cf];refine Aub (by omega) (Aub (by omega) (Aub (by omega) ?_));rw[show toNat (i:Int)=i from Vm i,w64 (n:=(i:Int)+1) (by omega) (by omega),Co (d:=Il) hlt];have e0:l.getD i ((⟨#[]⟩:ByteArray),([]:List Int))=l.getD i Il:=rfl;rw[e0];have hb:=h2 _ (A3 (d:=Il) hlt);refine B1b (B2b (Q:=λ r=>r=(l.getD i Il).2) (Hq _ hb) rfl) ?_;refine Ayb (by simp only[Vh,Vs];omega) ?_;refine(ih (i+1) (acc++[l.getD i Il]) (by omega) (by omega) (by simp only[Vi,Vh,Vs];omega)).mono ?_;rintro r rfl;rw[Vo];rfl
def Pj (l:List Nmd) (hf:T2a l):Tot (λ k=>Bi k l) (λ r=>r=l):=by
 unfold Bi;refine Arb (Rb l hf _ 0 [] rfl (Vw _) (Vw _)) ?_;intro r hr;rw[Yu,Wl]at hr;exact Aqb hr
def Fu (d:Dsk) (hf:Zda d):Tot (λ k=>A5 k d) (λ r=>r=d):=by
 unfold A5;refine B1b (Pj d.1 hf.1) ?_;refine B1b (Pj d.2 hf.2) ?_;exact Aqb rfl
def fnd (l:List Nmd) (s:ByteArray):Option Nat:=l.findIdx? (λ x=>teq x.1 s)
def Vja (l:List Nmd) (s:ByteArray):Int:=match fnd l s with
 |some i=>(i:Int)
 |none => -1
def Mxa (l:List Nmd) (s:ByteArray) (hf:l.length≤1000000000000):∀ (n i:Nat),l.length-i=n→i≤l.length→
  Tot (λ k=>Gv k s l (l.length:Int) (i:Int)) (λ r=>r=match fnd (l.drop i) s with|some j => .inl ((i+j:Nat):Int)|none => .inr ()):=by
 intro n
 induction n with
 |zero=>
  intro i hd hi;refine Tot.succ ?_;simp only[Gv];refine Avb (by omega) (Aqb ?_);rw[Yp (by omega)];rfl
 |succ n ih=>
  intro i hd hi
  have hlt:i<l.length:=by omega
  refine Tot.succ ?_;simp only[Gv];refine Aub (by omega) (Aub (by omega) (Aub (by omega) ?_));rw[show toNat (i:Int)=i from Vm i,w64 (n:=(i:Int)+1) (by omega) (by omega),Co (d:=Il) hlt];have e0:l.getD i ((⟨#[]⟩:ByteArray),([]:List Int))=l.getD i Il:=rfl;rw[e0]
  have e1:fnd (l.getD i Il::l.drop (i+1)) s=if teq (l.getD i Il).1 s then some 0 else (fnd (l.drop (i+1)) s).map (· + 1):=by
   unfold fnd;rw[List.findIdx?_cons]
  rw[e1];refine Awb (λ h=>?_) (λ h=>?_)
  ·have h':teq (l.getD i Il).1 s=true:=h;rw[if_pos h'];exact Aqb rfl
  ·have h':¬ (teq (l.getD i Il).1 s=true):=by
    have:teq (l.getD i Il).1 s=false:=h;rw[this];simp
   rw[if_neg h'];refine(ih (i+1) (by omega) (by omega)).mono ?_;rintro r rfl
   cases fnd (l.drop (i+1)) s with
   |none=>rfl
   |some j=>
    show Sum.inl _=Sum.inl _;rw[show i+1+j=i+(j+1) by omega]
def Gwa (l:List Nmd) (s:ByteArray) (hf:l.length≤1000000000000):Tot (λ k=>Gn k l s) (λ r=>r=Vja l s):=by
 unfold Gn Vja;refine B1b (Mxa l s hf _ 0 rfl (Vw _)) ?_;rw[Yu]
 cases fnd l s with
 |none=>exact Aqb rfl
 |some j=>
  refine Aqb ?_;rw[Wg]
def Qw {l:List Nmd} {s:ByteArray} {i:Nat} (h:fnd l s=some i):i<l.length∧(l.getD i Il).1=s:=by
 unfold fnd at h;rw[Clb]at h;obtain⟨h1,h2,_⟩:=h;refine⟨h1,?_⟩;rw[Vb,Vg h1];exact C8.1 h2
def del (l:List Nmd) (s:ByteArray):List Nmd:=match fnd l s with
 |some i=>l.take i++l.drop (i+1)
 |none=>l
def Pk (l:List Nmd) (s:ByteArray) (hf:l.length≤1000000000000):Tot (λ k=>Ef k l s) (λ r=>r=del l s):=by
 unfold Ef del;refine B1b (Gwa l s hf) ?_;unfold Vja
 cases h:fnd l s with
 |none=>exact Aub (by decide) (Aqb rfl)
 |some i=>
  have hl:=(Qw h).1;dsimp only;refine Avb (by omega) (Aub (by omega) (Aub (by omega) ?_));rw[w64 (n:=(i:Int)+1) (by omega) (by omega),show toNat (i:Int)=i from Int.toNat_natCast i,show toNat ((i:Int)+1)=i+1 by omega];refine Ayb (by simp only[List.length_nil,List.length_take];omega) ?_;refine Aub (by omega) (Aub (by omega) (Ayb (by simp only[List.length_append,List.length_nil,List.length_take,List.length_drop];omega) (Aqb rfl)))

def nOk (x:Nmd):Bool:=B2 x.1&&!(decide ((x.2.length:Int) > 400))
def chn:Option ByteArray→List Nmd→Bool
 |_,[]=>true
 |none,r::l=>nOk r&&chn (some r.1) l
 |some q,r::l=>nOk r&&(tlt q r.1&&chn (some r.1) l)
def Gb (l:List Nmd):Bool:=chn none l&&decide ((l.length:Int)≤60)
def Bx (d:Dsk):Bool:=Gb d.1&&Gb d.2
def Bva (l:List Nmd):Prop:=∀ x∈l,Kj x.1
def Mya (d:Dsk):Prop:=Bva d.1∧Bva d.2
def Bwa (l:List Nmd):Nat→Option ByteArray
 |0=>none
 |i+1=>some (l.getD i Il).1
def Qva (l:List Nmd) (i:Nat) (h:i<l.length):chn (Bwa l i) (l.drop i)=(nOk (l.getD i Il)&&(bif decide (0<i) then tlt (l.getD (i-1) Il).1 (l.getD i Il).1 else true)&&chn (Bwa l (i+1)) (l.drop (i+1))):=by
 rw[Co (d:=Il) h]
 cases i with
 |zero=>simp[Bwa,chn]
 |succ i=>simp[Bwa,chn,E0b]
def Bxa (l:List Nmd) (hf:l.length≤1000000000000) (hs:Bva l):∀ (n i:Nat),l.length-i=n→i≤l.length→
  Tot (λ k=>D6 k l l (l.length:Int) (i:Int)) (λ r=>r=bif chn (Bwa l i) (l.drop i) then .inr l else .inl false):=by
 intro n
 induction n with
 |zero=>
  intro i hn hi;refine Tot.succ ?_;simp only[D6];refine Avb (by omega) (Aqb ?_);rw[Yp (by omega)]
  cases Bwa l i<;>rfl
 |succ n ih=>
  intro i hn hi
  have hlt:i<l.length:=by omega
  refine Tot.succ ?_;simp only[D6];refine Aub (by omega) (Aub (by omega) (Aub (by omega) ?_));rw[show toNat (i:Int)=i from Vm i,w64 (n:=(i:Int)+1) (by omega) (by omega),Qva l i hlt];have h1:=ih (i+1) (by omega) (by omega)
  have e:(((i+1:Nat)):Int)=(i:Int)+1:=by omega
  rw[e]at h1;have e0:l.getD i ((⟨#[]⟩:ByteArray),([]:List Int))=l.getD i Il:=rfl;rw[e0];refine B1b (J4 (l.getD i Il).1 (hs _ (A3 hlt))) ?_;cases hb:B2 (l.getD i Il).1
  ·exact Atb rfl (Aqb (by rw[show nOk (l.getD i Il)=false by unfold nOk;rw[hb];rfl];rfl))
  refine Asb rfl ?_;refine Axb (λ h4=>Aqb (by rw[show nOk (l.getD i Il)=false by unfold nOk;rw[decide_eq_true h4,hb];rfl];rfl)) (λ h4=>?_)
  have hnk:nOk (l.getD i Il)=true:=by unfold nOk;rw[hb,decide_eq_false h4];rfl
  rw[hnk,Wf];refine Axb (λ h0=>?_) (λ h0=>?_)
  ·rw[w64 (n:=(i:Int)-1) (by omega) (by omega)];refine Aub (by omega) (Aub (by omega) ?_);rw[show toNat ((i:Int)-1)=i-1 by omega,decide_eq_true (show 0<i by omega),cond_true];refine Awb (λ ht=>?_) (λ ht=>?_)
   ·have ht':(!(tlt (l.getD (i-1) Il).1 (l.getD i Il).1))=true:=ht;rw[Wa]at ht';exact Aqb (by rw[ht'];rfl)
   ·have ht':(!(tlt (l.getD (i-1) Il).1 (l.getD i Il).1))=false:=ht;rw[Yg]at ht';rw[ht',Wf];exact h1
  ·rw[decide_eq_false (show ¬ 0<i by omega),cond_false,Wf];exact h1
def Bya (l:List Nmd) (hf:l.length≤1000000000000) (hs:Bva l):Tot (λ k=>Cu k l) (λ r=>r=Gb l):=by
 unfold Cu Gb;refine B1b (Bxa l hf hs _ 0 rfl (Vw _)) ?_;rw[Yu];show Tot _ (λ r=>r=(chn none l&&_))
 cases hc:chn none l with
 |true=>rw[show chn (Bwa l 0) l=true from hc];exact Aqb (by rw[Wf])
 |false=>rw[show chn (Bwa l 0) l=false from hc];exact Aqb rfl
def Nn (d:Dsk) (hf:Zda d) (hs:Mya d):Tot (λ k=>Bb k d) (λ r=>r=Bx d):=by
 unfold Bb Bx;refine B1b (Bya d.1 hf.1.1 hs.1) ?_;cases h:Gb d.1
 ·exact Asb rfl (Aqb rfl)
 refine Atb rfl (B1b (Bya d.2 hf.2.1 hs.2) ?_);exact Aqb (by rw[Wf])
def plc (l:List Nmd) (s:ByteArray):Nat:=(l.takeWhile (λ y=>tlt y.1 s)).length
def ins (l:List Nmd) (x:Nmd):List Nmd:=l.take (plc l x.1)++[x]++l.drop (plc l x.1)
def T3a (l:List Nmd) (s:ByteArray):plc l s≤l.length:=(Dpb _).length_le
def Ena (l:List Nmd) (s:ByteArray) (b:List Int) (hf:l.length≤1000000000000):∀ (n i:Nat),l.length-i=n→i≤l.length→
  Tot (λ k=>G7 k l (i:Int) s b) (λ r=>r=(l,((i+plc (l.drop i) s:Nat):Int),s,b)):=by
 intro n
 induction n with
 |zero=>
  intro i hd hi;refine Tot.succ ?_;simp only[G7];refine Avb (by omega) (Aqb ?_);rw[Yp (by omega)];rfl
 |succ n ih=>
  intro i hd hi
  have hlt:i<l.length:=by omega
  refine Tot.succ ?_;simp only[G7];refine Aub (by omega) (Aub (by omega) (Aub (by omega) ?_));rw[show toNat (i:Int)=i from Vm i,w64 (n:=(i:Int)+1) (by omega) (by omega),Co (d:=Il) hlt];have e0:l.getD i ((⟨#[]⟩:ByteArray),([]:List Int))=l.getD i Il:=rfl;rw[e0]
  have e1:plc (l.getD i Il::l.drop (i+1)) s=if tlt (l.getD i Il).1 s then plc (l.drop (i+1)) s+1 else 0:=by
   unfold plc;rw[Zo]
   split<;>rfl
  rw[e1];refine Awb (λ h=>?_) (λ h=>?_)
  ·have h':tlt (l.getD i Il).1 s=true:=h;rw[if_pos h'];refine(ih (i+1) (by omega) (by omega)).mono ?_;rintro r rfl;rw[show i+1+plc (l.drop (i+1)) s=i+(plc (l.drop (i+1)) s+1) by omega]
  ·have h':¬ (tlt (l.getD i Il).1 s=true):=by
    have:tlt (l.getD i Il).1 s=false:=h;rw[this];simp
   rw[if_neg h'];exact Aqb rfl
def Gxa (l:List Nmd) (x:Nmd) (hf:l.length≤1000000000000):Tot (λ k=>H4 k l x) (λ r=>r=ins l x):=by
 unfold H4 ins;refine Arb (Ena l x.1 x.2 hf _ 0 rfl (Nat.zero_le _)) ?_;intro r hr;rw[List.drop_zero,Nat.zero_add]at hr;subst hr;have hp:=T3a l x.1;dsimp only;refine Aub (by omega) (Aub (by omega) ?_);rw[show toNat ((plc l x.1:Nat):Int)=plc l x.1 from Int.toNat_natCast _];refine Ayb (by simp only[List.length_nil,List.length_take];omega) ?_;refine Ayb (by simp only[List.length_append,List.length_nil,List.length_take,List.length_cons];omega) ?_;refine Aub (by omega) (Aub (by omega) (Ayb (by simp only[List.length_append,List.length_nil,List.length_take,List.length_drop,List.length_cons];omega) (Aqb ?_)));rw[List.nil_append]

def cut (l:List Nmd) (s:ByteArray):List Nmd:=l.filter (λ x => !(teq x.1 s))

def rdN (l:List Nmd) (s:ByteArray):List Int×Bool:=match fnd l s with
 |some i=>((l.getD i Il).2,true)
 |none=>([],false)
def Gya (d:Dsk) (s:ByteArray) (hf:T2a d.1):Tot (λ k=>Dj k d s) (λ r=>r=rdN d.1 s):=by
 unfold Dj rdN;refine B1b (Gwa d.1 s hf.1) ?_;unfold Vja;have hl1:=hf.1
 cases h:fnd d.1 s with
 |none=>exact Aub (by decide) (Aqb rfl)
 |some i=>
  have hl:=(Qw h).1;dsimp only;refine Avb (by omega) (Aub (by omega) (Aub (by omega) ?_));rw[show toNat (i:Int)=i from Int.toNat_natCast i];have hb:=hf.2 _ (A3 (d:=Il) hl);refine B1b (B2b (Q:=λ r=>r=(d.1.getD i Il).2) (Hq _ hb) rfl) ?_;exact Aqb rfl

def Ct (l:List Nmd):Prop:=l.Pairwise (λ a b=>tlt a.1 b.1=true)
def Eoa:∀ (p:Option ByteArray) (l:List Nmd),chn p l=true↔Ct l∧(∀ r∈l,nOk r=true)∧(∀ q,p=some q→∀ r∈l,tlt q r.1=true)
 |p,[]=>by
  have:chn p []=true:=by cases p<;>rfl
  simp[this,Ct]
 |none,r::l=>by
  simp only[chn,Va,Eoa (some r.1) l,Ct,Wd];constructor
  ·rintro⟨h1,h2,h3,h4⟩;exact⟨⟨λ a ha=>h4 _ rfl a ha,h2⟩,λ a ha=>by rcases Vk.1 ha with rfl|ha;exact h1;exact h3 a ha,λ q hq=>by cases hq⟩
  ·rintro⟨⟨h1,h2⟩,h3,_⟩;exact⟨h3 r (by simp),h2,λ a ha=>h3 a (Vd _ ha),λ q hq a ha=>by cases hq;exact h1 a ha⟩
 |some q,r::l=>by
  simp only[chn,Va,Eoa (some r.1) l,Ct,Wd];constructor
  ·rintro⟨h1,h0,h2,h3,h4⟩;refine⟨⟨λ a ha=>h4 _ rfl a ha,h2⟩,λ a ha=>by rcases Vk.1 ha with rfl|ha;exact h1;exact h3 a ha,λ q' hq a ha=>?_⟩;cases hq;rcases Vk.1 ha with rfl|ha
   ·exact h0
   ·exact I3 h0 (h4 _ rfl a ha)
  ·rintro⟨⟨h1,h2⟩,h3,h4⟩;exact⟨h3 r (by simp),h4 q rfl r (by simp),h2,λ a ha=>h3 a (Vd _ ha),λ q' hq a ha=>by cases hq;exact h1 a ha⟩
def B3 {l:List Nmd}:Gb l=true↔Ct l∧(∀ r∈l,nOk r=true)∧l.length≤60:=by
 unfold Gb;simp only[Va,Eoa,decide_eq_true_eq];constructor
 ·rintro⟨⟨h1,h2,_⟩,h3⟩;exact⟨h1,h2,by omega⟩
 ·rintro⟨h1,h2,h3⟩;exact⟨⟨h1,h2,λ q hq=>by cases hq⟩,by omega⟩
def Mz {x:Nmd}:nOk x=true↔B2 x.1=true∧x.2.length≤400:=by
 unfold nOk;simp only[Va,Wa,decide_eq_false_iff_not];constructor
 ·rintro⟨h1,h2⟩;exact⟨h1,by omega⟩
 ·rintro⟨h1,h2⟩;exact⟨h1,by omega⟩
def Qx {l:List Nmd} (h:Gb l=true):T2a l∧Bva l:=by
 obtain⟨_,h2,h3⟩:=B3.1 h;refine⟨⟨by omega,λ x hx=>by have:=(Mz.1 (h2 x hx)).2;omega⟩,λ x hx=>?_⟩;have:=Td (Mz.1 (h2 x hx)).1;unfold Kj;omega
def Gza (y:Nmd) (l:List Nmd) (s:ByteArray):fnd (y::l) s=if teq y.1 s then some 0 else (fnd l s).map (· + 1):=by
 unfold fnd;rw[List.findIdx?_cons]
def Qwa {l:List Nmd} {s:ByteArray}:fnd l s=none↔∀ x∈l,x.1≠s:=by
 unfold fnd;rw[List.findIdx?_eq_none_iff];constructor
 ·intro h x hx e;have:=h x hx;rw[C8.2 e]at this;cases this
 ·intro h x hx
  cases ht:teq x.1 s with
  |false=>rfl
  |true=>exact absurd (C8.1 ht) (h x hx)
def N0:∀ {l:List Nmd} {s:ByteArray},Ct l→del l s=cut l s
 |[],s,_=>rfl
 |y::l,s,h=>by
  have hc:=Wd.1 h;have ih:=N0 (l:=l) (s:=s) hc.2;unfold del cut at *;rw[Gza,B5b]
  cases ht:teq y.1 s with
  |true=>
   have hno:∀ x∈l,(!(teq x.1 s))=true:=λ x hx=>by
    cases hx2:teq x.1 s
    ·rfl
    have e1:=C8.1 ht;have e2:=C8.1 hx2;have:=hc.1 x hx;rw[e1,e2,Eu]at this;cases this
   rw[if_pos rfl,if_neg (by simp)];show []++l=_;rw[Wl,List.filter_eq_self.2 hno]
  |false=>
   rw[if_neg (by simp),if_pos (show (!false)=true from rfl),← ih]
   cases hf:fnd l s with
   |none=>rfl
   |some i=>rfl
def Iy {l:List Nmd} {s:ByteArray} (h:Ct l):Ct (cut l s):=h.sublist Cbb
def Tf {l:List Nmd} {s:ByteArray}:(cut l s).Sublist l:=Cbb
def Qy {l:List Nmd} {s:ByteArray} (h:Gb l=true):Gb (cut l s)=true:=by
 obtain⟨h1,h2,h3⟩:=B3.1 h;exact B3.2 ⟨Iy h1,λ x hx=>h2 x (Tf.subset hx),by have:=(Tf (l:=l) (s:=s)).length_le;omega⟩
def Vka {l:List Nmd} {s:ByteArray} {i:Nat} (h:fnd l s=some i):(del l s).length+1=l.length:=by
 have hl:=(Qw h).1;unfold del;rw[h];simp only[Vi,Vq,We];omega

section
open Go
end

def ptl (x:Nmd):Bool→List Nmd→List Nmd
 |p,[]=>bif p then [] else [x]
 |p,y::l=>(bif !p&&!(tlt y.1 x.1) then [x] else [])++((bif !(teq y.1 x.1) then [y] else [])++ptl x (p||!(tlt y.1 x.1)) l)
def Qxa (x:Nmd):∀ (l:List Nmd),ptl x true l=cut l x.1:=by
 intro l
 induction l with
 |nil=>rfl
 |cons a l ih=>
  simp only[ptl,Za,Ze,cond_false,Wl,Bool.true_or,ih,cut,B5b]
  cases teq a.1 x.1<;>simp
def Iza (x:Nmd):∀ {l:List Nmd},Ct l→ptl x false l=ins (cut l x.1) x:=by
 intro l
 induction l with
 |nil=>intro _;rfl
 |cons a l ih=>
  intro h;have hl:Ct l:=(Wd.1 h).2;have ha:=(Wd.1 h).1;simp only[ptl,Zs,Wf,Dmb]
  cases ht:tlt a.1 x.1 with
  |true=>
   have he:teq a.1 x.1=false:=by
    cases hq:teq a.1 x.1 with
    |false=>rfl
    |true=>rw[(C8.1 hq),Eu]at ht;cases ht
   simp only[he,Za,Zs,cond_false,cond_true,Wl,ih hl,cut,B5b,if_true];unfold ins plc;rw[Zo,if_pos ht];rfl
  |false=>
   have hc:plc (cut (a::l) x.1) x.1=0:=by
    unfold plc cut;rw[List.length_eq_zero_iff];rw[B5b];cases hq:teq a.1 x.1
    ·rw[Zs,if_pos rfl,Zo,if_neg (by rw[ht];simp)]
    have hx:=(C8.1 hq);simp only[Za,Wn,if_false]
    cases hf:l.filter (λ y => !(teq y.1 x.1)) with
    |nil=>rfl
    |cons b m=>
     have hb:b∈l:=by
      have:b∈l.filter (λ y => !(teq y.1 x.1)):=by rw[hf];exact Wo
      exact(Bcb.1 this).1
     have hab:=ha b hb;rw[hx]at hab;rw[Zo,if_neg (by rw[Pg hab];simp)]
   simp only[Zs,cond_true,Qxa];unfold ins;rw[hc];simp only[B7b,Wl,Yu,cut,B5b]
   cases teq a.1 x.1<;>simp

def DIn (d:Dsk):Prop:=(Zda d∧Mya d)∧d.1.length≤2000000∧d.2.length≤2000000
def Tg {d:Dsk} (h:Bx d=true):DIn d:=by
 unfold Bx at h;rw[Va]at h;have h1:=Qx h.1;have h2:=Qx h.2;exact⟨⟨⟨h1.1,h2.1⟩,h1.2,h2.2⟩,by have:=(B3.1 h.1).2.2;omega,by have:=(B3.1 h.2).2.2;omega⟩
def J0a (d:Dsk) (s:ByteArray) (hd:Zda d∧Mya d):Tot (λ k=>Da k d s) (λ r=>r=bif (fnd d.1 s).isSome&&Bx d then ((del d.1 s,d.2),true) else (d,false)):=by
 unfold Da;refine Arb (Fu d hd.1) ?_;rintro r rfl;refine Arb (Nn r hd.1 hd.2) ?_;rintro b rfl;cases h1:Bx r
 ·refine Atb rfl (Aqb ?_);rw[Yn];rfl
 refine Asb rfl (Arb (Gwa r.1 s hd.1.1.1) ?_);rintro i rfl;unfold Vja
 cases h:fnd r.1 s with
 |none=>exact Aub (by decide) (Aqb rfl)
 |some i=>
  dsimp only;refine Avb (by omega) (Arb (Pk r.1 s hd.1.1.1) ?_);rintro c rfl;exact Aqb rfl
def syI (d:Dsk) (s:ByteArray):List Nmd:=match fnd d.1 s with
 |some i=>ins (del d.2 s) (s,(d.1.getD i Il).2)
 |none=>del d.2 s
def V7 (l:List Nmd) (s:ByteArray):(del l s).length≤l.length:=by
 cases h:fnd l s with
 |none=>unfold del;rw[h];exact Vv _
 |some i=>have:=Vka h;omega
def Vla (l:List Nmd) (x:Nmd):(ins l x).length=l.length+1:=by
 unfold ins;have:=T3a l x.1;simp only[Vi,Vq,We,Vh,Vs];omega
def Qya (d:Dsk) (s:ByteArray) (hd:DIn d) (hs:Kj s):Tot (λ k=>Bh k d s) (λ r=>r=bif Bx d&&(B2 s&&decide ((syI d s).length≤60)) then ((d.1,syI d s),true) else (d,false)):=by
 unfold Bh;refine Arb (Fu d hd.1.1) ?_;rintro r rfl;refine Arb (Nn r hd.1.1 hd.1.2) ?_;rintro b rfl;cases h1:Bx r
 ·exact Atb rfl (Aqb rfl)
 refine Asb rfl (Arb (J4 s hs) ?_);rintro b rfl;cases h2:B2 s
 ·exact Atb rfl (Aqb rfl)
 refine Asb rfl (Arb (Pk r.2 s hd.1.1.2.1) ?_);rintro c rfl;refine Arb (Gwa r.1 s hd.1.1.1.1) ?_;rintro i rfl;have hdl:=V7 r.2 s;have hr2:=hd.2.2;have hr1:=hd.2.1
 have e:∀ o,o=syI r s→o.length≤4000000→Tot (λ k=>cond (decide ((length o:Int) > 60)) ((A5 k r).bind λ r9=>some (r9,false)) (some ((r.1,o),true))) (λ q=>q=bif true&&(true&&decide ((syI r s).length≤60)) then ((r.1,syI r s),true) else (r,false)):=by
  rintro o rfl _;refine Axb (λ h=>?_) (λ h=>?_)
  ·refine Arb (Fu r hd.1.1) ?_;rintro q rfl;refine Aqb ?_;rw[decide_eq_false (by omega)];rfl
  ·refine Aqb ?_;rw[decide_eq_true (by omega)];rfl
 unfold Vja
 cases h:fnd r.1 s with
 |none=>
  refine Avb (by decide) (e _ ?_ (by omega));unfold syI;rw[h]
 |some i=>
  have hl:=(Qw h).1;dsimp only;refine Aub (by omega) (Aub (by omega) (Aub (by omega) ?_));rw[show toNat (i:Int)=i from Int.toNat_natCast i];have hb:=hd.1.1.1.2 _ (A3 (d:=Il) hl);refine Arb (B2b (Q:=λ q=>q=(r.1.getD i Il).2) (Hq _ hb) rfl) ?_;rintro q rfl;refine Arb (Gxa (del r.2 s) (s,(r.1.getD i Il).2) (by omega)) ?_;rintro o rfl;refine e _ ?_ (by rw[Vla];omega);unfold syI;rw[h]

section
open Go
end

section
open Go
end

def Nw (p:Nmd→Bool):∀ l:List Nmd,l.take (l.takeWhile p).length=l.takeWhile p∧l.drop (l.takeWhile p).length=l.dropWhile p
 |[]=>⟨rfl,rfl⟩
 |y::l=>by
  obtain⟨h1,h2⟩:=Nw p l;simp only[Zo,Ccb]
  cases p y with
  |true=>simp[h1,h2]
  |false=>simp
def Bza {p:Nmd→Bool}:∀ {l:List Nmd} {y:Nmd},y∈l.takeWhile p→p y=true
 |[],y,h=>by simp at h
 |z::l,y,h=>by
  simp only[Zo]at h;cases hz:p z
  ·rw[hz]at h;simp at h
  rw[hz]at h;simp only[if_true]at h;rcases Vk.1 h with rfl|h
  ·exact hz
  ·exact Bza h
def T4a (l:List Nmd) (x:Nmd):ins l x=l.takeWhile (λ y=>tlt y.1 x.1)++([x]++l.dropWhile (λ y=>tlt y.1 x.1)):=by
 unfold ins plc;obtain⟨h1,h2⟩:=Nw (λ y=>tlt y.1 x.1) l;rw[h1,h2,Vo]
def V8 {x:Nmd}:∀ {l:List Nmd},Ct l→(∀ y∈l,y.1≠x.1)→∀ z∈l.dropWhile (λ y=>tlt y.1 x.1),tlt x.1 z.1=true
 |[],_,_,z,hz=>by simp at hz
 |y::l,hs,hn,z,hz=>by
  obtain⟨h1,h2⟩:=Wd.1 hs;simp only[Ccb]at hz
  cases hy:tlt y.1 x.1 with
  |true=>
   rw[hy]at hz;simp only[if_true]at hz;exact V8 h2 (λ w hw=>hn w (Vd _ hw)) z hz
  |false=>
   rw[hy]at hz;simp only[Wn,if_false]at hz
   have hxy:tlt x.1 y.1=true:=by
    cases hh:tlt x.1 y.1 with
    |true=>rfl
    |false=>exact absurd (T5 hy hh) (hn y (by simp))
   rcases Vk.1 hz with rfl|hz
   ·exact hxy
   ·exact I3 hxy (h1 z hz)
def No {l:List Nmd} {x:Nmd} (hs:Ct l) (hn:∀ y∈l,y.1≠x.1):Ct (ins l x):=by
 rw[T4a]
 have hs':Ct (l.takeWhile (λ y=>tlt y.1 x.1)++l.dropWhile (λ y=>tlt y.1 x.1)):=by rw[Brb];exact hs
 obtain⟨h1,h2,h3⟩:=Zg.1 hs';have h4:∀ y∈l.takeWhile (λ y=>tlt y.1 x.1),tlt y.1 x.1=true:=λ y hy=>Bza (p:=λ y=>tlt y.1 x.1) hy;refine Zg.2 ⟨h1,Wd.2 ⟨λ z hz=>V8 hs hn z hz,h2⟩,λ a ha b hb=>?_⟩;rcases Vk.1 hb with rfl|hb
 ·exact h4 a ha
 ·exact h3 a ha b hb
def Qk {l:List Nmd} {x y:Nmd}:y∈ins l x↔y=x∨y∈l:=by
 rw[T4a];have e:=Brb (p:=λ y:Nmd=>tlt y.1 x.1) (l:=l);constructor
 ·intro h;rcases Vl.1 h with h|h
  ·right;rw[← e];exact Vy _ h
  ·rcases Vk.1 h with h|h
   ·exact .inl h
   ·right;rw[← e];exact Vn _ h
 ·rintro (rfl|h)
  ·exact Vn _ (by simp)
  ·rw[← e]at h;rcases Vl.1 h with h|h
   ·exact Vy _ h
   ·exact Vn _ (Vd _ h)
def T5a {l:List Nmd} {x:Nmd} (hl:Gb l=true) (hn:∀ y∈l,y.1≠x.1) (hx:nOk x=true):Gb (ins l x)=decide ((ins l x).length≤60):=by
 obtain⟨h1,h2,h3⟩:=B3.1 hl
 by_cases h:(ins l x).length≤60
 ·rw[decide_eq_true h];exact B3.2 ⟨No h1 hn,λ y hy=>by rcases Qk.1 hy with rfl|hy;exact hx;exact h2 y hy,h⟩
 ·rw[decide_eq_false h]
  cases hc:Gb (ins l x) with
  |false=>rfl
  |true=>exact absurd (B3.1 hc).2.2 h
def Th {l:List Nmd} {s:ByteArray}:∀ y∈cut l s,y.1≠s:=λ y hy e=>by
 have:=(Bcb.1 hy).2;simp[e,C8.2 rfl]at this
def Vma {d:Dsk} {s:ByteArray} (hd:Bx d=true) (hs:B2 s=true):Bx (d.1,syI d s)=decide ((syI d s).length≤60):=by
 have hd':=hd;unfold Bx at hd';rw[Va]at hd';have h2:=B3.1 hd'.2;unfold Bx;rw[hd'.1,Wf];unfold syI;rw[N0 h2.1]
 cases h:fnd d.1 s with
 |none=>show Gb (cut d.2 s)=decide ((cut d.2 s).length≤60);rw[Qy hd'.2,decide_eq_true (B3.1 (Qy (s:=s) hd'.2)).2.2]
 |some i=>
  refine T5a (Qy hd'.2) Th (Mz.2 ⟨hs,?_⟩);have h1:=(B3.1 hd'.1).2.1 _ (A3 (d:=Il) (Qw h).1);exact(Mz.1 h1).2
def Vna {l:List Nmd} (hs:Ct l) {x y:Nmd} (hx:x∈l) (hy:y∈l) (e:x.1=y.1):x=y:=by
 induction l with
 |nil=>simp at hx
 |cons z l ih=>
  obtain⟨h1,h2⟩:=Wd.1 hs;rcases Vk.1 hx with hx'|hx'
  ·rcases Vk.1 hy with hy'|hy'
   ·rw[hx',hy']
   ·have:=h1 y hy';rw[← hx',e,Eu]at this;cases this
  ·rcases Vk.1 hy with hy'|hy'
   ·have:=h1 x hx';rw[← hy',e,Eu]at this;cases this
   ·exact ih h2 hx' hy'

def wrI (d:Dsk) (s:ByteArray) (b:List Int):List Nmd:=ins (del d.1 s) (s,b)
def Mza (d:Dsk) (s:ByteArray) (b:List Int) (hd:DIn d) (hs:Kj s) (hb:b.length≤1000000000000):Tot (λ k=>Cr k d s b) (λ r=>r=bif Bx d&&(B2 s&&(decide (b.length≤400)&&decide ((wrI d s b).length≤60))) then ((wrI d s b,d.2),true) else (d,false)):=by
 unfold Cr;refine Arb (Fu d hd.1.1) ?_;rintro r rfl;refine Arb (Nn r hd.1.1 hd.1.2) ?_;rintro b1 rfl;cases h1:Bx r
 ·exact Atb rfl (Aqb rfl)
 refine Asb rfl (Arb (J4 s hs) ?_);rintro b2 rfl;cases h2:B2 s
 ·exact Atb rfl (Aqb rfl)
 refine Asb rfl (Axb (λ h=>?_) (λ h=>?_))
 ·rw[decide_eq_false (show ¬ b.length≤400 by omega)];exact Aqb rfl
 ·rw[decide_eq_true (show b.length≤400 by omega)];refine Arb (Pk r.1 s hd.1.1.1.1) ?_;rintro c rfl;refine Arb (B2b (Q:=λ x=>x=b) (Hq b hb) rfl) ?_;rintro e rfl;have hdl:=V7 r.1 s;refine Arb (Gxa (del r.1 s) (s,e) (by have:=hd.2.1;omega)) ?_;rintro m rfl;refine Axb (λ h=>?_) (λ h=>?_)
  ·rw[decide_eq_false (show ¬ (wrI r s e).length≤60 by unfold wrI;omega)];refine Arb (Fu r hd.1.1) ?_;rintro x rfl;exact Aqb rfl
  ·rw[decide_eq_true (show (wrI r s e).length≤60 by unfold wrI;omega)];exact Aqb rfl
def Qza {d:Dsk} {s:ByteArray} {b:List Int} (hd:Bx d=true) (hs:B2 s=true):ptl (s,b) false d.1=wrI d s b∧Bx (wrI d s b,d.2)=(decide (b.length≤400)&&decide ((wrI d s b).length≤60)):=by
 have hd':=hd;unfold Bx at hd';rw[Va]at hd';have h1:=B3.1 hd'.1
 have e1:wrI d s b=ins (cut d.1 s) (s,b):=by unfold wrI;rw[N0 h1.1]
 refine⟨by rw[e1];exact Iza _ h1.1,?_⟩;unfold Bx;rw[hd'.2,B8b,e1]
 by_cases hb:b.length≤400
 ·rw[decide_eq_true hb,Wf];exact T5a (Qy hd'.1) Th (Mz.2 ⟨hs,hb⟩)
 ·rw[decide_eq_false hb,Ze]
  cases hc:Gb (ins (cut d.1 s) (s,b)) with
  |false=>rfl
  |true=>exact absurd (Mz.1 ((B3.1 hc).2.1 (s,b) (Qk.2 (.inl rfl)))).2 hb

def TS (l:List ByteArray):Prop:=l.Pairwise (λ a b=>tlt a b=true)
def pk (l:List Nmd) (s:ByteArray):Option Nmd:=match fnd l s with
 |some i=>some (l.getD i Il)
 |none=>none
def Li:ByteArray:=⟨#[]⟩
def tpl (l:List ByteArray) (s:ByteArray):Nat:=(l.takeWhile (λ y=>tlt y s)).length
def wt (l:List ByteArray) (s:ByteArray):List ByteArray:=if tpl l s<l.length∧teq (l.getD (tpl l s) Li) s=true then l else l.take (tpl l s)++[s]++l.drop (tpl l s)
def T6a (l:List ByteArray) (s:ByteArray):tpl l s≤l.length:=(Dpb _).length_le
def Rc (l:List ByteArray) (s:ByteArray) (hf:l.length≤1000000000000):∀ (n i:Nat),l.length-i=n→i≤l.length→
  Tot (λ k=>D9 k l s (i:Int)) (λ r=>r=(l,s,((i+tpl (l.drop i) s:Nat):Int))):=by
 intro n
 induction n with
 |zero=>
  intro i hd hi;refine Tot.succ ?_;simp only[D9];refine Avb (by omega) (Aqb ?_);rw[Yp (by omega)];rfl
 |succ n ih=>
  intro i hd hi
  have hlt:i<l.length:=by omega
  refine Tot.succ ?_;simp only[D9];refine Aub (by omega) (Aub (by omega) (Aub (by omega) ?_));rw[show toNat (i:Int)=i from Vm i,w64 (n:=(i:Int)+1) (by omega) (by omega),Co (d:=Li) hlt];have e0:l.getD i (⟨#[]⟩:ByteArray)=l.getD i Li:=rfl;rw[e0]
  have e1:tpl (l.getD i Li::l.drop (i+1)) s=if tlt (l.getD i Li) s then tpl (l.drop (i+1)) s+1 else 0:=by
   unfold tpl;rw[Zo]
   split<;>rfl
  rw[e1];refine Awb (λ h=>?_) (λ h=>?_)
  ·have h':tlt (l.getD i Li) s=true:=h;rw[if_pos h'];refine(ih (i+1) (by omega) (by omega)).mono ?_;rintro r rfl;rw[show i+1+tpl (l.drop (i+1)) s=i+(tpl (l.drop (i+1)) s+1) by omega]
  ·have h':¬ (tlt (l.getD i Li) s=true):=by
    have:tlt (l.getD i Li) s=false:=h;rw[this];simp
   rw[if_neg h'];exact Aqb rfl
def Y3 (l:List ByteArray) (s:ByteArray) (hf:l.length≤1000000000):Tot (λ k=>El k l s) (λ r=>r=wt l s):=by
 unfold El;refine Arb (Rc l s (by omega) _ 0 rfl (Nat.zero_le _)) ?_;intro r hr;rw[List.drop_zero,Nat.zero_add]at hr;subst hr;have hj:=T6a l s;generalize hjj:tpl l s=j at *;dsimp only
 have hno:¬ (j<l.length∧teq (l.getD j Li) s=true)→Tot (λ k=>cond (decide ((0:Int)≤(j:Int))) (cond (decide ((j:Int)≤(length l:Int))) (cond (Nat.ble ((length ([]:List ByteArray)+length (List.take (toNat (j:Int)) l))*16) 140737488355328) (let v3:List ByteArray:=([]:List ByteArray)++(List.take (toNat (j:Int)) l);cond (Nat.ble ((length v3+length [s])*16) 140737488355328) (cond (decide ((0:Int)≤(j:Int))) (cond (decide ((j:Int)≤(length l:Int))) (cond (Nat.ble ((length (v3++[s])+length (List.drop (toNat (j:Int)) l))*16) 140737488355328) (some ((v3++[s])++(List.drop (toNat (j:Int)) l))) none) none) none) none) none) none) none)
   (λ r=>r=wt l s):=by
  intro hn;refine Aub (by omega) (Aub (by omega) ?_);rw[show toNat (j:Int)=j from Vm j];refine Ayb (by simp only[Vs,Vq];omega) ?_;refine Ayb (by simp only[Vi,Vs,Vq,Vh];omega) ?_;refine Aub (by omega) (Aub (by omega) (Ayb (by simp only[Vi,Vs,Vq,We,Vh];omega) (Aqb ?_)));unfold wt;rw[hjj,if_neg hn,Wl]
 refine Axb (λ h=>?_) (λ h=>hno (λ hh=>h (by omega)));refine Aub (by omega) (Aub h ?_);rw[show toNat (j:Int)=j from Vm j]at *;refine Awb (λ he=>Aqb ?_) (λ he=>hno (λ hh=>?_))
 ·unfold wt;rw[hjj,if_pos ⟨by omega,he⟩]
 ·have h2:teq (l.getD j Li) s=false:=he;rw[h2]at hh;cases hh.2
def T7a {l:List ByteArray} {s y:ByteArray}:y∈wt l s↔y=s∨y∈l:=by
 unfold wt
 by_cases h:tpl l s<l.length∧teq (l.getD (tpl l s) Li) s=true
 ·rw[if_pos h];refine⟨.inr,λ h'=>?_⟩;rcases h' with rfl|h'
  ·have:=A3 (d:=Li) h.1;rwa [C8.1 h.2]at this
  ·exact h'
 ·rw[if_neg h];have e:l.take (tpl l s)++l.drop (tpl l s)=l:=Wh _ _;constructor
  ·intro h';rw[Vo]at h';rcases Vl.1 h' with h'|h'
   ·right;rw[← e];exact Vy _ h'
   ·rcases Vl.1 h' with h'|h'
    ·left;simpa using h'
    ·right;rw[← e];exact Vn _ h'
  ·rintro (rfl|h')
   ·simp
   ·rw[← e]at h'
    rcases Vl.1 h' with h'|h'<;>simp[h']
def H0a (p:ByteArray→Bool):∀ l:List ByteArray,l.take (l.takeWhile p).length=l.takeWhile p∧l.drop (l.takeWhile p).length=l.dropWhile p
 |[]=>⟨rfl,rfl⟩
 |y::l=>by
  obtain⟨h1,h2⟩:=H0a p l;simp only[Zo,Ccb]
  cases p y with
  |true=>simp[h1,h2]
  |false=>simp
def V9 {p:ByteArray→Bool}:∀ {l:List ByteArray} {y:ByteArray},y∈l.takeWhile p→p y=true
 |[],y,h=>by simp at h
 |z::l,y,h=>by
  simp only[Zo]at h;cases hz:p z
  ·rw[hz]at h;simp at h
  rw[hz]at h;simp only[if_true]at h;rcases Vk.1 h with rfl|h
  ·exact hz
  ·exact V9 h
def Ti {s:ByteArray}:∀ {l:List ByteArray},TS l→(∀ y r,l.dropWhile (λ y=>tlt y s)=y::r→y≠s)→∀ z∈l.dropWhile (λ y=>tlt y s),tlt s z=true
 |[],_,_,z,hz=>by simp at hz
 |y::l,hs,hn,z,hz=>by
  obtain⟨h1,h2⟩:=Wd.1 hs;simp only[Ccb]at hz hn
  cases hy:tlt y s with
  |true=>
   rw[hy]at hz hn;simp only[if_true]at hz hn;exact Ti h2 hn z hz
  |false=>
   rw[hy]at hz hn;simp only[Wn,if_false]at hz hn
   have hxy:tlt s y=true:=by
    cases hh:tlt s y with
    |true=>rfl
    |false=>exact absurd (T5 hy hh) (hn y l rfl)
   rcases Vk.1 hz with rfl|hz
   ·exact hxy
   ·exact I3 hxy (h1 z hz)
def N0a {l:List ByteArray} {s:ByteArray} (hs:TS l):TS (wt l s):=by
 unfold wt
 by_cases h:tpl l s<l.length∧teq (l.getD (tpl l s) Li) s=true
 ·rw[if_pos h];exact hs
 ·rw[if_neg h];obtain⟨e1,e2⟩:=H0a (λ y=>tlt y s) l
  have hd:∀ y r,l.dropWhile (λ y=>tlt y s)=y::r→y≠s:=by
   intro y r hr hy;rw[← e2]at hr
   have hlt:tpl l s<l.length:=by
    rcases Bxb (tpl l s) l.length with h'|h'
    ·exact h'
    ·have:l.drop (tpl l s)=[]:=Yp h';unfold tpl at this;rw[this]at hr;cases hr
   have:l.drop (tpl l s)=l.getD (tpl l s) Li::l.drop (tpl l s+1):=Co hlt;unfold tpl at this;rw[this]at hr;simp only[Yh]at hr;exact h ⟨hlt,C8.2 (hr.1.trans hy)⟩
  have e1':l.take (tpl l s)=l.takeWhile (λ y=>tlt y s):=e1;have e2':l.drop (tpl l s)=l.dropWhile (λ y=>tlt y s):=e2;rw[e1',e2',Vo]
  have hs':TS (l.takeWhile (λ y=>tlt y s)++l.dropWhile (λ y=>tlt y s)):=by rw[Brb];exact hs
  obtain⟨h1,h2,h3⟩:=Zg.1 hs';refine Zg.2 ⟨h1,Wd.2 ⟨λ z hz=>Ti hs hd z hz,h2⟩,λ a ha b hb=>?_⟩;rcases Vk.1 hb with rfl|hb
  ·exact V9 (p:=λ y=>tlt y b) ha
  ·exact h3 a ha b hb

def T8a {l:List ByteArray} {s:ByteArray}:(wt l s).length≤l.length+1:=by
 unfold wt;have:=T6a l s;split
 ·omega
 ·simp only[Vi,Vq,We,Vh,Vs];omega

section
variable {α σ R:Type} {a b:α} {p:Prop} [Decidable p]
def dT (h:p):cond (decide p) a b=a:=by rw[decide_eq_true h];rfl
def dF (h:¬ p):cond (decide p) a b=b:=by rw[decide_eq_false h];rfl
def bT {m n:Nat} (h:m≤n):cond (Nat.ble m n) a b=a:=by rw[Zn h];rfl
def Azb {L:Nat→Int→σ→Option R} {Q:R→Prop} (n:Nat) (I:Nat→σ→Prop) (hend:∀ s,I n s→Tot (λ k=>L (k+1) (n:Int) s) Q)
  (Cma:∀ i s,i<n→I i s→(∀ s',I (i+1) s'→Tot (λ k=>L k ((i:Int)+1) s') Q)→Tot (λ k=>L (k+1) (i:Int) s) Q):
  ∀ (i:Nat) (s:σ),i≤n→I i s→Tot (λ k=>L k (i:Int) s) Q:=by
 suffices h:∀ (m i:Nat) (s:σ),n-i=m→i≤n→I i s→Tot (λ k=>L k (i:Int) s) Q from λ i s hi hs=>h _ i s rfl hi hs
 intro m
 induction m with
 |zero=>
  intro i s hm hi hs
  obtain rfl:i=n:=by omega
  exact Tot.succ (hend s hs)
 |succ m ih=>
  intro i s hm hi hs;refine Tot.succ (Cma i s (by omega) hs λ s' hs'=>?_);have:=ih (i+1) s' (by omega) (by omega) hs';rwa [show (((i+1:Nat)):Int)=(i:Int)+1 by omega]at this
end
def cst (x:BitVec 32):BitVec 32:=if x.getLsbD 0 then (x >>> 1) ^^^ 2197175160#32 else x >>> 1
def Epa:Nat→BitVec 32→BitVec 32
 |0,x=>x
 |n+1,x=>Epa n (cst x)
def cby (x:BitVec 32) (b:Int):BitVec 32:=Epa 8 (x ^^^ ofInt 32 b)
def Wwa (l:List Int):BitVec 32 := ~~~ (l.foldl cby 4294967295#32)
def crc (l:List Int):Int:=((Wwa l).toNat:Int)
def Amb (v:BitVec 32):v.getLsbD 0=decide (v.toNat % 2=1):=by
 rw[BitVec.getLsbD,Nat.testBit_zero]
def Eqa (v:BitVec 32):ofInt (IntKind.bits .u32) (v.toNat:Int)=v:=by
 show ofInt 32 (v.toNat:Int)=v;rw[BitVec.ofInt_natCast,BitVec.ofNat_toNat,BitVec.setWidth_eq]
def Zta (v:BitVec 32):wrap .u32 (v.toNat:Int)=(v.toNat:Int):=Djb _ ⟨by omega,by have:=v.isLt;omega⟩
def sh1 (v:BitVec 32):Int.fdiv (v.toNat:Int) 2=((v >>> 1).toNat:Int):=by
 rw[Bfb _ (by omega),BitVec.toNat_ushiftRight,Nat.shiftRight_eq_div_pow];omega
def Zua (v:BitVec 32):((wrap .u32 ((ofInt (IntKind.bits .u32) (v.toNat:Int) &&& ofInt (IntKind.bits .u32) 1).toNat))==1)=v.getLsbD 0:=by
 show (wrap .u32 (((ofInt 32 (v.toNat:Int) &&& ofInt 32 1).toNat:Nat):Int)==1)=_;rw[show ofInt 32 (v.toNat:Int)=v from Eqa v,Zta,Amb,BitVec.toNat_and,show (ofInt 32 1).toNat=1 from by decide,Nat.and_one_is_mod,C1b,beq_iff_eq,decide_eq_true_iff];omega
def Zva (v w:BitVec 32) (x:Int) (h:ofInt 32 x=w):wrap .u32 ((ofInt (IntKind.bits .u32) (v.toNat:Int) ^^^ ofInt (IntKind.bits .u32) x).toNat)=((v ^^^ w).toNat:Int):=by
 show wrap .u32 (((ofInt 32 (v.toNat:Int) ^^^ ofInt 32 x).toNat:Nat):Int)=_;rw[show ofInt 32 (v.toNat:Int)=v from Eqa v,h];exact Zta _
def Anb (K:IntKind) (h:1≤IntKind.bits K):(2:Int) ^ (min (toNat 1) (IntKind.bits K))=2:=by
 rw[show toNat 1=1 from rfl,B9b h];rfl
def J1a (l:List Int) (x8 x9:Int):∀ (n:Nat) (v:BitVec 32) (i:Int),0≤i→8-i=n→Tot (λ k=>Fy k (v.toNat:Int) l x8 x9 i) (λ r=>r=(((Epa n v).toNat:Int),l,x8,x9)):=by
 intro n
 induction n with
 |zero=>
  intro v i h0 hn;refine Tot.succ ?_;simp only[Fy];exact Avb (by omega) (Aqb rfl)
 |succ n ih=>
  intro v i h0 hn;refine Tot.succ ?_;simp only[Fy];refine Aub (by omega) ?_;rw[w64 (n:=i+1) (by omega) (by omega),Zua,Anb _ (by decide),sh1,Zva _ 2197175160#32 _ (by decide)];have e:Epa (n+1) v=Epa n (cst v):=rfl;rw[e];refine Awb (λ h=>?_) (λ h=>?_)
  ·have:=ih (v >>> 1 ^^^ 2197175160#32) (i+1) (by omega) (by omega);rwa [show v >>> 1 ^^^ 2197175160#32=cst v by unfold cst;rw[if_pos h]]at this ⊢
  ·have:=ih (v >>> 1) (i+1) (by omega) (by omega);rwa [show v >>> 1=cst v by unfold cst;rw[if_neg (by rw[h];simp)]]at this ⊢
def T9a {b:Int} (h:0≤b∧b≤255):b=((ofInt 32 b).toNat:Int):=by
 rw[Dcb];omega
def Voa (l:List Int) (hb:Av l) (hl:l.length≤1000000000000):Tot (λ k=>Hl k l) (λ r=>r=crc l):=by
 unfold Hl;refine Arb (Q:=λ r=>r=(((l.foldl cby 4294967295#32).toNat:Nat):Int)) ?_ ?_
 ·have:=Azb (L:=λ k i s=>G6 k s l (l.length:Int) i) (Q:=λ r=>r=(((l.foldl cby 4294967295#32).toNat:Nat):Int)) l.length (λ i s=>∃ v:BitVec 32,s=(v.toNat:Int)∧(l.drop i).foldl cby v=l.foldl cby 4294967295#32) ?_ ?_ 0 4294967295 (Vw _) ⟨4294967295#32,by decide,by rw[Yu]⟩
  ·exact this
  ·rintro s ⟨v,rfl,hv⟩;simp only[G6];rw[Yt]at hv;exact Avb (by omega) (Aqb (by rw[← hv];rfl))
  ·rintro i s hi ⟨v,rfl,hv⟩ next;simp only[G6];have hx:=hb _ (A3 (d:=0) hi);refine Aub (by omega) (Aub (by omega) (Aub (by omega) ?_));rw[Vm,Djb _ ⟨hx.1,by omega⟩,Zva v _ _ rfl];refine B1b (J1a l _ _ 8 _ 0 (by decide) (by decide)) ?_;simp only;rw[w64 (n:=(i:Int)+1) (by omega) (by omega)];refine next _ ⟨_,rfl,?_⟩;rw[Co (d:=0) hi,Yx]at hv;exact hv
 ·rintro r rfl;refine Aqb ?_;unfold crc Wwa
  have hm:ofInt 32 (if IntKind.signed .u32 then -1 else IntKind.max .u32)=BitVec.allOnes 32:=by decide
  have e:BitVec.allOnes 32 ^^^ l.foldl cby 4294967295#32 = ~~~ (l.foldl cby 4294967295#32):=by rw[Dtb];exact BitVec.xor_allOnes
  show wrap .i64 (wrap .u32 (((ofInt 32 (if IntKind.signed .u32 then -1 else IntKind.max .u32) ^^^ ofInt 32 ((l.foldl cby 4294967295#32).toNat:Int)).toNat:Nat):Int))=_;rw[show ofInt 32 ((l.foldl cby 4294967295#32).toNat:Int)=l.foldl cby 4294967295#32 from Eqa _,hm,e];have:=(~~~ (l.foldl cby 4294967295#32)).isLt;rw[Zta,w64 (by omega) (by omega)]

def Pv:Fil:=(((0:Int),((0:Int),(0:Int))),(false,([]:List Int)))
def De (f:Fil):Bool:=Fz f.1&&(decide ((f.2.2.length:Int)≤200)&&(!f.2.1||((f.2.2.length:Int)==0)))
def Rt (f:Fil):Ci f=some (De f):=by
 unfold Ci De;rw[Pi];simp only[Vt]
 cases Fz f.1<;>cases decide ((length f.2.2:Int)≤200)<;>cases f.2.1<;>rfl
def Gf {f:Fil}:De f=true↔Fz f.1=true∧f.2.2.length≤200∧(f.2.1=true→f.2.2=[]):=by
 unfold De;rw[Va,Va,decide_eq_true_iff]
 have:(!f.2.1||((f.2.2.length:Int)==0))=true↔(f.2.1=true→f.2.2=[]):=by
  cases f.2.1 with
  |false=>simp
  |true=>simp
 rw[this];constructor
 ·rintro⟨h1,h2,h3⟩;exact⟨h1,by omega,h3⟩
 ·rintro⟨h1,h2,h3⟩;exact⟨h1,by omega,h3⟩
def C0a (a b:Fil):Fw a b=some (sle b.1 a.1):=by unfold Fw;rw[Xt];rfl
def hdF (s:Stp) (d:Bool):List Int:=T1a s++Lh (Cp (Ema d))
def M0 (f:Fil):List Int:=hdF f.1 f.2.1++txt (I8 f.2.2)
def c4 (c:Int):List Int:=[wrap .u8 (Int.fdiv c (2 ^ (min (toNat 24) (IntKind.bits .i64)))),wrap .u8 (Int.fdiv c (2 ^ (min (toNat 16) (IntKind.bits .i64)))),wrap .u8 (Int.fdiv c (2 ^ (min (toNat 8) (IntKind.bits .i64)))),wrap .u8 c]
def Gc (f:Fil):List Int:=bif De f then M0 f++c4 (crc (M0 f)) else []
def L9 {a b:List Int} (ha:Av a) (hb:Av b):Av (a++b):=λ x hx=>(Vl.1 hx).elim (ha x) (hb x)
def N1 (n:Int):Av (Lh (Cp n)):=Iwa _ (L7 n)
def N1a (s:Stp) (d:Bool):Av (hdF s d):=L9 (L9 (N1 _) (L9 (N1 _) (N1 _))) (N1 _)
def Og (f:Fil):Av (M0 f):=L9 (N1a _ _) (L9 (N1 _) (V5 _))
def R0a (c:Int):Av (c4 c):=by
 intro x hx;simp only[c4,Vk,C8b,or_false]at hx
 rcases hx with rfl|rfl|rfl|rfl<;>exact Mha _
def Ql (f:Fil):Av (Gc f):=by
 unfold Gc
 cases De f with
 |false=>intro x hx;simp at hx
 |true=>exact L9 (Og f) (R0a _)
def N2a (s:Stp) (d:Bool):(hdF s d).length≤20:=by
 have h1:=Qsa s;have h2:=(Jj (Cp (Ema d))).1;unfold hdF;rw[Vi];omega
def C1a (f:Fil):(M0 f).length≤25+f.2.2.length:=by
 have h1:=N2a f.1 f.2.1;have h2:=Via (I8 f.2.2);have h3:(I8 f.2.2).size=f.2.2.length:=L8 _;unfold M0;rw[Vi];omega
def Ru (f:Fil):(Gc f).length≤229:=by
 unfold Gc;cases h:De f
 ·simp
 have h1:=C1a f;have h2:=(Gf.1 h).2.1;rw[cond_true,Vi];simp only[c4,Vh,Vs];omega
def M1 (f:Fil):Tot (λ k=>Dd k f) (λ r=>r=Gc f):=by
 unfold Dd Gc;refine B1b (B2b (Q:=λ b=>b=De f) (Rt f) rfl) ?_;cases h:De f
 ·exact Atb rfl (Aqb rfl)
 have h2:=(Gf.1 h).2.1;have h3:(I8 f.2.2).size=f.2.2.length:=L8 _;have h4:=N2a f.1 f.2.1;have h5:=C1a f;refine Asb rfl (B1b (Iya [] f.1 f.2.1 (by simp)) ?_);rw[Wl];refine B1b (Qqa _ _ (by unfold hdF at h4;omega) (by omega)) ?_;have e:T1a f.1++Lh (Cp (Ema f.2.1))++txt (I8 f.2.2)=M0 f:=rfl;rw[e];refine B1b (Voa _ (Og f) (by omega)) ?_;exact Ayb (by simp only[Vh,Vs];omega) (Aqb rfl)
def Je (b:List Int):Option Fil:=(Te b 0).bind λ a=>(Jua b a.2).bind λ t=>bif De (a.1.1,a.1.2,bytesOf t.1)&&decide (Gc (a.1.1,a.1.2,bytesOf t.1)=b) then some (a.1.1,a.1.2,bytesOf t.1) else none
def Y4 (b:List Int):Fil×Bool:=match Je b with
 |some f=>(f,true)
 |none=>(Pv,false)
def Y5 {b:List Int} {f:Fil} (h:Je b=some f):De f=true∧Av f.2.2∧Gc f=b:=by
 unfold Je at h;simp only[Dlb]at h;obtain⟨a,_,t,_,h⟩:=h;cases hc:(De (a.1.1,a.1.2,bytesOf t.1)&&decide (Gc (a.1.1,a.1.2,bytesOf t.1)=b))
 ·rw[hc]at h;cases h
 rw[hc]at h;simp only[cond_true,Vc]at h;subst h;rw[Va,decide_eq_true_iff]at hc;exact⟨hc.1,V5 _,hc.2⟩
def N3a (s:Stp) (d:Bool) (rest:List Int) (h:Fz s=true):Te (hdF s d++rest) 0=some ((s,d),(hdF s d).length):=by
 obtain⟨t,c,n⟩:=s;unfold Fz at h;simp only[Va,Fk]at h;obtain⟨⟨t0,t1⟩,⟨c0,c1⟩,n0,n1⟩:=h;have ht:=Tb t0 t1;have hc:=Tb c0 (show c≤1000000000 by omega);have hn:=Tb n0 (show n≤1000000000 by omega)
 have hbit:(((Cp (Ema d):Nat):Int)==1)=d:=by cases d<;>decide
 have hbit2:¬ (1<Cp (Ema d)):=by cases d<;>decide
 have k:∀ (a:List Int) (n:Nat) (b:List Int),n≤1000000000→V3 (a++(Lh n++b)) a.length=some (n,(a++Lh n).length):=λ a n b hn=>by rw[Gua a n b hn,Vi]
 have e0:hdF (t,c,n) d++rest=Lh (Cp t)++(Lh (Cp c)++(Lh (Cp n)++(Lh (Cp (Ema d))++rest))):=by
  unfold hdF T1a;simp only[Vo]
 have el:(hdF (t,c,n) d).length=(Lh (Cp t)).length+(Lh (Cp c)).length+(Lh (Cp n)).length+(Lh (Cp (Ema d))).length:=by
  unfold hdF T1a;simp only[Vi];omega
 have g1:=k [] (Cp t) (Lh (Cp c)++(Lh (Cp n)++(Lh (Cp (Ema d))++rest))) (L7 t);have g2:=k (Lh (Cp t)) (Cp c) (Lh (Cp n)++(Lh (Cp (Ema d))++rest)) (L7 c);have g3:=k (Lh (Cp t)++Lh (Cp c)) (Cp n) (Lh (Cp (Ema d))++rest) (L7 n);have g4:=k (Lh (Cp t)++Lh (Cp c)++Lh (Cp n)) (Cp (Ema d)) rest (L7 _);simp only[Vo,Wl,Vs]at g1 g2 g3 g4;simp only[Vi]at g1 g2 g3 g4;unfold Te;rw[e0,el];simp only[Zk]at g1 g2 g3 g4 ⊢;simp only[g1,g2,g3,g4,Vt,decide_eq_false hbit2,cond_false];rw[ht,hc,hn,hbit]
def M2 {f:Fil} (h:De f=true) (hb:Av f.2.2):Je (Gc f)=some f:=by
 obtain⟨h1,h2,h3⟩:=Gf.1 h
 have e:Gc f=hdF f.1 f.2.1++(txt (I8 f.2.2)++c4 (crc (M0 f))):=by
  unfold Gc;rw[h,cond_true];unfold M0;rw[Vo]
 have g1:=N3a f.1 f.2.1 (txt (I8 f.2.2)++c4 (crc (M0 f))) h1;have g2:=Qra (hdF f.1 f.2.1) (I8 f.2.2) (c4 (crc (M0 f))) (by rw[L8];omega);rw[← e]at g1 g2;unfold Je;simp only[g1,g2,Vt];rw[Jk hb];have e1:(f.1,f.2.1,f.2.2)=f:=rfl;rw[e1,h,decide_eq_true rfl];rfl
def C2a {a b:List Int} (ha:Av a) (hb:Av b):((I8 a).toList==(I8 b).toList)=decide (a=b):=by
 have:teq (I8 a) (I8 b)=decide (a=b):=by
  rw[C1b,C8,decide_eq_true_iff];constructor
  ·intro h;have:=congrArg bytesOf h;rwa [Jk ha,Jk hb]at this
  ·rintro rfl;rfl
 exact this
def R1a (l:List Int) (hb:Av l) (hl:l.length≤1000000000000) (p:Int) (hp:p≤1000000000000):
  Tot (λ k=>C1 k (l,p,true)) (λ r=>r=((⟨#[]⟩:ByteArray),l,p,true)):=by
 unfold C1;refine B1b (Gva l hb hl p hp) ?_;exact Atb rfl (Aqb rfl)
def R2a {f:Fil}:(((Gc f).length:Int)==0) = !(De f):=by
 unfold Gc;cases h:De f
 ·rfl
 rw[cond_true,Vi,Za,beq_eq_false_iff_ne];simp only[c4,Vh,Vs];omega
def M3 (b:List Int) (hb:Av b) (hl:b.length≤1000000000000):Tot (λ k=>Cv k b) (λ r=>r=Y4 b):=by
 unfold Cv;refine Arb (Zsa b hb hl 0 (Vw _) false) ?_;rintro r (⟨_,⟨s,d⟩,q,h1,h2,rfl⟩|⟨h1,s,d,q,h2,rfl⟩)
 ·refine Arb (Zra b hb hl q h2) ?_;rintro r (⟨t,q2,h3,h4,rfl⟩|⟨h3,rfl⟩)
  ·have hsz:=(Mwa hb h3).2.1;refine Ayb (by dsimp only;omega) (B1b (M1 _) ?_);refine Asb rfl ?_
   have e:Y4 b=bif De (s,d,bytesOf t)&&decide (Gc (s,d,bytesOf t)=b) then ((s,d,bytesOf t),true) else (Pv,false):=by
    unfold Y4 Je;simp only[h1,h3,Vt]
    cases De (s,d,bytesOf t)&&decide (Gc (s,d,bytesOf t)=b)<;>rfl
   simp only;rw[e,R2a];cases hf:De (s,d,bytesOf t)
   ·exact Atb rfl (Aqb rfl)
   refine Asb rfl ?_;rw[C2a (Ql _) hb]
   cases decide (Gc (s,d,bytesOf t)=b) with
   |false=>exact Atb rfl (Aqb rfl)
   |true=>exact Asb rfl (Aqb rfl)
  ·refine Ayb (Vw _) (B1b (M1 _) ?_);refine Atb rfl (Aqb ?_);unfold Y4 Je;simp only[h1,h3,Vt,C7b];rfl
 ·refine B1b (R1a b hb hl q (by omega)) ?_;refine Ayb (Vw _) (B1b (M1 _) ?_);refine Atb rfl (Aqb ?_);unfold Y4 Je;simp only[h1.resolve_left (by simp),C7b];rfl

def gt (l:List Nmd) (s:ByteArray):Option (List Int):=match fnd l s with
 |some i=>some (l.getD i Il).2
 |none=>none
def Tj (y:Nmd) (l:List Nmd) (s:ByteArray):gt (y::l) s=if y.1=s then some y.2 else gt l s:=by
 unfold gt;rw[Gza]
 by_cases h:y.1=s
 ·rw[if_pos (C8.2 h),if_pos h];rfl
 ·rw[if_neg (λ c=>h (C8.1 c)),if_neg h]
  cases fnd l s<;>rfl
def Jf {l:List Nmd} {s:ByteArray} {b:List Int} (h:gt l s=some b):(s,b)∈l:=by
 induction l with
 |nil=>cases h
 |cons y l ih=>
  rw[Tj]at h
  by_cases e:y.1=s
  ·rw[if_pos e]at h;cases h;subst e;exact Wo
  ·rw[if_neg e]at h;exact Vd _ (ih h)
def Jr {l:List Nmd} {s:ByteArray}:gt l s=none↔∀ x∈l,x.1≠s:=by
 rw[← Qwa];unfold gt
 cases fnd l s with
 |none=>simp
 |some i=>simp
def Era {l:List Nmd} (hs:Ct l) {x:Nmd} (hx:x∈l):gt l x.1=some x.2:=by
 cases h:gt l x.1 with
 |none=>exact absurd rfl (Jr.1 h x hx)
 |some b=>rw[show x=(x.1,b) from Vna hs hx (Jf h) rfl]
def C3a {l:List Nmd} (hs:Ct l) {s:ByteArray} {b:List Int}:gt l s=some b↔(s,b)∈l:=⟨Jf,λ h=>Era hs h⟩
def C4a {l:List Nmd} {s:ByteArray}:(gt l s).isSome=(fnd l s).isSome:=by
 unfold gt
 cases fnd l s<;>rfl
def Pl {l:List Nmd} (hs:Ct l) {s t:ByteArray}:gt (cut l s) t=if s=t then none else gt l t:=by
 by_cases h:s=t
 ·subst h;rw[if_pos rfl,Jr];exact Th
 ·rw[if_neg h]
  cases hg:gt l t with
  |none=>exact Jr.2 λ x hx=>Jr.1 hg x (Tf.subset hx)
  |some b=>
   rw[C3a (Iy hs)];refine Bcb.2 ⟨Jf hg,?_⟩
   cases ht:teq t s with
   |false=>simp[ht]
   |true=>exact absurd (C8.1 ht).symm h
def Taa {l:List Nmd} (hs:Ct l) {x:Nmd} (hn:∀ y∈l,y.1≠x.1) {t:ByteArray}:gt (ins l x) t=if x.1=t then some x.2 else gt l t:=by
 have hi:=No hs hn
 by_cases h:x.1=t
 ·subst h;rw[if_pos rfl,C3a hi];exact Qk.2 (.inl rfl)
 ·rw[if_neg h]
  cases hg:gt l t with
  |none=>
   refine Jr.2 λ y hy=>?_;rcases Qk.1 hy with rfl|hy
   ·exact h
   ·exact Jr.1 hg y hy
  |some b=>
   rw[C3a hi];exact Qk.2 (.inr (Jf hg))
def Y5a:∀ {l m:List Nmd},Ct l→Ct m→(∀ s,gt l s=gt m s)→l=m:=by
 have key:∀ {l m:List Nmd},Ct l→Ct m→(∀ s,gt l s=gt m s)→∀ x∈l,x∈m:=λ hl hm h x hx=>by
  have:=h x.1;rw[Era hl hx]at this;exact Jf this.symm
 intro l m hl hm h;have h1:∀ x,x∈l↔x∈m:=λ x=>⟨key hl hm h x,key hm hl (λ s=>(h s).symm) x⟩;clear h key
 induction l generalizing m with
 |nil=>
  cases m with
  |nil=>rfl
  |cons y m=>exact absurd ((h1 y).2 (by simp)) (by simp)
 |cons x l ih=>
  cases m with
  |nil=>exact absurd ((h1 x).1 (by simp)) (by simp)
  |cons y m=>
   obtain⟨a1,a2⟩:=Wd.1 hl;obtain⟨b1,b2⟩:=Wd.1 hm
   have e:x=y:=by
    rcases Vk.1 ((h1 x).1 (by simp)) with h|h
    ·exact h
    ·rcases Vk.1 ((h1 y).2 (by simp)) with h'|h'
     ·exact h'.symm
     ·have c1:=a1 y h';rw[Pg (b1 x h)]at c1;cases c1
   subst e;congr 1;refine ih a2 b2 λ z=>⟨λ hz=>?_,λ hz=>?_⟩
   ·rcases Vk.1 ((h1 z).1 (Vd _ hz)) with rfl|h
    ·have c:=a1 z hz;rw[Eu]at c;cases c
    ·exact h
   ·rcases Vk.1 ((h1 z).2 (Vd _ hz)) with rfl|h
    ·have c:=b1 z hz;rw[Eu]at c;cases c
    ·exact h
def Tba (l:List Nmd) (s:ByteArray):rdN l s=match gt l s with|some b=>(b,true)|none=>([],false):=by
 unfold rdN gt
 cases fnd l s<;>rfl
def Gg {s:ByteArray} (h:B2 s=true):Kj s:=by
 have:=(Td h).2;unfold Kj;omega
def Dv {d:Dsk}:Bx d=true↔Gb d.1=true∧Gb d.2=true:=by
 unfold Bx;rw[Va]
def H6 {d:Dsk} (h:Bx d=true):Ct d.1:=(B3.1 (Dv.1 h).1).1
def Kl {d:Dsk} (h:Bx d=true):Ct d.2:=(B3.1 (Dv.1 h).2).1
def LB (l:List Nmd):Prop:=∀ x∈l,Av x.2
def DB (d:Dsk):Prop:=LB d.1∧LB d.2
def LB.cut {l:List Nmd} (h:LB l) (s:ByteArray):LB (cut l s):=λ x hx=>h x (Tf.subset hx)
def LB.ins {l:List Nmd} (h:LB l) {x:Nmd} (hx:Av x.2):LB (ins l x):=λ y hy=>by
 rcases Qk.1 hy with rfl|hy
 ·exact hx
 ·exact h y hy
def LB.gt {l:List Nmd} (h:LB l) {s:ByteArray} {b:List Int} (hg:gt l s=some b):Av b:=h _ (Jf hg)
def Tk:Av []:=λ x hx=>by cases hx
def wr (l:List Nmd) (s:ByteArray) (b:List Int):List Nmd:=ins (cut l s) (s,b)
def sy (d:Dsk) (s:ByteArray):List Nmd:=match gt d.1 s with
 |some b=>wr d.2 s b
 |none=>cut d.2 s
def wrD (d:Dsk) (s:ByteArray) (b:List Int):Dsk×Bool:=bif decide (b.length≤400)&&decide ((wr d.1 s b).length≤60) then ((wr d.1 s b,d.2),true) else (d,false)
def syD (d:Dsk) (s:ByteArray):Dsk×Bool:=bif decide ((sy d s).length≤60) then ((d.1,sy d s),true) else (d,false)
def rmD (d:Dsk) (s:ByteArray):Dsk×Bool:=bif (gt d.1 s).isSome then ((cut d.1 s,d.2),true) else (d,false)
section
variable {d:Dsk} {s:ByteArray} {b:List Int}
def Tca (hd:Bx d=true):wrI d s b=wr d.1 s b:=by
 unfold wrI wr;rw[N0 (H6 hd)]
def Tda (hd:Bx d=true):syI d s=sy d s:=by
 unfold syI sy gt wr;rw[N0 (Kl hd)]
 cases fnd d.1 s<;>rfl
def J2a (hd:Bx d=true) (hs:B2 s=true) (hb:b.length≤1000000000000):Tot (λ k=>Cr k d s b) (λ r=>r=wrD d s b):=by
 refine(Mza d s b (Tg hd) (Gg hs) hb).mono ?_;rintro r rfl;rw[hd,hs,Tca hd];rfl
def C5a (hd:Bx d=true) (hs:B2 s=true):Tot (λ k=>Bh k d s) (λ r=>r=syD d s):=by
 refine(Qya d s (Tg hd) (Gg hs)).mono ?_;rintro r rfl;rw[hd,hs,Tda hd];rfl
def Vpa (hd:Bx d=true) (hs:B2 s=true) (hb:b.length≤400) (hl:(wr d.1 s b).length≤60):Bx (wr d.1 s b,d.2)=true:=by
 have:=(Qza (b:=b) hd hs).2;rw[Tca hd,decide_eq_true hb,decide_eq_true hl]at this;exact this
def Zwa (hd:Bx d=true) (hs:B2 s=true) (hl:(sy d s).length≤60):Bx (d.1,sy d s)=true:=by
 have:=Vma hd hs;rw[Tda hd,decide_eq_true hl]at this;exact this
def Tea (hd:Bx d=true) (hs:B2 s=true):Bx (wrD d s b).1=true:=by
 unfold wrD;cases hc:decide (b.length≤400)&&decide ((wr d.1 s b).length≤60)
 ·exact hd
 rw[Va,decide_eq_true_iff,decide_eq_true_iff]at hc;exact Vpa hd hs hc.1 hc.2
def Y6a (hd:Bx d=true) (hs:B2 s=true):Bx (syD d s).1=true:=by
 unfold syD
 cases hc:decide ((sy d s).length≤60) with
 |false=>exact hd
 |true=>exact Zwa hd hs (of_decide_eq_true hc)
def Y7a (hd:Bx d=true):Bx (rmD d s).1=true:=by
 unfold rmD
 cases (gt d.1 s).isSome with
 |false=>exact hd
 |true=>exact Dv.2 ⟨Qy (Dv.1 hd).1,(Dv.1 hd).2⟩
def R3a (hd:Bx d=true) (h:(gt d.1 s).isSome=true):B2 s=true:=by
 cases hg:gt d.1 s with
 |none=>rw[hg]at h;cases h
 |some b=>exact(Mz.1 ((B3.1 (Dv.1 hd).1).2.1 _ (Jf hg))).1
def Esa (hd:Bx d=true):Tot (λ k=>Da k d s) (λ r=>r=rmD d s):=by
 refine(J0a d s (Tg hd).1).mono ?_;rintro r rfl;rw[hd,← C4a,B8b,N0 (H6 hd)];rfl
end
def lkD (d:Dsk) (s:ByteArray):Fil×Int:=match gt d.1 s with
 |none=>(Pv,1)
 |some b=>match Je b with
  |some f=>(f,0)
  |none=>(Pv,2)
def Tfa {l:List Nmd} {s:ByteArray} {b:List Int} (h:T2a l) (hg:gt l s=some b):b.length≤1000000000000:=h.2 _ (Jf hg)
def Y6 {d:Dsk} (hf:T2a d.1) (hb:LB d.1) (s:ByteArray):Tot (λ k=>Fs k d s) (λ r=>r=lkD d s):=by
 unfold Fs lkD;refine B1b (Gya d s hf) ?_;rw[Tba]
 cases hg:gt d.1 s with
 |none=>exact Atb rfl (Aqb rfl)
 |some b=>
  refine Asb rfl (B1b (M3 b (hb.gt hg) (Tfa hf hg)) ?_);unfold Y4;dsimp only
  cases Je b with
  |none=>exact Atb rfl (Aqb rfl)
  |some f=>exact Asb rfl (Aqb rfl)
def La {d:Dsk} {s:ByteArray} {f:Fil}:lkD d s=(f,0)↔∃ b,gt d.1 s=some b∧Je b=some f:=by
 unfold lkD
 cases gt d.1 s with
 |none=>simp
 |some b=>cases h:Je b<;>simp[h]
def old (d:Dsk) (s:ByteArray):Option Fil:=(gt d.1 s).bind Je
def kp1 (d:Dsk) (s:ByteArray) (f:Fil):Option (Dsk×Int):=
 let w:=bif (wrD d s (Gc f)).2 then some ((wrD d s (Gc f)).1,(0:Int)) else none
 match old d s with
 |some o=>bif sle o.1 f.1 then w else some (d,1)
 |none=>w
def kp2 (d:Dsk) (s:ByteArray) (sure:Bool) (x:Dsk×Int):Dsk×Int:=bif sure then (bif (syD x.1 s).2 then ((syD x.1 s).1,x.2) else (d,3)) else x
def Ii (d:Dsk) (s:ByteArray) (f:Fil) (sure:Bool):Dsk×Int:=match kp1 d s f with
 |some x=>kp2 d s sure x
 |none=>(d,3)
def keep (d:Dsk) (s:ByteArray) (f:Fil) (sure:Bool):Dsk×Int:=bif Bx d&&(B2 s&&De f) then Ii d s f sure else (d,2)
def R4a:Je []=none:=by
 cases h:Je [] with
 |none=>rfl
 |some f=>
  obtain⟨h1,_,h3⟩:=Y5 h;unfold Gc at h3;rw[h1]at h3;simp[c4]at h3
def Y8a {d:Dsk} {s:ByteArray} {f:Fil} (hd:Bx d=true) (hs:B2 s=true) {x:Dsk×Int} (h:kp1 d s f=some x):Bx x.1=true:=by
 have hw:∀ x,(bif (wrD d s (Gc f)).2 then some ((wrD d s (Gc f)).1,(0:Int)) else none)=some x→Bx x.1=true:=by
  intro x h
  cases hc:(wrD d s (Gc f)).2 with
  |false=>rw[hc]at h;cases h
  |true=>rw[hc]at h;cases h;exact Tea hd hs
 unfold kp1 at h;simp only at h;split at h
 ·rename_i o _
  cases hc:sle o.1 f.1 with
  |false=>rw[hc]at h;cases h;exact hd
  |true=>rw[hc]at h;exact hw _ h
 ·exact hw _ h
def Y9a {d:Dsk} {s:ByteArray} (hd:Bx d=true) (hs:B2 s=true) {x:Dsk} {c:Int} (hx:Bx x=true) (sure:Bool):
  Tot (λ k=>cond sure ((Bh k x s).bind λ r=>cond (!r.2) ((A5 k d).bind λ q=>some (q,3)) (some (r.1,c))) (some (x,c))) (λ r=>r=kp2 d s sure (x,c)):=by
 unfold kp2;cases sure
 ·exact Aqb rfl
 refine Atb rfl (B1b (C5a hx hs) ?_);cases h:(syD x s).2
 case true=>exact Asb rfl (Aqb rfl)
 refine Atb rfl (B1b (Fu d (Tg hd).1.1) ?_);exact Aqb rfl
def H1a (d:Dsk) (s:ByteArray) (f:Fil) (sure:Bool) (hd:DIn d) (hb:LB d.1) (hs:Kj s):Tot (λ k=>Gi k d s f sure) (λ r=>r=keep d s f sure):=by
 have bad:Tot (λ k=>(A5 k d).bind λ r2=>some (r2,(2:Int))) (λ r=>r=(d,2)):=by
  refine B1b (Fu d hd.1.1) ?_;exact Aqb rfl
 unfold Gi keep;refine B1b (Nn d hd.1.1 hd.1.2) ?_;cases h1:Bx d
 ·exact Atb rfl bad
 refine Asb rfl (B1b (J4 s hs) ?_);cases h2:B2 s
 ·exact Atb rfl bad
 refine Asb rfl (B1b (B2b (Q:=λ b=>b=De f) (Rt f) rfl) ?_);cases h3:De f
 ·exact Atb rfl bad
 refine Asb rfl (B1b (Fu d hd.1.1) ?_);refine B1b (Gya d s hd.1.1.1) ?_;have hlen:=Ru f
 have w:∀ {o:Option Fil},(kp1 d s f=bif (wrD d s (Gc f)).2 then some ((wrD d s (Gc f)).1,(0:Int)) else none)→Tot (λ k=>(Dd k f).bind λ r13=>(Cr k d s r13).bind λ r14=>cond (!r14.2) ((A5 k d).bind λ r15=>some (r15,(3:Int))) (cond sure ((Bh k r14.1 s).bind λ r16=>cond (!r16.2) ((A5 k d).bind λ r17=>some (r17,3)) (some (r16.1,0))) (some (r14.1,0)))) (λ r=>r=Ii d s f sure):=by
  intro _ e;refine B1b (M1 f) ?_;refine B1b (J2a h1 h2 (by omega)) ?_;unfold Ii;rw[e]
  cases h4:(wrD d s (Gc f)).2 with
  |false=>
   refine Atb rfl (B1b (Fu d hd.1.1) ?_);exact Aqb rfl
  |true=>exact Asb rfl (Y9a h1 h2 (Tea h1 h2) sure)
 rw[Tba];have eo:old d s=(gt d.1 s).bind Je:=rfl
 cases hg:gt d.1 s with
 |none=>
  rw[hg]at eo;refine B1b (M3 [] Tk (by simp)) ?_;unfold Y4;rw[R4a];refine Asb rfl (w (o:=none) ?_);unfold kp1;rw[eo];rfl
 |some b=>
  rw[hg]at eo;have eo:old d s=Je b:=eo;refine B1b (M3 b (hb.gt hg) (Tfa hd.1.1.1 hg)) ?_;unfold Y4
  cases ho:Je b with
  |none=>
   refine Asb rfl (w (o:=none) ?_);unfold kp1;rw[eo,ho]
  |some o=>
   rw[ho]at eo;refine Atb rfl (B1b (B2b (Q:=λ b=>b=sle o.1 f.1) (C0a f o) rfl) ?_)
   cases hl:sle o.1 f.1 with
   |true=>
    refine Asb rfl (w (o:=none) ?_);unfold kp1;simp only[eo,hl,cond_true]
   |false=>
    have e1:Ii d s f sure=kp2 d s sure (d,1):=by
     unfold Ii kp1;simp only[eo,hl,cond_false]
    refine Atb rfl ?_;show Tot _ (λ r=>r=Ii d s f sure);rw[e1];exact Y9a h1 h2 h1 sure

def DG (d:Dsk):Prop:=Bx d=true∧DB d
def Yaa {d:Dsk} {s:ByteArray} {b:List Int} (hd:Bx d=true) (h:gt d.1 s=some b):b.length≤400:=(Mz.1 ((B3.1 (Dv.1 hd).1).2.1 _ (Jf h))).2
def Yba {d:Dsk} {s:ByteArray} {b:List Int} (h:DB d) (hb:Av b):DB (wrD d s b).1:=by
 unfold wrD
 cases decide (b.length≤400)&&decide ((wr d.1 s b).length≤60) with
 |false=>exact h
 |true=>exact⟨(h.1.cut s).ins hb,h.2⟩
def Zxa {d:Dsk} {s:ByteArray} (h:DB d):LB (sy d s):=by
 unfold sy
 cases hg:gt d.1 s with
 |none=>exact h.2.cut s
 |some b=>exact(h.2.cut s).ins (h.1.gt hg)
def Yca {d:Dsk} {s:ByteArray} (h:DB d):DB (syD d s).1:=by
 unfold syD
 cases decide ((sy d s).length≤60) with
 |false=>exact h
 |true=>exact⟨h.1,Zxa h⟩
def Yda {d:Dsk} {s:ByteArray} (h:DB d):DB (rmD d s).1:=by
 unfold rmD
 cases (gt d.1 s).isSome with
 |false=>exact h
 |true=>exact⟨h.1.cut s,h.2⟩
def Yea {d:Dsk} {s:ByteArray} (h:DG d) (hs:B2 s=true):DG (syD d s).1:=⟨Y6a h.1 hs,Yca h.2⟩
def Yfa {d:Dsk} {s:ByteArray} (h:DG d):DG (rmD d s).1:=⟨Y7a h.1,Yda h.2⟩
def Yga {d:Dsk} {s:ByteArray} {f:Fil} (hd:DG d) (hs:B2 s=true) {x:Dsk×Int} (h:kp1 d s f=some x):DG x.1:=by
 refine⟨Y8a hd.1 hs h,?_⟩
 have hw:∀ x,(bif (wrD d s (Gc f)).2 then some ((wrD d s (Gc f)).1,(0:Int)) else none)=some x→DB x.1:=by
  intro x h
  cases hc:(wrD d s (Gc f)).2 with
  |false=>rw[hc]at h;cases h
  |true=>rw[hc]at h;cases h;exact Yba hd.2 (Ql f)
 unfold kp1 at h;simp only at h;split at h
 ·rename_i o _
  cases hc:sle o.1 f.1 with
  |false=>rw[hc]at h;cases h;exact hd.2
  |true=>rw[hc]at h;exact hw _ h
 ·exact hw _ h
def Zya {d:Dsk} {s:ByteArray} {sure:Bool} (hd:DG d) (hs:B2 s=true) {x:Dsk×Int} (hx:DG x.1):DG (kp2 d s sure x).1:=by
 unfold kp2;cases sure
 ·exact hx
 rw[cond_true]
 cases (syD x.1 s).2 with
 |false=>exact hd
 |true=>exact Yea hx hs
def N4a {d:Dsk} {s:ByteArray} {f:Fil} {sure:Bool} (hd:DG d) (hs:B2 s=true):DG (Ii d s f sure).1:=by
 unfold Ii
 cases h:kp1 d s f with
 |none=>exact hd
 |some x=>exact Zya hd hs (Yga hd hs h)
def Tga {d:Dsk} {s:ByteArray} {f:Fil} {sure:Bool} (hd:DG d):DG (keep d s f sure).1:=by
 unfold keep;cases h:B2 s
 ·rw[hd.1];exact hd
 cases De f with
 |false=>rw[hd.1];exact hd
 |true=>rw[hd.1];exact N4a hd h
def Eta (b:Int) (j:Nat):Int:=((ofInt 8 b ^^^ BitVec.twoPow 8 j).toNat:Int)
def H2a (b:Int) (j:Nat):0≤Eta b j∧Eta b j≤255:=by
 unfold Eta;have:=(ofInt 8 b ^^^ BitVec.twoPow 8 j).isLt;omega
def R5a {b:Int} (hb:0≤b∧b≤255) {j:Nat} (hj:j<8):Eta b j≠b:=by
 intro h;unfold Eta at h
 have h1:b=((ofInt 8 b).toNat:Int):=by rw[Dcb];omega
 have h2:(ofInt 8 b ^^^ BitVec.twoPow 8 j).toNat=(ofInt 8 b).toNat:=by omega
 have h3:=Dub h2
 have h4:BitVec.twoPow 8 j=0#8:=by
  have:=congrArg (λ x=>ofInt 8 b ^^^ x) h3
  simpa[← BitVec.xor_assoc] using this
 have h5:∀ j,j<8→BitVec.twoPow 8 j≠0#8:=by decide
 exact h5 j hj h4
def Js (l:List Int) (n:Nat):List Int:=l.set (n/8) (Eta (l.getD (n/8) 0) (n % 8))
def C6a (l:List Int) (n:Nat):(Js l n).length=l.length:=by unfold Js;rw[Vu]
def Eua {l:List Int} (h:Av l) (n:Nat):Av (Js l n):=λ x hx=>by
 rcases Yw hx with h'|rfl
 ·exact h x h'
 ·exact H2a _ _
def J3a (d:Dsk) (s:ByteArray) (n:Int):Dsk×Bool:=match gt d.1 s with
 |none=>(d,false)
 |some b=>bif inR n 0 (8*(b.length:Int)-1) then ((wr d.1 s (Js b n.toNat),bif decide (gt d.2 s=some b) then wr d.2 s (Js b n.toNat) else d.2),true) else (d,false)
def Yha {l:List Nmd} (hs:Ct l) {s:ByteArray} {i:Nat} (h:fnd l s=some i) (b:List Int):l.set i (s,b)=wr l s b:=by
 obtain⟨hi,hn⟩:=Qw h
 have hm:(l.set i (s,b)).map Prod.fst=l.map Prod.fst:=by
  rw[E3b];apply C2b;intro j
  by_cases hj:i=j
  ·subst hj;rw[Bwb (by rw[Vz];exact hi),Zw,Vg hi];rw[Vb,Vg hi]at hn;exact congrArg some hn.symm
  ·rw[C4b hj]
 have h1:Ct (l.set i (s,b)):=by
  have e:∀ m:List Nmd,Ct m↔(m.map Prod.fst).Pairwise (λ a b=>tlt a b=true):=λ m=>by
   unfold Ct;rw[Zi]
  rw[e,hm,← e];exact hs
 refine Y5a h1 (No (Iy hs) Th) λ t=>?_;have h2:=Taa (x:=(s,b)) (t:=t) (Iy hs (s:=s)) Th;unfold wr;rw[h2]
 by_cases ht:s=t
 ·subst ht;rw[if_pos rfl,C3a h1];exact List.mem_set hi _
 ·rw[if_neg ht,Pl hs,if_neg ht]
  cases hg:gt l t with
  |none=>
   refine Jr.2 λ x hx=>?_;rcases Yw hx with h'|rfl
   ·exact Jr.1 hg x h'
   ·exact ht
  |some c=>
   rw[C3a h1];obtain⟨j,hj,e⟩:=Yr.1 (Jf hg)
   have hij:i≠j:=by
    rintro rfl;rw[Vb,Vg hi,Wp,e]at hn;exact ht hn.symm
   refine Yr.2 ⟨j,by rw[Vu];exact hj,?_⟩;rw[List.getElem_set_ne hij];exact e
def C7a {l:List Nmd} {s:ByteArray} {b:List Int} (hs:Ct l) (h:(gt l s).isSome=true):(wr l s b).length=l.length:=by
 rw[C4a]at h;obtain⟨i,hi⟩:=Zl.1 h;rw[← Yha hs hi,Vu]
def Yia {d:Dsk} {s:ByteArray} {n:Int} (h:DG d):DG (J3a d s n).1:=by
 unfold J3a
 cases hg:gt d.1 s with
 |none=>exact h
 |some b=>
  simp only;cases inR n 0 (8*(b.length:Int)-1)
  ·exact h
  have hn:=R3a h.1 (s:=s) (by rw[hg];rfl);have hb:=Yaa h.1 hg;have hbb:=Eua (h.2.1.gt hg) n.toNat;have l1:=C7a (b:=Js b n.toNat) (H6 h.1) (s:=s) (by rw[hg];rfl);have q1:=Vpa h.1 hn (b:=Js b n.toNat) (by rw[C6a];exact hb) (by rw[l1];exact(B3.1 (Dv.1 h.1).1).2.2);rw[cond_true];cases hc:decide (gt d.2 s=some b)
  ·exact⟨q1,(h.2.1.cut s).ins hbb,h.2.2⟩
  have hg2:=of_decide_eq_true hc;have l2:=C7a (b:=Js b n.toNat) (Kl h.1) (s:=s) (by rw[hg2];rfl);have h':Bx (d.2,d.1)=true:=Dv.2 ⟨(Dv.1 h.1).2,(Dv.1 h.1).1⟩;have q2:=Vpa h' hn (b:=Js b n.toNat) (by rw[C6a];exact hb) (by show (wr d.2 s _).length≤60;rw[l2];exact(B3.1 (Dv.1 h.1).2).2.2);exact⟨Dv.2 ⟨(Dv.1 q1).1,(Dv.1 q2).1⟩,(h.2.1.cut s).ins hbb,(h.2.2.cut s).ins hbb⟩
def lb0:LB []:=λ x hx=>by cases hx
def dg0:DG ([],[]):=⟨by decide,⟨lb0,lb0⟩⟩

def C8a (a b:Fil) (hf:a.2.2.length≤1000000000000):Tot (λ k=>Em k a b) (λ r=>r=decide (a=b)):=by
 obtain⟨⟨a1,a2,a3⟩,a4,a5⟩:=a;obtain⟨⟨b1,b2,b3⟩,b4,b5⟩:=b;unfold Em;dsimp only at hf ⊢
 have e:decide (((a1,a2,a3),a4,a5)=((b1,b2,b3),b4,b5))=(((a1==b1)&&((a2==b2)&&(a3==b3)))&&((a4==b4)&&decide (a5=b5))):=by
  rw[C1b,decide_eq_true_iff];simp only[Vx,Va,beq_iff_eq,decide_eq_true_iff]
 rw[e];cases (a1==b1)&&((a2==b2)&&(a3==b3))
 ·exact Asb rfl (Aqb rfl)
 refine Atb rfl ?_;cases a4==b4
 ·exact Asb rfl (Aqb rfl)
 refine Atb rfl (B1b (Y2 a5 b5 hf) ?_);exact Aqb (by simp)
section
variable {d:Dsk} {s:ByteArray} {f:Fil} {sure:Bool}
def R6a (a:Stp):sle a a=false:=Fx a
def N2 (h1:Bx d=true) (h2:B2 s=true) (h3:De f=true):keep d s f sure=Ii d s f sure:=by unfold keep;rw[h1,h2,h3];rfl
def C9a {x:Dsk} {c:Int}:(kp2 d s sure (x,c)=(d,3))∨(sure=false∧kp2 d s sure (x,c)=(x,c))∨(sure=true∧(sy x s).length≤60∧kp2 d s sure (x,c)=((x.1,sy x s),c)):=by
 unfold kp2 syD;cases sure
 ·exact .inr (.inl ⟨rfl,rfl⟩)
 rw[cond_true]
 by_cases h:(sy x s).length≤60
 ·rw[decide_eq_true h];exact .inr (.inr ⟨rfl,h,rfl⟩)
 ·rw[decide_eq_false h];exact .inl rfl
def N5a (hd:DG d) (hs:B2 s=true):kp1 d s f=none∨(∃ o,old d s=some o∧sle o.1 f.1=false∧kp1 d s f=some (d,1))∨((∀ o,old d s=some o→sle o.1 f.1=true)∧(wr d.1 s (Gc f)).length≤60∧kp1 d s f=some ((wr d.1 s (Gc f),d.2),0)):=by
 have hl:(Gc f).length≤400:=by have:=Ru f;omega
 have w:(bif (wrD d s (Gc f)).2 then some ((wrD d s (Gc f)).1,(0:Int)) else none)=none∨((wr d.1 s (Gc f)).length≤60∧(bif (wrD d s (Gc f)).2 then some ((wrD d s (Gc f)).1,(0:Int)) else none)=some ((wr d.1 s (Gc f),d.2),0)):=by
  unfold wrD;rw[decide_eq_true hl,Wf]
  by_cases h:(wr d.1 s (Gc f)).length≤60
  ·rw[decide_eq_true h];exact .inr ⟨h,rfl⟩
  ·rw[decide_eq_false h];exact .inl rfl
 unfold kp1
 cases ho:old d s with
 |none=>
  rcases w with h|⟨h1,h2⟩
  ·exact .inl h
  ·exact .inr (.inr ⟨λ o h=>(by cases h),h1,h2⟩)
 |some o=>
  simp only;cases hc:sle o.1 f.1
  ·exact .inr (.inl ⟨o,rfl,hc,rfl⟩)
  rcases w with h|⟨h1,h2⟩
  ·exact .inl h
  ·exact .inr (.inr ⟨λ o' h=>(by cases h;exact hc),h1,h2⟩)
def Np (hd:DG d) (hs:B2 s=true):Ii d s f sure=(d,3)∨
  (∃ o,old d s=some o∧sle o.1 f.1=false∧(Ii d s f sure).2=1∧DG (Ii d s f sure).1∧((sure=false∧(Ii d s f sure).1=d)∨(sure=true∧(Ii d s f sure).1=(d.1,sy d s))))∨
  ((∀ o,old d s=some o→sle o.1 f.1=true)∧DG (wr d.1 s (Gc f),d.2)∧(Ii d s f sure).2=0∧DG (Ii d s f sure).1∧((sure=false∧(Ii d s f sure).1=(wr d.1 s (Gc f),d.2))∨(sure=true∧(Ii d s f sure).1=(wr d.1 s (Gc f),sy (wr d.1 s (Gc f),d.2) s)))):=by
 have hg:=N4a (f:=f) (sure:=sure) hd hs;rcases N5a (f:=f) hd hs with h|⟨o,h1,h2,h⟩|⟨h1,h2,h⟩
 ·exact .inl (by unfold Ii;rw[h])
 ·have e:Ii d s f sure=kp2 d s sure (d,1):=by unfold Ii;rw[h]
  rcases C9a (d:=d) (s:=s) (sure:=sure) (x:=d) (c:=1) with k|⟨k0,k⟩|⟨k0,k1,k⟩
  ·exact .inl (e.trans k)
  ·rw[← e]at k;exact .inr (.inl ⟨o,h1,h2,by rw[k],hg,.inl ⟨k0,by rw[k]⟩⟩)
  ·rw[← e]at k;exact .inr (.inl ⟨o,h1,h2,by rw[k],hg,.inr ⟨k0,by rw[k]⟩⟩)
 ·have e:Ii d s f sure=kp2 d s sure ((wr d.1 s (Gc f),d.2),0):=by unfold Ii;rw[h]
  have hw:=Yga hd hs h;rcases C9a (d:=d) (s:=s) (sure:=sure) (x:=(wr d.1 s (Gc f),d.2)) (c:=0) with k|⟨k0,k⟩|⟨k0,k1,k⟩
  ·exact .inl (e.trans k)
  ·rw[← e]at k;exact .inr (.inr ⟨h1,hw,by rw[k],hg,.inl ⟨k0,by rw[k]⟩⟩)
  ·rw[← e]at k;exact .inr (.inr ⟨h1,hw,by rw[k],hg,.inr ⟨k0,by rw[k]⟩⟩)
def Y7 {l:List Nmd} (hs:Ct l) {s t:ByteArray} {b:List Int}:gt (wr l s b) t=if s=t then some b else gt l t:=by
 unfold wr;rw[Taa (x:=(s,b)) (Iy hs) Th]
 by_cases h:s=t
 ·rw[if_pos h,if_pos h]
 ·rw[if_neg h,if_neg h,Pl hs,if_neg h]
def Eva (hd:Bx d=true) {t:ByteArray}:gt (sy d s) t=if s=t then gt d.1 s else gt d.2 t:=by
 unfold sy
 cases h:gt d.1 s with
 |none=>rw[Pl (Kl hd)]
 |some b=>rw[Y7 (Kl hd)]
def N6a (hd:DG d) (hs:B2 s=true) (hf:De f=true) (hb:Av f.2.2) (h:(Ii d s f true).2=0∨(Ii d s f true).2=1):
  ∃ o g b,DG o∧DG (Ii d s f true).1∧(Ii d s f true).1=(o.1,sy o s)∧gt o.1 s=some b∧Je b=some g∧sle g.1 f.1=false:=by
 rcases Np (f:=f) (sure:=true) hd hs with k|⟨o,h1,h2,k,hg,h3⟩|⟨h1,h2,k,hg,h3⟩
 ·rw[k]at h;rcases h with h|h<;>cases h
 ·rcases h3 with⟨h3,_⟩|⟨_,h3⟩
  ·cases h3
  ·have ho:(gt d.1 s).bind Je=some o:=h1
   cases hg1:gt d.1 s with
   |none=>rw[hg1]at ho;cases ho
   |some b=>
    rw[hg1]at ho;exact⟨d,o,b,hd,hg,h3,hg1,ho,h2⟩
 ·rcases h3 with⟨h3,_⟩|⟨_,h3⟩
  ·cases h3
  ·exact⟨(wr d.1 s (Gc f),d.2),f,Gc f,h2,hg,h3,by show gt (wr d.1 s (Gc f)) s=_;rw[Y7 (H6 hd.1),if_pos rfl],M2 hf hb,R6a _⟩
end

end Go.Proofs.Ytcpligincipmhaa.Vf
