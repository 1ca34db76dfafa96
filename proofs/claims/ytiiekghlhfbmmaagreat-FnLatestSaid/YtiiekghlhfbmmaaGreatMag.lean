import Derived.Test.YtiiekghlhfbmmaaGreatMaf
set_option linter.all false
namespace Go.Proofs.YtiiekghlhfbmmaaGreat.Vf
open Go
open List (length getD)
open Int (toNat)
open Go.IntKind (wrap)
open BitVec (ofInt)
def Vn:=@Option.bind_some
def Ys:=@List.mem_map_of_mem
def Yv:=@List.mem_cons_self
def Zc:=@List.mem_map
def Zj:=@Nat.ble_eq_true_of_le
def I1b:=@Array.getElem?_eq_getElem
def J5b:=@List.flatMap_cons
def Jyb:=@Array.ext'

section
attribute [local irreducible] C H
section
variable {X:Cx} {S S':Sit} {a:Act} {E:En} {A:Ab} {o:Oper} {R:Type} {Kc:List Up→Option R} {r:R}
def Aa.impM {P:Program} {S1 S2:Sit} {f f':Nat→Lab}:∀ {l:List Lf} {j:Nat} {us:List Value},(∀ x∈l,∀ n u,Bv P S1 (f n) x u→Bv P S2 (f' n) x u)→Aa P S1 f j l us→Aa P S2 f' j l us
 |[],_,[],_,_=>trivial
 |[],_,_::_,_,h=>h.elim
 |_::_,_,[],_,h=>h.elim
 |y::l,j,u::us,hi,h=>⟨hi y (by simp) j u h.1,Aa.impM (λ z hz=>hi z (Vi _ hz)) h.2⟩
def Rp.imp {P:Program} {S1 S2:Sit} {n0 i:Nat} {k:RK} {l:List Lf} {u:Value} (hw:S2.w=S1.w) (hO:∀ k i,S1.O k = .tm i []→S2.O k = .tm i []) (hi:∀ y∈l,∀ i q u,Bv P S1 (.tm i q) y u→Bv P S2 (.tm i q) y u) (h:Rp P S1 n0 i k l u):Rp P S2 n0 i k l u:=by
 cases k with
 |one=>exact Aa.impM (λ x hx n u h=>hi x hx _ _ u h) h
 |agg=>
  obtain⟨us,e,h⟩:=h;exact⟨us,e,h.impM (λ x hx n u h=>hi x hx _ _ u h)⟩
 |ptr=>
  obtain⟨k,o,c,e,us,e1,e2,e3,e4,e5,e6,e7,h⟩:=h;exact⟨k,o,c,e,us,e1,by rw[hw];exact e2,e3,hO _ _ e4,e5,e6,e7,h.impM (λ x hx n u h=>hi x hx _ _ u h)⟩
def Nh.imp {P:Program} {S1 S2:Sit} {n0:Nat} (hw:S2.w=S1.w) (hO:∀ k i,S1.O k = .tm i []→S2.O k = .tm i []):∀ {rs:List (RK×Ty)} {i:Nat} {ls:List (List Lf)} {us:List Value},
  (∀ l∈ls,∀ y∈l,∀ i q u,Bv P S1 (.tm i q) y u→Bv P S2 (.tm i q) y u)→Nh P S1 n0 i rs ls us→Nh P S2 n0 i rs ls us
 |[],_,_,_,_,h=>h
 |k::ks,i,l::ls,u::us,hi,h=>⟨h.1.imp hw hO (hi l (by simp)),Nh.imp hw hO (λ l' hl'=>hi l' (Vi _ hl')) h.2⟩
 |_::_,_,[],_,_,h=>h.elim
 |_::_,_,_::_,[],_,h=>h.elim
def Lz.imp {P:Program} {S1 S2:Sit} {n0:Nat} {rs:List (RK×Ty)} {ls:List (List Lf)} {v:Value} (hw:S2.w=S1.w) (hO:∀ k i,S1.O k = .tm i []→S2.O k = .tm i [])
  (hi:∀ l∈ls,∀ y∈l,∀ i q u,Bv P S1 (.tm i q) y u→Bv P S2 (.tm i q) y u) (h:Lz P S1 n0 rs ls v):Lz P S2 n0 rs ls v:=by
 unfold Lz at h ⊢;split at h
 ·obtain⟨l,ls',rfl,h⟩:=h;exact⟨l,ls',rfl,h.imp hw hO (hi l (by simp))⟩
 ·obtain⟨us,e,h⟩:=h;exact⟨us,e,h.imp hw hO hi⟩
def E9b (K:Bc X S a) {A1:Ab} (hg:S.g=get A1) {d k o n0:Nat} {l0:List Nat} {m:List Lf} {us:List Value} {q:Nat→List Nat} {c:Array Value} {e:TypeId} (hd:d<X.nt) (hk:S.O k = .tm n0 l0) (hn0:n0≠0) (hk0:X.w0.heap.size≤k)
  (hc:S.w.heap[k]? = some (.cells c e (0,0))) (ho:o+m.length≤c.size) (hcs:∀ j,j<m.length→c[o+j]? = us[j]?) (hl:Aa X.P S (λ j => .tm 0 (q j)) 0 m us)
  (hq:∀ j,j<m.length→C2a d 0 0 (q j)=some (.pl (C d (0+j)) [])) (hm:m.length<999) (hst:∀ k,.hd k∉m) (hnp:X.np≤d):
  ∃ S',Bc X S' (a.put (some d) (.pointer (some ⟨k,o,none⟩)))∧S'.w=S.w∧S'.g=get (ups A1 (⟨H d,false,.one (.hd m.length)⟩::Eb d 0 m++[⟨d,false,.one (.bp d ((get A1 (H d)).1+1) 0)⟩])):=by
 obtain⟨K2,L2⟩:=K.newbox (d:=d) (k:=k) (o:=o) hk hn0 hk0 hc ho hcs hl hq hm hst hnp (Yf hd K.nt)
 have hv:((J4a S d k o m us).g (H d)).1=(S.g (H d)).1+1:=by
  show (Qg (upd S.g (H d) _) d 0 m (H d)).1=_;unfold Qg;rw[if_neg (J4 (by omega)),Ax]
 have K3:=K2.put0 hd (.one (.bp d ((S.g (H d)).1+1) 0)) (.pointer (some ⟨k,o,none⟩)) 0 rfl ⟨by rw[hv];exact Vx _,λ _=>by
  show Value.pointer _ = .pointer (some ⟨(upd S.bb d (k,o) d).1,(upd S.bb d (k,o) d).2+0,none⟩);rw[Ax]
  rfl⟩
 have e1:(J4a S d k o m us).g=get (ups A1 (⟨H d,false,.one (.hd m.length)⟩::Eb d 0 m)):=by
  show Qg (upd S.g (H d) ((S.g (H d)).1+1,.one (.hd m.length))) d 0 m=get (ups (up A1 ⟨H d,false,.one (.hd m.length)⟩) (Eb d 0 m));rw[Mn,Pf,← hg];rfl
 refine⟨_,K3,rfl,?_⟩;show upd (J4a S d k o m us).g d _=_;rw[Bb,Ay,← e1,← hg]
def Qia (d:Nat) (many:Bool):Nat→List Nat→Option Lab:=λ n q=>match n with
 |0=>none
 |n+1=>if many then (match q with
  |[]=>some (.pl d [n,0])
  |[j]=>some (.pl d [n,j])
  |_=>none) else (if n=0 then some (.pl d q) else none)
def Jta (d:Nat) (many:Bool):∀ n q p,Qia d many n q=some p→∃ p',p = .pl d p':=by
 intro n q p hp;unfold Qia at hp;split at hp
 ·cases hp
 ·split at hp
  ·split at hp<;>first|(cases hp;exact⟨_,rfl⟩)|cases hp
  ·split at hp<;>first|(cases hp;exact⟨_,rfl⟩)|cases hp
def Jua (K:Bc X S a) {A1:Ab} (hg:S.g=get A1) {rs:List (RK×Ty)} {ls:List (List Lf)} {d:Option Nat} {us:List Up} {v:Value} {n0:Nat} (hd:∀ d',d=some d'→d'<X.nt) (hn0:X.w0.heap.size≤n0) (hls:∀ l∈ls,∀ y∈l,Lr y=true) (hnp:∀ d',d=some d'→Nn rs=true→X.np≤d')
  (hr:Lz X.P S n0 rs ls v) (h:Tc A1 rs ls d=some us):∃ S',Bc X S' (a.put d v)∧S'.w=S.w∧S'.g=get (ups A1 us):=by
 cases d with
 |none=>
  have:us=[]:=by unfold Tc at h;cases rs<;>simpa using h.symm
  subst this;exact⟨S,K,rfl,hg⟩
 |some d=>
  cases rs with
  |nil=>
   have:us=[⟨d,false,.tup []⟩]:=by unfold Tc at h;simpa using h.symm
   subst this;obtain⟨vs,rfl,h2⟩:=hr
   have:vs=[]:=by cases ls<;>exact h2
   subst this;have K2:=K.put0 (hd d rfl) (.tup []) (.tuple #[]) 0 rfl ⟨[],rfl,trivial⟩;exact⟨_,K2,rfl,by show upd S.g d _=_;rw[Ay,← hg]⟩
  |cons r1 rs=>
   cases rs with
   |nil=>
    obtain⟨l,ls',e1,h2⟩:=hr;subst e1;obtain⟨k,t⟩:=r1
    cases k with
    |one=>
     have h2':Aa X.P S (λ _ => .tm 1 []) 0 l [v]:=h2
     cases l with
     |nil=>exact h2'.elim
     |cons x l=>
      cases l with
      |cons y l=>exact h2'.2.elim
      |nil=>
       have:us=[⟨d,false,.one x⟩]:=by unfold Tc at h;simpa using h.symm
       subst this;have h3:Bv X.P S (.tm 1 []) x v:=h2'.1;have L:=Jm S (Qia d false) d (.one x) v;have hsv:Mt X.P (Oo S (Qia d false) d (.one x) v) d (.one x) v:=Bv.later (lab := .tm 1 []) (lab' := .pl d []) L h3 (λ k hk=>⟨Mf hk rfl,rfl⟩);have K2:=K.put (hd d rfl) (Qia d false) (Jta d false) (.one x) v hsv;exact⟨_,K2,rfl,by show upd S.g d _=_;rw[Ay,← hg]⟩
    |agg=>
     have:us=[⟨d,false,.agg l⟩]:=by unfold Tc at h;simpa using h.symm
     subst this;obtain⟨vs,rfl,h3⟩:=h2;have L:=Jm S (Qia d false) d (.agg l) (.agg vs.toArray);have hsv:Mt X.P (Oo S (Qia d false) d (.agg l) (.agg vs.toArray)) d (.agg l) (.agg vs.toArray):=⟨vs,rfl,h3.imp (λ j x u hx=>hx.later L (λ k hk=>⟨Mf hk rfl,rfl⟩))⟩;have K2:=K.put (hd d rfl) (Qia d false) (Jta d false) (.agg l) _ hsv;exact⟨_,K2,rfl,by show upd S.g d _=_;rw[Ay,← hg]⟩
    |ptr=>
     have:us=Qqa A1 d l:=by unfold Tc at h;simpa using h.symm
     subst this;obtain⟨k,o,c,e,vs,rfl,e2,e3,e4,e5,e6,e7,h3⟩:=h2
     let hh:Nat→List Nat→Option Lab:=λ n q=>if n=1 then some (.tm 0 q) else none
     obtain⟨K1,L1⟩:=K.names hh (by intro n q;simp only[hh];split<;>simp)
     have e4':({ S with O:=atO S.O hh }:Sit).O k = .tm 501 []:=Pg e4 (by simp[hh])
     obtain⟨S',K',w',g'⟩:=E9b K1 (A1:=A1) (q:=λ j=>[j]) hg (hd d rfl) e4' (by decide) (Zt hn0 e3) e2 e5 e7 (h3.imp (λ j x u hx=>hx.later L1 (λ k hk=>⟨Mf hk (by simp[hh]),rfl⟩))) (λ j hj=>rfl) e6 (by
      intro k hk;have:=hls l (by simp) _ hk
      simp[Lr]at this) (hnp d rfl rfl)
     exact⟨S',K',w',by rw[g'];rfl⟩
   |cons r2 rs=>
    have h':(bif Nn (r1::r2::rs) then none else some [(⟨d,false,.tup (Fwa (r1::r2::rs) ls)⟩:Up)])=some us:=by
     unfold Tc at h;obtain⟨k1,t1⟩:=r1
     cases k1<;>exact h
    cases hp:Nn (r1::r2::rs)
    case true=>rw[hp]at h';simp at h'
    rw[hp]at h';simp only[cond_false,Vg]at h';subst h';obtain⟨vs,rfl,h2⟩:=hr;generalize hR:(r1::r2::rs)=R2 at hp h2
    have key:∀ (s:Sv) (rs:List (RK×Ty)) (i:Nat) (ls:List (List Lf)) (us:List Value),Nn rs=false→Nh X.P S n0 (i+1) rs ls us→Rb X.P (Oo S (Qia d true) d s (.tuple vs.toArray)) d i (Fwa rs ls) us:=by
     intro s rs
     induction rs with
     |nil=>
      intro i ls us _ h
      have:us=[]:=by cases ls<;>exact h
      subst this;simp[Fwa,Rb]
     |cons r rs ih=>
      intro i ls us hp h
      cases ls with
      |nil=>exact h.elim
      |cons l ls=>
       cases us with
       |nil=>exact h.elim
       |cons u us=>
        obtain⟨k,t⟩:=r;have L:=Jm S (Qia d true) d s (.tuple vs.toArray)
        have hp2:Nn rs=false:=by cases k<;>first|(simp[Nn]at hp;done)|simpa[Nn] using hp
        refine⟨?_,ih (i+1) ls us hp2 h.2⟩
        cases k with
        |ptr=>simp[Nn]at hp
        |one=>
         have h2':Aa X.P S (λ _ => .tm (i+1) []) 0 l [u]:=h.1;refine⟨[u],rfl,?_⟩
         cases l with
         |nil=>exact h2'.elim
         |cons x l=>
          cases l with
          |cons y l=>exact h2'.2.elim
          |nil=>exact⟨Bv.later (lab := .tm (i+1) []) (lab' := .pl d [i,0]) L h2'.1 (λ k hk=>⟨Mf hk rfl,rfl⟩),trivial⟩
        |agg=>
         obtain⟨ws,e1,h3⟩:=h.1;exact⟨ws,e1,h3.imp (λ j x u hx=>hx.later L (λ k hk=>⟨Mf hk rfl,rfl⟩))⟩
    have hsv:Mt X.P (Oo S (Qia d true) d (.tup (Fwa R2 ls)) (.tuple vs.toArray)) d (.tup (Fwa R2 ls)) (.tuple vs.toArray):=⟨vs,rfl,key _ _ 0 ls vs hp h2⟩;have K2:=K.put (hd d rfl) (Qia d true) (Jta d true) (.tup (Fwa R2 ls)) _ hsv;exact⟨_,K2,rfl,by show upd S.g d _=_;rw[Ay,← hg]⟩
def Rpa (N:Nat):Nat→List Nat→Option Lab:=λ n _=>if n≤N then some .fz else none
def Aa.calmN {P:Program} {S:Sit} {N i:Nat} (hi:i≤N) {q:Nat→List Nat}:∀ {l:List Lf} {j:Nat} {us:List Value},(∀ y∈l,Lr y=true)→Aa P S (λ n => .tm i (q n)) j l us→Aa P { S with O:=atO S.O (Rpa N) } (λ n => .tm i (q n)) j (l.map Po) us
 |[],_,[],_,_=>trivial
 |[],_,_::_,_,h=>h.elim
 |_::_,_,[],_,h=>h.elim
 |x::l,j,u::us,hs,h=>by
  have hfz:∀ k,S.O k = .fz→atO S.O (Rpa N) k = .fz:=λ k hk=>Bm hk (by simp);refine⟨?_,Aa.calmN hi (λ y hy=>hs y (Vi _ hy)) h.2⟩;have h1:=hs x (by simp)
  cases x with
  |sc v=>exact h.1
  |fz e r xs=>exact Ty.rep_mono (t := .sl e r) hfz (λ _ _=>rfl) _ _ h.1
  |own e r xs=>
   have h2:Ik P S.O S.w (.tm i (q j)) e r xs u:=h.1;exact h2.reads (O':=λ k=>atO S.O (Rpa N) k) hfz (λ k hk=>Mf hk (by simp[Rpa,hi]))
  |_=>simp[Lr]at h1
def Rp.calmN {P:Program} {S:Sit} {N n0 i:Nat} (hi:i≤N) {k:RK} (hk:k = .ptr→N<i+500) {l:List Lf} {u:Value} (hs:∀ y∈l,Lr y=true) (h:Rp P S n0 i k l u):Rp P { S with O:=atO S.O (Rpa N) } n0 i k (l.map Po) u:=by
 cases k with
 |one=>exact Aa.calmN (q:=λ _=>[]) hi hs h
 |agg=>
  obtain⟨us,e,h⟩:=h;exact⟨us,e,Aa.calmN (q:=λ n=>[n]) hi hs h⟩
 |ptr=>
  obtain⟨k,o,c,e,us,h1,h2,h3,h4,h5,h6,h7,h8⟩:=h;have:=hk rfl;refine⟨k,o,c,e,us,h1,h2,h3,?_,by rw[Wh];exact h5,by rw[Wh];exact h6,by rw[Wh];exact h7,Aa.calmN (q:=λ n=>[n]) hi hs h8⟩;exact Pg h4 (by unfold Rpa;rw[if_neg (by omega)])
def Lz.calmN {P:Program} {S:Sit} {N n0:Nat} {rs:List (RK×Ty)} (hN:rs.length≤N) (hk:Nn rs=true→N<501) {ls:List (List Lf)} {v:Value} (hs:∀ l∈ls,∀ y∈l,Lr y=true) (h:Lz P S n0 rs ls v):Lz P { S with O:=atO S.O (Rpa N) } n0 rs (ls.map λ l=>l.map Po) v:=by
 have all:∀ (rs:List (RK×Ty)) (i:Nat) (ls:List (List Lf)) (us:List Value),1≤i→i+rs.length≤N+1→(Nn rs=true→N<501)→(∀ l∈ls,∀ y∈l,Lr y=true)→Nh P S n0 i rs ls us→Nh P { S with O:=atO S.O (Rpa N) } n0 i rs (ls.map λ l=>l.map Po) us:=by
  intro rs
  induction rs with
  |nil=>intro i ls us _ _ _ _ h;exact h
  |cons r rs ih=>
   intro i ls us h1 h2 h3 h4 h;simp only[Vd]at h2
   cases ls with
   |nil=>exact h.elim
   |cons l ls=>
    cases us with
    |nil=>exact h.elim
    |cons u us=>
     refine⟨Rp.calmN (by omega) (λ hp=>?_) (h4 l (by simp)) h.1,ih (i+1) ls us (by omega) (by omega) (λ hp=>h3 ?_) (λ l hl=>h4 l (Vi _ hl)) h.2⟩
     ·have:=h3 (by obtain⟨k,t⟩:=r;have:k = .ptr:=hp;subst this;rfl);omega
     ·obtain⟨k,t⟩:=r
      cases k<;>first|exact hp|rfl
 unfold Lz at h ⊢;split at h
 ·rename_i r;obtain⟨l,ls',e,h⟩:=h;subst e;refine⟨l.map Po,_,rfl,Rp.calmN (by simpa using hN) (λ hp=>?_) (hs l (by simp)) h⟩;have:=hk (by obtain⟨k,t⟩:=r;have:k = .ptr:=hp;subst this;rfl);omega
 ·obtain⟨us,e,h⟩:=h;exact⟨us,e,all _ 1 _ _ (Vx _) (by omega) hk hs h⟩
def M6a {E:En} (K:Bc X S a) {A1:Ab} (hg:S.g=get A1) {rs:List (RK×Ty)} {ls:List (List Lf)} {d:Option Nat} {us:List Up} {v:Value} {n0:Nat} (hN:Nn rs=true→rs.length≤400) (hd:∀ d',d=some d'→d'<X.nt) (hn0:X.w0.heap.size≤n0) (hls:∀ l∈ls,∀ y∈l,Lr y=true) (hnp:∀ d',d=some d'→Nn rs=true→X.np≤d')
  (hr:Lz X.P S n0 rs ls v) (h:Tc A1 rs (shL E d ls) d=some us):∃ S',Bc X S' (a.put d v)∧S'.w=S.w∧S'.g=get (ups A1 us):=by
 cases d with
 |none=>exact Jua K hg hd hn0 hls hnp hr h
 |some d=>
  unfold shL at h;simp only at h;cases hsh:E.sh d
  ·rw[hsh]at h;exact Jua K hg hd hn0 hls hnp hr h
  rw[hsh,cond_true]at h
  have go:∀ N,rs.length≤N→(Nn rs=true→N<501)→∃ S',Bc X S' (a.put (some d) v)∧S'.w=S.w∧S'.g=get (ups A1 us):=by
   intro N h1 h2
   obtain⟨K1,_⟩:=K.names (Rpa N) (by intro n q;unfold Rpa;split<;>simp)
   refine Jua (S := { S with O:=atO S.O (Rpa N) }) K1 hg hd hn0 (λ l hl y hy=>?_) hnp (hr.calmN h1 h2 hls) h;obtain⟨l0,h3,rfl⟩:=Zc.1 hl;obtain⟨y0,h4,rfl⟩:=Zc.1 hy;have:=hls l0 h3 y0 h4
   cases y0<;>first|rfl|simp[Lr]at this
  cases hp:Nn rs with
  |true=>exact go 400 (hN hp) (λ _=>by omega)
  |false=>exact go rs.length (Vx _) (λ h=>by rw[hp]at h;cases h)
end
end

section
attribute [local irreducible] C H
def Mk:List Ty→List (List Lf)→List (List Lf)→Prop
 |[],[],[]=>True
 |t::ts,l::ls,l'::ls'=>(∃ y,mkW t l=some y∧l'=A8 t y)∧Mk ts ls ls'
 |_,_,_=>False
def Y8:∀ (ts:List Ty) (ls:List (List Lf)) (x:Den ts),V3 ts ls=some x→Mk ts ls (Fu ts x)
 |[],[],_,_=>trivial
 |[],_::_,_,h=>by simp[V3]at h
 |[t],[],_,h=>by simp[V3]at h
 |[t],[l],x,h=>⟨⟨x,h,rfl⟩,trivial⟩
 |[t],_::_::_,_,h=>by simp[V3]at h
 |_::_::_,[],_,h=>by simp[V3]at h
 |t::u::ts,l::ls,x,h=>by
  simp only[V3]at h;split at h
  ·rename_i y hy;split at h
   ·rename_i z hz;cases h;exact⟨⟨y,hy,rfl⟩,Y8 (u::ts) ls z hz⟩
   ·cases h
  ·cases h
def Mw:∀ (ts:List Ty) (x:Den ts),∀ l∈Fu ts x,∀ y∈l,Lr y=true
 |[],_=>by simp[Fu]
 |[t],x=>by
  intro l hl;simp[Fu]at hl;subst hl;exact Ni t x
 |t::u::ts,x=>by
  intro l hl;rcases Vl.1 (show l∈A8 t x.1::Fu (u::ts) x.2 from hl) with rfl|h
  ·exact Ni t x.1
  ·exact Mw (u::ts) x.2 l h
def Afa (t:Ty) (x:t.den) (h:Nd t=true):A8 t x=lvs t x:=Y6 t x h
section
variable {X:Cx} {S S':Sit} {a:Act} {E:En} {A:Ab} {o:Oper} {R:Type} {Kc:List Up→Option R} {r:R}
def Wsa (hE:Nc X E) (K:Bc X S a) (hg:S.g=get A) {T:TypeId} {x:Operand} {s:Sv} {ag:Bool} (hx:opT E T A x=some s) (hf:Ng ag s=true):
  ∃ us,∃ f:Nat→Lab,(if ag then a.eval x = .agg us.toArray else us=[a.eval x])∧Aa X.P S f 0 (parts s) us∧∀ n,f n ≠ .no:=by
 rcases Pw hE K hg hx with⟨t,rfl,ht,hst,het,hok⟩|⟨hnt,y,rfl,hy⟩
 ·cases s with
  |tup vs=>simp[Ng,Qga]at hf
  |one y=>
   have:ag=false:=by cases ag<;>simp[Ng,Qga]at hf ⊢
   subst this;exact⟨[a.eval (.tmp t)],λ _ => .pl t [],rfl,⟨hok,trivial⟩,by simp⟩
  |agg l=>
   have:ag=true:=by cases ag<;>simp[Ng,Qga]at hf ⊢
   subst this;obtain⟨us,e1,hl⟩:=hok;exact⟨us,λ n => .pl t [n],e1,hl,by simp⟩
 ·have:ag=false:=by cases ag<;>simp[Ng,Qga]at hf ⊢
  subst this;exact⟨[a.eval x],λ _ => .fz,rfl,⟨hy _,trivial⟩,by simp⟩
def Rqa {ag:Bool} {s:Sv} (hf:Ng ag s=true):∀ vs,s ≠ .tup vs:=by
 intro vs e;subst e;simp[Ng,Qga]at hf
def Cua {ag:Bool} {s:Sv} {u:Value} {us:List Value} (hf:Ng ag s=true) (h:Xt s u us):if ag then u = .agg us.toArray else us=[u]:=by
 cases s with
 |tup vs=>simp[Ng,Qga]at hf
 |one y=>
  have:ag=false:=by cases ag<;>simp[Ng,Qga]at hf ⊢
  subst this;exact h
 |agg l=>
  have:ag=true:=by cases ag<;>simp[Ng,Qga]at hf ⊢
  subst this;exact h
def Cva {P:Program} {S:Sit} {G:Nat→Prop} {t:Ty} {l:List Lf} {y:t.den} {us:List Value} (hG:∀ k,G k→S.O k = .fz) (hm:mkW t l=some y) (hn:Nd t=true) (h:Ob (N7 P G S.w) l us) (f:Nat→Lab) (j:Nat):Aa P S f j (A8 t y) us:=by
 have h1:=A3a hm h;have h2:=Qe (P:=P) (G:=λ k=>S.O k = .fz) (w:=S.w) t y us (Ty.rep_mono hG (λ _ _=>rfl) t y us h1);rw[Afa t y hn];exact Aa.ofRep h2 f j
def W5 (S:Sit):Nat→Lab:=λ k=>if S.O k = .no then .no else .fz
def Wta {y:Lf} {u:Value} {lab:Lab} (K:Bc X S a) (hg:S.g=get A) (h:Bv X.P S lab y u):∃ lab',(lab'=lab∨∃ p,lab' = .pl p [])∧Bv X.P S lab' (Nl A y) u:=by
 unfold Nl;split
 ·rename_i p v;split
  ·rename_i n e r xs hp;cases hb:Nat.beq n v
   ·exact⟨lab,.inl rfl,trivial⟩
   have hnv:n=v:=by simpa using hb
   subst hnv;have e1:u=S.ph p:=h.2 (by rw[hg,hp]);refine⟨.pl p [],.inr ⟨p,rfl⟩,?_⟩;have:=K.at_ p;rw[hg,hp]at this;rw[e1];exact this
  ·rename_i n e r xs hp;cases hb:Nat.beq n v
   ·exact⟨lab,.inl rfl,trivial⟩
   have hnv:n=v:=by simpa using hb
   subst hnv;have e1:u=S.ph p:=h.2 (by rw[hg,hp]);refine⟨.pl p [],.inr ⟨p,rfl⟩,?_⟩;have:=K.at_ p;rw[hg,hp]at this;rw[e1];exact this
  ·exact⟨lab,.inl rfl,trivial⟩
 ·exact⟨lab,.inl rfl,h⟩
def M7a (K:Bc X S a) (hg:S.g=get A) {f:Nat→Lab} (hf:∀ n,f n ≠ .no):∀ {l:List Lf} {j:Nat} {us:List Value},Aa X.P S f j l us→A5 (l.map λ y=>Po (Dua A y))=true→
  Ob (N7 X.P (λ k=>W5 S k = .fz) S.w) (l.map λ y=>Po (Dua A y)) us
 |[],_,[],_,_ => .nil
 |[],_,_::_,h,_=>h.elim
 |_::_,_,[],h,_=>h.elim
 |y::l,j,u::us,h,hst=>by
  have hfz:∀ k,S.O k = .fz→W5 S k = .fz:=λ k hk=>by simp[W5,hk]
  rw[Yp]at hst ⊢
  have hrest:A5 (l.map λ y=>Po (Dua A y))=true:=by
   generalize Po (Dua A y)=z at hst
   cases z<;>first|(simp[A5]at hst;done)|simpa[A5] using hst
  refine .cons ?_ (M7a K hg hf h.2 hrest)
  have hv:(∃ lab',lab' ≠ .no∧Bv X.P S lab' (Dua A y) u)∨∃ p e r,∃ xs:List (Ty.den r),Dua A y = .fz e r xs∧Jja X.P S p e r xs u:=by
   unfold Dua;split
   ·rename_i p v pi e r xs;cases hq:Nat.beq (get A p).1 v
    ·exact .inl ⟨f j,hf j,trivial⟩
    obtain⟨_,_,h2⟩:=h.1;exact .inr ⟨p,e,r,xs,rfl,(h2 (by rw[hg];exact Vh hq)).2.1⟩
   ·obtain⟨lab',hlab,h1⟩:=Wta K hg h.1;refine .inl ⟨lab',?_,h1⟩;rcases hlab with rfl|⟨p,rfl⟩
    ·exact hf j
    ·simp
  rcases hv with⟨lab',hno,h1⟩|⟨p,e,r,xs,e1,h1⟩
  rotate_left 1
  ·rw[e1]
   exact h1.reads (λ k hk=>by
    rcases hk with hk|hk<;>simp[W5,hk])
  generalize Dua A y=z at h1 hst
  cases z with
  |sc v=>exact h1
  |fz e r xs=>exact Ty.rep_mono (t := .sl e r) hfz (λ _ _=>rfl) _ _ h1
  |own e r xs=>
   have h2:Ik X.P S.O S.w lab' e r xs u:=h1;exact h2.reads (O':=W5 S) hfz (λ k hk=>by simp[W5,hk,hno])
  |_=>simp[Po,A5]at hst
def Gna (hE:Nc X E) (K:Bc X S a) (hg:S.g=get A) (rg:Nat→Nat×Nat) (nv:Nat) (hs:List Value):∀ (ps:List Par) {xs:List Operand} {ss:List Sv} {ls ls':List (List Lf)} {i:Nat},Ob (λ s x=>∃ T,opT E T A x=some s) ss xs→Rh A ps ss=some ls→Mk (ps.map Par.ty) ls ls'→
  Rg ps=true→Q4 X.P (bare (W5 S) S.w) rg nv hs i ps ls' (xs.map a.eval)∧xs.length=ps.length
 |[],_,_,ls,ls',i,.nil,h,hm,_=>by
  simp only[Rh,Vg]at h;subst h
  cases ls' with
  |nil=>exact⟨trivial,rfl⟩
  |cons=>exact hm.elim
 |[],_,_,ls,ls',i,.cons _ _,h,hm,_=>by simp[Rh]at h
 |.ptr _ _::_,_,_,_,_,_,_,_,_,hl=>by simp[Rg]at hl
 |.hid _ _::_,_,_,_,_,_,_,_,_,hl=>by simp[Rg]at hl
 |.rd _::_,_,_,_,_,_,_,_,_,hl=>by simp[Rg]at hl
 |.fn _ _::_,_,_,_,_,_,_,_,_,hl=>by simp[Rg]at hl
 |.val ag t::ps,_,_,ls,ls',i,.nil,h,_,_=>by simp[Rh]at h
 |.val ag t::ps,_,_,ls,ls',i,.cons (x:=s) (y:=x) (xs:=ss) (ys:=xs) hs1 hss,h,hm,hl=>by
  simp only[Rg,Va]at hl;simp only[Rh]at h;obtain⟨hq,h⟩:=cs h;simp only[Va]at hq;split at h
  ·rename_i ls1 hls1;cases h
   cases ls' with
   |nil=>exact hm.elim
   |cons l' ls'=>
    obtain⟨⟨y,hy,rfl⟩,hm2⟩:=hm;obtain⟨T,hx⟩:=hs1;obtain⟨us,f,hsh,hlf,hf⟩:=Wsa hE K hg hx hq.1;obtain⟨r1,r2⟩:=Gna hE K hg rg nv hs (i:=i+1) ps hss hls1 hm2 hl.2;exact⟨⟨⟨us,hsh,Cva (S:=bare (W5 S) S.w) (λ k hk=>hk) hy hl.1 (M7a K hg hf hlf hq.2) _ _⟩,r1⟩,by simp[r2]⟩
  ·cases h
def Qk:Lf→Bool
 |.sc _=>true
 |.own _ r _=>Ki r
 |_=>false
def Pi:∀ (t:Ty) (x:t.den),Ki t=true→∀ y∈A8 t x,Qk y=true
 |.i _,_,_=>by simp[A8,Qk]
 |.b,_,_=>by simp[A8,Qk]
 |.s,_,_=>by simp[A8,Qk]
 |.sl _ _,_,h=>by simp[Ki]at h
 |.ow _ r,_,h=>by simpa[A8,Qk,Ki] using h
 |.pr x y,p,h=>by
  simp only[Ki,Va]at h;intro z hz;rcases Vp.1 (show z∈A8 x p.1++A8 y p.2 from hz) with h'|h'
  ·exact Pi x p.1 h.1 z h'
  ·exact Pi y p.2 h.2 z h'
def Eab {P:Program} {S1 S2:Sit} {lab lab':Lab} {y:Lf} {u:Value} (hy:Qk y=true) (hw:S2.w=S1.w) (hl:∀ k,S1.O k=lab→S2.O k=lab') (h:Bv P S1 lab y u):Bv P S2 lab' y u:=by
 cases y with
 |sc v=>exact h
 |own e r xs=>
  obtain⟨bs,h1,h2,h3⟩:=h;exact⟨bs,Ty.dep_all (.ow e r) xs [u] bs hy (λ k _=>by rw[hw]) h1,h2,λ k hk=>hl k (h3 k hk)⟩
 |_=>simp[Qk]at hy
def Aga:∀ (rs:List (RK×Ty)) (x:Den (rs.map Prod.snd)),C0a rs=true→∀ l∈Fu (rs.map Prod.snd) x,∀ y∈l,Qk y=true
 |[],_,_=>λ l hl=>by cases (show l∈([]:List (List Lf)) from hl)
 |[(k,t)],x,h=>by
  intro l hl;have hl':l∈[A8 t x]:=hl;simp at hl';subst hl'
  have:Ki t=true:=by cases k<;>simp[C0a]at h<;>exact h
  exact Pi t x this
 |(k,t)::r2::rs,x,h=>by
  intro l hl
  have h2:Ki t=true∧C0a (r2::rs)=true:=by
   cases k<;>simp only[C0a,Va]at h<;>first|exact h|cases h
  rcases Vl.1 (show l∈A8 t x.1::Fu ((r2::rs).map Prod.snd) x.2 from hl) with rfl|h'
  ·exact Pi t x.1 h2.1
  ·exact Aga (r2::rs) x.2 h2.2 l h'
end
end

section
attribute [local irreducible] C H
section
variable {X:Cx} {S S':Sit} {a:Act} {E:En} {A:Ab} {o:Oper} {R:Type} {Kc:List Up→Option R} {r:R}
def Rra {P:Program} {w:World} {c:Call} {f:FuncId} {en:Ent} (ho:o.op = .call c) (hc:c.callee = .value (.func f)) (hf:Q5 P f en):(execOp a.eval o).run P w = .ok (.enter f (c.args.toList.map a.eval).toArray) w:=by
 obtain⟨fn,h1,h2,h3⟩:=hf.fn
 have e1:c.args.map a.eval=(c.args.toList.map a.eval).toArray:=by
  apply Jyb;simp
 unfold execOp;simp only[ho,resolve,hc,Act.eval,Deferred.ofValue,Wg,Ya,Wf,invoke,callFunc,run_program,h1];rw[if_neg (by rw[h2];simp),if_neg (by rw[h3];simp)];simp only[Ya,Array.append_empty,Array.empty_append];rw[e1]
def Oza {P:Program} {w:World} {c:Call} {f:FuncId} {en:Ent} {t:Nat} {us:List Value} (ho:o.op = .call c) (hc:c.callee = .value (.tmp t)) (hv:a.eval (.tmp t) = .func (.func f) #[] us.toArray) (hf:Q5 P f en):
  (execOp a.eval o).run P w = .ok (.enter f (c.args.toList.map a.eval++us).toArray) w:=by
 obtain⟨fn,h1,h2,h3⟩:=hf.fn
 have e1 : #[]++(c.args.map a.eval++us.toArray)=(c.args.toList.map a.eval++us).toArray:=by
  apply Jyb;simp
 have e2 : #[]++c.args.map a.eval++us.toArray=(c.args.toList.map a.eval++us).toArray:=by
  apply Jyb;simp
 unfold execOp;simp only[ho,resolve,hc,hv,Deferred.ofValue,Wg,Ya,Wf,invoke,callFunc,run_program,h1];rw[if_neg (by rw[h2];simp),if_neg (by rw[h3];simp)];simp only[Ya]
 first|rw[e1]|rw[e2]
def Cwa {f:FuncId} {args:Array Value} {w:World} {A':Ab} (hr:(execOp a.eval o).run X.P w = .ok (.enter f args) w)
  (h:Calls X.P f args w (λ e w'=>∃ v,e = .returned v∧∃ S',S'.w=w'∧Bc X S' (a.put o.dst v)∧S'.g=get A')):Wba X o a w A':=by
 intro next Q hn;unfold Oper.wp;rw[hr,Oper.upon_enter];intro cs;obtain⟨e,w',fr,⟨v,rfl,S',hw,K',hg'⟩,rest⟩:=h cs;refine⟨_,w',fr,?_,rest⟩;rw[← hw];exact hn S' _ K' hg'
def W6 {P:Program} {f:FuncId} {args:Array Value} {w:World} {R1 R2:Ending→World→Prop} (h:Calls P f args w R1) (hi:∀ e w',R1 e w'→R2 e w'):Calls P f args w R2:=by
 intro cs;obtain⟨e,w',fr,hr,rest⟩:=h cs;exact⟨e,w',fr,hi _ _ hr,rest⟩
def Cxa:∀ ps:List Par,Rg ps=true→Nm ps=[]
 |[],_=>rfl
 |.val _ _::ps,h=>by
  simp only[Rg,Va]at h;exact Cxa ps h.2
 |.ptr _ _::_,h=>by simp[Rg]at h
 |.hid _ _::_,h=>by simp[Rg]at h
 |.rd _::_,h=>by simp[Rg]at h
 |.fn _ _::_,h=>by simp[Rg]at h
def Wua {ts:List Ty} {rs:List (RK×Ty)} (he:ts=rs.map Prod.snd) (x:Den ts) (h:C0a rs=true):∀ l∈Fu ts x,∀ y∈l,Qk y=true:=by
 subst he;exact Aga rs x h
def Sn:∀ rs:List (RK×Ty),C0a rs=true→Nn rs=false
 |[],_=>rfl
 |(k,t)::rs,h=>by
  cases k with
  |ptr=>simp[C0a]at h
  |one=>simp only[C0a,Va]at h;exact Sn rs h.2
  |agg=>simp only[C0a,Va]at h;exact Sn rs h.2
def Bgb (hE:Nc X E) (K:Bc X S a) (hg:S.g=get A) {xs:List Operand} {f:FuncId} {en:Ent} {ss:List Sv} (hrun:(execOp a.eval o).run X.P S.w = .ok (.enter f (xs.map a.eval).toArray) S.w) (hd:∀ d,o.dst=some d→d<X.nt)
  (hco:Q5 X.P f en) (hnv:en.nv=xs.length) (hss:Ob (λ s x=>∃ T,opT E T A x=some s) ss xs) (hl:Rg en.ps=true) (hn:C0a en.rs=true)
  (h:(match Rh A en.ps ss with
  |none=>none
  |some ls=>match V3 _ ls with
   |none=>none
   |some x=>(en.run x).bind λ r=>
    match Tc A en.rs (shL E o.dst (Fu _ r)) o.dst with
    |none=>none
    |some rs=>Kc rs)=some r):Lw X o a S.w A Kc r:=by
 split at h
 ·cases h
 ·rename_i ls hls;split at h
  ·cases h
  ·rename_i x hx
   cases hrun':en.run x with
   |none=>rw[hrun']at h;simp at h
   |some y=>
    rw[hrun']at h;simp only[Vn]at h;split at h
    ·cases h
    ·rename_i us hus;obtain⟨hargs,hlen⟩:=Gna (i:=0) hE K hg (λ _=>(0,0)) en.nv ((xs.map a.eval).drop en.nv) en.ps hss hls (Y8 _ _ _ hx) hl
     have hs:=hco.sound x y hrun' S.w (W5 S) (λ _=>(0,0)) _ (λ k hk=>K.lt k (λ e=>hk (by simp[W5,e]))) (λ k b hk=>by unfold W5 at hk;split at hk<;>cases hk) hargs
     rw[Hsb (by rw[Wh,hnv];exact Vx _)]at hs;refine⟨us,h,Cwa hrun (W6 hs ?_)⟩;rintro e w' ⟨v,O',rfl,hF,hlt,hres,_⟩;refine⟨v,rfl,?_⟩
     have hsame:∀ k,k<S.w.heap.size→w'.heap[k]? = S.w.heap[k]? ∧ (O' k = .no∨O' k = .fz):=λ k hk=>by
      by_cases h0:S.O k = .no
      ·have:=hF.no k hk (by simp[W5,h0]);exact⟨this.2,.inl this.1⟩
      ·have:=hF.fz k hk (by simp[W5,h0]);exact⟨this.2,.inr this.1⟩
     let O2:Nat→Lab:=λ k=>if k<S.w.heap.size then S.O k else O' k
     obtain⟨K1,L1⟩:=K.world (w':=w') (O':=O2) (λ k hk _=>⟨if_pos hk,(hsame k hk).1⟩) hF.os hF.tape hF.out hF.size (λ k hk=>by
      by_cases hkl:k<S.w.heap.size
      ·exact Yf hkl hF.size
      ·exact hlt k (by simpa[O2,hkl] using hk))
     have htm:∀ k i q,O' k = .tm i q→O2 k = .tm i q:=λ k i q hk=>by
      have:¬ k<S.w.heap.size:=λ hkl=>by
       rcases (hsame k hkl).2 with h|h<;>rw[h]at hk<;>cases hk
      simp[O2,this,hk]
     have hnews:=Wua (by rw[Cxa en.ps hl,Wp]) y hn;have hres1:Lz X.P (C8a S w' O2) S.w.heap.size en.rs (Fu _ y) v:=Lz.imp (S1:=bare O' w') (S2:=C8a S w' O2) rfl (λ k i hk=>htm k i [] hk) (λ l hl' z hz i q u hu=>Eab (S1:=bare O' w') (S2:=C8a S w' O2) (hnews l hl' z hz) rfl (λ k hk=>htm k i q hk) hu) hres;obtain⟨S2,K2,w2,g2⟩:=M6a (E:=E) K1 (A1:=A) hg (λ h=>by rw[Sn _ hn]at h;cases h) hd K.fr.size (Mw _ y) (λ d' _ h=>by rw[Sn _ hn]at h;cases h) hres1 hus;exact⟨S2,w2,K2,g2⟩
end
end

section
attribute [local irreducible] C H
def C3a:List Ty→List Lf→Prop
 |.ow _ _::ts,_::l=>C3a ts l
 |_::ts,x::l=>x.isOwn=false∧C3a ts l
 |[],[]=>True
 |_,_=>False
def P0a (z:Lf):(Po z).isOwn=false:=by cases z<;>rfl
def Ql:∀ (ts:List Ty) (l:List Lf) {A:Ab} {m:List Lf} {us:List Up},Jg A ts l=some (m,us)→C3a ts m
 |[],[],A,m,us,h=>by
  simp only[Jg,Vg,Vy]at h;obtain⟨rfl,_⟩:=h;trivial
 |[],_::_,A,m,us,h=>by simp[Jg]at h
 |t::ts,[],A,m,us,h=>by cases t<;>simp[Jg]at h
 |t::ts,x::l,A,m,us,h=>by
  cases t with
  |ow e r=>
   simp only[Jg]at h;split at h
   ·split at h
    ·rename_i hr;cases h;exact Ql ts l hr
    ·cases h
   ·cases h
  |_=>
   simp only[Jg]at h;split at h
   ·rename_i hr;cases h;exact⟨P0a _,Ql ts l hr⟩
   ·cases h
def Cya {A:Ab} {x:Operand} {s:Sv} {t:Ty} {m:List Lf} {us:List Up} (h:V5 A x s t=some (m,us)):C3a (M4 t) m:=by
 unfold V5 V4 at h;split at h
 ·rename_i m0 vs0 ht;cases hst:A5 m0
  ·rw[hst]at h;simp at h
  rw[hst]at h;simp only[cond_true,Vg,Vy]at h;obtain⟨rfl,rfl⟩:=h;exact Ql _ _ ht
 ·cases h
def W7 {A:Ab} {b v:Nat} {t t':Ty} {m:List Lf} {us:List Up} (h:Tb A b v t t'=some (m,us)):C3a (M4 t) m:=by
 unfold Tb at h;split at h
 ·rename_i n hd hp;obtain⟨hq,h⟩:=cs h;split at h
  ·rename_i l us0 hx;cases hst:A5 l
   ·rw[hst]at h;simp at h
   rw[hst]at h;simp only[cond_true,Vg,Vy]at h;obtain⟨rfl,rfl⟩:=h;exact Ql _ _ hx
  ·cases h
 ·cases h
def Wva {P:Program} {S:Sit} {f:Nat→Lab}:∀ (t:Ty) (ts:List Ty) (l l':List Lf) (x:t.den) (j:Nat) (us:List Value),C3a (M4 t++ts) l→mkT t l=some (x,l')→Aa P S f j l us→Aa P S f j (A8 t x++l') us∧C3a ts l':=by
 intro t
 induction t with
 |pr p q ihp ihq=>
  intro ts l l' x j us h hm hl;simp only[M4,Vo]at h;simp only[mkT]at hm;split at hm
  ·rename_i y l1 h1;split at hm
   ·rename_i z l2 h2;simp only[Vg,Vy]at hm;obtain⟨rfl,rfl⟩:=hm;obtain⟨h3,h4⟩:=ihp _ _ _ _ j us h h1 hl
    have key:∀ (a:List Lf) (j:Nat) (us:List Value),Aa P S f j (a++l1) us→Aa P S f j (a++(A8 q z++l2)) us∧C3a ts l2:=by
     intro a
     induction a with
     |nil=>intro j us h5;exact ihq _ _ _ _ j us h4 h2 h5
     |cons b a ih=>
      intro j us h5
      cases us with
      |nil=>exact h5.elim
      |cons u us=>exact⟨⟨h5.1,(ih (j+1) us h5.2).1⟩,(ih (j+1) us h5.2).2⟩
    have h5:=key _ j us h3;rw[← Vo]at h5;exact h5
   ·cases hm
  ·cases hm
 |ow e r _=>
  intro ts l l' x j us hf hm hl
  cases l with
  |nil=>simp[mkT]at hm
  |cons z l=>
   cases us with
   |nil=>exact hl.elim
   |cons u us=>
    cases z<;>first|(simp[mkT]at hm;done)|skip
    rename_i e' r' xs;simp only[mkT]at hm;rw[csi]at hm;obtain⟨hb,hm⟩:=hm;have he:e=e':=Vh hb;subst he;split at hm
    ·rename_i ys hys;simp only[Vg,Vy]at hm;obtain⟨rfl,rfl⟩:=hm;exact⟨⟨Ik.cast hys hl.1,hl.2⟩,hf⟩
    ·cases hm
 |sl e r _=>
  intro ts l l' x j us hf hm hl
  cases l with
  |nil=>simp[mkT]at hm
  |cons z l=>
   cases us with
   |nil=>exact hl.elim
   |cons u us=>
    obtain⟨hz,hf⟩:z.isOwn=false∧C3a ts l:=hf
    cases z<;>first|(simp[mkT]at hm;done)|(simp[Lf.isOwn]at hz;done)|skip
    rename_i e' r' xs;simp only[mkT]at hm;rw[csi]at hm;obtain⟨hb,hm⟩:=hm;have he:e=e':=Vh hb;subst he;split at hm
    ·rename_i ys hys;simp only[Vg,Vy]at hm;obtain⟨rfl,rfl⟩:=hm;exact⟨⟨U7 hys hl.1,hl.2⟩,hf⟩
    ·cases hm
 |i k=>
  intro ts l l' x j us hf hm hl
  cases l with
  |nil=>simp[mkT]at hm
  |cons z l=>
   cases z<;>first|(simp[mkT]at hm;done)|skip
   rename_i v
   cases v<;>first|(simp[mkT]at hm;done)|skip
   rename_i k' n;simp only[mkT]at hm
   by_cases hk:k=k'
   ·subst hk;simp at hm;obtain⟨rfl,rfl⟩:=hm;exact⟨hl,hf.2⟩
   ·simp[hk]at hm
 |b=>
  intro ts l l' x j us hf hm hl
  cases l with
  |nil=>simp[mkT]at hm
  |cons z l=>
   cases z<;>first|(simp[mkT]at hm;done)|skip
   rename_i v
   cases v<;>first|(simp[mkT]at hm;done)|skip
   simp[mkT]at hm;obtain⟨rfl,rfl⟩:=hm;exact⟨hl,hf.2⟩
 |s=>
  intro ts l l' x j us hf hm hl
  cases l with
  |nil=>simp[mkT]at hm
  |cons z l=>
   cases z<;>first|(simp[mkT]at hm;done)|skip
   rename_i v
   cases v<;>first|(simp[mkT]at hm;done)|skip
   simp[mkT]at hm;obtain⟨rfl,rfl⟩:=hm;exact⟨hl,hf.2⟩
def So {P:Program} {S:Sit} {f:Nat→Lab} {t:Ty} {l:List Lf} {x:t.den} {j:Nat} {us:List Value} (hf:C3a (M4 t) l) (h:mkW t l=some x) (hl:Aa P S f j l us):Aa P S f j (A8 t x) us:=by
 unfold mkW at h;split at h
 ·rename_i y hy;cases h;have:=(Wva t [] l [] _ j us (by rw[Wp];exact hf) hy hl).1;rwa [Wp]at this
 ·cases h
def Ebb {Q:Nat→Lf→Value→Prop} (hqo:∀ j e r r' (xs:List (Ty.den r')) (ys:List (Ty.den r)) u,Xp r r' xs=some ys→Q j (.own e r' xs) u→Q j (.own e r ys) u) (hqf:∀ j e r r' (xs:List (Ty.den r')) (ys:List (Ty.den r)) u,T9 r r' xs=some ys→Q j (.fz e r' xs) u→Q j (.fz e r ys) u):∀ (t:Ty) (ts:List Ty) (l l':List Lf) (x:t.den) (j:Nat) (us:List Value),C3a (M4 t++ts) l→mkT t l=some (x,l')→Eca Q j l us→Eca Q j (A8 t x++l') us∧C3a ts l':=by
 intro t
 induction t with
 |pr p q ihp ihq=>
  intro ts l l' x j us h hm hl;simp only[M4,Vo]at h;simp only[mkT]at hm;split at hm
  ·rename_i y l1 h1;split at hm
   ·rename_i z l2 h2;simp only[Vg,Vy]at hm;obtain⟨rfl,rfl⟩:=hm;obtain⟨h3,h4⟩:=ihp _ _ _ _ j us h h1 hl
    have key:∀ (a:List Lf) (j:Nat) (us:List Value),Eca Q j (a++l1) us→Eca Q j (a++(A8 q z++l2)) us∧C3a ts l2:=by
     intro a
     induction a with
     |nil=>intro j us h5;exact ihq _ _ _ _ j us h4 h2 h5
     |cons b a ih=>
      intro j us h5
      cases us with
      |nil=>exact h5.elim
      |cons u us=>exact⟨⟨h5.1,(ih (j+1) us h5.2).1⟩,(ih (j+1) us h5.2).2⟩
    have h5:=key _ j us h3;rw[← Vo]at h5;exact h5
   ·cases hm
  ·cases hm
 |ow e r _=>
  intro ts l l' x j us hf hm hl
  cases l with
  |nil=>simp[mkT]at hm
  |cons z l=>
   cases us with
   |nil=>exact hl.elim
   |cons u us=>
    cases z<;>first|(simp[mkT]at hm;done)|skip
    rename_i e' r' xs;simp only[mkT]at hm;rw[csi]at hm;obtain⟨hb,hm⟩:=hm;have he:e=e':=Vh hb;subst he;split at hm
    ·rename_i ys hys;simp only[Vg,Vy]at hm;obtain⟨rfl,rfl⟩:=hm;exact⟨⟨hqo _ _ _ _ _ _ _ hys hl.1,hl.2⟩,hf⟩
    ·cases hm
 |sl e r _=>
  intro ts l l' x j us hf hm hl
  cases l with
  |nil=>simp[mkT]at hm
  |cons z l=>
   cases us with
   |nil=>exact hl.elim
   |cons u us=>
    obtain⟨hz,hf⟩:z.isOwn=false∧C3a ts l:=hf
    cases z<;>first|(simp[mkT]at hm;done)|(simp[Lf.isOwn]at hz;done)|skip
    rename_i e' r' xs;simp only[mkT]at hm;rw[csi]at hm;obtain⟨hb,hm⟩:=hm;have he:e=e':=Vh hb;subst he;split at hm
    ·rename_i ys hys;simp only[Vg,Vy]at hm;obtain⟨rfl,rfl⟩:=hm;exact⟨⟨hqf _ _ _ _ _ _ _ hys hl.1,hl.2⟩,hf⟩
    ·cases hm
 |i k=>
  intro ts l l' x j us hf hm hl
  cases l with
  |nil=>simp[mkT]at hm
  |cons z l=>
   cases z<;>first|(simp[mkT]at hm;done)|skip
   rename_i v
   cases v<;>first|(simp[mkT]at hm;done)|skip
   rename_i k' n;simp only[mkT]at hm
   by_cases hk:k=k'
   ·subst hk;simp at hm;obtain⟨rfl,rfl⟩:=hm;exact⟨hl,hf.2⟩
   ·simp[hk]at hm
 |b=>
  intro ts l l' x j us hf hm hl
  cases l with
  |nil=>simp[mkT]at hm
  |cons z l=>
   cases z<;>first|(simp[mkT]at hm;done)|skip
   rename_i v
   cases v<;>first|(simp[mkT]at hm;done)|skip
   simp[mkT]at hm;obtain⟨rfl,rfl⟩:=hm;exact⟨hl,hf.2⟩
 |s=>
  intro ts l l' x j us hf hm hl
  cases l with
  |nil=>simp[mkT]at hm
  |cons z l=>
   cases z<;>first|(simp[mkT]at hm;done)|skip
   rename_i v
   cases v<;>first|(simp[mkT]at hm;done)|skip
   simp[mkT]at hm;obtain⟨rfl,rfl⟩:=hm;exact⟨hl,hf.2⟩
def Ecb {Q:Nat→Lf→Value→Prop} (hqo:∀ j e r r' (xs:List (Ty.den r')) (ys:List (Ty.den r)) u,Xp r r' xs=some ys→Q j (.own e r' xs) u→Q j (.own e r ys) u) (hqf:∀ j e r r' (xs:List (Ty.den r')) (ys:List (Ty.den r)) u,T9 r r' xs=some ys→Q j (.fz e r' xs) u→Q j (.fz e r ys) u) {t:Ty} {l:List Lf} {x:t.den} {j:Nat} {us:List Value} (hf:C3a (M4 t) l) (h:mkW t l=some x) (hl:Eca Q j l us):Eca Q j (A8 t x) us:=by
 unfold mkW at h;split at h
 ·rename_i y hy;cases h;have:=(Ebb hqo hqf t [] l [] _ j us (by rw[Wp];exact hf) hy hl).1;rwa [Wp]at this
 ·cases h
def P1a {r:Ty} (xs:List r.den):T9 r r xs=some xs:=by
 unfold T9;rw[dif_pos rfl];rfl
def P2a {r:Ty} (xs:List r.den):Xp r r xs=some xs:=by
 unfold Xp;rw[dif_pos rfl]
def W8:∀ (t:Ty) (x:t.den) (l:List Lf),mkT t (A8 t x++l)=some (x,l)
 |.i _,_,_=>by simp[A8,mkT]
 |.b,_,_=>by simp[A8,mkT]
 |.s,_,_=>by simp[A8,mkT]
 |.sl _ _,_,_=>by simp[A8,mkT,P1a]
 |.ow _ _,_,_=>by simp[A8,mkT,P2a]
 |.pr x y,p,l=>by
  show mkT (.pr x y) ((A8 x p.1++A8 y p.2)++l)=_;rw[Vo];simp only[mkT];rw[W8 x p.1];simp only;rw[W8 y p.2]
def P3a (t:Ty) (x:t.den):mkW t (A8 t x)=some x:=by
 unfold mkW;have:=W8 t x [];rw[Wp]at this;rw[this]
def Aha (S:Sit) (b:Nat×Nat):Value := .pointer (some ⟨(S.bb b.1).1,(S.bb b.1).2+0,none⟩)
def nmV (i:Nat):Nat:=10+2*i
def nmB (B:Nat):Nat:=11+2*B
def Bhb (P:Program) (S:Sit) (B:Nat) (t t':Ty) (l:List Lf) (u:Value) (bs:List (Nat×Nat)):Prop:=
 ∃ b,bs=[(b,B)]∧u = .pointer (some ⟨(S.bb b).1,(S.bb b).2,none⟩)∧(S.g (H b)).2 = .one (.hd t.sz)∧t'.sz=t.sz∧l.length=t.sz∧A5 l=true∧C3a (M4 t) l∧
  Aa P S (λ j => .tm (nmB B) [j]) 0 l ((List.range t.sz).map λ j=>S.ph (C b (0+j)))
def Edb (P:Program) (S:Sit) (cb hb:List (Nat×Nat)) (nv i:Nat):Par→List Lf→Value→List (Nat×Nat)→Prop
 |.vw t h,l,u,bs=>bs=[]∧nv≤h∧l.length=t.sz∧C3a (M4 t) l∧∃ c vs,nth hb (h-nv)=some c∧(S.g (H c.1)).2 = .one (.hd t.sz)∧u = .agg vs.toArray∧Eca (Oxa P S (λ j=>S.ph (C c.1 j))) 0 l vs
 |.val ag t,l,u,bs=>bs=[]∧A5 l=true∧C3a (M4 t) l∧∃ us,(if ag then u = .agg us.toArray else us=[u])∧Aa P S (λ n => .tm (nmV i) (if ag then [n] else [])) 0 l us
 |.ptr t t',l,u,bs=>Bhb P S (bid nv i) t t' l u bs
 |.hid t t',l,u,bs=>Bhb P S (bid nv i) t t' l u bs
 |.rd t,l,u,bs=>bs=[]∧∃ r x k o cs,l=lvs r x∧shp r=shp t∧Nd t=true∧u = .pointer (some ⟨k,o,none⟩)∧S.O k = .fz∧r.rep P (λ k=>S.O k = .fz) S.w x cs∧Hz S.w k o cs
 |.fn F m,_,u,bs=>bs=[]∧m=cb.length∧u = .func (.func F) #[] (cb.map (Aha S)).toArray
def Jva (P:Program) (S:Sit) (cb hb:List (Nat×Nat)) (nv:Nat):Nat→List Par→List (List Lf)→List Value→List (Nat×Nat)→Prop
 |_,[],[],[],bs=>bs=[]
 |i,p::ps,l::ls,u::us,bs=>∃ b1 b2,bs=b1++b2∧Edb P S cb hb nv i p l u b1∧Jva P S cb hb nv (i+1) ps ls us b2
 |_,_,_,_,_=>False
def Rsa {nv i j:Nat} (hn:nv≤1000) (h:bid nv i=bid nv j):i=j:=by
 unfold bid at h
 cases h1:Nat.blt i nv<;>cases h2:Nat.blt j nv<;>rw[h1,h2]at h<;>simp only[cond_true,cond_false]at h
 ·have h3:¬ i<nv:=λ h'=>by rw[show Nat.blt i nv=true from Zj h']at h1;cases h1
  have h4:¬ j<nv:=λ h'=>by rw[show Nat.blt j nv=true from Zj h']at h2;cases h2
  omega
 ·have h4:j<nv:=Vm h2;omega
 ·have h4:i<nv:=Vm h1;omega
 ·exact h
section
variable {X:Cx} {S S1 S2:Sit} {a:Act} {E:En} {A:Ab} {o:Oper} {R:Type} {Kc:List Up→Option R} {r:R}
def exA (nv i:Nat):Nat→List Nat→Prop:=λ n _=>∃ j,i≤j∧(n=nmV j∨n=nmB (bid nv j))
def Rta {nv i j:Nat} (hn:nv≤1000) (h:j<i) (q:List Nat):¬ exA nv i (nmV j) q∧¬ exA nv i (nmB (bid nv j)) q:=by
 refine⟨λ ⟨k,h1,h2⟩=>?_,λ ⟨k,h1,h2⟩=>?_⟩
 ·unfold nmV nmB at h2;omega
 ·unfold nmV nmB at h2;rcases h2 with h2|h2
  ·omega
  ·have:bid nv j=bid nv k:=by omega
   have:=Rsa hn this;omega
def Eca.imp {Q Q':Nat→Lf→Value→Prop} (h:∀ j x u,Q j x u→Q' j x u):∀ {l:List Lf} {j:Nat} {us:List Value},Eca Q j l us→Eca Q' j l us
 |[],_,[],_=>trivial
 |[],_,_::_,h'=>h'.elim
 |_::_,_,[],h'=>h'.elim
 |_::_,j,_::_,h'=>⟨h _ _ _ h'.1,Eca.imp h h'.2⟩
def Oxa.later {P:Program} {S S':Sit} {w w':Nat→Value} {j:Nat} {x:Lf} {u:Value} (hw:w'=w) (hl:∀ x u,Vya x=true→Bv P S .fz x u→Bv P S' .fz x u) (h:Oxa P S w j x u):Oxa P S' w' j x u:=by
 subst hw
 cases x<;>first|exact h|exact⟨h.1,hl _ _ h.1 h.2⟩
def Edb.stay {cb hb:List (Nat×Nat)} {nv i j:Nat} {p:Par} {l:List Lf} {u:Value} {bs:List (Nat×Nat)} (hn:nv≤1000) (h:Jh X S S1 (exA nv i)) (hj:j<i) (hp:Edb X.P S cb hb nv j p l u bs):Edb X.P S1 cb hb nv j p l u bs:=by
 have hfz:∀ k,S.O k = .fz→S1.O k = .fz:=λ k hk=>(h.later.fz k hk).1
 have box:∀ {t t':Ty},Bhb X.P S (bid nv j) t t' l u bs→Bhb X.P S1 (bid nv j) t t' l u bs:=by
  rintro t t' ⟨b,h1,h2,h3,h4,h5,h6,h7,h8⟩;refine⟨b,h1,by rw[h.bb];exact h2,by rw[h.heads b _ h3];exact h3,h4,h5,h6,h7,?_⟩;rw[h.ph];exact h8.imp (λ n x u hx=>h.tms _ _ _ _ (Rta hn hj _).2 hx)
 cases p with
 |vw t h0=>
  obtain⟨h1,h2,h3,h4,c,vs,h5,h6,h7,h8⟩:=hp;refine⟨h1,h2,h3,h4,c,vs,h5,by rw[h.heads c.1 _ h6];exact h6,h7,h8.imp (λ j x u hx=>hx.later (by rw[h.ph]) (λ x u hs hx=>?_))⟩;exact Bv.later h.later hx (λ k hk=>⟨hfz k hk,by rw[h.w]⟩)
 |val ag t=>
  obtain⟨h1,h2,h3,us,h4,h5⟩:=hp;exact⟨h1,h2,h3,us,h4,h5.imp (λ n x u hx=>h.tms _ _ _ _ (Rta hn hj _).1 hx)⟩
 |ptr t t'=>exact box hp
 |hid t t'=>exact box hp
 |rd t=>
  obtain⟨h1,r',x,k,o',cs,h2,h3,h4,h5,h6,h7,h8⟩:=hp;exact⟨h1,r',x,k,o',cs,h2,h3,h4,h5,hfz k h6,Ty.rep_mono hfz (λ k _=>by rw[h.w]) r' x cs h7,h8.mono (by rw[h.w])⟩
 |fn F m=>
  obtain⟨h1,h2,h3⟩:=hp;refine⟨h1,h2,?_⟩
  have:Aha S1=Aha S:=by funext b;unfold Aha;rw[h.bb]
  rw[this];exact h3
def Rua:∀ {l m:List (Nat×Nat)},Zba l m=true→l=m
 |[],[],_=>rfl
 |[],_::_,h=>by simp[Zba]at h
 |_::_,[],h=>by simp[Zba]at h
 |(a1,a2)::l,(b1,b2)::m,h=>by
  simp only[Zba,Va]at h;have e1:a1=b1:=Vh h.1.1;have e2:a2=b2:=Vh h.1.2;rw[e1,e2,Rua h.2]
def Aia (hg:S.g=get A):∀ {bs:List (Nat×Nat)} {us:List Value},A4a S bs us→Pd A bs=true→us=bs.map (Aha S)
 |[],us,h,_=>h
 |c::bs,us,⟨u,us',e,⟨h1,h2⟩,h3⟩,ha=>by
  simp only[Pd,Va]at ha
  have e1:(S.g (H c.1)).1=c.2:=by rw[hg];exact Vh ha.1
  subst e;rw[Yp,Aia hg h3 ha.2,h2 e1];rfl
def Rva {ag:Bool} {s:Sv} (h:Ng ag s=true):∀ n,pth s n=if ag then [n] else []:=by
 intro n
 cases s with
 |tup vs=>simp[Ng,Qga]at h
 |one z=>cases ag<;>simp[Ng,Qga]at h ⊢;rfl
 |agg z=>cases ag<;>simp[Ng,Qga]at h ⊢;rfl
def Wwa {x:Operand} {b v off:Nat} {t:Ty} {m:List Lf} {us:List Up} (h:V5 A x (.one (.bp b v off)) t=some (m,us)):False:=by
 unfold V5 V4 at h;split at h
 ·rename_i m0 vs0 ht
  have hm:m0=[.bp b v off]∨False:=by
   have e1:parts (.one (.bp b v off))=[.bp b v off]:=rfl;rw[e1]at ht;generalize M4 t=ts at ht
   cases ts with
   |nil=>simp[Jg]at ht
   |cons t ts=>
    cases ts with
    |cons t2 ts=>
     obtain⟨_,h2⟩:=Q1 _ _ ht;simp at h2
    |nil=>
     cases t<;>first|(simp[Jg,Jaa,Nl]at ht;done)|skip
     all_goals
      simp[Jg,Y0,kept,Po]at ht;exact .inl ht.1.symm
  rcases hm with rfl|h0
  ·simp[A5]at h
  ·exact h0
 ·cases h
def Jwa {A:Ab} {S:Sit} {X:Cx} {a:Act} (K:Bc X S a) (hg:S.g=get A) {b l0:Nat}:∀ (ts:List Ty) {j:Nat} {l m:List Lf} {us:List Value},Jca A b j ts l=some m→Aa X.P S (λ n => .pl l0 [n]) j l us→
  C3a ts m∧m.length=ts.length∧Eca (Oxa X.P S (λ j=>S.ph (C b j))) j m us
 |[],j,[],m,us,h,hl=>by
  simp only[Jca,Vg]at h;subst h
  cases us with
  |nil=>exact⟨trivial,rfl,trivial⟩
  |cons=>exact hl.elim
 |[],j,_::_,m,us,h,hl=>by simp[Jca]at h
 |t::ts,j,[],m,us,h,hl=>by cases t<;>simp[Jca]at h
 |t::ts,j,x::l,m,us,h,hl=>by
  cases us with
  |nil=>exact hl.elim
  |cons u us=>
   have share:∀ {m':List Lf},Vya (Nl A x)=true→Jca A b (j+1) ts l=some m'→(∀ m'',C3a (t::ts) (Nl A x::m'')↔((Nl A x).isOwn=false∧C3a ts m''))→C3a (t::ts) (Nl A x::m')∧(Nl A x::m').length=(t::ts).length∧Eca (Oxa X.P S (λ j=>S.ph (C b j))) j (Nl A x::m') (u::us):=by
    intro m' hs hr hf;obtain⟨h1,h2,h3⟩:=Jwa K hg ts hr hl.2;obtain⟨lab',h4⟩:=Td K hg hl.1
    refine⟨(hf m').2 ⟨by cases hx:Nl A x<;>rw[hx]at hs<;>first|rfl|simp[Vya]at hs,h1⟩,by simp[h2],?_,h3⟩
    have h5:Bv X.P S .fz (Nl A x) u:=by
     cases hx:Nl A x<;>rw[hx]at hs h4<;>first|exact Bv.relab (lab' := .fz) rfl h4|simp[Vya]at hs
    cases hx:Nl A x<;>rw[hx]at hs h5<;>first|exact⟨rfl,h5⟩|simp[Vya]at hs
   cases t with
   |ow e r=>
    cases x<;>first|(simp[Jca]at h;done)|skip
    rename_i p v;simp only[Jca]at h;obtain⟨hq,h⟩:=cs h;simp only[Va]at hq;split at h
    ·rename_i y hy;split at h
     ·rename_i m' hr;cases h;obtain⟨h1,h2,h3⟩:=Jwa K hg ts hr hl.2;have hal:Bv X.P S (.pl l0 [j]) (.al p v) u:=hl.1;have hu:=hal.2 (by rw[hg];exact Vh hq.2)
      have hyo:∃ ys,y = .own e r ys:=by
       unfold Jaa at hy;split at hy
       ·generalize Nat.beq e _=bb at hy;cases bb
        ·simp at hy
        rw[cond_true]at hy;split at hy
        ·simp only[Vg]at hy;exact⟨_,hy.symm⟩
        ·obtain⟨hno,hy⟩:=cs hy;split at hy
         ·simp only[Vg]at hy;exact⟨_,hy.symm⟩
         ·cases hy
       ·cases hy
      obtain⟨ys,rfl⟩:=hyo;refine⟨h1,by simp[h2],?_,h3⟩;show u=S.ph (C b j);rw[hu,Vh hq.1]
     ·cases h
    ·cases h
   |_=>
    simp only[Jca]at h;obtain⟨hs,h⟩:=cs h;split at h
    ·rename_i m' hr;cases h;exact share hs hr (λ m''=>Jub)
    ·cases h
def Wxa (hE:Nc X E) (K:Bc X S a) (hg:S.g=get A) {cb hb:List (Nat×Nat)} {nv i:Nat} {x:Operand} {s:Sv} {v:Value} {p:Par} {l:List Lf} {us:List Up} {bs:List Nat} (hx:(∃ T,opT E T A x=some s∧v=a.eval x)∨(∃ h:Nat×Nat,s = .one (.bp h.1 h.2 0)∧v=Aha S h)) (h:Xq A cb hb nv x p s=some (l,us,bs)):
  ∃ S1 bp,Bc X S1 a∧S1.g=get (ups A us)∧Jh X S S1 (exA nv i)∧bp.map Prod.fst=bs∧Edb X.P S1 cb hb nv i p l v bp:=by
 have box:∀ {t t':Ty} {b w:Nat},s = .one (.bp b w 0)→(match Tb A b w t t' with|some (m,us)=>some (m,us,[b])|none=>none)=some (l,us,bs)→∃ S1 bp,Bc X S1 a∧S1.g=get (ups A us)∧Jh X S S1 (exA nv i)∧bp.map Prod.fst=bs∧Bhb X.P S1 (bid nv i) t t' l v bp:=by
  intro t t' b w hs h;split at h
  ·rename_i m us' hgive;cases h;obtain⟨g1,g2,g3,g4,g5,S1,K1,g6,G,hl⟩:=Y5 K hg hgive (nmB (bid nv i));refine⟨S1,[(b,bid nv i)],K1,g6,Jh.trans (λ n q h=>h) (λ n q h=>⟨i,Vx _,.inr h⟩) (Jh.refl S (exA nv i)) G,rfl,b,rfl,?_,by rw[G.heads b _ g2];exact g2,g3,g5,g4,W7 hgive,by rw[G.ph];exact hl⟩;rw[G.bb];rcases hx with⟨T,h1,rfl⟩|⟨h',h1,rfl⟩
   ·obtain⟨pl,h2⟩:=Lj hE K hg h1;rw[hs]at h2;have h3:Bv X.P S (.pl pl []) (.bp b w 0) (a.eval x):=h2;exact h3.2 g1
   ·rw[hs]at h1;simp only[Sv.one.injEq,Lf.bp.injEq]at h1;unfold Aha;rw[← h1.1];rfl
  ·cases h
 unfold Xq at h;split at h
 ·rename_i t h0 ys;split at h
  ·rename_i c hc;split at h
   ·rename_i n m hp;obtain⟨hq,h⟩:=cs h;simp only[Va]at hq;split at h
    ·rename_i l0 hvw;cases h;rcases hx with⟨T,h1,rfl⟩|⟨h',h1,_⟩
     ·obtain⟨pl,h2⟩:=Lj hE K hg h1;obtain⟨vs,e1,e2⟩:∃ us:List Value,a.eval x = .agg us.toArray∧Aa X.P S (λ j => .pl pl [j]) 0 ys us:=h2;obtain⟨f1,f2,f3⟩:=Jwa K hg _ hvw e2;exact⟨S,[],K,hg,Jh.refl S _,rfl,rfl,Vm hq.1.1,by rw[f2,Oz],f1,c,vs,hc,by rw[hg,hp,Vh hq.2],e1,f3⟩
     ·cases h1
    ·cases h
   ·cases h
  ·cases h
 ·rename_i ag t;obtain⟨hq,h⟩:=cs h;split at h
  ·rename_i m us' hgive;cases h;rcases hx with⟨T,h1,rfl⟩|⟨h',h1,_⟩
   ·obtain⟨S1,K1,g1,G,h2,_,vs,hsh,hl⟩:=Lwa hE K hg (.inl h1) (Rqa hq) hgive (nmV i);have hp:=Rva hq;simp only[hp]at hl;exact⟨S1,[],K1,g1,Jh.trans (λ n q h=>h) (λ n q h=>⟨i,Vx _,.inl h⟩) (Jh.refl S (exA nv i)) G,rfl,rfl,h2,Cya hgive,vs,Cua hq hsh,hl⟩
   ·rw[h1]at hgive;exact(Wwa hgive).elim
  ·cases h
 ·exact box rfl h
 ·exact box rfl h
 ·rename_i t r' y;cases hq:(decide (shp r'=shp t)&&Nd t)
  ·rw[hq]at h;simp at h
  rw[hq]at h;simp only[cond_true,Vg,Vy]at h;obtain⟨rfl,rfl,rfl⟩:=h;simp only[Va,decide_eq_true_eq]at hq;rcases hx with⟨T,h1,rfl⟩|⟨h',h1,_⟩
  ·obtain⟨pl,h2⟩:=Lj hE K hg h1;obtain⟨k,o',cs,e1,e2,e3,e4⟩:Bv X.P S (.pl pl []) (.fp r' y 0) (a.eval x):=h2;exact⟨S,[],K,hg,Jh.refl S _,rfl,rfl,r',y,k,o',cs,rfl,hq.1,hq.2,e1,e2,e3,e4⟩
  ·cases h1
 ·rename_i F m F' bs';cases hq:(Nat.beq F F'&&Nat.beq m bs'.length&&Zba bs' cb&&Pd A bs')
  ·rw[hq]at h;simp at h
  rw[hq]at h;simp only[cond_true,Vg,Vy]at h;obtain⟨rfl,rfl,rfl⟩:=h;simp only[Va]at hq;obtain⟨⟨⟨q1,q2⟩,q3⟩,q4⟩:=hq;have e1:F=F':=Vh q1;have e2:m=bs'.length:=Vh q2;have e3:=Rua q3;subst e1 e3;rcases hx with⟨T,h1,rfl⟩|⟨h',h1,_⟩
  ·obtain⟨pl,h2⟩:=Lj hE K hg h1;obtain⟨us',e4,e5⟩:Bv X.P S (.pl pl []) (.fn F bs') (a.eval x):=h2;have e6:=Aia hg e5 q4;subst e6;exact⟨S,[],K,hg,Jh.refl S _,rfl,rfl,e2,e4⟩
  ·cases h1
 ·cases h
def Goa (hE:Nc X E) {cb hb:List (Nat×Nat)} {nv:Nat} (hn:nv≤1000):∀ (ps:List Par) {xs:List (TypeId×Operand)} {hs:List (Nat×Nat)} {S:Sit} {A:Ab} {ls:List (List Lf)} {us:List Up} {bs:List Nat} (i:Nat),Bc X S a→S.g=get A→On E cb hb nv A xs hs ps=some (ls,us,bs)→
  ∃ S1 bp,Bc X S1 a∧S1.g=get (ups A us)∧Jh X S S1 (exA nv i)∧bp.map Prod.fst=bs∧Jva X.P S1 cb hb nv i ps ls (xs.map (λ x=>a.eval x.2)++hs.map (Aha S)) bp
 |[],xs,hs,S,A,ls,us,bs,i,K,hg,h=>by
  cases xs with
  |cons=>simp[On]at h
  |nil=>
   cases hs with
   |cons=>simp[On]at h
   |nil=>
    simp only[On,Vg,Vy]at h;obtain⟨rfl,rfl,rfl⟩:=h;exact⟨S,[],K,hg,Jh.refl S _,rfl,rfl⟩
 |p::ps,xs,hs,S,A,ls,us,bs,i,K,hg,h=>by
  have go:∀ {x:Operand} {s:Sv} {v:Value} {xs':List (TypeId×Operand)} {hs':List (Nat×Nat)} {l:List Lf} {u:List Up} {b:List Nat} {ls1:List (List Lf)} {us1:List Up} {bs1:List Nat},((∃ T,opT E T A x=some s∧v=a.eval x)∨(∃ h:Nat×Nat,s = .one (.bp h.1 h.2 0)∧v=Aha S h))→Xq A cb hb nv x p s=some (l,u,b)→On E cb hb nv (ups A u) xs' hs' ps=some (ls1,us1,bs1)→
    ∃ S1 bp,Bc X S1 a∧S1.g=get (ups A (u++us1))∧Jh X S S1 (exA nv i)∧bp.map Prod.fst=b++bs1∧Jva X.P S1 cb hb nv i (p::ps) (l::ls1) (v::(xs'.map (λ x=>a.eval x.2)++hs'.map (Aha S))) bp:=by
   intro x s v xs' hs' l u b ls1 us1 bs1 hx h1 h2;obtain⟨S1,b1,K1,g1,G1,e1,p1⟩:=Wxa (nv:=nv) (i:=i) hE K hg hx h1;obtain⟨S2,b2,K2,g2,G2,e2,p2⟩:=Goa hE hn ps (i+1) K1 g1 h2
   have hpv:Aha S1=Aha S:=by funext b;unfold Aha;rw[G1.bb]
   rw[hpv]at p2;exact⟨S2,b1++b2,K2,by rw[Bb];exact g2,Jh.trans (λ _ _ h=>h) (λ n q ⟨j,h1,h2⟩=>⟨j,by omega,h2⟩) G1 G2,by rw[Hrb,e1,e2],b1,b2,rfl,p1.stay hn G2 (by omega),p2⟩
  cases xs with
  |cons x xs=>
   simp only[On]at h;split at h
   ·rename_i s hs1;split at h
    ·rename_i l u b hb;split at h
     ·rename_i ls1 us1 bs1 hrec;cases h;exact go (.inl ⟨x.1,hs1,rfl⟩) hb hrec
     ·cases h
    ·cases h
   ·cases h
  |nil=>
   cases hs with
   |nil=>simp[On]at h
   |cons h0 hs=>
    simp only[On]at h;split at h
    ·rename_i l u b hb;split at h
     ·rename_i ls1 us1 bs1 hrec;cases h;exact go (xs':=[]) (.inr ⟨h0,rfl,rfl⟩) hb hrec
     ·cases h
    ·cases h
end
end

section
attribute [local irreducible] C H
def lkF:List (Nat×Nat)→Nat→Option Nat
 |[],_=>none
 |c::l,x=>if c.1=x then some c.2 else lkF l x
def lkS:List (Nat×Nat)→Nat→Option Nat
 |[],_=>none
 |c::l,x=>if c.2=x then some c.1 else lkS l x
def Jxa:∀ {l:List (Nat×Nat)} {b B:Nat},lkF l b=some B→(b,B)∈l
 |[],_,_,h=>by simp[lkF]at h
 |c::l,b,B,h=>by
  simp only[lkF]at h;split at h
  ·rename_i e;simp only[Vg]at h;rw[← e,← h];exact Yv
  ·exact Vi _ (Jxa h)
def M8a:∀ {l:List (Nat×Nat)} {b B:Nat},(l.map Prod.fst).Nodup→(b,B)∈l→lkF l b=some B
 |[],_,_,_,h=>by simp at h
 |c::l,b,B,hn,h=>by
  rw[Yp,Yu]at hn;simp only[lkF];rcases Vl.1 h with rfl|h
  ·rw[if_pos rfl]
  ·rw[if_neg (λ e=>hn.1 (by rw[e];exact Ys h))];exact M8a hn.2 h
def Gpa:∀ {l:List (Nat×Nat)} {b B:Nat},(l.map Prod.snd).Nodup→(b,B)∈l→lkS l B=some b
 |[],_,_,_,h=>by simp at h
 |c::l,b,B,hn,h=>by
  rw[Yp,Yu]at hn;simp only[lkS];rcases Vl.1 h with rfl|h
  ·rw[if_pos rfl]
  ·rw[if_neg (λ e=>hn.1 (by rw[e];exact Ys h))];exact Gpa hn.2 h
def Bib:∀ {l:List (Nat×Nat)} {b b' B:Nat},(l.map Prod.snd).Nodup→(b,B)∈l→(b',B)∈l→b=b':=λ hn h h'=>by
 have e1:=Gpa hn h;rw[Gpa hn h']at e1
 simpa using e1.symm
def Gqa:∀ {l:List Nat},Fva l=true→l.Nodup
 |[],_=>by simp
 |b::l,h=>by
  simp only[Fva,Va,Vv,List.any_eq_false]at h;rw[Yu];exact⟨λ hb=>h.1 b hb (by rw[Jtb]),Gqa h.2⟩
def T2 (S:Sit) (L:List (Nat×Nat)):Nat→Lab:=λ k=>match S.O k with
 |.fz => .fz
 |.tm n q=>if n<10 then .no else if n % 2=0 then .pl ((n-10)/2) q else (match q with
  |[j] => .pl (C ((n-11)/2) j) []
  |_ => .no)
 |.bx b=>(match lkF L b with
  |some B=>if k=(S.bb b).1 then .bx B else .no
  |none => .no)
 |_ => .no
def Bjb (S:Sit) (L:List (Nat×Nat)):Nat→Nat×Nat:=λ B=>match lkS L B with
 |some b=>((S.bb b).2,match (S.g (H b)).2 with | .one (.hd n)=>n|_=>0)
 |none=>(0,0)
def Dib:Lab→Bool
 |.tm _ _=>true
 |_=>false
def nmO:Lab→Lab
 |.fz => .fz
 |.tm n q => .tm n q
 |.no => .no
 |_ => .tm 99999 []
def Qja (S:Sit) (O':Nat→Lab):Nat→Lab:=λ k=>if k<S.w.heap.size∧Dib (S.O k)=false then S.O k else nmO (O' k)
section
variable {X:Cx} {S S1 S2:Sit} {a:Act} {E:En} {A:Ab} {o:Oper} {R:Type} {Kc:List Up→Option R} {r:R}
def Qm {S:Sit} {L:List (Nat×Nat)} {k:Nat} (h:S.O k = .fz):T2 S L k = .fz:=by simp[T2,h]
def Rwa {S:Sit} {L:List (Nat×Nat)} {k b B:Nat} (h:S.O k = .bx b) (hl:lkF L b=some B) (hk:k=(S.bb b).1):T2 S L k = .bx B:=by
 unfold T2;rw[h];simp[hl,← hk]
def Eeb {S:Sit} {L:List (Nat×Nat)} {k i:Nat} {q:List Nat} (h:S.O k = .tm (nmV i) q):T2 S L k = .pl i q:=by
 unfold T2 nmV at *;rw[h];simp only;rw[if_neg (by omega),if_pos (by omega),show (10+2*i-10)/2=i by omega]
def Efb {S:Sit} {L:List (Nat×Nat)} {k B j:Nat} (h:S.O k = .tm (nmB B) [j]):T2 S L k = .pl (C B j) []:=by
 unfold T2 nmB at *;rw[h];simp only;rw[if_neg (by omega),if_neg (by omega),show (11+2*B-11)/2=B by omega]
def Na:∀ {m:List Lf},A5 m=true→∀ y∈m,Lr y=true
 |[],_=>by simp
 |x::m,h=>by
  intro y hy;obtain⟨h1,h2⟩:=Qh h;rcases Vl.1 hy with rfl|hy
  ·rcases h2 with⟨_,rfl⟩|⟨_,_,_,rfl⟩|⟨_,_,_,rfl⟩<;>rfl
  ·exact Na h1 y hy
def T3:∀ l:List Lf,(∀ y∈l,Lr y=true)→A5 l=true
 |[],_=>rfl
 |x::l,h=>by
  have h1:=h x (by simp);have h2:=T3 l (λ y hy=>h y (Vi _ hy))
  cases x<;>first|(simp[Lr]at h1;done)|simpa[A5] using h2
def Eda {P:Program} {S:Sit} {cb:List (Nat×Nat)} {nv:Nat} (hn:nv≤1000):∀ (ps:List Par) {i:Nat} {ls:List (List Lf)} {us:List Value} {bp:List (Nat×Nat)},Jva P S cb cb nv i ps ls us bp→
  (∀ c∈bp,∃ j,i≤j∧j<i+ps.length∧c.2=bid nv j)∧(bp.map Prod.snd).Nodup∧(∀ c∈bp,∃ n,(S.g (H c.1)).2 = .one (.hd n))∧us.length=ps.length
 |[],i,[],[],bp,h=>by
  have:bp=[]:=h;subst this;exact⟨by simp,by simp,by simp,rfl⟩
 |[],i,_::_,_,_,h=>h.elim
 |[],i,[],_::_,_,h=>h.elim
 |p::ps,i,[],_,_,h=>h.elim
 |p::ps,i,_::_,[],_,h=>h.elim
 |p::ps,i,l::ls,u::us,bp,h=>by
  obtain⟨b1,b2,rfl,h1,h2⟩:=h;obtain⟨i1,i2,i3,i4⟩:=Eda hn ps h2
  have h3:b1=[]∨∃ b,b1=[(b,bid nv i)]∧∃ n,(S.g (H b)).2 = .one (.hd n):=by
   cases p with
   |val ag t=>exact .inl h1.1
   |vw t h0=>exact .inl h1.1
   |rd t=>exact .inl h1.1
   |fn F m=>exact .inl h1.1
   |ptr t t'=>obtain⟨b,e,_,h4,_⟩:=h1;exact .inr ⟨b,e,_,h4⟩
   |hid t t'=>obtain⟨b,e,_,h4,_⟩:=h1;exact .inr ⟨b,e,_,h4⟩
  have i1':∀ c∈b2,∃ j,i≤j∧j<i+(p::ps).length∧c.2=bid nv j:=λ c hc=>by
   obtain⟨j,j1,j2,j3⟩:=i1 c hc;exact⟨j,by omega,by simp only[Vd];omega,j3⟩
  rcases h3 with rfl|⟨b,rfl,n,hb⟩
  ·exact⟨i1',i2,i3,by simp[i4]⟩
  ·refine⟨λ c hc=>?_,?_,λ c hc=>?_,by simp[i4]⟩
   ·rcases Vl.1 hc with rfl|hc
    ·exact⟨i,Vx _,by simp only[Vd];omega,rfl⟩
    ·exact i1' c hc
   ·rw[Yg,Yp,Yu];refine⟨λ hm=>?_,i2⟩;obtain⟨c,hc,e⟩:=Zc.1 hm;obtain⟨j,j1,j2,j3⟩:=i1 c hc;rw[j3]at e;have:=Rsa hn e;omega
   ·rcases Vl.1 hc with rfl|hc
    ·exact⟨n,hb⟩
    ·exact i3 c hc
def Rxa (K:Bc X S a) {cb L:List (Nat×Nat)} {nv:Nat} (hn1:(L.map Prod.fst).Nodup) (hn2:(L.map Prod.snd).Nodup):∀ (ps:List Par) {i:Nat} {ls ls':List (List Lf)} {us:List Value} {bp:List (Nat×Nat)},Jva X.P S cb cb nv i ps ls us bp→Mk (ps.map Par.ty) ls ls'→(∀ c∈bp,c∈L)→Ox nv i ps=true→
  Q4 X.P (bare (T2 S L) S.w) (Bjb S L) nv (cb.map (Aha S)) i ps ls' us
 |[],i,[],[],[],bp,_,_,_,_=>trivial
 |[],i,[],_::_,_,bp,_,hm,_,_=>hm.elim
 |[],i,_::_,_,_,bp,h,_,_,_=>h.elim
 |[],i,[],[],_::_,bp,h,_,_,_=>h.elim
 |p::ps,i,[],_,_,bp,h,_,_,_=>h.elim
 |p::ps,i,_::_,_,[],bp,h,_,_,_=>h.elim
 |p::ps,i,l::ls,[],_::_,bp,_,hm,_,_=>hm.elim
 |p::ps,i,l::ls,l'::ls',u::us,bp,h,hm,hb,hp=>by
  obtain⟨b1,b2,rfl,h1,h2⟩:=h;obtain⟨⟨y,hy,rfl⟩,hm2⟩:=hm
  have hp2:Ox nv (i+1) ps=true:=by cases p<;>simp only[Ox,Va]at hp<;>exact hp.2
  refine⟨?_,Rxa K hn1 hn2 ps h2 hm2 (λ b hb'=>hb b (Vs _ hb')) hp2⟩
  have box:∀ {t t':Ty} {y:t.den},mkW t l=some y→Bhb X.P S (bid nv i) t t' l u b1→Csa X.P (bare (T2 S L) S.w) (Bjb S L) (bid nv i) t (A8 t y) u:=by
   rintro t t' y hy ⟨b,e1,e2,e3,e4,e5,e6,e7,e8⟩;have hL:(b,bid nv i)∈L:=hb _ (by rw[e1];simp);obtain⟨g1,c,e,g2,g3,g4,g5⟩:=K.box b _ e3;refine⟨(S.bb b).1,(S.bb b).2,c,e,(List.range t.sz).map (λ j=>S.ph (C b (0+j))),e2,g2,?_,?_,g4,g1,Kq t y,λ j hj=>?_,?_⟩
   ·exact Rwa g3 (M8a hn1 hL) rfl
   ·show Bjb S L _=_;unfold Bjb;rw[Gpa hn2 hL];simp only[e3]
   ·rw[g5 j hj];simp[hj]
   ·have h3:Aa X.P (bare (T2 S L) S.w) (λ j => .pl (C (bid nv i) j) []) 0 l ((List.range t.sz).map λ j=>S.ph (C b (0+j))):=
     Aa.impS (S1:=S) (Na e6) (λ n x u hx h=>Bv.bare (S1:=S) (S2:=bare (T2 S L) S.w) (lab := .tm (nmB (bid nv i)) [n]) hx rfl (λ k hk=>Qm hk) (λ k hk=>Efb hk) h) e8
    exact So e7 hy h3
  cases p with
  |vw t h0=>
   obtain⟨_,e1,e2,e3,c,vs,e4,e5,e6,e7⟩:=h1;obtain⟨g1,cc,e,g2,g3,g4,g5⟩:=K.box c.1 _ e5;refine⟨e1,vs,(S.bb c.1).1,(S.bb c.1).2,cc,e,e6,?_,g2,g1,Kq t y,?_⟩
   ·rw[M2]at e4;rw[Hob,e4];rfl
   ·have hcell:∀ j,j<t.sz→cc.getD ((S.bb c.1).2+j) undef=S.ph (C c.1 j):=λ j hj=>by
     have:=g5 j hj;simp[Yh,this]
    have h2:=Ecb (Q:=λ j x u=>j<t.sz→Oxa X.P S (λ j=>S.ph (C c.1 j)) j x u) ?_ ?_ e3 hy (j:=0) (us:=vs) (Eca.imp (Q:=Oxa X.P S (λ j=>S.ph (C c.1 j))) (Q':=λ j x u=>j<t.sz→Oxa X.P S (λ j=>S.ph (C c.1 j)) j x u) (λ j x u h _=>h) e7)
    ·have key:∀ (l:List Lf) (j:Nat) (us:List Value),j+l.length≤t.sz→Eca (λ j x u=>j<t.sz→Oxa X.P S (λ j=>S.ph (C c.1 j)) j x u) j l us→Eca (Oxa X.P (bare (T2 S L) S.w) (λ j=>cc.getD ((S.bb c.1).2+j) undef)) j l us:=by
      intro l
      induction l with
      |nil=>intro j us _ h;cases us<;>first|trivial|exact h.elim
      |cons x l ih=>
       intro j us hj h;simp only[Vd]at hj
       cases us with
       |nil=>exact h.elim
       |cons u us=>
        refine⟨?_,ih (j+1) us (by omega) h.2⟩;have h3:=h.1 (by omega)
        cases x<;>first|(show u=cc.getD ((S.bb c.1).2+j) undef;rw[hcell j (by omega)];exact h3)|(refine⟨h3.1,?_⟩;have h4:=h3.1;simp[Vya]at h4;done)|skip
        ·exact⟨rfl,Bv.bare (S1:=S) (S2:=bare (T2 S L) S.w) rfl rfl (λ k hk=>Qm hk) (λ k hk=>Qm hk) h3.2⟩
        ·exact⟨rfl,Bv.bare (S1:=S) (S2:=bare (T2 S L) S.w) rfl rfl (λ k hk=>Qm hk) (λ k hk=>Qm hk) h3.2⟩
     exact key _ _ _ (by rw[Kq];show 0+t.sz≤t.sz;omega) h2
    ·intro j e r r' xs ys u _ h hj;exact h hj
    ·intro j e r r' xs ys u hc h hj;exact⟨rfl,U7 hc (h hj).2⟩
  |val ag t=>
   obtain⟨_,e2,e3,vs,e4,e5⟩:=h1;refine⟨vs,e4,So e3 hy ?_⟩;exact Aa.impS (S1:=S) (Na e2) (λ n x u hx h=>Bv.bare (S1:=S) (S2:=bare (T2 S L) S.w) hx rfl (λ k hk=>Qm hk) (λ k hk=>Eeb hk) h) e5
  |ptr t t'=>
   simp only[Ox,Va]at hp;exact⟨Vm hp.1,box hy h1⟩
  |hid t t'=>
   simp only[Ox,Va]at hp;exact⟨Vm hp.1,box hy h1⟩
  |rd t=>
   obtain⟨_,r',x,k,o',cs,rfl,e3,e4,e5,e6,e7,e8⟩:=h1;have h3:=A3a hy (Qe r' x cs e7);exact⟨y,k,o',cs,P3a t y,e5,Qm e6,Ty.rep_mono (λ k hk=>Qm hk) (λ _ _=>rfl) t y cs h3,e8⟩
  |fn F m=>
   obtain⟨_,e2,e3⟩:=h1;exact⟨e3,by rw[Wh,e2]⟩
def Egb (K:Bc X S a) {cb L:List (Nat×Nat)} {nv:Nat} (hn:nv≤1000) {ps:List Par} {ls:List (List Lf)} {us:List Value} (h:Jva X.P S cb cb nv 0 ps ls us L):
  ∀ k b,T2 S L k = .bx b→E8b nv ps.length b∧(∃ c e f,S.w.heap[k]? = some (.cells c e f))∧∀ k',T2 S L k' = .bx b→k'=k:=by
 obtain⟨i1,i2,i3,_⟩:=Eda hn ps h
 have key:∀ k B,T2 S L k = .bx B→∃ b,(b,B)∈L∧k=(S.bb b).1:=by
  intro k B hk;unfold T2 at hk;split at hk
  ·cases hk
  ·split at hk
   ·cases hk
   ·split at hk
    ·cases hk
    ·split at hk<;>cases hk
  ·split at hk
   ·rename_i b heq _ B' hl;split at hk
    ·rename_i hkb;cases hk;exact⟨b,Jxa hl,hkb⟩
    ·cases hk
   ·cases hk
  ·cases hk
 intro k B hk;obtain⟨b,hb,hkb⟩:=key k B hk;obtain⟨n,hh⟩:=i3 _ hb;obtain⟨_,c,e,g2,_⟩:=K.box b n hh;obtain⟨j,_,j2,j3⟩:=i1 _ hb;refine⟨⟨j,by omega,j3⟩,⟨c,e,(0,0),by rw[hkb];exact g2⟩,λ k' hk'=>?_⟩;obtain⟨b',hb',hkb'⟩:=key k' B hk';rw[hkb,hkb',Bib i2 hb hb']
def P4a {S:Sit} {L:List (Nat×Nat)} {rg:Nat→Nat×Nat} {O':Nat→Lab} {w':World} (hF:Fr (T2 S L) S.w rg O' w'):
  (∀ k,k<S.w.heap.size→Dib (S.O k)=false→Qja S O' k=S.O k∧((∀ c∈L,k≠(S.bb c.1).1)→w'.heap[k]? = S.w.heap[k]?))∧
  (∀ k,O' k = .fz→Qja S O' k = .fz)∧(∀ k n q,O' k = .tm n q→Qja S O' k = .tm n q):=by
 have cases3:∀ k,k<S.w.heap.size→Dib (S.O k)=false→(O' k = .fz∧S.O k = .fz∧w'.heap[k]? = S.w.heap[k]?)∨(O' k = .no∧w'.heap[k]? = S.w.heap[k]?)∨(∃ c∈L,O' k = .bx c.2∧k=(S.bb c.1).1):=by
  intro k hk ht;have no:T2 S L k = .no→(O' k = .no∧w'.heap[k]? = S.w.heap[k]?):=λ h=>hF.no k hk h
  cases hO:S.O k with
  |fz=>
   have:=hF.fz k hk (Qm hO);exact .inl ⟨this.1,rfl,this.2⟩
  |no=>exact .inr (.inl (no (by simp[T2,hO])))
  |pl l p=>exact .inr (.inl (no (by simp[T2,hO])))
  |tm n q=>rw[hO]at ht;simp[Dib]at ht
  |bx b=>
   cases hl:lkF L b with
   |none=>exact .inr (.inl (no (by simp[T2,hO,hl])))
   |some B=>
    by_cases hb:k=(S.bb b).1
    ·have h2:T2 S L k = .bx B:=by
      unfold T2;rw[hO];simp only;rw[hl];exact if_pos hb
     exact .inr (.inr ⟨(b,B),Jxa hl,(hF.bx k B hk h2).1,hb⟩)
    ·refine .inr (.inl (no ?_));unfold T2;rw[hO];simp only;rw[hl];exact if_neg hb
 refine⟨λ k hk ht=>⟨by unfold Qja;rw[if_pos ⟨hk,ht⟩],λ hnb=>?_⟩,λ k hk=>?_,λ k n q hk=>?_⟩
 ·rcases cases3 k hk ht with h|h|⟨c,h1,_,h2⟩
  ·exact h.2.2
  ·exact h.2
  ·exact absurd h2 (hnb c h1)
 ·unfold Qja;split
  ·rename_i hc;rcases cases3 k hc.1 hc.2 with h|h|⟨c,_,h,_⟩
   ·exact h.2.1
   ·rw[hk]at h;cases h.1
   ·rw[hk]at h;cases h
  ·rw[hk];rfl
 ·unfold Qja;split
  ·rename_i hc;rcases cases3 k hc.1 hc.2 with h|h|⟨c,_,h,_⟩
   ·rw[hk]at h;cases h.1
   ·rw[hk]at h;cases h.1
   ·rw[hk]at h;cases h
  ·rw[hk];rfl
def Ehb (w w':World) (hsz:w.heap.size≤w'.heap.size):∀ ks:List Nat,∃ w1:World,w1 = { w' with heap:=w1.heap }∧w1.heap.size=w'.heap.size∧(∀ k∈ks,k<w.heap.size→w1.heap[k]? = w.heap[k]?)∧∀ k,k∉ks→w1.heap[k]? = w'.heap[k]?
 |[]=>⟨w',rfl,rfl,by simp,λ _ _=>rfl⟩
 |k0::ks=>by
  obtain⟨w1,h1,h2,h3,h4⟩:=Ehb w w' hsz ks
  by_cases hk:k0<w.heap.size
  ·refine⟨{ w' with heap:=w1.heap.setIfInBounds k0 w.heap[k0] },rfl,by simp[h2],λ k hm hkl=>?_,λ k hm=>?_⟩
   ·show (w1.heap.setIfInBounds k0 w.heap[k0])[k]? = _
    by_cases e:k=k0
    ·subst e;rw[Array.getElem?_setIfInBounds_self,if_pos (by omega),I1b hk]
    ·rw[I3b (Itb e)];exact h3 k ((Vl.1 hm).resolve_left e) hkl
   ·show (w1.heap.setIfInBounds k0 w.heap[k0])[k]? = _;rw[I3b (λ e=>hm (by rw[e];exact Yv))];exact h4 k (λ h=>hm (Vi _ h))
  ·refine⟨w1,h1,h2,λ k hm hkl=>?_,λ k hm=>h4 k (λ h=>hm (Vi _ h))⟩;rcases Vl.1 hm with rfl|hm
   ·exact absurd hkl hk
   ·exact h3 k hm hkl
structure Bk where
 b:Nat
 n:Nat
 l:List Lf
 us:List Value
def Bk.Ok (P:Program) (S:Sit) (w':World) (d:Bk):Prop:=
 ∃ c c' e,(S.g (H d.b)).2 = .one (.hd d.l.length)∧S.w.heap[(S.bb d.b).1]? = some (.cells c e (0,0))∧w'.heap[(S.bb d.b).1]? = some (.cells c' e (0,0))∧c'.size=c.size∧
  (∀ i,(i<(S.bb d.b).2∨(S.bb d.b).2+d.l.length≤i)→c'[i]? = c[i]?)∧(∀ j,j<d.l.length→c'[(S.bb d.b).2+j]? = d.us[j]?)∧A5 d.l=true∧Aa P S (λ j => .tm d.n [j]) 0 d.l d.us
def M9a {w':World}:∀ (D:List Bk) {S:Sit} {A:Ab},Bc X S a→S.g=get A→(∀ d∈D,d.Ok X.P S w')→(D.map Bk.b).Nodup→(D.map Bk.n).Nodup→(∀ d∈D,1001≤d.n∧d.n<5000)→(∀ k,(∀ d∈D,k≠(S.bb d.b).1)→w'.heap[k]? = S.w.heap[k]?)→S.w = { w' with heap:=S.w.heap }→
  ∃ S',Bc X S' a∧S'.g=get (ups A (D.flatMap λ d=>Eb d.b 0 d.l))∧S'.w=w'∧(∀ k,S.O k = .fz→S'.O k = .fz)∧(∀ n q k,0<n→n<1001→S.O k = .tm n q→S'.O k = .tm n q)∧(∀ n q x u,0<n→n<1001→Lr x=true→Bv X.P S (.tm n q) x u→Bv X.P S' (.tm n q) x u)
 |[],S,A,K,hg,_,_,_,_,hh,hw=>by
  have e1:w'.heap=S.w.heap:=Array.ext_getElem? λ k=>hh k (by simp);refine⟨S,K,hg,?_,λ _ h=>h,λ _ _ _ _ _ h=>h,λ _ _ _ _ _ _ _ h=>h⟩;rw[hw,← e1]
 |d::D,S,A,K,hg,hD,hb,hn,hr,hh,hw=>by
  obtain⟨c,c',e,d1,d2,d3,d4,d5,d6,d7,d8⟩:=hD d (by simp);rw[Yp,Yu]at hb hn;obtain⟨r1,r2⟩:=hr d (by simp)
  let hh0:Nat→List Nat→Option Lab:=λ n q=>if n=d.n then some (.tm 0 q) else if n=0 then some (.tm 99998 q) else none
  obtain⟨K1,L1⟩:=K.names hh0 (by
   intro n q;simp only[hh0];split
   ·simp
   ·split<;>simp)
  have keep1:∀ n q k,n≠d.n→n≠0→S.O k = .tm n q→atO S.O hh0 k = .tm n q:=λ n q k h1 h2 hk=>Pg hk (by simp[hh0,h1,h2]);have hl0:Aa X.P { S with O:=atO S.O hh0 } (λ j => .tm 0 [j]) 0 d.l d.us:=d8.imp (λ j x u hx=>hx.later L1 (λ k hk=>⟨Mf hk (by simp[hh0]),rfl⟩));have hul:=d8.len;obtain⟨hn9,c0,e0,b1,b2,b3,b4⟩:=K.box d.b d.l.length d1;rw[d2]at b1;cases b1;obtain⟨K2,L2⟩:=K1.cells (b:=d.b) (n:=d.l.length) (off:=0) (q:=λ j=>[j]) d1 (by omega) d2 hl0 (λ j hj=>rfl) (Ou d7);generalize hwS:({ S with O:=atO S.O hh0 }:Sit).w.setRow (({ S with O:=atO S.O hh0 }:Sit).bb d.b).1 (c.toList.take ((({ S with O:=atO S.O hh0 }:Sit).bb d.b).2+0)++d.us++c.toList.drop ((({ S with O:=atO S.O hh0 }:Sit).bb d.b).2+0+d.us.length)).toArray=w2 at K2 L2;have hwS':S.w.setRow (S.bb d.b).1 (c.toList.take ((S.bb d.b).2+0)++d.us++c.toList.drop ((S.bb d.b).2+0+d.us.length)).toArray=w2:=hwS
  have harr:(c.toList.take ((S.bb d.b).2+0)++d.us++c.toList.drop ((S.bb d.b).2+0+d.us.length)).toArray=c':=by
   refine Array.ext_getElem? λ j=>?_;have hct:c.toList.length=c.size:=Yx
   have ht:(c.toList.take ((S.bb d.b).2+0)).length=(S.bb d.b).2:=by rw[Vt,hct];omega
   rw[J6b];have hcj:∀ i,c.toList[i]? = c[i]? := λ i=>Zm
   by_cases h1:j<(S.bb d.b).2
   ·rw[Vo,Yb (by omega),Yd,if_pos (by omega),hcj];exact(d5 j (.inl h1)).symm
   ·by_cases h2:j<(S.bb d.b).2+d.l.length
    ·rw[Yb (by rw[Ve,ht];omega),Ye (by omega),ht];have:=d6 (j-(S.bb d.b).2) (by omega);rw[show (S.bb d.b).2+(j-(S.bb d.b).2)=j by omega]at this;exact this.symm
    ·rw[Ye (by rw[Ve,ht];omega),Ve,ht,Yr,hcj,hul];rw[show (S.bb d.b).2+0+d.l.length+(j-((S.bb d.b).2+d.l.length))=j by omega];exact(d5 j (.inr (by omega))).symm
  have hw2k:w2.heap[(S.bb d.b).1]? = w'.heap[(S.bb d.b).1]?:=by
   rw[← hwS',setRow_heap _ _ _ _ _ _ d2,harr,d3]
  have hw2o:∀ k,k≠(S.bb d.b).1→w2.heap[k]? = S.w.heap[k]? := λ k hk=>by rw[← hwS'];exact setRow_other _ _ _ _ hk
  have keep2:∀ n q k,n≠d.n→n≠0→S.O k = .tm n q→(E6a { S with O:=atO S.O hh0 } (C2a d.b 0) d.b 0 d.l d.us w2).O k = .tm n q:=λ n q k h1 h2 hk=>
   Pg (h:=C2a d.b 0) (keep1 n q k h1 h2 hk) (by simp[C2a,h2])
  have hdist:∀ d'∈D,d'.b≠d.b∧d'.n≠d.n:=λ d' hd'=>⟨λ e=>hb.1 (by rw[← e];exact Ys hd'),λ e=>hn.1 (by rw[← e];exact Ys hd')⟩
  have hblk:∀ d'∈D,(S.bb d'.b).1≠(S.bb d.b).1:=λ d' hd' e1=>by
   obtain⟨c1,c1',e2,x1,_⟩:=hD d' (Vi _ hd');obtain⟨_,_,_,_,y2,_⟩:=K.box d'.b _ x1;rw[e1,b2]at y2;simp only[Vg,Lab.bx.injEq]at y2;exact(hdist d' hd').1 y2.symm
  have hsame:∀ n q x u,n≠d.n→n≠0→Lr x=true→Bv X.P S (.tm n q) x u→Bv X.P (E6a { S with O:=atO S.O hh0 } (C2a d.b 0) d.b 0 d.l d.us w2) (.tm n q) x u:=λ n q x u h1 h2 _ hx=>
   (hx.later L1 (lab' := .tm n q) (λ k hk=>⟨keep1 n q k h1 h2 hk,rfl⟩)).later L2 (λ k hk=>by
    have hk':atO S.O hh0 k = .tm n q:=hk;refine⟨Pg (h:=C2a d.b 0) hk' (by simp[C2a,h2]),hw2o k (λ e1=>?_)⟩;rw[e1]at hk';rw[Bm b2 (by simp)]at hk'
    cases hk')
  obtain⟨S3,K3,g3,w3,o3,t3,s3⟩:=M9a D (A:=ups A (Eb d.b 0 d.l)) K2 (by
   show Qg S.g d.b 0 d.l=_
   rw[Mn,← hg]) (λ d' hd'=>by
   obtain⟨c1,c1',e2,x1,x2,x3,x4,x5,x6,x7,x8⟩:=hD d' (Vi _ hd');obtain⟨z1,z2⟩:=hr d' (Vi _ hd');refine⟨c1,c1',e2,?_,(hw2o _ (hblk d' hd')).trans x2,x3,x4,x5,x6,x7,?_⟩
   ·show (Qg S.g d.b 0 d.l (H d'.b)).2=_;unfold Qg;rw[if_neg (J4 (by omega))];exact x1
   ·exact Aa.impS (Na x7) (λ n x u hx h=>hsame _ _ x u (hdist d' hd').2 (by omega) hx h) x8) hb.2 hn.2 (λ d' hd'=>hr d' (Vi _ hd')) (λ k hk=>by
   by_cases h1:k=(S.bb d.b).1
   ·rw[h1];exact hw2k.symm
   ·show w'.heap[k]? = w2.heap[k]?;rw[hw2o k h1]
    exact hh k (λ d' hd'=>by
     rcases Vl.1 hd' with rfl|hd'
     ·exact h1
     ·exact hk d' hd')) (by
   have h5:w2 = { S.w with heap:=w2.heap }:=by rw[← hwS'];rfl
   have h6:({ S.w with heap:=w2.heap }:World) = { w' with heap:=w2.heap }:=by rw[hw]
   exact h5.trans h6)
  refine⟨S3,K3,?_,w3,λ k hk=>o3 k (Bm (h:=C2a d.b 0) (Bm hk (by simp)) (by simp)),λ n q k h1 h2 hk=>t3 n q k h1 h2 (keep2 n q k (by omega) (by omega) hk),λ n q x u h1 h2 hx h=>s3 n q x u h1 h2 hx (hsame n q x u (by omega) (by omega) hx h)⟩;rw[g3,J5b,Bb]
def Eea {P:Program} {S Sb:Sit} {cb:List (Nat×Nat)} {nv:Nat}:∀ (ps:List Par) {i:Nat} {ls lb:List (List Lf)} {us:List Value} {bp:List (Nat×Nat)} {ws:List Up},Jva P S cb cb nv i ps ls us bp→Pq P Sb i ps us lb→(∀ l∈lb,∀ y∈l,Lr y=true)→Ooa (bp.map Prod.fst) lb=some ws→
  ∃ D:List Bk,D.map Bk.b=bp.map Prod.fst∧ws=D.flatMap (λ d=>Eb d.b 0 d.l)∧(D.map Bk.n).Nodup∧
   ∀ d∈D,∃ j B t c e,i≤j∧j<i+ps.length∧d.n=1001+j∧(d.b,B)∈bp∧(S.g (H d.b)).2 = .one (.hd t)∧d.l.length=t∧A5 d.l=true∧Sb.w.heap[(S.bb d.b).1]? = some (.cells c e (0,0))∧(∀ j,j<t→c[(S.bb d.b).2+j]? = d.us[j]?)∧Aa P Sb (λ j => .tm d.n [j]) 0 d.l d.us
 |[],i,[],lb,[],bp,ws,h,hb,_,hw=>by
  have e1:bp=[]:=h;have e2:lb=[]:=hb;subst e1 e2;simp only[List.map_nil,Ooa,Vg]at hw;subst hw;exact⟨[],rfl,rfl,by simp,by simp⟩
 |[],i,_::_,_,_,_,_,h,_,_,_=>h.elim
 |[],i,[],_,_::_,_,_,h,_,_,_=>h.elim
 |p::ps,i,[],_,_,_,_,h,_,_,_=>h.elim
 |p::ps,i,_::_,_,[],_,_,h,_,_,_=>h.elim
 |p::ps,i,l::ls,lb,u::us,bp,ws,h,hb,hs,hw=>by
  obtain⟨b1,b2,rfl,h1,h2⟩:=h
  have skip:b1=[]→Pq P Sb (i+1) ps us lb→∃ D:List Bk,D.map Bk.b=(b1++b2).map Prod.fst∧ws=D.flatMap (λ d=>Eb d.b 0 d.l)∧(D.map Bk.n).Nodup∧
   ∀ d∈D,∃ j B t c e,i≤j∧j<i+(p::ps).length∧d.n=1001+j∧(d.b,B)∈b1++b2∧(S.g (H d.b)).2 = .one (.hd t)∧d.l.length=t∧A5 d.l=true∧Sb.w.heap[(S.bb d.b).1]? = some (.cells c e (0,0))∧(∀ j,j<t→c[(S.bb d.b).2+j]? = d.us[j]?)∧Aa P Sb (λ j => .tm d.n [j]) 0 d.l d.us:=by
   intro e1 hb2;subst e1;rw[Wa]at hw ⊢;obtain⟨D,h3,h4,h5,h6⟩:=Eea ps h2 hb2 hs hw
   exact⟨D,h3,h4,h5,λ d hd=>by
    obtain⟨j,B,t,c,e,j1,j2,rest⟩:=h6 d hd
    exact⟨j,B,t,c,e,by omega,by simp only[Vd];omega,rest⟩⟩
  have box:∀ {t t':Ty} {lb':List (List Lf)} {l':List Lf},lb=l'::lb'→Bhb P S (bid nv i) t t' l u b1→Cta P Sb i t' l' u→Pq P Sb (i+1) ps us lb'→∃ D:List Bk,D.map Bk.b=(b1++b2).map Prod.fst∧ws=D.flatMap (λ d=>Eb d.b 0 d.l)∧(D.map Bk.n).Nodup∧
   ∀ d∈D,∃ j B t c e,i≤j∧j<i+(p::ps).length∧d.n=1001+j∧(d.b,B)∈b1++b2∧(S.g (H d.b)).2 = .one (.hd t)∧d.l.length=t∧A5 d.l=true∧Sb.w.heap[(S.bb d.b).1]? = some (.cells c e (0,0))∧(∀ j,j<t→c[(S.bb d.b).2+j]? = d.us[j]?)∧Aa P Sb (λ j => .tm d.n [j]) 0 d.l d.us:=by
   rintro t t' lb' l' rfl ⟨b,e1,e2,e3,e4,_⟩ ⟨k,o',c,e,vs,f1,f2,f3,f4,f5⟩ hb2;subst e1;rw[e2]at f1;cases f1;simp only[Yg,Yp,Ooa]at hw;split at hw
   ·rename_i ws' hws';cases hw;obtain⟨D,h3,h4,h5,h6⟩:=Eea ps h2 hb2 (λ l hl=>hs l (Vi _ hl)) hws';refine⟨⟨b,1001+i,l',vs⟩::D,by simp[h3],by rw[J5b,h4],?_,λ d hd=>?_⟩
    ·rw[Yp,Yu];refine⟨λ hm=>?_,h5⟩;obtain⟨d,hd,e5⟩:=Zc.1 hm;obtain⟨j,_,_,_,_,j1,_,j3,_⟩:=h6 d hd;have e6:d.n=1001+i:=e5;omega
    ·rcases Vl.1 hd with rfl|hd
     ·exact⟨i,bid nv i,t.sz,c,e,Vx _,by simp only[Vd];omega,rfl,by simp,e3,by rw[f3,e4],T3 _ (hs l' (by simp)),f2,λ j hj=>f4 j (by omega),f5⟩
     ·obtain⟨j,B,t,c,e,j1,j2,j3,j4,rest⟩:=h6 d hd;exact⟨j,B,t,c,e,by omega,by simp only[Vd];omega,j3,Vi _ j4,rest⟩
   ·cases hw
  cases p with
  |val ag t=>exact skip h1.1 hb
  |vw t h0=>exact skip h1.1 hb
  |rd t=>exact skip h1.1 hb
  |fn F m=>exact skip h1.1 hb
  |ptr t t'=>
   cases lb with
   |nil=>exact hb.elim
   |cons l' lb'=>exact box rfl h1 hb.1 hb.2
  |hid t t'=>
   cases lb with
   |nil=>exact hb.elim
   |cons l' lb'=>exact box rfl h1 hb.1 hb.2
def Bkb (hE:Nc X E) (K:Bc X S a) (hg:S.g=get A) {xs:List (TypeId×Operand)} {cs cb:List (Nat×Nat)} {f:FuncId} {en:Ent} (hrun:(execOp a.eval o).run X.P S.w = .ok (.enter f (xs.map (λ x=>a.eval x.2)++cs.map (Aha S)).toArray) S.w) (hd:∀ d,o.dst=some d→d<X.nt)
  (hco:Q5 X.P f en) (hnv:en.nv=xs.length+cs.length) (hp:Aub E en.rs o.dst=true) (hn:en.nv≤1000) (hps:Ox en.nv 0 en.ps=true) (hlen:en.ps.length≤2000) (hrl:en.rs.length≤400)
  (h:(match On E cb cb en.nv A xs (cs++cb) en.ps with
  |none=>none
  |some (ls,us,bs)=>bif Fva bs then (match V3 _ ls with
   |none=>none
   |some x=>(en.run x).bind λ r=>
    match Ooa bs ((Fu _ r).drop en.rs.length) with
    |none=>none
    |some ws=>match Tc (ups (ups A us) ws) en.rs (shL E o.dst (Fu _ r)) o.dst with
     |none=>none
     |some rs=>Kc (us++(ws++rs))) else none)=some r):Lw X o a S.w A Kc r:=by
 have hnp:∀ d',o.dst=some d'→Nn en.rs=true→X.np≤d':=λ d' h1 h2=>by
  have:=hp;unfold Aub at this;rw[h1,h2]at this;exact hE.np ▸ (Vm (by simpa using this))
 split at h
 ·cases h
 ·rename_i ls us bs hargs;rw[csi]at h;obtain⟨hnd,h⟩:=h;split at h
  ·cases h
  ·rename_i x hx
   cases hrun':en.run x with
   |none=>rw[hrun']at h;simp at h
   |some y=>
    rw[hrun']at h;simp only[Vn]at h;split at h
    ·cases h
    ·rename_i ws hws;split at h
     ·cases h
     ·rename_i rs hrs;obtain⟨S1,L,K1,g1,G1,hLb,p1⟩:=Goa (X:=X) (a:=a) hE hn en.ps 0 K hg hargs
      have hpv:Aha S1=Aha S:=by funext b;unfold Aha;rw[G1.bb]
      obtain⟨i1,i2,i3,i4⟩:=Eda hn en.ps p1
      have hn1:(L.map Prod.fst).Nodup:=by rw[hLb];exact Gqa hnd
      have hok:=Rxa K1 hn1 i2 en.ps p1 (Y8 _ _ _ hx) (λ _ h=>h) hps
      have hdrop:(xs.map (λ x=>a.eval x.2)++(cs++cb).map (Aha S)).drop en.nv=cb.map (Aha S1):=by
       rw[hpv,hnv,Hrb,← Vo,List.drop_left' (by simp)]
      have htake:(xs.map (λ x=>a.eval x.2)++(cs++cb).map (Aha S)).take en.nv=xs.map (λ x=>a.eval x.2)++cs.map (Aha S):=by
       rw[hnv,Hrb,← Vo,Jmb (by simp)]
      have hs:=hco.sound x y hrun' S1.w (T2 S1 L) (Bjb S1 L) _ (λ k hk=>K1.lt k (λ e=>hk (by simp[T2,e]))) (Egb K1 hn p1) (by rw[hdrop];exact hok);rw[htake]at hs;refine⟨_,h,Cwa hrun (W6 (by rw[← G1.w];exact hs) ?_)⟩;rintro e w' ⟨v,O',rfl,hF,hlt,hres,hback⟩;refine⟨v,rfl,?_⟩;obtain⟨a1,a2,a3⟩:=P4a hF
      have hlt2:∀ k,Qja S1 O' k ≠ .no→k<w'.heap.size:=λ k hk=>by
       by_cases hkl:k<S1.w.heap.size
       ·exact Yf hkl hF.size
       ·refine hlt k (λ e=>hk ?_);unfold Qja;rw[if_neg (λ h=>hkl h.1),e];rfl
      have hnt:∀ k,(∀ n q,S1.O k ≠ .tm n q)→Dib (S1.O k)=false:=λ k hk=>by
       cases hO:S1.O k<;>first|rfl|exact absurd hO (hk _ _)
      have hsol:=Mw (en.rs.map Prod.snd++Nm en.ps) y;rw[← hLb]at hws;obtain⟨D,D1,D2,D3,D4⟩:=Eea en.ps p1 hback (λ l hl=>hsol l (Zk hl)) hws;obtain⟨w1,r1,r2,r3,r4⟩:=Ehb S1.w w' hF.size (L.map λ c=>(S1.bb c.1).1)
      have hblk:∀ k,k<S1.w.heap.size→Dib (S1.O k)=false→w1.heap[k]? = S1.w.heap[k]? := λ k hk ht=>by
       by_cases hm:k∈L.map λ c=>(S1.bb c.1).1
       ·exact r3 k hm hk
       ·rw[r4 k hm];exact(a1 k hk ht).2 (λ c hc e=>hm (by rw[e];exact Ys (f:=λ c:Nat×Nat=>(S1.bb c.1).1) hc))
      have ros:w1.os=w'.os:=by rw[r1]
      have rtape:w1.tape=w'.tape:=by rw[r1]
      have rout:w1.output=w'.output:=by rw[r1]
      obtain⟨K2,L2⟩:=K1.world (w':=w1) (O':=Qja S1 O') (λ k hk ht=>⟨(a1 k hk (hnt k ht)).1,hblk k hk (hnt k ht)⟩) (ros.trans hF.os) (rtape.trans hF.tape) (rout.trans hF.out) (by rw[r2];exact hF.size) (λ k hk=>by rw[r2];exact hlt2 k hk)
      have hbr:∀ {n:Nat} {q:List Nat} {x:Lf} {u:Value},Lr x=true→Bv X.P (bare O' w') (.tm n q) x u→Bv X.P (C8a S1 w1 (Qja S1 O')) (.tm n q) x u:=by
       intro n q x u hx hu
       have hno:∀ k,(O' k = .fz∨O' k = .tm n q)→w1.heap[k]? = w'.heap[k]? := λ k hk=>by
        by_cases hm:k∈L.map λ c=>(S1.bb c.1).1
        ·exfalso;obtain⟨c,hc,rfl⟩:=Zc.1 hm;obtain⟨m,hm1⟩:=i3 c hc;obtain⟨_,cc,ee,g2,g3,_⟩:=K1.box c.1 m hm1;have hcal:T2 S1 L (S1.bb c.1).1 = .bx c.2:=Rwa g3 (M8a hn1 (show (c.1,c.2)∈L from hc)) rfl;have:=(hF.bx _ _ (K1.lt _ (by rw[g3];simp)) hcal).1
         rcases hk with hk|hk<;>rw[this]at hk<;>cases hk
        ·exact r4 k hm
       cases x with
       |sc v=>exact hu
       |fz e r xs=>exact Ty.rep_mono (t := .sl e r) (λ k hk=>a2 k hk) (λ k hk=>hno k (.inl hk)) _ _ hu
       |own e r xs=>exact Ik.later (O':=Qja S1 O') (w':=w1) hu (λ k hk=>⟨a2 k hk,hno k (.inl hk)⟩) (λ k hk=>⟨a3 k n q hk,hno k (.inr hk)⟩)
       |_=>simp[Lr]at hx
      have hDok:∀ d∈D,d.Ok X.P (C8a S1 w1 (Qja S1 O')) w':=λ d hd'=>by
       obtain⟨j,B,t,c',e',j1,j2,j3,j4,j5,j6,j7,j8,j9,j10⟩:=D4 d hd';obtain⟨g0,c0,e0,g2,g3,g4,g5⟩:=K1.box d.b _ j5;have hcal:T2 S1 L (S1.bb d.b).1 = .bx B:=Rwa g3 (M8a hn1 j4) rfl;have hkl:=K1.lt _ (show S1.O (S1.bb d.b).1 ≠ .no by rw[g3];simp);obtain⟨_,c1,c2,e7,ff,x2,x3,x4,x5⟩:=hF.bx _ _ hkl hcal;rw[g2]at x2;cases x2;have j8':w'.heap[(S1.bb d.b).1]? = some (.cells c' e'):=j8;rw[x3]at j8';cases j8'
       have hrg:Bjb S1 L B=((S1.bb d.b).2,t):=by
        unfold Bjb;rw[Gpa i2 j4];simp only[j5]
       rw[hrg]at x5;refine⟨c0,_,_,by rw[j6];exact j5,?_,x3,x4,λ i hi=>x5 i (by rw[j6]at hi;exact hi),λ j hj=>j9 j (by omega),j7,?_⟩
       ·show w1.heap[(S1.bb d.b).1]? = _;rw[hblk _ hkl (by rw[g3];rfl)];exact g2
       ·exact Aa.impS (Na j7) (λ n x u hx hu=>hbr hx hu) j10
      obtain⟨S2,K3,g3,w3,o3,t3,s3⟩:=M9a (w':=w') D (A:=ups A us) K2 g1 hDok (by rw[D1];exact hn1) D3 (λ d hd'=>by
       obtain⟨j,_,_,_,_,_,j2,j3,_⟩:=D4 d hd'
       exact⟨by omega,by omega⟩) (λ k hk=>(r4 k (λ hm=>by
       obtain⟨c,hc,hce⟩:=Zc.1 hm
       have:c.1∈D.map Bk.b:=by rw[D1];exact Ys hc
       obtain⟨d,hd',hde⟩:=Zc.1 this;refine hk d hd' ?_;rw[← hce,← hde]
       rfl)).symm) r1
      have hnames:∀ (n:Nat) (q:List Nat) (x:Lf) (u:Value),0<n→n<1001→Lr x=true→Bv X.P (bare O' w') (.tm n q) x u→Bv X.P S2 (.tm n q) x u:=λ n q x u h1 h2 hx hu=>s3 n q x u h1 h2 hx (hbr hx hu);have hlb:∀ n q k,0<n→n<1001→O' k = .tm n q→S2.O k = .tm n q:=λ n q k h1 h2 hk=>t3 n q k h1 h2 (a3 k n q hk)
      have hres1:Lz X.P S2 S1.w.heap.size en.rs (Fu _ y) v:=by
       have one:∀ {i:Nat} {k:RK} {l:List Lf} {u:Value},0<i→i<500→(∀ z∈l,Lr z=true)→Rp X.P (bare O' w') S1.w.heap.size i k l u→Rp X.P S2 S1.w.heap.size i k l u:=by
        intro i k l u h1 h2 hz h
        cases k with
        |one=>exact Aa.impM (λ x hx n u h=>hnames _ _ x u h1 (by omega) (hz x hx) h) h
        |agg=>
         obtain⟨us,e,h⟩:=h;exact⟨us,e,h.impM (λ x hx n u h=>hnames _ _ x u h1 (by omega) (hz x hx) h)⟩
        |ptr=>
         obtain⟨k,o',c,e,us,e1,e2,e3,e4,e5,e6,e7,h⟩:=h;exact⟨k,o',c,e,us,e1,by rw[w3];exact e2,e3,hlb _ _ _ (by omega) (by omega) e4,e5,e6,e7,h.impM (λ x hx n u h=>hnames _ _ x u h1 (by omega) (hz x hx) h)⟩
       have all:∀ (rs:List (RK×Ty)) {i:Nat} {ls:List (List Lf)} {us:List Value},0<i→i+rs.length<500→(∀ l∈ls,∀ z∈l,Lr z=true)→Nh X.P (bare O' w') S1.w.heap.size i rs ls us→Nh X.P S2 S1.w.heap.size i rs ls us:=by
        intro rs
        induction rs with
        |nil=>intro i ls us _ _ _ h;exact h
        |cons r rs ih=>
         intro i ls us h1 h2 hz h
         cases ls with
         |nil=>exact h.elim
         |cons l ls=>
          cases us with
          |nil=>exact h.elim
          |cons u us=>
           simp only[Vd]at h2;exact⟨one h1 (by omega) (hz l (by simp)) h.1,ih (by omega) (by omega) (λ l hl=>hz l (Vi _ hl)) h.2⟩
       unfold Lz at hres ⊢;split at hres
       ·obtain⟨l,ls',e1,h5⟩:=hres;exact⟨l,ls',e1,one (by omega) (by omega) (hsol l (by rw[e1];simp)) h5⟩
       ·obtain⟨us',e1,h5⟩:=hres;exact⟨us',e1,all en.rs (by omega) (by omega) hsol h5⟩
      obtain⟨S3,K4,w4,g4⟩:=M6a (E:=E) K3 g3 (λ _=>hrl) hd K1.fr.size (Mw _ y) hnp hres1 (by rw[← D2];exact hrs);refine⟨S3,w4.trans w3,K4,?_⟩;rw[g4,← D2,Bb,Bb]
def Rya {α β:Type}:∀ {l:List α} {m:List β},m.length≤l.length→(l.zip m).map Prod.snd=m
 |_,[],_=>by simp
 |[],_::_,h=>by simp at h
 |_::l,_::m,h=>by simp[Rya (l:=l) (m:=m) (by simpa using h)]
def Efa:∀ {Ts:List TypeId} {xs:List Operand} {ss:List Sv},V6 E Ts A xs=some ss→xs.length≤Ts.length
 |_,[],_,_=>Vq _
 |[],_::_,_,h=>by simp[V6]at h
 |T::Ts,x::xs,ss,h=>by
  simp only[V6]at h;split at h
  ·split at h
   ·rename_i hr;simp only[Vd];have:=Efa hr;omega
   ·cases h
  ·cases h
def Maa (hE:Nc X E) (K:Bc X S a) (hg:S.g=get A) {Ts:List TypeId} {xs:List Operand} {cs:List (Nat×Nat)} {f:FuncId} {en:Ent} {ss:List Sv} (hrun:(execOp a.eval o).run X.P S.w = .ok (.enter f (xs.map a.eval++cs.map (Aha S)).toArray) S.w) (hd:∀ d,o.dst=some d→d<X.nt)
  (hco:Q5 X.P f en) (hss:V6 E Ts A xs=some ss) (h:Dva E A en (Ts.zip xs) cs ss o.dst Kc=some r):Lw X o a S.w A Kc r:=by
 unfold Dva at h;have hz:=Rya (Efa hss)
 have hzl:(Ts.zip xs).length=xs.length:=by
  rw[List.length_zip];have:=Efa hss;omega
 rw[csi]at h;obtain⟨hnv,h⟩:=h
 have hnv':en.nv=xs.length+cs.length:=by rw[← hzl];exact Vh hnv
 cases hl:(Rg en.ps&&C0a en.rs&&cs.isEmpty) with
 |true=>
  rw[hl,cond_true]at h;simp only[Va,List.isEmpty_iff]at hl;obtain⟨⟨l1,l2⟩,l3⟩:=hl;subst l3;simp only[List.map_nil,Wp]at hrun;exact Bgb hE K hg hrun hd hco (by simpa using hnv') (Jma hE K hg hss) l1 l2 h
 |false=>
  rw[hl,cond_false]at h;rw[csi]at h;obtain⟨hp,h⟩:=h;simp only[Va]at hp;obtain⟨p1,⟨⟨p2,p3⟩,p4⟩,p5⟩:=hp;refine Bkb (xs:=Ts.zip xs) (cs:=cs) (cb:=Qpa ss++Fua A en.ps ss) hE K hg ?_ hd hco (by rw[hzl];exact hnv') p1 (Vm p2) p3 (Vm p5) (Vm p4) h
  have e1:(Ts.zip xs).map (λ x=>a.eval x.2)=xs.map a.eval:=by
   rw[← hz,Idb];rw[hz];rfl
  rw[e1];exact hrun
def Blb (hE:Nc X E) (hcall:∀ f en,E.call f=some en→Q5 X.P f en) (K:Bc X S a) (hg:S.g=get A) {c:Call} {f:FuncId} (ho:o.op = .call c) (hc:c.callee = .value (.func f)) (hd:∀ d,o.dst=some d→d<X.nt)
  (h:B5 E o A Kc=some r):Lw X o a S.w A Kc r:=by
 unfold B5 at h;rw[ho]at h;simp only[hc]at h;split at h
 ·rename_i en ss he hss;have hco:=hcall f en he;exact Maa hE K hg (by simpa using Rra (w:=S.w) ho hc hco) hd hco hss h
 ·cases h
def Wya (hE:Nc X E) (hcall:∀ f en,E.call f=some en→Q5 X.P f en) (K:Bc X S a) (hg:S.g=get A) {c:Call} {t:Nat} (ho:o.op = .call c) (hc:c.callee = .value (.tmp t)) (hd:∀ d,o.dst=some d→d<X.nt)
  (h:B5 E o A Kc=some r):Lw X o a S.w A Kc r:=by
 unfold B5 at h;rw[ho]at h;simp only[hc]at h;split at h
 ·rename_i f bs hs;split at h
  ·rename_i en ss he hss;obtain⟨hal,h⟩:=cs h;have hco:=hcall f en he;obtain⟨pl,h2⟩:=Lj hE K hg hs;obtain⟨us,e1,e2⟩:Bv X.P S (.pl pl []) (.fn f bs) (a.eval (.tmp t)):=h2;have e3:=Aia hg e2 hal;subst e3;exact Maa hE K hg (Oza (w:=S.w) ho hc e1 hco) hd hco hss h
  ·cases h
 ·cases h
def Mba (hE:Nc X E) (K:Bc X S a) (hg:S.g=get A):∀ {xs:List Operand} {bs:List (Nat×Nat)},Fza E A xs=some bs→A4a S bs (xs.map a.eval)
 |[],bs,h=>by
  simp only[Fza,Vg]at h;subst h;rfl
 |x::l,bs,h=>by
  simp only[Fza]at h;split at h
  ·rename_i b v hx;split at h
   ·rename_i bs' hr;cases h;obtain⟨pl,h2⟩:=Lj hE K hg hx;exact⟨_,_,rfl,h2,Mba hE K hg hr⟩
   ·cases h
  ·cases h
def Jya (hE:Nc X E) (K:Bc X S a) (hg:S.g=get A) {f:FuncId} {x y:Array Operand} {d:Nat} (ho:o.op = .makeFunc (.func f) x y) (hod:o.dst=some d) (hd:d<X.nt) (h:B5 E o A Kc=some r):Lw X o a S.w A Kc r:=by
 unfold B5 at h;rw[ho,hod]at h;simp only at h;split at h
 ·rename_i bs hx hy
  have ex:x = #[]:=by
   apply Jyb
   simpa using hx
  subst ex;have hsv:Mt X.P S 0 (.one (.fn f bs)) (.func (.func f) #[] (y.toList.map a.eval).toArray):=⟨_,rfl,Mba hE K hg hy⟩;have K2:=K.put0 hd _ _ 0 rfl hsv;refine⟨_,h,Az (S:=Oo S (λ _ _=>none) d _ _) (v := .func (.func f) #[] (y.toList.map a.eval).toArray) ?_ (by rw[hod];exact K2) ?_⟩
  ·show _=Result.ok _ S.w
   have e1:y.map a.eval=(y.toList.map a.eval).toArray:=by
    apply Jyb;simp
   unfold execOp;simp[ho,Instr.makeFunc,e1]
  ·show upd S.g d _=_;rw[Ay,← hg]
 ·cases h
end
end

section
attribute [local irreducible] C H
structure Aja (X:Cx) (E:En):Prop where
 en:Nc X E
 call:∀ f en,E.call f=some en→Q5 X.P f en
section
variable {X:Cx} {S S1 S2:Sit} {a:Act} {E:En} {A:Ab} {o:Oper} {R:Type} {Kc:List Up→Option R} {r:R}
def Rza (hV:Aja X E) (K:Bc X S a) (hg:S.g=get A) (hd:∀ d,o.dst=some d→d<X.nt) (h:B5 E o A Kc=some r):Lw X o a S.w A Kc r:=by
 have hE:=hV.en
 cases ho:o.op with
 |call c=>
  cases hc:c.callee with
  |builtin b=>
   cases b with
   |len=>exact E2b hE K hg ho hc hd h
   |min=>exact Gca hE K hg false ho hc hd h
   |max=>exact Gca hE K hg true ho hc hd h
   |append=>exact Roa hE K hg ho hc hd h
   |_=>unfold B5 at h;rw[ho]at h;simp only[hc]at h;cases h
  |value f=>
   cases f with
   |func f=>exact Blb hE hV.call K hg ho hc hd h
   |tmp t=>exact Wya hE hV.call K hg ho hc hd h
   |_=>unfold B5 at h;rw[ho]at h;simp only[hc]at h;cases h
  |invoke x m=>unfold B5 at h;rw[ho]at h;simp only[hc]at h;cases h
 |makeFunc fn x y=>cases fn with
  |func f=>cases hod:o.dst with
   |none=>unfold B5 at h;rw[ho,hod]at h;cases h
   |some d=>exact Jya hE K hg ho hod (hd d hod) h
  |_=>unfold B5 at h;rw[ho]at h;cases hod:o.dst<;>(rw[hod]at h;cases h)
 |store T x y=>
  cases hod:o.dst with
  |none=>exact Woa hE K hg ho hod h
  |some d=>unfold B5 at h;rw[ho,hod]at h;cases h
 |move x=>cases hod:o.dst with
  |none=>unfold B5 at h;rw[ho,hod]at h;cases h
  |some d=>exact B2b hE K hg ho hod (hd d hod) h
 |assign x=>cases hod:o.dst with
  |none=>unfold B5 at h;rw[ho,hod]at h;cases h
  |some d=>exact R3a hE K hg ho hod (hd d hod) h
 |pick c x y=>cases hod:o.dst with
  |none=>unfold B5 at h;rw[ho,hod]at h;cases h
  |some d=>exact B4b hE K hg ho hod (hd d hod) h
 |binOp op T x y T'=>cases hod:o.dst with
  |none=>unfold B5 at h;rw[ho,hod]at h;cases h
  |some d=>exact Wca hE K hg ho hod (hd d hod) h
 |unOp op T x=>cases hod:o.dst with
  |none=>unfold B5 at h;rw[ho,hod]at h;cases h
  |some d=>exact B3b hE K hg ho hod (hd d hod) h
 |convert T T' x=>cases hod:o.dst with
  |none=>unfold B5 at h;rw[ho,hod]at h;cases h
  |some d=>exact Owa hE K hg ho hod (hd d hod) h
 |nilCheck x=>cases hod:o.dst with
  |none=>unfold B5 at h;rw[ho,hod]at h;cases h
  |some d=>exact Jna hE K hg ho hod (hd d hod) h
 |extract x j=>cases hod:o.dst with
  |none=>unfold B5 at h;rw[ho,hod]at h;cases x<;>cases h
  |some d=>cases x with
   |tmp t=>exact Ora hE K hg ho hod (hd d hod) h
   |_=>unfold B5 at h;rw[ho,hod]at h;cases h
 |field T x j=>cases hod:o.dst with
  |none=>unfold B5 at h;rw[ho,hod]at h;cases x<;>cases h
  |some d=>cases x with
   |tmp t=>exact Wfa hE K hg ho hod (hd d hod) h
   |_=>unfold B5 at h;rw[ho,hod]at h;cases h
 |build T ps=>cases hod:o.dst with
  |none=>unfold B5 at h;rw[ho,hod]at h;cases h
  |some d=>exact Wra hE K hg ho hod (hd d hod) h
 |alloc T=>cases hod:o.dst with
  |none=>unfold B5 at h;rw[ho,hod]at h;cases h
  |some d=>exact Wpa hE K hg ho hod (hd d hod) h
 |box T x=>cases hod:o.dst with
  |none=>unfold B5 at h;rw[ho,hod]at h;cases h
  |some d=>exact E6b hE K hg ho hod (hd d hod) h
 |load T x=>cases hod:o.dst with
  |none=>unfold B5 at h;rw[ho,hod]at h;cases h
  |some d=>exact B6b hE K hg ho hod (hd d hod) h
 |fieldAddr T x j=>cases hod:o.dst with
  |none=>unfold B5 at h;rw[ho,hod]at h;cases h
  |some d=>exact Gda hE K hg ho hod (hd d hod) h
 |indexAddr T x i=>cases hod:o.dst with
  |none=>unfold B5 at h;rw[ho,hod]at h;cases h
  |some d=>
   cases hop:E.opn d with
   |true=>exact Gka hE K hg ho hod (hd d hod) hop h
   |false=>exact Gea hE K hg ho hod (hd d hod) hop h
 |index T x i=>cases hod:o.dst with
  |none=>unfold B5 at h;rw[ho,hod]at h;cases h
  |some d=>exact Wda hE K hg ho hod (hd d hod) h
 |slice T x lo hi mx=>cases hod:o.dst with
  |none=>unfold B5 at h;rw[ho,hod]at h;cases mx<;>cases h
  |some d=>cases mx with
   |none=>exact Wga hE K hg ho hod (hd d hod) h
   |some m=>unfold B5 at h;rw[ho,hod]at h;cases h
 |buildSlice T n ps=>cases hod:o.dst with
  |none=>unfold B5 at h;rw[ho,hod]at h;cases h
  |some d=>exact Eba hE K hg ho hod (hd d hod) h
 |makeSlice T x y=>cases hod:o.dst with
  |none=>unfold B5 at h;rw[ho,hod]at h;cases h
  |some d=>exact Gma hE K hg ho hod (hd d hod) h
 |_=>unfold B5 at h;rw[ho]at h;cases hod:o.dst<;>(rw[hod]at h;cases h)
def Zka (hE:Nc X E) (K:Bc X S a) (hg:S.g=get A) (hd:G0a E o=true):∃ S',Bc X S' (a.put o.dst undef)∧S'.g=get (U4 o A)∧S'.w=S.w:=by
 unfold U4;unfold G0a at hd
 cases hod:o.dst with
 |none=>exact⟨S,K,hg,rfl⟩
 |some d=>
  rw[hod]at hd;have hdl:d<X.nt:=hE.nt ▸ (Vm hd:d+1≤E.nt);refine⟨_,K.put0 hdl (.one .un) undef 0 rfl rfl,?_,rfl⟩;show upd S.g d _=_;rw[Pf,← hg];rfl
def Gsb (X:Cx) (Q:Exit→Act→World→Prop) (K:Ab→Option R) (r:R):Prop:=∀ S a A,Bc X S a→S.g=get A→K A=some r→Q .normal a S.w
def Aka {A:Ab} {d n:Nat} {v:Bool} (h:get A d=(n,.one (.sc (.bool v)))):get (lit A d n v)=get A:=by
 funext k;unfold lit;simp only[get]
 by_cases hk:k=d
 ·subst hk;simp[h]
 ·have:Nat.beq d k=false:=by
   cases hb:Nat.beq d k with
   |false=>rfl
   |true=>exact absurd (Vh hb).symm hk
  simp[this]
def Ega (hV:Aja X E) {ops:Array Oper} {Q:Exit→Act→World→Prop}:∀ (l:List Nat) {S:Sit} {a:Act} {A:Ab} {K:Ab→Option R} {r:R},Bc X S a→S.g=get A→A0a E ops.toList l A K=some r→Gsb X Q K r→wpOps X.P ops Q l a S.w
 |[],S,a,A,K,r,hK,hg,h,hQ=>hQ S a A hK hg h
 |i::l,S,a,A,K,r,hK,hg,h,hQ=>by
  rw[wpOps_cons];unfold A0a at h;rw[M2]at h;unfold wpOp;split at h
  ·cases h
  ·rename_i o ho
   have ho':ops[i]? = some o:=by simpa using ho
   rw[ho'];simp only;obtain⟨hd,h⟩:=cs h
   have hdl:∀ d,o.dst=some d→d<X.nt:=λ d hod=>by
    unfold G0a at hd;rw[hod]at hd;exact hV.en.nt ▸ (Vm hd:d+1≤E.nt)
   have go:∀ {A:Ab},S.g=get A→B5 E o A (λ U=>A0a E ops.toList l (ups A U) K)=some r→o.wp X.P a S.w (wpOps X.P ops Q l) Q:=by
    intro A hg h;obtain⟨U,hU,hgo⟩:=Rza hV hK hg hdl h;exact hgo _ _ (λ S' a' K' g'=>Ega hV l K' g' hU hQ)
   have skip:∀ {A:Ab},S.g=get A→A0a E ops.toList l (U4 o A) K=some r→wpOps X.P ops Q l (a.put o.dst undef) S.w:=by
    intro A hg h;obtain⟨S',K',g',w'⟩:=Zka hV.en hK hg hd;rw[← w'];exact Ega hV l K' g' h hQ
   split at h
   ·rename_i hgd
    have hw:Region.wanted o (yielded ops a.tmps)=true:=by unfold Region.wanted;rw[hgd]
    rw[if_pos hw];exact .inl (go hg h)
   ·rename_i j want hgd;split at h
    ·cases h
    ·rename_i dj hdj
     have hdj':(ops[j]?).bind (·.dst)=some dj:=by
      unfold Qsa at hdj;rw[M2]at hdj
      have:ops.toList[j]? = ops[j]? := by simp
      rw[this]at hdj
      cases hj:ops[j]? with
      |none=>rw[hj]at hdj;cases hdj
      |some oj=>rw[hj]at hdj;simpa using hdj
     obtain⟨hb,h⟩:=cs h;have hjl:dj<X.nt:=hV.en.nt ▸ (Vm hb:dj+1≤E.nt)
     have htm:a.tmps[dj]? = some (S.ph dj):=by
      have h1:=hK.sl dj hjl
      have h2:dj<a.tmps.size:=by rw[hK.sz];exact hjl
      rw[← h1,Yh,I1b h2];rfl
     have hy:yielded ops a.tmps j=(match S.ph dj with | .bool b=>some b|_=>none):=by
      unfold yielded;rw[hdj',Vn,htm]
      cases S.ph dj<;>rfl
     have hwd:Region.wanted o (yielded ops a.tmps)=((match S.ph dj with | .bool b=>some b|_=>none)==some want):=by
      unfold Region.wanted;rw[hgd];simp only;rw[hy]
     split at h
     ·rename_i n b hgt
      have hph:S.ph dj = .bool b:=by
       have:=hK.at_ dj;rw[hg,hgt]at this;exact this.1
      rw[hph]at hwd
      have hgl:S.g=get (lit A dj n b):=by rw[Aka hgt];exact hg
      cases b with
      |true=>
       rw[cond_true]at h
       cases want with
       |true=>
        rw[cond_true]at h;rw[if_pos (by rw[hwd];rfl)];exact .inl (go hgl h)
       |false=>
        rw[cond_false]at h;rw[if_neg (by rw[hwd];decide)];exact skip hgl h
      |false=>
       rw[cond_false]at h
       cases want with
       |true=>
        rw[cond_true]at h;rw[if_neg (by rw[hwd];decide)];exact skip hgl h
       |false=>
        rw[cond_false]at h;rw[if_pos (by rw[hwd];rfl)];exact .inl (go hgl h)
     ·rename_i n hgt
      have hph:S.ph dj=undef:=by
       have:=hK.at_ dj;rw[hg,hgt]at this;exact this
      rw[hph]at hwd;rw[if_neg (by rw[hwd];simp[undef])];exact skip hg h
     ·cases h
end
end

end Go.Proofs.YtiiekghlhfbmmaaGreat.Vf
