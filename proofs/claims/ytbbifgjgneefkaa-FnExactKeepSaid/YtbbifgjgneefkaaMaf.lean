import Derived.Test.YtbbifgjgneefkaaMae
import Derived.Laws.MakeOwn
import Derived.Laws.OwnMore
import Derived.Laws.IdiomStrings
import Derived.Lib.AppendStr
set_option linter.all false
namespace Go.Proofs.Ytbbifgjgneefkaa.Vf
open Go
open List (length getD)
open Int (toNat)
open Go.IntKind (wrap)
open BitVec (ofInt)
def Za:=@List.mem_map
def Oxa:=@List.map_append
def Pda:=@List.getElem?_map
def Pla:=@Result.ok.injEq
def Pua:=@Array.mapM_eq_mapM_toList
def Q2a:=@Nat.mod_eq_of_lt
def Q7a:=@List.foldl_cons
def Q8a:=@List.length_singleton
def Q9a:=@List.length_replicate
def Qaa:=@List.take_left'

section
attribute [local irreducible] C H
section
variable {X:Cx} {S S':Sit} {a:Act} {E:En} {A:Ab} {o:Oper} {R:Type} {Kc:List Up→Option R} {r:R}
def L8:∀ t:Ty,(P8 t).length=t.sz
 |.i _=>rfl
 |.b=>rfl
 |.s=>rfl
 |.sl _ _=>rfl
 |.ow _ _=>rfl
 |.pr x y=>by show (P8 x++P8 y).length=x.sz+y.sz;rw[Vh,L8 x,L8 y]
def Ga:∀ t:Ty,A3 (P8 t)=true
 |.i _=>rfl
 |.b=>rfl
 |.s=>rfl
 |.sl _ _=>rfl
 |.ow _ _=>rfl
 |.pr x y=>by
  have app:∀ l m,A3 l=true→A3 m=true→A3 (l++m)=true:=by
   intro l m hl hm
   induction l with
   |nil=>exact hm
   |cons x l ih=>cases x<;>first|(simp[A3]at hl;done)|exact ih (by simpa[A3] using hl)
  exact app _ _ (Ga x) (Ga y)
def L9 {P:Program}:∀ (t:Ty),szB P t=true→∀ (f:Nat→Lab) (j:Nat),A5 P S f j (P8 t) (Cr t)
 |.i _,_,_,_=>⟨⟨rfl,rfl⟩,trivial⟩
 |.b,_,_,_=>⟨⟨rfl,rfl⟩,trivial⟩
 |.s,_,_,_=>⟨⟨rfl,rfl⟩,trivial⟩
 |.sl e r,h,f,j=>⟨Qh (by simp only[szB,Va,beq_iff_eq]at h;exact h.1),trivial⟩
 |.ow e r,h,f,j=>⟨Qh (by simp only[szB,Va,beq_iff_eq]at h;exact h.1),trivial⟩
 |.pr x y,h,f,j=>by
  simp[szB]at h;exact A5.app (L9 x h.1 f j) (L9 y h.2 f _)
def La {P:Program} {w:World} {T:TypeId} {t:TI} (h:TOk P T t):∃ v,(zeroValue T).run P w = .ok v w∧v.cells=(Cr t.ty).toArray∧(if t.ag then v = .agg (Cr t.ty).toArray else Cr t.ty=[v]):=by
 obtain⟨i,h1,h2,h3,h4,h5⟩:=h.info;refine⟨if t.ag then .agg (Cr t.ty).toArray else (Cr t.ty).headD undef,?_,?_,?_⟩
 ·simp[zeroValue,typeInfo,h1,h4]
 ·cases ha:t.ag
  case true=>rfl
  rw[if_neg (by simp)];have h6:=h5 ha;have hone:=J3 (S:=⟨λ _ => .no,λ _=>(0,0),λ _=>(0,.one .dead),λ _=>undef,w⟩) (Ga t.ty) (L9 t.ty h.sz (λ _ => .no) 0);generalize (Cr t.ty).headD undef=v at h6;rw[h6]at hone ⊢;have:=hone v (by simp)
  cases v<;>first|(simp[Value.oneCell']at this;done)|rfl
 ·cases ha:t.ag with
  |true=>rfl
  |false=>exact h5 ha
def Cqa (K:Ah X S a) {A1:Ab} (hg:S.g=get A1) {T:TypeId} {m:List Lf} {us:List Value} {q:Nat→List Nat} {d:Nat} (hd:d<X.nt) (hl:A5 X.P S (λ j => .tm 0 (q j)) 0 m us)
  (hq:∀ j,j<m.length→P5 d 0 0 (q j)=some (.pl (C d (0+j)) [])) (hm:m.length<999) (hst:∀ k,.hd k∉m) (hnp:X.np≤d):
  ∃ S',Ah X S' (a.put (some d) (.pointer (some ⟨S.w.heap.size,0,none⟩)))∧S'.w=S.w.alloc (.cells us.toArray T)∧
   S'.g=get (ups A1 (⟨H d,false,.one (.hd m.length)⟩::Bi d 0 m++[⟨d,false,.one (.bp d ((get A1 (H d)).1+1) 0)⟩])):=by
 have hlen:=hl.len;have hd1:d<1000:=Wi hd K.nt
 obtain⟨K1,L1⟩:=K.grow (w':=S.w.alloc (.cells us.toArray T)) (row:=none) (O':=λ k=>if k=S.w.heap.size then .tm 1 [] else S.O k) (World.grownBy_alloc _ _ _) (by simp)
  (λ k hk _=>by show (if k=S.w.heap.size then _ else _)=_;rw[if_neg (by omega)])
  (λ k hk=>by
   show k<(S.w.heap.push _).size;rw[Array.size_push]
   by_cases h:k=S.w.heap.size
   ·omega
   ·simp only[h,if_false]at hk;have:=K.lt k hk
    omega)
 have hl1:A5 X.P (Mx S (S.w.alloc (.cells us.toArray T)) (λ k=>if k=S.w.heap.size then .tm 1 [] else S.O k)) (λ j => .tm 0 (q j)) 0 m us:=by
  refine hl.imp (λ j x u hx=>hx.later L1 (λ k hk=>?_));have hkl:k<S.w.heap.size:=K.lt k (by simp[hk]);refine⟨?_,heap_alloc_old _ _ _ hkl⟩;show (if k=S.w.heap.size then _ else _)=_;rw[if_neg (by omega)];exact hk
 obtain⟨K2,L2⟩:=K1.newbox (d:=d) (k:=S.w.heap.size) (o:=0) (n0:=1) (l0:=[]) (by show (if _ then _ else _)=_;rw[if_pos rfl]) (by decide) K.fr.size (heap_alloc_new _ _) (by simp[hlen]) (by intro j hj;simp) hl1 hq hm hst hnp hd1
 have hv:((U4 (Mx S (S.w.alloc (.cells us.toArray T)) (λ k=>if k=S.w.heap.size then .tm 1 [] else S.O k)) d S.w.heap.size 0 m us).g (H d)).1=(S.g (H d)).1+1:=by
  show (Ib (upd S.g (H d) _) d 0 m (H d)).1=_;unfold Ib;rw[if_neg (D9 (by omega)),A8];rfl
 have K3:=K2.put0 hd (.one (.bp d ((S.g (H d)).1+1) 0)) (.pointer (some ⟨S.w.heap.size,0,none⟩)) 0 rfl ⟨by rw[hv];exact Vo _,λ _=>by
  show Value.pointer _ = .pointer (some ⟨(upd S.bb d (S.w.heap.size,0) d).1,(upd S.bb d (S.w.heap.size,0) d).2+0,none⟩)
  rw[A8]⟩
 have e1:(U4 (Mx S (S.w.alloc (.cells us.toArray T)) (λ k=>if k=S.w.heap.size then .tm 1 [] else S.O k)) d S.w.heap.size 0 m us).g=get (ups A1 (⟨H d,false,.one (.hd m.length)⟩::Bi d 0 m)):=by
  show Ib (upd S.g (H d) ((S.g (H d)).1+1,.one (.hd m.length))) d 0 m=get (ups (up A1 ⟨H d,false,.one (.hd m.length)⟩) (Bi d 0 m));rw[Fq,Hg,← hg];rfl
 refine⟨_,K3,rfl,?_⟩;show upd (U4 (Mx S (S.w.alloc (.cells us.toArray T)) (λ k=>if k=S.w.heap.size then .tm 1 [] else S.O k)) d S.w.heap.size 0 m us).g d _=_;rw[Ae,A7,← e1,← hg]
def Gca (hE:Fo X E) (K:Ah X S a) (hg:S.g=get A) {T:TypeId} {d:Nat} (ho:o.op = .alloc T) (hod:o.dst=some d) (hd:d<X.nt) (h:Ai E o A Kc=some r):Er X o a S.w A Kc r:=by
 unfold Ai at h;rw[ho,hod]at h;simp only at h;split at h
 ·rename_i ti hti;obtain⟨hq,h⟩:=cs h;simp only[Va]at hq;have hlt:ti.ty.sz<999:=Vd hq.1;have hnp:X.np≤d:=hE.np ▸ (Vd hq.2);have ht:=hE.ti _ _ hti;obtain⟨v,h1,h2,_⟩:=La (w:=S.w) ht;obtain⟨S',K',w',g'⟩:=Cqa K hg (T:=T) (m:=P8 ti.ty) (us:=Cr ti.ty) (q:=λ j=>[j]) hd (L9 ti.ty ht.sz _ 0) (λ j hj=>rfl) (by rw[L8];exact hlt) (H2 (Ga _)) hnp;rw[L8]at g';refine⟨_,h,Ac (S:=S') (v := .pointer (some ⟨S.w.heap.size,0,none⟩)) ?_ (by rw[hod];exact K') g'⟩;rw[w'];unfold execOp;simp[ho,Instr.alloc,h1,newVar,newRow,h2]
 ·cases h
def Lb:∀ {l:List Lf},Cn A l=true→Cm l=false
 |[],_=>rfl
 |x::l,h=>by
  have rest:Cn A l=true:=by
   cases x<;>first|(simp[Cn]at h;done)|(simp only[Cn,Va]at h;exact h.2)|simpa[Cn] using h
  cases x<;>first|(simp[Cn]at h;done)|exact Lb (l:=l) rest
def Cra (K:Ah X S a) (hg:S.g=get A) {f:Nat→Lab}:∀ {l:List Lf} {j:Nat} {us:List Value},Cn A l=true→A5 X.P S f j l us→(∀ u∈us,u.oneCell'=true)∧∀ k,.hd k∉l
 |[],_,[],_,_=>by simp
 |[],_,_::_,_,h=>h.elim
 |_::_,_,[],_,h=>h.elim
 |x::l,j,u::us,hst,h=>by
  have rest:Cn A l=true:=by
   cases x<;>first|(simp[Cn]at hst;done)|(simp only[Cn,Va]at hst;exact hst.2)|simpa[Cn] using hst
  obtain⟨r1,r2⟩:=Cra K hg rest h.2;refine⟨λ v hv=>?_,λ k hk=>?_⟩
  ·rcases Vk.1 hv with hv|hv
   ·rw[hv];have one:A3 [x]=true→u.oneCell'=true:=λ hs=>J3 (P:=X.P) (S:=S) (f:=f) (l:=[x]) (j:=j) (us:=[u]) hs ⟨h.1,trivial⟩ u (by simp)
    cases x with
    |al p v=>
     simp only[Cn,Va]at hst;obtain⟨lab',h4⟩:=Kd K hg h.1;have h3:=hst.1;split at h3
     ·rename_i hs;rw[hs]at h4;obtain⟨ad,cap,e1⟩:=M1 (X:=X) h4;rw[e1];rfl
     ·rename_i hs;rw[hs]at h4;obtain⟨ad,cap,e1⟩:=Ns (X:=X) h4;rw[e1];rfl
     ·cases h3
    |sc w=>exact one rfl
    |fz e r xs=>exact one rfl
    |_=>simp[Cn]at hst
   ·exact r1 v hv
  ·rcases Vk.1 hk with rfl|hk
   ·simp[Cn]at hst
   ·exact r2 k hk
def Lna (hE:Fo X E) (K:Ah X S a) (hg:S.g=get A) {T:TypeId} {x:Operand} {d:Nat} (ho:o.op = .box T x) (hod:o.dst=some d) (hd:d<X.nt) (h:Ai E o A Kc=some r):Er X o a S.w A Kc r:=by
 unfold Ai at h;rw[ho,hod]at h;simp only at h;split at h
 ·rename_i ti s hti hs
  cases hmv:mvO E x with
  |true=>
   rw[hmv,cond_true]at h;obtain⟨hq,h⟩:=cs h;simp only[Va]at hq;obtain⟨⟨⟨q1,q2⟩,q3⟩,q4⟩:=hq;have hnp:X.np≤d:=hE.np ▸ (Vd q4);have hlt:ti.ty.sz<999:=Vd q3;have hlen:(parts s).length=ti.ty.sz:=Vb q2;have ht:=hE.ti _ _ hti;have hnt:=Jj (X:=X) (s:=s) rfl hlen ht;obtain⟨pl,hsv⟩:=Ed hE K hg hs;have hown:=Lb q1
   obtain⟨us,hsh,hls⟩:∃ us,M3 s (a.eval x) us∧A5 X.P S (λ n => .tm 0 (pth s n)) 0 (parts s) us:=by
    cases s with
    |one y=>exact⟨[_],rfl,A5.relab (f:=λ _ => .pl pl []) (xs:=[y]) hown ⟨hsv,trivial⟩⟩
    |agg l=>
     obtain⟨us,e1,e2⟩:=hsv;exact⟨us,e1,e2.relab hown⟩
    |tup vs=>exact absurd rfl (hnt vs)
   obtain⟨hone,hnohd⟩:=Cra K hg q1 hls;obtain⟨S',K',w',g'⟩:=Cqa K hg (T:=T) hd hls (Xj rfl hnt) (by rw[hlen];exact hlt) hnohd hnp;rw[hlen]at g';refine⟨_,h,Ac (S:=S') (v := .pointer (some ⟨S.w.heap.size,0,none⟩)) ?_ (by rw[hod];exact K') g'⟩;rw[w'];unfold execOp;simp[ho,Instr.box,newVar,newRow,Fc hsh hnt hone]
  |false=>
  rw[hmv,cond_false]at h;obtain⟨hq,h⟩:=cs h;simp only[Va]at hq;obtain⟨⟨⟨q1,q2⟩,q3⟩,q4⟩:=hq;have hnp:X.np≤d:=hE.np ▸ (Vd q4);have hlt:ti.ty.sz<999:=Vd q3;have hlen:((parts s).map (Gk A)).length=ti.ty.sz:=Vb q2;have ht:=hE.ti _ _ hti;have hnt:=Jj (X:=X) (s:=s) (by simp) hlen ht;obtain⟨S1,K1,g1,w1,b1,p1,L1,x1,heads,_,us,hsh,hls⟩:=Cga hE K hg hs hnt 0;obtain⟨S',K',w',g'⟩:=Cqa K1 g1 (T:=T) hd hls (Xj (by simp) hnt) (by rw[hlen];exact hlt) (H2 q1) hnp
  have hv:(get (ups A (G0 A (parts s)++gone x s)) (H d)).1=(get A (H d)).1:=by rw[← g1,← hg];exact(heads d).1
  rw[hv,hlen,← Ae]at g';refine⟨_,h,Ac (S:=S') (v := .pointer (some ⟨S1.w.heap.size,0,none⟩)) ?_ (by rw[hod];exact K') g'⟩;rw[w',w1];unfold execOp;simp[ho,Instr.box,newVar,newRow,Fc hsh hnt (J3 q1 hls)]
 ·cases h
def Xk:∀ (us:List Value) (n off:Nat) (cells:Array Value),off+n+us.length≤cells.size→
  (us.zipIdx n).foldl (λ cs (x:Value×Nat)=>cs.setIfInBounds (off+x.2) x.1) cells=(cells.toList.take (off+n)++us++cells.toList.drop (off+n+us.length)).toArray
 |[],n,off,cells,h=>by simp
 |c::us,n,off,cells,h=>by
  simp only[Vg]at h;simp only[List.zipIdx_cons,Q7a];rw[Xk us (n+1) off _ (by simp;omega)]
  have hlt:off+n<cells.toList.length:=by rw[Yh];omega
  congr 1;rw[Array.toList_setIfInBounds]
  have e1:(cells.toList.set (off+n) c).take (off+(n+1))=cells.toList.take (off+n)++[c]:=by
   rw[← Yr,List.take_add_one,List.getElem?_set_self hlt,List.take_set_of_le (Vo _)];rfl
  have e2:(cells.toList.set (off+n) c).drop (off+(n+1)+us.length)=cells.toList.drop (off+n+(c::us).length):=by
   rw[List.drop_set_of_lt (by omega)];congr 1;simp only[Vg];omega
  rw[e1,e2];simp
def Lc {place:Nat→Option (Nat×Nat)} {cells:Array Value} {i off z:Nat} {v:Value} {us:List Value} {rest:List (Nat×Value)} (hp:place i=some (off,z)) (hv:v.cells=us.toArray) (hz:us.length=z) (hle:off+z≤cells.size):
  Instr.fill place cells ((i,v)::rest)=Instr.fill place (cells.toList.take off++us++cells.toList.drop (off+z)).toArray rest:=by
 subst hz;have hf:=Xk us 0 off cells (by omega);simp only[Yt]at hf;simp only[Instr.fill,hp,hv,Oqa];rw[if_neg (by simp;omega)];congr 1;rw[← hf];simp
def Ny (off:Nat):Nat→List Nat→Option Lab:=λ n q=>if n=1 then (match q with
 |[]=>some (.tm 0 [off])
 |[j]=>some (.tm 0 [off+j])
 |_=>none) else none
def Gda (off:Nat):∀ n q,Ny off n q≠some .no:=by
 intro n q;unfold Ny;split
 ·split<;>simp
 ·simp
def Jea {s:Sv} {off:Nat} {m:List Lf} (hm:m.length=(parts s).length) (hnt:∀ vs,s ≠ .tup vs):∀ j,j<m.length→Ny off 1 (pth s j)=some (.tm 0 [off+j]):=by
 intro j hj
 cases s with
 |one x=>
  have:j=0:=by simp[parts]at hm;omega
  subst this;rfl
 |agg l=>rfl
 |tup vs=>exact absurd rfl (hnt vs)
def Csa {s:Sv} {m:List Lf} {z:Nat} (hm:m.length=(parts s).length) (h:m.length=z) (hz:0<z):∀ vs,s ≠ .tup vs:=by
 intro vs e;subst e;simp[parts]at hm;simp[hm]at h;omega
def Nz (hE:Fo X E) {T:TypeId} {t:TI} (ht:TOk X.P T t) {fs:Array Field} (hfs:Gy X.P fs.toList t.fo=true) (places:List (Nat×Nat)) (hpl:∀ i o,nth t.fo i=some o→places[i]? = some (o.1,o.2.1)):
  ∀ (ps:List (Nat×Operand)) {S:Sit} {A:Ab} {l:List Lf} {us0:List Up} {cs:List Value} {l':List Lf} {us':List Up},Ah X S a→S.g=get A→A5 X.P S (λ j => .tm 0 [j]) 0 l cs→A3 l=true→Hs E A t l us0 ps=some (l',us')→
  ∃ S' U cs',us'=us0++U∧Ah X S' a∧S'.g=get (ups A U)∧S'.w=S.w∧A5 X.P S' (λ j => .tm 0 [j]) 0 l' cs'∧l'.length=l.length∧
   Instr.fill (places.toArray[·]?) cs.toArray (ps.map λ p=>(p.1,a.eval p.2))=some cs'.toArray
 |[],S,A,l,us0,cs,l',us',K,hg,hl,hst,h=>by
  simp only[Hs,Vc,Vu]at h;obtain⟨rfl,rfl⟩:=h;exact⟨S,[],cs,by simp,K,hg,rfl,hl,rfl,rfl⟩
 |(i,x)::ps,S,A,l,us0,cs,l',us',K,hg,hl,hst,h=>by
  simp only[Hs]at h;split at h
  ·cases h
  ·rename_i off z ag hn;have hpi:=hpl i _ hn;obtain⟨fd,_,_,_,hz0,_⟩:=Jd hfs hn;simp only at hz0;have hlen:=hl.len;split at h
   ·-- the literal nil
    rw[csi]at h;obtain⟨hb,h⟩:=h;have hz1:z=1:=Vb hb;subst hz1;split at h
    ·rename_i e r' hleaf;rw[Et]at hleaf;have hoff:off<l.length:=(We.1 hleaf).1
     have hl2:A5 X.P S (λ j => .tm 0 [j]) 0 l (cs.take off++[.slice none 0 0]++cs.drop (off+1)):=by
      have hsz:Nn X.P e r'.sz:=by
       obtain⟨x',u',e1,_,_,e4⟩:=hl.at off hoff;rw[Vn,hleaf]at e1;simp only[Zc]at e1;subst e1;exact Ch.top e4 |>.1
      have h1:=A5.setAll (P:=X.P) (S:=S) (f:=λ j => .tm 0 [j]) (l:=l) (us:=cs) (m:=[.own e r' []]) (ms:=[.slice none 0 0]) (off:=off) (hl.take off) ⟨Qh hsz,trivial⟩ (by have:=hl.drop (off+1);rwa [Wb]at this) (by simp only[Q8a];omega)
      have h2:Vf.setAll l off [.own e r' []]=l:=by
       unfold Vf.setAll;rw[Vp hoff]at hleaf;simp only[Vc]at hleaf;rw[← hleaf];simp only[Q8a,Vj,Ya];rw[← Yi hoff,Wm]
      rw[h2]at h1;exact h1
     obtain⟨S',U,cs',e1,K',g',w',l1,l2,hf⟩:=Nz hE ht hfs places hpl ps K hg hl2 hst h;refine⟨S',U,cs',e1,K',g',w',l1,l2,?_⟩;rw[Yc,Lc (us:=[.slice none 0 0]) (off:=off) (z:=1) (by simpa using hpi) rfl rfl (by simp;omega)];exact hf
    ·cases h
   ·split at h
    ·rename_i s hs;rw[csi]at h;obtain⟨hq,h⟩:=h;simp only[Va]at hq;obtain⟨⟨q1,q2⟩,q3⟩:=hq;have hmz:((parts s).map (Gk A)).length=z:=Vb q2;have hle:off+z≤l.length:=Vd q3;have hnt:=Csa (s:=s) (by simp) hmz hz0;obtain⟨S1,K1,g1,w1,b1,p1,L1,x1,heads,tms,us,hsh,hls⟩:=Cga hE K hg hs hnt 1;obtain⟨K2,L2⟩:=K1.names (Ny off) (Gda off);have hone:=J3 q1 hls;have hul:=hls.len
     have old:∀ j x u,Af X.P S (.tm 0 [j]) x u→Af X.P { S1 with O:=atO S1.O (Ny off) } (.tm 0 [j]) x u:=λ j x u hx=>
      (tms 0 [j] x u hx).later L2 (λ k hk=>⟨H1 hk (by simp[Ny]),rfl⟩)
     have hl2:=A5.setAll (P:=X.P) (S := { S1 with O:=atO S1.O (Ny off) }) (f:=λ j => .tm 0 [j]) (l:=l) (us:=cs) (m:=(parts s).map (Gk A)) (ms:=us) (off:=off)
      ((hl.take off).imp (λ j x u hx=>old j x u hx))
      (by
       have h1:A5 X.P { S1 with O:=atO S1.O (Ny off) } (λ j => .tm 0 [off+j]) 0 ((parts s).map (Gk A)) us:=by
        refine A5.impAt (λ n _ n2 x u hx=>?_) hls;exact hx.later L2 (λ k hk=>⟨F3 hk (Jea (m:=(parts s).map (Gk A)) (by simp) hnt n (by omega)),rfl⟩)
       have shiftBack:∀ (m:List Lf) (us:List Value) (i:Nat),A5 X.P { S1 with O:=atO S1.O (Ny off) } (λ j => .tm 0 [off+j]) i m us→A5 X.P { S1 with O:=atO S1.O (Ny off) } (λ j => .tm 0 [j]) (off+i) m us:=by
        intro m
        induction m with
        |nil=>intro us i h;cases us<;>first|trivial|exact h.elim
        |cons x m ih=>
         intro us i h
         cases us with
         |nil=>exact h.elim
         |cons u us=>exact⟨h.1,ih us (i+1) h.2⟩
       exact shiftBack _ _ 0 h1)
      (by
       have:=(hl.drop (off+((parts s).map (Gk A)).length)).imp (S' := { S1 with O:=atO S1.O (Ny off) }) (f':=λ j => .tm 0 [j]) (λ j x u hx=>old j x u hx)
       rwa [Wb]at this) (by rw[hmz];exact hle)
     have hst2:A3 (Vf.setAll l off ((parts s).map (Gk A)))=true:=by
      have tk:∀ (l:List Lf) n,A3 l=true→A3 (l.take n)=true:=by
       intro l
       induction l with
       |nil=>intro n _;cases n<;>rfl
       |cons x l ih=>
        intro n h
        cases n with
        |zero=>rfl
        |succ n=>cases x<;>first|(simp[A3]at h;done)|exact ih n (by simpa[A3] using h)
      have dr:∀ (l:List Lf) n,A3 l=true→A3 (l.drop n)=true:=by
       intro l
       induction l with
       |nil=>intro n _;cases n<;>rfl
       |cons x l ih=>
        intro n h
        cases n with
        |zero=>exact h
        |succ n=>cases x<;>first|(simp[A3]at h;done)|exact ih n (by simpa[A3] using h)
      have app:∀ l m,A3 l=true→A3 m=true→A3 (l++m)=true:=by
       intro l m hl hm
       induction l with
       |nil=>exact hm
       |cons x l ih=>cases x<;>first|(simp[A3]at hl;done)|exact ih (by simpa[A3] using hl)
      exact app _ _ (app _ _ (tk _ _ hst) q1) (dr _ _ hst)
     obtain⟨S',U,cs',e1,K',g',w',l1,l2,hf⟩:=Nz hE ht hfs places hpl ps K2 g1 hl2 hst2 h;refine⟨S',(G0 A (parts s)++gone x s)++U,cs',by rw[e1,Vj],K',by rw[Ae];exact g',w'.trans w1,l1,l2.trans ?_,?_⟩
     ·unfold Vf.setAll;simp only[Vh,Vl,Vx];omega
     ·rw[Yc,Lc (us:=us) (off:=off) (z:=z) (by simpa using hpi) (Fc hsh hnt hone) (hul.trans hmz) (by simp;omega)];rw[hmz]at hf;exact hf
    ·cases h
def Pm {P:Program} {w:World}:∀ (fs:List Field) (os:List (Nat×Nat×Bool)),Gy P fs os=true→(fs.mapM (λ f=>do pure (f.offset,← sizeOf f.type):Field→Sem (Nat×Nat))).run P w = .ok (os.map λ o=>(o.1,o.2.1)) w
 |[],[],_=>rfl
 |[],_::_,h=>by simp[Gy]at h
 |_::_,[],h=>by simp[Gy]at h
 |f::fs,o::os,h=>by
  simp only[Gy,Va]at h;obtain⟨⟨⟨⟨⟨h1,h2⟩,_⟩,_⟩,_⟩,h5⟩:=h
  have e1:f.offset=o.1:=by simpa using h1
  have e2:(P.info? f.type).map (λ i=>i.size)=some o.2.1:=by simpa using h2
  rw[List.mapM_cons];simp only[Vw,G7 e2,Vv,Wl,Pm fs os h5,e1,Yc]
def Gea (hE:Fo X E) (K:Ah X S a) (hg:S.g=get A) {T:TypeId} {ps:Array (Nat×Operand)} {d:Nat} (ho:o.op = .build T ps) (hod:o.dst=some d) (hd:d<X.nt) (h:Ai E o A Kc=some r):Er X o a S.w A Kc r:=by
 unfold Ai at h;rw[ho,hod]at h;simp only at h;split at h
 ·rename_i ti hti;split at h
  ·rename_i l us hb;obtain⟨hag,h⟩:=cs h;have ht:=hE.ti _ _ hti;obtain⟨fs,hu,hfs⟩:=Nt ht hag;obtain⟨v,z1,z2,z3⟩:=La (w:=S.w) ht;obtain⟨S1,U,cs',e1,K1,g1,w1,l1,_,hf⟩:=Nz hE ht hfs (ti.fo.map λ o=>(o.1,o.2.1)) (λ i o' hi=>by rw[Et]at hi;rw[Pda,hi];rfl) ps.toList K hg (L9 ti.ty ht.sz (λ j => .tm 0 [j]) 0) (Ga _) hb;simp only[Wf]at e1;subst e1
   let hh:Nat→List Nat→Option Lab:=λ n q=>if n=0 then some (.pl d q) else none
   have L2:=D0 S1 hh d (K.lt0 hd) (.agg l) (.agg cs'.toArray);have hsv:Fi X.P (Gp S1 hh d (.agg l) (.agg cs'.toArray)) d (.agg l) (.agg cs'.toArray):=⟨cs',rfl,l1.imp (λ j x u hx=>hx.later L2 (λ k hk=>⟨F3 hk (by simp[hh]),rfl⟩))⟩
   have K2:=K1.put hd hh (by intro n q p hp;simp only[hh]at hp;split at hp<;>first|(cases hp;exact⟨q,rfl⟩)|cases hp) _ _ hsv
   refine⟨_,h,Ac (S:=Gp S1 hh d (.agg l) (.agg cs'.toArray)) ?_ (by rw[hod];exact K2) ?_⟩
   ·show _=Result.ok _ S1.w;rw[w1];unfold execOp;simp only[ho,Vw];unfold Instr.build;simp only[Vw,z1,Vv,run_underlying hu,z2];have hm:=Pm (P:=X.P) (w:=S.w) fs.toList ti.fo hfs
    have hm2:(fs.mapM (λ f=>do pure (f.offset,← sizeOf f.type):Field→Sem (Nat×Nat))).run X.P S.w = .ok (ti.fo.map λ o=>(o.1,o.2.1)).toArray S.w:=by
     rw[Pua,Sem.run_map,hm];rfl
    simp only[Vw,Wl]at hm2 ⊢;rw[hm2];simp only[Vv]
    have e2:(ps.map λ x=>(x.1,a.eval x.2)).toList=ps.toList.map λ p=>(p.1,a.eval p.2):=by simp
    rw[e2,hf];rfl
   ·show upd S1.g d _=_;rw[Ae,A7,← g1]
  ·cases h
 ·cases h
end
end

section
attribute [local irreducible] C H
section
variable {X:Cx} {S S':Sit} {a:Act} {E:En} {A:Ab} {o:Oper} {R:Type} {Kc:List Up→Option R} {r:R}
def Iq:∀ t:Ty,0<t.sz
 |.i _=>Nat.one_pos
 |.b=>Nat.one_pos
 |.s=>Nat.one_pos
 |.sl _ _=>Nat.one_pos
 |.ow _ _=>Nat.one_pos
 |.pr x y=>by have:=Iq x;show 0<x.sz+y.sz;omega
def Qr {P:Program} {G:Nat→Prop} {w:World}:∀ (t:Ty) (x:t.den) (vs:List Value),t.rep P G w x vs→∀ u∈vs,u.oneCell'=true
 |.i _,_,_,h=>by subst h;simp[Value.oneCell']
 |.b,_,_,h=>by subst h;simp[Value.oneCell']
 |.s,_,_,h=>by subst h;simp[Value.oneCell']
 |.sl _ _,_,_,⟨v,e,_,ad,cap,cs,e2,_⟩=>by subst e e2;simp[Value.oneCell']
 |.ow _ _,_,_,⟨v,e,_,ad,cap,cs,e2,_⟩=>by subst e e2;simp[Value.oneCell']
 |.pr x y,p,_,⟨c,d,e,h1,h2⟩=>by
  subst e;intro u hu;rcases Vm.1 hu with h|h
  ·exact Qr x p.1 c h1 u h
  ·exact Qr y p.2 d h2 u h
def Rows.all {α:Type} {R':α→List Value→Prop} {Q:Value→Prop} (hR:∀ x c,R' x c→∀ u∈c,Q u):∀ {xs:List α} {cs:List Value},Rows R' xs cs→∀ u∈cs,Q u
 |[],_,h=>by simp only[Rows]at h;subst h;simp
 |_::_,_,⟨c,d,e,h1,h2⟩=>by
  subst e;intro u hu;rcases Vm.1 hu with h|h
  ·exact hR _ _ h1 u h
  ·exact h2.all hR u h
def N9 (K:Ah X S a) {A1:Ab} (hg:S.g=get A1) {d:Nat} (hd:d<X.nt) {w':World} {row:Option Nat} {e:TypeId} {r':Ty} {xs:List r'.den} {v:Value} {cs:List Value} {b2:List Nat} (hw:S.w.grownBy w' row) (hrow:∀ k,row=some k→∃ n q,S.O k = .tm n q)
  (hsz:Nn X.P e r'.sz) (hown:w'.ownsRow 0 e r'.sz v xs.length cs) (hrows:Bs (λ x c b=>r'.dep X.P (λ k=>S.O k = .fz) S.w x c b) xs cs b2) (hn:b2.Nodup) (hb:∀ k∈b2,∃ q,S.O k = .tm 0 q) (hb2:∀ k∈b2,row≠some k∧v.ownBlock≠some k)
  (hv:∀ k,v.ownBlock=some k→row=some k∨S.w.heap.size≤k):
  ∃ S',Ah X S' (a.put (some d) v)∧S'.w=w'∧S'.g=get (ups A1 [⟨d,false,.one (.own e r' xs)⟩]):=by
 obtain⟨K1,L1⟩:=K.grow (w':=w') (row:=row) (O':=λ k=>if v.ownBlock=some k then .tm 0 [] else S.O k) hw hrow
  (λ k hk hnt=>by
   show (if v.ownBlock=some k then _ else _)=_;rw[if_neg];intro e1;rcases hv k e1 with h|h
   ·obtain⟨n,q,h2⟩:=hrow k h;exact hnt n q h2
   ·omega)
  (λ k hk=>by
   by_cases h:v.ownBlock=some k
   ·exact(hown.lt k h).2
   ·simp only[h,if_false]at hk
    exact Wi (K.lt k hk) hw.size)
 let O1:Nat→Lab:=λ k=>if v.ownBlock=some k then .tm 0 [] else S.O k
 let hh:Nat→List Nat→Option Lab:=λ n q=>if n=0 then some (.pl d []) else none
 have L2:=D0 (Mx S w' O1) hh d (K.lt0 hd) (.one (.own e r' xs)) v
 have hlab:∀ k∈v.ownBlock.toList++b2,(Gp (Mx S w' O1) hh d (.one (.own e r' xs)) v).O k = .pl d []:=λ k hk=>by
  have h1:∃ q,O1 k = .tm 0 q:=by
   rcases Vm.1 hk with hk|hk
   ·refine⟨[],if_pos ?_⟩
    cases hvb:v.ownBlock with
    |none=>rw[hvb]at hk;simp at hk
    |some j=>rw[hvb]at hk;simp at hk;rw[hk]
   ·obtain⟨q,hq⟩:=hb k hk;exact⟨q,(if_neg (hb2 k hk).2).trans hq⟩
  obtain⟨q,hq⟩:=h1;exact F3 (h:=hh) hq (by simp[hh])
 have hown1:Ch X.P (Gp (Mx S w' O1) hh d (.one (.own e r' xs)) v).O w' (.pl d []) e r' xs v:=by
  refine⟨v.ownBlock.toList++b2,⟨v,cs,b2,rfl,hsz,hown,hrows.mono (λ x c b hbb h=>Ty.dep_mono (λ k hk=>(L2.fz k (L1.fz k hk).1).1) (λ k hk=>(L1.fz k hk).2) r' x c b (λ k hk=>?_) h),rfl⟩,?_,hlab⟩
  ·have hk2:=hbb k hk;obtain⟨q,hq⟩:=hb k hk2;exact hw.block k (K.lt k (by rw[hq];simp)) (λ e=>(hb2 k hk2).1 e.symm)
  ·rw[Yb]
   refine⟨by cases v.ownBlock<;>simp,hn,λ k hk k' hk' e=>?_⟩
   subst e
   cases hvb:v.ownBlock with
   |none=>rw[hvb]at hk;simp at hk
   |some j=>
    rw[hvb]at hk;simp at hk;exact(hb2 k hk').2 (by rw[hvb,hk])
 have K2:=K1.put hd hh (by intro n q p hp;simp only[hh]at hp;split at hp<;>first|(cases hp;exact⟨[],rfl⟩)|cases hp) (.one (.own e r' xs)) v hown1
 refine⟨_,K2,rfl,?_⟩;show upd S.g d _=_;rw[A7,← hg];rfl
def Cta (K:Ah X S a) {A1:Ab} (hg:S.g=get A1) {d:Nat} (hd:d<X.nt) {w':World} {row:Option Nat} {e:TypeId} {r':Ty} {xs:List r'.den} {v:Value} {cs:List Value} (hno:Gd r'=true) (hw:S.w.grownBy w' row) (hrow:∀ k,row=some k→∃ n q,S.O k = .tm n q)
  (hsz:Nn X.P e r'.sz) (hown:w'.ownsRow 0 e r'.sz v xs.length cs) (hrows:Rows (λ x c=>r'.rep X.P (λ k=>S.O k = .fz) S.w x c) xs cs) (hv:∀ k,v.ownBlock=some k→row=some k∨S.w.heap.size≤k):
  ∃ S',Ah X S' (a.put (some d) v)∧S'.w=w'∧S'.g=get (ups A1 [⟨d,false,.one (.own e r' xs)⟩]):=
 N9 K hg hd hw hrow hsz hown ((Bs.flat (λ x c b=>Ty.dep_flat r' x c b hno)).2 ⟨hrows,rfl⟩) (by simp) (by simp) (by simp) hv
def Kh:∀ (t t':Ty),Mu t t'=true→Cr t=Cr t'
 |.i k,.i k',h=>by simp[Mu]at h;subst h;rfl
 |.b,.b,_=>rfl
 |.s,.s,_=>rfl
 |.sl _ _,.sl _ _,_=>rfl
 |.sl _ _,.ow _ _,_=>rfl
 |.ow _ _,.sl _ _,_=>rfl
 |.ow _ _,.ow _ _,_=>rfl
 |.pr x y,.pr x' y',h=>by
  simp only[Mu,Va]at h;show Cr x++Cr y=_;rw[Kh x x' h.1,Kh y y' h.2];rfl
 |.i _,.b,h | .i _,.s,h | .i _,.sl _ _,h | .i _,.ow _ _,h | .i _,.pr _ _,h=>by simp[Mu]at h
 |.b,.i _,h | .b,.s,h | .b,.sl _ _,h | .b,.ow _ _,h | .b,.pr _ _,h=>by simp[Mu]at h
 |.s,.i _,h | .s,.b,h | .s,.sl _ _,h | .s,.ow _ _,h | .s,.pr _ _,h=>by simp[Mu]at h
 |.sl _ _,.i _,h | .sl _ _,.b,h | .sl _ _,.s,h | .sl _ _,.pr _ _,h=>by simp[Mu]at h
 |.ow _ _,.i _,h | .ow _ _,.b,h | .ow _ _,.s,h | .ow _ _,.pr _ _,h=>by simp[Mu]at h
 |.pr _ _,.i _,h | .pr _ _,.b,h | .pr _ _,.s,h | .pr _ _,.sl _ _,h | .pr _ _,.ow _ _,h=>by simp[Mu]at h
def Qs {P:Program} {G:Nat→Prop} {w:World}:∀ (t:Ty),szB P t=true→t.rep P G w t.dflt (Cr t)
 |.i _,_=>rfl
 |.b,_=>rfl
 |.s,_=>rfl
 |.sl e r,h=>by
  simp only[szB,Va,beq_iff_eq]at h;exact⟨_,rfl,h.1,none,0,[],rfl,Vo _,rfl,λ h=>absurd rfl h⟩
 |.ow e r,h=>by
  simp only[szB,Va,beq_iff_eq]at h;exact⟨_,rfl,h.1,none,0,[],rfl,Vo _,rfl,λ h=>absurd rfl h⟩
 |.pr x y,h=>by
  simp only[szB,Va]at h;exact⟨_,_,rfl,Qs x h.1,Qs y h.2⟩
def Jk:∀ t:Ty,Cr (shp t)=Cr t
 |.i _=>rfl
 |.b=>rfl
 |.s=>rfl
 |.sl _ _=>rfl
 |.ow _ _=>rfl
 |.pr x y=>by show Cr (shp x)++Cr (shp y)=Cr x++Cr y;rw[Jk x,Jk y]
def M5 {P:Program}:∀ t:Ty,szB P (shp t)=szB P t
 |.i _=>rfl
 |.b=>rfl
 |.s=>rfl
 |.sl e r=>by show (_&&szB P (shp r))=(_&&szB P r);rw[M5 r,Gl r]
 |.ow e r=>by show (_&&szB P (shp r))=(_&&szB P r);rw[M5 r,Gl r]
 |.pr x y=>by show (szB P (shp x)&&szB P (shp y))=_;rw[M5 x,M5 y];rfl
def Qt {P:Program} {G:Nat→Prop} {w:World}:∀ (t:Ty),szB P t=true→t.dep P G w t.dflt (Cr t) []
 |.i _,_=>⟨rfl,rfl⟩
 |.b,_=>⟨rfl,rfl⟩
 |.s,_=>⟨rfl,rfl⟩
 |.sl e r,h=>⟨Qs (.sl e r) h,rfl⟩
 |.ow e r,h=>by
  simp only[szB,Va,beq_iff_eq]at h;exact⟨_,[],[],rfl,h.1,World.ownsRow_nil _ _ _ _,⟨rfl,rfl⟩,rfl⟩
 |.pr x y,h=>by
  simp only[szB,Va]at h;exact⟨_,_,[],[],rfl,rfl,Qt x h.1,Qt y h.2⟩
def Bs.replicate {α:Type} {R:α→List Value→List Nat→Prop} {x:α} {c:List Value} (h:R x c []):∀ n,Bs R (List.replicate n x) (List.replicate n c).flatten []
 |0=>by simp[Bs]
 |n+1=>⟨c,_,[],[],by simp[P0a],rfl,h,Bs.replicate h n⟩
def Cua (l:List Value) (hl:0<l.length):∀ n,(madeCells l.toArray (n*l.length)).toList=(List.replicate n l).flatten:=by
 have key:∀ n,(List.range (n*l.length)).map (λ j=>l.toArray[j % l.toArray.size]!)=(List.replicate n l).flatten:=by
  intro n
  induction n with
  |zero=>simp
  |succ n ih=>
   rw[Yg,Yk,Zd,List.range_add,Oxa,Oua,P0a,List.flatten_cons,← ih];congr 1
   ·apply List.ext_getElem
    ·simp
    ·intro i h1 h2;simp at h1;simp[Q2a h1,h1]
   ·apply Zn;intro j _;simp
 intro n;rw[← key n];simp[madeCells]
def Su (hE:Fo X E) (K:Ah X S a) (hg:S.g=get A) {T:TypeId} {x y:Operand} {d:Nat} (ho:o.op = .makeSlice T x y) (hod:o.dst=some d) (hd:d<X.nt) (h:Ai E o A Kc=some r):Er X o a S.w A Kc r:=by
 unfold Ai at h;rw[ho,hod]at h;simp only at h;split at h
 ·rename_i e r' by_ fo n m hT hx hy;have ex:=(Hi hE K hg hx).1;have ey:=(Hi hE K hg hy).1;split at h
  ·rename_i te hte;rw[csi]at h;obtain⟨hq,h⟩:=h;simp only[Va,decide_eq_true_eq]at hq;obtain⟨hz,rfl⟩:=hq
   by_cases h0:0≤n
   ·by_cases hb:n*te.by_≤140737488355328
    ·simp only[h0,hb,decide_true,cond_true]at h;have hTk:=hE.ti _ _ hT;have hek:=hE.ti _ _ hte
     have hu:X.P.underlying T=some (.slice e):=by
      have:=hTk.desc;unfold M0 at this
      split at this<;>simp_all
     have hszs:=hTk.sz;simp only[szB,Va,beq_iff_eq]at hszs;obtain⟨i,i1,i2,i3,i4,i5⟩:=hek.info;obtain⟨z,z1,z2,z3⟩:=La (w:=S.w) hek
     have iz:i.zero=some z:=by
      simp only[zeroValue,typeInfo,Vw,run_program,Vv,i1,Wl]at z1;rw[i4]at z1 ⊢;simp only[Wl,Pla,and_true]at z1;rw[z1]
     have hsame:=Kh _ _ hz
     have hsz1:i.size=r'.sz:=by
      have:=hszs.1;rw[i1]at this
      simpa using this
     have hb1:(i.bytes:Int)*n≤281474976710656:=by rw[i3,Int.mul_comm];omega
     have h63:n≤140737488355328:=by
      have h1:(1:Int)≤te.by_:=by have:=hek.by0;omega
      have:=Int.mul_le_mul_of_nonneg_left h1 h0;rw[Int.mul_one]at this;omega
     have hr:=run_make (P:=X.P) S.w T e i z hu i1 iz .i64 .i64 n n h0 (Int.le_refl _) hb1 (by omega)
     have key:∀ r2:Ty,shp r2=shp r'→Kc [⟨d,false,.one (.own e r2 (List.replicate n.toNat r2.dflt))⟩]=some r→Er X o a S.w A Kc r:=by
      intro r2 hs2 hk
      have hsz2:r2.sz=r'.sz:=by rw[← Gl r2,hs2,Gl r']
      have hzc2:Cr r2=Cr r':=by rw[← Jk r2,hs2,Jk r']
      have hszb2:szB X.P r2=true:=by rw[← M5 r2,hs2,M5 r'];exact hszs.2
      have hcl:(Cr r2).length=r2.sz:=Hv r2
      have hflat:(madeCells z.cells (n.toNat*i.size)).toList=(List.replicate n.toNat (Cr r2)).flatten:=by
       rw[z2,hsame,hsz1,← hzc2,← hsz2,← hcl];exact Cua _ (by rw[hcl];exact Iq r2) _
      obtain⟨S',K',w',g'⟩:=N9 K hg hd (w':=S.w.alloc (.cells (madeCells z.cells (n.toNat*i.size)) e)) (row:=none) (e:=e) (r':=r2) (xs:=List.replicate n.toNat r2.dflt) (v := .slice (some ⟨S.w.heap.size,0,none⟩) n.toNat n.toNat)
       (cs:=(madeCells z.cells (n.toNat*i.size)).toList) (b2:=[]) (World.grownBy_alloc _ _ _) (by simp) (by rw[hsz2];exact hszs.1)
       (by rw[Q9a];exact World.ownsRow_lit S.w _ n.toNat (Wh _) (by simp only[maxLen];omega) (by rw[size_madeCells,hsz1,hsz2]))
       (by rw[hflat];exact Bs.replicate (Qt r2 hszb2) _) (by simp) (by simp) (by simp) (by
        intro k hk;simp only[Value.ownBlock,Vc]at hk
        exact .inr (P4a hk))
      refine⟨_,hk,Ac (S:=S') (v := .slice (some ⟨S.w.heap.size,0,none⟩) n.toNat n.toNat) ?_ (by rw[hod];exact K') g'⟩;rw[w'];unfold execOp;simp[ho,ex,ey,hr]
     split at h
     ·exact key r' rfl h
     ·rename_i r2 _
      by_cases hs2:shp r2=shp r'
      ·simp only[hs2,decide_true,cond_true]at h;exact key r2 hs2 h
      ·simp[hs2]at h
    ·simp[h0,hb]at h
   ·simp[h0]at h
  ·cases h
 ·cases h
def Xl (hE:Fo X E) {e:TypeId} {r':Ty} (N:Nat):∀ (ps:List (Nat×Operand)) {S:Sit} {A:Ab} {i:Nat} {ys:List r'.den} {us':List Up} {zs:List r'.den} {cs:List Value},Ah X S a→S.g=get A→S4 E A e r' i ps=some (ys,us')→zs.length=i→
  Rows (λ x c=>r'.rep X.P (λ k=>S.O k = .fz) S.w x c) zs (cs.take (i*r'.sz))→cs.length=N*r'.sz→i+ps.length≤N→
  ∃ S',∃ cs':List Value,Ah X S' a∧S'.g=get (ups A us')∧S'.w=S.w∧ys.length=ps.length∧cs'.length=N*r'.sz∧Rows (λ x c=>r'.rep X.P (λ k=>S'.O k = .fz) S'.w x c) (zs++ys) (cs'.take ((i+ps.length)*r'.sz))∧
   Instr.fill (λ j=>some (j*r'.sz,r'.sz)) cs.toArray (ps.map λ p=>(p.1,a.eval p.2))=some cs'.toArray
 |[],S,A,i,ys,us',zs,cs,K,hg,h,hi,hz,hcl,hN=>by
  simp only[S4,Vc,Vu]at h;obtain⟨rfl,rfl⟩:=h;exact⟨S,cs,K,hg,rfl,rfl,hcl,by simpa using hz,rfl⟩
 |(j,x)::ps,S,A,i,ys,us',zs,cs,K,hg,h,hi,hz,hcl,hN=>by
  simp only[S4]at h;cases hb:Nat.beq i j
  ·rw[hb]at h;simp at h
  rw[hb,cond_true]at h;have hij:i=j:=Vb hb;subst hij;split at h
  ·rename_i s hs;cases hst:A3 ((parts s).map (Gk A))
   ·rw[hst]at h;simp at h
   rw[hst,cond_true]at h;split at h
   ·rename_i y hy;split at h
    ·rename_i ys1 us1 hrec;cases h
     have hnt:∀ vs,s ≠ .tup vs:=by
      intro vs e1;subst e1
      have:∀ t:Ty,mkT t []=none:=by intro t;induction t<;>simp_all [mkT]
      simp[parts,mkW,this]at hy
     obtain⟨S1,K1,g1,w1,b1,p1,L1,x1,heads,tms,us,hsh,hls⟩:=Cga hE K hg hs hnt 0
     obtain⟨K2,L2⟩:=K1.names (Xi 0) (by intro n q;unfold Xi;split<;>simp)
     have hrep:=L7 hst hls;rw[Oua]at hrep;have hyr:=Np hy hrep;have hul:=Ty.rep_len _ _ _ hyr;have hone:=J3 hst hls
     have hle:i*r'.sz+r'.sz≤cs.length:=by
      rw[hcl];have:=Wa r'.sz (show i+1≤N by simp only[Vg]at hN;omega);rw[Yg,Yk]at this;exact this
     have hz2:Rows (λ x c=>r'.rep X.P (λ k=>({ S1 with O:=atO S1.O (Xi 0) }:Sit).O k = .fz) ({ S1 with O:=atO S1.O (Xi 0) }:Sit).w x c) (zs++[y]) ((cs.take (i*r'.sz)++us++cs.drop (i*r'.sz+r'.sz)).take ((i+1)*r'.sz)):=by
      have e1:(cs.take (i*r'.sz)++us++cs.drop (i*r'.sz+r'.sz)).take ((i+1)*r'.sz)=cs.take (i*r'.sz)++us:=by
       rw[Qaa (by rw[Vh,Vl,hul,Yg,Yk];omega)]
      rw[e1];refine Rows.append (hz.mono (λ x c=>Ty.rep_mono (λ k hk=>(L2.fz k (L1.fz k hk).1).1) (λ k hk=>by show S1.w.heap[k]? = _;rw[w1]) r' x c)) ⟨us,[],by simp,hyr,rfl⟩
     obtain⟨S',cs',K',g',w',l1,l2,l3,hf⟩:=Xl hE N ps K2 (by show S1.g=_;exact g1) hrec (by simp[hi]) hz2 (by
      simp only[Vh,Vl,Vx,hul];omega) (by simp only[Vg]at hN;omega)
     refine⟨S',cs',K',by rw[Ae];exact g',w'.trans w1,by simp[l1],l2,?_,?_⟩
     ·rw[Vj,Ya]at l3;rw[Vg,show i+(ps.length+1)=i+1+ps.length by omega];exact l3
     ·rw[Yc,Lc (us:=us) (off:=i*r'.sz) (z:=r'.sz) rfl (Fc hsh hnt hone) hul (by simpa using hle)];exact hf
    ·cases h
   ·cases h
  ·cases h
def Xm (hE:Fo X E) {e:TypeId} {r':Ty} (N:Nat) (hall:Dh r'=true):∀ (ps:List (Nat×Operand)) {S:Sit} {A:Ab} {i:Nat} {ys:List r'.den} {us':List Up} {zs:List r'.den} {cs:List Value} {bz:List Nat},Ah X S a→S.g=get A→S5 E A e r' i ps=some (ys,us')→zs.length=i→
  Bs (λ x c b=>r'.dep X.P (λ k=>S.O k = .fz) S.w x c b) zs (cs.take (i*r'.sz)) bz→bz.Nodup→(∀ k∈bz,∃ n q,1000≤n∧n<1000+i∧S.O k = .tm n q)→cs.length=N*r'.sz→i+ps.length≤N→
  ∃ S',∃ cs':List Value,∃ b2,Ah X S' a∧S'.g=get (ups A us')∧S'.w=S.w∧ys.length=ps.length∧cs'.length=N*r'.sz∧Bs (λ x c b=>r'.dep X.P (λ k=>S'.O k = .fz) S'.w x c b) (zs++ys) (cs'.take ((i+ps.length)*r'.sz)) b2∧
   b2.Nodup∧(∀ k∈b2,∃ n q,1000≤n∧n<1000+(i+ps.length)∧S'.O k = .tm n q)∧Instr.fill (λ j=>some (j*r'.sz,r'.sz)) cs.toArray (ps.map λ p=>(p.1,a.eval p.2))=some cs'.toArray
 |[],S,A,i,ys,us',zs,cs,bz,K,hg,h,hi,hz,hbn,hbl,hcl,hN=>by
  simp only[S5,Vc,Vu]at h;obtain⟨rfl,rfl⟩:=h;exact⟨S,cs,bz,K,hg,rfl,rfl,hcl,by simpa using hz,hbn,by simpa using hbl,rfl⟩
 |(j,x)::ps,S,A,i,ys,us',zs,cs,bz,K,hg,h,hi,hz,hbn,hbl,hcl,hN=>by
  simp only[S5]at h;cases hb:Nat.beq i j
  ·rw[hb]at h;simp at h
  rw[hb,cond_true]at h;have hij:i=j:=Vb hb;subst hij;split at h
  ·rename_i s hs;split at h
   ·rename_i m us0 hgive;cases hst:K8 m
    ·rw[hst]at h;simp at h
    rw[hst,cond_true]at h;split at h
    ·rename_i y hy;split at h
     ·rename_i ys1 us1 hrec;cases h
      have hnt:∀ vs,s ≠ .tup vs:=by
       intro vs e1;subst e1
       have h1:∀ t:Ty,mkT t []=none:=by intro t;induction t<;>simp_all [mkT]
       have h2:=N6 hgive;have:m=[]:=Wq (by simpa[parts] using h2);subst this;simp[mkW,h1]at hy
      obtain⟨S1,K1,g1,G1,us,hsh,hls⟩:=Cla hE K hg hs hnt hgive (1000+i);obtain⟨mb,m1,m2,m3⟩:=Ji hst hls (Cma hnt (N6 hgive));have hyr:=Qp hall hy m1;have hul:=Ty.dep_len _ _ _ _ hyr;have hone:=J3 (Ho hst) hls
      have hle:i*r'.sz+r'.sz≤cs.length:=by
       rw[hcl];have:=Wa r'.sz (show i+1≤N by simp only[Vg]at hN;omega);rw[Yg,Yk]at this;exact this
      have hbl1:∀ k∈bz,∃ n q,1000≤n∧n<1000+i∧S1.O k = .tm n q:=λ k hk=>by
       obtain⟨n,q,h1,h2,h3⟩:=hbl k hk;exact⟨n,q,h1,h2,G1.tm n q k h3⟩
      have hz1:Bs (λ x c b=>r'.dep X.P (λ k=>S1.O k = .fz) S1.w x c b) zs (cs.take (i*r'.sz)) bz:=hz.mono (λ x c b _ h=>Ty.dep_mono (λ k hk=>(G1.later.fz k hk).1) (λ k _=>by rw[G1.w]) r' x c b (λ k _=>by rw[G1.w]) h)
      have hz2:Bs (λ x c b=>r'.dep X.P (λ k=>S1.O k = .fz) S1.w x c b) (zs++[y]) ((cs.take (i*r'.sz)++us++cs.drop (i*r'.sz+r'.sz)).take ((i+1)*r'.sz)) (bz++mb):=by
       have e1:(cs.take (i*r'.sz)++us++cs.drop (i*r'.sz+r'.sz)).take ((i+1)*r'.sz)=cs.take (i*r'.sz)++us:=by
        rw[Qaa (by rw[Vh,Vl,hul,Yg,Yk];omega)]
       rw[e1];exact hz1.append ⟨us,[],mb,[],by simp,by simp,hyr,rfl,rfl⟩
      have hbn2:(bz++mb).Nodup:=by
       rw[Yb];refine⟨hbn,m2,λ k hk k' hk' e=>?_⟩;subst e;obtain⟨n,q,_,h2,h3⟩:=hbl1 k hk;obtain⟨n',_,_,h4⟩:=m3 k hk';rw[h3]at h4;cases h4;omega
      have hbl2:∀ k∈bz++mb,∃ n q,1000≤n∧n<1000+(i+1)∧S1.O k = .tm n q:=λ k hk=>by
       rcases Vm.1 hk with hk|hk
       ·obtain⟨n,q,h1,h2,h3⟩:=hbl1 k hk;exact⟨n,q,h1,by omega,h3⟩
       ·obtain⟨n',_,_,h4⟩:=m3 k hk;exact⟨_,_,by omega,by omega,h4⟩
      obtain⟨S',cs',b2,K',g',w',l1,l2,l3,l4,l5,hf⟩:=Xm hE N hall ps K1 g1 hrec (by simp[hi]) hz2 hbn2 hbl2 (by
       simp only[Vh,Vl,Vx,hul];omega) (by simp only[Vg]at hN;omega)
      refine⟨S',cs',b2,K',by rw[Ae];exact g',w'.trans G1.w,by simp[l1],l2,?_,l4,?_,?_⟩
      ·rw[Vj,Ya]at l3;rw[Vg,show i+(ps.length+1)=i+1+ps.length by omega];exact l3
      ·rw[Vg,show i+(ps.length+1)=i+1+ps.length by omega];exact l5
      ·rw[Yc,Lc (us:=us) (off:=i*r'.sz) (z:=r'.sz) rfl (Fc hsh hnt hone) hul (by simpa using hle)];exact hf
     ·cases h
    ·cases h
   ·cases h
  ·cases h
def Qu (hE:Fo X E) (K:Ah X S a) (hg:S.g=get A) {T:TypeId} {n d:Nat} {ps:Array (Nat×Operand)} (ho:o.op = .buildSlice T n ps) (hod:o.dst=some d) (hd:d<X.nt) (h:Ai E o A Kc=some r):Er X o a S.w A Kc r:=by
 unfold Ai at h;rw[ho,hod]at h;simp only at h;split at h
 ·rename_i e r' by_ fo hT;obtain⟨hq,h⟩:=cs h;simp only[Va]at hq;have hn:n=ps.size:=Vb hq.1.1;have hle:n*r'.sz≤16777216:=Vd hq.1.2;obtain⟨te,hte⟩:=P2a.1 hq.2;have hTk:=hE.ti _ _ hT;have hek:=hE.ti _ _ hte
  have hu:X.P.underlying T=some (.slice e):=by
   have:=hTk.desc;unfold M0 at this
   split at this<;>simp_all
  have hszs:=hTk.sz;simp only[szB,Va,beq_iff_eq]at hszs;obtain⟨z,z1,z2,z3⟩:=La (w:=S.w) hek
  have hps:ps.toList.length=n:=by rw[hn];simp
  have fin:∀ {r2:Ty} {ys:List r2.den} {us:List Up},r2.sz=r'.sz→Kc (us++[⟨d,false,.one (.own e r2 ys)⟩])=some r→
    (∀ cs:List Value,cs.length=n*r2.sz→∃ (S1:Sit) (cs':List Value) (b2:List Nat),Ah X S1 a∧S1.g=get (ups A us)∧S1.w=S.w∧ys.length=n∧cs'.length=n*r2.sz∧Bs (λ x c b=>r2.dep X.P (λ k=>S1.O k = .fz) S1.w x c b) ys cs' b2∧
     b2.Nodup∧(∀ k∈b2,∃ q,S1.O k = .tm 0 q)∧Instr.fill (λ j=>some (j*r2.sz,r2.sz)) cs.toArray (ps.toList.map λ p=>(p.1,a.eval p.2))=some cs'.toArray)→Er X o a S.w A Kc r:=by
   intro r2 ys us hsz2 hk hrows;rw[← hsz2]at hle hszs
   have run:∀ zero:Array Value,((if n*r2.sz=0 then pure #[] else do pure (← zeroValue e).cells:Sem (Array Value)).run X.P S.w = .ok zero S.w)→Er X o a S.w A Kc r:=by
    intro zero hzero;obtain⟨S1,cs',b2,K1,g1,w1,l1,l2,l3,l4,l5,hf⟩:=hrows ((Array.range (n*r2.sz)).map (zero[· % zero.size]!)).toList (by simp)
    obtain⟨S',K',w',g'⟩:=N9 K1 g1 hd (w':=S1.w.alloc (.cells cs'.toArray e)) (row:=none) (e:=e) (r':=r2) (xs:=ys) (v := .slice (some ⟨S1.w.heap.size,0,none⟩) n n)
     (cs:=cs'.toArray.toList) (World.grownBy_alloc _ _ _) (by simp) hszs.1
     (by rw[l1];exact World.ownsRow_lit S1.w _ n (Wh _) (by
      have h1:=Iq r2;have h2:n*1≤n*r2.sz:=Nat.mul_le_mul_left _ h1
      simp only[maxLen];omega) (by simpa using l2))
     l3 l4 l5 (by
      intro k hk;refine⟨by simp,λ e1=>?_⟩;simp only[Value.ownBlock,Vc]at e1;obtain⟨q,hq⟩:=l5 k hk;have:=K1.lt k (by rw[hq];simp)
      omega) (by
      intro k hk;simp only[Value.ownBlock,Vc]at hk
      exact .inr (P4a hk))
    rw[← Ae]at g';refine⟨_,hk,Ac (S:=S') (v := .slice (some ⟨S1.w.heap.size,0,none⟩) n n) ?_ (by rw[hod];exact K') g'⟩;rw[w',w1];unfold execOp;simp only[ho,Vw];unfold Instr.buildSlice;simp only[Vw,run_underlying hu,Vv,G7 hszs.1];rw[if_neg (by omega)]
    have e2:(ps.map λ x=>(x.1,a.eval x.2)).toList=ps.toList.map λ p=>(p.1,a.eval p.2):=by simp
    simp only[Array.toArray_toList]at hf
    by_cases hz0:n*r2.sz=0
    ·rw[if_pos hz0]at hzero ⊢;simp only[Wl,Pla,and_true]at hzero;subst hzero;simp only[Vw,Wl,Vv,e2,hf];simp[newRow]
    ·rw[if_neg hz0]at hzero ⊢;simp only[Vw,Wl,z1,Vv,Pla,and_true]at hzero;subst hzero;simp only[Vw,Wl,z1,Vv,e2,hf];simp[newRow]
   by_cases hz:n*r2.sz=0
   ·exact run #[] (by rw[if_pos hz];rfl)
   ·exact run z.cells (by rw[if_neg hz];simp[z1])
  split at h
  ·obtain⟨hno,h⟩:=cs h;split at h
   ·rename_i ys us hrows;refine fin rfl h (λ cs hcs=>?_);obtain⟨S1,cs',K1,g1,w1,l1,l2,l3,hf⟩:=Xl hE n ps.toList (zs:=[]) (cs:=cs) K hg hrows rfl (by simp[Rows]) hcs (by simp[hn]);simp only[Wf,Wb]at l3;rw[hps]at l1 l3;rw[Zb (by omega)]at l3;exact⟨S1,cs',[],K1,g1,w1,l1,l2,(Bs.flat (λ x c b=>Ty.dep_flat r' x c b hno)).2 ⟨l3,rfl⟩,by simp,by simp,hf⟩
   ·cases h
  ·rename_i r2 _;obtain⟨hq2,h⟩:=cs h;simp only[Va,decide_eq_true_eq]at hq2
   have hsz2:r2.sz=r'.sz:=by rw[← Gl r2,hq2.1,Gl r']
   split at h
   ·rename_i ys us hrows;refine fin hsz2 h (λ cs hcs=>?_);obtain⟨S1,cs',b2,K1,g1,w1,l1,l2,l3,l4,l5,hf⟩:=Xm hE n hq2.2 ps.toList (zs:=[]) (bz:=[]) (cs:=cs) K hg hrows rfl (by simp[Bs]) (by simp) (by simp) hcs (by simp[hn]);simp only[Wf,Wb]at l3;rw[hps]at l1 l3;rw[Zb (by omega)]at l3
    obtain⟨K2,L2⟩:=K1.names (λ n _=>if 1000≤n then some (.tm 0 []) else none) (by intro n q;split<;>simp)
    refine⟨_,cs',b2,K2,g1,w1,l1,l2,l3.mono (λ x c b _ h=>Ty.dep_mono (λ k hk=>(L2.fz k hk).1) (λ _ _=>rfl) r2 x c b (λ _ _=>rfl) h),l4,λ k hk=>?_,hf⟩;obtain⟨m,q,m1,_,m2⟩:=l5 k hk;exact⟨[],F3 m2 (by simp[m1])⟩
   ·cases h
 ·cases h
end
end

section
attribute [local irreducible] C H
section
variable {X:Cx} {S S':Sit} {a:Act} {E:En} {A:Ab} {o:Oper} {R:Type} {Kc:List Up→Option R} {r:R}
def Jfa {P:Program} {w:World} {t ty e:TypeId} {i:TypeInfo} {z:Value} {size:Nat} (ht:P.underlying t=some (.slice e)) (hi:P.info? e=some i) (hz:i.zero=some z)
  (hsize:i.size=size) {v:Value} {n:Nat} {xs:List Value} (hown:w.ownsRow 0 e size v n xs)
  {ad:Addr} {m c:Nat} {P4:List Value} (hl:P4.length=m*size) (hnews:∀ j u,P4[j]? = some u→w.cell? (ad.add j)=some u) (h1:∀ u∈P4,u.oneCell'=true)
  (h63:n+m≤maxLen) (hbytes:(n+m)*i.bytes≤140737488355328) {v':Value} {w':World} (hr:(Builtin.append_ #[t,t] ty #[v,.slice (some ad) m c]).run P w = .ok v' w')
  (hnil:v' = .slice none 0 0↔v = .slice none 0 0∧m=0):∀ k,v'.ownBlock=some k→v.ownBlock=some k∨w.heap.size≤k:=by
 subst hsize
 have hsmall:n+m≤9223372036854775807:=by simp only[maxLen]at h63;omega
 intro k hk;rcases Cl hown with⟨rfl,hn,rfl⟩|⟨k0,cap,cur,rfl,hg,hc1,hc2,hc3,hc4⟩
 ·by_cases hm:m=0
  ·rw[hnil.2 ⟨rfl,hm⟩]at hk;simp[Value.ownBlock]at hk
  ·subst hn;have h2:=run_append_nil (P:=P) w t ty e i z ht hi hz ad m c P4 hl hnews (by omega) (by omega) (by have hb:=hbytes;simp only[Wb]at hb;omega);rw[h2]at hr;cases hr;simp only[Value.ownBlock,Vc]at hk;exact .inr (P4a hk)
 ·by_cases hroom:n+m≤cap
  ·have hfit:n*i.size+P4.length≤cur.size:=by rw[hl,hc3,← Yg];exact Wa _ hroom
   have h2:=run_append_room (P:=P) w t ty e i ht hi k0 n cap cur hg ad m c P4 hl hnews h1 hroom hfit;rw[h2]at hr;cases hr;exact .inl hk
  ·have holds:∀ j u,xs[j]? = some u→w.cell? ((⟨k0,0,none⟩:Addr).add j)=some u:=hown.cells (g:=k0) rfl;have h2:=run_append_grow (P:=P) w t ty e i z ht hi hz ⟨k0,0,none⟩ n cap xs hown.1 holds ad m c P4 hl hnews (by omega) (by omega) (growslice_fits (by omega) hbytes);rw[h2]at hr;cases hr;simp only[Value.ownBlock,Vc]at hk;exact .inr (P4a hk)
def Uo {P:Program} {w:World} {t u ty e:TypeId} {i:TypeInfo} (ht:P.underlying t=some (.slice e)) (hu:P.underlying u=some .string) (hi:P.info? e=some i) (hz:i.zero=some (.int .u8 0))
  (hsize:i.size=1) (hby:i.bytes=1) {v:Value} {n:Nat} {xs:List Value} (hown:w.ownsRow 0 e 1 v n xs) {s:ByteArray}
  (h63:n+s.size≤maxLen) (hbytes:n+s.size≤140737488355328) {v':Value} {w':World} (hr:(Builtin.append_ #[t,u] ty #[v,.string s]).run P w = .ok v' w')
  (hnil:v' = .slice none 0 0↔v = .slice none 0 0∧s.size=0):∀ k,v'.ownBlock=some k→v.ownBlock=some k∨w.heap.size≤k:=by
 have hsmall:n+s.size≤9223372036854775807:=by simp only[maxLen]at h63;omega
 intro k hk;rcases Cl hown with⟨rfl,hn,rfl⟩|⟨k0,cap,cur,rfl,hg,hc1,hc2,hc3,hc4⟩
 ·by_cases hm:s.size=0
  ·rw[hnil.2 ⟨rfl,hm⟩]at hk;simp[Value.ownBlock]at hk
  ·subst hn;have h2:=run_append_nil_string (P:=P) w t u ty e i _ ht hu hi hz s (by omega) (by omega) (by rw[hby];omega);rw[h2]at hr;cases hr;simp only[Value.ownBlock,Vc]at hk;exact .inr (P4a hk)
 ·by_cases hroom:n+s.size≤cap
  ·have h2:=Go.Lib.run_append_room_string (P:=P) w t u ty e i ht hu hi hsize k0 n cap cur hg s hroom (by rw[hc3];omega);rw[h2]at hr;cases hr;exact .inl hk
  ·have holds:∀ j u,xs[j]? = some u→w.cell? ((⟨k0,0,none⟩:Addr).add j)=some u:=hown.cells (g:=k0) rfl;have h2:=Go.Lib.run_append_grow_string (P:=P) w t u ty e i _ ht hu hi hz ⟨k0,0,none⟩ n cap xs (by rw[hsize];exact hown.1) holds s (by omega) (by omega) (growslice_fits (by omega) (by rw[hby];omega));rw[h2]at hr;cases hr;simp only[Value.ownBlock,Vc]at hk;exact .inr (P4a hk)
def H9 {P:Program} {w w':World} {T T':TypeId} {x y:Operand} {c:Call} (ho:o.op = .call c) (hc:c.callee = .builtin .append) (hT:c.argTypes.toList=[T,T']) (hx:c.args.toList=[x,y]) {v:Value}
  (hr:(Builtin.append_ #[T,T'] o.type #[a.eval x,a.eval y]).run P w = .ok v w'):(execOp a.eval o).run P w = .ok (.value v) w':=by
 have e1:c.args = #[x,y]:=by rw[← hx]
 have e2:c.argTypes = #[T,T']:=by rw[← hT]
 unfold execOp;simp[ho,resolve,hc,e1,e2,invoke,builtin,hr]
def Xn (hE:Fo X E) (K:Ah X S a) (hg:S.g=get A) {T:TypeId} {x:Operand} {u:Lf} {e:TypeId} {r':Ty} {xs:List r'.den} (hs:opT E T A x=some (.one u)) (hu:G5 A u = .own e r' xs):
  ∃ S1,Ah X S1 a∧S1.g=get (ups A (Pf u x))∧S1.w=S.w∧Ci S S1∧Ch X.P S1.O S1.w (.tm 0 []) e r' xs (a.eval x)∧(∀ n q z v,Af X.P S (.tm n q) z v→Af X.P S1 (.tm n q) z v)∧S1.bb=S.bb∧S1.ph=S.ph∧(∀ b n,(S.g (H b)).2 = .one (.hd n)→S1.g (H b)=S.g (H b)):=by
 obtain⟨l,hl⟩:=Ed hE K hg hs;have hlf:Af X.P S (.pl l []) u (a.eval x):=hl
 by_cases hal:∃ p v,u = .al p v
 ·obtain⟨p,v,rfl⟩:=hal;obtain⟨p',v',e1,hp⟩:=Jf hu (by intro e r xs h;cases h);cases e1;obtain⟨K1,g1,g2⟩:=Hh K p 0;have he:a.eval x=S.ph p:=hlf.2 (by rw[hg,hp]);refine⟨_,K1,?_,rfl,Gn S p 0,?_,g2,rfl,rfl,λ b n hn=>Aa _ _ (λ e1=>by rw[e1,hg,hp]at hn;cases hn)⟩
  ·show upd S.g p _=_;rw[show Pf (.al p v) x=[⟨p,false,.one .dead⟩] from rfl,A7,← hg]
  ·have:=K.at_ p;rw[hg,hp]at this;rw[he];exact g1 [] (.own e r' xs) _ this
 ·have hne:∀ p v,u = .al p v→False:=λ p v h=>hal ⟨p,v,h⟩;have hu':=Xb hu hne;subst hu';rcases H0 hE K hg hs with⟨t,rfl,ht,hst,het,hok⟩|⟨hnt,y',ey,hy'⟩
  ·obtain⟨K1,g1,g2⟩:=Hh K t 0;refine⟨_,K1,?_,rfl,Gn S t 0,g1 [] (.own e r' xs) _ hok,g2,rfl,rfl,λ b n hn=>Aa _ _ (λ e1=>by rw[e1,← hst]at hn;cases hn)⟩;show upd S.g t _=_;rw[show Pf (.own e r' xs) (.tmp t)=[⟨t,false,.one .dead⟩] from rfl,A7,← hg]
  ·cases ey;refine⟨S,K,?_,rfl,.refl S,hy' (.tm 0 []),λ _ _ _ _ h=>h,rfl,rfl,λ _ _ _=>rfl⟩
   cases x<;>first|exact hg|exact absurd rfl (hnt _)
def I4a {lab:Lab} {e':TypeId} {r':Ty} {ys:List r'.den} {u:Value} (h:Af X.P S lab (.fz e' r' ys) u):
  ∃ ad cap cs,u = .slice ad ys.length cap∧Rows (λ x c=>r'.rep X.P (λ k=>S.O k = .fz) S.w x c) ys cs∧(ys≠[]→∃ k o,ad=some ⟨k,o,none⟩∧C8 S.w k o cs):=by
 obtain⟨v,e1,_,ad,cap,cs,e2,_,hrows,hne⟩:=h;cases e1;refine⟨ad,cap,cs,e2,hrows,λ hn=>?_⟩;obtain⟨k,o',e3,_,e4⟩:=hne hn;exact⟨k,o',e3,e4⟩
def Cva {lab:Lab} {e':TypeId} {r':Ty} {ys:List r'.den} {u:Value} (hno:Gd r'=true) (h:Ch X.P S.O S.w lab e' r' ys u):
  ∃ ad cap cs,u = .slice ad ys.length cap∧Rows (λ x c=>r'.rep X.P (λ k=>S.O k = .fz) S.w x c) ys cs∧(ys≠[]→∃ k o,ad=some ⟨k,o,none⟩∧C8 S.w k o cs):=by
 obtain⟨_,cs,hrow,hrows,_⟩:=(Ch.flat hno).1 h;rcases Cl hrow with⟨e1,e2,rfl⟩|⟨k,cap,cur,e1,hc,_,_,_,ht⟩
 ·refine⟨none,0,[],by rw[e1,e2],hrows,λ hn=>absurd (Wq e2) hn⟩
 ·exact⟨_,cap,cs,e1,hrows,λ _=>⟨k,0,rfl,F8 hc ht⟩⟩
def I5a {p v:Nat} {pi:Option (List (Int×Nat))} {e':TypeId} {r':Ty} {ys:List r'.den} {u:Value} (hno:Gd r'=true) (hv:(S.g p).1=v) (h:Bka X.P S p v pi e' r' ys u):
  ∃ ad cap cs,u = .slice ad ys.length cap∧Rows (λ x c=>r'.rep X.P (λ k=>S.O k = .fz) S.w x c) ys cs∧(ys≠[]→∃ k o,ad=some ⟨k,o,none⟩∧C8 S.w k o cs):=by
 obtain⟨_,_,h2⟩:=h;obtain⟨_,⟨_,ad,cap,cs,bs,e1,_,hrows,_,hne⟩,_⟩:=h2 hv;refine⟨ad,cap,cs,e1,((Bs.flat (λ x c b=>Ty.dep_flat r' x c b hno)).1 hrows).1,λ hn=>?_⟩;obtain⟨k,o',e3,_,e4⟩:=hne hn;exact⟨k,o',e3,e4⟩
def Loa (K:Ah X S a) (hg:S.g=get A) {lab:Lab} {x:Lf} {e':TypeId} {r':Ty} {ys:List r'.den} {u:Value} (h:Af X.P S lab x u) (hs:U7 A x=some ⟨e',r',ys⟩):
  ∃ ad cap cs,u = .slice ad ys.length cap∧Rows (λ x c=>r'.rep X.P (λ k=>S.O k = .fz) S.w x c) ys cs∧(ys≠[]→∃ k o,ad=some ⟨k,o,none⟩∧C8 S.w k o cs):=by
 unfold U7 at hs;split at hs
 ·rename_i p v pi e r xs;cases hq:(Nat.beq (get A p).1 v&&Gd r)
  ·rw[hq]at hs;simp at hs
  rw[hq]at hs;simp only[cond_true,Vc,Sl.mk.injEq]at hs;obtain⟨rfl,rfl,h3⟩:=hs;cases h3;simp only[Va]at hq;exact I5a hq.2 (by rw[hg];exact Vb hq.1) h
 ·obtain⟨lab',h'⟩:=Kd K hg h;split at hs
  ·rename_i e r xs hsn;rw[hsn]at h';simp only[Vc,Sl.mk.injEq]at hs;obtain⟨rfl,rfl,h3⟩:=hs;cases h3;exact I4a h'
  ·rename_i e r xs hsn;rw[hsn]at h';cases hq:Gd r
   ·rw[hq]at hs;simp at hs
   rw[hq]at hs;simp only[cond_true,Vc,Sl.mk.injEq]at hs;obtain⟨rfl,rfl,h3⟩:=hs;cases h3;exact Cva hq h'
  ·cases hs
def Xo {P:Program} {T:TypeId} {t:TI} (w:World) (h:TOk P T t):∃ i z,P.info? T=some i∧i.zero=some z∧i.size=t.ty.sz∧i.bytes=t.by_∧z.cells=(Cr t.ty).toArray∧(t.ag=false→Cr t.ty=[z]):=by
 obtain⟨i,i1,i2,i3,i4,i5⟩:=h.info;obtain⟨z,z1,z2,z3⟩:=La (w:=w) h
 have iz:i.zero=some z:=by
  simp only[zeroValue,typeInfo,Vw,run_program,Vv,i1,Wl]at z1;rw[i4]at z1 ⊢;simp only[Wl,Pla,and_true]at z1;rw[z1]
 exact⟨i,z,i1,iz,i2,i3,z2,λ ha=>by rw[ha]at z3;simpa using z3⟩
def M6 {P:Program} {G:Nat→Prop} {w:World}:∀ l:List UInt8,Rows (λ x c=>Ty.rep P G w (.i .u8) x c) (l.map λ b=>(b.toNat:Int)) (l.map λ b=>Value.int .u8 b.toNat)
 |[]=>rfl
 |b::l=>⟨[_],_,rfl,rfl,M6 l⟩
def Cwa {P:Program} {w:World} {T ty e:TypeId} {te:TI} {sz:Nat} (hu:P.underlying T=some (.slice e)) (hek:TOk P e te) (hsz:Nn P e sz) {v u:Value} {n m cap:Nat} {cs ds:List Value} {ad:Option Addr} (hrow:w.ownsRow 0 e sz v n cs) (ev:u = .slice ad m cap)
  (hdl:ds.length=m*sz) (hdone:∀ u∈ds,u.oneCell'=true) (hne:m≠0→∃ k o,ad=some ⟨k,o,none⟩∧C8 w k o ds) (hle:(n+m)*te.by_≤140737488355328) (hpos:0<sz):
  ∃ v' w',(Builtin.append_ #[T,T] ty #[v,u]).run P w = .ok v' w'∧w'.ownsRow 0 e sz v' (n+m) (cs++ds)∧w.grownBy w' v.ownBlock∧∀ k,v'.ownBlock=some k→v.ownBlock=some k∨w.heap.size≤k:=by
 obtain⟨i,z,i1,iz,i2,i3,z2,_⟩:=Xo w hek
 have hsize:i.size=sz:=by
  have:=hsz;unfold Nn at this;rw[i1]at this
  simpa using this
 have h63:n+m≤maxLen:=by
  have h1:=hek.by0;have h2:(n+m)*1≤(n+m)*te.by_:=Nat.mul_le_mul_left _ h1;simp only[maxLen];omega
 subst ev
 cases ad with
 |none=>
  have hm0:m=0:=by
   by_cases hm:m=0
   ·exact hm
   ·obtain⟨k,o',e1,_⟩:=hne hm;cases e1
  subst hm0;have hd0:ds=[]:=Wq (by simpa using hdl);subst hd0
  have hcap:(Builtin.append_ #[T,T] ty #[v,.slice none 0 cap]).run P w = .ok v w:=by
   rcases Cl hrow with⟨e1,_⟩|⟨k,cap',cur,e1,_,hle',_⟩
   ·rw[e1];simp[Builtin.append_,run_underlying hu,sizeOf,typeInfo,i1,Builtin.lenOf,Builtin.firstCells]
   ·rw[e1];simp[Builtin.append_,run_underlying hu,sizeOf,typeInfo,i1,Builtin.lenOf,Builtin.firstCells,hle',storeCells]
  refine⟨_,_,hcap,by simpa using hrow,⟨rfl,rfl,rfl,Vo _,λ _ _ _=>rfl⟩,λ k hk => .inl hk⟩
 |some ad=>
  have hnews:∀ j u,ds[j]? = some u→w.cell? (ad.add j)=some u:=by
   intro j u hj
   have hm:m≠0:=by
    intro e1;subst e1;have:ds=[]:=Wq (by simpa using hdl);subst this;simp at hj
   obtain⟨k,o',e1,e2⟩:=hne hm;cases e1;rw[Gv];exact e2 j u hj
  obtain⟨v',w',hr,ho',hgr,hnil⟩:=run_append_own (P:=P) w 0 T ty e i z sz te.by_ hu i1 iz hsize i3 (by rw[z2,Oqa,Hv,← i2,hsize]) hpos v n cs hrow ad m cap ds hdl hnews hdone h63 hle (Wh _);exact⟨v',w',hr,ho',hgr,Jfa hu i1 iz hsize hrow hdl hnews hdone h63 (by rw[i3];exact hle) hr hnil⟩
def Jga {P:Program} {G:Nat→Prop} {w:World} (t:Ty) (x:t.den) (c:List Value) (b:List Nat) (h:t.dep P G w x c b):∀ u∈c,u.oneCell'=true:=
 Qr (G:=λ k=>G k∨k∈b) t x c (Ty.dep_rep (λ _ h => .inl h) t x c b (λ _ h => .inr h) h)
def N4a (P:Program) (S:Sit) (r2:Ty) (ys:List r2.den) (v:Value):Prop:=
 ∃ ad cap cy b2,v = .slice ad ys.length cap∧Bs (λ x c b=>r2.dep P (λ k=>S.O k = .fz) S.w x c b) ys cy b2∧b2.Nodup∧(∀ k∈b2,S.O k = .tm 0 [])∧(ys.length≠0→∃ k o,ad=some ⟨k,o,none⟩∧C8 S.w k o cy)
def Gfa {r2:Ty} {e:TypeId} {ys:List r2.den} {v:Value} (h:Ch X.P S.O S.w (.tm 0 []) e r2 ys v):N4a X.P S r2 ys v:=by
 obtain⟨by_,⟨vy,cy,b2,ey,hszy,hrowy,hrowsy,eby⟩,hny,hby⟩:=h;simp only[Wp,and_true]at ey;subst ey eby;rw[Yb]at hny;rcases Cl hrowy with⟨e1,e2,_⟩|⟨k,cap,cur,e1,hc,_,_,_,ht⟩
 ·exact⟨none,0,cy,b2,by rw[e1,e2],hrowsy,hny.2.1,λ k hk=>hby k (Vi _ hk),λ h=>absurd e2 h⟩
 ·exact⟨_,cap,cy,b2,e1,hrowsy,hny.2.1,λ k hk=>hby k (Vi _ hk),λ _=>⟨k,0,rfl,F8 hc ht⟩⟩
def Gga {r' r2:Ty} {e:TypeId} {ys:List r'.den} {ys2:List r2.den} {v:Value} (hc:Js r2 r' ys=some ys2) (h:Pa X.P S.O S.w (.tm 0 []) e r' ys 0 v):N4a X.P S r2 ys2 v:=by
 obtain⟨_,ad,cap,cs,bs,⟨e1,_⟩,e2,e3,e4,e5,e6⟩:=h;rw[Wj,Zh,Wj]at e3;unfold Js at hc;split at hc
 ·rename_i hr;subst hr;cases hc
  exact⟨ad,cap,cs,bs,e1,e3,e4,e5,λ hn=>by
   obtain⟨k,o',g1,_,g2⟩:=e6 hn
   exact⟨k,o',g1,g2⟩⟩
 ·split at hc
  ·cases ys with
   |cons=>cases hc
   |nil=>
    cases hc;exact⟨ad,cap,[],[],e1,⟨rfl,rfl⟩,by simp,by simp,λ hn=>absurd rfl hn⟩
  ·cases hc
def Gha (hE:Fo X E) (K:Ah X S a) (hg:S.g=get A) {T:TypeId} {x:Operand} {u:Lf} {e:TypeId} {r':Ty} {xs:List r'.den} {m:Nat} (hs:opT E T A x=some (.one u)) (hu:G5 A u = .par e r' xs m):
  ∃ S1,Ah X S1 a∧S1.g=get (ups A (Pf u x))∧S1.w=S.w∧Pa X.P S1.O S1.w (.tm 0 []) e r' xs m (a.eval x)∧(∀ n q z v,Af X.P S (.tm n q) z v→Af X.P S1 (.tm n q) z v):=by
 have hne:u = .par e r' xs m:=by
  cases u<;>first|exact hu|(simp only[G5]at hu;cases hu;done)|skip
  simp only[G5]at hu;split at hu
  ·rename_i n v _ _ _ _
   revert hu
   generalize Nat.beq _ _=bb
   cases bb<;>intro hu<;>cases hu
  ·revert hu
   generalize Nat.beq _ _=bb
   cases bb<;>intro hu<;>cases hu
  ·cases hu
 subst hne;rcases H0 hE K hg hs with⟨t,rfl,ht,hst,het,hok⟩|⟨hnt,y',ey,hy'⟩
 ·obtain⟨K1,g1,g2⟩:=Hh K t 0;refine⟨_,K1,?_,rfl,g1 [] (.par e r' xs m) _ hok,g2⟩;show upd S.g t _=_;rw[show Pf (.par e r' xs m) (.tmp t)=[⟨t,false,.one .dead⟩] from rfl,A7,← hg]
 ·cases ey;refine⟨S,K,?_,rfl,hy' (.tm 0 []),λ _ _ _ _ h=>h⟩
  cases x<;>first|exact hg|exact absurd rfl (hnt _)
def Xp {S1:Sit} (hE:Fo X E) {A1:Ab} {U2:List Up} {c:Call} (ho:o.op = .call c) (hc:c.callee = .builtin .append) {T:TypeId} {x y:Operand} (hT:c.argTypes.toList=[T,T]) (hx:c.args.toList=[x,y]) {d:Nat} (hod:o.dst=some d) (hdl:d<X.nt) {e:TypeId} {r' r2:Ty} {xs:List r'.den} {xs2 ys2:List r2.den} {te:TI}
  (K1:Ah X S1 a) (g1:S1.g=get A1) (hown:Ch X.P S1.O S1.w (.tm 0 []) e r' xs (a.eval x)) (hcx:Js r2 r' xs=some xs2) (hte:E.ti e=some te) (q2:Jt E T e=true) (hle:(xs2.length+ys2.length)*te.by_≤140737488355328)
  (hsrc0:∀ S2,Ah X S2 a→S2.g=get A1→∃ S3,Ah X S3 a∧S3.g=get (ups A1 U2)∧S3.w=S2.w∧(∀ n q z v,Af X.P S2 (.tm n q) z v→Af X.P S3 (.tm n q) z v)∧N4a X.P S3 r2 ys2 (a.eval y)):C7a X o a S1.w (ups (ups A1 U2) [⟨d,false,.one (.own e r2 (xs2++ys2))⟩]):=by
 obtain⟨K2,L2⟩:=K1.names (λ n _=>if n=0 then some (.tm 1 []) else none) (by intro n q;split<;>simp)
 have hown2:Af X.P { S1 with O:=atO S1.O (λ n _=>if n=0 then some (.tm 1 []) else none) } (.tm 1 []) (.own e r' xs) (a.eval x):=
  Af.later (P:=X.P) (x := .own e r' xs) (lab := .tm 0 []) (lab' := .tm 1 []) L2 hown (λ k hk=>⟨F3 hk (by simp),rfl⟩)
 obtain⟨S3,K3,g3,w3,tms3,ad,cap,cy,b2,ev,hrowsy,hny,hby,hne⟩:=hsrc0 _ K2 (by show S1.g=_;exact g1);have hown3:Ch X.P S3.O S3.w (.tm 1 []) e r' xs (a.eval x):=tms3 1 [] (.own e r' xs) _ hown2;have hown4:=hown3.cast hcx;obtain⟨bx,⟨vx,cx,b1,ex,hszx,hrowx,hrowsx,ebx⟩,hnx,hbx⟩:=hown4;simp only[Wp,and_true]at ex;subst ex ebx;have hu:=Fb q2 hE.ti;have hek:=hE.ti _ _ hte;have hdone:∀ u∈cy,u.oneCell'=true:=(hrowsy.rows (R':=λ _ c=>∀ u∈c,u.oneCell'=true) (λ x c b _ h=>Jga r2 x c b h)).all (λ _ _ h=>h);obtain⟨v',w',hr,ho',hgr,hnew⟩:=Cwa (ty:=o.type) hu hek hszx hrowx ev (hrowsy.len (Ty.dep_len r2)) hdone hne hle (Iq r2);rw[← Vh]at ho'
 obtain⟨K4,L4⟩:=K3.names (λ n _=>if n=1 then some (.tm 0 [1]) else none) (by intro n q;split<;>simp)
 have h1:∀ k∈(a.eval x).ownBlock.toList++b1,atO S3.O (λ n _=>if n=1 then some (.tm 0 [1]) else none) k = .tm 0 [1]:=λ k hk=>F3 (hbx k hk) (by simp);have h0:∀ k∈b2,atO S3.O (λ n _=>if n=1 then some (.tm 0 [1]) else none) k = .tm 0 []:=λ k hk=>H1 (hby k hk) (by simp)
 have hvx:∀ k,(a.eval x).ownBlock=some k→k∈(a.eval x).ownBlock.toList++b1:=λ k hk=>by rw[hk];simp
 rw[Yb]at hnx
 have hnb:(b1++b2).Nodup:=by
  rw[Yb];refine⟨hnx.2.1,hny,λ k hk k' hk' e9=>?_⟩;subst e9;have e5:=h1 k (Vi _ hk);rw[h0 k hk']at e5;cases e5
 obtain⟨S',K',ew,g'⟩:=N9 K4 (A1:=ups A1 U2) (by show S3.g=_;exact g3) hdl (w':=w') (row:=(a.eval x).ownBlock) (e:=e) (r':=r2) (xs:=xs2++ys2) (v:=v') (cs:=cx++cy) (b2:=b1++b2) hgr
  (λ k hk=>⟨0,[1],h1 k (hvx k hk)⟩) hszx ho' ((hrowsx.append hrowsy).mono (λ x c b _ h=>Ty.dep_mono (λ k hk=>(L4.fz k hk).1) (λ _ _=>rfl) r2 x c b (λ _ _=>rfl) h)) hnb
  (λ k hk=>by
   rcases Vm.1 hk with hk|hk
   ·exact⟨_,h1 k (Vi _ hk)⟩
   ·exact⟨_,h0 k hk⟩)
  (λ k hk=>by
   have hnr:(a.eval x).ownBlock≠some k:=λ e9=>by
    rcases Vm.1 hk with hk|hk
    ·exact hnx.2.2 k (by rw[e9];simp) k hk rfl
    ·have e5:=h1 k (hvx k e9);rw[h0 k hk]at e5;cases e5
   refine⟨hnr,λ e9=>?_⟩;rcases hnew k e9 with h9|h9
   ·exact hnr h9
   ·have hlt:k<S3.w.heap.size:=K4.lt k (by
     rcases Vm.1 hk with hk|hk
     ·show atO S3.O _ k≠_;rw[h1 k (Vi _ hk)];simp
     ·show atO S3.O _ k≠_
      rw[h0 k hk];simp)
    omega) hnew
 have hw3:S3.w=S1.w:=w3;exact Ac (S:=S') (v:=v') (by rw[ew,← hw3];exact H9 ho hc hT hx hr) (by rw[hod];exact K') g'
def Cxa (hE:Fo X E) (K:Ah X S a) (hg:S.g=get A) {c:Call} (ho:o.op = .call c) (hc:c.callee = .builtin .append) (hd:∀ d,o.dst=some d→d<X.nt) (h:Ai E o A Kc=some r):Er X o a S.w A Kc r:=by
 unfold Ai at h;rw[ho]at h;simp only[hc]at h;split at h
 ·rename_i T T' x y d hT hx hod;have hdl:=hd d hod;split at h
  ·rename_i u w hsu hsw;split at h
   ·rename_i e r' xs hsu';obtain⟨S1,K1,g1,w1,L1,hown,tms,_⟩:=Xn hE K hg hsu hsu';split at h
    ·-- all that is in it is K8
     rename_i r2 _;split at h
     ·rename_i w2 hsw2;split at h
      ·rename_i e' r3 ys xs2 te hsn hcx hte;split at h
       ·rename_i ys2 hcy;rw[csi]at h;obtain⟨hq,h⟩:=h;rw[csi]at h;obtain⟨hq2,h⟩:=h;simp only[Va]at hq;obtain⟨⟨⟨q0,q1⟩,q2⟩,q3⟩:=hq;have he:e=e':=Vb q1;have hTT:T=T':=Vb q3;subst he;have hle:(xs2.length+ys2.length)*te.by_≤140737488355328:=Vd hq2
        have hg':=Xp (o:=o) hE (U2:=Pf w2 y) ho hc (by rw[hT,← hTT]) hx hod hdl K1 g1 hown hcx hte q2 hle (λ S2 K2 g2=>by
         obtain⟨S3,K3,g3,w3,_,hsrc,tms3,_⟩:=Xn hE K2 g2 hsw2 hsn
         exact⟨S3,K3,g3,w3,tms3,Gfa (hsrc.cast hcy)⟩)
        rw[← Ae,← Ae,w1]at hg';exact⟨_,h,hg'⟩
       ·cases h
      ·-- a part of a list
       rename_i e' r3 ys m xs2 te hsn hcx hte;split at h
       ·rename_i ys2 hcy;rw[csi]at h;obtain⟨hq,h⟩:=h;rw[csi]at h;obtain⟨hq2,h⟩:=h;simp only[Va]at hq;obtain⟨hm0,⟨⟨q0,q1⟩,q2⟩,q3⟩:=hq;have he:e=e':=Vb q1;have hTT:T=T':=Vb q3;have hm:m=0:=Vb hm0;subst he hm;have hle:(xs2.length+ys2.length)*te.by_≤140737488355328:=Vd hq2
        have hg':=Xp (o:=o) hE (U2:=Pf w2 y) ho hc (by rw[hT,← hTT]) hx hod hdl K1 g1 hown hcx hte q2 hle (λ S2 K2 g2=>by
         obtain⟨S3,K3,g3,w3,hsrc,tms3⟩:=Gha hE K2 g2 hsw2 hsn
         exact⟨S3,K3,g3,w3,tms3,Gga hcy hsrc⟩)
        rw[← Ae,← Ae,w1]at hg';exact⟨_,h,hg'⟩
       ·cases h
      ·cases h
     ·cases h
    ·cases hno:Gd r' with
     |false=>rw[hno]at h;simp at h
     |true=>
     rw[hno,cond_true]at h;obtain⟨hsz,cs,hrow,hrows,hlab⟩:=(Ch.flat hno).1 hown;obtain⟨lw,hlw⟩:=Ed hE K hg hsw;have hlw':Af X.P S (.pl lw []) w (a.eval y):=hlw;split at h
     ·rename_i e' r'' ys hasl;split at h
      ·rename_i ys' te hcast hte;rw[csi]at h;obtain⟨hq,h⟩:=h;rw[csi]at h;obtain⟨hq2,h⟩:=h;simp only[Va]at hq;obtain⟨⟨q1,q2⟩,q3⟩:=hq;have he:e=e':=Vb q1;have hTT:T=T':=Vb q3;subst he hTT;have hle:(xs.length+ys'.length)*te.by_≤140737488355328:=Vd hq2;have hu:=Fb q2 hE.ti;have hek:=hE.ti _ _ hte;obtain⟨ad,cap,ds,ev,hdrows0,hne0⟩:=Loa K hg hlw' hasl;obtain⟨hdrows,hylen⟩:=Pj hcast hdrows0;have hdl2:=hdrows.len (Ty.rep_len r');have hdone:∀ u∈ds,u.oneCell'=true:=hdrows.all (Qr r');have hdrows1:Rows (λ x c=>r'.rep X.P (λ k=>S1.O k = .fz) S1.w x c) ys' ds:=hdrows.mono (λ x c=>Ty.rep_mono (λ k hk=>(L1.fz k hk).1) (λ k hk=>(L1.fz k hk).2) r' x c)
       obtain⟨v',w',hr,ho',hgr,hnew⟩:=Cwa (ty:=o.type) (w:=S1.w) (u:=a.eval y) (ad:=ad) (cap:=cap) hu hek hsz hrow (by rw[ev,hylen]) hdl2 hdone (λ hm=>by
        obtain⟨k,o',e1,e2⟩:=hne0 (λ e3=>hm (by rw[hylen,e3,Vs]))
        exact⟨k,o',e1,by rw[w1];exact e2⟩) hle (Iq r')
       rw[← Vh]at ho';obtain⟨S',K',ew,g'⟩:=Cta K1 g1 hdl hno hgr (λ k hk=>⟨0,[],hlab k hk⟩) hsz ho' (hrows.append hdrows1) hnew;rw[← Ae]at g';exact⟨_,h,Ac (S:=S') (v:=v') (by rw[ew,← w1];exact H9 ho hc hT hx hr) (by rw[hod];exact K') g'⟩
      ·cases h
     ·split at h
      ·rename_i s _;split at h
       ·rename_i ys fo hcast hte;rw[csi]at h;obtain⟨hq,h⟩:=h;simp only[Va]at hq;obtain⟨⟨q2,q3⟩,q4⟩:=hq;have hle:(xs.length+s.size)*1≤140737488355328:=Vd q4;rw[Nat.mul_one]at hle;have hu:=Fb q2 hE.ti;have hus:=N4 q3 hE.ti;have hek:=hE.ti _ _ hte;have ev:a.eval y = .string s:=hlw'.1;obtain⟨i,z,i1,iz,i2,i3,_,z3⟩:=Xo S.w hek
        have hz:z = .int .u8 0:=by
         have:=z3 rfl;simp only[Cr,Wp,and_true]at this;exact this.symm
        subst hz
        have h63:xs.length+s.size≤maxLen:=by simp only[maxLen];omega
        have hsz1:r'.sz=1:=by
         have:=hsz;unfold Nn at this;rw[i1]at this;simp only[Q6a,Vc]at this;rw[← this];exact i2
        rw[hsz1]at hrow;obtain⟨v',w',hr,ho',hgr,hnil⟩:=Go.Lib.run_append_own_string (P:=X.P) S1.w 0 T T' o.type e i hu hus i1 iz i2 i3 (a.eval x) xs.length cs hrow s h63 hle (Wh _)
        have hbl:(bytesOf s).length=s.size:=by simp[bytesOf]
        have hnew:=Uo hu hus i1 iz i2 i3 hrow h63 hle hr hnil;obtain⟨hrows2,hl2⟩:=Pj (P:=X.P) (G:=λ k=>S1.O k = .fz) (w:=S1.w) hcast (M6 s.data.toList)
        have hlen2:xs.length+s.size=(xs++ys).length:=by rw[Vh,hl2,hbl]
        rw[hlen2,← hsz1]at ho';obtain⟨S',K',ew,g'⟩:=Cta K1 g1 hdl hno hgr (λ k hk=>⟨0,[],hlab k hk⟩) hsz ho' (hrows.append hrows2) hnew;rw[← Ae]at g';exact⟨_,h,Ac (S:=S') (v:=v') (by rw[ew,← w1];exact H9 ho hc hT hx (by rw[ev];exact hr)) (by rw[hod];exact K') g'⟩
       ·cases h
      ·cases h
   ·cases h
  ·cases h
 ·cases h
def Gc {P:Program} {w w':World} {T T':TypeId} {x:Operand} {u v:Value} (ho:o.op = .convert T T' x) (he:a.eval x=u) (hr:(convert T T' u).run P w = .ok v w'):(execOp a.eval o).run P w = .ok (.value v) w':=by
 unfold execOp;simp[ho,he,hr]
def Xq {P:Program} {T:TypeId} {k:IntKind} {by_:Nat} {fo:List (Nat×Nat×Bool)} (h:TOk P T ⟨.i k,false,by_,fo⟩):P.underlying T=some (.int k):=by
 have:=h.desc;unfold M0 at this
 split at this<;>simp_all
def Hz {P:Program} {T:TypeId} {by_:Nat} {fo:List (Nat×Nat×Bool)} (h:TOk P T ⟨.s,false,by_,fo⟩):P.underlying T=some .string:=by
 have:=h.desc;unfold M0 at this
 split at this<;>simp_all
def I0 {P:Program} {T e:TypeId} {by_:Nat} {fo:List (Nat×Nat×Bool)} (h:TOk P T ⟨.sl e (.i .u8),false,by_,fo⟩):P.underlying T=some (.slice e)∧P.underlying e=some (.int .u8):=by
 have hu:P.underlying T=some (.slice e):=by
  have:=h.desc;unfold M0 at this
  split at this<;>simp_all
 refine⟨hu,?_⟩;have:=h.desc;rw[hu]at this;simp only[M0,Lfa,Va]at this;obtain⟨_,h2⟩:=this;split at h2
 ·rename_i k' hk;simp at h2;rw[hk,← h2]
 ·cases h2
def Ld {P:Program} {G:Nat→Prop} {w:World}:∀ (xs:List Int) (cs:List Value),Rows (λ x c=>Ty.rep P G w (.i .u8) x c) xs cs→cs=xs.map (Value.int .u8)
 |[],_,h=>h
 |x::xs,_,⟨c,d,e,h1,h2⟩=>by
  have h1':c=[.int .u8 x]:=h1;rw[e,h1',Ld xs d h2];rfl
def Ie {P:Program} {w:World} {T T' e:TypeId} {xs:List Int} {ad:Option Addr} {cap:Nat} {cs:List Value} (hT:P.underlying T=some (.slice e)) (he:P.underlying e=some (.int .u8)) (hT':P.underlying T'=some .string)
  (hcs:cs=xs.map (Value.int .u8)) (hne:xs≠[]→∃ k o,ad=some ⟨k,o,none⟩∧C8 w k o cs):(convert T T' (.slice ad xs.length cap)).run P w = .ok (.string (Ft xs)) w:=by
 rw[run_convert_bytes_string w T T' e ad xs.length cap hT he hT']
 cases ad with
 |none=>
  have:xs=[]:=by
   by_cases hx:xs=[]
   ·exact hx
   ·obtain⟨k,o',e1,_⟩:=hne hx;cases e1
  subst this;simp[Conv.bytesToString,Ft];rfl
 |some ad=>
  have hl:(loadCells ad xs.length).run P w = .ok (xs.map (Value.int .u8)).toArray w:=by
   by_cases hx:xs=[]
   ·subst hx;rfl
   ·obtain⟨k,o',e1,e2⟩:=hne hx;cases e1;have:=run_loadCells_list (P:=P) w ⟨k,o',none⟩ cs (λ j v hj=>by rw[Gv];exact e2 j v hj);rw[hcs]at this
    simpa using this
  rw[run_bytesToString w _ xs.length cap xs hl,foldl_push_bytes];simp[Ft,ByteArray.empty,ByteArray.emptyWithCapacity];rfl
def Jha (K:Ah X S a) (hg:S.g=get A) {lab:Lab} {y:Lf} {u:Value} (h:Af X.P S lab y u):
  (∃ lab',Af X.P S lab' (Qb A y) u)∨∃ p v pi e r,∃ xs:List (Ty.den r),y = .da p v pi e r xs∧(S.g p).1=v∧Qb A y = .fz e r xs:=by
 unfold Qb;split
 ·rename_i p v pi e r xs
  cases hq:Nat.beq (get A p).1 v with
  |false=>exact .inl ⟨lab,trivial⟩
  |true=>exact .inr ⟨p,v,pi,e,r,xs,rfl,by rw[hg];exact Vb hq,rfl⟩
 ·exact .inl (Kd K hg h)
def Cya (hE:Fo X E) (K:Ah X S a) (hg:S.g=get A) {T T':TypeId} {x:Operand} {d:Nat} {U:List Up} (ho:o.op = .convert T T' x) (hod:o.dst=some d) (hd:d<X.nt) (hi:Mo E A T T' x d=some U) (h:Kc U=some r):Er X o a S.w A Kc r:=by
 unfold Mo at hi;split at hi
 ·rename_i t;split at hi
  ·rename_i e xs e' by0 fo hs hT;cases hb:Nat.beq T T'&&(Nat.beq e e'&&Nat.blt 0 xs.length)
   ·rw[hb]at hi;cases hi
   rw[hb,cond_true]at hi;cases hi;rw[Va,Va]at hb;obtain⟨b1,b2,b3⟩:=hb;have hTT:T=T':=Vb b1;have hee:e=e':=Vb b2;have hpos:0<xs.length:=Vd b3;subst hTT;subst hee;rcases H0 hE K hg hs with⟨t',ht',htl,hst,he,_⟩|⟨hnt,_⟩
   ·cases ht'
    have hown:Ch X.P S.O S.w (.pl t []) e (.i .u8) xs (S.ph t):=by have:=K.at_ t;rw[← hst]at this;exact this
    obtain⟨hsz,cs,⟨hcl,hrow⟩,hrows,hlab⟩:=(Ch.flat rfl).1 hown;rcases hrow with⟨_,h0⟩|⟨g,cap,cur,ev,_,hh,hn,_,hcs,htk⟩
    ·exact absurd h0 (by omega)
    have hg0:S.O g = .pl t []:=hlab g (by rw[ev];rfl)
    have hgs:g<S.w.heap.size:=by
     rcases P3a g S.w.heap.size with hlt|hge
     ·exact hlt
     ·rw[Array.getElem?_eq_none hge]at hh;cases hh
    obtain⟨u1,u2⟩:=I0 (hE.ti _ _ hT)
    have hsh:S.w.shape? g=some (e,cur.size):=by unfold World.shape?;rw[hh]
    have hr:(convert T T (.slice (some ⟨g,0,none⟩) xs.length cap)).run X.P S.w = .ok (.slice (some ⟨g,0,none⟩) xs.length cap) (S.w.freeze ⟨g,cur.size,none⟩ 1):=by
     simp[convert,run_underlying u1,run_underlying u2,markStringish,hsh]
    obtain⟨w',ew⟩:∃ w',w'=S.w.freeze ⟨g,cur.size,none⟩ 1:=⟨_,rfl⟩
    have hfr:w' = { S.w with heap:=S.w.heap.modify g fun
      |.cells c elem (lo,hi) => .cells c elem (if lo==hi then (cur.size,cur.size+1) else (min lo cur.size,max hi (cur.size+1)))
      |o=>o }:=by rw[ew];rfl
    rw[← ew]at hr
    have hoth:∀ j,g≠j→w'.heap[j]? = S.w.heap[j]? := λ j hj=>by
     rw[hfr];show (S.w.heap.modify g _)[j]? = _;rw[Array.getElem?_modify,if_neg hj]
    have hnew:w'.heap[g]? = some (.cells cur e (cur.size,cur.size+1)):=by
     rw[hfr];show (S.w.heap.modify g _)[g]? = _;rw[Array.getElem?_modify,if_pos rfl,hh];rfl
    have hsize:w'.heap.size=S.w.heap.size:=by rw[hfr];show (S.w.heap.modify g _).size=_;rw[Array.size_modify]
    have K1:=(Hh K t 0).1;have hO1:(Gw S t 0).O g = .tm 0 []:=C6a hg0
    obtain⟨K2,L2⟩:=K1.grow (w':=w') (row:=some g) (O':=λ k=>if k=g then .fz else (Gw S t 0).O k) ⟨by rw[hfr];rfl,by rw[hfr];rfl,by rw[hfr];rfl,by rw[hsize];exact Vo _,λ k hk hkg=>hoth k (λ c=>hkg (by rw[c]))⟩
     (λ k hk=>⟨0,[],by cases hk;exact hO1⟩)
     (λ k hk hnt=>by
      show (if k=g then Lab.fz else _)=_
      rw[if_neg (λ c=>by subst c;exact hnt 0 [] hO1)])
     (λ k hk=>by
      show k<w'.heap.size;rw[hsize]
      by_cases hkg:k=g
      ·rw[hkg];exact hgs
      ·simp only[hkg,if_false]at hk
       exact K1.lt k hk)
    have hcell:C8 w' g 0 cs:=by
     intro j u hj;simp only[World.cell?,hnew,Wb];rw[← htk,Wd]at hj;split at hj
     ·simpa using hj
     ·cases hj
    have hsv:Fi X.P (Mx (Gw S t 0) w' (λ k=>if k=g then .fz else (Gw S t 0).O k)) 0 (.one (.fz e (.i .u8) xs)) (.slice (some ⟨g,0,none⟩) xs.length cap):=by
     refine⟨_,rfl,hsz,_,cap,cs,rfl,hn,hrows,λ _=>⟨g,0,rfl,?_,hcell⟩⟩;show (if _ then _ else _)=_;rw[if_pos rfl]
    have K3:=K2.put0 hd _ _ 0 rfl hsv;refine⟨_,h,Ac (S:=Gp (Mx (Gw S t 0) w' (λ k=>if k=g then .fz else (Gw S t 0).O k)) (λ _ _=>none) d (.one (.fz e (.i .u8) xs)) (.slice (some ⟨g,0,none⟩) xs.length cap)) (Gc ho (he.trans ev) hr) (by rw[hod];exact K3) ?_⟩;show upd (upd S.g t ((S.g t).1+1,.one .dead)) d _=_;rw[show ups A [⟨t,false,.one .dead⟩,⟨d,false,.one (.fz e (.i .u8) xs)⟩]=ups (ups A [⟨t,false,.one .dead⟩]) [⟨d,false,.one (.fz e (.i .u8) xs)⟩] from rfl,A7,A7,← hg];rfl
   ·exact absurd rfl (hnt t)
  ·cases hi
 ·cases hi
def Aia (hE:Fo X E) (K:Ah X S a) (hg:S.g=get A) {T T':TypeId} {x:Operand} {d:Nat} (ho:o.op = .convert T T' x) (hod:o.dst=some d) (hd:d<X.nt) (h:Ai E o A Kc=some r):Er X o a S.w A Kc r:=by
 unfold Ai at h;rw[ho,hod]at h;simp only at h
 cases hi:Mo E A T T' x d with
 |some U=>
  rw[hi]at h;exact Cya hE K hg ho hod hd hi h
 |none=>
 rw[hi]at h;simp only at h;split at h
 ·rename_i y hs;obtain⟨l,hl⟩:=Ed hE K hg hs;rcases Jha K hg (show Af X.P S (.pl l []) y (a.eval x) from hl) with⟨lab',hl'⟩|⟨p,v,pi,e,r0,xs,rfl,hv,hvw⟩
  rotate_left 1
  ·rw[hvw]at h;unfold conv at h;split at h
   ·rename_i hy;simp at hy
   ·rename_i hy;simp at hy
   ·rename_i e0 b0 f0 b f e' xs' hT hT' hy;rw[csi]at h;obtain⟨hq,h⟩:=h;simp only[Sv.one.injEq]at hy;cases hy;obtain⟨ad,cap,cs,e1,hrows,hne⟩:=I5a rfl hv hl;obtain⟨u1,u2⟩:=I0 (hE.ti _ _ hT);exact It K hg hod hd rfl (Gc ho e1 (Ie u1 u2 (Hz (hE.ti _ _ hT')) (Ld _ _ hrows) hne)) h
   ·rename_i hy;simp at hy
   ·rename_i hy;simp at hy
   ·cases h
  unfold conv at h;split at h
  ·rename_i k0 b0 f0 k b f k1 n hT hT' hy;simp only[Sv.one.injEq]at hy;rw[hy]at hl';have e1:a.eval x = .int k1 n:=hl'.1;refine It K hg hod hd rfl (Gc ho e1 ?_) h;simp[convert,run_underlying (Xq (hE.ti _ _ hT)),run_underlying (Xq (hE.ti _ _ hT')),Conv.intToInt]
  ·rename_i b0 f0 b f s hT hT' hy;simp only[Sv.one.injEq]at hy;rw[hy]at hl';have e1:a.eval x = .string s:=hl'.1;refine It K hg hod hd rfl (Gc ho e1 ?_) h;simp[convert,run_underlying (Hz (hE.ti _ _ hT)),run_underlying (Hz (hE.ti _ _ hT'))]
  ·rename_i e b0 f0 b f e' xs hT hT' hy;rw[csi]at h;obtain⟨hq,h⟩:=h;simp only[Sv.one.injEq]at hy;rw[hy]at hl';obtain⟨ad,cap,cs,e1,hrows,hne⟩:=I4a hl';obtain⟨u1,u2⟩:=I0 (hE.ti _ _ hT);exact It K hg hod hd rfl (Gc ho e1 (Ie u1 u2 (Hz (hE.ti _ _ hT')) (Ld _ _ hrows) hne)) h
  ·rename_i e b0 f0 b f e' xs hT hT' hy;rw[csi]at h;obtain⟨hq,h⟩:=h;simp only[Sv.one.injEq]at hy;rw[hy]at hl';obtain⟨ad,cap,cs,e1,hrows,hne⟩:=Cva rfl hl';obtain⟨u1,u2⟩:=I0 (hE.ti _ _ hT);exact It K hg hod hd rfl (Gc ho e1 (Ie u1 u2 (Hz (hE.ti _ _ hT')) (Ld _ _ hrows) hne)) h
  ·rename_i b0 f0 e b f s hT hT' hy;rw[csi]at h;obtain⟨hq,h⟩:=h;simp only[Sv.one.injEq]at hy;rw[hy]at hl';have e1:a.eval x = .string s:=hl'.1;obtain⟨u1,u2⟩:=I0 (hE.ti _ _ hT');have hr:=run_bytes_of_string (P:=X.P) S.w T T' e s (Hz (hE.ti _ _ hT)) u1 u2;have hszs:=(hE.ti _ _ hT').sz;simp only[szB,Va,beq_iff_eq]at hszs;generalize hob:Obj.cells (bytesRow s (grownCap S.w s.size 0 e)) e ((bytesRow s (grownCap S.w s.size 0 e)).size,(bytesRow s (grownCap S.w s.size 0 e)).size+1)=ob at hr
   obtain⟨K1,L1⟩:=K.grow (w':=S.w.drew.alloc ob) (row:=none) (O':=λ k=>if k=S.w.heap.size then .fz else S.O k) ⟨rfl,rfl,rfl,by simp,λ k hk _=>heap_alloc_old S.w.drew ob k hk⟩ (by simp)
    (λ k hk _=>by show (if k=S.w.heap.size then _ else _)=_;rw[if_neg (by omega)])
    (λ k hk=>by
     show k<(S.w.heap.push _).size;rw[Array.size_push]
     by_cases h:k=S.w.heap.size
     ·omega
     ·simp only[h,if_false]at hk;have:=K.lt k hk
      omega)
   have hcell:C8 (S.w.drew.alloc ob) S.w.heap.size 0 (s.data.toList.map λ b=>Value.int .u8 b.toNat):=by
    intro j u hj;have hb:(S.w.drew.alloc ob).heap[S.w.heap.size]? = some ob:=heap_alloc_new S.w.drew ob;subst hob
    have hjl:j<s.data.toList.length:=by
     rcases P3a j s.data.toList.length with h|h
     ·exact h
     ·rw[Ova (by simpa using h)]at hj;cases hj
    simp only[World.cell?,hb,Wb];simp only[bytesRow];rw[Array.getElem?_append_left (by simpa using hjl)]
    simpa using hj
   have hbl:(bytesOf s).length=s.size:=by simp[bytesOf]
   have hsv:Fi X.P (Mx S (S.w.drew.alloc ob) (λ k=>if k=S.w.heap.size then .fz else S.O k)) 0 (.one (.fz e (.i .u8) (bytesOf s))) (.slice (some ⟨S.w.heap.size,0,none⟩) s.size (grownCap S.w s.size 0 e)):=by
    refine⟨_,rfl,hszs.1,_,grownCap S.w s.size 0 e,_,by rw[hbl],by rw[hbl];exact grownCap_ge _ _ _ _,M6 s.data.toList,λ _=>⟨_,0,rfl,?_,hcell⟩⟩;show (if _ then _ else _)=_;rw[if_pos rfl]
   have K2:=K1.put0 hd _ _ 0 rfl hsv;refine⟨_,h,Ac (S:=Gp (Mx S (S.w.drew.alloc ob) (λ k=>if k=S.w.heap.size then .fz else S.O k)) (λ _ _=>none) d (.one (.fz e (.i .u8) (bytesOf s))) (.slice (some ⟨S.w.heap.size,0,none⟩) s.size (grownCap S.w s.size 0 e))) (Gc ho e1 hr) (by rw[hod];exact K2) ?_⟩;show upd S.g d _=_;rw[A7,← hg];rfl
  ·cases h
 ·cases h
end
end

section
attribute [local irreducible] C H
def bare (O:Nat→Lab) (w:World):Sit:=⟨O,λ _=>(0,0),λ _=>(0,.one .dead),λ _=>undef,w⟩
def Pn (P:Program) (S:Sit) (rg:Nat→Nat×Nat) (B:Nat) (t:Ty) (l:List Lf) (u:Value):Prop:=
 ∃ k o c e us,u = .pointer (some ⟨k,o,none⟩)∧S.w.heap[k]? = some (.cells c e (0,0))∧S.O k = .bx B∧rg B=(o,t.sz)∧o+t.sz≤c.size∧t.sz<999∧l.length=t.sz∧(∀ j,j<t.sz→c[o+j]? = us[j]?)∧
  A5 P S (λ j => .pl (C B j) []) 0 l us
def Aja (P:Program) (S:Sit) (w:Nat→Value) (j:Nat):Lf→Value→Prop
 |.own _ _ _,u=>u=w j
 |x,u=>Fka x=true∧Af P S .fz x u
def Qv (Q:Nat→Lf→Value→Prop):Nat→List Lf→List Value→Prop
 |_,[],[]=>True
 |j,x::l,u::us=>Q j x u∧Qv Q (j+1) l us
 |_,_,_=>False
def Aka (P:Program) (S:Sit) (rg:Nat→Nat×Nat) (nv:Nat) (hs:List Value) (i:Nat):Par→List Lf→Value→Prop
 |.io ag t,l,u=>(i<nv∧t.sz<999∧l.length=t.sz)∧∃ us,(if ag then u = .agg us.toArray else us=[u])∧A5 P S (λ j => .pl (C (3000+i) j) []) 0 l us
 |.vw t h,l,u=>nv≤h∧∃ vs k o c e,u = .agg vs.toArray∧hs[h-nv]? = some (.pointer (some ⟨k,o,none⟩))∧S.w.heap[k]? = some (.cells c e (0,0))∧t.sz<999∧l.length=t.sz∧Qv (Aja P S (λ j=>c.getD (o+j) undef)) 0 l vs
 |.val ag _,l,u=>∃ us,(if ag then u = .agg us.toArray else us=[u])∧A5 P S (λ j => .pl i (if ag then [j] else [])) 0 l us
 |.ptr t _,l,u=>i<nv∧Pn P S rg (bid nv i) t l u
 |.hid t _,l,u=>nv≤i∧Pn P S rg (bid nv i) t l u
 |.rd t,l,u=>∃ x k o cs,mkW t l=some x∧u = .pointer (some ⟨k,o,none⟩)∧S.O k = .fz∧t.rep P (λ k=>S.O k = .fz) S.w x cs∧C8 S.w k o cs
 |.fn F m,_,u=>u = .func (.func F) #[] hs.toArray∧hs.length=m
def Hj (P:Program) (S:Sit) (rg:Nat→Nat×Nat) (nv:Nat) (hs:List Value):Nat→List Par→List (List Lf)→List Value→Prop
 |_,[],[],[]=>True
 |i,p::ps,l::ls,u::us=>Aka P S rg nv hs i p l u∧Hj P S rg nv hs (i+1) ps ls us
 |_,_,_,_=>False
def Ig (P:Program) (S:Sit) (n0:Nat) (i:Nat):RK→List Lf→Value→Prop
 |.one,l,u=>A5 P S (λ _ => .tm i []) 0 l [u]
 |.agg,l,u=>∃ us,u = .agg us.toArray∧A5 P S (λ j => .tm i [j]) 0 l us
 |.ptr,l,u=>∃ k o c e us,u = .pointer (some ⟨k,o,none⟩)∧S.w.heap[k]? = some (.cells c e (0,0))∧n0≤k∧S.O k = .tm (i+500) []∧o+l.length≤c.size∧l.length<999∧(∀ j,j<l.length→c[o+j]? = us[j]?)∧
   A5 P S (λ j => .tm i [j]) 0 l us
def Fz (P:Program) (S:Sit) (n0:Nat):Nat→List (RK×Ty)→List (List Lf)→List Value→Prop
 |_,[],_,us=>us=[]
 |i,k::ks,l::ls,u::us=>Ig P S n0 i k.1 l u∧Fz P S n0 (i+1) ks ls us
 |_,_,_,_=>False
def Eh (P:Program) (S:Sit) (n0:Nat) (rs:List (RK×Ty)) (ls:List (List Lf)) (v:Value):Prop:=
 match rs with
 |[r]=>∃ l ls',ls=l::ls'∧Ig P S n0 1 r.1 l v
 |rs=>∃ us,v = .tuple us.toArray∧Fz P S n0 1 rs ls us
def Po (P:Program) (S:Sit) (i:Nat) (t':Ty) (l:List Lf) (u:Value):Prop:=
 ∃ k o c e us,u = .pointer (some ⟨k,o,none⟩)∧S.w.heap[k]? = some (.cells c e (0,0))∧l.length=t'.sz∧(∀ j,j<t'.sz→c[o+j]? = us[j]?)∧A5 P S (λ j => .tm (1001+i) [j]) 0 l us
def N5a (P:Program) (S:Sit) (i:Nat) (ag:Bool) (l:List Lf) (u:Value):Prop:=∃ us,(if ag then u = .agg us.toArray else us=[u])∧A5 P S (λ j => .tm (1001+i) [j]) 0 l us
def Ha (P:Program) (S:Sit):Nat→List Par→List Value→List (List Lf)→Prop
 |i,.io ag _::ps,u::us,l::ls=>N5a P S i ag l u∧Ha P S (i+1) ps us ls
 |_,[],_,ls=>ls=[]
 |i,.ptr _ t'::ps,u::us,l::ls=>Po P S i t' l u∧Ha P S (i+1) ps us ls
 |i,.hid _ t'::ps,u::us,l::ls=>Po P S i t' l u∧Ha P S (i+1) ps us ls
 |i,.val _ _::ps,_::us,ls=>Ha P S (i+1) ps us ls
 |i,.vw _ _::ps,_::us,ls=>Ha P S (i+1) ps us ls
 |i,.rd _::ps,_::us,ls=>Ha P S (i+1) ps us ls
 |i,.fn _ _::ps,_::us,ls=>Ha P S (i+1) ps us ls
 |_,_,_,_=>False
def Lpa (nv n b:Nat):Prop:=∃ i,i<n∧b=bid nv i
def Jia (P:Program) (f:FuncId) (en:Ent):Prop:=
 ∀ x r,en.run x=some r→∀ (w:World) (O:Nat→Lab) (rg:Nat→Nat×Nat) (us:List Value),(∀ k,O k ≠ .no→k<w.heap.size)→(∀ k b,O k = .bx b→Lpa en.nv en.ps.length b∧(∃ c e f,w.heap[k]? = some (.cells c e f))∧∀ k',O k' = .bx b→k'=k)→Hj P (bare O w) rg en.nv (us.drop en.nv) 0 en.ps (Ar _ x) us→
  Calls P f (us.take en.nv).toArray w (λ e w'=>∃ v O',e = .returned v∧Fr O w rg O' w'∧(∀ k,O' k ≠ .no→k<w'.heap.size)∧Eh P (bare O' w') w.heap.size en.rs (Ar _ r) v∧Ha P (bare O' w') 0 en.ps us ((Ar _ r).drop en.rs.length))
structure Hk (P:Program) (f:FuncId) (en:Ent):Prop where
 fn:∃ fn,P.funcs[f]? = some fn∧(fn.name == "runtime.NumGoroutine")=false∧fn.body.isNone=false
 sound:Jia P f en
section
variable {X:Cx} {S S':Sit} {a:Act} {E:En} {A:Ab} {o:Oper} {R:Type} {Kc:List Up→Option R} {r:R}
def Df:Lf→Bool
 |.sc _ | .fz _ _ _ | .own _ _ _=>true
 |_=>false
def Af.bare {P:Program} {x:Lf} {u:Value} {lab lab':Lab} (hx:Df x=true) {S1 S2:Sit} (hw:S2.w=S1.w) (hf:∀ k,S1.O k = .fz→S2.O k = .fz) (hl:∀ k,S1.O k=lab→S2.O k=lab') (h:Af P S1 lab x u):Af P S2 lab' x u:=by
 cases x with
 |sc v=>exact h
 |fz e r xs=>exact Ty.rep_mono (t := .sl e r) hf (λ k _=>by rw[hw]) _ _ h
 |own e r xs=>exact Ch.later (O':=S2.O) (w':=S2.w) h (λ k hk=>⟨hf k hk,by rw[hw]⟩) (λ k hk=>⟨hl k hk,by rw[hw]⟩)
 |_=>simp[Df]at hx
def Gf:∀ (t:Ty) (x:t.den),∀ y∈A4 t x,Df y=true
 |.i _,_=>by simp[A4,Df]
 |.b,_=>by simp[A4,Df]
 |.s,_=>by simp[A4,Df]
 |.sl _ _,_=>by simp[A4,Df]
 |.ow _ _,_=>by simp[A4,Df]
 |.pr x y,p=>by
  intro z hz;rcases Vm.1 (show z∈A4 x p.1++A4 y p.2 from hz) with h|h
  ·exact Gf x p.1 z h
  ·exact Gf y p.2 z h
def Dw:∀ (t:Ty) (x:t.den),(A4 t x).length=t.sz
 |.i _,_=>rfl
 |.b,_=>rfl
 |.s,_=>rfl
 |.sl _ _,_=>rfl
 |.ow _ _,_=>rfl
 |.pr x y,p=>by
  show (A4 x p.1++A4 y p.2).length=x.sz+y.sz;rw[Vh,Dw x p.1,Dw y p.2]
def A5.impS {P:Program} {S1 S2:Sit} {f f':Nat→Lab}:∀ {l:List Lf} {j:Nat} {us:List Value},(∀ y∈l,Df y=true)→(∀ n x u,Df x=true→Af P S1 (f n) x u→Af P S2 (f' n) x u)→A5 P S1 f j l us→A5 P S2 f' j l us
 |[],_,[],_,_,_=>trivial
 |[],_,_::_,_,_,h=>h.elim
 |_::_,_,[],_,_,h=>h.elim
 |y::l,j,u::us,hs,hi,h=>⟨hi j y u (hs y (by simp)) h.1,A5.impS (λ z hz=>hs z (Ve _ hz)) hi h.2⟩
def Ah.world (K:Ah X S a) {w':World} {O':Nat→Lab} (h1:∀ k,k<S.w.heap.size→(∀ n q,S.O k ≠ .tm n q)→O' k=S.O k∧w'.heap[k]? = S.w.heap[k]?)
  (hos:w'.os=S.w.os) (ht:w'.tape=S.w.tape) (hout:w'.output=S.w.output) (hsz:S.w.heap.size≤w'.heap.size) (hlt:∀ k,O' k ≠ .no→k<w'.heap.size):
  Ah X (Mx S w' O') a∧Ci S (Mx S w' O'):=by
 have keep:∀ k o,S.O k=o→k<S.w.heap.size→(∀ n q,o ≠ .tm n q)→O' k=o∧w'.heap[k]? = S.w.heap[k]?:=by
  intro k o' h hk ho;obtain⟨h2,h3⟩:=h1 k hk (by rw[h];exact ho);exact⟨h2.trans h,h3⟩
 have keep':∀ k o,S.O k=o→o ≠ .no→(∀ n q,o ≠ .tm n q)→O' k=o∧w'.heap[k]? = S.w.heap[k]? := λ k o' h hn ho=>keep k o' h (K.lt k (by rw[h];exact hn)) ho
 have L:Ci S (Mx S w' O'):=⟨λ _=>Vo _,λ _ _=>rfl,λ p v e r xs' h _=>⟨xs',h,rfl⟩,λ _ _=>rfl,λ k h=>keep' k _ h (by simp) (by simp),Ci.box_of (λ _ _ _ h=>h) (λ k b h=>keep' k _ h (by simp) (by simp)),λ p _ hd=>⟨hd,λ _ _ _ h=>h,λ k hk=>by
  obtain⟨h1,h2⟩:=keep' k _ hk (by simp) (by simp)
  exact⟨.inl h1,h2⟩⟩,λ _ _=>rfl⟩
 have F:=K.fr;refine⟨⟨K.nt,hlt,λ l=>(K.at_ l).later L (λ p k h=>keep' k _ h (by simp) (by simp)),λ b n h=>?_,K.rgn,K.sl,K.sz,K.df,⟨hos.trans F.os,ht.trans F.tape,hout.trans F.out,Yp F.size hsz,λ k hk h0=>?_,λ k hk h0=>?_,λ k b hk h0=>?_⟩,K.io⟩,L⟩
 ·obtain⟨hn,c,e,e1,e2,e3,e4⟩:=K.box b n h;obtain⟨h5,h6⟩:=keep' _ _ e2 (by simp) (by simp);exact⟨hn,c,e,h6.trans e1,h5,e3,e4⟩
 ·obtain⟨f1,f2⟩:=F.no k hk h0;obtain⟨h5,h6⟩:=keep k _ f1 (Wi hk F.size) (by simp);exact⟨h5,h6.trans f2⟩
 ·obtain⟨f1,f2⟩:=F.fz k hk h0;obtain⟨h5,h6⟩:=keep k _ f1 (Wi hk F.size) (by simp);exact⟨h5,h6.trans f2⟩
 ·obtain⟨f1,c,c',e,f,f2,f3,f4,f5⟩:=F.bx k b hk h0;obtain⟨h5,h6⟩:=keep k _ f1 (Wi hk F.size) (by simp);exact⟨h5,c,c',e,f,f2,h6.trans f3,f4,f5⟩
end
end

section
attribute [local irreducible] C H
section
variable {X:Cx} {S S':Sit} {a:Act} {E:En} {A:Ab} {o:Oper} {R:Type} {Kc:List Up→Option R} {r:R}
def A5.impM {P:Program} {S1 S2:Sit} {f f':Nat→Lab}:∀ {l:List Lf} {j:Nat} {us:List Value},(∀ x∈l,∀ n u,Af P S1 (f n) x u→Af P S2 (f' n) x u)→A5 P S1 f j l us→A5 P S2 f' j l us
 |[],_,[],_,_=>trivial
 |[],_,_::_,_,h=>h.elim
 |_::_,_,[],_,h=>h.elim
 |y::l,j,u::us,hi,h=>⟨hi y (by simp) j u h.1,A5.impM (λ z hz=>hi z (Ve _ hz)) h.2⟩
def Ig.imp {P:Program} {S1 S2:Sit} {n0 i:Nat} {k:RK} {l:List Lf} {u:Value} (hw:S2.w=S1.w) (hO:∀ k i,S1.O k = .tm i []→S2.O k = .tm i []) (hi:∀ y∈l,∀ i q u,Af P S1 (.tm i q) y u→Af P S2 (.tm i q) y u) (h:Ig P S1 n0 i k l u):Ig P S2 n0 i k l u:=by
 cases k with
 |one=>exact A5.impM (λ x hx n u h=>hi x hx _ _ u h) h
 |agg=>
  obtain⟨us,e,h⟩:=h;exact⟨us,e,h.impM (λ x hx n u h=>hi x hx _ _ u h)⟩
 |ptr=>
  obtain⟨k,o,c,e,us,e1,e2,e3,e4,e5,e6,e7,h⟩:=h;exact⟨k,o,c,e,us,e1,by rw[hw];exact e2,e3,hO _ _ e4,e5,e6,e7,h.impM (λ x hx n u h=>hi x hx _ _ u h)⟩
def Fz.imp {P:Program} {S1 S2:Sit} {n0:Nat} (hw:S2.w=S1.w) (hO:∀ k i,S1.O k = .tm i []→S2.O k = .tm i []):∀ {rs:List (RK×Ty)} {i:Nat} {ls:List (List Lf)} {us:List Value},
  (∀ l∈ls,∀ y∈l,∀ i q u,Af P S1 (.tm i q) y u→Af P S2 (.tm i q) y u)→Fz P S1 n0 i rs ls us→Fz P S2 n0 i rs ls us
 |[],_,_,_,_,h=>h
 |k::ks,i,l::ls,u::us,hi,h=>⟨h.1.imp hw hO (hi l (by simp)),Fz.imp hw hO (λ l' hl'=>hi l' (Ve _ hl')) h.2⟩
 |_::_,_,[],_,_,h=>h.elim
 |_::_,_,_::_,[],_,h=>h.elim
def Eh.imp {P:Program} {S1 S2:Sit} {n0:Nat} {rs:List (RK×Ty)} {ls:List (List Lf)} {v:Value} (hw:S2.w=S1.w) (hO:∀ k i,S1.O k = .tm i []→S2.O k = .tm i [])
  (hi:∀ l∈ls,∀ y∈l,∀ i q u,Af P S1 (.tm i q) y u→Af P S2 (.tm i q) y u) (h:Eh P S1 n0 rs ls v):Eh P S2 n0 rs ls v:=by
 unfold Eh at h ⊢;split at h
 ·obtain⟨l,ls',rfl,h⟩:=h;exact⟨l,ls',rfl,h.imp hw hO (hi l (by simp))⟩
 ·obtain⟨us,e,h⟩:=h;exact⟨us,e,h.imp hw hO hi⟩
def Lqa (K:Ah X S a) {A1:Ab} (hg:S.g=get A1) {d k o n0:Nat} {l0:List Nat} {m:List Lf} {us:List Value} {q:Nat→List Nat} {c:Array Value} {e:TypeId} (hd:d<X.nt) (hk:S.O k = .tm n0 l0) (hn0:n0≠0) (hk0:X.w0.heap.size≤k)
  (hc:S.w.heap[k]? = some (.cells c e (0,0))) (ho:o+m.length≤c.size) (hcs:∀ j,j<m.length→c[o+j]? = us[j]?) (hl:A5 X.P S (λ j => .tm 0 (q j)) 0 m us)
  (hq:∀ j,j<m.length→P5 d 0 0 (q j)=some (.pl (C d (0+j)) [])) (hm:m.length<999) (hst:∀ k,.hd k∉m) (hnp:X.np≤d):
  ∃ S',Ah X S' (a.put (some d) (.pointer (some ⟨k,o,none⟩)))∧S'.w=S.w∧S'.g=get (ups A1 (⟨H d,false,.one (.hd m.length)⟩::Bi d 0 m++[⟨d,false,.one (.bp d ((get A1 (H d)).1+1) 0)⟩])):=by
 obtain⟨K2,L2⟩:=K.newbox (d:=d) (k:=k) (o:=o) hk hn0 hk0 hc ho hcs hl hq hm hst hnp (Wi hd K.nt)
 have hv:((U4 S d k o m us).g (H d)).1=(S.g (H d)).1+1:=by
  show (Ib (upd S.g (H d) _) d 0 m (H d)).1=_;unfold Ib;rw[if_neg (D9 (by omega)),A8]
 have K3:=K2.put0 hd (.one (.bp d ((S.g (H d)).1+1) 0)) (.pointer (some ⟨k,o,none⟩)) 0 rfl ⟨by rw[hv];exact Vo _,λ _=>by
  show Value.pointer _ = .pointer (some ⟨(upd S.bb d (k,o) d).1,(upd S.bb d (k,o) d).2+0,none⟩);rw[A8]
  rfl⟩
 have e1:(U4 S d k o m us).g=get (ups A1 (⟨H d,false,.one (.hd m.length)⟩::Bi d 0 m)):=by
  show Ib (upd S.g (H d) ((S.g (H d)).1+1,.one (.hd m.length))) d 0 m=get (ups (up A1 ⟨H d,false,.one (.hd m.length)⟩) (Bi d 0 m));rw[Fq,Hg,← hg];rfl
 refine⟨_,K3,rfl,?_⟩;show upd (U4 S d k o m us).g d _=_;rw[Ae,A7,← e1,← hg]
def Bla (d:Nat) (many:Bool):Nat→List Nat→Option Lab:=λ n q=>match n with
 |0=>none
 |n+1=>if many then (match q with
  |[]=>some (.pl d [n,0])
  |[j]=>some (.pl d [n,j])
  |_=>none) else (if n=0 then some (.pl d q) else none)
def Uq (d:Nat) (many:Bool):∀ n q p,Bla d many n q=some p→∃ p',p = .pl d p':=by
 intro n q p hp;unfold Bla at hp;split at hp
 ·cases hp
 ·split at hp
  ·split at hp<;>first|(cases hp;exact⟨_,rfl⟩)|cases hp
  ·split at hp<;>first|(cases hp;exact⟨_,rfl⟩)|cases hp
def Ur (K:Ah X S a) {A1:Ab} (hg:S.g=get A1) {rs:List (RK×Ty)} {ls:List (List Lf)} {d:Option Nat} {us:List Up} {v:Value} {n0:Nat} (hd:∀ d',d=some d'→d'<X.nt) (hn0:X.w0.heap.size≤n0) (hls:∀ l∈ls,∀ y∈l,Df y=true) (hnp:∀ d',d=some d'→F6 rs=true→X.np≤d')
  (hr:Eh X.P S n0 rs ls v) (h:Ju A1 rs ls d=some us):∃ S',Ah X S' (a.put d v)∧S'.w=S.w∧S'.g=get (ups A1 us):=by
 cases d with
 |none=>
  have:us=[]:=by unfold Ju at h;cases rs<;>simpa using h.symm
  subst this;exact⟨S,K,rfl,hg⟩
 |some d=>
  cases rs with
  |nil=>
   have:us=[⟨d,false,.tup []⟩]:=by unfold Ju at h;simpa using h.symm
   subst this;obtain⟨vs,rfl,h2⟩:=hr
   have:vs=[]:=by cases ls<;>exact h2
   subst this;have K2:=K.put0 (hd d rfl) (.tup []) (.tuple #[]) 0 rfl ⟨[],rfl,trivial⟩;exact⟨_,K2,rfl,by show upd S.g d _=_;rw[A7,← hg]⟩
  |cons r1 rs=>
   cases rs with
   |nil=>
    obtain⟨l,ls',e1,h2⟩:=hr;subst e1;obtain⟨k,t⟩:=r1
    cases k with
    |one=>
     have h2':A5 X.P S (λ _ => .tm 1 []) 0 l [v]:=h2
     cases l with
     |nil=>exact h2'.elim
     |cons x l=>
      cases l with
      |cons y l=>exact h2'.2.elim
      |nil=>
       have:us=[⟨d,false,.one x⟩]:=by unfold Ju at h;simpa using h.symm
       subst this;have h3:Af X.P S (.tm 1 []) x v:=h2'.1;have L:=D0 S (Bla d false) d (K.lt0 (hd d rfl)) (.one x) v;have hsv:Fi X.P (Gp S (Bla d false) d (.one x) v) d (.one x) v:=Af.later (lab := .tm 1 []) (lab' := .pl d []) L h3 (λ k hk=>⟨F3 hk rfl,rfl⟩);have K2:=K.put (hd d rfl) (Bla d false) (Uq d false) (.one x) v hsv;exact⟨_,K2,rfl,by show upd S.g d _=_;rw[A7,← hg]⟩
    |agg=>
     have:us=[⟨d,false,.agg l⟩]:=by unfold Ju at h;simpa using h.symm
     subst this;obtain⟨vs,rfl,h3⟩:=h2;have L:=D0 S (Bla d false) d (K.lt0 (hd d rfl)) (.agg l) (.agg vs.toArray);have hsv:Fi X.P (Gp S (Bla d false) d (.agg l) (.agg vs.toArray)) d (.agg l) (.agg vs.toArray):=⟨vs,rfl,h3.imp (λ j x u hx=>hx.later L (λ k hk=>⟨F3 hk rfl,rfl⟩))⟩;have K2:=K.put (hd d rfl) (Bla d false) (Uq d false) (.agg l) _ hsv;exact⟨_,K2,rfl,by show upd S.g d _=_;rw[A7,← hg]⟩
    |ptr=>
     have:us=Bqa A1 d l:=by unfold Ju at h;simpa using h.symm
     subst this;obtain⟨k,o,c,e,vs,rfl,e2,e3,e4,e5,e6,e7,h3⟩:=h2
     let hh:Nat→List Nat→Option Lab:=λ n q=>if n=1 then some (.tm 0 q) else none
     obtain⟨K1,L1⟩:=K.names hh (by intro n q;simp only[hh];split<;>simp)
     have e4':({ S with O:=atO S.O hh }:Sit).O k = .tm 501 []:=H1 e4 (by simp[hh])
     obtain⟨S',K',w',g'⟩:=Lqa K1 (A1:=A1) (q:=λ j=>[j]) hg (hd d rfl) e4' (by decide) (Yp hn0 e3) e2 e5 e7 (h3.imp (λ j x u hx=>hx.later L1 (λ k hk=>⟨F3 hk (by simp[hh]),rfl⟩))) (λ j hj=>rfl) e6 (by
      intro k hk;have:=hls l (by simp) _ hk
      simp[Df]at this) (hnp d rfl rfl)
     exact⟨S',K',w',by rw[g'];rfl⟩
   |cons r2 rs=>
    have h':(bif F6 (r1::r2::rs) then none else some [(⟨d,false,.tup (Rz (r1::r2::rs) ls)⟩:Up)])=some us:=by
     unfold Ju at h;obtain⟨k1,t1⟩:=r1
     cases k1<;>exact h
    cases hp:F6 (r1::r2::rs)
    case true=>rw[hp]at h';simp at h'
    rw[hp]at h';simp only[cond_false,Vc]at h';subst h';obtain⟨vs,rfl,h2⟩:=hr;generalize hR:(r1::r2::rs)=R2 at hp h2
    have key:∀ (s:Sv) (rs:List (RK×Ty)) (i:Nat) (ls:List (List Lf)) (us:List Value),F6 rs=false→Fz X.P S n0 (i+1) rs ls us→Ir X.P (Gp S (Bla d true) d s (.tuple vs.toArray)) d i (Rz rs ls) us:=by
     intro s rs
     induction rs with
     |nil=>
      intro i ls us _ h
      have:us=[]:=by cases ls<;>exact h
      subst this;simp[Rz,Ir]
     |cons r rs ih=>
      intro i ls us hp h
      cases ls with
      |nil=>exact h.elim
      |cons l ls=>
       cases us with
       |nil=>exact h.elim
       |cons u us=>
        obtain⟨k,t⟩:=r;have L:=D0 S (Bla d true) d (K.lt0 (hd d rfl)) s (.tuple vs.toArray)
        have hp2:F6 rs=false:=by cases k<;>first|(simp[F6]at hp;done)|simpa[F6] using hp
        refine⟨?_,ih (i+1) ls us hp2 h.2⟩
        cases k with
        |ptr=>simp[F6]at hp
        |one=>
         have h2':A5 X.P S (λ _ => .tm (i+1) []) 0 l [u]:=h.1;refine⟨[u],rfl,?_⟩
         cases l with
         |nil=>exact h2'.elim
         |cons x l=>
          cases l with
          |cons y l=>exact h2'.2.elim
          |nil=>exact⟨Af.later (lab := .tm (i+1) []) (lab' := .pl d [i,0]) L h2'.1 (λ k hk=>⟨F3 hk rfl,rfl⟩),trivial⟩
        |agg=>
         obtain⟨ws,e1,h3⟩:=h.1;exact⟨ws,e1,h3.imp (λ j x u hx=>hx.later L (λ k hk=>⟨F3 hk rfl,rfl⟩))⟩
    have hsv:Fi X.P (Gp S (Bla d true) d (.tup (Rz R2 ls)) (.tuple vs.toArray)) d (.tup (Rz R2 ls)) (.tuple vs.toArray):=⟨vs,rfl,key _ _ 0 ls vs hp h2⟩;have K2:=K.put (hd d rfl) (Bla d true) (Uq d true) (.tup (Rz R2 ls)) _ hsv;exact⟨_,K2,rfl,by show upd S.g d _=_;rw[A7,← hg]⟩
def Cza (N:Nat):Nat→List Nat→Option Lab:=λ n _=>if n≤N then some .fz else none
def A5.calmN {P:Program} {S:Sit} {N i:Nat} (hi:i≤N) {q:Nat→List Nat}:∀ {l:List Lf} {j:Nat} {us:List Value},(∀ y∈l,Df y=true)→A5 P S (λ n => .tm i (q n)) j l us→A5 P { S with O:=atO S.O (Cza N) } (λ n => .tm i (q n)) j (l.map Hn) us
 |[],_,[],_,_=>trivial
 |[],_,_::_,_,h=>h.elim
 |_::_,_,[],_,h=>h.elim
 |x::l,j,u::us,hs,h=>by
  have hfz:∀ k,S.O k = .fz→atO S.O (Cza N) k = .fz:=λ k hk=>Al hk (by simp);refine⟨?_,A5.calmN hi (λ y hy=>hs y (Ve _ hy)) h.2⟩;have h1:=hs x (by simp)
  cases x with
  |sc v=>exact h.1
  |fz e r xs=>exact Ty.rep_mono (t := .sl e r) hfz (λ _ _=>rfl) _ _ h.1
  |own e r xs=>
   have h2:Ch P S.O S.w (.tm i (q j)) e r xs u:=h.1;exact h2.reads (O':=λ k=>atO S.O (Cza N) k) hfz (λ k hk=>F3 hk (by simp[Cza,hi]))
  |_=>simp[Df]at h1
def Ig.calmN {P:Program} {S:Sit} {N n0 i:Nat} (hi:i≤N) {k:RK} (hk:k = .ptr→N<i+500) {l:List Lf} {u:Value} (hs:∀ y∈l,Df y=true) (h:Ig P S n0 i k l u):Ig P { S with O:=atO S.O (Cza N) } n0 i k (l.map Hn) u:=by
 cases k with
 |one=>exact A5.calmN (q:=λ _=>[]) hi hs h
 |agg=>
  obtain⟨us,e,h⟩:=h;exact⟨us,e,A5.calmN (q:=λ n=>[n]) hi hs h⟩
 |ptr=>
  obtain⟨k,o,c,e,us,h1,h2,h3,h4,h5,h6,h7,h8⟩:=h;have:=hk rfl;refine⟨k,o,c,e,us,h1,h2,h3,?_,by rw[Yj];exact h5,by rw[Yj];exact h6,by rw[Yj];exact h7,A5.calmN (q:=λ n=>[n]) hi hs h8⟩;exact H1 h4 (by unfold Cza;rw[if_neg (by omega)])
def Eh.calmN {P:Program} {S:Sit} {N n0:Nat} {rs:List (RK×Ty)} (hN:rs.length≤N) (hk:F6 rs=true→N<501) {ls:List (List Lf)} {v:Value} (hs:∀ l∈ls,∀ y∈l,Df y=true) (h:Eh P S n0 rs ls v):Eh P { S with O:=atO S.O (Cza N) } n0 rs (ls.map λ l=>l.map Hn) v:=by
 have all:∀ (rs:List (RK×Ty)) (i:Nat) (ls:List (List Lf)) (us:List Value),1≤i→i+rs.length≤N+1→(F6 rs=true→N<501)→(∀ l∈ls,∀ y∈l,Df y=true)→Fz P S n0 i rs ls us→Fz P { S with O:=atO S.O (Cza N) } n0 i rs (ls.map λ l=>l.map Hn) us:=by
  intro rs
  induction rs with
  |nil=>intro i ls us _ _ _ _ h;exact h
  |cons r rs ih=>
   intro i ls us h1 h2 h3 h4 h;simp only[Vg]at h2
   cases ls with
   |nil=>exact h.elim
   |cons l ls=>
    cases us with
    |nil=>exact h.elim
    |cons u us=>
     refine⟨Ig.calmN (by omega) (λ hp=>?_) (h4 l (by simp)) h.1,ih (i+1) ls us (by omega) (by omega) (λ hp=>h3 ?_) (λ l hl=>h4 l (Ve _ hl)) h.2⟩
     ·have:=h3 (by obtain⟨k,t⟩:=r;have:k = .ptr:=hp;subst this;rfl);omega
     ·obtain⟨k,t⟩:=r
      cases k<;>first|exact hp|rfl
 unfold Eh at h ⊢;split at h
 ·rename_i r;obtain⟨l,ls',e,h⟩:=h;subst e;refine⟨l.map Hn,_,rfl,Ig.calmN (by simpa using hN) (λ hp=>?_) (hs l (by simp)) h⟩;have:=hk (by obtain⟨k,t⟩:=r;have:k = .ptr:=hp;subst this;rfl);omega
 ·obtain⟨us,e,h⟩:=h;exact⟨us,e,all _ 1 _ _ (Vo _) (by omega) hk hs h⟩
def Qw {E:En} (K:Ah X S a) {A1:Ab} (hg:S.g=get A1) {rs:List (RK×Ty)} {ls:List (List Lf)} {d:Option Nat} {us:List Up} {v:Value} {n0:Nat} (hN:F6 rs=true→rs.length≤400) (hd:∀ d',d=some d'→d'<X.nt) (hn0:X.w0.heap.size≤n0) (hls:∀ l∈ls,∀ y∈l,Df y=true) (hnp:∀ d',d=some d'→F6 rs=true→X.np≤d')
  (hr:Eh X.P S n0 rs ls v) (h:Ju A1 rs (shL E d ls) d=some us):∃ S',Ah X S' (a.put d v)∧S'.w=S.w∧S'.g=get (ups A1 us):=by
 cases d with
 |none=>exact Ur K hg hd hn0 hls hnp hr h
 |some d=>
  unfold shL at h;simp only at h;cases hsh:E.sh d
  ·rw[hsh]at h;exact Ur K hg hd hn0 hls hnp hr h
  rw[hsh,cond_true]at h
  have go:∀ N,rs.length≤N→(F6 rs=true→N<501)→∃ S',Ah X S' (a.put (some d) v)∧S'.w=S.w∧S'.g=get (ups A1 us):=by
   intro N h1 h2
   obtain⟨K1,_⟩:=K.names (Cza N) (by intro n q;unfold Cza;split<;>simp)
   refine Ur (S := { S with O:=atO S.O (Cza N) }) K1 hg hd hn0 (λ l hl y hy=>?_) hnp (hr.calmN h1 h2 hls) h;obtain⟨l0,h3,rfl⟩:=Za.1 hl;obtain⟨y0,h4,rfl⟩:=Za.1 hy;have:=hls l0 h3 y0 h4
   cases y0<;>first|rfl|simp[Df]at this
  cases hp:F6 rs with
  |true=>exact go 400 (hN hp) (λ _=>by omega)
  |false=>exact go rs.length (Vo _) (λ h=>by rw[hp]at h;cases h)
end
end

end Go.Proofs.Ytbbifgjgneefkaa.Vf
