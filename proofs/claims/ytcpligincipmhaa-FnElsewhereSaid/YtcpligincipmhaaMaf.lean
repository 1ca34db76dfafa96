import Derived.Test.YtcpligincipmhaaMae
import Derived.Laws.MakeOwn
import Derived.Laws.OwnMore
import Derived.Laws.IdiomStrings
import Derived.Lib.AppendStr
set_option linter.all false
namespace Go.Proofs.Ytcpligincipmhaa.Vf
open Go
open List (length getD)
open Int (toNat)
open Go.IntKind (wrap)
open BitVec (ofInt)
def Ys:=@List.mem_map
def Yx:=@List.foldl_cons
def Zw:=@List.getElem?_map
def Zza:=@Int.le_refl
def Bhb:=@Nat.mod_eq_of_lt
def Bqb:=@List.map_append
def Bwb:=@List.getElem?_set_self
def Cjb:=@List.take_left'
def D6b:=@List.take_set_of_le
def D7b:=@Result.ok.injEq
def Dfb:=@Array.mapM_eq_mapM_toList
def Dnb:=@List.ext_getElem
def Dqb:=@List.length_singleton
def Drb:=@List.length_replicate

section
attribute [local irreducible] C H
section
variable {X:Cx} {S S':Sit} {a:Act} {E:En} {A:Ab} {o:Oper} {R:Type} {Kc:List Up→Option R} {r:R}
def P4:∀ t:Ty,(U7 t).length=t.sz
 |.i _=>rfl
 |.b=>rfl
 |.s=>rfl
 |.sl _ _=>rfl
 |.ow _ _=>rfl
 |.pr x y=>by show (U7 x++U7 y).length=x.sz+y.sz;rw[Vi,P4 x,P4 y]
def I1:∀ t:Ty,A4 (U7 t)=true
 |.i _=>rfl
 |.b=>rfl
 |.s=>rfl
 |.sl _ _=>rfl
 |.ow _ _=>rfl
 |.pr x y=>by
  have app:∀ l m,A4 l=true→A4 m=true→A4 (l++m)=true:=by
   intro l m hl hm
   induction l with
   |nil=>exact hm
   |cons x l ih=>cases x<;>first|(simp[A4]at hl;done)|exact ih (by simpa[A4] using hl)
  exact app _ _ (I1 x) (I1 y)
def P5 {P:Program}:∀ (t:Ty),szB P t=true→∀ (f:Nat→Lab) (j:Nat),Aa P S f j (U7 t) (Ei t)
 |.i _,_,_,_=>⟨⟨rfl,rfl⟩,trivial⟩
 |.b,_,_,_=>⟨⟨rfl,rfl⟩,trivial⟩
 |.s,_,_,_=>⟨⟨rfl,rfl⟩,trivial⟩
 |.sl e r,h,f,j=>⟨Wx (by simp only[szB,Va,beq_iff_eq]at h;exact h.1),trivial⟩
 |.ow e r,h,f,j=>⟨Wx (by simp only[szB,Va,beq_iff_eq]at h;exact h.1),trivial⟩
 |.pr x y,h,f,j=>by
  simp[szB]at h;exact Aa.app (P5 x h.1 f j) (P5 y h.2 f _)
def P6 {P:Program} {w:World} {T:TypeId} {t:TI} (h:TOk P T t):∃ v,(zeroValue T).run P w = .ok v w∧v.cells=(Ei t.ty).toArray∧(if t.ag then v = .agg (Ei t.ty).toArray else Ei t.ty=[v]):=by
 obtain⟨i,h1,h2,h3,h4,h5⟩:=h.info;refine⟨if t.ag then .agg (Ei t.ty).toArray else (Ei t.ty).headD undef,?_,?_,?_⟩
 ·simp[zeroValue,typeInfo,h1,h4]
 ·cases ha:t.ag
  case true=>rfl
  rw[if_neg (by simp)];have h6:=h5 ha;have hone:=Mq (S:=⟨λ _ => .no,λ _=>(0,0),λ _=>(0,.one .dead),λ _=>undef,w⟩) (I1 t.ty) (P5 t.ty h.sz (λ _ => .no) 0);generalize (Ei t.ty).headD undef=v at h6;rw[h6]at hone ⊢;have:=hone v (by simp)
  cases v<;>first|(simp[Value.oneCell']at this;done)|rfl
 ·cases ha:t.ag with
  |true=>rfl
  |false=>exact h5 ha
def Ksa (K:B0 X S a) {A1:Ab} (hg:S.g=get A1) {T:TypeId} {m:List Lf} {us:List Value} {q:Nat→List Nat} {d:Nat} (hd:d<X.nt) (hl:Aa X.P S (λ j => .tm 0 (q j)) 0 m us)
  (hq:∀ j,j<m.length→U3 d 0 0 (q j)=some (.pl (C d (0+j)) [])) (hm:m.length<999) (hst:∀ k,.hd k∉m) (hnp:X.np≤d):
  ∃ S',B0 X S' (a.put (some d) (.pointer (some ⟨S.w.heap.size,0,none⟩)))∧S'.w=S.w.alloc (.cells us.toArray T)∧
   S'.g=get (ups A1 (⟨H d,false,.one (.hd m.length)⟩::Cq d 0 m++[⟨d,false,.one (.bp d ((get A1 (H d)).1+1) 0)⟩])):=by
 have hlen:=hl.len;have hd1:d<1000:=Yf hd K.nt
 obtain⟨K1,L1⟩:=K.grow (w':=S.w.alloc (.cells us.toArray T)) (row:=none) (O':=λ k=>if k=S.w.heap.size then .tm 1 [] else S.O k) (World.grownBy_alloc _ _ _) (by simp)
  (λ k hk _=>by show (if k=S.w.heap.size then _ else _)=_;rw[if_neg (by omega)])
  (λ k hk=>by
   show k<(S.w.heap.push _).size;rw[Array.size_push]
   by_cases h:k=S.w.heap.size
   ·omega
   ·simp only[h,if_false]at hk;have:=K.lt k hk
    omega)
 have hl1:Aa X.P (Sd S (S.w.alloc (.cells us.toArray T)) (λ k=>if k=S.w.heap.size then .tm 1 [] else S.O k)) (λ j => .tm 0 (q j)) 0 m us:=by
  refine hl.imp (λ j x u hx=>hx.later L1 (λ k hk=>?_));have hkl:k<S.w.heap.size:=K.lt k (by simp[hk]);refine⟨?_,heap_alloc_old _ _ _ hkl⟩;show (if k=S.w.heap.size then _ else _)=_;rw[if_neg (by omega)];exact hk
 obtain⟨K2,L2⟩:=K1.newbox (d:=d) (k:=S.w.heap.size) (o:=0) (n0:=1) (l0:=[]) (by show (if _ then _ else _)=_;rw[if_pos rfl]) (by decide) K.fr.size (heap_alloc_new _ _) (by simp[hlen]) (by intro j hj;simp) hl1 hq hm hst hnp hd1
 have hv:((Daa (Sd S (S.w.alloc (.cells us.toArray T)) (λ k=>if k=S.w.heap.size then .tm 1 [] else S.O k)) d S.w.heap.size 0 m us).g (H d)).1=(S.g (H d)).1+1:=by
  show (Lr (upd S.g (H d) _) d 0 m (H d)).1=_;unfold Lr;rw[if_neg (F8 (by omega)),Aq];rfl
 have K3:=K2.put0 hd (.one (.bp d ((S.g (H d)).1+1) 0)) (.pointer (some ⟨S.w.heap.size,0,none⟩)) 0 rfl ⟨by rw[hv];exact Vv _,λ _=>by
  show Value.pointer _ = .pointer (some ⟨(upd S.bb d (S.w.heap.size,0) d).1,(upd S.bb d (S.w.heap.size,0) d).2+0,none⟩)
  rw[Aq]⟩
 have e1:(Daa (Sd S (S.w.alloc (.cells us.toArray T)) (λ k=>if k=S.w.heap.size then .tm 1 [] else S.O k)) d S.w.heap.size 0 m us).g=get (ups A1 (⟨H d,false,.one (.hd m.length)⟩::Cq d 0 m)):=by
  show Lr (upd S.g (H d) ((S.g (H d)).1+1,.one (.hd m.length))) d 0 m=get (ups (up A1 ⟨H d,false,.one (.hd m.length)⟩) (Cq d 0 m));rw[Hj,Jz,← hg];rfl
 refine⟨_,K3,rfl,?_⟩;show upd (Daa (Sd S (S.w.alloc (.cells us.toArray T)) (λ k=>if k=S.w.heap.size then .tm 1 [] else S.O k)) d S.w.heap.size 0 m us).g d _=_;rw[Ay,Ao,← e1,← hg]
def Psa (hE:Hz X E) (K:B0 X S a) (hg:S.g=get A) {T:TypeId} {d:Nat} (ho:o.op = .alloc T) (hod:o.dst=some d) (hd:d<X.nt) (h:Au E o A Kc=some r):Gp X o a S.w A Kc r:=by
 unfold Au at h;rw[ho,hod]at h;simp only at h;split at h
 ·rename_i ti hti;obtain⟨hq,h⟩:=cs h;simp only[Va]at hq;have hlt:ti.ty.sz<999:=Vj hq.1;have hnp:X.np≤d:=hE.np ▸ (Vj hq.2);have ht:=hE.ti _ _ hti;obtain⟨v,h1,h2,_⟩:=P6 (w:=S.w) ht;obtain⟨S',K',w',g'⟩:=Ksa K hg (T:=T) (m:=U7 ti.ty) (us:=Ei ti.ty) (q:=λ j=>[j]) hd (P5 ti.ty ht.sz _ 0) (λ j hj=>rfl) (by rw[P4];exact hlt) (Ji (I1 _)) hnp;rw[P4]at g';refine⟨_,h,Ap (S:=S') (v := .pointer (some ⟨S.w.heap.size,0,none⟩)) ?_ (by rw[hod];exact K') g'⟩;rw[w'];unfold execOp;simp[ho,Instr.alloc,h1,newVar,newRow,h2]
 ·cases h
def P7:∀ {l:List Lf},E6 A l=true→Es l=false
 |[],_=>rfl
 |x::l,h=>by
  have rest:E6 A l=true:=by
   cases x<;>first|(simp[E6]at h;done)|(simp only[E6,Va]at h;exact h.2)|simpa[E6] using h
  cases x<;>first|(simp[E6]at h;done)|exact P7 (l:=l) rest
def Kta (K:B0 X S a) (hg:S.g=get A) {f:Nat→Lab}:∀ {l:List Lf} {j:Nat} {us:List Value},E6 A l=true→Aa X.P S f j l us→(∀ u∈us,u.oneCell'=true)∧∀ k,.hd k∉l
 |[],_,[],_,_=>by simp
 |[],_,_::_,_,h=>h.elim
 |_::_,_,[],_,h=>h.elim
 |x::l,j,u::us,hst,h=>by
  have rest:E6 A l=true:=by
   cases x<;>first|(simp[E6]at hst;done)|(simp only[E6,Va]at hst;exact hst.2)|simpa[E6] using hst
  obtain⟨r1,r2⟩:=Kta K hg rest h.2;refine⟨λ v hv=>?_,λ k hk=>?_⟩
  ·rcases Vk.1 hv with hv|hv
   ·rw[hv];have one:A4 [x]=true→u.oneCell'=true:=λ hs=>Mq (P:=X.P) (S:=S) (f:=f) (l:=[x]) (j:=j) (us:=[u]) hs ⟨h.1,trivial⟩ u (by simp)
    cases x with
    |al p v=>
     simp only[E6,Va]at hst;obtain⟨lab',h4⟩:=O7 K hg h.1;have h3:=hst.1;split at h3
     ·rename_i hs;rw[hs]at h4;obtain⟨ad,cap,e1⟩:=Q5 (X:=X) h4;rw[e1];rfl
     ·rename_i hs;rw[hs]at h4;obtain⟨ad,cap,e1⟩:=Sa (X:=X) h4;rw[e1];rfl
     ·cases h3
    |sc w=>exact one rfl
    |fz e r xs=>exact one rfl
    |_=>simp[E6]at hst
   ·exact r1 v hv
  ·rcases Vk.1 hk with rfl|hk
   ·simp[E6]at hst
   ·exact r2 k hk
def Xha (hE:Hz X E) (K:B0 X S a) (hg:S.g=get A) {T:TypeId} {x:Operand} {d:Nat} (ho:o.op = .box T x) (hod:o.dst=some d) (hd:d<X.nt) (h:Au E o A Kc=some r):Gp X o a S.w A Kc r:=by
 unfold Au at h;rw[ho,hod]at h;simp only at h;split at h
 ·rename_i ti s hti hs
  cases hmv:mvO E x with
  |true=>
   rw[hmv,cond_true]at h;obtain⟨hq,h⟩:=cs h;simp only[Va]at hq;obtain⟨⟨⟨q1,q2⟩,q3⟩,q4⟩:=hq;have hnp:X.np≤d:=hE.np ▸ (Vj q4);have hlt:ti.ty.sz<999:=Vj q3;have hlen:(parts s).length=ti.ty.sz:=Ve q2;have ht:=hE.ti _ _ hti;have hnt:=Nd (X:=X) (s:=s) rfl hlen ht;obtain⟨pl,hsv⟩:=Gj hE K hg hs;have hown:=P7 q1
   obtain⟨us,hsh,hls⟩:∃ us,Ra s (a.eval x) us∧Aa X.P S (λ n => .tm 0 (pth s n)) 0 (parts s) us:=by
    cases s with
    |one y=>exact⟨[_],rfl,Aa.relab (f:=λ _ => .pl pl []) (xs:=[y]) hown ⟨hsv,trivial⟩⟩
    |agg l=>
     obtain⟨us,e1,e2⟩:=hsv;exact⟨us,e1,e2.relab hown⟩
    |tup vs=>exact absurd rfl (hnt vs)
   obtain⟨hone,hnohd⟩:=Kta K hg q1 hls;obtain⟨S',K',w',g'⟩:=Ksa K hg (T:=T) hd hls (Fwa rfl hnt) (by rw[hlen];exact hlt) hnohd hnp;rw[hlen]at g';refine⟨_,h,Ap (S:=S') (v := .pointer (some ⟨S.w.heap.size,0,none⟩)) ?_ (by rw[hod];exact K') g'⟩;rw[w'];unfold execOp;simp[ho,Instr.box,newVar,newRow,H5 hsh hnt hone]
  |false=>
  rw[hmv,cond_false]at h;obtain⟨hq,h⟩:=cs h;simp only[Va]at hq;obtain⟨⟨⟨q1,q2⟩,q3⟩,q4⟩:=hq;have hnp:X.np≤d:=hE.np ▸ (Vj q4);have hlt:ti.ty.sz<999:=Vj q3;have hlen:((parts s).map (kept A)).length=ti.ty.sz:=Ve q2;have ht:=hE.ti _ _ hti;have hnt:=Nd (X:=X) (s:=s) (by simp) hlen ht;obtain⟨S1,K1,g1,w1,b1,p1,L1,x1,heads,_,us,hsh,hls⟩:=Kia hE K hg hs hnt 0;obtain⟨S',K',w',g'⟩:=Ksa K1 g1 (T:=T) hd hls (Fwa (by simp) hnt) (by rw[hlen];exact hlt) (Ji q1) hnp
  have hv:(get (ups A (Hw A (parts s)++gone x s)) (H d)).1=(get A (H d)).1:=by rw[← g1,← hg];exact(heads d).1
  rw[hv,hlen,← Ay]at g';refine⟨_,h,Ap (S:=S') (v := .pointer (some ⟨S1.w.heap.size,0,none⟩)) ?_ (by rw[hod];exact K') g'⟩;rw[w',w1];unfold execOp;simp[ho,Instr.box,newVar,newRow,H5 hsh hnt (Mq q1 hls)]
 ·cases h
def Fxa:∀ (us:List Value) (n off:Nat) (cells:Array Value),off+n+us.length≤cells.size→
  (us.zipIdx n).foldl (λ cs (x:Value×Nat)=>cs.setIfInBounds (off+x.2) x.1) cells=(cells.toList.take (off+n)++us++cells.toList.drop (off+n+us.length)).toArray
 |[],n,off,cells,h=>by simp
 |c::us,n,off,cells,h=>by
  simp only[Vh]at h;simp only[List.zipIdx_cons,Yx];rw[Fxa us (n+1) off _ (by simp;omega)]
  have hlt:off+n<cells.toList.length:=by rw[Zc];omega
  congr 1;rw[Array.toList_setIfInBounds]
  have e1:(cells.toList.set (off+n) c).take (off+(n+1))=cells.toList.take (off+n)++[c]:=by
   rw[← Zk,List.take_add_one,Bwb hlt,D6b (Vv _)];rfl
  have e2:(cells.toList.set (off+n) c).drop (off+(n+1)+us.length)=cells.toList.drop (off+n+(c::us).length):=by
   rw[List.drop_set_of_lt (by omega)];congr 1;simp only[Vh];omega
  rw[e1,e2];simp
def P8 {place:Nat→Option (Nat×Nat)} {cells:Array Value} {i off z:Nat} {v:Value} {us:List Value} {rest:List (Nat×Value)} (hp:place i=some (off,z)) (hv:v.cells=us.toArray) (hz:us.length=z) (hle:off+z≤cells.size):
  Instr.fill place cells ((i,v)::rest)=Instr.fill place (cells.toList.take off++us++cells.toList.drop (off+z)).toArray rest:=by
 subst hz;have hf:=Fxa us 0 off cells (by omega);simp only[Zu]at hf;simp only[Instr.fill,hp,hv,Bpb];rw[if_neg (by simp;omega)];congr 1;rw[← hf];simp
def Sj (off:Nat):Nat→List Nat→Option Lab:=λ n q=>if n=1 then (match q with
 |[]=>some (.tm 0 [off])
 |[j]=>some (.tm 0 [off+j])
 |_=>none) else none
def Pta (off:Nat):∀ n q,Sj off n q≠some .no:=by
 intro n q;unfold Sj;split
 ·split<;>simp
 ·simp
def Ula {s:Sv} {off:Nat} {m:List Lf} (hm:m.length=(parts s).length) (hnt:∀ vs,s ≠ .tup vs):∀ j,j<m.length→Sj off 1 (pth s j)=some (.tm 0 [off+j]):=by
 intro j hj
 cases s with
 |one x=>
  have:j=0:=by simp[parts]at hm;omega
  subst this;rfl
 |agg l=>rfl
 |tup vs=>exact absurd rfl (hnt vs)
def Kua {s:Sv} {m:List Lf} {z:Nat} (hm:m.length=(parts s).length) (h:m.length=z) (hz:0<z):∀ vs,s ≠ .tup vs:=by
 intro vs e;subst e;simp[parts]at hm;simp[hm]at h;omega
def Sk (hE:Hz X E) {T:TypeId} {t:TI} (ht:TOk X.P T t) {fs:Array Field} (hfs:Ja X.P fs.toList t.fo=true) (places:List (Nat×Nat)) (hpl:∀ i o,nth t.fo i=some o→places[i]? = some (o.1,o.2.1)):
  ∀ (ps:List (Nat×Operand)) {S:Sit} {A:Ab} {l:List Lf} {us0:List Up} {cs:List Value} {l':List Lf} {us':List Up},B0 X S a→S.g=get A→Aa X.P S (λ j => .tm 0 [j]) 0 l cs→A4 l=true→Kq E A t l us0 ps=some (l',us')→
  ∃ S' U cs',us'=us0++U∧B0 X S' a∧S'.g=get (ups A U)∧S'.w=S.w∧Aa X.P S' (λ j => .tm 0 [j]) 0 l' cs'∧l'.length=l.length∧
   Instr.fill (places.toArray[·]?) cs.toArray (ps.map λ p=>(p.1,a.eval p.2))=some cs'.toArray
 |[],S,A,l,us0,cs,l',us',K,hg,hl,hst,h=>by
  simp only[Kq,Vc,Vx]at h;obtain⟨rfl,rfl⟩:=h;exact⟨S,[],cs,by simp,K,hg,rfl,hl,rfl,rfl⟩
 |(i,x)::ps,S,A,l,us0,cs,l',us',K,hg,hl,hst,h=>by
  simp only[Kq]at h;split at h
  ·cases h
  ·rename_i off z ag hn;have hpi:=hpl i _ hn;obtain⟨fd,_,_,_,hz0,_⟩:=N8 hfs hn;simp only at hz0;have hlen:=hl.len;split at h
   ·-- the literal nil
    rw[csi]at h;obtain⟨hb,h⟩:=h;have hz1:z=1:=Ve hb;subst hz1;split at h
    ·rename_i e r' hleaf;rw[H2]at hleaf;have hoff:off<l.length:=(Yk.1 hleaf).1
     have hl2:Aa X.P S (λ j => .tm 0 [j]) 0 l (cs.take off++[.slice none 0 0]++cs.drop (off+1)):=by
      have hsz:U2 X.P e r'.sz:=by
       obtain⟨x',u',e1,_,_,e4⟩:=hl.at off hoff;rw[Vb,hleaf]at e1;simp only[Wp]at e1;subst e1;exact Eo.top e4 |>.1
      have h1:=Aa.setAll (P:=X.P) (S:=S) (f:=λ j => .tm 0 [j]) (l:=l) (us:=cs) (m:=[.own e r' []]) (ms:=[.slice none 0 0]) (off:=off) (hl.take off) ⟨Wx hsz,trivial⟩ (by have:=hl.drop (off+1);rwa [Wg]at this) (by simp only[Dqb];omega)
      have h2:Vf.setAll l off [.own e r' []]=l:=by
       unfold Vf.setAll;rw[Vg hoff]at hleaf;simp only[Vc]at hleaf;rw[← hleaf];simp only[Dqb,Vo,Yo];rw[← Zj hoff,Wh]
      rw[h2]at h1;exact h1
     obtain⟨S',U,cs',e1,K',g',w',l1,l2,hf⟩:=Sk hE ht hfs places hpl ps K hg hl2 hst h;refine⟨S',U,cs',e1,K',g',w',l1,l2,?_⟩;rw[Xs,P8 (us:=[.slice none 0 0]) (off:=off) (z:=1) (by simpa using hpi) rfl rfl (by simp;omega)];exact hf
    ·cases h
   ·split at h
    ·rename_i s hs;rw[csi]at h;obtain⟨hq,h⟩:=h;simp only[Va]at hq;obtain⟨⟨q1,q2⟩,q3⟩:=hq;have hmz:((parts s).map (kept A)).length=z:=Ve q2;have hle:off+z≤l.length:=Vj q3;have hnt:=Kua (s:=s) (by simp) hmz hz0;obtain⟨S1,K1,g1,w1,b1,p1,L1,x1,heads,tms,us,hsh,hls⟩:=Kia hE K hg hs hnt 1;obtain⟨K2,L2⟩:=K1.names (Sj off) (Pta off);have hone:=Mq q1 hls;have hul:=hls.len
     have old:∀ j x u,B8 X.P S (.tm 0 [j]) x u→B8 X.P { S1 with O:=atO S1.O (Sj off) } (.tm 0 [j]) x u:=λ j x u hx=>
      (tms 0 [j] x u hx).later L2 (λ k hk=>⟨K5 hk (by simp[Sj]),rfl⟩)
     have hl2:=Aa.setAll (P:=X.P) (S := { S1 with O:=atO S1.O (Sj off) }) (f:=λ j => .tm 0 [j]) (l:=l) (us:=cs) (m:=(parts s).map (kept A)) (ms:=us) (off:=off)
      ((hl.take off).imp (λ j x u hx=>old j x u hx))
      (by
       have h1:Aa X.P { S1 with O:=atO S1.O (Sj off) } (λ j => .tm 0 [off+j]) 0 ((parts s).map (kept A)) us:=by
        refine Aa.impAt (λ n _ n2 x u hx=>?_) hls;exact hx.later L2 (λ k hk=>⟨He hk (Ula (m:=(parts s).map (kept A)) (by simp) hnt n (by omega)),rfl⟩)
       have shiftBack:∀ (m:List Lf) (us:List Value) (i:Nat),Aa X.P { S1 with O:=atO S1.O (Sj off) } (λ j => .tm 0 [off+j]) i m us→Aa X.P { S1 with O:=atO S1.O (Sj off) } (λ j => .tm 0 [j]) (off+i) m us:=by
        intro m
        induction m with
        |nil=>intro us i h;cases us<;>first|trivial|exact h.elim
        |cons x m ih=>
         intro us i h
         cases us with
         |nil=>exact h.elim
         |cons u us=>exact⟨h.1,ih us (i+1) h.2⟩
       exact shiftBack _ _ 0 h1)
      (by
       have:=(hl.drop (off+((parts s).map (kept A)).length)).imp (S' := { S1 with O:=atO S1.O (Sj off) }) (f':=λ j => .tm 0 [j]) (λ j x u hx=>old j x u hx)
       rwa [Wg]at this) (by rw[hmz];exact hle)
     have hst2:A4 (Vf.setAll l off ((parts s).map (kept A)))=true:=by
      have tk:∀ (l:List Lf) n,A4 l=true→A4 (l.take n)=true:=by
       intro l
       induction l with
       |nil=>intro n _;cases n<;>rfl
       |cons x l ih=>
        intro n h
        cases n with
        |zero=>rfl
        |succ n=>cases x<;>first|(simp[A4]at h;done)|exact ih n (by simpa[A4] using h)
      have dr:∀ (l:List Lf) n,A4 l=true→A4 (l.drop n)=true:=by
       intro l
       induction l with
       |nil=>intro n _;cases n<;>rfl
       |cons x l ih=>
        intro n h
        cases n with
        |zero=>exact h
        |succ n=>cases x<;>first|(simp[A4]at h;done)|exact ih n (by simpa[A4] using h)
      have app:∀ l m,A4 l=true→A4 m=true→A4 (l++m)=true:=by
       intro l m hl hm
       induction l with
       |nil=>exact hm
       |cons x l ih=>cases x<;>first|(simp[A4]at hl;done)|exact ih (by simpa[A4] using hl)
      exact app _ _ (app _ _ (tk _ _ hst) q1) (dr _ _ hst)
     obtain⟨S',U,cs',e1,K',g',w',l1,l2,hf⟩:=Sk hE ht hfs places hpl ps K2 g1 hl2 hst2 h;refine⟨S',(Hw A (parts s)++gone x s)++U,cs',by rw[e1,Vo],K',by rw[Ay];exact g',w'.trans w1,l1,l2.trans ?_,?_⟩
     ·unfold Vf.setAll;simp only[Vi,Vq,We];omega
     ·rw[Xs,P8 (us:=us) (off:=off) (z:=z) (by simpa using hpi) (H5 hsh hnt hone) (hul.trans hmz) (by simp;omega)];rw[hmz]at hf;exact hf
    ·cases h
def Ul {P:Program} {w:World}:∀ (fs:List Field) (os:List (Nat×Nat×Bool)),Ja P fs os=true→(fs.mapM (λ f=>do pure (f.offset,← sizeOf f.type):Field→Sem (Nat×Nat))).run P w = .ok (os.map λ o=>(o.1,o.2.1)) w
 |[],[],_=>rfl
 |[],_::_,h=>by simp[Ja]at h
 |_::_,[],h=>by simp[Ja]at h
 |f::fs,o::os,h=>by
  simp only[Ja,Va]at h;obtain⟨⟨⟨⟨⟨h1,h2⟩,_⟩,_⟩,_⟩,h5⟩:=h
  have e1:f.offset=o.1:=by simpa using h1
  have e2:(P.info? f.type).map (λ i=>i.size)=some o.2.1:=by simpa using h2
  rw[List.mapM_cons];simp only[Wc,I0 e2,Wb,Ya,Ul fs os h5,e1,Xs]
def Pua (hE:Hz X E) (K:B0 X S a) (hg:S.g=get A) {T:TypeId} {ps:Array (Nat×Operand)} {d:Nat} (ho:o.op = .build T ps) (hod:o.dst=some d) (hd:d<X.nt) (h:Au E o A Kc=some r):Gp X o a S.w A Kc r:=by
 unfold Au at h;rw[ho,hod]at h;simp only at h;split at h
 ·rename_i ti hti;split at h
  ·rename_i l us hb;obtain⟨hag,h⟩:=cs h;have ht:=hE.ti _ _ hti;obtain⟨fs,hu,hfs⟩:=Sc ht hag;obtain⟨v,z1,z2,z3⟩:=P6 (w:=S.w) ht;obtain⟨S1,U,cs',e1,K1,g1,w1,l1,_,hf⟩:=Sk hE ht hfs (ti.fo.map λ o=>(o.1,o.2.1)) (λ i o' hi=>by rw[H2]at hi;rw[Zw,hi];rfl) ps.toList K hg (P5 ti.ty ht.sz (λ j => .tm 0 [j]) 0) (I1 _) hb;simp only[Wl]at e1;subst e1
   let hh:Nat→List Nat→Option Lab:=λ n q=>if n=0 then some (.pl d q) else none
   have L2:=Fj S1 hh d (.agg l) (.agg cs'.toArray);have hsv:Hh X.P (J9 S1 hh d (.agg l) (.agg cs'.toArray)) d (.agg l) (.agg cs'.toArray):=⟨cs',rfl,l1.imp (λ j x u hx=>hx.later L2 (λ k hk=>⟨He hk (by simp[hh]),rfl⟩))⟩
   have K2:=K1.put hd hh (by intro n q p hp;simp only[hh]at hp;split at hp<;>first|(cases hp;exact⟨q,rfl⟩)|cases hp) _ _ hsv
   refine⟨_,h,Ap (S:=J9 S1 hh d (.agg l) (.agg cs'.toArray)) ?_ (by rw[hod];exact K2) ?_⟩
   ·show _=Result.ok _ S1.w;rw[w1];unfold execOp;simp only[ho,Wc];unfold Instr.build;simp only[Wc,z1,Wb,run_underlying hu,z2];have hm:=Ul (P:=X.P) (w:=S.w) fs.toList ti.fo hfs
    have hm2:(fs.mapM (λ f=>do pure (f.offset,← sizeOf f.type):Field→Sem (Nat×Nat))).run X.P S.w = .ok (ti.fo.map λ o=>(o.1,o.2.1)).toArray S.w:=by
     rw[Dfb,Sem.run_map,hm];rfl
    simp only[Wc,Ya]at hm2 ⊢;rw[hm2];simp only[Wb]
    have e2:(ps.map λ x=>(x.1,a.eval x.2)).toList=ps.toList.map λ p=>(p.1,a.eval p.2):=by simp
    rw[e2,hf];rfl
   ·show upd S1.g d _=_;rw[Ay,Ao,← g1]
  ·cases h
 ·cases h
end
end

section
attribute [local irreducible] C H
section
variable {X:Cx} {S S':Sit} {a:Act} {E:En} {A:Ab} {o:Oper} {R:Type} {Kc:List Up→Option R} {r:R}
def M8:∀ t:Ty,0<t.sz
 |.i _=>Nat.one_pos
 |.b=>Nat.one_pos
 |.s=>Nat.one_pos
 |.sl _ _=>Nat.one_pos
 |.ow _ _=>Nat.one_pos
 |.pr x y=>by have:=M8 x;show 0<x.sz+y.sz;omega
def X7 {P:Program} {G:Nat→Prop} {w:World}:∀ (t:Ty) (x:t.den) (vs:List Value),t.rep P G w x vs→∀ u∈vs,u.oneCell'=true
 |.i _,_,_,h=>by subst h;simp[Value.oneCell']
 |.b,_,_,h=>by subst h;simp[Value.oneCell']
 |.s,_,_,h=>by subst h;simp[Value.oneCell']
 |.sl _ _,_,_,⟨v,e,_,ad,cap,cs,e2,_⟩=>by subst e e2;simp[Value.oneCell']
 |.ow _ _,_,_,⟨v,e,_,ad,cap,cs,e2,_⟩=>by subst e e2;simp[Value.oneCell']
 |.pr x y,p,_,⟨c,d,e,h1,h2⟩=>by
  subst e;intro u hu;rcases Vl.1 hu with h|h
  ·exact X7 x p.1 c h1 u h
  ·exact X7 y p.2 d h2 u h
def Rows.all {α:Type} {R':α→List Value→Prop} {Q:Value→Prop} (hR:∀ x c,R' x c→∀ u∈c,Q u):∀ {xs:List α} {cs:List Value},Rows R' xs cs→∀ u∈cs,Q u
 |[],_,h=>by simp only[Rows]at h;subst h;simp
 |_::_,_,⟨c,d,e,h1,h2⟩=>by
  subst e;intro u hu;rcases Vl.1 hu with h|h
  ·exact hR _ _ h1 u h
  ·exact h2.all hR u h
def Rm (K:B0 X S a) {A1:Ab} (hg:S.g=get A1) {d:Nat} (hd:d<X.nt) {w':World} {row:Option Nat} {e:TypeId} {r':Ty} {xs:List r'.den} {v:Value} {cs:List Value} {b2:List Nat} (hw:S.w.grownBy w' row) (hrow:∀ k,row=some k→∃ n q,S.O k = .tm n q)
  (hsz:U2 X.P e r'.sz) (hown:w'.ownsRow 0 e r'.sz v xs.length cs) (hrows:E3 (λ x c b=>r'.dep X.P (λ k=>S.O k = .fz) S.w x c b) xs cs b2) (hn:b2.Nodup) (hb:∀ k∈b2,∃ q,S.O k = .tm 0 q) (hb2:∀ k∈b2,row≠some k∧v.ownBlock≠some k)
  (hv:∀ k,v.ownBlock=some k→row=some k∨S.w.heap.size≤k):
  ∃ S',B0 X S' (a.put (some d) v)∧S'.w=w'∧S'.g=get (ups A1 [⟨d,false,.one (.own e r' xs)⟩]):=by
 obtain⟨K1,L1⟩:=K.grow (w':=w') (row:=row) (O':=λ k=>if v.ownBlock=some k then .tm 0 [] else S.O k) hw hrow
  (λ k hk hnt=>by
   show (if v.ownBlock=some k then _ else _)=_;rw[if_neg];intro e1;rcases hv k e1 with h|h
   ·obtain⟨n,q,h2⟩:=hrow k h;exact hnt n q h2
   ·omega)
  (λ k hk=>by
   by_cases h:v.ownBlock=some k
   ·exact(hown.lt k h).2
   ·simp only[h,if_false]at hk
    exact Yf (K.lt k hk) hw.size)
 let O1:Nat→Lab:=λ k=>if v.ownBlock=some k then .tm 0 [] else S.O k
 let hh:Nat→List Nat→Option Lab:=λ n q=>if n=0 then some (.pl d []) else none
 have L2:=Fj (Sd S w' O1) hh d (.one (.own e r' xs)) v
 have hlab:∀ k∈v.ownBlock.toList++b2,(J9 (Sd S w' O1) hh d (.one (.own e r' xs)) v).O k = .pl d []:=λ k hk=>by
  have h1:∃ q,O1 k = .tm 0 q:=by
   rcases Vl.1 hk with hk|hk
   ·refine⟨[],if_pos ?_⟩
    cases hvb:v.ownBlock with
    |none=>rw[hvb]at hk;simp at hk
    |some j=>rw[hvb]at hk;simp at hk;rw[hk]
   ·obtain⟨q,hq⟩:=hb k hk;exact⟨q,(if_neg (hb2 k hk).2).trans hq⟩
  obtain⟨q,hq⟩:=h1;exact He (h:=hh) hq (by simp[hh])
 have hown1:Eo X.P (J9 (Sd S w' O1) hh d (.one (.own e r' xs)) v).O w' (.pl d []) e r' xs v:=by
  refine⟨v.ownBlock.toList++b2,⟨v,cs,b2,rfl,hsz,hown,hrows.mono (λ x c b hbb h=>Ty.dep_mono (λ k hk=>(L2.fz k (L1.fz k hk).1).1) (λ k hk=>(L1.fz k hk).2) r' x c b (λ k hk=>?_) h),rfl⟩,?_,hlab⟩
  ·have hk2:=hbb k hk;obtain⟨q,hq⟩:=hb k hk2;exact hw.block k (K.lt k (by rw[hq];simp)) (λ e=>(hb2 k hk2).1 e.symm)
  ·rw[Wq]
   refine⟨by cases v.ownBlock<;>simp,hn,λ k hk k' hk' e=>?_⟩
   subst e
   cases hvb:v.ownBlock with
   |none=>rw[hvb]at hk;simp at hk
   |some j=>
    rw[hvb]at hk;simp at hk;exact(hb2 k hk').2 (by rw[hvb,hk])
 have K2:=K1.put hd hh (by intro n q p hp;simp only[hh]at hp;split at hp<;>first|(cases hp;exact⟨[],rfl⟩)|cases hp) (.one (.own e r' xs)) v hown1
 refine⟨_,K2,rfl,?_⟩;show upd S.g d _=_;rw[Ao,← hg];rfl
def Kva (K:B0 X S a) {A1:Ab} (hg:S.g=get A1) {d:Nat} (hd:d<X.nt) {w':World} {row:Option Nat} {e:TypeId} {r':Ty} {xs:List r'.den} {v:Value} {cs:List Value} (hno:Ib r'=true) (hw:S.w.grownBy w' row) (hrow:∀ k,row=some k→∃ n q,S.O k = .tm n q)
  (hsz:U2 X.P e r'.sz) (hown:w'.ownsRow 0 e r'.sz v xs.length cs) (hrows:Rows (λ x c=>r'.rep X.P (λ k=>S.O k = .fz) S.w x c) xs cs) (hv:∀ k,v.ownBlock=some k→row=some k∨S.w.heap.size≤k):
  ∃ S',B0 X S' (a.put (some d) v)∧S'.w=w'∧S'.g=get (ups A1 [⟨d,false,.one (.own e r' xs)⟩]):=
 Rm K hg hd hw hrow hsz hown ((E3.flat (λ x c b=>Ty.dep_flat r' x c b hno)).2 ⟨hrows,rfl⟩) (by simp) (by simp) (by simp) hv
def Ob:∀ (t t':Ty),R6 t t'=true→Ei t=Ei t'
 |.i k,.i k',h=>by simp[R6]at h;subst h;rfl
 |.b,.b,_=>rfl
 |.s,.s,_=>rfl
 |.sl _ _,.sl _ _,_=>rfl
 |.sl _ _,.ow _ _,_=>rfl
 |.ow _ _,.sl _ _,_=>rfl
 |.ow _ _,.ow _ _,_=>rfl
 |.pr x y,.pr x' y',h=>by
  simp only[R6,Va]at h;show Ei x++Ei y=_;rw[Ob x x' h.1,Ob y y' h.2];rfl
 |.i _,.b,h | .i _,.s,h | .i _,.sl _ _,h | .i _,.ow _ _,h | .i _,.pr _ _,h=>by simp[R6]at h
 |.b,.i _,h | .b,.s,h | .b,.sl _ _,h | .b,.ow _ _,h | .b,.pr _ _,h=>by simp[R6]at h
 |.s,.i _,h | .s,.b,h | .s,.sl _ _,h | .s,.ow _ _,h | .s,.pr _ _,h=>by simp[R6]at h
 |.sl _ _,.i _,h | .sl _ _,.b,h | .sl _ _,.s,h | .sl _ _,.pr _ _,h=>by simp[R6]at h
 |.ow _ _,.i _,h | .ow _ _,.b,h | .ow _ _,.s,h | .ow _ _,.pr _ _,h=>by simp[R6]at h
 |.pr _ _,.i _,h | .pr _ _,.b,h | .pr _ _,.s,h | .pr _ _,.sl _ _,h | .pr _ _,.ow _ _,h=>by simp[R6]at h
def X8 {P:Program} {G:Nat→Prop} {w:World}:∀ (t:Ty),szB P t=true→t.rep P G w t.dflt (Ei t)
 |.i _,_=>rfl
 |.b,_=>rfl
 |.s,_=>rfl
 |.sl e r,h=>by
  simp only[szB,Va,beq_iff_eq]at h;exact⟨_,rfl,h.1,none,0,[],rfl,Vv _,rfl,λ h=>absurd rfl h⟩
 |.ow e r,h=>by
  simp only[szB,Va,beq_iff_eq]at h;exact⟨_,rfl,h.1,none,0,[],rfl,Vv _,rfl,λ h=>absurd rfl h⟩
 |.pr x y,h=>by
  simp only[szB,Va]at h;exact⟨_,_,rfl,X8 x h.1,X8 y h.2⟩
def Nf:∀ t:Ty,Ei (shp t)=Ei t
 |.i _=>rfl
 |.b=>rfl
 |.s=>rfl
 |.sl _ _=>rfl
 |.ow _ _=>rfl
 |.pr x y=>by show Ei (shp x)++Ei (shp y)=Ei x++Ei y;rw[Nf x,Nf y]
def Q8 {P:Program}:∀ t:Ty,szB P (shp t)=szB P t
 |.i _=>rfl
 |.b=>rfl
 |.s=>rfl
 |.sl e r=>by show (_&&szB P (shp r))=(_&&szB P r);rw[Q8 r,Ir r]
 |.ow e r=>by show (_&&szB P (shp r))=(_&&szB P r);rw[Q8 r,Ir r]
 |.pr x y=>by show (szB P (shp x)&&szB P (shp y))=_;rw[Q8 x,Q8 y];rfl
def X9 {P:Program} {G:Nat→Prop} {w:World}:∀ (t:Ty),szB P t=true→t.dep P G w t.dflt (Ei t) []
 |.i _,_=>⟨rfl,rfl⟩
 |.b,_=>⟨rfl,rfl⟩
 |.s,_=>⟨rfl,rfl⟩
 |.sl e r,h=>⟨X8 (.sl e r) h,rfl⟩
 |.ow e r,h=>by
  simp only[szB,Va,beq_iff_eq]at h;exact⟨_,[],[],rfl,h.1,World.ownsRow_nil _ _ _ _,⟨rfl,rfl⟩,rfl⟩
 |.pr x y,h=>by
  simp only[szB,Va]at h;exact⟨_,_,[],[],rfl,rfl,X9 x h.1,X9 y h.2⟩
def E3.replicate {α:Type} {R:α→List Value→List Nat→Prop} {x:α} {c:List Value} (h:R x c []):∀ n,E3 R (List.replicate n x) (List.replicate n c).flatten []
 |0=>by simp[E3]
 |n+1=>⟨c,_,[],[],by simp[D4b],rfl,h,E3.replicate h n⟩
def Kwa (l:List Value) (hl:0<l.length):∀ n,(madeCells l.toArray (n*l.length)).toList=(List.replicate n l).flatten:=by
 have key:∀ n,(List.range (n*l.length)).map (λ j=>l.toArray[j % l.toArray.size]!)=(List.replicate n l).flatten:=by
  intro n
  induction n with
  |zero=>simp
  |succ n ih=>
   rw[Zb,Zh,B4b,List.range_add,Bqb,Byb,D4b,List.flatten_cons,← ih];congr 1
   ·apply Dnb
    ·simp
    ·intro i h1 h2;simp at h1;simp[Bhb h1,h1]
   ·apply Bbb;intro j _;simp
 intro n;rw[← key n];simp[madeCells]
def B3a (hE:Hz X E) (K:B0 X S a) (hg:S.g=get A) {T:TypeId} {x y:Operand} {d:Nat} (ho:o.op = .makeSlice T x y) (hod:o.dst=some d) (hd:d<X.nt) (h:Au E o A Kc=some r):Gp X o a S.w A Kc r:=by
 unfold Au at h;rw[ho,hod]at h;simp only at h;split at h
 ·rename_i e r' by_ fo n m hT hx hy;have ex:=(K7 hE K hg hx).1;have ey:=(K7 hE K hg hy).1;split at h
  ·rename_i te hte;rw[csi]at h;obtain⟨hq,h⟩:=h;simp only[Va,decide_eq_true_eq]at hq;obtain⟨hz,rfl⟩:=hq
   by_cases h0:0≤n
   ·by_cases hb:n*te.by_≤140737488355328
    ·simp only[h0,hb,decide_true,cond_true]at h;have hTk:=hE.ti _ _ hT;have hek:=hE.ti _ _ hte
     have hu:X.P.underlying T=some (.slice e):=by
      have:=hTk.desc;unfold Q4 at this
      split at this<;>simp_all
     have hszs:=hTk.sz;simp only[szB,Va,beq_iff_eq]at hszs;obtain⟨i,i1,i2,i3,i4,i5⟩:=hek.info;obtain⟨z,z1,z2,z3⟩:=P6 (w:=S.w) hek
     have iz:i.zero=some z:=by
      simp only[zeroValue,typeInfo,Wc,run_program,Wb,i1,Ya]at z1;rw[i4]at z1 ⊢;simp only[Ya,D7b,and_true]at z1;rw[z1]
     have hsame:=Ob _ _ hz
     have hsz1:i.size=r'.sz:=by
      have:=hszs.1;rw[i1]at this
      simpa using this
     have hb1:(i.bytes:Int)*n≤281474976710656:=by rw[i3,Int.mul_comm];omega
     have h63:n≤140737488355328:=by
      have h1:(1:Int)≤te.by_:=by have:=hek.by0;omega
      have:=Int.mul_le_mul_of_nonneg_left h1 h0;rw[Int.mul_one]at this;omega
     have hr:=run_make (P:=X.P) S.w T e i z hu i1 iz .i64 .i64 n n h0 (Zza _) hb1 (by omega)
     have key:∀ r2:Ty,shp r2=shp r'→Kc [⟨d,false,.one (.own e r2 (List.replicate n.toNat r2.dflt))⟩]=some r→Gp X o a S.w A Kc r:=by
      intro r2 hs2 hk
      have hsz2:r2.sz=r'.sz:=by rw[← Ir r2,hs2,Ir r']
      have hzc2:Ei r2=Ei r':=by rw[← Nf r2,hs2,Nf r']
      have hszb2:szB X.P r2=true:=by rw[← Q8 r2,hs2,Q8 r'];exact hszs.2
      have hcl:(Ei r2).length=r2.sz:=Kt r2
      have hflat:(madeCells z.cells (n.toNat*i.size)).toList=(List.replicate n.toNat (Ei r2)).flatten:=by
       rw[z2,hsame,hsz1,← hzc2,← hsz2,← hcl];exact Kwa _ (by rw[hcl];exact M8 r2) _
      obtain⟨S',K',w',g'⟩:=Rm K hg hd (w':=S.w.alloc (.cells (madeCells z.cells (n.toNat*i.size)) e)) (row:=none) (e:=e) (r':=r2) (xs:=List.replicate n.toNat r2.dflt) (v := .slice (some ⟨S.w.heap.size,0,none⟩) n.toNat n.toNat)
       (cs:=(madeCells z.cells (n.toNat*i.size)).toList) (b2:=[]) (World.grownBy_alloc _ _ _) (by simp) (by rw[hsz2];exact hszs.1)
       (by rw[Drb];exact World.ownsRow_lit S.w _ n.toNat (Vw _) (by simp only[maxLen];omega) (by rw[size_madeCells,hsz1,hsz2]))
       (by rw[hflat];exact E3.replicate (X9 r2 hszb2) _) (by simp) (by simp) (by simp) (by
        intro k hk;simp only[Value.ownBlock,Vc]at hk
        exact .inr (Cgb hk))
      refine⟨_,hk,Ap (S:=S') (v := .slice (some ⟨S.w.heap.size,0,none⟩) n.toNat n.toNat) ?_ (by rw[hod];exact K') g'⟩;rw[w'];unfold execOp;simp[ho,ex,ey,hr]
     split at h
     ·exact key r' rfl h
     ·rename_i r2 _
      by_cases hs2:shp r2=shp r'
      ·simp only[hs2,decide_true,cond_true]at h;exact key r2 hs2 h
      ·simp[hs2]at h
    ·simp[h0,hb]at h
   ·simp[h0]at h
  ·cases h
 ·cases h
def Fya (hE:Hz X E) {e:TypeId} {r':Ty} (N:Nat):∀ (ps:List (Nat×Operand)) {S:Sit} {A:Ab} {i:Nat} {ys:List r'.den} {us':List Up} {zs:List r'.den} {cs:List Value},B0 X S a→S.g=get A→Aea E A e r' i ps=some (ys,us')→zs.length=i→
  Rows (λ x c=>r'.rep X.P (λ k=>S.O k = .fz) S.w x c) zs (cs.take (i*r'.sz))→cs.length=N*r'.sz→i+ps.length≤N→
  ∃ S',∃ cs':List Value,B0 X S' a∧S'.g=get (ups A us')∧S'.w=S.w∧ys.length=ps.length∧cs'.length=N*r'.sz∧Rows (λ x c=>r'.rep X.P (λ k=>S'.O k = .fz) S'.w x c) (zs++ys) (cs'.take ((i+ps.length)*r'.sz))∧
   Instr.fill (λ j=>some (j*r'.sz,r'.sz)) cs.toArray (ps.map λ p=>(p.1,a.eval p.2))=some cs'.toArray
 |[],S,A,i,ys,us',zs,cs,K,hg,h,hi,hz,hcl,hN=>by
  simp only[Aea,Vc,Vx]at h;obtain⟨rfl,rfl⟩:=h;exact⟨S,cs,K,hg,rfl,rfl,hcl,by simpa using hz,rfl⟩
 |(j,x)::ps,S,A,i,ys,us',zs,cs,K,hg,h,hi,hz,hcl,hN=>by
  simp only[Aea]at h;cases hb:Nat.beq i j
  ·rw[hb]at h;simp at h
  rw[hb,cond_true]at h;have hij:i=j:=Ve hb;subst hij;split at h
  ·rename_i s hs;cases hst:A4 ((parts s).map (kept A))
   ·rw[hst]at h;simp at h
   rw[hst,cond_true]at h;split at h
   ·rename_i y hy;split at h
    ·rename_i ys1 us1 hrec;cases h
     have hnt:∀ vs,s ≠ .tup vs:=by
      intro vs e1;subst e1
      have:∀ t:Ty,mkT t []=none:=by intro t;induction t<;>simp_all [mkT]
      simp[parts,mkW,this]at hy
     obtain⟨S1,K1,g1,w1,b1,p1,L1,x1,heads,tms,us,hsh,hls⟩:=Kia hE K hg hs hnt 0
     obtain⟨K2,L2⟩:=K1.names (Fva 0) (by intro n q;unfold Fva;split<;>simp)
     have hrep:=P3 hst hls;rw[Byb]at hrep;have hyr:=S7 hy hrep;have hul:=Ty.rep_len _ _ _ hyr;have hone:=Mq hst hls
     have hle:i*r'.sz+r'.sz≤cs.length:=by
      rw[hcl];have:=Wj r'.sz (show i+1≤N by simp only[Vh]at hN;omega);rw[Zb,Zh]at this;exact this
     have hz2:Rows (λ x c=>r'.rep X.P (λ k=>({ S1 with O:=atO S1.O (Fva 0) }:Sit).O k = .fz) ({ S1 with O:=atO S1.O (Fva 0) }:Sit).w x c) (zs++[y]) ((cs.take (i*r'.sz)++us++cs.drop (i*r'.sz+r'.sz)).take ((i+1)*r'.sz)):=by
      have e1:(cs.take (i*r'.sz)++us++cs.drop (i*r'.sz+r'.sz)).take ((i+1)*r'.sz)=cs.take (i*r'.sz)++us:=by
       rw[Cjb (by rw[Vi,Vq,hul,Zb,Zh];omega)]
      rw[e1];refine Rows.append (hz.mono (λ x c=>Ty.rep_mono (λ k hk=>(L2.fz k (L1.fz k hk).1).1) (λ k hk=>by show S1.w.heap[k]? = _;rw[w1]) r' x c)) ⟨us,[],by simp,hyr,rfl⟩
     obtain⟨S',cs',K',g',w',l1,l2,l3,hf⟩:=Fya hE N ps K2 (by show S1.g=_;exact g1) hrec (by simp[hi]) hz2 (by
      simp only[Vi,Vq,We,hul];omega) (by simp only[Vh]at hN;omega)
     refine⟨S',cs',K',by rw[Ay];exact g',w'.trans w1,by simp[l1],l2,?_,?_⟩
     ·rw[Vo,Yo]at l3;rw[Vh,show i+(ps.length+1)=i+1+ps.length by omega];exact l3
     ·rw[Xs,P8 (us:=us) (off:=i*r'.sz) (z:=r'.sz) rfl (H5 hsh hnt hone) hul (by simpa using hle)];exact hf
    ·cases h
   ·cases h
  ·cases h
def Fza (hE:Hz X E) {e:TypeId} {r':Ty} (N:Nat) (hall:G0 r'=true):∀ (ps:List (Nat×Operand)) {S:Sit} {A:Ab} {i:Nat} {ys:List r'.den} {us':List Up} {zs:List r'.den} {cs:List Value} {bz:List Nat},B0 X S a→S.g=get A→Afa E A e r' i ps=some (ys,us')→zs.length=i→
  E3 (λ x c b=>r'.dep X.P (λ k=>S.O k = .fz) S.w x c b) zs (cs.take (i*r'.sz)) bz→bz.Nodup→(∀ k∈bz,∃ n q,1000≤n∧n<1000+i∧S.O k = .tm n q)→cs.length=N*r'.sz→i+ps.length≤N→
  ∃ S',∃ cs':List Value,∃ b2,B0 X S' a∧S'.g=get (ups A us')∧S'.w=S.w∧ys.length=ps.length∧cs'.length=N*r'.sz∧E3 (λ x c b=>r'.dep X.P (λ k=>S'.O k = .fz) S'.w x c b) (zs++ys) (cs'.take ((i+ps.length)*r'.sz)) b2∧
   b2.Nodup∧(∀ k∈b2,∃ n q,1000≤n∧n<1000+(i+ps.length)∧S'.O k = .tm n q)∧Instr.fill (λ j=>some (j*r'.sz,r'.sz)) cs.toArray (ps.map λ p=>(p.1,a.eval p.2))=some cs'.toArray
 |[],S,A,i,ys,us',zs,cs,bz,K,hg,h,hi,hz,hbn,hbl,hcl,hN=>by
  simp only[Afa,Vc,Vx]at h;obtain⟨rfl,rfl⟩:=h;exact⟨S,cs,bz,K,hg,rfl,rfl,hcl,by simpa using hz,hbn,by simpa using hbl,rfl⟩
 |(j,x)::ps,S,A,i,ys,us',zs,cs,bz,K,hg,h,hi,hz,hbn,hbl,hcl,hN=>by
  simp only[Afa]at h;cases hb:Nat.beq i j
  ·rw[hb]at h;simp at h
  rw[hb,cond_true]at h;have hij:i=j:=Ve hb;subst hij;split at h
  ·rename_i s hs;split at h
   ·rename_i m us0 hgive;cases hst:O4 m
    ·rw[hst]at h;simp at h
    rw[hst,cond_true]at h;split at h
    ·rename_i y hy;split at h
     ·rename_i ys1 us1 hrec;cases h
      have hnt:∀ vs,s ≠ .tup vs:=by
       intro vs e1;subst e1
       have h1:∀ t:Ty,mkT t []=none:=by intro t;induction t<;>simp_all [mkT]
       have h2:=Rj hgive;have:m=[]:=Wk (by simpa[parts] using h2);subst this;simp[mkW,h1]at hy
      obtain⟨S1,K1,g1,G1,us,hsh,hls⟩:=Kna hE K hg hs hnt hgive (1000+i);obtain⟨mb,m1,m2,m3⟩:=Nc hst hls (Koa hnt (Rj hgive));have hyr:=X6 hall hy m1;have hul:=Ty.dep_len _ _ _ _ hyr;have hone:=Mq (Kg hst) hls
      have hle:i*r'.sz+r'.sz≤cs.length:=by
       rw[hcl];have:=Wj r'.sz (show i+1≤N by simp only[Vh]at hN;omega);rw[Zb,Zh]at this;exact this
      have hbl1:∀ k∈bz,∃ n q,1000≤n∧n<1000+i∧S1.O k = .tm n q:=λ k hk=>by
       obtain⟨n,q,h1,h2,h3⟩:=hbl k hk;exact⟨n,q,h1,h2,G1.tm n q k h3⟩
      have hz1:E3 (λ x c b=>r'.dep X.P (λ k=>S1.O k = .fz) S1.w x c b) zs (cs.take (i*r'.sz)) bz:=hz.mono (λ x c b _ h=>Ty.dep_mono (λ k hk=>(G1.later.fz k hk).1) (λ k _=>by rw[G1.w]) r' x c b (λ k _=>by rw[G1.w]) h)
      have hz2:E3 (λ x c b=>r'.dep X.P (λ k=>S1.O k = .fz) S1.w x c b) (zs++[y]) ((cs.take (i*r'.sz)++us++cs.drop (i*r'.sz+r'.sz)).take ((i+1)*r'.sz)) (bz++mb):=by
       have e1:(cs.take (i*r'.sz)++us++cs.drop (i*r'.sz+r'.sz)).take ((i+1)*r'.sz)=cs.take (i*r'.sz)++us:=by
        rw[Cjb (by rw[Vi,Vq,hul,Zb,Zh];omega)]
       rw[e1];exact hz1.append ⟨us,[],mb,[],by simp,by simp,hyr,rfl,rfl⟩
      have hbn2:(bz++mb).Nodup:=by
       rw[Wq];refine⟨hbn,m2,λ k hk k' hk' e=>?_⟩;subst e;obtain⟨n,q,_,h2,h3⟩:=hbl1 k hk;obtain⟨n',_,_,h4⟩:=m3 k hk';rw[h3]at h4;cases h4;omega
      have hbl2:∀ k∈bz++mb,∃ n q,1000≤n∧n<1000+(i+1)∧S1.O k = .tm n q:=λ k hk=>by
       rcases Vl.1 hk with hk|hk
       ·obtain⟨n,q,h1,h2,h3⟩:=hbl1 k hk;exact⟨n,q,h1,by omega,h3⟩
       ·obtain⟨n',_,_,h4⟩:=m3 k hk;exact⟨_,_,by omega,by omega,h4⟩
      obtain⟨S',cs',b2,K',g',w',l1,l2,l3,l4,l5,hf⟩:=Fza hE N hall ps K1 g1 hrec (by simp[hi]) hz2 hbn2 hbl2 (by
       simp only[Vi,Vq,We,hul];omega) (by simp only[Vh]at hN;omega)
      refine⟨S',cs',b2,K',by rw[Ay];exact g',w'.trans G1.w,by simp[l1],l2,?_,l4,?_,?_⟩
      ·rw[Vo,Yo]at l3;rw[Vh,show i+(ps.length+1)=i+1+ps.length by omega];exact l3
      ·rw[Vh,show i+(ps.length+1)=i+1+ps.length by omega];exact l5
      ·rw[Xs,P8 (us:=us) (off:=i*r'.sz) (z:=r'.sz) rfl (H5 hsh hnt hone) hul (by simpa using hle)];exact hf
     ·cases h
    ·cases h
   ·cases h
  ·cases h
def Xa (hE:Hz X E) (K:B0 X S a) (hg:S.g=get A) {T:TypeId} {n d:Nat} {ps:Array (Nat×Operand)} (ho:o.op = .buildSlice T n ps) (hod:o.dst=some d) (hd:d<X.nt) (h:Au E o A Kc=some r):Gp X o a S.w A Kc r:=by
 unfold Au at h;rw[ho,hod]at h;simp only at h;split at h
 ·rename_i e r' by_ fo hT;obtain⟨hq,h⟩:=cs h;simp only[Va]at hq;have hn:n=ps.size:=Ve hq.1.1;have hle:n*r'.sz≤16777216:=Vj hq.1.2;obtain⟨te,hte⟩:=Zl.1 hq.2;have hTk:=hE.ti _ _ hT;have hek:=hE.ti _ _ hte
  have hu:X.P.underlying T=some (.slice e):=by
   have:=hTk.desc;unfold Q4 at this
   split at this<;>simp_all
  have hszs:=hTk.sz;simp only[szB,Va,beq_iff_eq]at hszs;obtain⟨z,z1,z2,z3⟩:=P6 (w:=S.w) hek
  have hps:ps.toList.length=n:=by rw[hn];simp
  have fin:∀ {r2:Ty} {ys:List r2.den} {us:List Up},r2.sz=r'.sz→Kc (us++[⟨d,false,.one (.own e r2 ys)⟩])=some r→
    (∀ cs:List Value,cs.length=n*r2.sz→∃ (S1:Sit) (cs':List Value) (b2:List Nat),B0 X S1 a∧S1.g=get (ups A us)∧S1.w=S.w∧ys.length=n∧cs'.length=n*r2.sz∧E3 (λ x c b=>r2.dep X.P (λ k=>S1.O k = .fz) S1.w x c b) ys cs' b2∧
     b2.Nodup∧(∀ k∈b2,∃ q,S1.O k = .tm 0 q)∧Instr.fill (λ j=>some (j*r2.sz,r2.sz)) cs.toArray (ps.toList.map λ p=>(p.1,a.eval p.2))=some cs'.toArray)→Gp X o a S.w A Kc r:=by
   intro r2 ys us hsz2 hk hrows;rw[← hsz2]at hle hszs
   have run:∀ zero:Array Value,((if n*r2.sz=0 then pure #[] else do pure (← zeroValue e).cells:Sem (Array Value)).run X.P S.w = .ok zero S.w)→Gp X o a S.w A Kc r:=by
    intro zero hzero;obtain⟨S1,cs',b2,K1,g1,w1,l1,l2,l3,l4,l5,hf⟩:=hrows ((Array.range (n*r2.sz)).map (zero[· % zero.size]!)).toList (by simp)
    obtain⟨S',K',w',g'⟩:=Rm K1 g1 hd (w':=S1.w.alloc (.cells cs'.toArray e)) (row:=none) (e:=e) (r':=r2) (xs:=ys) (v := .slice (some ⟨S1.w.heap.size,0,none⟩) n n)
     (cs:=cs'.toArray.toList) (World.grownBy_alloc _ _ _) (by simp) hszs.1
     (by rw[l1];exact World.ownsRow_lit S1.w _ n (Vw _) (by
      have h1:=M8 r2;have h2:n*1≤n*r2.sz:=Nat.mul_le_mul_left _ h1
      simp only[maxLen];omega) (by simpa using l2))
     l3 l4 l5 (by
      intro k hk;refine⟨by simp,λ e1=>?_⟩;simp only[Value.ownBlock,Vc]at e1;obtain⟨q,hq⟩:=l5 k hk;have:=K1.lt k (by rw[hq];simp)
      omega) (by
      intro k hk;simp only[Value.ownBlock,Vc]at hk
      exact .inr (Cgb hk))
    rw[← Ay]at g';refine⟨_,hk,Ap (S:=S') (v := .slice (some ⟨S1.w.heap.size,0,none⟩) n n) ?_ (by rw[hod];exact K') g'⟩;rw[w',w1];unfold execOp;simp only[ho,Wc];unfold Instr.buildSlice;simp only[Wc,run_underlying hu,Wb,I0 hszs.1];rw[if_neg (by omega)]
    have e2:(ps.map λ x=>(x.1,a.eval x.2)).toList=ps.toList.map λ p=>(p.1,a.eval p.2):=by simp
    simp only[Array.toArray_toList]at hf
    by_cases hz0:n*r2.sz=0
    ·rw[if_pos hz0]at hzero ⊢;simp only[Ya,D7b,and_true]at hzero;subst hzero;simp only[Wc,Ya,Wb,e2,hf];simp[newRow]
    ·rw[if_neg hz0]at hzero ⊢;simp only[Wc,Ya,z1,Wb,D7b,and_true]at hzero;subst hzero;simp only[Wc,Ya,z1,Wb,e2,hf];simp[newRow]
   by_cases hz:n*r2.sz=0
   ·exact run #[] (by rw[if_pos hz];rfl)
   ·exact run z.cells (by rw[if_neg hz];simp[z1])
  split at h
  ·obtain⟨hno,h⟩:=cs h;split at h
   ·rename_i ys us hrows;refine fin rfl h (λ cs hcs=>?_);obtain⟨S1,cs',K1,g1,w1,l1,l2,l3,hf⟩:=Fya hE n ps.toList (zs:=[]) (cs:=cs) K hg hrows rfl (by simp[Rows]) hcs (by simp[hn]);simp only[Wl,Wg]at l3;rw[hps]at l1 l3;rw[Bdb (by omega)]at l3;exact⟨S1,cs',[],K1,g1,w1,l1,l2,(E3.flat (λ x c b=>Ty.dep_flat r' x c b hno)).2 ⟨l3,rfl⟩,by simp,by simp,hf⟩
   ·cases h
  ·rename_i r2 _;obtain⟨hq2,h⟩:=cs h;simp only[Va,decide_eq_true_eq]at hq2
   have hsz2:r2.sz=r'.sz:=by rw[← Ir r2,hq2.1,Ir r']
   split at h
   ·rename_i ys us hrows;refine fin hsz2 h (λ cs hcs=>?_);obtain⟨S1,cs',b2,K1,g1,w1,l1,l2,l3,l4,l5,hf⟩:=Fza hE n hq2.2 ps.toList (zs:=[]) (bz:=[]) (cs:=cs) K hg hrows rfl (by simp[E3]) (by simp) (by simp) hcs (by simp[hn]);simp only[Wl,Wg]at l3;rw[hps]at l1 l3;rw[Bdb (by omega)]at l3
    obtain⟨K2,L2⟩:=K1.names (λ n _=>if 1000≤n then some (.tm 0 []) else none) (by intro n q;split<;>simp)
    refine⟨_,cs',b2,K2,g1,w1,l1,l2,l3.mono (λ x c b _ h=>Ty.dep_mono (λ k hk=>(L2.fz k hk).1) (λ _ _=>rfl) r2 x c b (λ _ _=>rfl) h),l4,λ k hk=>?_,hf⟩;obtain⟨m,q,m1,_,m2⟩:=l5 k hk;exact⟨[],He m2 (by simp[m1])⟩
   ·cases h
 ·cases h
end
end

section
attribute [local irreducible] C H
section
variable {X:Cx} {S S':Sit} {a:Act} {E:En} {A:Ab} {o:Oper} {R:Type} {Kc:List Up→Option R} {r:R}
def Uma {P:Program} {w:World} {t ty e:TypeId} {i:TypeInfo} {z:Value} {size:Nat} (ht:P.underlying t=some (.slice e)) (hi:P.info? e=some i) (hz:i.zero=some z)
  (hsize:i.size=size) {v:Value} {n:Nat} {xs:List Value} (hown:w.ownsRow 0 e size v n xs)
  {ad:Addr} {m c:Nat} {U1:List Value} (hl:U1.length=m*size) (hnews:∀ j u,U1[j]? = some u→w.cell? (ad.add j)=some u) (h1:∀ u∈U1,u.oneCell'=true)
  (h63:n+m≤maxLen) (hbytes:(n+m)*i.bytes≤140737488355328) {v':Value} {w':World} (hr:(Builtin.append_ #[t,t] ty #[v,.slice (some ad) m c]).run P w = .ok v' w')
  (hnil:v' = .slice none 0 0↔v = .slice none 0 0∧m=0):∀ k,v'.ownBlock=some k→v.ownBlock=some k∨w.heap.size≤k:=by
 subst hsize
 have hsmall:n+m≤9223372036854775807:=by simp only[maxLen]at h63;omega
 intro k hk;rcases Et hown with⟨rfl,hn,rfl⟩|⟨k0,cap,cur,rfl,hg,hc1,hc2,hc3,hc4⟩
 ·by_cases hm:m=0
  ·rw[hnil.2 ⟨rfl,hm⟩]at hk;simp[Value.ownBlock]at hk
  ·subst hn;have h2:=run_append_nil (P:=P) w t ty e i z ht hi hz ad m c U1 hl hnews (by omega) (by omega) (by have hb:=hbytes;simp only[Wg]at hb;omega);rw[h2]at hr;cases hr;simp only[Value.ownBlock,Vc]at hk;exact .inr (Cgb hk)
 ·by_cases hroom:n+m≤cap
  ·have hfit:n*i.size+U1.length≤cur.size:=by rw[hl,hc3,← Zb];exact Wj _ hroom
   have h2:=run_append_room (P:=P) w t ty e i ht hi k0 n cap cur hg ad m c U1 hl hnews h1 hroom hfit;rw[h2]at hr;cases hr;exact .inl hk
  ·have holds:∀ j u,xs[j]? = some u→w.cell? ((⟨k0,0,none⟩:Addr).add j)=some u:=hown.cells (g:=k0) rfl;have h2:=run_append_grow (P:=P) w t ty e i z ht hi hz ⟨k0,0,none⟩ n cap xs hown.1 holds ad m c U1 hl hnews (by omega) (by omega) (growslice_fits (by omega) hbytes);rw[h2]at hr;cases hr;simp only[Value.ownBlock,Vc]at hk;exact .inr (Cgb hk)
def Dva {P:Program} {w:World} {t u ty e:TypeId} {i:TypeInfo} (ht:P.underlying t=some (.slice e)) (hu:P.underlying u=some .string) (hi:P.info? e=some i) (hz:i.zero=some (.int .u8 0))
  (hsize:i.size=1) (hby:i.bytes=1) {v:Value} {n:Nat} {xs:List Value} (hown:w.ownsRow 0 e 1 v n xs) {s:ByteArray}
  (h63:n+s.size≤maxLen) (hbytes:n+s.size≤140737488355328) {v':Value} {w':World} (hr:(Builtin.append_ #[t,u] ty #[v,.string s]).run P w = .ok v' w')
  (hnil:v' = .slice none 0 0↔v = .slice none 0 0∧s.size=0):∀ k,v'.ownBlock=some k→v.ownBlock=some k∨w.heap.size≤k:=by
 have hsmall:n+s.size≤9223372036854775807:=by simp only[maxLen]at h63;omega
 intro k hk;rcases Et hown with⟨rfl,hn,rfl⟩|⟨k0,cap,cur,rfl,hg,hc1,hc2,hc3,hc4⟩
 ·by_cases hm:s.size=0
  ·rw[hnil.2 ⟨rfl,hm⟩]at hk;simp[Value.ownBlock]at hk
  ·subst hn;have h2:=run_append_nil_string (P:=P) w t u ty e i _ ht hu hi hz s (by omega) (by omega) (by rw[hby];omega);rw[h2]at hr;cases hr;simp only[Value.ownBlock,Vc]at hk;exact .inr (Cgb hk)
 ·by_cases hroom:n+s.size≤cap
  ·have h2:=Go.Lib.run_append_room_string (P:=P) w t u ty e i ht hu hi hsize k0 n cap cur hg s hroom (by rw[hc3];omega);rw[h2]at hr;cases hr;exact .inl hk
  ·have holds:∀ j u,xs[j]? = some u→w.cell? ((⟨k0,0,none⟩:Addr).add j)=some u:=hown.cells (g:=k0) rfl;have h2:=Go.Lib.run_append_grow_string (P:=P) w t u ty e i _ ht hu hi hz ⟨k0,0,none⟩ n cap xs (by rw[hsize];exact hown.1) holds s (by omega) (by omega) (growslice_fits (by omega) (by rw[hby];omega));rw[h2]at hr;cases hr;simp only[Value.ownBlock,Vc]at hk;exact .inr (Cgb hk)
def Jp {P:Program} {w w':World} {T T':TypeId} {x y:Operand} {c:Call} (ho:o.op = .call c) (hc:c.callee = .builtin .append) (hT:c.argTypes.toList=[T,T']) (hx:c.args.toList=[x,y]) {v:Value}
  (hr:(Builtin.append_ #[T,T'] o.type #[a.eval x,a.eval y]).run P w = .ok v w'):(execOp a.eval o).run P w = .ok (.value v) w':=by
 have e1:c.args = #[x,y]:=by rw[← hx]
 have e2:c.argTypes = #[T,T']:=by rw[← hT]
 unfold execOp;simp[ho,resolve,hc,e1,e2,invoke,builtin,hr]
def G0a (hE:Hz X E) (K:B0 X S a) (hg:S.g=get A) {T:TypeId} {x:Operand} {u:Lf} {e:TypeId} {r':Ty} {xs:List r'.den} (hs:opT E T A x=some (.one u)) (hu:Ih A u = .own e r' xs):
  ∃ S1,B0 X S1 a∧S1.g=get (ups A (Dca u x))∧S1.w=S.w∧Ep S S1∧Eo X.P S1.O S1.w (.tm 0 []) e r' xs (a.eval x)∧(∀ n q z v,B8 X.P S (.tm n q) z v→B8 X.P S1 (.tm n q) z v)∧S1.bb=S.bb∧S1.ph=S.ph∧(∀ b n,(S.g (H b)).2 = .one (.hd n)→S1.g (H b)=S.g (H b)):=by
 obtain⟨l,hl⟩:=Gj hE K hg hs;have hlf:B8 X.P S (.pl l []) u (a.eval x):=hl
 by_cases hal:∃ p v,u = .al p v
 ·obtain⟨p,v,rfl⟩:=hal;obtain⟨p',v',e1,hp⟩:=N9 hu (by intro e r xs h;cases h);cases e1;obtain⟨K1,g1,g2⟩:=Mj K p 0;have he:a.eval x=S.ph p:=hlf.2 (by rw[hg,hp]);refine⟨_,K1,?_,rfl,Iu S p 0,?_,g2,rfl,rfl,λ b n hn=>Aw _ _ (λ e1=>by rw[e1,hg,hp]at hn;cases hn)⟩
  ·show upd S.g p _=_;rw[show Dca (.al p v) x=[⟨p,false,.one .dead⟩] from rfl,Ao,← hg]
  ·have:=K.at_ p;rw[hg,hp]at this;rw[he];exact g1 [] (.own e r' xs) _ this
 ·have hne:∀ p v,u = .al p v→False:=λ p v h=>hal ⟨p,v,h⟩;have hu':=Fna hu hne;subst hu';rcases K6 hE K hg hs with⟨t,rfl,ht,hst,het,hok⟩|⟨hnt,y',ey,hy'⟩
  ·obtain⟨K1,g1,g2⟩:=Mj K t 0;refine⟨_,K1,?_,rfl,Iu S t 0,g1 [] (.own e r' xs) _ hok,g2,rfl,rfl,λ b n hn=>Aw _ _ (λ e1=>by rw[e1,← hst]at hn;cases hn)⟩;show upd S.g t _=_;rw[show Dca (.own e r' xs) (.tmp t)=[⟨t,false,.one .dead⟩] from rfl,Ao,← hg]
  ·cases ey;refine⟨S,K,?_,rfl,.refl S,hy' (.tm 0 []),λ _ _ _ _ h=>h,rfl,rfl,λ _ _ _=>rfl⟩
   cases x<;>first|exact hg|exact absurd rfl (hnt _)
def Ska {lab:Lab} {e':TypeId} {r':Ty} {ys:List r'.den} {u:Value} (h:B8 X.P S lab (.fz e' r' ys) u):
  ∃ ad cap cs,u = .slice ad ys.length cap∧Rows (λ x c=>r'.rep X.P (λ k=>S.O k = .fz) S.w x c) ys cs∧(ys≠[]→∃ k o,ad=some ⟨k,o,none⟩∧Dz S.w k o cs):=by
 obtain⟨v,e1,_,ad,cap,cs,e2,_,hrows,hne⟩:=h;cases e1;refine⟨ad,cap,cs,e2,hrows,λ hn=>?_⟩;obtain⟨k,o',e3,_,e4⟩:=hne hn;exact⟨k,o',e3,e4⟩
def Kxa {lab:Lab} {e':TypeId} {r':Ty} {ys:List r'.den} {u:Value} (hno:Ib r'=true) (h:Eo X.P S.O S.w lab e' r' ys u):
  ∃ ad cap cs,u = .slice ad ys.length cap∧Rows (λ x c=>r'.rep X.P (λ k=>S.O k = .fz) S.w x c) ys cs∧(ys≠[]→∃ k o,ad=some ⟨k,o,none⟩∧Dz S.w k o cs):=by
 obtain⟨_,cs,hrow,hrows,_⟩:=(Eo.flat hno).1 h;rcases Et hrow with⟨e1,e2,rfl⟩|⟨k,cap,cur,e1,hc,_,_,_,ht⟩
 ·refine⟨none,0,[],by rw[e1,e2],hrows,λ hn=>absurd (Wk e2) hn⟩
 ·exact⟨_,cap,cs,e1,hrows,λ _=>⟨k,0,rfl,Hg hc ht⟩⟩
def Sla {p v:Nat} {pi:Option (List (Int×Nat))} {e':TypeId} {r':Ty} {ys:List r'.den} {u:Value} (hno:Ib r'=true) (hv:(S.g p).1=v) (h:Jra X.P S p v pi e' r' ys u):
  ∃ ad cap cs,u = .slice ad ys.length cap∧Rows (λ x c=>r'.rep X.P (λ k=>S.O k = .fz) S.w x c) ys cs∧(ys≠[]→∃ k o,ad=some ⟨k,o,none⟩∧Dz S.w k o cs):=by
 obtain⟨_,_,h2⟩:=h;obtain⟨_,⟨_,ad,cap,cs,bs,e1,_,hrows,_,hne⟩,_⟩:=h2 hv;refine⟨ad,cap,cs,e1,((E3.flat (λ x c b=>Ty.dep_flat r' x c b hno)).1 hrows).1,λ hn=>?_⟩;obtain⟨k,o',e3,_,e4⟩:=hne hn;exact⟨k,o',e3,e4⟩
def Xia (K:B0 X S a) (hg:S.g=get A) {lab:Lab} {x:Lf} {e':TypeId} {r':Ty} {ys:List r'.den} {u:Value} (h:B8 X.P S lab x u) (hs:Dba A x=some ⟨e',r',ys⟩):
  ∃ ad cap cs,u = .slice ad ys.length cap∧Rows (λ x c=>r'.rep X.P (λ k=>S.O k = .fz) S.w x c) ys cs∧(ys≠[]→∃ k o,ad=some ⟨k,o,none⟩∧Dz S.w k o cs):=by
 unfold Dba at hs;split at hs
 ·rename_i p v pi e r xs;cases hq:(Nat.beq (get A p).1 v&&Ib r)
  ·rw[hq]at hs;simp at hs
  rw[hq]at hs;simp only[cond_true,Vc,Sl.mk.injEq]at hs;obtain⟨rfl,rfl,h3⟩:=hs;cases h3;simp only[Va]at hq;exact Sla hq.2 (by rw[hg];exact Ve hq.1) h
 ·obtain⟨lab',h'⟩:=O7 K hg h;split at hs
  ·rename_i e r xs hsn;rw[hsn]at h';simp only[Vc,Sl.mk.injEq]at hs;obtain⟨rfl,rfl,h3⟩:=hs;cases h3;exact Ska h'
  ·rename_i e r xs hsn;rw[hsn]at h';cases hq:Ib r
   ·rw[hq]at hs;simp at hs
   rw[hq]at hs;simp only[cond_true,Vc,Sl.mk.injEq]at hs;obtain⟨rfl,rfl,h3⟩:=hs;cases h3;exact Kxa hq h'
  ·cases hs
def G1a {P:Program} {T:TypeId} {t:TI} (w:World) (h:TOk P T t):∃ i z,P.info? T=some i∧i.zero=some z∧i.size=t.ty.sz∧i.bytes=t.by_∧z.cells=(Ei t.ty).toArray∧(t.ag=false→Ei t.ty=[z]):=by
 obtain⟨i,i1,i2,i3,i4,i5⟩:=h.info;obtain⟨z,z1,z2,z3⟩:=P6 (w:=w) h
 have iz:i.zero=some z:=by
  simp only[zeroValue,typeInfo,Wc,run_program,Wb,i1,Ya]at z1;rw[i4]at z1 ⊢;simp only[Ya,D7b,and_true]at z1;rw[z1]
 exact⟨i,z,i1,iz,i2,i3,z2,λ ha=>by rw[ha]at z3;simpa using z3⟩
def Q9 {P:Program} {G:Nat→Prop} {w:World}:∀ l:List UInt8,Rows (λ x c=>Ty.rep P G w (.i .u8) x c) (l.map λ b=>(b.toNat:Int)) (l.map λ b=>Value.int .u8 b.toNat)
 |[]=>rfl
 |b::l=>⟨[_],_,rfl,rfl,Q9 l⟩
def Kya {P:Program} {w:World} {T ty e:TypeId} {te:TI} {sz:Nat} (hu:P.underlying T=some (.slice e)) (hek:TOk P e te) (hsz:U2 P e sz) {v u:Value} {n m cap:Nat} {cs ds:List Value} {ad:Option Addr} (hrow:w.ownsRow 0 e sz v n cs) (ev:u = .slice ad m cap)
  (hdl:ds.length=m*sz) (hdone:∀ u∈ds,u.oneCell'=true) (hne:m≠0→∃ k o,ad=some ⟨k,o,none⟩∧Dz w k o ds) (hle:(n+m)*te.by_≤140737488355328) (hpos:0<sz):
  ∃ v' w',(Builtin.append_ #[T,T] ty #[v,u]).run P w = .ok v' w'∧w'.ownsRow 0 e sz v' (n+m) (cs++ds)∧w.grownBy w' v.ownBlock∧∀ k,v'.ownBlock=some k→v.ownBlock=some k∨w.heap.size≤k:=by
 obtain⟨i,z,i1,iz,i2,i3,z2,_⟩:=G1a w hek
 have hsize:i.size=sz:=by
  have:=hsz;unfold U2 at this;rw[i1]at this
  simpa using this
 have h63:n+m≤maxLen:=by
  have h1:=hek.by0;have h2:(n+m)*1≤(n+m)*te.by_:=Nat.mul_le_mul_left _ h1;simp only[maxLen];omega
 subst ev
 cases ad with
 |none=>
  have hm0:m=0:=by
   by_cases hm:m=0
   ·exact hm
   ·obtain⟨k,o',e1,_⟩:=hne hm;cases e1
  subst hm0;have hd0:ds=[]:=Wk (by simpa using hdl);subst hd0
  have hcap:(Builtin.append_ #[T,T] ty #[v,.slice none 0 cap]).run P w = .ok v w:=by
   rcases Et hrow with⟨e1,_⟩|⟨k,cap',cur,e1,_,hle',_⟩
   ·rw[e1];simp[Builtin.append_,run_underlying hu,sizeOf,typeInfo,i1,Builtin.lenOf,Builtin.firstCells]
   ·rw[e1];simp[Builtin.append_,run_underlying hu,sizeOf,typeInfo,i1,Builtin.lenOf,Builtin.firstCells,hle',storeCells]
  refine⟨_,_,hcap,by simpa using hrow,⟨rfl,rfl,rfl,Vv _,λ _ _ _=>rfl⟩,λ k hk => .inl hk⟩
 |some ad=>
  have hnews:∀ j u,ds[j]? = some u→w.cell? (ad.add j)=some u:=by
   intro j u hj
   have hm:m≠0:=by
    intro e1;subst e1;have:ds=[]:=Wk (by simpa using hdl);subst this;simp at hj
   obtain⟨k,o',e1,e2⟩:=hne hm;cases e1;rw[Jh];exact e2 j u hj
  obtain⟨v',w',hr,ho',hgr,hnil⟩:=run_append_own (P:=P) w 0 T ty e i z sz te.by_ hu i1 iz hsize i3 (by rw[z2,Bpb,Kt,← i2,hsize]) hpos v n cs hrow ad m cap ds hdl hnews hdone h63 hle (Vw _);exact⟨v',w',hr,ho',hgr,Uma hu i1 iz hsize hrow hdl hnews hdone h63 (by rw[i3];exact hle) hr hnil⟩
def Una {P:Program} {G:Nat→Prop} {w:World} (t:Ty) (x:t.den) (c:List Value) (b:List Nat) (h:t.dep P G w x c b):∀ u∈c,u.oneCell'=true:=
 X7 (G:=λ k=>G k∨k∈b) t x c (Ty.dep_rep (λ _ h => .inl h) t x c b (λ _ h => .inr h) h)
def Kza (hE:Hz X E) (K:B0 X S a) (hg:S.g=get A) {c:Call} (ho:o.op = .call c) (hc:c.callee = .builtin .append) (hd:∀ d,o.dst=some d→d<X.nt) (h:Au E o A Kc=some r):Gp X o a S.w A Kc r:=by
 unfold Au at h;rw[ho]at h;simp only[hc]at h;split at h
 ·rename_i T T' x y d hT hx hod;have hdl:=hd d hod;split at h
  ·rename_i u w hsu hsw;split at h
   ·rename_i e r' xs hsu';obtain⟨S1,K1,g1,w1,L1,hown,tms,_⟩:=G0a hE K hg hsu hsu';split at h
    ·-- all that is in it is O4
     rename_i r2 _;split at h
     ·rename_i w2 hsw2;split at h
      ·rename_i e' r3 ys xs2 te hsn hcx hte;split at h
       ·rename_i ys2 hcy;rw[csi]at h;obtain⟨hq,h⟩:=h;rw[csi]at h;obtain⟨hq2,h⟩:=h;simp only[Va]at hq;obtain⟨⟨⟨q0,q1⟩,q2⟩,q3⟩:=hq;have he:e=e':=Ve q1;have hTT:T=T':=Ve q3;subst he hTT;have hle:(xs2.length+ys2.length)*te.by_≤140737488355328:=Vj hq2
        obtain⟨K2,L2⟩:=K1.names (λ n _=>if n=0 then some (.tm 1 []) else none) (by intro n q;split<;>simp)
        have hown2:B8 X.P { S1 with O:=atO S1.O (λ n _=>if n=0 then some (.tm 1 []) else none) } (.tm 1 []) (.own e r' xs) (a.eval x):=
         B8.later (P:=X.P) (x := .own e r' xs) (lab := .tm 0 []) (lab' := .tm 1 []) L2 hown (λ k hk=>⟨He hk (by simp),rfl⟩)
        obtain⟨S3,K3,g3,w3,L3,hsrc,tms3,_⟩:=G0a hE K2 (by show S1.g=_;exact g1) hsw2 hsn;have hown3:Eo X.P S3.O S3.w (.tm 1 []) e r' xs (a.eval x):=tms3 1 [] (.own e r' xs) _ hown2;have hown4:=hown3.cast hcx;have hsrc2:=hsrc.cast hcy;obtain⟨bx,⟨vx,cx,b1,ex,hszx,hrowx,hrowsx,ebx⟩,hnx,hbx⟩:=hown4;obtain⟨by_,⟨vy,cy,b2,ey,hszy,hrowy,hrowsy,eby⟩,hny,hby⟩:=hsrc2;simp only[Yh,and_true]at ex ey;subst ex ey ebx eby;have hu:=Hi q2 hE.ti;have hek:=hE.ti _ _ hte
        have hshape:∃ ad cap,a.eval y = .slice ad ys2.length cap∧(ys2.length≠0→∃ k o,ad=some ⟨k,o,none⟩∧Dz S3.w k o cy):=by
         rcases Et hrowy with⟨e1,e2,_⟩|⟨k,cap,cur,e1,hc,_,_,_,ht⟩
         ·exact⟨none,0,by rw[e1,e2],λ h=>absurd e2 h⟩
         ·exact⟨_,cap,e1,λ _=>⟨k,0,rfl,Hg hc ht⟩⟩
        obtain⟨ad,cap,ev,hne⟩:=hshape;have hdone:∀ u∈cy,u.oneCell'=true:=(hrowsy.rows (R':=λ _ c=>∀ u∈c,u.oneCell'=true) (λ x c b _ h=>Una r2 x c b h)).all (λ _ _ h=>h);obtain⟨v',w',hr,ho',hgr,hnew⟩:=Kya (ty:=o.type) hu hek hszx hrowx ev (hrowsy.len (Ty.dep_len r2)) hdone hne hle (M8 r2);rw[← Vi]at ho'
        obtain⟨K4,L4⟩:=K3.names (λ n _=>if n=1 then some (.tm 0 [1]) else none) (by intro n q;split<;>simp)
        have h1:∀ k∈(a.eval x).ownBlock.toList++b1,atO S3.O (λ n _=>if n=1 then some (.tm 0 [1]) else none) k = .tm 0 [1]:=λ k hk=>He (hbx k hk) (by simp);have h0:∀ k∈(a.eval y).ownBlock.toList++b2,atO S3.O (λ n _=>if n=1 then some (.tm 0 [1]) else none) k = .tm 0 []:=λ k hk=>K5 (hby k hk) (by simp)
        have hvx:∀ k,(a.eval x).ownBlock=some k→k∈(a.eval x).ownBlock.toList++b1:=λ k hk=>by rw[hk];simp
        rw[Wq]at hnx hny
        have hnb:(b1++b2).Nodup:=by
         rw[Wq];refine⟨hnx.2.1,hny.2.1,λ k hk k' hk' e9=>?_⟩;subst e9;have e5:=h1 k (Vn _ hk);rw[h0 k (Vn _ hk')]at e5;cases e5
        obtain⟨S',K',ew,g'⟩:=Rm K4 (A1:=ups (ups A (Dca u x)) (Dca w2 y)) (by show S3.g=_;exact g3) hdl (w':=w') (row:=(a.eval x).ownBlock) (e:=e) (r':=r2) (xs:=xs2++ys2) (v:=v') (cs:=cx++cy) (b2:=b1++b2) hgr
         (λ k hk=>⟨0,[1],h1 k (hvx k hk)⟩) hszx ho' ((hrowsx.append hrowsy).mono (λ x c b _ h=>Ty.dep_mono (λ k hk=>(L4.fz k hk).1) (λ _ _=>rfl) r2 x c b (λ _ _=>rfl) h)) hnb
         (λ k hk=>by
          rcases Vl.1 hk with hk|hk
          ·exact⟨_,h1 k (Vn _ hk)⟩
          ·exact⟨_,h0 k (Vn _ hk)⟩)
         (λ k hk=>by
          have hnr:(a.eval x).ownBlock≠some k:=λ e9=>by
           rcases Vl.1 hk with hk|hk
           ·exact hnx.2.2 k (by rw[e9];simp) k hk rfl
           ·have e5:=h1 k (hvx k e9);rw[h0 k (Vn _ hk)]at e5;cases e5
          refine⟨hnr,λ e9=>?_⟩;rcases hnew k e9 with h9|h9
          ·exact hnr h9
          ·have hlt:k<S3.w.heap.size:=K4.lt k (by
            rcases Vl.1 hk with hk|hk
            ·show atO S3.O _ k≠_;rw[h1 k (Vn _ hk)];simp
            ·show atO S3.O _ k≠_
             rw[h0 k (Vn _ hk)];simp)
           omega) hnew
        rw[← Ay,← Ay]at g';have hw3:S3.w=S.w:=w3.trans w1;exact⟨_,h,Ap (S:=S') (v:=v') (by rw[ew,← hw3];exact Jp ho hc hT hx hr) (by rw[hod];exact K') g'⟩
       ·cases h
      ·cases h
     ·cases h
    ·cases hno:Ib r' with
     |false=>rw[hno]at h;simp at h
     |true=>
     rw[hno,cond_true]at h;obtain⟨hsz,cs,hrow,hrows,hlab⟩:=(Eo.flat hno).1 hown;obtain⟨lw,hlw⟩:=Gj hE K hg hsw;have hlw':B8 X.P S (.pl lw []) w (a.eval y):=hlw;split at h
     ·rename_i e' r'' ys hasl;split at h
      ·rename_i ys' te hcast hte;rw[csi]at h;obtain⟨hq,h⟩:=h;rw[csi]at h;obtain⟨hq2,h⟩:=h;simp only[Va]at hq;obtain⟨⟨q1,q2⟩,q3⟩:=hq;have he:e=e':=Ve q1;have hTT:T=T':=Ve q3;subst he hTT;have hle:(xs.length+ys'.length)*te.by_≤140737488355328:=Vj hq2;have hu:=Hi q2 hE.ti;have hek:=hE.ti _ _ hte;obtain⟨ad,cap,ds,ev,hdrows0,hne0⟩:=Xia K hg hlw' hasl;obtain⟨hdrows,hylen⟩:=Ui hcast hdrows0;have hdl2:=hdrows.len (Ty.rep_len r');have hdone:∀ u∈ds,u.oneCell'=true:=hdrows.all (X7 r');have hdrows1:Rows (λ x c=>r'.rep X.P (λ k=>S1.O k = .fz) S1.w x c) ys' ds:=hdrows.mono (λ x c=>Ty.rep_mono (λ k hk=>(L1.fz k hk).1) (λ k hk=>(L1.fz k hk).2) r' x c)
       obtain⟨v',w',hr,ho',hgr,hnew⟩:=Kya (ty:=o.type) (w:=S1.w) (u:=a.eval y) (ad:=ad) (cap:=cap) hu hek hsz hrow (by rw[ev,hylen]) hdl2 hdone (λ hm=>by
        obtain⟨k,o',e1,e2⟩:=hne0 (λ e3=>hm (by rw[hylen,e3,Vs]))
        exact⟨k,o',e1,by rw[w1];exact e2⟩) hle (M8 r')
       rw[← Vi]at ho';obtain⟨S',K',ew,g'⟩:=Kva K1 g1 hdl hno hgr (λ k hk=>⟨0,[],hlab k hk⟩) hsz ho' (hrows.append hdrows1) hnew;rw[← Ay]at g';exact⟨_,h,Ap (S:=S') (v:=v') (by rw[ew,← w1];exact Jp ho hc hT hx hr) (by rw[hod];exact K') g'⟩
      ·cases h
     ·split at h
      ·rename_i s _;split at h
       ·rename_i ys fo hcast hte;rw[csi]at h;obtain⟨hq,h⟩:=h;simp only[Va]at hq;obtain⟨⟨q2,q3⟩,q4⟩:=hq;have hle:(xs.length+s.size)*1≤140737488355328:=Vj q4;rw[Nat.mul_one]at hle;have hu:=Hi q2 hE.ti;have hus:=Rg q3 hE.ti;have hek:=hE.ti _ _ hte;have ev:a.eval y = .string s:=hlw'.1;obtain⟨i,z,i1,iz,i2,i3,_,z3⟩:=G1a S.w hek
        have hz:z = .int .u8 0:=by
         have:=z3 rfl;simp only[Ei,Yh,and_true]at this;exact this.symm
        subst hz
        have h63:xs.length+s.size≤maxLen:=by simp only[maxLen];omega
        have hsz1:r'.sz=1:=by
         have:=hsz;unfold U2 at this;rw[i1]at this;simp only[Cib,Vc]at this;rw[← this];exact i2
        rw[hsz1]at hrow;obtain⟨v',w',hr,ho',hgr,hnil⟩:=Go.Lib.run_append_own_string (P:=X.P) S1.w 0 T T' o.type e i hu hus i1 iz i2 i3 (a.eval x) xs.length cs hrow s h63 hle (Vw _)
        have hbl:(bytesOf s).length=s.size:=by simp[bytesOf]
        have hnew:=Dva hu hus i1 iz i2 i3 hrow h63 hle hr hnil;obtain⟨hrows2,hl2⟩:=Ui (P:=X.P) (G:=λ k=>S1.O k = .fz) (w:=S1.w) hcast (Q9 s.data.toList)
        have hlen2:xs.length+s.size=(xs++ys).length:=by rw[Vi,hl2,hbl]
        rw[hlen2,← hsz1]at ho';obtain⟨S',K',ew,g'⟩:=Kva K1 g1 hdl hno hgr (λ k hk=>⟨0,[],hlab k hk⟩) hsz ho' (hrows.append hrows2) hnew;rw[← Ay]at g';exact⟨_,h,Ap (S:=S') (v:=v') (by rw[ew,← w1];exact Jp ho hc hT hx (by rw[ev];exact hr)) (by rw[hod];exact K') g'⟩
       ·cases h
      ·cases h
   ·cases h
  ·cases h
 ·cases h
def I9 {P:Program} {w w':World} {T T':TypeId} {x:Operand} {u v:Value} (ho:o.op = .convert T T' x) (he:a.eval x=u) (hr:(convert T T' u).run P w = .ok v w'):(execOp a.eval o).run P w = .ok (.value v) w':=by
 unfold execOp;simp[ho,he,hr]
def G2a {P:Program} {T:TypeId} {k:IntKind} {by_:Nat} {fo:List (Nat×Nat×Bool)} (h:TOk P T ⟨.i k,false,by_,fo⟩):P.underlying T=some (.int k):=by
 have:=h.desc;unfold Q4 at this
 split at this<;>simp_all
def Ky {P:Program} {T:TypeId} {by_:Nat} {fo:List (Nat×Nat×Bool)} (h:TOk P T ⟨.s,false,by_,fo⟩):P.underlying T=some .string:=by
 have:=h.desc;unfold Q4 at this
 split at this<;>simp_all
def Kz {P:Program} {T e:TypeId} {by_:Nat} {fo:List (Nat×Nat×Bool)} (h:TOk P T ⟨.sl e (.i .u8),false,by_,fo⟩):P.underlying T=some (.slice e)∧P.underlying e=some (.int .u8):=by
 have hu:P.underlying T=some (.slice e):=by
  have:=h.desc;unfold Q4 at this
  split at this<;>simp_all
 refine⟨hu,?_⟩;have:=h.desc;rw[hu]at this;simp only[Q4,X8a,Va]at this;obtain⟨_,h2⟩:=this;split at h2
 ·rename_i k' hk;simp at h2;rw[hk,← h2]
 ·cases h2
def P9 {P:Program} {G:Nat→Prop} {w:World}:∀ (xs:List Int) (cs:List Value),Rows (λ x c=>Ty.rep P G w (.i .u8) x c) xs cs→cs=xs.map (Value.int .u8)
 |[],_,h=>h
 |x::xs,_,⟨c,d,e,h1,h2⟩=>by
  have h1':c=[.int .u8 x]:=h1;rw[e,h1',P9 xs d h2];rfl
def Lu {P:Program} {w:World} {T T' e:TypeId} {xs:List Int} {ad:Option Addr} {cap:Nat} {cs:List Value} (hT:P.underlying T=some (.slice e)) (he:P.underlying e=some (.int .u8)) (hT':P.underlying T'=some .string)
  (hcs:cs=xs.map (Value.int .u8)) (hne:xs≠[]→∃ k o,ad=some ⟨k,o,none⟩∧Dz w k o cs):(convert T T' (.slice ad xs.length cap)).run P w = .ok (.string (I8 xs)) w:=by
 rw[run_convert_bytes_string w T T' e ad xs.length cap hT he hT']
 cases ad with
 |none=>
  have:xs=[]:=by
   by_cases hx:xs=[]
   ·exact hx
   ·obtain⟨k,o',e1,_⟩:=hne hx;cases e1
  subst this;simp[Conv.bytesToString,I8];rfl
 |some ad=>
  have hl:(loadCells ad xs.length).run P w = .ok (xs.map (Value.int .u8)).toArray w:=by
   by_cases hx:xs=[]
   ·subst hx;rfl
   ·obtain⟨k,o',e1,e2⟩:=hne hx;cases e1;have:=run_loadCells_list (P:=P) w ⟨k,o',none⟩ cs (λ j v hj=>by rw[Jh];exact e2 j v hj);rw[hcs]at this
    simpa using this
  rw[run_bytesToString w _ xs.length cap xs hl,foldl_push_bytes];simp[I8,ByteArray.empty,ByteArray.emptyWithCapacity];rfl
def Uoa (K:B0 X S a) (hg:S.g=get A) {lab:Lab} {y:Lf} {u:Value} (h:B8 X.P S lab y u):
  (∃ lab',B8 X.P S lab' (Ws A y) u)∨∃ p v pi e r,∃ xs:List (Ty.den r),y = .da p v pi e r xs∧(S.g p).1=v∧Ws A y = .fz e r xs:=by
 unfold Ws;split
 ·rename_i p v pi e r xs
  cases hq:Nat.beq (get A p).1 v with
  |false=>exact .inl ⟨lab,trivial⟩
  |true=>exact .inr ⟨p,v,pi,e,r,xs,rfl,by rw[hg];exact Ve hq,rfl⟩
 ·exact .inl (O7 K hg h)
def L0a (hE:Hz X E) (K:B0 X S a) (hg:S.g=get A) {T T':TypeId} {x:Operand} {d:Nat} {U:List Up} (ho:o.op = .convert T T' x) (hod:o.dst=some d) (hd:d<X.nt) (hi:Qt E A T T' x d=some U) (h:Kc U=some r):Gp X o a S.w A Kc r:=by
 unfold Qt at hi;split at hi
 ·rename_i t;split at hi
  ·rename_i e xs e' by0 fo hs hT;cases hb:Nat.beq T T'&&(Nat.beq e e'&&Nat.blt 0 xs.length)
   ·rw[hb]at hi;cases hi
   rw[hb,cond_true]at hi;cases hi;rw[Va,Va]at hb;obtain⟨b1,b2,b3⟩:=hb;have hTT:T=T':=Ve b1;have hee:e=e':=Ve b2;have hpos:0<xs.length:=Vj b3;subst hTT;subst hee;rcases K6 hE K hg hs with⟨t',ht',htl,hst,he,_⟩|⟨hnt,_⟩
   ·cases ht'
    have hown:Eo X.P S.O S.w (.pl t []) e (.i .u8) xs (S.ph t):=by have:=K.at_ t;rw[← hst]at this;exact this
    obtain⟨hsz,cs,⟨hcl,hrow⟩,hrows,hlab⟩:=(Eo.flat rfl).1 hown;rcases hrow with⟨_,h0⟩|⟨g,cap,cur,ev,_,hh,hn,_,hcs,htk⟩
    ·exact absurd h0 (by omega)
    have hg0:S.O g = .pl t []:=hlab g (by rw[ev];rfl)
    have hgs:g<S.w.heap.size:=by
     rcases Bxb g S.w.heap.size with hlt|hge
     ·exact hlt
     ·rw[Array.getElem?_eq_none hge]at hh;cases hh
    obtain⟨u1,u2⟩:=Kz (hE.ti _ _ hT)
    have hsh:S.w.shape? g=some (e,cur.size):=by unfold World.shape?;rw[hh]
    have hr:(convert T T (.slice (some ⟨g,0,none⟩) xs.length cap)).run X.P S.w = .ok (.slice (some ⟨g,0,none⟩) xs.length cap) (S.w.freeze ⟨g,cur.size,none⟩ 1):=by
     simp[convert,run_underlying u1,run_underlying u2,markStringish,hsh]
    obtain⟨w',ew⟩:∃ w',w'=S.w.freeze ⟨g,cur.size,none⟩ 1:=⟨_,rfl⟩
    have hfr:w' = { S.w with heap:=S.w.heap.modify g fun
      |.cells c elem (lo,hi) => .cells c elem (if lo==hi then (cur.size,cur.size+1) else (min lo cur.size,max hi (cur.size+1)))
      |o=>o }:=by rw[ew];rfl
    rw[← ew]at hr
    have hoth:∀ j,g≠j→w'.heap[j]? = S.w.heap[j]? := λ j hj=>by
     rw[hfr];show (S.w.heap.modify g _)[j]? = _;rw[Array.getElem?_modify,if_neg hj]
    have hnew:w'.heap[g]? = some (.cells cur e (cur.size,cur.size+1)):=by
     rw[hfr];show (S.w.heap.modify g _)[g]? = _;rw[Array.getElem?_modify,if_pos rfl,hh];rfl
    have hsize:w'.heap.size=S.w.heap.size:=by rw[hfr];show (S.w.heap.modify g _).size=_;rw[Array.size_modify]
    have K1:=(Mj K t 0).1;have hO1:(Lo S t 0).O g = .tm 0 []:=Kaa hg0
    obtain⟨K2,L2⟩:=K1.grow (w':=w') (row:=some g) (O':=λ k=>if k=g then .fz else (Lo S t 0).O k) ⟨by rw[hfr];rfl,by rw[hfr];rfl,by rw[hfr];rfl,by rw[hsize];exact Vv _,λ k hk hkg=>hoth k (λ c=>hkg (by rw[c]))⟩
     (λ k hk=>⟨0,[],by cases hk;exact hO1⟩)
     (λ k hk hnt=>by
      show (if k=g then Lab.fz else _)=_
      rw[if_neg (λ c=>by subst c;exact hnt 0 [] hO1)])
     (λ k hk=>by
      show k<w'.heap.size;rw[hsize]
      by_cases hkg:k=g
      ·rw[hkg];exact hgs
      ·simp only[hkg,if_false]at hk
       exact K1.lt k hk)
    have hcell:Dz w' g 0 cs:=by
     intro j u hj;simp only[World.cell?,hnew,Wg];rw[← htk,Wm]at hj;split at hj
     ·simpa using hj
     ·cases hj
    have hsv:Hh X.P (Sd (Lo S t 0) w' (λ k=>if k=g then .fz else (Lo S t 0).O k)) 0 (.one (.fz e (.i .u8) xs)) (.slice (some ⟨g,0,none⟩) xs.length cap):=by
     refine⟨_,rfl,hsz,_,cap,cs,rfl,hn,hrows,λ _=>⟨g,0,rfl,?_,hcell⟩⟩;show (if _ then _ else _)=_;rw[if_pos rfl]
    have K3:=K2.put0 hd _ _ 0 rfl hsv;refine⟨_,h,Ap (S:=J9 (Sd (Lo S t 0) w' (λ k=>if k=g then .fz else (Lo S t 0).O k)) (λ _ _=>none) d (.one (.fz e (.i .u8) xs)) (.slice (some ⟨g,0,none⟩) xs.length cap)) (I9 ho (he.trans ev) hr) (by rw[hod];exact K3) ?_⟩;show upd (upd S.g t ((S.g t).1+1,.one .dead)) d _=_;rw[show ups A [⟨t,false,.one .dead⟩,⟨d,false,.one (.fz e (.i .u8) xs)⟩]=ups (ups A [⟨t,false,.one .dead⟩]) [⟨d,false,.one (.fz e (.i .u8) xs)⟩] from rfl,Ao,Ao,← hg];rfl
   ·exact absurd rfl (hnt t)
  ·cases hi
 ·cases hi
def I9a (hE:Hz X E) (K:B0 X S a) (hg:S.g=get A) {T T':TypeId} {x:Operand} {d:Nat} (ho:o.op = .convert T T' x) (hod:o.dst=some d) (hd:d<X.nt) (h:Au E o A Kc=some r):Gp X o a S.w A Kc r:=by
 unfold Au at h;rw[ho,hod]at h;simp only at h
 cases hi:Qt E A T T' x d with
 |some U=>
  rw[hi]at h;exact L0a hE K hg ho hod hd hi h
 |none=>
 rw[hi]at h;simp only at h;split at h
 ·rename_i y hs;obtain⟨l,hl⟩:=Gj hE K hg hs;rcases Uoa K hg (show B8 X.P S (.pl l []) y (a.eval x) from hl) with⟨lab',hl'⟩|⟨p,v,pi,e,r0,xs,rfl,hv,hvw⟩
  rotate_left 1
  ·rw[hvw]at h;unfold conv at h;split at h
   ·rename_i hy;simp at hy
   ·rename_i hy;simp at hy
   ·rename_i e0 b0 f0 b f e' xs' hT hT' hy;rw[csi]at h;obtain⟨hq,h⟩:=h;simp only[Sv.one.injEq]at hy;cases hy;obtain⟨ad,cap,cs,e1,hrows,hne⟩:=Sla rfl hv hl;obtain⟨u1,u2⟩:=Kz (hE.ti _ _ hT);exact Ma K hg hod hd rfl (I9 ho e1 (Lu u1 u2 (Ky (hE.ti _ _ hT')) (P9 _ _ hrows) hne)) h
   ·rename_i hy;simp at hy
   ·rename_i hy;simp at hy
   ·cases h
  unfold conv at h;split at h
  ·rename_i k0 b0 f0 k b f k1 n hT hT' hy;simp only[Sv.one.injEq]at hy;rw[hy]at hl';have e1:a.eval x = .int k1 n:=hl'.1;refine Ma K hg hod hd rfl (I9 ho e1 ?_) h;simp[convert,run_underlying (G2a (hE.ti _ _ hT)),run_underlying (G2a (hE.ti _ _ hT')),Conv.intToInt]
  ·rename_i b0 f0 b f s hT hT' hy;simp only[Sv.one.injEq]at hy;rw[hy]at hl';have e1:a.eval x = .string s:=hl'.1;refine Ma K hg hod hd rfl (I9 ho e1 ?_) h;simp[convert,run_underlying (Ky (hE.ti _ _ hT)),run_underlying (Ky (hE.ti _ _ hT'))]
  ·rename_i e b0 f0 b f e' xs hT hT' hy;rw[csi]at h;obtain⟨hq,h⟩:=h;simp only[Sv.one.injEq]at hy;rw[hy]at hl';obtain⟨ad,cap,cs,e1,hrows,hne⟩:=Ska hl';obtain⟨u1,u2⟩:=Kz (hE.ti _ _ hT);exact Ma K hg hod hd rfl (I9 ho e1 (Lu u1 u2 (Ky (hE.ti _ _ hT')) (P9 _ _ hrows) hne)) h
  ·rename_i e b0 f0 b f e' xs hT hT' hy;rw[csi]at h;obtain⟨hq,h⟩:=h;simp only[Sv.one.injEq]at hy;rw[hy]at hl';obtain⟨ad,cap,cs,e1,hrows,hne⟩:=Kxa rfl hl';obtain⟨u1,u2⟩:=Kz (hE.ti _ _ hT);exact Ma K hg hod hd rfl (I9 ho e1 (Lu u1 u2 (Ky (hE.ti _ _ hT')) (P9 _ _ hrows) hne)) h
  ·rename_i b0 f0 e b f s hT hT' hy;rw[csi]at h;obtain⟨hq,h⟩:=h;simp only[Sv.one.injEq]at hy;rw[hy]at hl';have e1:a.eval x = .string s:=hl'.1;obtain⟨u1,u2⟩:=Kz (hE.ti _ _ hT');have hr:=run_bytes_of_string (P:=X.P) S.w T T' e s (Ky (hE.ti _ _ hT)) u1 u2;have hszs:=(hE.ti _ _ hT').sz;simp only[szB,Va,beq_iff_eq]at hszs;generalize hob:Obj.cells (bytesRow s (grownCap S.w s.size 0 e)) e ((bytesRow s (grownCap S.w s.size 0 e)).size,(bytesRow s (grownCap S.w s.size 0 e)).size+1)=ob at hr
   obtain⟨K1,L1⟩:=K.grow (w':=S.w.drew.alloc ob) (row:=none) (O':=λ k=>if k=S.w.heap.size then .fz else S.O k) ⟨rfl,rfl,rfl,by simp,λ k hk _=>heap_alloc_old S.w.drew ob k hk⟩ (by simp)
    (λ k hk _=>by show (if k=S.w.heap.size then _ else _)=_;rw[if_neg (by omega)])
    (λ k hk=>by
     show k<(S.w.heap.push _).size;rw[Array.size_push]
     by_cases h:k=S.w.heap.size
     ·omega
     ·simp only[h,if_false]at hk;have:=K.lt k hk
      omega)
   have hcell:Dz (S.w.drew.alloc ob) S.w.heap.size 0 (s.data.toList.map λ b=>Value.int .u8 b.toNat):=by
    intro j u hj;have hb:(S.w.drew.alloc ob).heap[S.w.heap.size]? = some ob:=heap_alloc_new S.w.drew ob;subst hob
    have hjl:j<s.data.toList.length:=by
     rcases Bxb j s.data.toList.length with h|h
     ·exact h
     ·rw[Zd (by simpa using h)]at hj;cases hj
    simp only[World.cell?,hb,Wg];simp only[bytesRow];rw[Array.getElem?_append_left (by simpa using hjl)]
    simpa using hj
   have hbl:(bytesOf s).length=s.size:=by simp[bytesOf]
   have hsv:Hh X.P (Sd S (S.w.drew.alloc ob) (λ k=>if k=S.w.heap.size then .fz else S.O k)) 0 (.one (.fz e (.i .u8) (bytesOf s))) (.slice (some ⟨S.w.heap.size,0,none⟩) s.size (grownCap S.w s.size 0 e)):=by
    refine⟨_,rfl,hszs.1,_,grownCap S.w s.size 0 e,_,by rw[hbl],by rw[hbl];exact grownCap_ge _ _ _ _,Q9 s.data.toList,λ _=>⟨_,0,rfl,?_,hcell⟩⟩;show (if _ then _ else _)=_;rw[if_pos rfl]
   have K2:=K1.put0 hd _ _ 0 rfl hsv;refine⟨_,h,Ap (S:=J9 (Sd S (S.w.drew.alloc ob) (λ k=>if k=S.w.heap.size then .fz else S.O k)) (λ _ _=>none) d (.one (.fz e (.i .u8) (bytesOf s))) (.slice (some ⟨S.w.heap.size,0,none⟩) s.size (grownCap S.w s.size 0 e))) (I9 ho e1 hr) (by rw[hod];exact K2) ?_⟩;show upd S.g d _=_;rw[Ao,← hg];rfl
  ·cases h
 ·cases h
end
end

section
attribute [local irreducible] C H
def bare (O:Nat→Lab) (w:World):Sit:=⟨O,λ _=>(0,0),λ _=>(0,.one .dead),λ _=>undef,w⟩
def Um (P:Program) (S:Sit) (rg:Nat→Nat×Nat) (B:Nat) (t:Ty) (l:List Lf) (u:Value):Prop:=
 ∃ k o c e us,u = .pointer (some ⟨k,o,none⟩)∧S.w.heap[k]? = some (.cells c e (0,0))∧S.O k = .bx B∧rg B=(o,t.sz)∧o+t.sz≤c.size∧t.sz<999∧l.length=t.sz∧(∀ j,j<t.sz→c[o+j]? = us[j]?)∧
  Aa P S (λ j => .pl (C B j) []) 0 l us
def Iaa (P:Program) (S:Sit) (w:Nat→Value) (j:Nat):Lf→Value→Prop
 |.own _ _ _,u=>u=w j
 |x,u=>Oza x=true∧B8 P S .fz x u
def Xb (Q:Nat→Lf→Value→Prop):Nat→List Lf→List Value→Prop
 |_,[],[]=>True
 |j,x::l,u::us=>Q j x u∧Xb Q (j+1) l us
 |_,_,_=>False
def Iba (P:Program) (S:Sit) (rg:Nat→Nat×Nat) (nv:Nat) (hs:List Value) (i:Nat):Par→List Lf→Value→Prop
 |.vw t h,l,u=>nv≤h∧∃ vs k o c e,u = .agg vs.toArray∧hs[h-nv]? = some (.pointer (some ⟨k,o,none⟩))∧S.w.heap[k]? = some (.cells c e (0,0))∧t.sz<999∧l.length=t.sz∧Xb (Iaa P S (λ j=>c.getD (o+j) undef)) 0 l vs
 |.val ag _,l,u=>∃ us,(if ag then u = .agg us.toArray else us=[u])∧Aa P S (λ j => .pl i (if ag then [j] else [])) 0 l us
 |.ptr t _,l,u=>i<nv∧Um P S rg (bid nv i) t l u
 |.hid t _,l,u=>nv≤i∧Um P S rg (bid nv i) t l u
 |.rd t,l,u=>∃ x k o cs,mkW t l=some x∧u = .pointer (some ⟨k,o,none⟩)∧S.O k = .fz∧t.rep P (λ k=>S.O k = .fz) S.w x cs∧Dz S.w k o cs
 |.fn F m,_,u=>u = .func (.func F) #[] hs.toArray∧hs.length=m
def L5 (P:Program) (S:Sit) (rg:Nat→Nat×Nat) (nv:Nat) (hs:List Value):Nat→List Par→List (List Lf)→List Value→Prop
 |_,[],[],[]=>True
 |i,p::ps,l::ls,u::us=>Iba P S rg nv hs i p l u∧L5 P S rg nv hs (i+1) ps ls us
 |_,_,_,_=>False
def Mr (P:Program) (S:Sit) (n0:Nat) (i:Nat):RK→List Lf→Value→Prop
 |.one,l,u=>Aa P S (λ _ => .tm i []) 0 l [u]
 |.agg,l,u=>∃ us,u = .agg us.toArray∧Aa P S (λ j => .tm i [j]) 0 l us
 |.ptr,l,u=>∃ k o c e us,u = .pointer (some ⟨k,o,none⟩)∧S.w.heap[k]? = some (.cells c e (0,0))∧n0≤k∧S.O k = .tm (i+500) []∧o+l.length≤c.size∧l.length<999∧(∀ j,j<l.length→c[o+j]? = us[j]?)∧
   Aa P S (λ j => .tm i [j]) 0 l us
def Ie (P:Program) (S:Sit) (n0:Nat):Nat→List (RK×Ty)→List (List Lf)→List Value→Prop
 |_,[],_,us=>us=[]
 |i,k::ks,l::ls,u::us=>Mr P S n0 i k.1 l u∧Ie P S n0 (i+1) ks ls us
 |_,_,_,_=>False
def Gz (P:Program) (S:Sit) (n0:Nat) (rs:List (RK×Ty)) (ls:List (List Lf)) (v:Value):Prop:=
 match rs with
 |[r]=>∃ l ls',ls=l::ls'∧Mr P S n0 1 r.1 l v
 |rs=>∃ us,v = .tuple us.toArray∧Ie P S n0 1 rs ls us
def Un (P:Program) (S:Sit) (i:Nat) (t':Ty) (l:List Lf) (u:Value):Prop:=
 ∃ k o c e us,u = .pointer (some ⟨k,o,none⟩)∧S.w.heap[k]? = some (.cells c e (0,0))∧l.length=t'.sz∧(∀ j,j<t'.sz→c[o+j]? = us[j]?)∧Aa P S (λ j => .tm (1001+i) [j]) 0 l us
def Kh (P:Program) (S:Sit):Nat→List Par→List Value→List (List Lf)→Prop
 |_,[],_,ls=>ls=[]
 |i,.ptr _ t'::ps,u::us,l::ls=>Un P S i t' l u∧Kh P S (i+1) ps us ls
 |i,.hid _ t'::ps,u::us,l::ls=>Un P S i t' l u∧Kh P S (i+1) ps us ls
 |i,.val _ _::ps,_::us,ls=>Kh P S (i+1) ps us ls
 |i,.vw _ _::ps,_::us,ls=>Kh P S (i+1) ps us ls
 |i,.rd _::ps,_::us,ls=>Kh P S (i+1) ps us ls
 |i,.fn _ _::ps,_::us,ls=>Kh P S (i+1) ps us ls
 |_,_,_,_=>False
def Xja (nv n b:Nat):Prop:=∃ i,i<n∧b=bid nv i
def Upa (P:Program) (f:FuncId) (en:Ent):Prop:=
 ∀ x r,en.run x=some r→∀ (w:World) (O:Nat→Lab) (rg:Nat→Nat×Nat) (us:List Value),(∀ k,O k ≠ .no→k<w.heap.size)→(∀ k b,O k = .bx b→Xja en.nv en.ps.length b∧(∃ c e f,w.heap[k]? = some (.cells c e f))∧∀ k',O k' = .bx b→k'=k)→L5 P (bare O w) rg en.nv (us.drop en.nv) 0 en.ps (Dk _ x) us→
  Calls P f (us.take en.nv).toArray w (λ e w'=>∃ v O',e = .returned v∧Fr O w rg O' w'∧(∀ k,O' k ≠ .no→k<w'.heap.size)∧Gz P (bare O' w') w.heap.size en.rs (Dk _ r) v∧Kh P (bare O' w') 0 en.ps us ((Dk _ r).drop en.rs.length))
structure L6 (P:Program) (f:FuncId) (en:Ent):Prop where
 fn:∃ fn,P.funcs[f]? = some fn∧(fn.name == "runtime.NumGoroutine")=false∧fn.body.isNone=false
 sound:Upa P f en
section
variable {X:Cx} {S S':Sit} {a:Act} {E:En} {A:Ab} {o:Oper} {R:Type} {Kc:List Up→Option R} {r:R}
def Gq:Lf→Bool
 |.sc _ | .fz _ _ _ | .own _ _ _=>true
 |_=>false
def B8.bare {P:Program} {x:Lf} {u:Value} {lab lab':Lab} (hx:Gq x=true) {S1 S2:Sit} (hw:S2.w=S1.w) (hf:∀ k,S1.O k = .fz→S2.O k = .fz) (hl:∀ k,S1.O k=lab→S2.O k=lab') (h:B8 P S1 lab x u):B8 P S2 lab' x u:=by
 cases x with
 |sc v=>exact h
 |fz e r xs=>exact Ty.rep_mono (t := .sl e r) hf (λ k _=>by rw[hw]) _ _ h
 |own e r xs=>exact Eo.later (O':=S2.O) (w':=S2.w) h (λ k hk=>⟨hf k hk,by rw[hw]⟩) (λ k hk=>⟨hl k hk,by rw[hw]⟩)
 |_=>simp[Gq]at hx
def Ig:∀ (t:Ty) (x:t.den),∀ y∈A6 t x,Gq y=true
 |.i _,_=>by simp[A6,Gq]
 |.b,_=>by simp[A6,Gq]
 |.s,_=>by simp[A6,Gq]
 |.sl _ _,_=>by simp[A6,Gq]
 |.ow _ _,_=>by simp[A6,Gq]
 |.pr x y,p=>by
  intro z hz;rcases Vl.1 (show z∈A6 x p.1++A6 y p.2 from hz) with h|h
  ·exact Ig x p.1 z h
  ·exact Ig y p.2 z h
def G4:∀ (t:Ty) (x:t.den),(A6 t x).length=t.sz
 |.i _,_=>rfl
 |.b,_=>rfl
 |.s,_=>rfl
 |.sl _ _,_=>rfl
 |.ow _ _,_=>rfl
 |.pr x y,p=>by
  show (A6 x p.1++A6 y p.2).length=x.sz+y.sz;rw[Vi,G4 x p.1,G4 y p.2]
def Aa.impS {P:Program} {S1 S2:Sit} {f f':Nat→Lab}:∀ {l:List Lf} {j:Nat} {us:List Value},(∀ y∈l,Gq y=true)→(∀ n x u,Gq x=true→B8 P S1 (f n) x u→B8 P S2 (f' n) x u)→Aa P S1 f j l us→Aa P S2 f' j l us
 |[],_,[],_,_,_=>trivial
 |[],_,_::_,_,_,h=>h.elim
 |_::_,_,[],_,_,h=>h.elim
 |y::l,j,u::us,hs,hi,h=>⟨hi j y u (hs y (by simp)) h.1,Aa.impS (λ z hz=>hs z (Vd _ hz)) hi h.2⟩
def B0.world (K:B0 X S a) {w':World} {O':Nat→Lab} (h1:∀ k,k<S.w.heap.size→(∀ n q,S.O k ≠ .tm n q)→O' k=S.O k∧w'.heap[k]? = S.w.heap[k]?)
  (hos:w'.os=S.w.os) (ht:w'.tape=S.w.tape) (hout:w'.output=S.w.output) (hsz:S.w.heap.size≤w'.heap.size) (hlt:∀ k,O' k ≠ .no→k<w'.heap.size):
  B0 X (Sd S w' O') a∧Ep S (Sd S w' O'):=by
 have keep:∀ k o,S.O k=o→k<S.w.heap.size→(∀ n q,o ≠ .tm n q)→O' k=o∧w'.heap[k]? = S.w.heap[k]?:=by
  intro k o' h hk ho;obtain⟨h2,h3⟩:=h1 k hk (by rw[h];exact ho);exact⟨h2.trans h,h3⟩
 have keep':∀ k o,S.O k=o→o ≠ .no→(∀ n q,o ≠ .tm n q)→O' k=o∧w'.heap[k]? = S.w.heap[k]? := λ k o' h hn ho=>keep k o' h (K.lt k (by rw[h];exact hn)) ho
 have L:Ep S (Sd S w' O'):=⟨λ _=>Vv _,λ _ _=>rfl,λ p v e r xs' h _=>⟨xs',h,rfl⟩,λ _ _=>rfl,λ k h=>keep' k _ h (by simp) (by simp),Ep.box_of (λ _ _ _ h=>h) (λ k b h=>keep' k _ h (by simp) (by simp)),λ p _ hd=>⟨hd,λ _ _ _ h=>h,λ k hk=>by
  obtain⟨h1,h2⟩:=keep' k _ hk (by simp) (by simp)
  exact⟨.inl h1,h2⟩⟩⟩
 have F:=K.fr;refine⟨⟨K.nt,hlt,λ l=>(K.at_ l).later L (λ p k h=>keep' k _ h (by simp) (by simp)),λ b n h=>?_,K.rgn,K.sl,K.sz,K.df,⟨hos.trans F.os,ht.trans F.tape,hout.trans F.out,Zv F.size hsz,λ k hk h0=>?_,λ k hk h0=>?_,λ k b hk h0=>?_⟩⟩,L⟩
 ·obtain⟨hn,c,e,e1,e2,e3,e4⟩:=K.box b n h;obtain⟨h5,h6⟩:=keep' _ _ e2 (by simp) (by simp);exact⟨hn,c,e,h6.trans e1,h5,e3,e4⟩
 ·obtain⟨f1,f2⟩:=F.no k hk h0;obtain⟨h5,h6⟩:=keep k _ f1 (Yf hk F.size) (by simp);exact⟨h5,h6.trans f2⟩
 ·obtain⟨f1,f2⟩:=F.fz k hk h0;obtain⟨h5,h6⟩:=keep k _ f1 (Yf hk F.size) (by simp);exact⟨h5,h6.trans f2⟩
 ·obtain⟨f1,c,c',e,f,f2,f3,f4,f5⟩:=F.bx k b hk h0;obtain⟨h5,h6⟩:=keep k _ f1 (Yf hk F.size) (by simp);exact⟨h5,c,c',e,f,f2,h6.trans f3,f4,f5⟩
end
end

section
attribute [local irreducible] C H
section
variable {X:Cx} {S S':Sit} {a:Act} {E:En} {A:Ab} {o:Oper} {R:Type} {Kc:List Up→Option R} {r:R}
def Aa.impM {P:Program} {S1 S2:Sit} {f f':Nat→Lab}:∀ {l:List Lf} {j:Nat} {us:List Value},(∀ x∈l,∀ n u,B8 P S1 (f n) x u→B8 P S2 (f' n) x u)→Aa P S1 f j l us→Aa P S2 f' j l us
 |[],_,[],_,_=>trivial
 |[],_,_::_,_,h=>h.elim
 |_::_,_,[],_,h=>h.elim
 |y::l,j,u::us,hi,h=>⟨hi y (by simp) j u h.1,Aa.impM (λ z hz=>hi z (Vd _ hz)) h.2⟩
def Mr.imp {P:Program} {S1 S2:Sit} {n0 i:Nat} {k:RK} {l:List Lf} {u:Value} (hw:S2.w=S1.w) (hO:∀ k i,S1.O k = .tm i []→S2.O k = .tm i []) (hi:∀ y∈l,∀ i q u,B8 P S1 (.tm i q) y u→B8 P S2 (.tm i q) y u) (h:Mr P S1 n0 i k l u):Mr P S2 n0 i k l u:=by
 cases k with
 |one=>exact Aa.impM (λ x hx n u h=>hi x hx _ _ u h) h
 |agg=>
  obtain⟨us,e,h⟩:=h;exact⟨us,e,h.impM (λ x hx n u h=>hi x hx _ _ u h)⟩
 |ptr=>
  obtain⟨k,o,c,e,us,e1,e2,e3,e4,e5,e6,e7,h⟩:=h;exact⟨k,o,c,e,us,e1,by rw[hw];exact e2,e3,hO _ _ e4,e5,e6,e7,h.impM (λ x hx n u h=>hi x hx _ _ u h)⟩
def Ie.imp {P:Program} {S1 S2:Sit} {n0:Nat} (hw:S2.w=S1.w) (hO:∀ k i,S1.O k = .tm i []→S2.O k = .tm i []):∀ {rs:List (RK×Ty)} {i:Nat} {ls:List (List Lf)} {us:List Value},
  (∀ l∈ls,∀ y∈l,∀ i q u,B8 P S1 (.tm i q) y u→B8 P S2 (.tm i q) y u)→Ie P S1 n0 i rs ls us→Ie P S2 n0 i rs ls us
 |[],_,_,_,_,h=>h
 |k::ks,i,l::ls,u::us,hi,h=>⟨h.1.imp hw hO (hi l (by simp)),Ie.imp hw hO (λ l' hl'=>hi l' (Vd _ hl')) h.2⟩
 |_::_,_,[],_,_,h=>h.elim
 |_::_,_,_::_,[],_,h=>h.elim
def Gz.imp {P:Program} {S1 S2:Sit} {n0:Nat} {rs:List (RK×Ty)} {ls:List (List Lf)} {v:Value} (hw:S2.w=S1.w) (hO:∀ k i,S1.O k = .tm i []→S2.O k = .tm i [])
  (hi:∀ l∈ls,∀ y∈l,∀ i q u,B8 P S1 (.tm i q) y u→B8 P S2 (.tm i q) y u) (h:Gz P S1 n0 rs ls v):Gz P S2 n0 rs ls v:=by
 unfold Gz at h ⊢;split at h
 ·obtain⟨l,ls',rfl,h⟩:=h;exact⟨l,ls',rfl,h.imp hw hO (hi l (by simp))⟩
 ·obtain⟨us,e,h⟩:=h;exact⟨us,e,h.imp hw hO hi⟩
def Xka (K:B0 X S a) {A1:Ab} (hg:S.g=get A1) {d k o n0:Nat} {l0:List Nat} {m:List Lf} {us:List Value} {q:Nat→List Nat} {c:Array Value} {e:TypeId} (hd:d<X.nt) (hk:S.O k = .tm n0 l0) (hn0:n0≠0) (hk0:X.w0.heap.size≤k)
  (hc:S.w.heap[k]? = some (.cells c e (0,0))) (ho:o+m.length≤c.size) (hcs:∀ j,j<m.length→c[o+j]? = us[j]?) (hl:Aa X.P S (λ j => .tm 0 (q j)) 0 m us)
  (hq:∀ j,j<m.length→U3 d 0 0 (q j)=some (.pl (C d (0+j)) [])) (hm:m.length<999) (hst:∀ k,.hd k∉m) (hnp:X.np≤d):
  ∃ S',B0 X S' (a.put (some d) (.pointer (some ⟨k,o,none⟩)))∧S'.w=S.w∧S'.g=get (ups A1 (⟨H d,false,.one (.hd m.length)⟩::Cq d 0 m++[⟨d,false,.one (.bp d ((get A1 (H d)).1+1) 0)⟩])):=by
 obtain⟨K2,L2⟩:=K.newbox (d:=d) (k:=k) (o:=o) hk hn0 hk0 hc ho hcs hl hq hm hst hnp (Yf hd K.nt)
 have hv:((Daa S d k o m us).g (H d)).1=(S.g (H d)).1+1:=by
  show (Lr (upd S.g (H d) _) d 0 m (H d)).1=_;unfold Lr;rw[if_neg (F8 (by omega)),Aq]
 have K3:=K2.put0 hd (.one (.bp d ((S.g (H d)).1+1) 0)) (.pointer (some ⟨k,o,none⟩)) 0 rfl ⟨by rw[hv];exact Vv _,λ _=>by
  show Value.pointer _ = .pointer (some ⟨(upd S.bb d (k,o) d).1,(upd S.bb d (k,o) d).2+0,none⟩);rw[Aq]
  rfl⟩
 have e1:(Daa S d k o m us).g=get (ups A1 (⟨H d,false,.one (.hd m.length)⟩::Cq d 0 m)):=by
  show Lr (upd S.g (H d) ((S.g (H d)).1+1,.one (.hd m.length))) d 0 m=get (ups (up A1 ⟨H d,false,.one (.hd m.length)⟩) (Cq d 0 m));rw[Hj,Jz,← hg];rfl
 refine⟨_,K3,rfl,?_⟩;show upd (Daa S d k o m us).g d _=_;rw[Ay,Ao,← e1,← hg]
def Jsa (d:Nat) (many:Bool):Nat→List Nat→Option Lab:=λ n q=>match n with
 |0=>none
 |n+1=>if many then (match q with
  |[]=>some (.pl d [n,0])
  |[j]=>some (.pl d [n,j])
  |_=>none) else (if n=0 then some (.pl d q) else none)
def Dwa (d:Nat) (many:Bool):∀ n q p,Jsa d many n q=some p→∃ p',p = .pl d p':=by
 intro n q p hp;unfold Jsa at hp;split at hp
 ·cases hp
 ·split at hp
  ·split at hp<;>first|(cases hp;exact⟨_,rfl⟩)|cases hp
  ·split at hp<;>first|(cases hp;exact⟨_,rfl⟩)|cases hp
def Dxa (K:B0 X S a) {A1:Ab} (hg:S.g=get A1) {rs:List (RK×Ty)} {ls:List (List Lf)} {d:Option Nat} {us:List Up} {v:Value} {n0:Nat} (hd:∀ d',d=some d'→d'<X.nt) (hn0:X.w0.heap.size≤n0) (hls:∀ l∈ls,∀ y∈l,Gq y=true) (hnp:∀ d',d=some d'→Io rs=true→X.np≤d')
  (hr:Gz X.P S n0 rs ls v) (h:O6 A1 rs ls d=some us):∃ S',B0 X S' (a.put d v)∧S'.w=S.w∧S'.g=get (ups A1 us):=by
 cases d with
 |none=>
  have:us=[]:=by unfold O6 at h;cases rs<;>simpa using h.symm
  subst this;exact⟨S,K,rfl,hg⟩
 |some d=>
  cases rs with
  |nil=>
   have:us=[⟨d,false,.tup []⟩]:=by unfold O6 at h;simpa using h.symm
   subst this;obtain⟨vs,rfl,h2⟩:=hr
   have:vs=[]:=by cases ls<;>exact h2
   subst this;have K2:=K.put0 (hd d rfl) (.tup []) (.tuple #[]) 0 rfl ⟨[],rfl,trivial⟩;exact⟨_,K2,rfl,by show upd S.g d _=_;rw[Ao,← hg]⟩
  |cons r1 rs=>
   cases rs with
   |nil=>
    obtain⟨l,ls',e1,h2⟩:=hr;subst e1;obtain⟨k,t⟩:=r1
    cases k with
    |one=>
     have h2':Aa X.P S (λ _ => .tm 1 []) 0 l [v]:=h2
     cases l with
     |nil=>exact h2'.elim
     |cons x l=>
      cases l with
      |cons y l=>exact h2'.2.elim
      |nil=>
       have:us=[⟨d,false,.one x⟩]:=by unfold O6 at h;simpa using h.symm
       subst this;have h3:B8 X.P S (.tm 1 []) x v:=h2'.1;have L:=Fj S (Jsa d false) d (.one x) v;have hsv:Hh X.P (J9 S (Jsa d false) d (.one x) v) d (.one x) v:=B8.later (lab := .tm 1 []) (lab' := .pl d []) L h3 (λ k hk=>⟨He hk rfl,rfl⟩);have K2:=K.put (hd d rfl) (Jsa d false) (Dwa d false) (.one x) v hsv;exact⟨_,K2,rfl,by show upd S.g d _=_;rw[Ao,← hg]⟩
    |agg=>
     have:us=[⟨d,false,.agg l⟩]:=by unfold O6 at h;simpa using h.symm
     subst this;obtain⟨vs,rfl,h3⟩:=h2;have L:=Fj S (Jsa d false) d (.agg l) (.agg vs.toArray);have hsv:Hh X.P (J9 S (Jsa d false) d (.agg l) (.agg vs.toArray)) d (.agg l) (.agg vs.toArray):=⟨vs,rfl,h3.imp (λ j x u hx=>hx.later L (λ k hk=>⟨He hk rfl,rfl⟩))⟩;have K2:=K.put (hd d rfl) (Jsa d false) (Dwa d false) (.agg l) _ hsv;exact⟨_,K2,rfl,by show upd S.g d _=_;rw[Ao,← hg]⟩
    |ptr=>
     have:us=K0a A1 d l:=by unfold O6 at h;simpa using h.symm
     subst this;obtain⟨k,o,c,e,vs,rfl,e2,e3,e4,e5,e6,e7,h3⟩:=h2
     let hh:Nat→List Nat→Option Lab:=λ n q=>if n=1 then some (.tm 0 q) else none
     obtain⟨K1,L1⟩:=K.names hh (by intro n q;simp only[hh];split<;>simp)
     have e4':({ S with O:=atO S.O hh }:Sit).O k = .tm 501 []:=K5 e4 (by simp[hh])
     obtain⟨S',K',w',g'⟩:=Xka K1 (A1:=A1) (q:=λ j=>[j]) hg (hd d rfl) e4' (by decide) (Zv hn0 e3) e2 e5 e7 (h3.imp (λ j x u hx=>hx.later L1 (λ k hk=>⟨He hk (by simp[hh]),rfl⟩))) (λ j hj=>rfl) e6 (by
      intro k hk;have:=hls l (by simp) _ hk
      simp[Gq]at this) (hnp d rfl rfl)
     exact⟨S',K',w',by rw[g'];rfl⟩
   |cons r2 rs=>
    have h':(bif Io (r1::r2::rs) then none else some [(⟨d,false,.tup (Ada (r1::r2::rs) ls)⟩:Up)])=some us:=by
     unfold O6 at h;obtain⟨k1,t1⟩:=r1
     cases k1<;>exact h
    cases hp:Io (r1::r2::rs)
    case true=>rw[hp]at h';simp at h'
    rw[hp]at h';simp only[cond_false,Vc]at h';subst h';obtain⟨vs,rfl,h2⟩:=hr;generalize hR:(r1::r2::rs)=R2 at hp h2
    have key:∀ (s:Sv) (rs:List (RK×Ty)) (i:Nat) (ls:List (List Lf)) (us:List Value),Io rs=false→Ie X.P S n0 (i+1) rs ls us→M9 X.P (J9 S (Jsa d true) d s (.tuple vs.toArray)) d i (Ada rs ls) us:=by
     intro s rs
     induction rs with
     |nil=>
      intro i ls us _ h
      have:us=[]:=by cases ls<;>exact h
      subst this;simp[Ada,M9]
     |cons r rs ih=>
      intro i ls us hp h
      cases ls with
      |nil=>exact h.elim
      |cons l ls=>
       cases us with
       |nil=>exact h.elim
       |cons u us=>
        obtain⟨k,t⟩:=r;have L:=Fj S (Jsa d true) d s (.tuple vs.toArray)
        have hp2:Io rs=false:=by cases k<;>first|(simp[Io]at hp;done)|simpa[Io] using hp
        refine⟨?_,ih (i+1) ls us hp2 h.2⟩
        cases k with
        |ptr=>simp[Io]at hp
        |one=>
         have h2':Aa X.P S (λ _ => .tm (i+1) []) 0 l [u]:=h.1;refine⟨[u],rfl,?_⟩
         cases l with
         |nil=>exact h2'.elim
         |cons x l=>
          cases l with
          |cons y l=>exact h2'.2.elim
          |nil=>exact⟨B8.later (lab := .tm (i+1) []) (lab' := .pl d [i,0]) L h2'.1 (λ k hk=>⟨He hk rfl,rfl⟩),trivial⟩
        |agg=>
         obtain⟨ws,e1,h3⟩:=h.1;exact⟨ws,e1,h3.imp (λ j x u hx=>hx.later L (λ k hk=>⟨He hk rfl,rfl⟩))⟩
    have hsv:Hh X.P (J9 S (Jsa d true) d (.tup (Ada R2 ls)) (.tuple vs.toArray)) d (.tup (Ada R2 ls)) (.tuple vs.toArray):=⟨vs,rfl,key _ _ 0 ls vs hp h2⟩;have K2:=K.put (hd d rfl) (Jsa d true) (Dwa d true) (.tup (Ada R2 ls)) _ hsv;exact⟨_,K2,rfl,by show upd S.g d _=_;rw[Ao,← hg]⟩
def L1a (N:Nat):Nat→List Nat→Option Lab:=λ n _=>if n≤N then some .fz else none
def Aa.calmN {P:Program} {S:Sit} {N i:Nat} (hi:i≤N) {q:Nat→List Nat}:∀ {l:List Lf} {j:Nat} {us:List Value},(∀ y∈l,Gq y=true)→Aa P S (λ n => .tm i (q n)) j l us→Aa P { S with O:=atO S.O (L1a N) } (λ n => .tm i (q n)) j (l.map Kf) us
 |[],_,[],_,_=>trivial
 |[],_,_::_,_,h=>h.elim
 |_::_,_,[],_,h=>h.elim
 |x::l,j,u::us,hs,h=>by
  have hfz:∀ k,S.O k = .fz→atO S.O (L1a N) k = .fz:=λ k hk=>B5 hk (by simp);refine⟨?_,Aa.calmN hi (λ y hy=>hs y (Vd _ hy)) h.2⟩;have h1:=hs x (by simp)
  cases x with
  |sc v=>exact h.1
  |fz e r xs=>exact Ty.rep_mono (t := .sl e r) hfz (λ _ _=>rfl) _ _ h.1
  |own e r xs=>
   have h2:Eo P S.O S.w (.tm i (q j)) e r xs u:=h.1;exact h2.reads (O':=λ k=>atO S.O (L1a N) k) hfz (λ k hk=>He hk (by simp[L1a,hi]))
  |_=>simp[Gq]at h1
def Mr.calmN {P:Program} {S:Sit} {N n0 i:Nat} (hi:i≤N) {k:RK} (hk:k = .ptr→N<i+500) {l:List Lf} {u:Value} (hs:∀ y∈l,Gq y=true) (h:Mr P S n0 i k l u):Mr P { S with O:=atO S.O (L1a N) } n0 i k (l.map Kf) u:=by
 cases k with
 |one=>exact Aa.calmN (q:=λ _=>[]) hi hs h
 |agg=>
  obtain⟨us,e,h⟩:=h;exact⟨us,e,Aa.calmN (q:=λ n=>[n]) hi hs h⟩
 |ptr=>
  obtain⟨k,o,c,e,us,h1,h2,h3,h4,h5,h6,h7,h8⟩:=h;have:=hk rfl;refine⟨k,o,c,e,us,h1,h2,h3,?_,by rw[Vz];exact h5,by rw[Vz];exact h6,by rw[Vz];exact h7,Aa.calmN (q:=λ n=>[n]) hi hs h8⟩;exact K5 h4 (by unfold L1a;rw[if_neg (by omega)])
def Gz.calmN {P:Program} {S:Sit} {N n0:Nat} {rs:List (RK×Ty)} (hN:rs.length≤N) (hk:Io rs=true→N<501) {ls:List (List Lf)} {v:Value} (hs:∀ l∈ls,∀ y∈l,Gq y=true) (h:Gz P S n0 rs ls v):Gz P { S with O:=atO S.O (L1a N) } n0 rs (ls.map λ l=>l.map Kf) v:=by
 have all:∀ (rs:List (RK×Ty)) (i:Nat) (ls:List (List Lf)) (us:List Value),1≤i→i+rs.length≤N+1→(Io rs=true→N<501)→(∀ l∈ls,∀ y∈l,Gq y=true)→Ie P S n0 i rs ls us→Ie P { S with O:=atO S.O (L1a N) } n0 i rs (ls.map λ l=>l.map Kf) us:=by
  intro rs
  induction rs with
  |nil=>intro i ls us _ _ _ _ h;exact h
  |cons r rs ih=>
   intro i ls us h1 h2 h3 h4 h;simp only[Vh]at h2
   cases ls with
   |nil=>exact h.elim
   |cons l ls=>
    cases us with
    |nil=>exact h.elim
    |cons u us=>
     refine⟨Mr.calmN (by omega) (λ hp=>?_) (h4 l (by simp)) h.1,ih (i+1) ls us (by omega) (by omega) (λ hp=>h3 ?_) (λ l hl=>h4 l (Vd _ hl)) h.2⟩
     ·have:=h3 (by obtain⟨k,t⟩:=r;have:k = .ptr:=hp;subst this;rfl);omega
     ·obtain⟨k,t⟩:=r
      cases k<;>first|exact hp|rfl
 unfold Gz at h ⊢;split at h
 ·rename_i r;obtain⟨l,ls',e,h⟩:=h;subst e;refine⟨l.map Kf,_,rfl,Mr.calmN (by simpa using hN) (λ hp=>?_) (hs l (by simp)) h⟩;have:=hk (by obtain⟨k,t⟩:=r;have:k = .ptr:=hp;subst this;rfl);omega
 ·obtain⟨us,e,h⟩:=h;exact⟨us,e,all _ 1 _ _ (Vv _) (by omega) hk hs h⟩
def G3a {E:En} (K:B0 X S a) {A1:Ab} (hg:S.g=get A1) {rs:List (RK×Ty)} {ls:List (List Lf)} {d:Option Nat} {us:List Up} {v:Value} {n0:Nat} (hN:Io rs=true→rs.length≤400) (hd:∀ d',d=some d'→d'<X.nt) (hn0:X.w0.heap.size≤n0) (hls:∀ l∈ls,∀ y∈l,Gq y=true) (hnp:∀ d',d=some d'→Io rs=true→X.np≤d')
  (hr:Gz X.P S n0 rs ls v) (h:O6 A1 rs (shL E d ls) d=some us):∃ S',B0 X S' (a.put d v)∧S'.w=S.w∧S'.g=get (ups A1 us):=by
 cases d with
 |none=>exact Dxa K hg hd hn0 hls hnp hr h
 |some d=>
  unfold shL at h;simp only at h;cases hsh:E.sh d
  ·rw[hsh]at h;exact Dxa K hg hd hn0 hls hnp hr h
  rw[hsh,cond_true]at h
  have go:∀ N,rs.length≤N→(Io rs=true→N<501)→∃ S',B0 X S' (a.put (some d) v)∧S'.w=S.w∧S'.g=get (ups A1 us):=by
   intro N h1 h2
   obtain⟨K1,_⟩:=K.names (L1a N) (by intro n q;unfold L1a;split<;>simp)
   refine Dxa (S := { S with O:=atO S.O (L1a N) }) K1 hg hd hn0 (λ l hl y hy=>?_) hnp (hr.calmN h1 h2 hls) h;obtain⟨l0,h3,rfl⟩:=Ys.1 hl;obtain⟨y0,h4,rfl⟩:=Ys.1 hy;have:=hls l0 h3 y0 h4
   cases y0<;>first|rfl|simp[Gq]at this
  cases hp:Io rs with
  |true=>exact go 400 (hN hp) (λ _=>by omega)
  |false=>exact go rs.length (Vv _) (λ h=>by rw[hp]at h;cases h)
end
end

end Go.Proofs.Ytcpligincipmhaa.Vf
