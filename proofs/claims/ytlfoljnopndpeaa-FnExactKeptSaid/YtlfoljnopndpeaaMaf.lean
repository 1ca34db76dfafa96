import Derived.Test.YtlfoljnopndpeaaMae
import Derived.Laws.MakeOwn
import Derived.Laws.OwnMore
import Derived.Laws.IdiomStrings
import Derived.Lib.AppendStr
set_option linter.unusedVariables false
set_option linter.unusedSimpArgs false
namespace Go.Proofs.Ytlfoljnopndpeaa.Vf
open Go

section
attribute [local irreducible] C H
section
variable {X:Cx} {S S':Sit} {a:Act} {E:En} {A:Ab} {o:Oper} {R:Type} {Kc:List Up→Option R} {r:R}
theorem Iw:∀ t:Ty,0<t.sz
 |.i _=>Nat.one_pos
 |.b=>Nat.one_pos
 |.s=>Nat.one_pos
 |.sl _ _=>Nat.one_pos
 |.ow _ _=>Nat.one_pos
 |.pr x y=>by have:=Iw x; show 0<x.sz+y.sz; omega
theorem Qf {P:Program} {G:Nat→Prop} {w:World}:∀ (t:Ty) (x:t.den) (vs:List Value),t.rep P G w x vs→∀ u∈vs,u.oneCell'=true
 |.i _,_,_,h=>by subst h; simp [Value.oneCell']
 |.b,_,_,h=>by subst h; simp [Value.oneCell']
 |.s,_,_,h=>by subst h; simp [Value.oneCell']
 |.sl _ _,_,_,⟨v,e,_,ad,cap,cs,e2,_⟩=>by subst e e2; simp [Value.oneCell']
 |.ow _ _,_,_,⟨v,e,_,ad,cap,cs,e2,_⟩=>by subst e e2; simp [Value.oneCell']
 |.pr x y,p,_,⟨c,d,e,h1,h2⟩=>by
  subst e
  intro u hu
  rcases List.mem_append.1 hu with h|h
  ·exact Qf x p.1 c h1 u h
  ·exact Qf y p.2 d h2 u h
theorem Rows.all {α:Type} {R':α→List Value→Prop} {Q:Value→Prop} (hR:∀ x c,R' x c→∀ u∈c,Q u):∀ {xs:List α} {cs:List Value},Rows R' xs cs→∀ u∈cs,Q u
 |[],_,h=>by simp only [Rows] at h; subst h; simp
 |_::_,_,⟨c,d,e,h1,h2⟩=>by
  subst e
  intro u hu
  rcases List.mem_append.1 hu with h|h
  ·exact hR _ _ h1 u h
  ·exact h2.all hR u h
theorem N1 (K:Ae X S a) {A1:Ab} (hg:S.g=get A1) {d:Nat} (hd:d<X.nt) {w':World} {row:Option Nat} {e:TypeId} {r':Ty} {xs:List r'.den} {v:Value} {cs:List Value} {b2:List Nat} (hw:S.w.grownBy w' row) (hrow:∀ k,row=some k→∃ n q,S.O k = .tm n q)
  (hsz:Oo X.P e r'.sz) (hown:w'.ownsRow 0 e r'.sz v xs.length cs) (hrows:Cb (λ x c b=>r'.dep X.P (λ k=>S.O k = .fz) S.w x c b) xs cs b2) (hn:b2.Nodup) (hb:∀ k∈b2,∃ q,S.O k = .tm 0 q) (hb2:∀ k∈b2,row≠some k∧v.ownBlock≠some k)
  (hv:∀ k,v.ownBlock=some k→row=some k∨S.w.heap.size≤k):
  ∃ S',Ae X S' (a.put (some d) v)∧S'.w=w'∧S'.g=get (ups A1 [⟨d,false,.one (.own e r' xs)⟩]):=by
 obtain ⟨K1,L1⟩:=K.grow (w':=w') (row:=row) (O':=λ k=>if v.ownBlock=some k then .tm 0 [] else S.O k) hw hrow
  (λ k hk hnt=>by
   show (if v.ownBlock=some k then _ else _)=_
   rw [if_neg]
   intro e1
   rcases hv k e1 with h|h
   ·obtain ⟨n,q,h2⟩:=hrow k h
    exact hnt n q h2
   ·omega)
  (λ k hk=>by
   by_cases h:v.ownBlock=some k
   ·exact (hown.lt k h).2
   ·simp only [h,if_false] at hk
    exact Nat.lt_of_lt_of_le (K.lt k hk) hw.size)
 let O1:Nat→Lab:=λ k=>if v.ownBlock=some k then .tm 0 [] else S.O k
 let hh:Nat→List Nat→Option Lab:=λ n q=>if n=0 then some (.pl d []) else none
 have L2:=Df (Oy S w' O1) hh d (.one (.own e r' xs)) v
 have hlab:∀ k∈v.ownBlock.toList++b2,(He (Oy S w' O1) hh d (.one (.own e r' xs)) v).O k = .pl d []:=λ k hk=>by
  have h1:∃ q,O1 k = .tm 0 q:=by
   rcases List.mem_append.1 hk with hk|hk
   ·refine ⟨[],if_pos ?_⟩
    cases hvb:v.ownBlock with
    |none=>rw [hvb] at hk; simp at hk
    |some j=>rw [hvb] at hk; simp at hk; rw [hk]
   ·obtain ⟨q,hq⟩:=hb k hk
    exact ⟨q,(if_neg (hb2 k hk).2).trans hq⟩
  obtain ⟨q,hq⟩:=h1
  exact Fw (h:=hh) hq (by simp [hh])
 have hown1:D5 X.P (He (Oy S w' O1) hh d (.one (.own e r' xs)) v).O w' (.pl d []) e r' xs v:=by
  refine ⟨v.ownBlock.toList++b2,⟨v,cs,b2,rfl,hsz,hown,hrows.mono (λ x c b hbb h=>Ty.dep_mono (λ k hk=>(L2.fz k (L1.fz k hk).1).1) (λ k hk=>(L1.fz k hk).2) r' x c b (λ k hk=>?_) h),rfl⟩,?_,hlab⟩
  ·have hk2:=hbb k hk
   obtain ⟨q,hq⟩:=hb k hk2
   exact hw.block k (K.lt k (by rw [hq]; simp)) (λ e=>(hb2 k hk2).1 e.symm)
  ·rw [List.nodup_append]
   refine ⟨by cases v.ownBlock<;>simp,hn,λ k hk k' hk' e=>?_⟩
   subst e
   cases hvb:v.ownBlock with
   |none=>rw [hvb] at hk; simp at hk
   |some j=>
    rw [hvb] at hk
    simp at hk
    exact (hb2 k hk').2 (by rw [hvb,hk])
 have K2:=K1.put hd hh (by intro n q p hp; simp only [hh] at hp; split at hp<;>first|(cases hp; exact ⟨[],rfl⟩)|cases hp) (.one (.own e r' xs)) v hown1
 refine ⟨_,K2,rfl,?_⟩
 show upd S.g d _=_
 rw [A8,← hg]
 rfl
theorem Bza (K:Ae X S a) {A1:Ab} (hg:S.g=get A1) {d:Nat} (hd:d<X.nt) {w':World} {row:Option Nat} {e:TypeId} {r':Ty} {xs:List r'.den} {v:Value} {cs:List Value} (hno:Fu r'=true) (hw:S.w.grownBy w' row) (hrow:∀ k,row=some k→∃ n q,S.O k = .tm n q)
  (hsz:Oo X.P e r'.sz) (hown:w'.ownsRow 0 e r'.sz v xs.length cs) (hrows:Rows (λ x c=>r'.rep X.P (λ k=>S.O k = .fz) S.w x c) xs cs) (hv:∀ k,v.ownBlock=some k→row=some k∨S.w.heap.size≤k):
  ∃ S',Ae X S' (a.put (some d) v)∧S'.w=w'∧S'.g=get (ups A1 [⟨d,false,.one (.own e r' xs)⟩]):=
 N1 K hg hd hw hrow hsz hown ((Cb.flat (λ x c b=>Ty.dep_flat r' x c b hno)).2 ⟨hrows,rfl⟩) (by simp) (by simp) (by simp) hv
theorem Kk:∀ (t t':Ty),Kt t t'=true→Cp t=Cp t'
 |.i k,.i k',h=>by simp [Kt] at h; subst h; rfl
 |.b,.b,_=>rfl
 |.s,.s,_=>rfl
 |.sl _ _,.sl _ _,_=>rfl
 |.sl _ _,.ow _ _,_=>rfl
 |.ow _ _,.sl _ _,_=>rfl
 |.ow _ _,.ow _ _,_=>rfl
 |.pr x y,.pr x' y',h=>by
  simp only [Kt,Bool.and_eq_true] at h
  show Cp x++Cp y=_
  rw [Kk x x' h.1,Kk y y' h.2]
  rfl
 |.i _,.b,h | .i _,.s,h | .i _,.sl _ _,h | .i _,.ow _ _,h | .i _,.pr _ _,h=>by simp [Kt] at h
 |.b,.i _,h | .b,.s,h | .b,.sl _ _,h | .b,.ow _ _,h | .b,.pr _ _,h=>by simp [Kt] at h
 |.s,.i _,h | .s,.b,h | .s,.sl _ _,h | .s,.ow _ _,h | .s,.pr _ _,h=>by simp [Kt] at h
 |.sl _ _,.i _,h | .sl _ _,.b,h | .sl _ _,.s,h | .sl _ _,.pr _ _,h=>by simp [Kt] at h
 |.ow _ _,.i _,h | .ow _ _,.b,h | .ow _ _,.s,h | .ow _ _,.pr _ _,h=>by simp [Kt] at h
 |.pr _ _,.i _,h | .pr _ _,.b,h | .pr _ _,.s,h | .pr _ _,.sl _ _,h | .pr _ _,.ow _ _,h=>by simp [Kt] at h
theorem Qg {P:Program} {G:Nat→Prop} {w:World}:∀ (t:Ty),szB P t=true→t.rep P G w t.dflt (Cp t)
 |.i _,_=>rfl
 |.b,_=>rfl
 |.s,_=>rfl
 |.sl e r,h=>by
  simp only [szB,Bool.and_eq_true,beq_iff_eq] at h
  exact ⟨_,rfl,h.1,none,0,[],rfl,Nat.le_refl _,rfl,λ h=>absurd rfl h⟩
 |.ow e r,h=>by
  simp only [szB,Bool.and_eq_true,beq_iff_eq] at h
  exact ⟨_,rfl,h.1,none,0,[],rfl,Nat.le_refl _,rfl,λ h=>absurd rfl h⟩
 |.pr x y,h=>by
  simp only [szB,Bool.and_eq_true] at h
  exact ⟨_,_,rfl,Qg x h.1,Qg y h.2⟩
theorem Jp:∀ t:Ty,Cp (shp t)=Cp t
 |.i _=>rfl
 |.b=>rfl
 |.s=>rfl
 |.sl _ _=>rfl
 |.ow _ _=>rfl
 |.pr x y=>by show Cp (shp x)++Cp (shp y)=Cp x++Cp y; rw [Jp x,Jp y]
theorem M6 {P:Program}:∀ t:Ty,szB P (shp t)=szB P t
 |.i _=>rfl
 |.b=>rfl
 |.s=>rfl
 |.sl e r=>by show (_&&szB P (shp r))=(_&&szB P r); rw [M6 r,Gz r]
 |.ow e r=>by show (_&&szB P (shp r))=(_&&szB P r); rw [M6 r,Gz r]
 |.pr x y=>by show (szB P (shp x)&&szB P (shp y))=_; rw [M6 x,M6 y]; rfl
theorem Qh {P:Program} {G:Nat→Prop} {w:World}:∀ (t:Ty),szB P t=true→t.dep P G w t.dflt (Cp t) []
 |.i _,_=>⟨rfl,rfl⟩
 |.b,_=>⟨rfl,rfl⟩
 |.s,_=>⟨rfl,rfl⟩
 |.sl e r,h=>⟨Qg (.sl e r) h,rfl⟩
 |.ow e r,h=>by
  simp only [szB,Bool.and_eq_true,beq_iff_eq] at h
  exact ⟨_,[],[],rfl,h.1,World.ownsRow_nil _ _ _ _,⟨rfl,rfl⟩,rfl⟩
 |.pr x y,h=>by
  simp only [szB,Bool.and_eq_true] at h
  exact ⟨_,_,[],[],rfl,rfl,Qh x h.1,Qh y h.2⟩
theorem Cb.replicate {α:Type} {R:α→List Value→List Nat→Prop} {x:α} {c:List Value} (h:R x c []):∀ n,Cb R (List.replicate n x) (List.replicate n c).flatten []
 |0=>by simp [Cb]
 |n+1=>⟨c,_,[],[],by simp [List.replicate_succ],rfl,h,Cb.replicate h n⟩
theorem C0a (l:List Value) (hl:0<l.length):∀ n,(madeCells l.toArray (n * l.length)).toList=(List.replicate n l).flatten:=by
 have key:∀ n,(List.range (n * l.length)).map (λ j=>l.toArray[j % l.toArray.size]!)=(List.replicate n l).flatten:=by
  intro n
  induction n with
  |zero=>simp
  |succ n ih=>
   rw [Nat.add_mul,Nat.one_mul,Nat.add_comm,List.range_add,List.map_append,List.map_map,List.replicate_succ,List.flatten_cons,← ih]
   congr 1
   ·apply List.ext_getElem
    ·simp
    ·intro i h1 h2
     simp at h1
     simp [Nat.mod_eq_of_lt h1,h1]
   ·apply List.map_congr_left
    intro j _
    simp
 intro n
 rw [← key n]
 simp [madeCells]
theorem S5 (hE:Gj X E) (K:Ae X S a) (hg:S.g=get A) {T:TypeId} {x y:Operand} {d:Nat} (ho:o.op = .makeSlice T x y) (hod:o.dst=some d) (hd:d<X.nt) (h:Aa E o A Kc=some r):Fh X o a S.w A Kc r:=by
 unfold Aa at h
 rw [ho,hod] at h
 simp only at h
 split at h
 ·rename_i e r' by_ fo n m hT hx hy
  have ex:=(Hr hE K hg hx).1
  have ey:=(Hr hE K hg hy).1
  split at h
  ·rename_i te hte
   cases hq:(Kt te.ty r'&&decide (n=m)) with
   |false=>rw [hq] at h; simp at h
   |true=>
    rw [hq,cond_true] at h
    simp only [Bool.and_eq_true,decide_eq_true_eq] at hq
    obtain ⟨hz,rfl⟩:=hq
    by_cases h0:0≤n
    ·by_cases hb:n * te.by_≤140737488355328
     ·simp only [h0,hb,decide_true,cond_true] at h
      have hTk:=hE.ti _ _ hT
      have hek:=hE.ti _ _ hte
      have hu:X.P.underlying T=some (.slice e):=by
       have:=hTk.desc
       unfold M2 at this
       split at this<;>simp_all
      have hszs:=hTk.sz
      simp only [szB,Bool.and_eq_true,beq_iff_eq] at hszs
      obtain ⟨i,i1,i2,i3,i4,i5⟩:=hek.info
      obtain ⟨z,z1,z2,z3⟩:=Ld (w:=S.w) hek
      have iz:i.zero=some z:=by
       simp only [zeroValue,typeInfo,Sem.run_bind,run_program,Result.andThen_ok,i1,Sem.run_pure] at z1
       rw [i4] at z1 ⊢
       simp only [Sem.run_pure,Result.ok.injEq,and_true] at z1
       rw [z1]
      have hsame:=Kk _ _ hz
      have hsz1:i.size=r'.sz:=by
       have:=hszs.1
       rw [i1] at this
       simpa using this
      have hb1:(i.bytes:Int) * n≤281474976710656:=by rw [i3,Int.mul_comm]; omega
      have h63:n≤140737488355328:=by
       have h1:(1:Int)≤te.by_:=by have:=hek.by0; omega
       have:=Int.mul_le_mul_of_nonneg_left h1 h0
       rw [Int.mul_one] at this
       omega
      have hr:=run_make (P:=X.P) S.w T e i z hu i1 iz .i64 .i64 n n h0 (Int.le_refl _) hb1 (by omega)
      have key:∀ r2:Ty,shp r2=shp r'→Kc [⟨d,false,.one (.own e r2 (List.replicate n.toNat r2.dflt))⟩]=some r→Fh X o a S.w A Kc r:=by
       intro r2 hs2 hk
       have hsz2:r2.sz=r'.sz:=by rw [← Gz r2,hs2,Gz r']
       have hzc2:Cp r2=Cp r':=by rw [← Jp r2,hs2,Jp r']
       have hszb2:szB X.P r2=true:=by rw [← M6 r2,hs2,M6 r']; exact hszs.2
       have hcl:(Cp r2).length=r2.sz:=I2 r2
       have hflat:(madeCells z.cells (n.toNat * i.size)).toList=(List.replicate n.toNat (Cp r2)).flatten:=by
        rw [z2,hsame,hsz1,← hzc2,← hsz2,← hcl]
        exact C0a _ (by rw [hcl]; exact Iw r2) _
       obtain ⟨S',K',w',g'⟩:=N1 K hg hd (w':=S.w.alloc (.cells (madeCells z.cells (n.toNat * i.size)) e)) (row:=none) (e:=e) (r':=r2) (xs:=List.replicate n.toNat r2.dflt) (v := .slice (some ⟨S.w.heap.size,0,none⟩) n.toNat n.toNat)
        (cs:=(madeCells z.cells (n.toNat * i.size)).toList) (b2:=[]) (World.grownBy_alloc _ _ _) (by simp) (by rw [hsz2]; exact hszs.1)
        (by rw [List.length_replicate]; exact World.ownsRow_lit S.w _ n.toNat (Nat.zero_le _) (by simp only [maxLen]; omega) (by rw [size_madeCells,hsz1,hsz2]))
        (by rw [hflat]; exact Cb.replicate (Qh r2 hszb2) _) (by simp) (by simp) (by simp) (by
         intro k hk
         simp only [Value.ownBlock,Option.some.injEq] at hk
         exact .inr (Nat.le_of_eq hk))
       refine ⟨_,hk,A9 (S:=S') (v := .slice (some ⟨S.w.heap.size,0,none⟩) n.toNat n.toNat) ?_ (by rw [hod]; exact K') g'⟩
       rw [w']
       unfold execOp
       simp [ho,ex,ey,hr]
      split at h
      ·exact key r' rfl h
      ·rename_i r2 _
       by_cases hs2:shp r2=shp r'
       ·simp only [hs2,decide_true,cond_true] at h
        exact key r2 hs2 h
       ·simp [hs2] at h
     ·simp [h0,hb] at h
    ·simp [h0] at h
  ·cases h
 ·cases h
theorem Wv (hE:Gj X E) {e:TypeId} {r':Ty} (N:Nat):∀ (ps:List (Nat×Operand)) {S:Sit} {A:Ab} {i:Nat} {ys:List r'.den} {us':List Up} {zs:List r'.den} {cs:List Value},Ae X S a→S.g=get A→Rd E A e r' i ps=some (ys,us')→zs.length=i→
  Rows (λ x c=>r'.rep X.P (λ k=>S.O k = .fz) S.w x c) zs (cs.take (i * r'.sz))→cs.length=N * r'.sz→i+ps.length≤N→
  ∃ S',∃ cs':List Value,Ae X S' a∧S'.g=get (ups A us')∧S'.w=S.w∧ys.length=ps.length∧cs'.length=N * r'.sz∧Rows (λ x c=>r'.rep X.P (λ k=>S'.O k = .fz) S'.w x c) (zs++ys) (cs'.take ((i+ps.length) * r'.sz))∧
   Instr.fill (λ j=>some (j * r'.sz,r'.sz)) cs.toArray (ps.map λ p=>(p.1,a.eval p.2))=some cs'.toArray
 |[],S,A,i,ys,us',zs,cs,K,hg,h,hi,hz,hcl,hN=>by
  simp only [Rd,Option.some.injEq,Prod.mk.injEq] at h
  obtain ⟨rfl,rfl⟩:=h
  exact ⟨S,cs,K,hg,rfl,rfl,hcl,by simpa using hz,rfl⟩
 |(j,x)::ps,S,A,i,ys,us',zs,cs,K,hg,h,hi,hz,hcl,hN=>by
  simp only [Rd] at h
  cases hb:Nat.beq i j with
  |false=>rw [hb] at h; simp at h
  |true=>
   rw [hb,cond_true] at h
   have hij:i=j:=Nat.eq_of_beq_eq_true hb
   subst hij
   split at h
   ·rename_i s hs
    cases hst:A3 ((parts s).map (Fy A)) with
    |false=>rw [hst] at h; simp at h
    |true=>
     rw [hst,cond_true] at h
     split at h
     ·rename_i y hy
      split at h
      ·rename_i ys1 us1 hrec
       simp only [Option.some.injEq,Prod.mk.injEq] at h
       obtain ⟨rfl,rfl⟩:=h
       have hnt:∀ vs,s ≠ .tup vs:=by
        intro vs e1
        subst e1
        have:∀ t:Ty,mkT t []=none:=by intro t; induction t<;>simp_all [mkT]
        simp [parts,mkW,this] at hy
       obtain ⟨S1,K1,g1,w1,b1,p1,L1,x1,heads,tms,us,hsh,hls⟩:=Bma hE K hg hs hnt 0
       obtain ⟨K2,L2⟩:=K1.names (Ws 0) (by intro n q; unfold Ws; split<;>simp)
       have hrep:=La hst hls
       rw [List.map_map] at hrep
       have hyr:=Nd hy hrep
       have hul:=Ty.rep_len _ _ _ hyr
       have hone:=J8 hst hls
       have hle:i * r'.sz+r'.sz≤cs.length:=by
        rw [hcl]
        have:=Nat.mul_le_mul_right r'.sz (show i+1≤N by simp only [List.length_cons] at hN; omega)
        rw [Nat.add_mul,Nat.one_mul] at this
        exact this
       have hz2:Rows (λ x c=>r'.rep X.P (λ k=>({ S1 with O:=atO S1.O (Ws 0) }:Sit).O k = .fz) ({ S1 with O:=atO S1.O (Ws 0) }:Sit).w x c) (zs++[y]) ((cs.take (i * r'.sz)++us++cs.drop (i * r'.sz+r'.sz)).take ((i+1) * r'.sz)):=by
        have e1:(cs.take (i * r'.sz)++us++cs.drop (i * r'.sz+r'.sz)).take ((i+1) * r'.sz)=cs.take (i * r'.sz)++us:=by
         rw [List.take_left' (by rw [List.length_append,List.length_take,hul,Nat.add_mul,Nat.one_mul]; omega)]
        rw [e1]
        refine Rows.append (hz.mono (λ x c=>Ty.rep_mono (λ k hk=>(L2.fz k (L1.fz k hk).1).1) (λ k hk=>by show S1.w.heap[k]? = _; rw [w1]) r' x c)) ⟨us,[],by simp,hyr,rfl⟩
       obtain ⟨S',cs',K',g',w',l1,l2,l3,hf⟩:=Wv hE N ps K2 (by show S1.g=_; exact g1) hrec (by simp [hi]) hz2 (by
        simp only [List.length_append,List.length_take,List.length_drop,hul]; omega) (by simp only [List.length_cons] at hN; omega)
       refine ⟨S',cs',K',by rw [Ad]; exact g',w'.trans w1,by simp [l1],l2,?_,?_⟩
       ·rw [List.append_assoc,List.singleton_append] at l3
        rw [List.length_cons,show i+(ps.length+1)=i+1+ps.length by omega]
        exact l3
       ·rw [List.map_cons,Lh (us:=us) (off:=i * r'.sz) (z:=r'.sz) rfl (Fn hsh hnt hone) hul (by simpa using hle)]
        exact hf
      ·cases h
     ·cases h
   ·cases h
theorem Ww (hE:Gj X E) {e:TypeId} {r':Ty} (N:Nat) (hall:Cs r'=true):∀ (ps:List (Nat×Operand)) {S:Sit} {A:Ab} {i:Nat} {ys:List r'.den} {us':List Up} {zs:List r'.den} {cs:List Value} {bz:List Nat},Ae X S a→S.g=get A→Re E A e r' i ps=some (ys,us')→zs.length=i→
  Cb (λ x c b=>r'.dep X.P (λ k=>S.O k = .fz) S.w x c b) zs (cs.take (i * r'.sz)) bz→bz.Nodup→(∀ k∈bz,∃ n q,1000≤n∧n<1000+i∧S.O k = .tm n q)→cs.length=N * r'.sz→i+ps.length≤N→
  ∃ S',∃ cs':List Value,∃ b2,Ae X S' a∧S'.g=get (ups A us')∧S'.w=S.w∧ys.length=ps.length∧cs'.length=N * r'.sz∧Cb (λ x c b=>r'.dep X.P (λ k=>S'.O k = .fz) S'.w x c b) (zs++ys) (cs'.take ((i+ps.length) * r'.sz)) b2∧
   b2.Nodup∧(∀ k∈b2,∃ n q,1000≤n∧n<1000+(i+ps.length)∧S'.O k = .tm n q)∧Instr.fill (λ j=>some (j * r'.sz,r'.sz)) cs.toArray (ps.map λ p=>(p.1,a.eval p.2))=some cs'.toArray
 |[],S,A,i,ys,us',zs,cs,bz,K,hg,h,hi,hz,hbn,hbl,hcl,hN=>by
  simp only [Re,Option.some.injEq,Prod.mk.injEq] at h
  obtain ⟨rfl,rfl⟩:=h
  exact ⟨S,cs,bz,K,hg,rfl,rfl,hcl,by simpa using hz,hbn,by simpa using hbl,rfl⟩
 |(j,x)::ps,S,A,i,ys,us',zs,cs,bz,K,hg,h,hi,hz,hbn,hbl,hcl,hN=>by
  simp only [Re] at h
  cases hb:Nat.beq i j with
  |false=>rw [hb] at h; simp at h
  |true=>
   rw [hb,cond_true] at h
   have hij:i=j:=Nat.eq_of_beq_eq_true hb
   subst hij
   split at h
   ·rename_i s hs
    split at h
    ·rename_i m us0 hgive
     cases hst:Ix m with
     |false=>rw [hst] at h; simp at h
     |true=>
      rw [hst,cond_true] at h
      split at h
      ·rename_i y hy
       split at h
       ·rename_i ys1 us1 hrec
        simp only [Option.some.injEq,Prod.mk.injEq] at h
        obtain ⟨rfl,rfl⟩:=h
        have hnt:∀ vs,s ≠ .tup vs:=by
         intro vs e1
         subst e1
         have h1:∀ t:Ty,mkT t []=none:=by intro t; induction t<;>simp_all [mkT]
         have h2:=My hgive
         have:m=[]:=List.eq_nil_of_length_eq_zero (by simpa [parts] using h2)
         subst this
         simp [mkW,h1] at hy
        obtain ⟨S1,K1,g1,G1,us,hsh,hls⟩:=Bra hE K hg hs hnt hgive (1000+i)
        obtain ⟨mb,m1,m2,m3⟩:=Jn hst hls (Bsa hnt (My hgive))
        have hyr:=Qe hall hy m1
        have hul:=Ty.dep_len _ _ _ _ hyr
        have hone:=J8 (Hu hst) hls
        have hle:i * r'.sz+r'.sz≤cs.length:=by
         rw [hcl]
         have:=Nat.mul_le_mul_right r'.sz (show i+1≤N by simp only [List.length_cons] at hN; omega)
         rw [Nat.add_mul,Nat.one_mul] at this
         exact this
        have hbl1:∀ k∈bz,∃ n q,1000≤n∧n<1000+i∧S1.O k = .tm n q:=λ k hk=>by
         obtain ⟨n,q,h1,h2,h3⟩:=hbl k hk
         exact ⟨n,q,h1,h2,G1.tm n q k h3⟩
        have hz1:Cb (λ x c b=>r'.dep X.P (λ k=>S1.O k = .fz) S1.w x c b) zs (cs.take (i * r'.sz)) bz:=hz.mono (λ x c b _ h=>Ty.dep_mono (λ k hk=>(G1.later.fz k hk).1) (λ k _=>by rw [G1.w]) r' x c b (λ k _=>by rw [G1.w]) h)
        have hz2:Cb (λ x c b=>r'.dep X.P (λ k=>S1.O k = .fz) S1.w x c b) (zs++[y]) ((cs.take (i * r'.sz)++us++cs.drop (i * r'.sz+r'.sz)).take ((i+1) * r'.sz)) (bz++mb):=by
         have e1:(cs.take (i * r'.sz)++us++cs.drop (i * r'.sz+r'.sz)).take ((i+1) * r'.sz)=cs.take (i * r'.sz)++us:=by
          rw [List.take_left' (by rw [List.length_append,List.length_take,hul,Nat.add_mul,Nat.one_mul]; omega)]
         rw [e1]
         exact hz1.append ⟨us,[],mb,[],by simp,by simp,hyr,rfl,rfl⟩
        have hbn2:(bz++mb).Nodup:=by
         rw [List.nodup_append]
         refine ⟨hbn,m2,λ k hk k' hk' e=>?_⟩
         subst e
         obtain ⟨n,q,_,h2,h3⟩:=hbl1 k hk
         obtain ⟨n',_,_,h4⟩:=m3 k hk'
         rw [h3] at h4
         cases h4
         omega
        have hbl2:∀ k∈bz++mb,∃ n q,1000≤n∧n<1000+(i+1)∧S1.O k = .tm n q:=λ k hk=>by
         rcases List.mem_append.1 hk with hk|hk
         ·obtain ⟨n,q,h1,h2,h3⟩:=hbl1 k hk
          exact ⟨n,q,h1,by omega,h3⟩
         ·obtain ⟨n',_,_,h4⟩:=m3 k hk
          exact ⟨_,_,by omega,by omega,h4⟩
        obtain ⟨S',cs',b2,K',g',w',l1,l2,l3,l4,l5,hf⟩:=Ww hE N hall ps K1 g1 hrec (by simp [hi]) hz2 hbn2 hbl2 (by
         simp only [List.length_append,List.length_take,List.length_drop,hul]; omega) (by simp only [List.length_cons] at hN; omega)
        refine ⟨S',cs',b2,K',by rw [Ad]; exact g',w'.trans G1.w,by simp [l1],l2,?_,l4,?_,?_⟩
        ·rw [List.append_assoc,List.singleton_append] at l3
         rw [List.length_cons,show i+(ps.length+1)=i+1+ps.length by omega]
         exact l3
        ·rw [List.length_cons,show i+(ps.length+1)=i+1+ps.length by omega]
         exact l5
        ·rw [List.map_cons,Lh (us:=us) (off:=i * r'.sz) (z:=r'.sz) rfl (Fn hsh hnt hone) hul (by simpa using hle)]
         exact hf
       ·cases h
      ·cases h
    ·cases h
   ·cases h
theorem Qi (hE:Gj X E) (K:Ae X S a) (hg:S.g=get A) {T:TypeId} {n d:Nat} {ps:Array (Nat×Operand)} (ho:o.op = .buildSlice T n ps) (hod:o.dst=some d) (hd:d<X.nt) (h:Aa E o A Kc=some r):Fh X o a S.w A Kc r:=by
 unfold Aa at h
 rw [ho,hod] at h
 simp only at h
 split at h
 ·rename_i e r' by_ fo hT
  cases hq:(Nat.beq n ps.size&&Nat.ble (n * r'.sz) 16777216&&(E.ti e).isSome) with
  |false=>rw [hq] at h; simp at h
  |true=>
   rw [hq,cond_true] at h
   simp only [Bool.and_eq_true] at hq
   have hn:n=ps.size:=Nat.eq_of_beq_eq_true hq.1.1
   have hle:n * r'.sz≤16777216:=Nat.le_of_ble_eq_true hq.1.2
   obtain ⟨te,hte⟩:=Option.isSome_iff_exists.1 hq.2
   have hTk:=hE.ti _ _ hT
   have hek:=hE.ti _ _ hte
   have hu:X.P.underlying T=some (.slice e):=by
    have:=hTk.desc
    unfold M2 at this
    split at this<;>simp_all
   have hszs:=hTk.sz
   simp only [szB,Bool.and_eq_true,beq_iff_eq] at hszs
   obtain ⟨z,z1,z2,z3⟩:=Ld (w:=S.w) hek
   have hps:ps.toList.length=n:=by rw [hn]; simp
   have fin:∀ {r2:Ty} {ys:List r2.den} {us:List Up},r2.sz=r'.sz→Kc (us++[⟨d,false,.one (.own e r2 ys)⟩])=some r→
     (∀ cs:List Value,cs.length=n * r2.sz→∃ (S1:Sit) (cs':List Value) (b2:List Nat),Ae X S1 a∧S1.g=get (ups A us)∧S1.w=S.w∧ys.length=n∧cs'.length=n * r2.sz∧Cb (λ x c b=>r2.dep X.P (λ k=>S1.O k = .fz) S1.w x c b) ys cs' b2∧
      b2.Nodup∧(∀ k∈b2,∃ q,S1.O k = .tm 0 q)∧Instr.fill (λ j=>some (j * r2.sz,r2.sz)) cs.toArray (ps.toList.map λ p=>(p.1,a.eval p.2))=some cs'.toArray)→Fh X o a S.w A Kc r:=by
    intro r2 ys us hsz2 hk hrows
    rw [← hsz2] at hle hszs
    have run:∀ zero:Array Value,((if n * r2.sz=0 then pure #[] else do pure (← zeroValue e).cells:Sem (Array Value)).run X.P S.w = .ok zero S.w)→Fh X o a S.w A Kc r:=by
     intro zero hzero
     obtain ⟨S1,cs',b2,K1,g1,w1,l1,l2,l3,l4,l5,hf⟩:=hrows ((Array.range (n * r2.sz)).map (zero[· % zero.size]!)).toList (by simp)
     obtain ⟨S',K',w',g'⟩:=N1 K1 g1 hd (w':=S1.w.alloc (.cells cs'.toArray e)) (row:=none) (e:=e) (r':=r2) (xs:=ys) (v := .slice (some ⟨S1.w.heap.size,0,none⟩) n n)
      (cs:=cs'.toArray.toList) (World.grownBy_alloc _ _ _) (by simp) hszs.1
      (by rw [l1]; exact World.ownsRow_lit S1.w _ n (Nat.zero_le _) (by
       have h1:=Iw r2
       have h2:n * 1≤n * r2.sz:=Nat.mul_le_mul_left _ h1
       simp only [maxLen]; omega) (by simpa using l2))
      l3 l4 l5 (by
       intro k hk
       refine ⟨by simp,λ e1=>?_⟩
       simp only [Value.ownBlock,Option.some.injEq] at e1
       obtain ⟨q,hq⟩:=l5 k hk
       have:=K1.lt k (by rw [hq]; simp)
       omega) (by
       intro k hk
       simp only [Value.ownBlock,Option.some.injEq] at hk
       exact .inr (Nat.le_of_eq hk))
     rw [← Ad] at g'
     refine ⟨_,hk,A9 (S:=S') (v := .slice (some ⟨S1.w.heap.size,0,none⟩) n n) ?_ (by rw [hod]; exact K') g'⟩
     rw [w',w1]
     unfold execOp
     simp only [ho,Sem.run_bind]
     unfold Instr.buildSlice
     simp only [Sem.run_bind,run_underlying hu,Result.andThen_ok,Gf hszs.1]
     rw [if_neg (by omega)]
     have e2:(ps.map λ x=>(x.1,a.eval x.2)).toList=ps.toList.map λ p=>(p.1,a.eval p.2):=by simp
     simp only [Array.toArray_toList] at hf
     by_cases hz0:n * r2.sz=0
     ·rw [if_pos hz0] at hzero ⊢
      simp only [Sem.run_pure,Result.ok.injEq,and_true] at hzero
      subst hzero
      simp only [Sem.run_bind,Sem.run_pure,Result.andThen_ok,e2,hf]
      simp [newRow]
     ·rw [if_neg hz0] at hzero ⊢
      simp only [Sem.run_bind,Sem.run_pure,z1,Result.andThen_ok,Result.ok.injEq,and_true] at hzero
      subst hzero
      simp only [Sem.run_bind,Sem.run_pure,z1,Result.andThen_ok,e2,hf]
      simp [newRow]
    by_cases hz:n * r2.sz=0
    ·exact run #[] (by rw [if_pos hz]; rfl)
    ·exact run z.cells (by rw [if_neg hz]; simp [z1])
   split at h
   ·cases hno:Fu r' with
    |false=>rw [hno] at h; simp at h
    |true=>
     rw [hno,cond_true] at h
     split at h
     ·rename_i ys us hrows
      refine fin rfl h (λ cs hcs=>?_)
      obtain ⟨S1,cs',K1,g1,w1,l1,l2,l3,hf⟩:=Wv hE n ps.toList (zs:=[]) (cs:=cs) K hg hrows rfl (by simp [Rows]) hcs (by simp [hn])
      simp only [List.nil_append,Nat.zero_add] at l3
      rw [hps] at l1 l3
      rw [List.take_of_length_le (by omega)] at l3
      exact ⟨S1,cs',[],K1,g1,w1,l1,l2,(Cb.flat (λ x c b=>Ty.dep_flat r' x c b hno)).2 ⟨l3,rfl⟩,by simp,by simp,hf⟩
     ·cases h
   ·rename_i r2 _
    cases hq2:(decide (shp r2=shp r')&&Cs r2) with
    |false=>rw [hq2] at h; simp at h
    |true=>
     rw [hq2,cond_true] at h
     simp only [Bool.and_eq_true,decide_eq_true_eq] at hq2
     have hsz2:r2.sz=r'.sz:=by rw [← Gz r2,hq2.1,Gz r']
     split at h
     ·rename_i ys us hrows
      refine fin hsz2 h (λ cs hcs=>?_)
      obtain ⟨S1,cs',b2,K1,g1,w1,l1,l2,l3,l4,l5,hf⟩:=Ww hE n hq2.2 ps.toList (zs:=[]) (bz:=[]) (cs:=cs) K hg hrows rfl (by simp [Cb]) (by simp) (by simp) hcs (by simp [hn])
      simp only [List.nil_append,Nat.zero_add] at l3
      rw [hps] at l1 l3
      rw [List.take_of_length_le (by omega)] at l3
      obtain ⟨K2,L2⟩:=K1.names (λ n _=>if 1000≤n then some (.tm 0 []) else none) (by intro n q; split<;>simp)
      refine ⟨_,cs',b2,K2,g1,w1,l1,l2,l3.mono (λ x c b _ h=>Ty.dep_mono (λ k hk=>(L2.fz k hk).1) (λ _ _=>rfl) r2 x c b (λ _ _=>rfl) h),l4,λ k hk=>?_,hf⟩
      obtain ⟨m,q,m1,_,m2⟩:=l5 k hk
      exact ⟨[],Fw m2 (by simp [m1])⟩
     ·cases h
 ·cases h
end
end

section
attribute [local irreducible] C H
section
variable {X:Cx} {S S':Sit} {a:Act} {E:En} {A:Ab} {o:Oper} {R:Type} {Kc:List Up→Option R} {r:R}
theorem I9a {P:Program} {w:World} {t ty e:TypeId} {i:TypeInfo} {z:Value} {size:Nat} (ht:P.underlying t=some (.slice e)) (hi:P.info? e=some i) (hz:i.zero=some z)
  (hsize:i.size=size) {v:Value} {n:Nat} {xs:List Value} (hown:w.ownsRow 0 e size v n xs)
  {ad:Addr} {m c:Nat} {On:List Value} (hl:On.length=m * size) (hnews:∀ j u,On[j]? = some u→w.cell? (ad.add j)=some u) (h1:∀ u∈On,u.oneCell'=true)
  (h63:n+m≤maxLen) (hbytes:(n+m) * i.bytes≤140737488355328) {v':Value} {w':World} (hr:(Builtin.append_ #[t,t] ty #[v,.slice (some ad) m c]).run P w = .ok v' w')
  (hnil:v' = .slice none 0 0↔v = .slice none 0 0∧m=0):∀ k,v'.ownBlock=some k→v.ownBlock=some k∨w.heap.size≤k:=by
 subst hsize
 have hsmall:n+m≤9223372036854775807:=by simp only [maxLen] at h63; omega
 intro k hk
 rcases D0 hown with ⟨rfl,hn,rfl⟩|⟨k0,cap,cur,rfl,hg,hc1,hc2,hc3,hc4⟩
 ·by_cases hm:m=0
  ·rw [hnil.2 ⟨rfl,hm⟩] at hk
   simp [Value.ownBlock] at hk
  ·subst hn
   have h2:=run_append_nil (P:=P) w t ty e i z ht hi hz ad m c On hl hnews (by omega) (by omega) (by have hb:=hbytes; simp only [Nat.zero_add] at hb; omega)
   rw [h2] at hr
   cases hr
   simp only [Value.ownBlock,Option.some.injEq] at hk
   exact .inr (Nat.le_of_eq hk)
 ·by_cases hroom:n+m≤cap
  ·have hfit:n * i.size+On.length≤cur.size:=by rw [hl,hc3,← Nat.add_mul]; exact Nat.mul_le_mul_right _ hroom
   have h2:=run_append_room (P:=P) w t ty e i ht hi k0 n cap cur hg ad m c On hl hnews h1 hroom hfit
   rw [h2] at hr
   cases hr
   exact .inl hk
  ·have holds:∀ j u,xs[j]? = some u→w.cell? ((⟨k0,0,none⟩:Addr).add j)=some u:=hown.cells (g:=k0) rfl
   have h2:=run_append_grow (P:=P) w t ty e i z ht hi hz ⟨k0,0,none⟩ n cap xs hown.1 holds ad m c On hl hnews (by omega) (by omega) (growslice_fits (by omega) hbytes)
   rw [h2] at hr
   cases hr
   simp only [Value.ownBlock,Option.some.injEq] at hk
   exact .inr (Nat.le_of_eq hk)
theorem U2 {P:Program} {w:World} {t u ty e:TypeId} {i:TypeInfo} (ht:P.underlying t=some (.slice e)) (hu:P.underlying u=some .string) (hi:P.info? e=some i) (hz:i.zero=some (.int .u8 0))
  (hsize:i.size=1) (hby:i.bytes=1) {v:Value} {n:Nat} {xs:List Value} (hown:w.ownsRow 0 e 1 v n xs) {s:ByteArray}
  (h63:n+s.size≤maxLen) (hbytes:n+s.size≤140737488355328) {v':Value} {w':World} (hr:(Builtin.append_ #[t,u] ty #[v,.string s]).run P w = .ok v' w')
  (hnil:v' = .slice none 0 0↔v = .slice none 0 0∧s.size=0):∀ k,v'.ownBlock=some k→v.ownBlock=some k∨w.heap.size≤k:=by
 have hsmall:n+s.size≤9223372036854775807:=by simp only [maxLen] at h63; omega
 intro k hk
 rcases D0 hown with ⟨rfl,hn,rfl⟩|⟨k0,cap,cur,rfl,hg,hc1,hc2,hc3,hc4⟩
 ·by_cases hm:s.size=0
  ·rw [hnil.2 ⟨rfl,hm⟩] at hk
   simp [Value.ownBlock] at hk
  ·subst hn
   have h2:=run_append_nil_string (P:=P) w t u ty e i _ ht hu hi hz s (by omega) (by omega) (by rw [hby]; omega)
   rw [h2] at hr
   cases hr
   simp only [Value.ownBlock,Option.some.injEq] at hk
   exact .inr (Nat.le_of_eq hk)
 ·by_cases hroom:n+s.size≤cap
  ·have h2:=Go.Lib.run_append_room_string (P:=P) w t u ty e i ht hu hi hsize k0 n cap cur hg s hroom (by rw [hc3]; omega)
   rw [h2] at hr
   cases hr
   exact .inl hk
  ·have holds:∀ j u,xs[j]? = some u→w.cell? ((⟨k0,0,none⟩:Addr).add j)=some u:=hown.cells (g:=k0) rfl
   have h2:=Go.Lib.run_append_grow_string (P:=P) w t u ty e i _ ht hu hi hz ⟨k0,0,none⟩ n cap xs (by rw [hsize]; exact hown.1) holds s (by omega) (by omega) (growslice_fits (by omega) (by rw [hby]; omega))
   rw [h2] at hr
   cases hr
   simp only [Value.ownBlock,Option.some.injEq] at hk
   exact .inr (Nat.le_of_eq hk)
theorem Hl {P:Program} {w w':World} {T T':TypeId} {x y:Operand} {c:Call} (ho:o.op = .call c) (hc:c.callee = .builtin .append) (hT:c.argTypes.toList=[T,T']) (hx:c.args.toList=[x,y]) {v:Value}
  (hr:(Builtin.append_ #[T,T'] o.type #[a.eval x,a.eval y]).run P w = .ok v w'):(execOp a.eval o).run P w = .ok (.value v) w':=by
 have e1:c.args = #[x,y]:=by rw [← hx]
 have e2:c.argTypes = #[T,T']:=by rw [← hT]
 unfold execOp
 simp [ho,resolve,hc,e1,e2,invoke,builtin,hr]
theorem Wx (hE:Gj X E) (K:Ae X S a) (hg:S.g=get A) {T:TypeId} {x:Operand} {u:Lf} {e:TypeId} {r':Ty} {xs:List r'.den} (hs:opT E T A x=some (.one u)) (hu:Gp A u = .own e r' xs):
  ∃ S1,Ae X S1 a∧S1.g=get (ups A (Tg u x))∧S1.w=S.w∧Cq S S1∧D5 X.P S1.O S1.w (.tm 0 []) e r' xs (a.eval x)∧(∀ n q z v,Ai X.P S (.tm n q) z v→Ai X.P S1 (.tm n q) z v)∧S1.bb=S.bb∧S1.ph=S.ph∧(∀ b n,(S.g (H b)).2 = .one (.hd n)→S1.g (H b)=S.g (H b)):=by
 obtain ⟨l,hl⟩:=El hE K hg hs
 have hlf:Ai X.P S (.pl l []) u (a.eval x):=hl
 by_cases hal:∃ p v,u = .al p v
 ·obtain ⟨p,v,rfl⟩:=hal
  obtain ⟨p',v',e1,hp⟩:=Jk hu (by intro e r xs h; cases h)
  cases e1
  obtain ⟨K1,g1,g2⟩:=K5 K p 0
  have he:a.eval x=S.ph p:=hlf.2 (by rw [hg,hp])
  refine ⟨_,K1,?_,rfl,H1 S p 0,?_,g2,rfl,rfl,λ b n hn=>Ac _ _ (λ e1=>by rw [e1,hg,hp] at hn; cases hn)⟩
  ·show upd S.g p _=_
   rw [show Tg (.al p v) x=[⟨p,false,.one .dead⟩] from rfl,A8,← hg]
  ·have:=K.at_ p
   rw [hg,hp] at this
   rw [he]
   exact g1 [] (.own e r' xs) _ this
 ·have hne:∀ p v,u = .al p v→False:=λ p v h=>hal ⟨p,v,h⟩
  have hu':=W3 hu hne
  subst hu'
  rcases Hz hE K hg hs with ⟨t,rfl,ht,hst,het,hok⟩|⟨hnt,y',ey,hy'⟩
  ·obtain ⟨K1,g1,g2⟩:=K5 K t 0
   refine ⟨_,K1,?_,rfl,H1 S t 0,g1 [] (.own e r' xs) _ hok,g2,rfl,rfl,λ b n hn=>Ac _ _ (λ e1=>by rw [e1,← hst] at hn; cases hn)⟩
   show upd S.g t _=_
   rw [show Tg (.own e r' xs) (.tmp t)=[⟨t,false,.one .dead⟩] from rfl,A8,← hg]
  ·cases ey
   refine ⟨S,K,?_,rfl,.refl S,hy' (.tm 0 []),λ _ _ _ _ h=>h,rfl,rfl,λ _ _ _=>rfl⟩
   cases x<;>first|exact hg|exact absurd rfl (hnt _)
theorem H8a {lab:Lab} {e':TypeId} {r':Ty} {ys:List r'.den} {u:Value} (h:Ai X.P S lab (.fz e' r' ys) u):
  ∃ ad cap cs,u = .slice ad ys.length cap∧Rows (λ x c=>r'.rep X.P (λ k=>S.O k = .fz) S.w x c) ys cs∧(ys≠[]→∃ k o,ad=some ⟨k,o,none⟩∧Co S.w k o cs):=by
 obtain ⟨v,e1,_,ad,cap,cs,e2,_,hrows,hne⟩:=h
 cases e1
 refine ⟨ad,cap,cs,e2,hrows,λ hn=>?_⟩
 obtain ⟨k,o',e3,_,e4⟩:=hne hn
 exact ⟨k,o',e3,e4⟩
theorem C1a {lab:Lab} {e':TypeId} {r':Ty} {ys:List r'.den} {u:Value} (hno:Fu r'=true) (h:D5 X.P S.O S.w lab e' r' ys u):
  ∃ ad cap cs,u = .slice ad ys.length cap∧Rows (λ x c=>r'.rep X.P (λ k=>S.O k = .fz) S.w x c) ys cs∧(ys≠[]→∃ k o,ad=some ⟨k,o,none⟩∧Co S.w k o cs):=by
 obtain ⟨_,cs,hrow,hrows,_⟩:=(D5.flat hno).1 h
 rcases D0 hrow with ⟨e1,e2,rfl⟩|⟨k,cap,cur,e1,hc,_,_,_,ht⟩
 ·refine ⟨none,0,[],by rw [e1,e2],hrows,λ hn=>absurd (List.eq_nil_of_length_eq_zero e2) hn⟩
 ·exact ⟨_,cap,cs,e1,hrows,λ _=>⟨k,0,rfl,G0 hc ht⟩⟩
theorem H9a {p v:Nat} {pi:Option (List (Int×Nat))} {e':TypeId} {r':Ty} {ys:List r'.den} {u:Value} (hno:Fu r'=true) (hv:(S.g p).1=v) (h:Axa X.P S p v pi e' r' ys u):
  ∃ ad cap cs,u = .slice ad ys.length cap∧Rows (λ x c=>r'.rep X.P (λ k=>S.O k = .fz) S.w x c) ys cs∧(ys≠[]→∃ k o,ad=some ⟨k,o,none⟩∧Co S.w k o cs):=by
 obtain ⟨_,_,h2⟩:=h
 obtain ⟨_,⟨_,ad,cap,cs,bs,e1,_,hrows,_,hne⟩,_⟩:=h2 hv
 refine ⟨ad,cap,cs,e1,((Cb.flat (λ x c b=>Ty.dep_flat r' x c b hno)).1 hrows).1,λ hn=>?_⟩
 obtain ⟨k,o',e3,_,e4⟩:=hne hn
 exact ⟨k,o',e3,e4⟩
theorem K6a (K:Ae X S a) (hg:S.g=get A) {lab:Lab} {x:Lf} {e':TypeId} {r':Ty} {ys:List r'.den} {u:Value} (h:Ai X.P S lab x u) (hs:Tf A x=some ⟨e',r',ys⟩):
  ∃ ad cap cs,u = .slice ad ys.length cap∧Rows (λ x c=>r'.rep X.P (λ k=>S.O k = .fz) S.w x c) ys cs∧(ys≠[]→∃ k o,ad=some ⟨k,o,none⟩∧Co S.w k o cs):=by
 unfold Tf at hs
 split at hs
 ·rename_i p v pi e r xs
  cases hq:(Nat.beq (get A p).1 v&&Fu r) with
  |false=>rw [hq] at hs; simp at hs
  |true=>
   rw [hq] at hs
   simp only [cond_true,Option.some.injEq,Sl.mk.injEq] at hs
   obtain ⟨rfl,rfl,h3⟩:=hs
   cases h3
   simp only [Bool.and_eq_true] at hq
   exact H9a hq.2 (by rw [hg]; exact Nat.eq_of_beq_eq_true hq.1) h
 ·obtain ⟨lab',h'⟩:=Kg K hg h
  split at hs
  ·rename_i e r xs hsn
   rw [hsn] at h'
   simp only [Option.some.injEq,Sl.mk.injEq] at hs
   obtain ⟨rfl,rfl,h3⟩:=hs
   cases h3
   exact H8a h'
  ·rename_i e r xs hsn
   rw [hsn] at h'
   cases hq:Fu r with
   |false=>rw [hq] at hs; simp at hs
   |true=>
    rw [hq] at hs
    simp only [cond_true,Option.some.injEq,Sl.mk.injEq] at hs
    obtain ⟨rfl,rfl,h3⟩:=hs
    cases h3
    exact C1a hq h'
  ·cases hs
theorem Wy {P:Program} {T:TypeId} {t:TI} (w:World) (h:TOk P T t):∃ i z,P.info? T=some i∧i.zero=some z∧i.size=t.ty.sz∧i.bytes=t.by_∧z.cells=(Cp t.ty).toArray∧(t.ag=false→Cp t.ty=[z]):=by
 obtain ⟨i,i1,i2,i3,i4,i5⟩:=h.info
 obtain ⟨z,z1,z2,z3⟩:=Ld (w:=w) h
 have iz:i.zero=some z:=by
  simp only [zeroValue,typeInfo,Sem.run_bind,run_program,Result.andThen_ok,i1,Sem.run_pure] at z1
  rw [i4] at z1 ⊢
  simp only [Sem.run_pure,Result.ok.injEq,and_true] at z1
  rw [z1]
 exact ⟨i,z,i1,iz,i2,i3,z2,λ ha=>by rw [ha] at z3; simpa using z3⟩
theorem M7 {P:Program} {G:Nat→Prop} {w:World}:∀ l:List UInt8,Rows (λ x c=>Ty.rep P G w (.i .u8) x c) (l.map λ b=>(b.toNat:Int)) (l.map λ b=>Value.int .u8 b.toNat)
 |[]=>rfl
 |b::l=>⟨[_],_,rfl,rfl,M7 l⟩
theorem C2a {P:Program} {w:World} {T ty e:TypeId} {te:TI} {sz:Nat} (hu:P.underlying T=some (.slice e)) (hek:TOk P e te) (hsz:Oo P e sz) {v u:Value} {n m cap:Nat} {cs ds:List Value} {ad:Option Addr} (hrow:w.ownsRow 0 e sz v n cs) (ev:u = .slice ad m cap)
  (hdl:ds.length=m * sz) (hdone:∀ u∈ds,u.oneCell'=true) (hne:m≠0→∃ k o,ad=some ⟨k,o,none⟩∧Co w k o ds) (hle:(n+m) * te.by_≤140737488355328) (hpos:0<sz):
  ∃ v' w',(Builtin.append_ #[T,T] ty #[v,u]).run P w = .ok v' w'∧w'.ownsRow 0 e sz v' (n+m) (cs++ds)∧w.grownBy w' v.ownBlock∧∀ k,v'.ownBlock=some k→v.ownBlock=some k∨w.heap.size≤k:=by
 obtain ⟨i,z,i1,iz,i2,i3,z2,_⟩:=Wy w hek
 have hsize:i.size=sz:=by
  have:=hsz
  unfold Oo at this
  rw [i1] at this
  simpa using this
 have h63:n+m≤maxLen:=by
  have h1:=hek.by0
  have h2:(n+m) * 1≤(n+m) * te.by_:=Nat.mul_le_mul_left _ h1
  simp only [maxLen]; omega
 subst ev
 cases ad with
 |none=>
  have hm0:m=0:=by
   by_cases hm:m=0
   ·exact hm
   ·obtain ⟨k,o',e1,_⟩:=hne hm
    cases e1
  subst hm0
  have hd0:ds=[]:=List.eq_nil_of_length_eq_zero (by simpa using hdl)
  subst hd0
  have hcap:(Builtin.append_ #[T,T] ty #[v,.slice none 0 cap]).run P w = .ok v w:=by
   rcases D0 hrow with ⟨e1,_⟩|⟨k,cap',cur,e1,_,hle',_⟩
   ·rw [e1]; simp [Builtin.append_,run_underlying hu,sizeOf,typeInfo,i1,Builtin.lenOf,Builtin.firstCells]
   ·rw [e1]; simp [Builtin.append_,run_underlying hu,sizeOf,typeInfo,i1,Builtin.lenOf,Builtin.firstCells,hle',storeCells]
  refine ⟨_,_,hcap,by simpa using hrow,⟨rfl,rfl,rfl,Nat.le_refl _,λ _ _ _=>rfl⟩,λ k hk => .inl hk⟩
 |some ad=>
  have hnews:∀ j u,ds[j]? = some u→w.cell? (ad.add j)=some u:=by
   intro j u hj
   have hm:m≠0:=by
    intro e1
    subst e1
    have:ds=[]:=List.eq_nil_of_length_eq_zero (by simpa using hdl)
    subst this
    simp at hj
   obtain ⟨k,o',e1,e2⟩:=hne hm
   cases e1
   rw [Hf]
   exact e2 j u hj
  obtain ⟨v',w',hr,ho',hgr,hnil⟩:=run_append_own (P:=P) w 0 T ty e i z sz te.by_ hu i1 iz hsize i3 (by rw [z2,List.size_toArray,I2,← i2,hsize]) hpos v n cs hrow ad m cap ds hdl hnews hdone h63 hle (Nat.zero_le _)
  exact ⟨v',w',hr,ho',hgr,I9a hu i1 iz hsize hrow hdl hnews hdone h63 (by rw [i3]; exact hle) hr hnil⟩
theorem Iaa {P:Program} {G:Nat→Prop} {w:World} (t:Ty) (x:t.den) (c:List Value) (b:List Nat) (h:t.dep P G w x c b):∀ u∈c,u.oneCell'=true:=
 Qf (G:=λ k=>G k∨k∈b) t x c (Ty.dep_rep (λ _ h => .inl h) t x c b (λ _ h => .inr h) h)
theorem C3a (hE:Gj X E) (K:Ae X S a) (hg:S.g=get A) {c:Call} (ho:o.op = .call c) (hc:c.callee = .builtin .append) (hd:∀ d,o.dst=some d→d<X.nt) (h:Aa E o A Kc=some r):Fh X o a S.w A Kc r:=by
 unfold Aa at h
 rw [ho] at h
 simp only [hc] at h
 split at h
 ·rename_i T T' x y d hT hx hod
  have hdl:=hd d hod
  split at h
  ·rename_i u w hsu hsw
   split at h
   ·rename_i e r' xs hsu'
    obtain ⟨S1,K1,g1,w1,L1,hown,tms,_⟩:=Wx hE K hg hsu hsu'
    split at h
    ·-- all that is in it is Ix
     rename_i r2 _
     split at h
     ·rename_i w2 hsw2
      split at h
      ·rename_i e' r3 ys xs2 te hsn hcx hte
       split at h
       ·rename_i ys2 hcy
        cases hq:(Cs r2&&Nat.beq e e'&&H6 E T e&&Nat.beq T T') with
        |false=>rw [hq] at h; simp at h
        |true=>
         rw [hq,cond_true] at h
         cases hq2:Nat.ble ((xs2.length+ys2.length) * te.by_) 140737488355328 with
         |false=>rw [hq2] at h; simp at h
         |true=>
          rw [hq2,cond_true] at h
          simp only [Bool.and_eq_true] at hq
          obtain ⟨⟨⟨q0,q1⟩,q2⟩,q3⟩:=hq
          have he:e=e':=Nat.eq_of_beq_eq_true q1
          have hTT:T=T':=Nat.eq_of_beq_eq_true q3
          subst he hTT
          have hle:(xs2.length+ys2.length) * te.by_≤140737488355328:=Nat.le_of_ble_eq_true hq2
          obtain ⟨K2,L2⟩:=K1.names (λ n _=>if n=0 then some (.tm 1 []) else none) (by intro n q; split<;>simp)
          have hown2:Ai X.P { S1 with O:=atO S1.O (λ n _=>if n=0 then some (.tm 1 []) else none) } (.tm 1 []) (.own e r' xs) (a.eval x):=
           Ai.later (P:=X.P) (x := .own e r' xs) (lab := .tm 0 []) (lab' := .tm 1 []) L2 hown (λ k hk=>⟨Fw hk (by simp),rfl⟩)
          obtain ⟨S3,K3,g3,w3,L3,hsrc,tms3,_⟩:=Wx hE K2 (by show S1.g=_; exact g1) hsw2 hsn
          have hown3:D5 X.P S3.O S3.w (.tm 1 []) e r' xs (a.eval x):=tms3 1 [] (.own e r' xs) _ hown2
          have hown4:=hown3.cast hcx
          have hsrc2:=hsrc.cast hcy
          obtain ⟨bx,⟨vx,cx,b1,ex,hszx,hrowx,hrowsx,ebx⟩,hnx,hbx⟩:=hown4
          obtain ⟨by_,⟨vy,cy,b2,ey,hszy,hrowy,hrowsy,eby⟩,hny,hby⟩:=hsrc2
          simp only [List.cons.injEq,and_true] at ex ey
          subst ex ey ebx eby
          have hu:=G3 q2 hE.ti
          have hek:=hE.ti _ _ hte
          have hshape:∃ ad cap,a.eval y = .slice ad ys2.length cap∧(ys2.length≠0→∃ k o,ad=some ⟨k,o,none⟩∧Co S3.w k o cy):=by
           rcases D0 hrowy with ⟨e1,e2,_⟩|⟨k,cap,cur,e1,hc,_,_,_,ht⟩
           ·exact ⟨none,0,by rw [e1,e2],λ h=>absurd e2 h⟩
           ·exact ⟨_,cap,e1,λ _=>⟨k,0,rfl,G0 hc ht⟩⟩
          obtain ⟨ad,cap,ev,hne⟩:=hshape
          have hdone:∀ u∈cy,u.oneCell'=true:=(hrowsy.rows (R':=λ _ c=>∀ u∈c,u.oneCell'=true) (λ x c b _ h=>Iaa r2 x c b h)).all (λ _ _ h=>h)
          obtain ⟨v',w',hr,ho',hgr,hnew⟩:=C2a (ty:=o.type) hu hek hszx hrowx ev (hrowsy.len (Ty.dep_len r2)) hdone hne hle (Iw r2)
          rw [← List.length_append] at ho'
          obtain ⟨K4,L4⟩:=K3.names (λ n _=>if n=1 then some (.tm 0 [1]) else none) (by intro n q; split<;>simp)
          have h1:∀ k∈(a.eval x).ownBlock.toList++b1,atO S3.O (λ n _=>if n=1 then some (.tm 0 [1]) else none) k = .tm 0 [1]:=λ k hk=>Fw (hbx k hk) (by simp)
          have h0:∀ k∈(a.eval y).ownBlock.toList++b2,atO S3.O (λ n _=>if n=1 then some (.tm 0 [1]) else none) k = .tm 0 []:=λ k hk=>Hq (hby k hk) (by simp)
          have hvx:∀ k,(a.eval x).ownBlock=some k→k∈(a.eval x).ownBlock.toList++b1:=λ k hk=>by rw [hk]; simp
          rw [List.nodup_append] at hnx hny
          have hnb:(b1++b2).Nodup:=by
           rw [List.nodup_append]
           refine ⟨hnx.2.1,hny.2.1,λ k hk k' hk' e9=>?_⟩
           subst e9
           have e5:=h1 k (List.mem_append_right _ hk)
           rw [h0 k (List.mem_append_right _ hk')] at e5
           cases e5
          obtain ⟨S',K',ew,g'⟩:=N1 K4 (A1:=ups (ups A (Tg u x)) (Tg w2 y)) (by show S3.g=_; exact g3) hdl (w':=w') (row:=(a.eval x).ownBlock) (e:=e) (r':=r2) (xs:=xs2++ys2) (v:=v') (cs:=cx++cy) (b2:=b1++b2) hgr
           (λ k hk=>⟨0,[1],h1 k (hvx k hk)⟩) hszx ho' ((hrowsx.append hrowsy).mono (λ x c b _ h=>Ty.dep_mono (λ k hk=>(L4.fz k hk).1) (λ _ _=>rfl) r2 x c b (λ _ _=>rfl) h)) hnb
           (λ k hk=>by
            rcases List.mem_append.1 hk with hk|hk
            ·exact ⟨_,h1 k (List.mem_append_right _ hk)⟩
            ·exact ⟨_,h0 k (List.mem_append_right _ hk)⟩)
           (λ k hk=>by
            have hnr:(a.eval x).ownBlock≠some k:=λ e9=>by
             rcases List.mem_append.1 hk with hk|hk
             ·exact hnx.2.2 k (by rw [e9]; simp) k hk rfl
             ·have e5:=h1 k (hvx k e9)
              rw [h0 k (List.mem_append_right _ hk)] at e5
              cases e5
            refine ⟨hnr,λ e9=>?_⟩
            rcases hnew k e9 with h9|h9
            ·exact hnr h9
            ·have hlt:k<S3.w.heap.size:=K4.lt k (by
              rcases List.mem_append.1 hk with hk|hk
              ·show atO S3.O _ k≠_
               rw [h1 k (List.mem_append_right _ hk)]; simp
              ·show atO S3.O _ k≠_
               rw [h0 k (List.mem_append_right _ hk)]; simp)
             omega) hnew
          rw [← Ad,← Ad] at g'
          have hw3:S3.w=S.w:=w3.trans w1
          exact ⟨_,h,A9 (S:=S') (v:=v') (by rw [ew,← hw3]; exact Hl ho hc hT hx hr) (by rw [hod]; exact K') g'⟩
       ·cases h
      ·cases h
     ·cases h
    ·cases hno:Fu r' with
     |false=>rw [hno] at h; simp at h
     |true=>
     rw [hno,cond_true] at h
     obtain ⟨hsz,cs,hrow,hrows,hlab⟩:=(D5.flat hno).1 hown
     obtain ⟨lw,hlw⟩:=El hE K hg hsw
     have hlw':Ai X.P S (.pl lw []) w (a.eval y):=hlw
     split at h
     ·rename_i e' r'' ys hasl
      split at h
      ·rename_i ys' te hcast hte
       cases hq:(Nat.beq e e'&&H6 E T e&&Nat.beq T T') with
       |false=>rw [hq] at h; simp at h
       |true=>
        rw [hq,cond_true] at h
        cases hq2:Nat.ble ((xs.length+ys'.length) * te.by_) 140737488355328 with
        |false=>rw [hq2] at h; simp at h
        |true=>
         rw [hq2,cond_true] at h
         simp only [Bool.and_eq_true] at hq
         obtain ⟨⟨q1,q2⟩,q3⟩:=hq
         have he:e=e':=Nat.eq_of_beq_eq_true q1
         have hTT:T=T':=Nat.eq_of_beq_eq_true q3
         subst he hTT
         have hle:(xs.length+ys'.length) * te.by_≤140737488355328:=Nat.le_of_ble_eq_true hq2
         have hu:=G3 q2 hE.ti
         have hek:=hE.ti _ _ hte
         obtain ⟨ad,cap,ds,ev,hdrows0,hne0⟩:=K6a K hg hlw' hasl
         obtain ⟨hdrows,hylen⟩:=P9 hcast hdrows0
         have hdl2:=hdrows.len (Ty.rep_len r')
         have hdone:∀ u∈ds,u.oneCell'=true:=hdrows.all (Qf r')
         have hdrows1:Rows (λ x c=>r'.rep X.P (λ k=>S1.O k = .fz) S1.w x c) ys' ds:=hdrows.mono (λ x c=>Ty.rep_mono (λ k hk=>(L1.fz k hk).1) (λ k hk=>(L1.fz k hk).2) r' x c)
         obtain ⟨v',w',hr,ho',hgr,hnew⟩:=C2a (ty:=o.type) (w:=S1.w) (u:=a.eval y) (ad:=ad) (cap:=cap) hu hek hsz hrow (by rw [ev,hylen]) hdl2 hdone (λ hm=>by
          obtain ⟨k,o',e1,e2⟩:=hne0 (λ e3=>hm (by rw [hylen,e3,List.length_nil]))
          exact ⟨k,o',e1,by rw [w1]; exact e2⟩) hle (Iw r')
         rw [← List.length_append] at ho'
         obtain ⟨S',K',ew,g'⟩:=Bza K1 g1 hdl hno hgr (λ k hk=>⟨0,[],hlab k hk⟩) hsz ho' (hrows.append hdrows1) hnew
         rw [← Ad] at g'
         exact ⟨_,h,A9 (S:=S') (v:=v') (by rw [ew,← w1]; exact Hl ho hc hT hx hr) (by rw [hod]; exact K') g'⟩
      ·cases h
     ·split at h
      ·rename_i s _
       split at h
       ·rename_i ys fo hcast hte
        cases hq:(H6 E T e&&Ku E T'&&Nat.ble ((xs.length+s.size) * 1) 140737488355328) with
        |false=>rw [hq] at h; simp at h
        |true=>
         rw [hq,cond_true] at h
         simp only [Bool.and_eq_true] at hq
         obtain ⟨⟨q2,q3⟩,q4⟩:=hq
         have hle:(xs.length+s.size) * 1≤140737488355328:=Nat.le_of_ble_eq_true q4
         rw [Nat.mul_one] at hle
         have hu:=G3 q2 hE.ti
         have hus:=Mv q3 hE.ti
         have hek:=hE.ti _ _ hte
         have ev:a.eval y = .string s:=hlw'.1
         obtain ⟨i,z,i1,iz,i2,i3,_,z3⟩:=Wy S.w hek
         have hz:z = .int .u8 0:=by
          have:=z3 rfl
          simp only [Cp,List.cons.injEq,and_true] at this
          exact this.symm
         subst hz
         have h63:xs.length+s.size≤maxLen:=by simp only [maxLen]; omega
         have hsz1:r'.sz=1:=by
          have:=hsz
          unfold Oo at this
          rw [i1] at this
          simp only [Option.map_some,Option.some.injEq] at this
          rw [← this]
          exact i2
         rw [hsz1] at hrow
         obtain ⟨v',w',hr,ho',hgr,hnil⟩:=Go.Lib.run_append_own_string (P:=X.P) S1.w 0 T T' o.type e i hu hus i1 iz i2 i3 (a.eval x) xs.length cs hrow s h63 hle (Nat.zero_le _)
         have hbl:(bytesOf s).length=s.size:=by simp [bytesOf]
         have hnew:=U2 hu hus i1 iz i2 i3 hrow h63 hle hr hnil
         obtain ⟨hrows2,hl2⟩:=P9 (P:=X.P) (G:=λ k=>S1.O k = .fz) (w:=S1.w) hcast (M7 s.data.toList)
         have hlen2:xs.length+s.size=(xs++ys).length:=by rw [List.length_append,hl2,hbl]
         rw [hlen2,← hsz1] at ho'
         obtain ⟨S',K',ew,g'⟩:=Bza K1 g1 hdl hno hgr (λ k hk=>⟨0,[],hlab k hk⟩) hsz ho' (hrows.append hrows2) hnew
         rw [← Ad] at g'
         exact ⟨_,h,A9 (S:=S') (v:=v') (by rw [ew,← w1]; exact Hl ho hc hT hx (by rw [ev]; exact hr)) (by rw [hod]; exact K') g'⟩
       ·cases h
      ·cases h
   ·cases h
  ·cases h
 ·cases h
theorem H2 {P:Program} {w w':World} {T T':TypeId} {x:Operand} {u v:Value} (ho:o.op = .convert T T' x) (he:a.eval x=u) (hr:(convert T T' u).run P w = .ok v w'):(execOp a.eval o).run P w = .ok (.value v) w':=by
 unfold execOp
 simp [ho,he,hr]
theorem Wz {P:Program} {T:TypeId} {k:IntKind} {by_:Nat} {fo:List (Nat×Nat×Bool)} (h:TOk P T ⟨.i k,false,by_,fo⟩):P.underlying T=some (.int k):=by
 have:=h.desc
 unfold M2 at this
 split at this<;>simp_all
theorem I6 {P:Program} {T:TypeId} {by_:Nat} {fo:List (Nat×Nat×Bool)} (h:TOk P T ⟨.s,false,by_,fo⟩):P.underlying T=some .string:=by
 have:=h.desc
 unfold M2 at this
 split at this<;>simp_all
theorem Jq {P:Program} {T e:TypeId} {by_:Nat} {fo:List (Nat×Nat×Bool)} (h:TOk P T ⟨.sl e (.i .u8),false,by_,fo⟩):P.underlying T=some (.slice e)∧P.underlying e=some (.int .u8):=by
 have hu:P.underlying T=some (.slice e):=by
  have:=h.desc
  unfold M2 at this
  split at this<;>simp_all
 refine ⟨hu,?_⟩
 have:=h.desc
 rw [hu] at this
 simp only [M2,Jwa,Bool.and_eq_true] at this
 obtain ⟨_,h2⟩:=this
 split at h2
 ·rename_i k' hk
  simp at h2
  rw [hk,← h2]
 ·cases h2
theorem Li {P:Program} {G:Nat→Prop} {w:World}:∀ (xs:List Int) (cs:List Value),Rows (λ x c=>Ty.rep P G w (.i .u8) x c) xs cs→cs=xs.map (Value.int .u8)
 |[],_,h=>h
 |x::xs,_,⟨c,d,e,h1,h2⟩=>by
  have h1':c=[.int .u8 x]:=h1
  rw [e,h1',Li xs d h2]
  rfl
theorem Il {P:Program} {w:World} {T T' e:TypeId} {xs:List Int} {ad:Option Addr} {cap:Nat} {cs:List Value} (hT:P.underlying T=some (.slice e)) (he:P.underlying e=some (.int .u8)) (hT':P.underlying T'=some .string)
  (hcs:cs=xs.map (Value.int .u8)) (hne:xs≠[]→∃ k o,ad=some ⟨k,o,none⟩∧Co w k o cs):(convert T T' (.slice ad xs.length cap)).run P w = .ok (.string (Gn xs)) w:=by
 rw [run_convert_bytes_string w T T' e ad xs.length cap hT he hT']
 cases ad with
 |none=>
  have:xs=[]:=by
   by_cases hx:xs=[]
   ·exact hx
   ·obtain ⟨k,o',e1,_⟩:=hne hx
    cases e1
  subst this
  simp [Conv.bytesToString,Gn]
  rfl
 |some ad=>
  have hl:(loadCells ad xs.length).run P w = .ok (xs.map (Value.int .u8)).toArray w:=by
   by_cases hx:xs=[]
   ·subst hx
    rfl
   ·obtain ⟨k,o',e1,e2⟩:=hne hx
    cases e1
    have:=run_loadCells_list (P:=P) w ⟨k,o',none⟩ cs (λ j v hj=>by rw [Hf]; exact e2 j v hj)
    rw [hcs] at this
    simpa using this
  rw [run_bytesToString w _ xs.length cap xs hl,foldl_push_bytes]
  simp [Gn,ByteArray.empty,ByteArray.emptyWithCapacity]
  rfl
theorem Iba (K:Ae X S a) (hg:S.g=get A) {lab:Lab} {y:Lf} {u:Value} (h:Ai X.P S lab y u):
  (∃ lab',Ai X.P S lab' (P5 A y) u)∨∃ p v pi e r,∃ xs:List (Ty.den r),y = .da p v pi e r xs∧(S.g p).1=v∧P5 A y = .fz e r xs:=by
 unfold P5
 split
 ·rename_i p v pi e r xs
  cases hq:Nat.beq (get A p).1 v with
  |false=>exact .inl ⟨lab,trivial⟩
  |true=>exact .inr ⟨p,v,pi,e,r,xs,rfl,by rw [hg]; exact Nat.eq_of_beq_eq_true hq,rfl⟩
 ·exact .inl (Kg K hg h)
theorem Z1 (hE:Gj X E) (K:Ae X S a) (hg:S.g=get A) {T T':TypeId} {x:Operand} {d:Nat} (ho:o.op = .convert T T' x) (hod:o.dst=some d) (hd:d<X.nt) (h:Aa E o A Kc=some r):Fh X o a S.w A Kc r:=by
 unfold Aa at h
 rw [ho,hod] at h
 simp only at h
 split at h
 ·rename_i y hs
  obtain ⟨l,hl⟩:=El hE K hg hs
  rcases Iba K hg (show Ai X.P S (.pl l []) y (a.eval x) from hl) with ⟨lab',hl'⟩|⟨p,v,pi,e,r0,xs,rfl,hv,hvw⟩
  rotate_left 1
  ·rw [hvw] at h
   unfold conv at h
   split at h
   ·rename_i hy; simp at hy
   ·rename_i hy; simp at hy
   ·rename_i e0 b0 f0 b f e' xs' hT hT' hy
    cases hq:Nat.beq e0 e' with
    |false=>rw [hq] at h; simp at h
    |true=>
     rw [hq,cond_true] at h
     simp only [Sv.one.injEq] at hy
     cases hy
     obtain ⟨ad,cap,cs,e1,hrows,hne⟩:=H9a rfl hv hl
     obtain ⟨u1,u2⟩:=Jq (hE.ti _ _ hT)
     exact Iz K hg hod hd rfl (H2 ho e1 (Il u1 u2 (I6 (hE.ti _ _ hT')) (Li _ _ hrows) hne)) h
   ·rename_i hy; simp at hy
   ·rename_i hy; simp at hy
   ·cases h
  unfold conv at h
  split at h
  ·rename_i k0 b0 f0 k b f k1 n hT hT' hy
   simp only [Sv.one.injEq] at hy
   rw [hy] at hl'
   have e1:a.eval x = .int k1 n:=hl'.1
   refine Iz K hg hod hd rfl (H2 ho e1 ?_) h
   simp [convert,run_underlying (Wz (hE.ti _ _ hT)),run_underlying (Wz (hE.ti _ _ hT')),Conv.intToInt]
  ·rename_i b0 f0 b f s hT hT' hy
   simp only [Sv.one.injEq] at hy
   rw [hy] at hl'
   have e1:a.eval x = .string s:=hl'.1
   refine Iz K hg hod hd rfl (H2 ho e1 ?_) h
   simp [convert,run_underlying (I6 (hE.ti _ _ hT)),run_underlying (I6 (hE.ti _ _ hT'))]
  ·rename_i e b0 f0 b f e' xs hT hT' hy
   cases hq:Nat.beq e e' with
   |false=>rw [hq] at h; simp at h
   |true=>
    rw [hq,cond_true] at h
    simp only [Sv.one.injEq] at hy
    rw [hy] at hl'
    obtain ⟨ad,cap,cs,e1,hrows,hne⟩:=H8a hl'
    obtain ⟨u1,u2⟩:=Jq (hE.ti _ _ hT)
    exact Iz K hg hod hd rfl (H2 ho e1 (Il u1 u2 (I6 (hE.ti _ _ hT')) (Li _ _ hrows) hne)) h
  ·rename_i e b0 f0 b f e' xs hT hT' hy
   cases hq:Nat.beq e e' with
   |false=>rw [hq] at h; simp at h
   |true=>
    rw [hq,cond_true] at h
    simp only [Sv.one.injEq] at hy
    rw [hy] at hl'
    obtain ⟨ad,cap,cs,e1,hrows,hne⟩:=C1a rfl hl'
    obtain ⟨u1,u2⟩:=Jq (hE.ti _ _ hT)
    exact Iz K hg hod hd rfl (H2 ho e1 (Il u1 u2 (I6 (hE.ti _ _ hT')) (Li _ _ hrows) hne)) h
  ·rename_i b0 f0 e b f s hT hT' hy
   cases hq:Nat.ble s.size 140737488355328 with
   |false=>rw [hq] at h; simp at h
   |true=>
    rw [hq,cond_true] at h
    simp only [Sv.one.injEq] at hy
    rw [hy] at hl'
    have e1:a.eval x = .string s:=hl'.1
    obtain ⟨u1,u2⟩:=Jq (hE.ti _ _ hT')
    have hr:=run_bytes_of_string (P:=X.P) S.w T T' e s (I6 (hE.ti _ _ hT)) u1 u2
    have hszs:=(hE.ti _ _ hT').sz
    simp only [szB,Bool.and_eq_true,beq_iff_eq] at hszs
    generalize hob:Obj.cells (bytesRow s (grownCap S.w s.size 0 e)) e ((bytesRow s (grownCap S.w s.size 0 e)).size,(bytesRow s (grownCap S.w s.size 0 e)).size+1)=ob at hr
    obtain ⟨K1,L1⟩:=K.grow (w':=S.w.drew.alloc ob) (row:=none) (O':=λ k=>if k=S.w.heap.size then .fz else S.O k) ⟨rfl,rfl,rfl,by simp,λ k hk _=>heap_alloc_old S.w.drew ob k hk⟩ (by simp)
     (λ k hk _=>by show (if k=S.w.heap.size then _ else _)=_; rw [if_neg (by omega)])
     (λ k hk=>by
      show k<(S.w.heap.push _).size
      rw [Array.size_push]
      by_cases h:k=S.w.heap.size
      ·omega
      ·simp only [h,if_false] at hk
       have:=K.lt k hk
       omega)
    have hcell:Co (S.w.drew.alloc ob) S.w.heap.size 0 (s.data.toList.map λ b=>Value.int .u8 b.toNat):=by
     intro j u hj
     have hb:(S.w.drew.alloc ob).heap[S.w.heap.size]? = some ob:=heap_alloc_new S.w.drew ob
     subst hob
     have hjl:j<s.data.toList.length:=by
      rcases Nat.lt_or_ge j s.data.toList.length with h|h
      ·exact h
      ·rw [List.getElem?_eq_none (by simpa using h)] at hj; cases hj
     simp only [World.cell?,hb,Nat.zero_add]
     simp only [bytesRow]
     rw [Array.getElem?_append_left (by simpa using hjl)]
     simpa using hj
    have hbl:(bytesOf s).length=s.size:=by simp [bytesOf]
    have hsv:G6 X.P (Oy S (S.w.drew.alloc ob) (λ k=>if k=S.w.heap.size then .fz else S.O k)) 0 (.one (.fz e (.i .u8) (bytesOf s))) (.slice (some ⟨S.w.heap.size,0,none⟩) s.size (grownCap S.w s.size 0 e)):=by
     refine ⟨_,rfl,hszs.1,_,grownCap S.w s.size 0 e,_,by rw [hbl],by rw [hbl]; exact grownCap_ge _ _ _ _,M7 s.data.toList,λ _=>⟨_,0,rfl,?_,hcell⟩⟩
     show (if _ then _ else _)=_
     rw [if_pos rfl]
    have K2:=K1.put0 hd _ _ 0 rfl hsv
    refine ⟨_,h,A9 (S:=He (Oy S (S.w.drew.alloc ob) (λ k=>if k=S.w.heap.size then .fz else S.O k)) (λ _ _=>none) d (.one (.fz e (.i .u8) (bytesOf s))) (.slice (some ⟨S.w.heap.size,0,none⟩) s.size (grownCap S.w s.size 0 e))) (H2 ho e1 hr) (by rw [hod]; exact K2) ?_⟩
    show upd S.g d _=_
    rw [A8,← hg]
    rfl
  ·cases h
 ·cases h
end
end

section
attribute [local irreducible] C H
def bare (O:Nat→Lab) (w:World):Sit:=⟨O,λ _=>(0,0),λ _=>(0,.one .dead),λ _=>undef,w⟩
def Pd (P:Program) (S:Sit) (rg:Nat→Nat×Nat) (B:Nat) (t:Ty) (l:List Lf) (u:Value):Prop:=
 ∃ k o c e us,u = .pointer (some ⟨k,o,none⟩)∧S.w.heap[k]? = some (.cells c e (0,0))∧S.O k = .bx B∧rg B=(o,t.sz)∧o+t.sz≤c.size∧t.sz<999∧l.length=t.sz∧(∀ j,j<t.sz→c[o+j]? = us[j]?)∧
  A5 P S (λ j => .pl (C B j) []) 0 l us
def Z2 (P:Program) (S:Sit) (w:Nat→Value) (j:Nat):Lf→Value→Prop
 |.own _ _ _,u=>u=w j
 |x,u=>B3a x=true∧Ai P S .fz x u
def Qj (Q:Nat→Lf→Value→Prop):Nat→List Lf→List Value→Prop
 |_,[],[]=>True
 |j,x::l,u::us=>Q j x u∧Qj Q (j+1) l us
 |_,_,_=>False
def Z3 (P:Program) (S:Sit) (rg:Nat→Nat×Nat) (nv:Nat) (hs:List Value) (i:Nat):Par→List Lf→Value→Prop
 |.vw t h,l,u=>nv≤h∧∃ vs k o c e,u = .agg vs.toArray∧hs[h - nv]? = some (.pointer (some ⟨k,o,none⟩))∧S.w.heap[k]? = some (.cells c e (0,0))∧t.sz<999∧l.length=t.sz∧Qj (Z2 P S (λ j=>c.getD (o+j) undef)) 0 l vs
 |.val ag _,l,u=>∃ us,(if ag then u = .agg us.toArray else us=[u])∧A5 P S (λ j => .pl i (if ag then [j] else [])) 0 l us
 |.ptr t _,l,u=>i<nv∧Pd P S rg (bid nv i) t l u
 |.hid t _,l,u=>nv≤i∧Pd P S rg (bid nv i) t l u
 |.rd t,l,u=>∃ x k o cs,mkW t l=some x∧u = .pointer (some ⟨k,o,none⟩)∧S.O k = .fz∧t.rep P (λ k=>S.O k = .fz) S.w x cs∧Co S.w k o cs
 |.fn F m,_,u=>u = .func (.func F) #[] hs.toArray∧hs.length=m
def I7 (P:Program) (S:Sit) (rg:Nat→Nat×Nat) (nv:Nat) (hs:List Value):Nat→List Par→List (List Lf)→List Value→Prop
 |_,[],[],[]=>True
 |i,p::ps,l::ls,u::us=>Z3 P S rg nv hs i p l u∧I7 P S rg nv hs (i+1) ps ls us
 |_,_,_,_=>False
def J9 (P:Program) (S:Sit) (n0:Nat) (i:Nat):RK→List Lf→Value→Prop
 |.one,l,u=>A5 P S (λ _ => .tm i []) 0 l [u]
 |.agg,l,u=>∃ us,u = .agg us.toArray∧A5 P S (λ j => .tm i [j]) 0 l us
 |.ptr,l,u=>∃ k o c e us,u = .pointer (some ⟨k,o,none⟩)∧S.w.heap[k]? = some (.cells c e (0,0))∧n0≤k∧S.O k = .tm (i+500) []∧o+l.length≤c.size∧l.length<999∧(∀ j,j<l.length→c[o+j]? = us[j]?)∧
   A5 P S (λ j => .tm i [j]) 0 l us
def Gr (P:Program) (S:Sit) (n0:Nat):Nat→List (RK×Ty)→List (List Lf)→List Value→Prop
 |_,[],_,us=>us=[]
 |i,k::ks,l::ls,u::us=>J9 P S n0 i k.1 l u∧Gr P S n0 (i+1) ks ls us
 |_,_,_,_=>False
def Fk (P:Program) (S:Sit) (n0:Nat) (rs:List (RK×Ty)) (ls:List (List Lf)) (v:Value):Prop:=
 match rs with
 |[r]=>∃ l ls',ls=l::ls'∧J9 P S n0 1 r.1 l v
 |rs=>∃ us,v = .tuple us.toArray∧Gr P S n0 1 rs ls us
def Pe (P:Program) (S:Sit) (i:Nat) (t':Ty) (l:List Lf) (u:Value):Prop:=
 ∃ k o c e us,u = .pointer (some ⟨k,o,none⟩)∧S.w.heap[k]? = some (.cells c e (0,0))∧l.length=t'.sz∧(∀ j,j<t'.sz→c[o+j]? = us[j]?)∧A5 P S (λ j => .tm (1001+i) [j]) 0 l us
def Hv (P:Program) (S:Sit):Nat→List Par→List Value→List (List Lf)→Prop
 |_,[],_,ls=>ls=[]
 |i,.ptr _ t'::ps,u::us,l::ls=>Pe P S i t' l u∧Hv P S (i+1) ps us ls
 |i,.hid _ t'::ps,u::us,l::ls=>Pe P S i t' l u∧Hv P S (i+1) ps us ls
 |i,.val _ _::ps,_::us,ls=>Hv P S (i+1) ps us ls
 |i,.vw _ _::ps,_::us,ls=>Hv P S (i+1) ps us ls
 |i,.rd _::ps,_::us,ls=>Hv P S (i+1) ps us ls
 |i,.fn _ _::ps,_::us,ls=>Hv P S (i+1) ps us ls
 |_,_,_,_=>False
def K7a (nv n b:Nat):Prop:=∃ i,i<n∧b=bid nv i
def Ica (P:Program) (f:FuncId) (en:Ent):Prop:=
 ∀ x r,en.run x=some r→∀ (w:World) (O:Nat→Lab) (rg:Nat→Nat×Nat) (us:List Value),(∀ k,O k ≠ .no→k<w.heap.size)→(∀ k b,O k = .bx b→K7a en.nv en.ps.length b∧(∃ c e f,w.heap[k]? = some (.cells c e f))∧∀ k',O k' = .bx b→k'=k)→I7 P (bare O w) rg en.nv (us.drop en.nv) 0 en.ps (Bj _ x) us→
  Calls P f (us.take en.nv).toArray w (λ e w'=>∃ v O',e = .returned v∧Fr O w rg O' w'∧(∀ k,O' k ≠ .no→k<w'.heap.size)∧Fk P (bare O' w') w.heap.size en.rs (Bj _ r) v∧Hv P (bare O' w') 0 en.ps us ((Bj _ r).drop en.rs.length))
structure A6 (P:Program) (f:FuncId) (en:Ent):Prop where
 fn:∃ fn,P.funcs[f]? = some fn∧(fn.name == "runtime.NumGoroutine")=false∧fn.body.isNone=false
 sound:Ica P f en
section
variable {X:Cx} {S S':Sit} {a:Act} {E:En} {A:Ab} {o:Oper} {R:Type} {Kc:List Up→Option R} {r:R}
def F8:Lf→Bool
 |.sc _ | .fz _ _ _ | .own _ _ _=>true
 |_=>false
theorem Ai.bare {P:Program} {x:Lf} {u:Value} {lab lab':Lab} (hx:F8 x=true) {S1 S2:Sit} (hw:S2.w=S1.w) (hf:∀ k,S1.O k = .fz→S2.O k = .fz) (hl:∀ k,S1.O k=lab→S2.O k=lab') (h:Ai P S1 lab x u):Ai P S2 lab' x u:=by
 cases x with
 |sc v=>exact h
 |fz e r xs=>exact Ty.rep_mono (t := .sl e r) hf (λ k _=>by rw [hw]) _ _ h
 |own e r xs=>exact D5.later (O':=S2.O) (w':=S2.w) h (λ k hk=>⟨hf k hk,by rw [hw]⟩) (λ k hk=>⟨hl k hk,by rw [hw]⟩)
 |_=>simp [F8] at hx
theorem Gt:∀ (t:Ty) (x:t.den),∀ y∈A4 t x,F8 y=true
 |.i _,_=>by simp [A4,F8]
 |.b,_=>by simp [A4,F8]
 |.s,_=>by simp [A4,F8]
 |.sl _ _,_=>by simp [A4,F8]
 |.ow _ _,_=>by simp [A4,F8]
 |.pr x y,p=>by
  intro z hz
  rcases List.mem_append.1 (show z∈A4 x p.1++A4 y p.2 from hz) with h|h
  ·exact Gt x p.1 z h
  ·exact Gt y p.2 z h
theorem Ec:∀ (t:Ty) (x:t.den),(A4 t x).length=t.sz
 |.i _,_=>rfl
 |.b,_=>rfl
 |.s,_=>rfl
 |.sl _ _,_=>rfl
 |.ow _ _,_=>rfl
 |.pr x y,p=>by
  show (A4 x p.1++A4 y p.2).length=x.sz+y.sz
  rw [List.length_append,Ec x p.1,Ec y p.2]
theorem A5.impS {P:Program} {S1 S2:Sit} {f f':Nat→Lab}:∀ {l:List Lf} {j:Nat} {us:List Value},(∀ y∈l,F8 y=true)→(∀ n x u,F8 x=true→Ai P S1 (f n) x u→Ai P S2 (f' n) x u)→A5 P S1 f j l us→A5 P S2 f' j l us
 |[],_,[],_,_,_=>trivial
 |[],_,_::_,_,_,h=>h.elim
 |_::_,_,[],_,_,h=>h.elim
 |y::l,j,u::us,hs,hi,h=>⟨hi j y u (hs y (by simp)) h.1,A5.impS (λ z hz=>hs z (List.mem_cons_of_mem _ hz)) hi h.2⟩
theorem Ae.world (K:Ae X S a) {w':World} {O':Nat→Lab} (h1:∀ k,k<S.w.heap.size→(∀ n q,S.O k ≠ .tm n q)→O' k=S.O k∧w'.heap[k]? = S.w.heap[k]?)
  (hos:w'.os=S.w.os) (ht:w'.tape=S.w.tape) (hout:w'.output=S.w.output) (hsz:S.w.heap.size≤w'.heap.size) (hlt:∀ k,O' k ≠ .no→k<w'.heap.size):
  Ae X (Oy S w' O') a∧Cq S (Oy S w' O'):=by
 have keep:∀ k o,S.O k=o→k<S.w.heap.size→(∀ n q,o ≠ .tm n q)→O' k=o∧w'.heap[k]? = S.w.heap[k]?:=by
  intro k o' h hk ho
  obtain ⟨h2,h3⟩:=h1 k hk (by rw [h]; exact ho)
  exact ⟨h2.trans h,h3⟩
 have keep':∀ k o,S.O k=o→o ≠ .no→(∀ n q,o ≠ .tm n q)→O' k=o∧w'.heap[k]? = S.w.heap[k]? := λ k o' h hn ho=>keep k o' h (K.lt k (by rw [h]; exact hn)) ho
 have L:Cq S (Oy S w' O'):=⟨λ _=>Nat.le_refl _,λ _ _=>rfl,λ p v e r xs' h _=>⟨xs',h,rfl⟩,λ _ _=>rfl,λ k h=>keep' k _ h (by simp) (by simp),Cq.box_of (λ _ _ _ h=>h) (λ k b h=>keep' k _ h (by simp) (by simp)),λ p _ hd=>⟨hd,λ _ _ _ h=>h,λ k hk=>by
  obtain ⟨h1,h2⟩:=keep' k _ hk (by simp) (by simp)
  exact ⟨.inl h1,h2⟩⟩⟩
 have F:=K.fr
 refine ⟨⟨K.nt,hlt,λ l=>(K.at_ l).later L (λ p k h=>keep' k _ h (by simp) (by simp)),λ b n h=>?_,K.rgn,K.sl,K.sz,K.df,⟨hos.trans F.os,ht.trans F.tape,hout.trans F.out,Nat.le_trans F.size hsz,λ k hk h0=>?_,λ k hk h0=>?_,λ k b hk h0=>?_⟩⟩,L⟩
 ·obtain ⟨hn,c,e,e1,e2,e3,e4⟩:=K.box b n h
  obtain ⟨h5,h6⟩:=keep' _ _ e2 (by simp) (by simp)
  exact ⟨hn,c,e,h6.trans e1,h5,e3,e4⟩
 ·obtain ⟨f1,f2⟩:=F.no k hk h0
  obtain ⟨h5,h6⟩:=keep k _ f1 (Nat.lt_of_lt_of_le hk F.size) (by simp)
  exact ⟨h5,h6.trans f2⟩
 ·obtain ⟨f1,f2⟩:=F.fz k hk h0
  obtain ⟨h5,h6⟩:=keep k _ f1 (Nat.lt_of_lt_of_le hk F.size) (by simp)
  exact ⟨h5,h6.trans f2⟩
 ·obtain ⟨f1,c,c',e,f,f2,f3,f4,f5⟩:=F.bx k b hk h0
  obtain ⟨h5,h6⟩:=keep k _ f1 (Nat.lt_of_lt_of_le hk F.size) (by simp)
  exact ⟨h5,c,c',e,f,f2,h6.trans f3,f4,f5⟩
end
end

section
attribute [local irreducible] C H
section
variable {X:Cx} {S S':Sit} {a:Act} {E:En} {A:Ab} {o:Oper} {R:Type} {Kc:List Up→Option R} {r:R}
theorem A5.impM {P:Program} {S1 S2:Sit} {f f':Nat→Lab}:∀ {l:List Lf} {j:Nat} {us:List Value},(∀ x∈l,∀ n u,Ai P S1 (f n) x u→Ai P S2 (f' n) x u)→A5 P S1 f j l us→A5 P S2 f' j l us
 |[],_,[],_,_=>trivial
 |[],_,_::_,_,h=>h.elim
 |_::_,_,[],_,h=>h.elim
 |y::l,j,u::us,hi,h=>⟨hi y (by simp) j u h.1,A5.impM (λ z hz=>hi z (List.mem_cons_of_mem _ hz)) h.2⟩
theorem J9.imp {P:Program} {S1 S2:Sit} {n0 i:Nat} {k:RK} {l:List Lf} {u:Value} (hw:S2.w=S1.w) (hO:∀ k i,S1.O k = .tm i []→S2.O k = .tm i []) (hi:∀ y∈l,∀ i q u,Ai P S1 (.tm i q) y u→Ai P S2 (.tm i q) y u) (h:J9 P S1 n0 i k l u):J9 P S2 n0 i k l u:=by
 cases k with
 |one=>exact A5.impM (λ x hx n u h=>hi x hx _ _ u h) h
 |agg=>
  obtain ⟨us,e,h⟩:=h
  exact ⟨us,e,h.impM (λ x hx n u h=>hi x hx _ _ u h)⟩
 |ptr=>
  obtain ⟨k,o,c,e,us,e1,e2,e3,e4,e5,e6,e7,h⟩:=h
  exact ⟨k,o,c,e,us,e1,by rw [hw]; exact e2,e3,hO _ _ e4,e5,e6,e7,h.impM (λ x hx n u h=>hi x hx _ _ u h)⟩
theorem Gr.imp {P:Program} {S1 S2:Sit} {n0:Nat} (hw:S2.w=S1.w) (hO:∀ k i,S1.O k = .tm i []→S2.O k = .tm i []):∀ {rs:List (RK×Ty)} {i:Nat} {ls:List (List Lf)} {us:List Value},
  (∀ l∈ls,∀ y∈l,∀ i q u,Ai P S1 (.tm i q) y u→Ai P S2 (.tm i q) y u)→Gr P S1 n0 i rs ls us→Gr P S2 n0 i rs ls us
 |[],_,_,_,_,h=>h
 |k::ks,i,l::ls,u::us,hi,h=>⟨h.1.imp hw hO (hi l (by simp)),Gr.imp hw hO (λ l' hl'=>hi l' (List.mem_cons_of_mem _ hl')) h.2⟩
 |_::_,_,[],_,_,h=>h.elim
 |_::_,_,_::_,[],_,h=>h.elim
theorem Fk.imp {P:Program} {S1 S2:Sit} {n0:Nat} {rs:List (RK×Ty)} {ls:List (List Lf)} {v:Value} (hw:S2.w=S1.w) (hO:∀ k i,S1.O k = .tm i []→S2.O k = .tm i [])
  (hi:∀ l∈ls,∀ y∈l,∀ i q u,Ai P S1 (.tm i q) y u→Ai P S2 (.tm i q) y u) (h:Fk P S1 n0 rs ls v):Fk P S2 n0 rs ls v:=by
 unfold Fk at h ⊢
 split at h
 ·obtain ⟨l,ls',rfl,h⟩:=h
  exact ⟨l,ls',rfl,h.imp hw hO (hi l (by simp))⟩
 ·obtain ⟨us,e,h⟩:=h
  exact ⟨us,e,h.imp hw hO hi⟩
theorem K8a (K:Ae X S a) {A1:Ab} (hg:S.g=get A1) {d k o n0:Nat} {l0:List Nat} {m:List Lf} {us:List Value} {q:Nat→List Nat} {c:Array Value} {e:TypeId} (hd:d<X.nt) (hk:S.O k = .tm n0 l0) (hn0:n0≠0) (hk0:X.w0.heap.size≤k)
  (hc:S.w.heap[k]? = some (.cells c e (0,0))) (ho:o+m.length≤c.size) (hcs:∀ j,j<m.length→c[o+j]? = us[j]?) (hl:A5 X.P S (λ j => .tm 0 (q j)) 0 m us)
  (hq:∀ j,j<m.length→Oq d 0 0 (q j)=some (.pl (C d (0+j)) [])) (hm:m.length<999) (hst:∀ k,.hd k∉m) (hnp:X.np≤d):
  ∃ S',Ae X S' (a.put (some d) (.pointer (some ⟨k,o,none⟩)))∧S'.w=S.w∧S'.g=get (ups A1 (⟨H d,false,.one (.hd m.length)⟩::B2 d 0 m++[⟨d,false,.one (.bp d ((get A1 (H d)).1+1) 0)⟩])):=by
 obtain ⟨K2,L2⟩:=K.newbox (d:=d) (k:=k) (o:=o) hk hn0 hk0 hc ho hcs hl hq hm hst hnp (Nat.lt_of_lt_of_le hd K.nt)
 have hv:((Tb S d k o m us).g (H d)).1=(S.g (H d)).1+1:=by
  show (Ii (upd S.g (H d) _) d 0 m (H d)).1=_
  unfold Ii
  rw [if_neg (D9 (by omega)),A7]
 have K3:=K2.put0 hd (.one (.bp d ((S.g (H d)).1+1) 0)) (.pointer (some ⟨k,o,none⟩)) 0 rfl ⟨by rw [hv]; exact Nat.le_refl _,λ _=>by
  show Value.pointer _ = .pointer (some ⟨(upd S.bb d (k,o) d).1,(upd S.bb d (k,o) d).2+0,none⟩)
  rw [A7]
  rfl⟩
 have e1:(Tb S d k o m us).g=get (ups A1 (⟨H d,false,.one (.hd m.length)⟩::B2 d 0 m)):=by
  show Ii (upd S.g (H d) ((S.g (H d)).1+1,.one (.hd m.length))) d 0 m=get (ups (up A1 ⟨H d,false,.one (.hd m.length)⟩) (B2 d 0 m))
  rw [G4,Hp,← hg]
  rfl
 refine ⟨_,K3,rfl,?_⟩
 show upd (Tb S d k o m us).g d _=_
 rw [Ad,A8,← e1,← hg]
def Aya (d:Nat) (many:Bool):Nat→List Nat→Option Lab:=λ n q=>match n with
 |0=>none
 |n+1=>if many then (match q with
  |[]=>some (.pl d [n,0])
  |[j]=>some (.pl d [n,j])
  |_=>none) else (if n=0 then some (.pl d q) else none)
theorem U3 (d:Nat) (many:Bool):∀ n q p,Aya d many n q=some p→∃ p',p = .pl d p':=by
 intro n q p hp
 unfold Aya at hp
 split at hp
 ·cases hp
 ·split at hp
  ·split at hp<;>first|(cases hp; exact ⟨_,rfl⟩)|cases hp
  ·split at hp<;>first|(cases hp; exact ⟨_,rfl⟩)|cases hp
theorem U4 (K:Ae X S a) {A1:Ab} (hg:S.g=get A1) {rs:List (RK×Ty)} {ls:List (List Lf)} {d:Option Nat} {us:List Up} {v:Value} {n0:Nat} (hd:∀ d',d=some d'→d'<X.nt) (hn0:X.w0.heap.size≤n0) (hls:∀ l∈ls,∀ y∈l,F8 y=true) (hnp:∀ d',d=some d'→Gv rs=true→X.np≤d')
  (hr:Fk X.P S n0 rs ls v) (h:Kf A1 rs ls d=some us):∃ S',Ae X S' (a.put d v)∧S'.w=S.w∧S'.g=get (ups A1 us):=by
 cases d with
 |none=>
  have:us=[]:=by unfold Kf at h; cases rs<;>simpa using h.symm
  subst this
  exact ⟨S,K,rfl,hg⟩
 |some d=>
  cases rs with
  |nil=>
   have:us=[⟨d,false,.tup []⟩]:=by unfold Kf at h; simpa using h.symm
   subst this
   obtain ⟨vs,rfl,h2⟩:=hr
   have:vs=[]:=by cases ls<;>exact h2
   subst this
   have K2:=K.put0 (hd d rfl) (.tup []) (.tuple #[]) 0 rfl ⟨[],rfl,trivial⟩
   exact ⟨_,K2,rfl,by show upd S.g d _=_; rw [A8,← hg]⟩
  |cons r1 rs=>
   cases rs with
   |nil=>
    obtain ⟨l,ls',e1,h2⟩:=hr
    subst e1
    obtain ⟨k,t⟩:=r1
    cases k with
    |one=>
     have h2':A5 X.P S (λ _ => .tm 1 []) 0 l [v]:=h2
     cases l with
     |nil=>exact h2'.elim
     |cons x l=>
      cases l with
      |cons y l=>exact h2'.2.elim
      |nil=>
       have:us=[⟨d,false,.one x⟩]:=by unfold Kf at h; simpa using h.symm
       subst this
       have h3:Ai X.P S (.tm 1 []) x v:=h2'.1
       have L:=Df S (Aya d false) d (.one x) v
       have hsv:G6 X.P (He S (Aya d false) d (.one x) v) d (.one x) v:=Ai.later (lab := .tm 1 []) (lab' := .pl d []) L h3 (λ k hk=>⟨Fw hk rfl,rfl⟩)
       have K2:=K.put (hd d rfl) (Aya d false) (U3 d false) (.one x) v hsv
       exact ⟨_,K2,rfl,by show upd S.g d _=_; rw [A8,← hg]⟩
    |agg=>
     have:us=[⟨d,false,.agg l⟩]:=by unfold Kf at h; simpa using h.symm
     subst this
     obtain ⟨vs,rfl,h3⟩:=h2
     have L:=Df S (Aya d false) d (.agg l) (.agg vs.toArray)
     have hsv:G6 X.P (He S (Aya d false) d (.agg l) (.agg vs.toArray)) d (.agg l) (.agg vs.toArray):=⟨vs,rfl,h3.imp (λ j x u hx=>hx.later L (λ k hk=>⟨Fw hk rfl,rfl⟩))⟩
     have K2:=K.put (hd d rfl) (Aya d false) (U3 d false) (.agg l) _ hsv
     exact ⟨_,K2,rfl,by show upd S.g d _=_; rw [A8,← hg]⟩
    |ptr=>
     have:us=B5a A1 d l:=by unfold Kf at h; simpa using h.symm
     subst this
     obtain ⟨k,o,c,e,vs,rfl,e2,e3,e4,e5,e6,e7,h3⟩:=h2
     let hh:Nat→List Nat→Option Lab:=λ n q=>if n=1 then some (.tm 0 q) else none
     obtain ⟨K1,L1⟩:=K.names hh (by intro n q; simp only [hh]; split<;>simp)
     have e4':({ S with O:=atO S.O hh }:Sit).O k = .tm 501 []:=Hq e4 (by simp [hh])
     obtain ⟨S',K',w',g'⟩:=K8a K1 (A1:=A1) (q:=λ j=>[j]) hg (hd d rfl) e4' (by decide) (Nat.le_trans hn0 e3) e2 e5 e7 (h3.imp (λ j x u hx=>hx.later L1 (λ k hk=>⟨Fw hk (by simp [hh]),rfl⟩))) (λ j hj=>rfl) e6 (by
      intro k hk
      have:=hls l (by simp) _ hk
      simp [F8] at this) (hnp d rfl rfl)
     exact ⟨S',K',w',by rw [g']; rfl⟩
   |cons r2 rs=>
    have h':(bif Gv (r1::r2::rs) then none else some [(⟨d,false,.tup (Rc (r1::r2::rs) ls)⟩:Up)])=some us:=by
     unfold Kf at h
     obtain ⟨k1,t1⟩:=r1
     cases k1<;>exact h
    cases hp:Gv (r1::r2::rs) with
    |true=>rw [hp] at h'; simp at h'
    |false=>
     rw [hp] at h'
     simp only [cond_false,Option.some.injEq] at h'
     subst h'
     obtain ⟨vs,rfl,h2⟩:=hr
     generalize hR:(r1::r2::rs)=R2 at hp h2
     have key:∀ (s:Sv) (rs:List (RK×Ty)) (i:Nat) (ls:List (List Lf)) (us:List Value),Gv rs=false→Gr X.P S n0 (i+1) rs ls us→Iy X.P (He S (Aya d true) d s (.tuple vs.toArray)) d i (Rc rs ls) us:=by
      intro s rs
      induction rs with
      |nil=>
       intro i ls us _ h
       have:us=[]:=by cases ls<;>exact h
       subst this
       simp [Rc,Iy]
      |cons r rs ih=>
       intro i ls us hp h
       cases ls with
       |nil=>exact h.elim
       |cons l ls=>
        cases us with
        |nil=>exact h.elim
        |cons u us=>
         obtain ⟨k,t⟩:=r
         have L:=Df S (Aya d true) d s (.tuple vs.toArray)
         have hp2:Gv rs=false:=by cases k<;>first|(simp [Gv] at hp; done)|simpa [Gv] using hp
         refine ⟨?_,ih (i+1) ls us hp2 h.2⟩
         cases k with
         |ptr=>simp [Gv] at hp
         |one=>
          have h2':A5 X.P S (λ _ => .tm (i+1) []) 0 l [u]:=h.1
          refine ⟨[u],rfl,?_⟩
          cases l with
          |nil=>exact h2'.elim
          |cons x l=>
           cases l with
           |cons y l=>exact h2'.2.elim
           |nil=>exact ⟨Ai.later (lab := .tm (i+1) []) (lab' := .pl d [i,0]) L h2'.1 (λ k hk=>⟨Fw hk rfl,rfl⟩),trivial⟩
         |agg=>
          obtain ⟨ws,e1,h3⟩:=h.1
          exact ⟨ws,e1,h3.imp (λ j x u hx=>hx.later L (λ k hk=>⟨Fw hk rfl,rfl⟩))⟩
     have hsv:G6 X.P (He S (Aya d true) d (.tup (Rc R2 ls)) (.tuple vs.toArray)) d (.tup (Rc R2 ls)) (.tuple vs.toArray):=⟨vs,rfl,key _ _ 0 ls vs hp h2⟩
     have K2:=K.put (hd d rfl) (Aya d true) (U3 d true) (.tup (Rc R2 ls)) _ hsv
     exact ⟨_,K2,rfl,by show upd S.g d _=_; rw [A8,← hg]⟩
def C4a (N:Nat):Nat→List Nat→Option Lab:=λ n _=>if n≤N then some .fz else none
theorem A5.calmN {P:Program} {S:Sit} {N i:Nat} (hi:i≤N) {q:Nat→List Nat}:∀ {l:List Lf} {j:Nat} {us:List Value},(∀ y∈l,F8 y=true)→A5 P S (λ n => .tm i (q n)) j l us→A5 P { S with O:=atO S.O (C4a N) } (λ n => .tm i (q n)) j (l.map Hh) us
 |[],_,[],_,_=>trivial
 |[],_,_::_,_,h=>h.elim
 |_::_,_,[],_,h=>h.elim
 |x::l,j,u::us,hs,h=>by
  have hfz:∀ k,S.O k = .fz→atO S.O (C4a N) k = .fz:=λ k hk=>Ah hk (by simp)
  refine ⟨?_,A5.calmN hi (λ y hy=>hs y (List.mem_cons_of_mem _ hy)) h.2⟩
  have h1:=hs x (by simp)
  cases x with
  |sc v=>exact h.1
  |fz e r xs=>exact Ty.rep_mono (t := .sl e r) hfz (λ _ _=>rfl) _ _ h.1
  |own e r xs=>
   have h2:D5 P S.O S.w (.tm i (q j)) e r xs u:=h.1
   exact h2.reads (O':=λ k=>atO S.O (C4a N) k) hfz (λ k hk=>Fw hk (by simp [C4a,hi]))
  |_=>simp [F8] at h1
theorem J9.calmN {P:Program} {S:Sit} {N n0 i:Nat} (hi:i≤N) {k:RK} (hk:k = .ptr→N<i+500) {l:List Lf} {u:Value} (hs:∀ y∈l,F8 y=true) (h:J9 P S n0 i k l u):J9 P { S with O:=atO S.O (C4a N) } n0 i k (l.map Hh) u:=by
 cases k with
 |one=>exact A5.calmN (q:=λ _=>[]) hi hs h
 |agg=>
  obtain ⟨us,e,h⟩:=h
  exact ⟨us,e,A5.calmN (q:=λ n=>[n]) hi hs h⟩
 |ptr=>
  obtain ⟨k,o,c,e,us,h1,h2,h3,h4,h5,h6,h7,h8⟩:=h
  have:=hk rfl
  refine ⟨k,o,c,e,us,h1,h2,h3,?_,by rw [List.length_map]; exact h5,by rw [List.length_map]; exact h6,by rw [List.length_map]; exact h7,A5.calmN (q:=λ n=>[n]) hi hs h8⟩
  exact Hq h4 (by unfold C4a; rw [if_neg (by omega)])
theorem Fk.calmN {P:Program} {S:Sit} {N n0:Nat} {rs:List (RK×Ty)} (hN:rs.length≤N) (hk:Gv rs=true→N<501) {ls:List (List Lf)} {v:Value} (hs:∀ l∈ls,∀ y∈l,F8 y=true) (h:Fk P S n0 rs ls v):Fk P { S with O:=atO S.O (C4a N) } n0 rs (ls.map λ l=>l.map Hh) v:=by
 have all:∀ (rs:List (RK×Ty)) (i:Nat) (ls:List (List Lf)) (us:List Value),1≤i→i+rs.length≤N+1→(Gv rs=true→N<501)→(∀ l∈ls,∀ y∈l,F8 y=true)→Gr P S n0 i rs ls us→Gr P { S with O:=atO S.O (C4a N) } n0 i rs (ls.map λ l=>l.map Hh) us:=by
  intro rs
  induction rs with
  |nil=>intro i ls us _ _ _ _ h; exact h
  |cons r rs ih=>
   intro i ls us h1 h2 h3 h4 h
   simp only [List.length_cons] at h2
   cases ls with
   |nil=>exact h.elim
   |cons l ls=>
    cases us with
    |nil=>exact h.elim
    |cons u us=>
     refine ⟨J9.calmN (by omega) (λ hp=>?_) (h4 l (by simp)) h.1,ih (i+1) ls us (by omega) (by omega) (λ hp=>h3 ?_) (λ l hl=>h4 l (List.mem_cons_of_mem _ hl)) h.2⟩
     ·have:=h3 (by obtain ⟨k,t⟩:=r; have:k = .ptr:=hp; subst this; rfl)
      omega
     ·obtain ⟨k,t⟩:=r
      cases k<;>first|exact hp|rfl
 unfold Fk at h ⊢
 split at h
 ·rename_i r
  obtain ⟨l,ls',e,h⟩:=h
  subst e
  refine ⟨l.map Hh,_,rfl,J9.calmN (by simpa using hN) (λ hp=>?_) (hs l (by simp)) h⟩
  have:=hk (by obtain ⟨k,t⟩:=r; have:k = .ptr:=hp; subst this; rfl)
  omega
 ·obtain ⟨us,e,h⟩:=h
  exact ⟨us,e,all _ 1 _ _ (Nat.le_refl _) (by omega) hk hs h⟩
theorem X1 {E:En} (K:Ae X S a) {A1:Ab} (hg:S.g=get A1) {rs:List (RK×Ty)} {ls:List (List Lf)} {d:Option Nat} {us:List Up} {v:Value} {n0:Nat} (hN:Gv rs=true→rs.length≤400) (hd:∀ d',d=some d'→d'<X.nt) (hn0:X.w0.heap.size≤n0) (hls:∀ l∈ls,∀ y∈l,F8 y=true) (hnp:∀ d',d=some d'→Gv rs=true→X.np≤d')
  (hr:Fk X.P S n0 rs ls v) (h:Kf A1 rs (shL E d ls) d=some us):∃ S',Ae X S' (a.put d v)∧S'.w=S.w∧S'.g=get (ups A1 us):=by
 cases d with
 |none=>exact U4 K hg hd hn0 hls hnp hr h
 |some d=>
  unfold shL at h
  simp only at h
  cases hsh:E.sh d with
  |false=>rw [hsh] at h; exact U4 K hg hd hn0 hls hnp hr h
  |true=>
   rw [hsh,cond_true] at h
   have go:∀ N,rs.length≤N→(Gv rs=true→N<501)→∃ S',Ae X S' (a.put (some d) v)∧S'.w=S.w∧S'.g=get (ups A1 us):=by
    intro N h1 h2
    obtain ⟨K1,_⟩:=K.names (C4a N) (by intro n q; unfold C4a; split<;>simp)
    refine U4 (S := { S with O:=atO S.O (C4a N) }) K1 hg hd hn0 (λ l hl y hy=>?_) hnp (hr.calmN h1 h2 hls) h
    obtain ⟨l0,h3,rfl⟩:=List.mem_map.1 hl
    obtain ⟨y0,h4,rfl⟩:=List.mem_map.1 hy
    have:=hls l0 h3 y0 h4
    cases y0<;>first|rfl|simp [F8] at this
   cases hp:Gv rs with
   |true=>exact go 400 (hN hp) (λ _=>by omega)
   |false=>exact go rs.length (Nat.le_refl _) (λ h=>by rw [hp] at h; cases h)
end
end

section
attribute [local irreducible] C H
def Mk:List Ty→List (List Lf)→List (List Lf)→Prop
 |[],[],[]=>True
 |t::ts,l::ls,l'::ls'=>(∃ y,mkW t l=some y∧l'=A4 t y)∧Mk ts ls ls'
 |_,_,_=>False
theorem N2:∀ (ts:List Ty) (ls:List (List Lf)) (x:Den ts),Lv ts ls=some x→Mk ts ls (Bj ts x)
 |[],[],_,_=>trivial
 |[],_::_,_,h=>by simp [Lv] at h
 |[t],[],_,h=>by simp [Lv] at h
 |[t],[l],x,h=>⟨⟨x,h,rfl⟩,trivial⟩
 |[t],_::_::_,_,h=>by simp [Lv] at h
 |_::_::_,[],_,h=>by simp [Lv] at h
 |t::u::ts,l::ls,x,h=>by
  simp only [Lv] at h
  split at h
  ·rename_i y hy
   split at h
   ·rename_i z hz
    cases h
    exact ⟨⟨y,hy,rfl⟩,N2 (u::ts) ls z hz⟩
   ·cases h
  ·cases h
theorem Ga:∀ (ts:List Ty) (x:Den ts),∀ l∈Bj ts x,∀ y∈l,F8 y=true
 |[],_=>by simp [Bj]
 |[t],x=>by
  intro l hl
  simp [Bj] at hl
  subst hl
  exact Gt t x
 |t::u::ts,x=>by
  intro l hl
  rcases List.mem_cons.1 (show l∈A4 t x.1::Bj (u::ts) x.2 from hl) with rfl|h
  ·exact Gt t x.1
  ·exact Ga (u::ts) x.2 l h
theorem Nq (t:Ty) (x:t.den) (h:Fu t=true):A4 t x=lvs t x:=N0 t x h
section
variable {X:Cx} {S S':Sit} {a:Act} {E:En} {A:Ab} {o:Oper} {R:Type} {Kc:List Up→Option R} {r:R}
theorem Fka (hE:Gj X E) (K:Ae X S a) (hg:S.g=get A) {T:TypeId} {x:Operand} {s:Sv} {ag:Bool} (hx:opT E T A x=some s) (hf:Fz ag s=true):
  ∃ us,∃ f:Nat→Lab,(if ag then a.eval x = .agg us.toArray else us=[a.eval x])∧A5 X.P S f 0 (parts s) us∧∀ n,f n ≠ .no:=by
 rcases Hz hE K hg hx with ⟨t,rfl,ht,hst,het,hok⟩|⟨hnt,y,rfl,hy⟩
 ·cases s with
  |tup vs=>simp [Fz,Awa] at hf
  |one y=>
   have:ag=false:=by cases ag<;>simp [Fz,Awa] at hf ⊢
   subst this
   exact ⟨[a.eval (.tmp t)],λ _ => .pl t [],rfl,⟨hok,trivial⟩,by simp⟩
  |agg l=>
   have:ag=true:=by cases ag<;>simp [Fz,Awa] at hf ⊢
   subst this
   obtain ⟨us,e1,hl⟩:=hok
   exact ⟨us,λ n => .pl t [n],e1,hl,by simp⟩
 ·have:ag=false:=by cases ag<;>simp [Fz,Awa] at hf ⊢
  subst this
  exact ⟨[a.eval x],λ _ => .fz,rfl,⟨hy _,trivial⟩,by simp⟩
theorem C5a {ag:Bool} {s:Sv} (hf:Fz ag s=true):∀ vs,s ≠ .tup vs:=by
 intro vs e
 subst e
 simp [Fz,Awa] at hf
theorem Pf {ag:Bool} {s:Sv} {u:Value} {us:List Value} (hf:Fz ag s=true) (h:Ms s u us):if ag then u = .agg us.toArray else us=[u]:=by
 cases s with
 |tup vs=>simp [Fz,Awa] at hf
 |one y=>
  have:ag=false:=by cases ag<;>simp [Fz,Awa] at hf ⊢
  subst this
  exact h
 |agg l=>
  have:ag=true:=by cases ag<;>simp [Fz,Awa] at hf ⊢
  subst this
  exact h
theorem Pg {P:Program} {S:Sit} {G:Nat→Prop} {t:Ty} {l:List Lf} {y:t.den} {us:List Value} (hG:∀ k,G k→S.O k = .fz) (hm:mkW t l=some y) (hn:Fu t=true) (h:H5 (Ge P G S.w) l us) (f:Nat→Lab) (j:Nat):A5 P S f j (A4 t y) us:=by
 have h1:=Nd hm h
 have h2:=Ig (P:=P) (G:=λ k=>S.O k = .fz) (w:=S.w) t y us (Ty.rep_mono hG (λ _ _=>rfl) t y us h1)
 rw [Nq t y hn]
 exact A5.ofRep h2 f j
def M8 (S:Sit):Nat→Lab:=λ k=>if S.O k = .no then .no else .fz
theorem Fla {y:Lf} {u:Value} {lab:Lab} (K:Ae X S a) (hg:S.g=get A) (h:Ai X.P S lab y u):∃ lab',(lab'=lab∨∃ p,lab' = .pl p [])∧Ai X.P S lab' (Gp A y) u:=by
 unfold Gp
 split
 ·rename_i p v
  split
  ·rename_i n e r xs hp
   cases hb:Nat.beq n v with
   |false=>exact ⟨lab,.inl rfl,trivial⟩
   |true=>
    have hnv:n=v:=by simpa using hb
    subst hnv
    have e1:u=S.ph p:=h.2 (by rw [hg,hp])
    refine ⟨.pl p [],.inr ⟨p,rfl⟩,?_⟩
    have:=K.at_ p
    rw [hg,hp] at this
    rw [e1]
    exact this
  ·rename_i n e r xs hp
   cases hb:Nat.beq n v with
   |false=>exact ⟨lab,.inl rfl,trivial⟩
   |true=>
    have hnv:n=v:=by simpa using hb
    subst hnv
    have e1:u=S.ph p:=h.2 (by rw [hg,hp])
    refine ⟨.pl p [],.inr ⟨p,rfl⟩,?_⟩
    have:=K.at_ p
    rw [hg,hp] at this
    rw [e1]
    exact this
  ·exact ⟨lab,.inl rfl,trivial⟩
 ·exact ⟨lab,.inl rfl,h⟩
theorem X2 (K:Ae X S a) (hg:S.g=get A) {f:Nat→Lab} (hf:∀ n,f n ≠ .no):∀ {l:List Lf} {j:Nat} {us:List Value},A5 X.P S f j l us→A3 (l.map λ y=>Hh (P5 A y))=true→
  H5 (Ge X.P (λ k=>M8 S k = .fz) S.w) (l.map λ y=>Hh (P5 A y)) us
 |[],_,[],_,_ => .nil
 |[],_,_::_,h,_=>h.elim
 |_::_,_,[],h,_=>h.elim
 |y::l,j,u::us,h,hst=>by
  have hfz:∀ k,S.O k = .fz→M8 S k = .fz:=λ k hk=>by simp [M8,hk]
  rw [List.map_cons] at hst ⊢
  have hrest:A3 (l.map λ y=>Hh (P5 A y))=true:=by
   generalize Hh (P5 A y)=z at hst
   cases z<;>first|(simp [A3] at hst; done)|simpa [A3] using hst
  refine .cons ?_ (X2 K hg hf h.2 hrest)
  have hv:(∃ lab',lab' ≠ .no∧Ai X.P S lab' (P5 A y) u)∨∃ p e r,∃ xs:List (Ty.den r),P5 A y = .fz e r xs∧Tr X.P S p e r xs u:=by
   unfold P5
   split
   ·rename_i p v pi e r xs
    cases hq:Nat.beq (get A p).1 v with
    |false=>exact .inl ⟨f j,hf j,trivial⟩
    |true=>
     obtain ⟨_,_,h2⟩:=h.1
     exact .inr ⟨p,e,r,xs,rfl,(h2 (by rw [hg]; exact Nat.eq_of_beq_eq_true hq)).2.1⟩
   ·obtain ⟨lab',hlab,h1⟩:=Fla K hg h.1
    refine .inl ⟨lab',?_,h1⟩
    rcases hlab with rfl|⟨p,rfl⟩
    ·exact hf j
    ·simp
  rcases hv with ⟨lab',hno,h1⟩|⟨p,e,r,xs,e1,h1⟩
  rotate_left 1
  ·rw [e1]
   exact h1.reads (λ k hk=>by
    rcases hk with hk|hk<;>simp [M8,hk])
  generalize P5 A y=z at h1 hst
  cases z with
  |sc v=>exact h1
  |fz e r xs=>exact Ty.rep_mono (t := .sl e r) hfz (λ _ _=>rfl) _ _ h1
  |own e r xs=>
   have h2:D5 X.P S.O S.w lab' e r xs u:=h1
   exact h2.reads (O':=M8 S) hfz (λ k hk=>by simp [M8,hk,hno])
  |_=>simp [Hh,A3] at hst
theorem S6 (hE:Gj X E) (K:Ae X S a) (hg:S.g=get A) (rg:Nat→Nat×Nat) (nv:Nat) (hs:List Value):∀ (ps:List Par) {xs:List Operand} {ss:List Sv} {ls ls':List (List Lf)} {i:Nat},H5 (λ s x=>∃ T,opT E T A x=some s) ss xs→J1 A ps ss=some ls→Mk (ps.map Par.ty) ls ls'→
  J0 ps=true→I7 X.P (bare (M8 S) S.w) rg nv hs i ps ls' (xs.map a.eval)∧xs.length=ps.length
 |[],_,_,ls,ls',i,.nil,h,hm,_=>by
  simp only [J1,Option.some.injEq] at h
  subst h
  cases ls' with
  |nil=>exact ⟨trivial,rfl⟩
  |cons=>exact hm.elim
 |[],_,_,ls,ls',i,.cons _ _,h,hm,_=>by simp [J1] at h
 |.ptr _ _::_,_,_,_,_,_,_,_,_,hl=>by simp [J0] at hl
 |.hid _ _::_,_,_,_,_,_,_,_,_,hl=>by simp [J0] at hl
 |.rd _::_,_,_,_,_,_,_,_,_,hl=>by simp [J0] at hl
 |.fn _ _::_,_,_,_,_,_,_,_,_,hl=>by simp [J0] at hl
 |.val ag t::ps,_,_,ls,ls',i,.nil,h,_,_=>by simp [J1] at h
 |.val ag t::ps,_,_,ls,ls',i,.cons (x:=s) (y:=x) (xs:=ss) (ys:=xs) hs1 hss,h,hm,hl=>by
  simp only [J0,Bool.and_eq_true] at hl
  simp only [J1] at h
  cases hq:(Fz ag s&&A3 ((parts s).map (λ y=>Hh (P5 A y)))) with
  |false=>rw [hq] at h; simp at h
  |true=>
   rw [hq,cond_true] at h
   simp only [Bool.and_eq_true] at hq
   split at h
   ·rename_i ls1 hls1
    cases h
    cases ls' with
    |nil=>exact hm.elim
    |cons l' ls'=>
     obtain ⟨⟨y,hy,rfl⟩,hm2⟩:=hm
     obtain ⟨T,hx⟩:=hs1
     obtain ⟨us,f,hsh,hlf,hf⟩:=Fka hE K hg hx hq.1
     obtain ⟨r1,r2⟩:=S6 hE K hg rg nv hs (i:=i+1) ps hss hls1 hm2 hl.2
     exact ⟨⟨⟨us,hsh,Pg (S:=bare (M8 S) S.w) (λ k hk=>hk) hy hl.1 (X2 K hg hf hlf hq.2) _ _⟩,r1⟩,by simp [r2]⟩
   ·cases h
def Im:Lf→Bool
 |.sc _=>true
 |.own _ r _=>Cs r
 |_=>false
theorem Hs:∀ (t:Ty) (x:t.den),Cs t=true→∀ y∈A4 t x,Im y=true
 |.i _,_,_=>by simp [A4,Im]
 |.b,_,_=>by simp [A4,Im]
 |.s,_,_=>by simp [A4,Im]
 |.sl _ _,_,h=>by simp [Cs] at h
 |.ow _ r,_,h=>by simpa [A4,Im,Cs] using h
 |.pr x y,p,h=>by
  simp only [Cs,Bool.and_eq_true] at h
  intro z hz
  rcases List.mem_append.1 (show z∈A4 x p.1++A4 y p.2 from hz) with h'|h'
  ·exact Hs x p.1 h.1 z h'
  ·exact Hs y p.2 h.2 z h'
theorem K9a {P:Program} {S1 S2:Sit} {lab lab':Lab} {y:Lf} {u:Value} (hy:Im y=true) (hw:S2.w=S1.w) (hl:∀ k,S1.O k=lab→S2.O k=lab') (h:Ai P S1 lab y u):Ai P S2 lab' y u:=by
 cases y with
 |sc v=>exact h
 |own e r xs=>
  obtain ⟨bs,h1,h2,h3⟩:=h
  exact ⟨bs,Ty.dep_all (.ow e r) xs [u] bs hy (λ k _=>by rw [hw]) h1,h2,λ k hk=>hl k (h3 k hk)⟩
 |_=>simp [Im] at hy
theorem Nr:∀ (rs:List (RK×Ty)) (x:Den (rs.map Prod.snd)),On rs=true→∀ l∈Bj (rs.map Prod.snd) x,∀ y∈l,Im y=true
 |[],_,_=>λ l hl=>by cases (show l∈([]:List (List Lf)) from hl)
 |[(k,t)],x,h=>by
  intro l hl
  have hl':l∈[A4 t x]:=hl
  simp at hl'
  subst hl'
  have:Cs t=true:=by cases k<;>simp [On] at h<;>exact h
  exact Hs t x this
 |(k,t)::r2::rs,x,h=>by
  intro l hl
  have h2:Cs t=true∧On (r2::rs)=true:=by
   cases k<;>simp only [On,Bool.and_eq_true] at h<;>first|exact h|cases h
  rcases List.mem_cons.1 (show l∈A4 t x.1::Bj ((r2::rs).map Prod.snd) x.2 from hl) with rfl|h'
  ·exact Hs t x.1 h2.1
  ·exact Nr (r2::rs) x.2 h2.2 l h'
end
end

section
attribute [local irreducible] C H
section
variable {X:Cx} {S S':Sit} {a:Act} {E:En} {A:Ab} {o:Oper} {R:Type} {Kc:List Up→Option R} {r:R}
theorem C6a {P:Program} {w:World} {c:Call} {f:FuncId} {en:Ent} (ho:o.op = .call c) (hc:c.callee = .value (.func f)) (hf:A6 P f en):(execOp a.eval o).run P w = .ok (.enter f (c.args.toList.map a.eval).toArray) w:=by
 obtain ⟨fn,h1,h2,h3⟩:=hf.fn
 have e1:c.args.map a.eval=(c.args.toList.map a.eval).toArray:=by
  apply Array.ext'
  simp
 unfold execOp
 simp only [ho,resolve,hc,Act.eval,Deferred.ofValue,Sem.run_bind,Sem.run_pure,Result.andThen_ok,invoke,callFunc,run_program,h1]
 rw [if_neg (by rw [h2]; simp),if_neg (by rw [h3]; simp)]
 simp only [Sem.run_pure,Array.append_empty,Array.empty_append]
 rw [e1]
theorem Z4 {P:Program} {w:World} {c:Call} {f:FuncId} {en:Ent} {t:Nat} {us:List Value} (ho:o.op = .call c) (hc:c.callee = .value (.tmp t)) (hv:a.eval (.tmp t) = .func (.func f) #[] us.toArray) (hf:A6 P f en):
  (execOp a.eval o).run P w = .ok (.enter f (c.args.toList.map a.eval++us).toArray) w:=by
 obtain ⟨fn,h1,h2,h3⟩:=hf.fn
 have e1 : #[]++(c.args.map a.eval++us.toArray)=(c.args.toList.map a.eval++us).toArray:=by
  apply Array.ext'
  simp
 have e2 : #[]++c.args.map a.eval++us.toArray=(c.args.toList.map a.eval++us).toArray:=by
  apply Array.ext'
  simp
 unfold execOp
 simp only [ho,resolve,hc,hv,Deferred.ofValue,Sem.run_bind,Sem.run_pure,Result.andThen_ok,invoke,callFunc,run_program,h1]
 rw [if_neg (by rw [h2]; simp),if_neg (by rw [h3]; simp)]
 simp only [Sem.run_pure]
 first|rw [e1]|rw [e2]
theorem Ph {f:FuncId} {args:Array Value} {w:World} {A':Ab} (hr:(execOp a.eval o).run X.P w = .ok (.enter f args) w)
  (h:Calls X.P f args w (λ e w'=>∃ v,e = .returned v∧∃ S',S'.w=w'∧Ae X S' (a.put o.dst v)∧S'.g=get A')):F3a X o a w A':=by
 intro next Q hn
 unfold Oper.wp
 rw [hr,Oper.upon_enter]
 intro cs
 obtain ⟨e,w',fr,⟨v,rfl,S',hw,K',hg'⟩,rest⟩:=h cs
 refine ⟨_,w',fr,?_,rest⟩
 rw [← hw]
 exact hn S' _ K' hg'
theorem M9 {P:Program} {f:FuncId} {args:Array Value} {w:World} {R1 R2:Ending→World→Prop} (h:Calls P f args w R1) (hi:∀ e w',R1 e w'→R2 e w'):Calls P f args w R2:=by
 intro cs
 obtain ⟨e,w',fr,hr,rest⟩:=h cs
 exact ⟨e,w',fr,hi _ _ hr,rest⟩
theorem Pi:∀ ps:List Par,J0 ps=true→Gu ps=[]
 |[],_=>rfl
 |.val _ _::ps,h=>by
  simp only [J0,Bool.and_eq_true] at h
  exact Pi ps h.2
 |.ptr _ _::_,h=>by simp [J0] at h
 |.hid _ _::_,h=>by simp [J0] at h
 |.rd _::_,h=>by simp [J0] at h
 |.fn _ _::_,h=>by simp [J0] at h
theorem Fma {ts:List Ty} {rs:List (RK×Ty)} (he:ts=rs.map Prod.snd) (x:Den ts) (h:On rs=true):∀ l∈Bj ts x,∀ y∈l,Im y=true:=by
 subst he
 exact Nr rs x h
theorem Jr:∀ rs:List (RK×Ty),On rs=true→Gv rs=false
 |[],_=>rfl
 |(k,t)::rs,h=>by
  cases k with
  |ptr=>simp [On] at h
  |one=>simp only [On,Bool.and_eq_true] at h; exact Jr rs h.2
  |agg=>simp only [On,Bool.and_eq_true] at h; exact Jr rs h.2
theorem Ida (hE:Gj X E) (K:Ae X S a) (hg:S.g=get A) {xs:List Operand} {f:FuncId} {en:Ent} {ss:List Sv} (hrun:(execOp a.eval o).run X.P S.w = .ok (.enter f (xs.map a.eval).toArray) S.w) (hd:∀ d,o.dst=some d→d<X.nt)
  (hco:A6 X.P f en) (hnv:en.nv=xs.length) (hss:H5 (λ s x=>∃ T,opT E T A x=some s) ss xs) (hl:J0 en.ps=true) (hn:On en.rs=true)
  (h:(match J1 A en.ps ss with
  |none=>none
  |some ls=>match Lv _ ls with
   |none=>none
   |some x=>(en.run x).bind λ r=>
    match Kf A en.rs (shL E o.dst (Bj _ r)) o.dst with
    |none=>none
    |some rs=>Kc rs)=some r):Fh X o a S.w A Kc r:=by
 split at h
 ·cases h
 ·rename_i ls hls
  split at h
  ·cases h
  ·rename_i x hx
   cases hrun':en.run x with
   |none=>rw [hrun'] at h; simp at h
   |some y=>
    rw [hrun'] at h
    simp only [Option.bind_some] at h
    split at h
    ·cases h
    ·rename_i us hus
     obtain ⟨hargs,hlen⟩:=S6 (i:=0) hE K hg (λ _=>(0,0)) en.nv ((xs.map a.eval).drop en.nv) en.ps hss hls (N2 _ _ _ hx) hl
     have hs:=hco.sound x y hrun' S.w (M8 S) (λ _=>(0,0)) _ (λ k hk=>K.lt k (λ e=>hk (by simp [M8,e]))) (λ k b hk=>by unfold M8 at hk; split at hk<;>cases hk) hargs
     rw [List.take_of_length_le (by rw [List.length_map,hnv]; exact Nat.le_refl _)] at hs
     refine ⟨us,h,Ph hrun (M9 hs ?_)⟩
     rintro e w' ⟨v,O',rfl,hF,hlt,hres,_⟩
     refine ⟨v,rfl,?_⟩
     have hsame:∀ k,k<S.w.heap.size→w'.heap[k]? = S.w.heap[k]? ∧ (O' k = .no∨O' k = .fz):=λ k hk=>by
      by_cases h0:S.O k = .no
      ·have:=hF.no k hk (by simp [M8,h0])
       exact ⟨this.2,.inl this.1⟩
      ·have:=hF.fz k hk (by simp [M8,h0])
       exact ⟨this.2,.inr this.1⟩
     let O2:Nat→Lab:=λ k=>if k<S.w.heap.size then S.O k else O' k
     obtain ⟨K1,L1⟩:=K.world (w':=w') (O':=O2) (λ k hk _=>⟨if_pos hk,(hsame k hk).1⟩) hF.os hF.tape hF.out hF.size (λ k hk=>by
      by_cases hkl:k<S.w.heap.size
      ·exact Nat.lt_of_lt_of_le hkl hF.size
      ·exact hlt k (by simpa [O2,hkl] using hk))
     have htm:∀ k i q,O' k = .tm i q→O2 k = .tm i q:=λ k i q hk=>by
      have:¬ k<S.w.heap.size:=λ hkl=>by
       rcases (hsame k hkl).2 with h|h<;>rw [h] at hk<;>cases hk
      simp [O2,this,hk]
     have hnews:=Fma (by rw [Pi en.ps hl,List.append_nil]) y hn
     have hres1:Fk X.P (Oy S w' O2) S.w.heap.size en.rs (Bj _ y) v:=Fk.imp (S1:=bare O' w') (S2:=Oy S w' O2) rfl (λ k i hk=>htm k i [] hk) (λ l hl' z hz i q u hu=>K9a (S1:=bare O' w') (S2:=Oy S w' O2) (hnews l hl' z hz) rfl (λ k hk=>htm k i q hk) hu) hres
     obtain ⟨S2,K2,w2,g2⟩:=X1 (E:=E) K1 (A1:=A) hg (λ h=>by rw [Jr _ hn] at h; cases h) hd K.fr.size (Ga _ y) (λ d' _ h=>by rw [Jr _ hn] at h; cases h) hres1 hus
     exact ⟨S2,w2,K2,g2⟩
end
end

end Go.Proofs.Ytlfoljnopndpeaa.Vf
