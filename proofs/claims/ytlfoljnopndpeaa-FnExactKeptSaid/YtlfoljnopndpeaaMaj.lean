import Derived.Test.YtlfoljnopndpeaaMai
import Derived.Laws.StructEq
import Derived.Below
import Derived.Test.YtlfoljnopndpeaaMab
import Derived.Test.YtlfoljnopndpeaaProg
import Derived.KernelRfl
import Derived.IntWalk
set_option linter.unusedVariables false
set_option linter.unusedSimpArgs false
namespace Go.Proofs.Ytlfoljnopndpeaa.Vf
open Go

section
attribute [local irreducible] C H
def eq1:Lf→Lf→Option Bool
 |.sc (.int k x),.sc (.int k' y)=>if k=k' then some (x==y) else none
 |.sc (.bool x),.sc (.bool y)=>some (x==y)
 |.sc (.string x),.sc (.string y)=>some (x==y)
 |_,_=>none
theorem G7a (a a':Lf) (l l':List Lf) {b:Bool} (h:Bl (a::l) (a'::l')=some b):∃ b1 b2,eq1 a a'=some b1∧Bl l l'=some b2∧b=(b1&&b2):=by
 unfold Bl at h
 split at h
 ·rename_i e _; cases e
 ·rename_i k x k' y e1 e2
  cases e1; cases e2
  by_cases hk:k=k'
  ·simp only [hk,decide_true,cond_true,Option.some.injEq] at h
   exact ⟨x==y,true,by simp only [eq1,hk,if_true],rfl,by simp [h]⟩
  ·simp [hk] at h
 ·rename_i x y e1 e2
  cases e1; cases e2
  simp only [Option.some.injEq] at h
  exact ⟨_,true,rfl,rfl,by simp [h]⟩
 ·rename_i x y e1 e2
  cases e1; cases e2
  simp only [Option.some.injEq] at h
  exact ⟨_,true,rfl,rfl,by simp [h]⟩
 ·rename_i k x l k' y l' _ e1 e2
  cases e1; cases e2
  by_cases hk:k=k'
  ·simp only [hk,decide_true,cond_true] at h
   split at h
   ·rename_i b2 hb
    simp only [Option.some.injEq] at h
    exact ⟨_,b2,by simp only [eq1,hk,if_true],hb,h.symm⟩
   ·cases h
  ·simp [hk] at h
 ·rename_i x l y l' _ e1 e2
  cases e1; cases e2
  split at h
  ·rename_i b2 hb
   simp only [Option.some.injEq] at h
   exact ⟨_,b2,rfl,hb,h.symm⟩
  ·cases h
 ·rename_i x l y l' _ e1 e2
  cases e1; cases e2
  split at h
  ·rename_i b2 hb
   simp only [Option.some.injEq] at h
   exact ⟨_,b2,rfl,hb,h.symm⟩
  ·cases h
 ·cases h
theorem Pq:∀ (l m l' m':List Lf) (b:Bool),l.length=l'.length→Bl (l++m) (l'++m')=some b→∃ b1 b2,Bl l l'=some b1∧Bl m m'=some b2∧b=(b1&&b2)
 |[],m,[],m',b,_,h=>⟨true,b,rfl,h,by simp⟩
 |[],_,_::_,_,_,hl,_=>by simp at hl
 |_::_,_,[],_,_,hl,_=>by simp at hl
 |a::l,m,a'::l',m',b,hl,h=>by
  obtain ⟨b1,b2,h1,h2,rfl⟩:=G7a a a' (l++m) (l'++m') h
  obtain ⟨b3,b4,h3,h4,rfl⟩:=Pq l m l' m' b2 (by simpa using hl) h2
  refine ⟨b1&&b3,b4,?_,h4,by simp [Bool.and_assoc]⟩
  cases a with
  |sc u=>
   cases a' with
   |sc u'=>
    cases u<;>first|(simp [eq1] at h1; done)|skip
    all_goals (cases u'<;>first|(simp [eq1] at h1; done)|skip)
    ·rename_i x y
     simp only [eq1,Option.some.injEq] at h1
     cases l<;>cases l'<;>first|(simp at hl; done)|skip
     ·simp only [Bl,Option.some.injEq] at h3
      simp only [Bl]
      rw [← h3,← h1,Bool.and_true]
     ·simp only [Bl,h3]
      rw [← h1]
    ·rename_i k x k' y
     simp only [eq1] at h1
     by_cases hk:k=k'
     ·rw [if_pos hk] at h1
      simp only [Option.some.injEq] at h1
      cases l<;>cases l'<;>first|(simp at hl; done)|skip
      ·simp only [Bl,Option.some.injEq] at h3
       simp only [Bl,hk,decide_true,cond_true]
       rw [← h3,← h1,Bool.and_true]
      ·simp only [Bl,hk,decide_true,cond_true,h3]
       rw [← h1]
     ·rw [if_neg hk] at h1; cases h1
    ·rename_i x y
     simp only [eq1,Option.some.injEq] at h1
     cases l<;>cases l'<;>first|(simp at hl; done)|skip
     ·simp only [Bl,Option.some.injEq] at h3
      simp only [Bl]
      rw [← h3,← h1,Bool.and_true]
     ·simp only [Bl,h3]
      rw [← h1]
   |_=>cases u<;>simp [eq1] at h1
  |_=>simp [eq1] at h1
def eqB (P:Program) (ti:TypeId→Option TI):Nat→TypeId→Bool
 |0,_=>false
 |n+1,T=>match ti T,P.underlying T with
  |some t,some (.struct fs)=>t.ag && !(P.stoodInHeld T)&&Mf ti fs.toList 0 t.ty&&fs.toList.all (λ f => !(f.name == "_")&&eqB P ti n f.type)
  |some ⟨.i _,false,_,_⟩,some (.int _)=>true
  |some ⟨.b,false,_,_⟩,some .bool=>true
  |some ⟨.s,false,_,_⟩,some .string=>true
  |_,_=>false
section
variable {P:Program} {ti:TypeId→Option TI} {G:Nat→Prop} {w:World}
def Koa (P:Program) (ti:TypeId→Option TI) (G:Nat→Prop) (w:World) (n:Nat):Prop:=
 ∀ T t d (X Y:t.ty.den) (us vs:List Value) (x y:Value) (b:Bool) (w':World),n≤d→eqB P ti n T=true→ti T=some t→H5 (Ge P G w) (A4 t.ty X) us→H5 (Ge P G w) (A4 t.ty Y) vs→Bl (A4 t.ty X) (A4 t.ty Y)=some b→
  (if t.ag then x = .agg us.toArray else us=[x])→(if t.ag then y = .agg vs.toArray else vs=[y])→(Op.equalIn d T x y).run P w' = .ok b w'
theorem N5 {T:TypeId} {t:TI} (hk:TOk P T t) {us:List Value} {off:Nat} (hl:off+t.ty.sz≤us.length) (w':World):
  ∃ u,(part T us.toArray off).run P w' = .ok u w'∧(if t.ag then u = .agg ((us.drop off).take t.ty.sz).toArray else (us.drop off).take t.ty.sz=[u]):=by
 obtain ⟨d,hd,hagg⟩:=Tx hk
 cases ha:t.ag with
 |true=>
  rw [ha] at hagg
  refine ⟨.agg (us.toArray.extract off (off+t.ty.sz)),?_,?_⟩
  ·unfold part
   simp only [Sem.run_bind,Ih hd hagg,Result.andThen_ok,if_true,Gf (Jl hk),Sem.run_pure]
  ·simp only [if_true]
   congr 1
   apply Array.ext'
   rw [Array.toList_extract]
   simp [List.extract]
 |false=>
  rw [ha] at hagg
  have h1:=Bna hk ha
  have hlt:off<us.length:=by omega
  refine ⟨us[off],?_,?_⟩
  ·unfold part
   simp only [Sem.run_bind,Ih hd hagg,Result.andThen_ok,Bool.false_eq_true,if_false]
   have:us.toArray[off]? = some us[off]:=by simp [hlt]
   rw [this]
   rfl
  ·simp only [Bool.false_eq_true,if_false]
   rw [h1,List.drop_eq_getElem_cons hlt]
   rfl
theorem Sp (htok:∀ T t,ti T=some t→TOk P T t) {n:Nat} (ih:Koa P ti G w n) {d:Nat} (hd:n≤d) {us vs:List Value} (w':World):
  ∀ (fs:List Field) (o:Nat) (ty:Ty) (X Y:ty.den) (b:Bool),Mf ti fs o ty=true→fs.all (λ f => !(f.name == "_")&&eqB P ti n f.type)=true→o+ty.sz≤us.length→o+ty.sz≤vs.length→
   H5 (Ge P G w) (A4 ty X) ((us.drop o).take ty.sz)→H5 (Ge P G w) (A4 ty Y) ((vs.drop o).take ty.sz)→
   Bl (A4 ty X) (A4 ty Y)=some b→(Op.eqFields d us.toArray vs.toArray fs).run P w' = .ok b w'
 |[],o,ty,X,Y,b,hp,_,_,_,_,_,_=>by cases ty<;>simp [Mf] at hp
 |[f],o,ty,X,Y,b,hp,ha,hl,hl',h0,h0',he=>by
  simp only [Mf,Bool.and_eq_true] at hp
  simp only [List.all_cons,Bool.and_eq_true,Bool.not_eq_true',beq_eq_false_iff_ne] at ha
  obtain ⟨⟨a1,a2⟩,_⟩:=ha
  obtain ⟨t,h1,h2⟩:=Jf hp.2
  have ho:f.offset=o:=Nat.eq_of_beq_eq_true hp.1
  subst h2
  subst ho
  obtain ⟨x,hx1,hx2⟩:=N5 (htok _ _ h1) hl w'
  obtain ⟨y,hy1,hy2⟩:=N5 (htok _ _ h1) hl' w'
  have hr:=ih f.type t d X Y _ _ x y b w' hd a2 h1 h0 h0' he hx2 hy2
  simp only [Op.eqFields,ne_eq,a1,not_false_eq_true,if_true,Sem.run_bind,hx1,hy1,hr,Result.andThen_ok]
  cases b<;>rfl
 |f::g::fs,o,ty,X,Y,b,hp,ha,hl,hl',h0,h0',he=>by
  cases ty<;>first|(simp [Mf] at hp; done)|skip
  rename_i tx tyy
  simp only [Mf,Bool.and_eq_true] at hp
  obtain ⟨⟨q0,q1⟩,hp⟩:=hp
  rw [List.all_cons,Bool.and_eq_true] at ha
  obtain ⟨ha0,ha⟩:=ha
  simp only [Bool.and_eq_true,Bool.not_eq_true',beq_eq_false_iff_ne] at ha0
  obtain ⟨a1,a2⟩:=ha0
  obtain ⟨t,h1,h2⟩:=Jf q1
  have ho:f.offset=o:=Nat.eq_of_beq_eq_true q0
  subst h2
  subst ho
  have hl2:f.offset+(t.ty.sz+tyy.sz)≤us.length:=hl
  have hl2':f.offset+(t.ty.sz+tyy.sz)≤vs.length:=hl'
  have he2:Bl (A4 t.ty X.1++A4 tyy X.2) (A4 t.ty Y.1++A4 tyy Y.2)=some b:=he
  have r0:H5 (Ge P G w) (A4 t.ty X.1++A4 tyy X.2) ((us.drop f.offset).take (t.ty.sz+tyy.sz)):=h0
  have r0':H5 (Ge P G w) (A4 t.ty Y.1++A4 tyy Y.2) ((vs.drop f.offset).take (t.ty.sz+tyy.sz)):=h0'
  have k1:=r0.take t.ty.sz
  have k2:=r0.drop t.ty.sz
  have k1':=r0'.take t.ty.sz
  have k2':=r0'.drop t.ty.sz
  have c1:=Ec t.ty X.1
  have c1':=Ec t.ty Y.1
  rw [← c1,List.take_left,c1,List.take_take,Nat.min_eq_left (by omega)] at k1
  rw [← c1',List.take_left,c1',List.take_take,Nat.min_eq_left (by omega)] at k1'
  have c2:∀ l:List Value,List.drop t.ty.sz (List.take (t.ty.sz+tyy.sz) l)=List.take tyy.sz (List.drop t.ty.sz l):=λ l=>by rw [List.drop_take]; congr 1; omega
  rw [c2,List.drop_drop] at k2 k2'
  rw [show List.drop t.ty.sz (A4 t.ty X.1++A4 tyy X.2)=A4 tyy X.2 by rw [← c1,List.drop_left]] at k2
  rw [show List.drop t.ty.sz (A4 t.ty Y.1++A4 tyy Y.2)=A4 tyy Y.2 by rw [← c1',List.drop_left]] at k2'
  obtain ⟨b1,b2,e1,e2,rfl⟩:=Pq _ _ _ _ b (by rw [c1,c1']) he2
  obtain ⟨x,hx1,hx2⟩:=N5 (htok _ _ h1) (us:=us) (off:=f.offset) (by omega) w'
  obtain ⟨y,hy1,hy2⟩:=N5 (htok _ _ h1) (us:=vs) (off:=f.offset) (by omega) w'
  have hr:=ih f.type t d X.1 Y.1 _ _ x y b1 w' hd a2 h1 k1 k1' e1 hx2 hy2
  have hr2:=Sp htok ih hd w' (g::fs) (f.offset+t.ty.sz) tyy X.2 Y.2 b2 hp ha (by omega) (by omega) k2 k2' e2
  rw [Op.eqFields]
  simp only [ne_eq,a1,not_false_eq_true,if_true,Sem.run_bind,hx1,hy1,hr,Result.andThen_ok]
  cases b1
  ·rfl
  ·simpa using hr2
theorem Hia (htok:∀ T t,ti T=some t→TOk P T t):∀ n,Koa P ti G w n
 |0=>by
  intro T t d X Y us vs x y b w' _ h
  simp [eqB] at h
 |n+1=>by
  intro T t d X Y us vs x y b w' hd h hT hl hl' he hx hy
  obtain ⟨d,rfl⟩:∃ m,d=m+1:=⟨d - 1,by omega⟩
  have one:∀ {us:List Value} {x:Value} {z:Lf},us=[x]→H5 (Ge P G w) [z] us→Ge P G w z x:=by
   intro us x z e h
   subst e
   cases h with
   |cons a h=>exact a
  unfold eqB at h
  rw [hT] at h
  split at h
  ·rename_i t0 fs e1 hu
   cases e1
   simp only [Bool.and_eq_true,Bool.not_eq_true'] at h
   obtain ⟨⟨⟨h1,h2⟩,h3⟩,h4⟩:=h
   rw [h1] at hx hy
   simp only [if_true] at hx hy
   subst hx hy
   have hfs:P.fieldsOf T=fs:=by unfold Program.fieldsOf; rw [hu]
   rw [run_equalIn_struct w' d T _ _ (by rw [hfs]; exact hu) h2,hfs]
   have e1:=hl.len
   have e2:=hl'.len
   rw [Ec] at e1 e2
   exact Sp htok (Hia htok n) (by omega) w' fs.toList 0 t.ty X Y b h3 h4 (by omega) (by omega) (by rw [List.drop_zero,← e1,List.take_length]; exact hl) (by rw [List.drop_zero,← e2,List.take_length]; exact hl') he
  ·rename_i k by_ fo k' e1 hu
   cases e1
   simp only [Bool.false_eq_true,if_false] at hx hy
   have hz:=(one hx hl).1
   have hz':=(one hy hl').1
   subst hz hz'
   have he':(X==Y)=b:=by simpa [A4,Bl] using he
   rw [← he']
   simp [Op.equalIn,run_underlying hu]
  ·rename_i by_ fo e1 hu
   cases e1
   simp only [Bool.false_eq_true,if_false] at hx hy
   have hz:=(one hx hl).1
   have hz':=(one hy hl').1
   subst hz hz'
   have he':(X==Y)=b:=by simpa [A4,Bl] using he
   rw [← he']
   simp [Op.equalIn,run_underlying hu]
  ·rename_i by_ fo e1 hu
   cases e1
   simp only [Bool.false_eq_true,if_false] at hx hy
   have hz:=(one hx hl).1
   have hz':=(one hy hl').1
   subst hz hz'
   have he':(X==Y)=b:=by simpa [A4,Bl] using he
   rw [← he']
   simp [Op.equalIn,run_underlying hu]
  ·cases h
end
theorem Kpa:∀ (t:Ty) (l l':List Lf) (x:t.den),Ic l=true→mkT t l=some (x,l')→l=A4 t x++l'∧Ic l'=true:=by
 intro t
 induction t with
 |pr p q ihp ihq=>
  intro l l' x h hm
  simp only [mkT] at hm
  split at hm
  ·rename_i y l1 h1
   split at hm
   ·rename_i z l2 h2
    simp only [Option.some.injEq,Prod.mk.injEq] at hm
    obtain ⟨rfl,rfl⟩:=hm
    obtain ⟨e1,a1⟩:=ihp _ _ _ h h1
    obtain ⟨e2,a2⟩:=ihq _ _ _ a1 h2
    refine ⟨?_,a2⟩
    rw [e1,e2,← List.append_assoc]
    rfl
   ·cases hm
  ·cases hm
 |_=>
  intro l l' x h hm
  cases l with
  |nil=>simp [mkT] at hm
  |cons z l=>
   cases z<;>first|(simp [Ic] at h; done)|skip
   rename_i v
   cases v<;>first|(simp [mkT] at hm; done)|skip
   all_goals
    simp only [Ic] at h
    simp only [mkT] at hm
    first
     |(simp only [Option.some.injEq,Prod.mk.injEq] at hm; obtain ⟨rfl,rfl⟩:=hm; exact ⟨rfl,h⟩)
     |(
       rename_i k k' n
       by_cases hk:k=k'
       ·subst hk
        simp only [decide_true,cond_true,Option.some.injEq,Prod.mk.injEq] at hm
        obtain ⟨rfl,rfl⟩:=hm
        exact ⟨rfl,h⟩
       ·simp [hk] at hm)
theorem Lja {P:Program} {ti:TypeId→Option TI} (htok:∀ T t,ti T=some t→TOk P T t) {T:TypeId} (h:eqB P ti 9 T=true) (hag:(match ti T with|some t=>t.ag|none=>false)=true) (hg:P.eqGuardType P.depth T=false) (G:Nat→Prop) (w w':World) (x y:Operand) (l l':List Lf) (us vs:List Value) (b:Bool)
  (h1:H5 (Ge P G w) l us) (h2:H5 (Ge P G w) l' vs) (he:Bl l l'=some b) (ha:Ic l=true) (ha':Ic l'=true) (hk:Hi (ti T) l=true) (hk':Hi (ti T) l'=true):
  (Op.equal T (.agg us.toArray) (.agg vs.toArray)).run P w' = .ok b w'∧(eqGuard .eql T x y (.agg us.toArray) (.agg vs.toArray)).run P w' = .ok () w'∧(eqGuard .neq T x y (.agg us.toArray) (.agg vs.toArray)).run P w' = .ok () w':=by
 refine ⟨?_,run_eqGuard_agg w' _ T x y _ _ hg,run_eqGuard_agg w' _ T x y _ _ hg⟩
 unfold Hi at hk hk'
 split at hk
 ·rename_i t hT
  rw [hT] at hk' hag
  simp only at hk' hag
  have key:∀ {l:List Lf},Ic l=true→(mkW t.ty l).isSome=true→∃ X,l=A4 t.ty X:=by
   intro l ha hk
   obtain ⟨X,hX⟩:=Option.isSome_iff_exists.1 hk
   unfold mkW at hX
   split at hX
   ·rename_i z hz
    cases hX
    obtain ⟨e1,_⟩:=Kpa t.ty l [] _ ha hz
    exact ⟨_,by rw [e1,List.append_nil]⟩
   ·cases hX
  obtain ⟨X,rfl⟩:=key ha hk
  obtain ⟨Y,rfl⟩:=key ha' hk'
  exact Hia htok 9 T t Op.maxDepth X Y us vs _ _ b w' (by decide) h hT h1 h2 he (by rw [hag]; rfl) (by rw [hag]; rfl)
 ·cases hk
end

section
open Go.RowKit
attribute [local irreducible] C H
def Gy:Code→List Code
 |.seq a b=>Gy a++Gy b
 |.cond _ a b=>Gy a++Gy b
 |.block _ c=>Gy c
 |.loop c=>[c]
 |_=>[]
theorem Dga {X:Cx} {E:En}:∀ (c:Code),(∀ d∈Gy c,∀ L,E.lp (first d)=some L→Sd X L d)→Hm X E c:=by
 intro c
 induction c with
 |seq a b iha ihb=>exact λ h=>⟨iha λ d hd=>h d (List.mem_append_left _ hd),ihb λ d hd=>h d (List.mem_append_right _ hd)⟩
 |cond x a b iha ihb=>exact λ h=>⟨iha λ d hd=>h d (List.mem_append_left _ hd),ihb λ d hd=>h d (List.mem_append_right _ hd)⟩
 |block i c ih=>exact λ h=>ih h
 |loop c ih=>exact λ h=>h c (by simp [Gy])
 |_=>exact λ h=>trivial
theorem G8a {X:Cx} {E:En} {c b:Code} (ids:List Nat) (h1:Gy c=ids.map λ l=>Gd l b) (h2:(ids.map λ l=>first (Gd l b))=ids) (h3:∀ l∈ids,∀ L,E.lp l=some L→Sd X L (Gd l b)):Hm X E c:=by
 refine Dga c λ d hd L hL=>?_
 rw [h1] at hd
 obtain ⟨l,hl,rfl⟩:=List.mem_map.1 hd
 have:first (Gd l b)=l:=by
  have key:∀ (is:List Nat),(is.map λ l=>first (Gd l b))=is→∀ l∈is,first (Gd l b)=l:=by
   intro is
   induction is with
   |nil=>intro _ l hl; simp at hl
   |cons i is ih=>
    intro e l hl
    simp only [List.map_cons,List.cons.injEq] at e
    rcases List.mem_cons.1 hl with rfl|hl
    ·exact e.1
    ·exact ih e.2 l hl
  exact key ids h2 l hl
 rw [this] at hL
 exact h3 l hl L hL
theorem Kqa {P:Program} {X:Cx} {E:En} {ti:TypeId→Option TI} {eqs:TypeId→Bool} (hP:X.P=P) (h1:E.nt=X.nt) (h2:E.np=X.np) (h3:E.ti=ti) (h4:E.eq=eqs) (htok:∀ T t,ti T=some t→TOk P T t)
  (heq:∀ T,eqs T=true→eqB P ti 9 T=true∧(match ti T with|some t=>t.ag|none=>false)=true∧P.eqGuardType P.depth T=false) (hc:∀ f en,E.call f=some en→A6 P f en):Nu X E:=by
 refine ⟨⟨h1,h2,λ T t h=>?_,λ T h G w w' x y l l' us vs b=>?_⟩,λ f en h=>?_⟩
 ·rw [hP]; rw [h3] at h; exact htok T t h
 ·rw [hP,h3]
  rw [h4] at h
  obtain ⟨e1,e2,e3⟩:=heq T h
  exact Lja htok e1 e2 e3 G w w' x y l l' us vs b
 ·rw [hP]; exact hc f en h
def Iza {t:Ty} : {ts:List Ty}→t.den→Den ts→Den (t::ts)
 |[],x,_=>x
 |_::_,x,y=>(x,y)
theorem Sq {t:Ty} {ts:List Ty} {x:t.den} {y:Den ts}:Bj (t::ts) (Iza x y)=A4 t x::Bj ts y:=by
 cases ts<;>rfl
inductive Hja (P:Program) (w:World):(ps:List Par)→Den (ps.map Par.ty)→List Value→Prop
 |nil:Hja P w [] () []
 |cons {ag:Bool} {t:Ty} {ps:List Par} {X:t.den} {Y:Den (ps.map Par.ty)} {u:Value} {us vs:List Value} (hn:Fu t=true) (hu:if ag then u = .agg vs.toArray else vs=[u])
   (hr:t.rep P (λ k=>k<w.heap.size) w X vs) (h:Hja P w ps Y us):Hja P w (.val ag t::ps) (Iza (t:=t) (ts:=ps.map Par.ty) X Y) (u::us)
def G9a (w:World):Nat→Lab:=λ k=>if k<w.heap.size then .fz else .no
theorem Gaa {P:Program} {w:World}:∀ {ps:List Par} {x:Den (ps.map Par.ty)} {us:List Value},Hja P w ps x us→us.length=ps.length:=by
 intro ps x us h
 induction h with
 |nil=>rfl
 |cons _ _ _ _ ih=>simp [ih]
theorem Dha {P:Program} {w:World} {rg:Nat→Nat×Nat} {nv:Nat} {hs:List Value}:∀ {ps:List Par} {x:Den (ps.map Par.ty)} {us:List Value} (i:Nat),Hja P w ps x us→I7 P (bare (G9a w) w) rg nv hs i ps (Bj _ x) us:=by
 intro ps x us i h
 induction h generalizing i with
 |nil=>trivial
 |@cons ag t ps X Y u us vs hn hu hr h ih=>
  show I7 P (bare (G9a w) w) rg nv hs i (.val ag t::ps) (Bj (t::ps.map Par.ty) (Iza X Y)) (u::us)
  rw [Sq]
  refine ⟨⟨vs,hu,?_⟩,ih (i+1)⟩
  have h1:=Ig (P:=P) (G:=λ k=>G9a w k = .fz) (w:=w) t X vs (Ty.rep_mono (λ k hk=>by unfold G9a; rw [if_pos hk]) (λ _ _=>rfl) t X vs hr)
  rw [Nq t X hn]
  exact A5.ofRep (S:=bare (G9a w) w) h1 _ _
theorem Gba {P:Program} {f:FuncId} {en:Ent} (hs:Ica P f en) {w:World} {us:List Value} {x:Den (en.ps.map Par.ty)} (hc:Hja P w en.ps x us) (hnv:Nat.ble en.ps.length en.nv=true) {r:Den (en.rs.map Prod.snd++Gu en.ps)} (hr:en.run x=some r)
  (hrs:en.rs=[(.one,.b)]) (hl:∃ ls,Bj _ r=[.sc (.bool true)]::ls):Calls P f us.toArray w (λ e w'=>e = .returned (.bool true)∧Below w.heap.size w w'):=by
 have htk:us.take en.nv=us:=List.take_of_length_le (by rw [Gaa hc]; exact Nat.le_of_ble_eq_true hnv)
 have hcalls:=hs x r hr w (G9a w) (λ _=>(0,0)) us (λ k hk=>by
  unfold G9a at hk
  split at hk
  ·assumption
  ·exact (hk rfl).elim) (λ k b hk=>by
  unfold G9a at hk
  split at hk<;>cases hk) (Dha 0 hc)
 rw [htk] at hcalls
 refine M9 hcalls ?_
 rintro e w' ⟨v,O',rfl,hF,_,hR,_⟩
 obtain ⟨ls,hl⟩:=hl
 rw [hl] at hR
 rw [hrs] at hR
 obtain ⟨l,ls',e1,h1⟩:=hR
 cases e1
 have h2:A5 P (bare O' w') (λ _ => .tm 1 []) 0 [.sc (.bool true)] [v]:=h1
 have hv:v = .bool true:=h2.1.1
 subst hv
 exact ⟨rfl,hF.os,hF.tape,hF.out,hF.size,λ k hk=>(hF.fz k hk (by unfold G9a; rw [if_pos hk])).2⟩
theorem Gca {H':Type} {enc:TypeId×Value→H'} {P:Program} {w:World} {base:Nat} {spare:Nat→Bool} {held:Bool} {ti:TypeId→Option TI} (htok:∀ T t,ti T=some t→TOk P T t) (hcl:∀ T,Lm P ti T=true)
  {T:TypeId} {t:TI} (hT:ti T=some t) {v:Value} {d:DataW H'} {p:List MemPlace} {b0:Nat} (hv:Value.okWide P w .any b0 T v) (h:DataW.Trod enc P w base spare held T v d p)
  {ts:List TypeId} {ds:List (DataW H')} (hw:(DataW.weightsEach P ts ds).all (· ≤ reachBytes)=true) {j:Nat} (hj:ts[j]? = some T) (hd:ds[j]? = some d):
  ∃ (X:t.ty.den) (vs:List Value),(if t.ag then v = .agg vs.toArray else vs=[v])∧t.ty.rep P (λ k=>k<w.heap.size) w X vs∧t.ty.fit ti X:=by
 obtain ⟨n,hn⟩:=h
 obtain ⟨X,r,f⟩:=Qy htok hcl n T t _ _ hT hn (λ m hm=>by
  have:=List.all_eq_true.1 hw m (DataW.weights_mem_each hj hd m hm)
  exact of_decide_eq_true this)
 refine ⟨X,_,?_,r,f⟩
 have hc:=hcl T
 unfold Lm at hc
 rw [hT] at hc
 unfold Value.okWide at hv
 split at hc
 ·rename_i e; cases e
 ·rename_i t0 fs e1 hu
  cases e1
  simp only [Bool.and_eq_true] at hc
  rw [hc.1]
  rw [hu] at hv
  obtain ⟨cs,rfl,_⟩:=hv
  simp [Value.cells]
 all_goals first
  |(cases hc; done)
  |(rename_i hu; rw [hu] at hv; simp only [Cell.okWide,hu] at hv; rename_i e1; cases e1; simp only [Bool.false_eq_true,if_false]; have hsz:=Ty.rep_len _ _ _ r; cases v<;>first|(simp [Value.cells]; done)|(simp only [Cell.ok,hu] at hv; done)|(simp [Cell.ok,hu] at hv; done))
end

section
open Go.RowKit
attribute [local irreducible] C H
def lk {α:Type}:List (Nat×α)→Nat→Option α
 |[],_=>none
 |(i,a)::l,n=>bif Nat.beq n i then some a else lk l n
structure LF where
 ins:R9
 alts:List (Ex×R9)
 f:Nat→ins.den→Option (Eta alts)
@[reducible] def LF.at (p:LF) (k:Nat):Lp:=⟨p.ins,p.alts,p.f k⟩
structure Fd where
 nt:Nat
 nv:Nat
 nm:List Nat
 res:List Nat
 cs:Nat→List (FuncId×Ent):=λ _=>[]
 ls:List (Nat×LF):=[]
 hint:List (Nat×Ty):=[]
 mv:List Nat:=[]
 gh:List (Nat×List Gh):=[]
 opn:List Nat:=[]
 sh:Bool:=false
 rf:Bool:=false
def Fd.n (D:Fd) (ti:TypeId→Option TI) (eqs:TypeId→Bool) (k:Nat):En:=
 ⟨D.nt,ti,eqs,D.nm.contains,D.res.contains,lk (D.cs k),λ l=>match lk D.ls l with|some p=>some (p.at k)|none=>none,D.nv,lk D.hint,D.mv.contains,λ n=>(lk D.gh n).getD [],D.opn.contains,λ _=>D.sh,D.rf⟩
theorem Hka {α:Type}:∀ {l:List (Nat×α)} {n:Nat} {a:α},lk l n=some a→n∈l.map Prod.fst
 |[],_,_,h=>by cases h
 |(i,b)::l,n,a,h=>by
  unfold lk at h
  cases hb:Nat.beq n i with
  |true=>rw [Nat.eq_of_beq_eq_true hb]; simp
  |false=>
   rw [hb,cond_false] at h
   exact List.mem_cons_of_mem _ (Hka h)
def Mg (P:Program):List (FuncId×Ent)→Prop
 |[]=>True
 |c::l=>A6 P c.1 c.2∧Mg P l
theorem Dia {P:Program}:∀ {l:List (FuncId×Ent)} {f:FuncId} {en:Ent},Mg P l→lk l f=some en→A6 P f en
 |[],_,_,_,h=>by cases h
 |(i,a)::l,f,en,hc,h=>by
  unfold lk at h
  cases hb:Nat.beq f i with
  |true=>
   rw [hb,cond_true] at h
   cases h
   rw [Nat.eq_of_beq_eq_true hb]
   exact hc.1
  |false=>rw [hb,cond_false] at h; exact Dia hc.2 h
@[reducible] def bo (fn:Func):Code:=fn.body.getD .skip
structure O9 (P:Program) (ti:TypeId→Option TI) (eqs:TypeId→Bool):Prop where
 tok:∀ T t,ti T=some t→TOk P T t
 eq:∀ T,eqs T=true→eqB P ti 9 T=true∧(match ti T with|some t=>t.ag|none=>false)=true∧P.eqGuardType P.depth T=false
 mix:P.follows .mixedOrders=true
def LK (P:Program) (fn:Func) (D:Fd) (l:Nat) (p:LF):Prop:=∀ X:Cx,X.P=P→X.nt=fn.ntmps→X.np=D.nv→∀ k,Sd X (p.at k) (Gd l (bo fn))
def Kra (P:Program) (fn:Func) (D:Fd):List Nat→Prop
 |[]=>True
 |l::r=>(match lk D.ls l with|some p=>LK P fn D l p|none=>True)∧Kra P fn D r
theorem Dja {P:Program} {fn:Func} {D:Fd} {l:Nat} {p:LF} (hp:lk D.ls l=some p):∀ {r:List Nat},Kra P fn D r→l∈r→LK P fn D l p
 |[],_,h=>by cases h
 |i::r,ha,h=>by
  rcases List.mem_cons.1 h with rfl|h
  ·have:=ha.1
   rw [hp] at this
   exact this
  ·exact Dja hp ha.2 h
section
variable {P:Program} {ti:TypeId→Option TI} {eqs:TypeId→Bool} {fn:Func}
theorem Lka (hS:O9 P ti eqs) {D:Fd} {k:Nat} (hn:Nat.beq D.nt fn.ntmps=true) (hc:Mg P (D.cs k)) {X:Cx} (hP:X.P=P) (hx:X.nt=fn.ntmps) (hp:X.np=D.nv):Nu X (D.n ti eqs k):=
 Kqa hP ((Nat.eq_of_beq_eq_true hn).trans hx.symm) hp.symm rfl rfl hS.tok hS.eq (λ _ _ h=>Dia hc h)
theorem Ksa (hS:O9 P ti eqs) {D:Fd} {k:Nat} (hn:Nat.beq D.nt fn.ntmps=true) (hc:Mg P (D.cs k)) {X:Cx} (hP:X.P=P) (hx:X.nt=fn.ntmps) (hp:X.np=D.nv):Se X (D.n ti eqs k):=
 Iya (Lka hS hn hc hP hx hp) (by rw [hP]; exact hS.mix)
theorem Hla {D:Fd} {k:Nat} {c:Code} {ids:List Nat} (h:(Gy c,ids.map λ l=>first (Gd l (bo fn)))=(ids.map λ l=>Gd l (bo fn),ids)) (hi:Kra P fn D ids) {X:Cx} (hP:X.P=P) (hx:X.nt=fn.ntmps) (hp:X.np=D.nv):Hm X (D.n ti eqs k) c:=by
 rw [Prod.mk.injEq] at h
 refine G8a (b:=bo fn) ids h.1 h.2 λ l hl L hL=>?_
 have hL':(match lk D.ls l with|some p=>some (p.at k)|none=>none)=some L:=hL
 cases hp':lk D.ls l with
 |none=>rw [hp'] at hL'; cases hL'
 |some p=>
  rw [hp'] at hL'
  cases hL'
  exact Dja hp' hi hl X hP hx hp k
@[reducible] def Mfa (ti:TypeId→Option TI) (eqs:TypeId→Bool) (fn:Func) (D:Fd) (l:Nat) (p:LF):Prop:=∀ k x,Bda (D.n ti eqs k) (p.at k) (Gd l (bo fn)) x=p.f (k+1) x
theorem mkL (hS:O9 P ti eqs) {D:Fd} {l:Nat} {p:LF} (ids:List Nat) (hn:Nat.beq D.nt fn.ntmps=true) (hc:∀ k,Mg P (D.cs k)) (hi:Kra P fn D ids) (h:(Gy (Gd l (bo fn)),ids.map λ l=>first (Gd l (bo fn)))=(ids.map λ l=>Gd l (bo fn),ids)) (h0:∀ x,p.f 0 x=none) (hs:Mfa ti eqs fn D l p):LK P fn D l p:=
 λ X hP hx hp=>Ika (ins:=p.ins) (alts:=p.alts) (f:=p.f) (En':=D.n ti eqs) h0 hs (λ k=>Lka hS hn (hc k) hP hx hp) (λ k=>Ksa hS hn (hc k) hP hx hp) (λ k=>Hla h hi hP hx hp)
def M8a (fn:Func) (D:Fd) (en:Ent):Bool:=Nat.beq D.nt fn.ntmps&&(Nat.ble fn.ntmps 1000&&(Nat.ble en.nv fn.ntmps&&(Nat.beq en.nv D.nv&&(fn.body.isSome&&(!(fn.name == "runtime.NumGoroutine")&&Ud en)))))
theorem mkS (hS:O9 P ti eqs) {f:FuncId} {D:Fd} {k:Nat} {en:Ent} (ids:List Nat) (hf:P.funcs[f]? = some fn) (hc:Mg P (D.cs k)) (hi:Kra P fn D ids) (hk:M8a fn D en=true) (h:(Gy (bo fn),ids.map λ l=>first (Gd l (bo fn)))=(ids.map λ l=>Gd l (bo fn),ids))
  (hr:∀ x,H4a (D.n ti eqs k) (bo fn) fn.results.toList en x=en.run x):A6 P f en:=by
 unfold M8a at hk
 simp only [Bool.and_eq_true,Bool.not_eq_true'] at hk
 obtain ⟨h1,h2,h3,h4,h5,h6,h7⟩:=hk
 have h4:=Nat.eq_of_beq_eq_true h4
 have hb:fn.body=some (bo fn):=by
  unfold bo
  cases hb:fn.body with
  |none=>rw [hb] at h5; cases h5
  |some c=>rfl
 refine ⟨⟨fn,hf,h6,by rw [hb]; rfl⟩,Zx hf hb (Nat.le_of_ble_eq_true h2) (Nat.le_of_ble_eq_true h3) (λ X hP hx hp=>?_) (λ X hP hx hp=>?_) (λ X hP hx hp=>?_) h7 hr⟩
 ·exact Lka hS h1 hc hP hx (hp.trans h4)
 ·exact Ksa hS h1 hc hP hx (hp.trans h4)
 ·exact Hla h hi hP hx (hp.trans h4)
theorem Lla {keys Jma:List Nat} (hk:∀ {T t},ti T=some t→T∈keys) (h1:(keys.all λ T=>(match ti T with|some t=>Lfa P T t|none=>true)&&Lm P ti T)=true)
  (h2:(Jma.all λ T=>eqB P ti 9 T&&(match ti T with|some t=>t.ag|none=>false) && !(P.eqGuardType P.depth T))=true) (he:eqs=λ T=>Jma.contains T) (hm:P.follows .mixedOrders=true):O9 P ti eqs∧∀ T,Lm P ti T=true:=by
 refine ⟨⟨λ T t h=>?_,λ T h=>?_,hm⟩,λ T=>?_⟩
 ·have h3:=List.all_eq_true.1 h1 T (hk h)
  rw [Bool.and_eq_true,h] at h3
  exact Jxa _ _ _ h3.1
 ·rw [he] at h
  have h3:=List.all_eq_true.1 h2 T (List.elem_iff.1 h)
  simp only [Bool.and_eq_true,Bool.not_eq_true'] at h3
  exact ⟨h3.1.1,h3.1.2,h3.2⟩
 ·cases h:ti T with
  |none=>unfold Lm; rw [h]
  |some t=>
   have h3:=List.all_eq_true.1 h1 T (hk h)
   rw [Bool.and_eq_true] at h3
   exact h3.2
end
end

section
open Go.Proofs
@[reducible] def t0:Ty := .sl 9 .s
@[reducible] def t1:Ty := .ow 9 .s
@[reducible] def t2:Ty := .sl 5 (.i .u8)
@[reducible] def t3:Ty := .ow 5 (.i .u8)
@[reducible] def t4:Ty := .sl 3 (.i .i64)
@[reducible] def t5:Ty := .ow 3 (.i .i64)
@[reducible] def t6:Ty := .pr .s (.i .u64)
@[reducible] def t7:Ty := .sl 111 t4
@[reducible] def t8:Ty := .sl 123 t4
@[reducible] def t9:Ty := .ow 123 t4
@[reducible] def t10:Ty := .pr .s t2
@[reducible] def t11:Ty := .sl 95 t10
@[reducible] def t12:Ty := .ow 95 t10
@[reducible] def t13:Ty := .sl 163 t10
@[reducible] def t14:Ty := .pr (.i .i64) (.pr (.i .i64) (.i .i64))
@[reducible] def t15:Ty := .pr (.i .i64) t7
@[reducible] def t16:Ty := .pr (.i .i64) t8
@[reducible] def t17:Ty := .pr (.i .i64) t9
@[reducible] def t18:Ty := .pr t2 (.pr (.i .i64) .b)
@[reducible] def t19:Ty := .sl 98 t14
@[reducible] def t20:Ty := .ow 98 t14
@[reducible] def t21:Ty := .sl 100 t14
@[reducible] def t22:Ty := .pr (.i .i64) (.pr (.i .i64) (.pr .b (.i .u8)))
@[reducible] def t23:Ty := .pr t14 (.pr .b t2)
@[reducible] def t24:Ty := .pr t14 (.pr .b t3)
@[reducible] def t25:Ty := .pr .s (.pr t14 (.pr .b (.i .i64)))
@[reducible] def t26:Ty := .pr t11 t11
@[reducible] def t27:Ty := .pr t12 t12
@[reducible] def t28:Ty := .pr t13 t13
@[reducible] def t29:Ty := .sl 141 t25
@[reducible] def t30:Ty := .sl 153 t25
@[reducible] def t31:Ty := .ow 153 t25
@[reducible] def t32:Ty := .pr .s (.pr t23 .b)
@[reducible] def t33:Ty := .sl 84 t32
@[reducible] def t34:Ty := .sl 56 t32
@[reducible] def t35:Ty := .ow 56 t32
@[reducible] def t36:Ty := .pr (.i .i64) (.pr t26 (.pr t30 t30))
@[reducible] def t37:Ty := .pr (.i .i64) (.pr t28 (.pr t29 t29))
@[reducible] def t38:Ty := .sl 90 t36
@[reducible] def t39:Ty := .ow 90 t36
@[reducible] def t40:Ty := .sl 79 t37
@[reducible] def t41:Ty := .pr t19 (.pr t16 (.pr t38 (.pr t14 (.pr t34 t0))))
@[reducible] def t42:Ty := .pr t21 (.pr t15 (.pr t40 (.pr t14 (.pr t33 t0))))
def tiL:List (Nat×TI):=[(2,⟨(.i .i64),false,8,[]⟩),
 (3,⟨(.i .i64),false,8,[]⟩),
 (4,⟨.b,false,1,[]⟩),
 (5,⟨(.i .u8),false,1,[]⟩),
 (6,⟨(.i .u8),false,1,[]⟩),
 (7,⟨t22,true,24,[(0,1,false),(1,1,false),(2,1,false),(3,1,false)]⟩),
 (8,⟨t22,true,24,[(0,1,false),(1,1,false),(2,1,false),(3,1,false)]⟩),
 (9,⟨.s,false,16,[]⟩),
 (10,⟨.s,false,16,[]⟩),
 (11,⟨.s,false,16,[]⟩),
 (12,⟨(.i .u64),false,8,[]⟩),
 (13,⟨t6,true,24,[(0,1,false),(1,1,false)]⟩),
 (14,⟨t6,true,24,[(0,1,false),(1,1,false)]⟩),
 (21,⟨(.i .i32),false,4,[]⟩),
 (22,⟨t21,false,24,[]⟩),
 (23,⟨t7,false,24,[]⟩),
 (24,⟨t15,true,32,[(0,1,false),(1,1,false)]⟩),
 (25,⟨t15,true,32,[(0,1,false),(1,1,false)]⟩),
 (26,⟨t40,false,24,[]⟩),
 (27,⟨t14,true,24,[(0,1,false),(1,1,false),(2,1,false)]⟩),
 (28,⟨t14,true,24,[(0,1,false),(1,1,false),(2,1,false)]⟩),
 (29,⟨t33,false,24,[]⟩),
 (30,⟨t0,false,24,[]⟩),
 (31,⟨t42,true,152,[(0,1,false),(1,2,true),(3,1,false),(4,3,true),(7,1,false),(8,1,false)]⟩),
 (32,⟨t42,true,152,[(0,1,false),(1,2,true),(3,1,false),(4,3,true),(7,1,false),(8,1,false)]⟩),
 (35,⟨t19,false,24,[]⟩),
 (36,⟨t8,false,24,[]⟩),
 (37,⟨t16,true,32,[(0,1,false),(1,1,false)]⟩),
 (38,⟨t16,true,32,[(0,1,false),(1,1,false)]⟩),
 (39,⟨t38,false,24,[]⟩),
 (40,⟨t14,true,24,[(0,1,false),(1,1,false),(2,1,false)]⟩),
 (41,⟨t34,false,24,[]⟩),
 (42,⟨t41,true,152,[(0,1,false),(1,2,true),(3,1,false),(4,3,true),(7,1,false),(8,1,false)]⟩),
 (43,⟨t41,true,152,[(0,1,false),(1,2,true),(3,1,false),(4,3,true),(7,1,false),(8,1,false)]⟩),
 (52,⟨t2,false,24,[]⟩),
 (53,⟨t23,true,56,[(0,3,true),(3,1,false),(4,1,false)]⟩),
 (54,⟨t23,true,56,[(0,3,true),(3,1,false),(4,1,false)]⟩),
 (55,⟨t32,true,80,[(0,1,false),(1,5,true),(6,1,false)]⟩),
 (56,⟨t32,true,80,[(0,1,false),(1,5,true),(6,1,false)]⟩),
 (74,⟨t13,false,24,[]⟩),
 (75,⟨t28,true,48,[(0,1,false),(1,1,false)]⟩),
 (76,⟨t28,true,48,[(0,1,false),(1,1,false)]⟩),
 (77,⟨t29,false,24,[]⟩),
 (78,⟨t37,true,104,[(0,1,false),(1,2,true),(3,1,false),(4,1,false)]⟩),
 (79,⟨t37,true,104,[(0,1,false),(1,2,true),(3,1,false),(4,1,false)]⟩),
 (81,⟨t23,true,56,[(0,3,true),(3,1,false),(4,1,false)]⟩),
 (82,⟨t23,true,56,[(0,3,true),(3,1,false),(4,1,false)]⟩),
 (83,⟨t32,true,80,[(0,1,false),(1,5,true),(6,1,false)]⟩),
 (84,⟨t32,true,80,[(0,1,false),(1,5,true),(6,1,false)]⟩),
 (85,⟨t11,false,24,[]⟩),
 (86,⟨t26,true,48,[(0,1,false),(1,1,false)]⟩),
 (87,⟨t26,true,48,[(0,1,false),(1,1,false)]⟩),
 (88,⟨t30,false,24,[]⟩),
 (89,⟨t36,true,104,[(0,1,false),(1,2,true),(3,1,false),(4,1,false)]⟩),
 (90,⟨t36,true,104,[(0,1,false),(1,2,true),(3,1,false),(4,1,false)]⟩),
 (94,⟨t10,true,40,[(0,1,false),(1,1,false)]⟩),
 (95,⟨t10,true,40,[(0,1,false),(1,1,false)]⟩),
 (97,⟨t14,true,24,[(0,1,false),(1,1,false),(2,1,false)]⟩),
 (98,⟨t14,true,24,[(0,1,false),(1,1,false),(2,1,false)]⟩),
 (100,⟨t14,true,24,[(0,1,false),(1,1,false),(2,1,false)]⟩),
 (109,⟨t4,false,24,[]⟩),
 (110,⟨t4,true,24,[(0,1,false)]⟩),
 (111,⟨t4,true,24,[(0,1,false)]⟩),
 (123,⟨t4,true,24,[(0,1,false)]⟩),
 (129,⟨t18,true,40,[(0,1,false),(1,1,false),(2,1,false)]⟩),
 (130,⟨t18,true,40,[(0,1,false),(1,1,false),(2,1,false)]⟩),
 (140,⟨t25,true,56,[(0,1,false),(1,3,true),(4,1,false),(5,1,false)]⟩),
 (141,⟨t25,true,56,[(0,1,false),(1,3,true),(4,1,false),(5,1,false)]⟩),
 (143,⟨(.i .u64),false,8,[]⟩),
 (152,⟨t25,true,56,[(0,1,false),(1,3,true),(4,1,false),(5,1,false)]⟩),
 (153,⟨t25,true,56,[(0,1,false),(1,3,true),(4,1,false),(5,1,false)]⟩),
 (163,⟨t10,true,40,[(0,1,false),(1,1,false)]⟩),
 (166,⟨(.i .u32),false,4,[]⟩),
 (173,⟨(.i .u8),false,1,[]⟩),
 (174,⟨(.i .u8),false,1,[]⟩),
 (177,⟨(.i .i32),false,4,[]⟩),
 (178,⟨(.i .i32),false,4,[]⟩)]
def ti:TypeId→Option TI:=lk tiL
def Jma:List Nat:=[27,28,40,97,98,100,140,141,152,153]
def eqs:TypeId→Bool:=λ T=>Jma.contains T
theorem sK:O9 Try.prog ti eqs∧∀ T,Lm Try.prog ti T=true:=Lla (P:=Try.prog) (ti:=ti) (eqs:=eqs) (keys:=tiL.map Prod.fst) (Jma:=Jma) Hka (by kernel_rfl) (by kernel_rfl) rfl (by kernel_rfl)
theorem sO:O9 Try.prog ti eqs:=sK.1
theorem Mga:∀ T t,ti T=some t→TOk Try.prog T t:=sO.tok
theorem Mha:∀ T,Lm Try.prog ti T=true:=sK.2
def Em.e (k:Nat):Ent:=⟨2,[(.val false t21),(.val false (.i .i64))],[(.one,(.i .i64))],λ x=>Em x.1 x.2⟩
def Em.d:Fd := { nt:=12,nv:=2,nm:=[0,1,2,3],res:=[4],rf:=true }
theorem Em.s (k:Nat):A6 Try.prog 9 (Em.e k):=mkS (D:=Em.d) (k:=k) sO [] Try.func9 trivial trivial (by kernel_rfl) (by kernel_rfl) (λ x=>by kernel_rfl)
def Eo.e (k:Nat):Ent:=⟨2,[(.val false t4),(.val false (.i .i64))],[(.one,(.i .i64))],λ x=>Eo x.1 x.2⟩
def Eo.d:Fd := { nt:=12,nv:=2,nm:=[0,1,2,3],res:=[4],rf:=true }
theorem Eo.s (k:Nat):A6 Try.prog 68 (Eo.e k):=mkS (D:=Eo.d) (k:=k) sO [] Try.func68 trivial trivial (by kernel_rfl) (by kernel_rfl) (λ x=>by kernel_rfl)
def Ep.e (k:Nat):Ent:=⟨2,[(.val true t4),(.val false (.i .i64))],[(.one,(.i .i64))],λ x=>Ep x.1 x.2⟩
def Ep.d:Fd := { nt:=12,nv:=2,nm:=[0,1,2,3],res:=[4],cs:=λ k=>[(68,Eo.e k)],rf:=true }
theorem Ep.s (k:Nat):A6 Try.prog 47 (Ep.e k):=mkS (D:=Ep.d) (k:=k) sO [] Try.func47 ⟨Eo.s k,trivial⟩ trivial (by kernel_rfl) (by kernel_rfl) (λ x=>by kernel_rfl)
def Ba.e (k:Nat):Ent:=⟨2,[(.val false t7),(.val false (.i .i64))],[(.one,(.i .i64))],λ x=>Ba k x.1 x.2⟩
def Cc.p:LF:=⟨⟨[],[(0,t7),(1,(.i .i64)),(5,(.i .i64))]⟩,[(.ret,⟨[],[(4,(.i .i64))]⟩),((.exit 0),⟨[],[(1,(.i .i64))]⟩)],λ k x=>Cc k x.1 x.2.1 x.2.2⟩
def Ba.d:Fd := { nt:=27,nv:=2,nm:=[0,1,2,3,5],res:=[4],cs:=λ k=>[(47,Ep.e k)],ls:=[(5,Cc.p)],rf:=true }
theorem Ba.a (k:Nat):Mg Try.prog (Ba.d.cs k):=⟨Ep.s k,trivial⟩
theorem Cc.s:LK Try.prog Try.f30 Ba.d 5 Cc.p:=mkL sO [] (by kernel_rfl) Ba.a trivial (by kernel_rfl) (λ _=>rfl) (λ k x=>by kernel_rfl)
theorem Ba.s (k:Nat):A6 Try.prog 30 (Ba.e k):=mkS (D:=Ba.d) (k:=k) sO [5] Try.func30 (Ba.a k) ⟨Cc.s,trivial⟩ (by kernel_rfl) (by kernel_rfl) (λ x=>by kernel_rfl)
def Er.e (k:Nat):Ent:=⟨2,[(.val true t15),(.val false (.i .i64))],[(.one,(.i .i64))],λ x=>Er k x.1 x.2⟩
def Er.d:Fd := { nt:=12,nv:=2,nm:=[0,1,2,3],res:=[4],cs:=λ k=>[(30,Ba.e k)],rf:=true }
theorem Er.s (k:Nat):A6 Try.prog 10 (Er.e k):=mkS (D:=Er.d) (k:=k) sO [] Try.func10 ⟨Ba.s k,trivial⟩ trivial (by kernel_rfl) (by kernel_rfl) (λ x=>by kernel_rfl)
def Cv.e (k:Nat):Ent:=⟨2,[(.val false t2),(.val false (.i .i64))],[(.one,(.i .i64))],λ x=>Cv x.1 x.2⟩
def Cv.d:Fd := { nt:=12,nv:=2,nm:=[0,1,2,3],res:=[4],rf:=true }
theorem Cv.s (k:Nat):A6 Try.prog 71 (Cv.e k):=mkS (D:=Cv.d) (k:=k) sO [] Try.func71 trivial trivial (by kernel_rfl) (by kernel_rfl) (λ x=>by kernel_rfl)
def E6.e (k:Nat):Ent:=⟨2,[(.val true t10),(.val false (.i .i64))],[(.one,(.i .i64))],λ x=>E6 x.1 x.2⟩
def E6.d:Fd := { nt:=19,nv:=2,nm:=[0,1,2,3],res:=[4],cs:=λ k=>[(71,Cv.e k)],rf:=true }
theorem E6.s (k:Nat):A6 Try.prog 92 (E6.e k):=mkS (D:=E6.d) (k:=k) sO [] Try.func92 ⟨Cv.s k,trivial⟩ trivial (by kernel_rfl) (by kernel_rfl) (λ x=>by kernel_rfl)
def Al.e (k:Nat):Ent:=⟨2,[(.val false t13),(.val false (.i .i64))],[(.one,(.i .i64))],λ x=>Al k x.1 x.2⟩
def C1.p:LF:=⟨⟨[],[(0,t13),(1,(.i .i64)),(5,(.i .i64))]⟩,[(.ret,⟨[],[(4,(.i .i64))]⟩),((.exit 0),⟨[],[(1,(.i .i64))]⟩)],λ k x=>C1 k x.1 x.2.1 x.2.2⟩
def Al.d:Fd := { nt:=27,nv:=2,nm:=[0,1,2,3,5],res:=[4],cs:=λ k=>[(92,E6.e k)],ls:=[(5,C1.p)],rf:=true }
theorem Al.a (k:Nat):Mg Try.prog (Al.d.cs k):=⟨E6.s k,trivial⟩
theorem C1.s:LK Try.prog Try.f69 Al.d 5 C1.p:=mkL sO [] (by kernel_rfl) Al.a trivial (by kernel_rfl) (λ _=>rfl) (λ k x=>by kernel_rfl)
theorem Al.s (k:Nat):A6 Try.prog 69 (Al.e k):=mkS (D:=Al.d) (k:=k) sO [5] Try.func69 (Al.a k) ⟨C1.s,trivial⟩ (by kernel_rfl) (by kernel_rfl) (λ x=>by kernel_rfl)
def Es.e (k:Nat):Ent:=⟨2,[(.val true t28),(.val false (.i .i64))],[(.one,(.i .i64))],λ x=>Es k x.1 x.2⟩
def Es.d:Fd := { nt:=18,nv:=2,nm:=[0,1,2,3],res:=[4],cs:=λ k=>[(69,Al.e k)],rf:=true }
theorem Es.s (k:Nat):A6 Try.prog 48 (Es.e k):=mkS (D:=Es.d) (k:=k) sO [] Try.func48 ⟨Al.s k,trivial⟩ trivial (by kernel_rfl) (by kernel_rfl) (λ x=>by kernel_rfl)
def Fq.e (k:Nat):Ent:=⟨2,[(.val true t25),(.val false (.i .i64))],[(.one,(.i .i64))],λ x=>Fq x.1 x.2⟩
def Fq.d:Fd := { nt:=13,nv:=2,nm:=[0,1,2,3],res:=[4],rf:=true }
theorem Fq.s (k:Nat):A6 Try.prog 70 (Fq.e k):=mkS (D:=Fq.d) (k:=k) sO [] Try.func70 trivial trivial (by kernel_rfl) (by kernel_rfl) (λ x=>by kernel_rfl)
def Bn.e (k:Nat):Ent:=⟨2,[(.val false t29),(.val false (.i .i64))],[(.one,(.i .i64))],λ x=>Bn k x.1 x.2⟩
def D6.p:LF:=⟨⟨[],[(0,t29),(1,(.i .i64)),(5,(.i .i64))]⟩,[(.ret,⟨[],[(4,(.i .i64))]⟩),((.exit 0),⟨[],[(1,(.i .i64))]⟩)],λ k x=>D6 k x.1 x.2.1 x.2.2⟩
def Bn.d:Fd := { nt:=27,nv:=2,nm:=[0,1,2,3,5],res:=[4],cs:=λ k=>[(70,Fq.e k)],ls:=[(5,D6.p)],rf:=true }
theorem Bn.a (k:Nat):Mg Try.prog (Bn.d.cs k):=⟨Fq.s k,trivial⟩
theorem D6.s:LK Try.prog Try.f49 Bn.d 5 D6.p:=mkL sO [] (by kernel_rfl) Bn.a trivial (by kernel_rfl) (λ _=>rfl) (λ k x=>by kernel_rfl)
theorem Bn.s (k:Nat):A6 Try.prog 49 (Bn.e k):=mkS (D:=Bn.d) (k:=k) sO [5] Try.func49 (Bn.a k) ⟨D6.s,trivial⟩ (by kernel_rfl) (by kernel_rfl) (λ x=>by kernel_rfl)
def Et.e (k:Nat):Ent:=⟨2,[(.val true t37),(.val false (.i .i64))],[(.one,(.i .i64))],λ x=>Et k x.1 x.2⟩
def Et.d:Fd := { nt:=24,nv:=2,nm:=[0,1,2,3],res:=[4],cs:=λ k=>[(48,Es.e k),(49,Bn.e k)],rf:=true }
theorem Et.s (k:Nat):A6 Try.prog 31 (Et.e k):=mkS (D:=Et.d) (k:=k) sO [] Try.func31 ⟨Es.s k,Bn.s k,trivial⟩ trivial (by kernel_rfl) (by kernel_rfl) (λ x=>by kernel_rfl)
def Bb.e (k:Nat):Ent:=⟨2,[(.val false t40),(.val false (.i .i64))],[(.one,(.i .i64))],λ x=>Bb k x.1 x.2⟩
def Cd.p:LF:=⟨⟨[],[(0,t40),(1,(.i .i64)),(5,(.i .i64))]⟩,[(.ret,⟨[],[(4,(.i .i64))]⟩),((.exit 0),⟨[],[(1,(.i .i64))]⟩)],λ k x=>Cd k x.1 x.2.1 x.2.2⟩
def Bb.d:Fd := { nt:=27,nv:=2,nm:=[0,1,2,3,5],res:=[4],cs:=λ k=>[(31,Et.e k)],ls:=[(5,Cd.p)],rf:=true }
theorem Bb.a (k:Nat):Mg Try.prog (Bb.d.cs k):=⟨Et.s k,trivial⟩
theorem Cd.s:LK Try.prog Try.f11 Bb.d 5 Cd.p:=mkL sO [] (by kernel_rfl) Bb.a trivial (by kernel_rfl) (λ _=>rfl) (λ k x=>by kernel_rfl)
theorem Bb.s (k:Nat):A6 Try.prog 11 (Bb.e k):=mkS (D:=Bb.d) (k:=k) sO [5] Try.func11 (Bb.a k) ⟨Cd.s,trivial⟩ (by kernel_rfl) (by kernel_rfl) (λ x=>by kernel_rfl)
def Eu.e (k:Nat):Ent:=⟨2,[(.val true t23),(.val false (.i .i64))],[(.one,(.i .i64))],λ x=>Eu x.1 x.2⟩
def Eu.d:Fd := { nt:=12,nv:=2,nm:=[0,1,2,3],res:=[4],cs:=λ k=>[(71,Cv.e k)],rf:=true }
theorem Eu.s (k:Nat):A6 Try.prog 50 (Eu.e k):=mkS (D:=Eu.d) (k:=k) sO [] Try.func50 ⟨Cv.s k,trivial⟩ trivial (by kernel_rfl) (by kernel_rfl) (λ x=>by kernel_rfl)
def E7.e (k:Nat):Ent:=⟨2,[(.val true t32),(.val false (.i .i64))],[(.one,(.i .i64))],λ x=>E7 x.1 x.2⟩
def E7.d:Fd := { nt:=19,nv:=2,nm:=[0,1,2,3],res:=[4],cs:=λ k=>[(50,Eu.e k)],rf:=true }
theorem E7.s (k:Nat):A6 Try.prog 32 (E7.e k):=mkS (D:=E7.d) (k:=k) sO [] Try.func32 ⟨Eu.s k,trivial⟩ trivial (by kernel_rfl) (by kernel_rfl) (λ x=>by kernel_rfl)
def As.e (k:Nat):Ent:=⟨2,[(.val false t33),(.val false (.i .i64))],[(.one,(.i .i64))],λ x=>As k x.1 x.2⟩
def C2.p:LF:=⟨⟨[],[(0,t33),(1,(.i .i64)),(5,(.i .i64))]⟩,[(.ret,⟨[],[(4,(.i .i64))]⟩),((.exit 0),⟨[],[(1,(.i .i64))]⟩)],λ k x=>C2 k x.1 x.2.1 x.2.2⟩
def As.d:Fd := { nt:=27,nv:=2,nm:=[0,1,2,3,5],res:=[4],cs:=λ k=>[(32,E7.e k)],ls:=[(5,C2.p)],rf:=true }
theorem As.a (k:Nat):Mg Try.prog (As.d.cs k):=⟨E7.s k,trivial⟩
theorem C2.s:LK Try.prog Try.f12 As.d 5 C2.p:=mkL sO [] (by kernel_rfl) As.a trivial (by kernel_rfl) (λ _=>rfl) (λ k x=>by kernel_rfl)
theorem As.s (k:Nat):A6 Try.prog 12 (As.e k):=mkS (D:=As.d) (k:=k) sO [5] Try.func12 (As.a k) ⟨C2.s,trivial⟩ (by kernel_rfl) (by kernel_rfl) (λ x=>by kernel_rfl)
def C3.e (k:Nat):Ent:=⟨2,[(.val false t0),(.val false (.i .i64))],[(.one,(.i .i64))],λ x=>C3 k x.1 x.2⟩
def B8.p:LF:=⟨⟨[],[(0,t0),(1,(.i .i64)),(5,(.i .i64))]⟩,[(.ret,⟨[],[(4,(.i .i64))]⟩),((.exit 0),⟨[],[(1,(.i .i64))]⟩)],λ k x=>B8 k x.1 x.2.1 x.2.2⟩
def C3.d:Fd := { nt:=28,nv:=2,nm:=[0,1,2,3,5],res:=[4],ls:=[(5,B8.p)],rf:=true }
theorem B8.s:LK Try.prog Try.f13 C3.d 5 B8.p:=mkL sO [] (by kernel_rfl) (λ _=>trivial) trivial (by kernel_rfl) (λ _=>rfl) (λ k x=>by kernel_rfl)
theorem C3.s (k:Nat):A6 Try.prog 13 (C3.e k):=mkS (D:=C3.d) (k:=k) sO [5] Try.func13 trivial ⟨B8.s,trivial⟩ (by kernel_rfl) (by kernel_rfl) (λ x=>by kernel_rfl)
def Dh.e (k:Nat):Ent:=⟨2,[(.val true t42),(.val false (.i .i64))],[(.one,(.i .i64))],λ x=>Dh k x.1 x.2⟩
def Dh.d:Fd := { nt:=36,nv:=2,nm:=[0,1,2,3],res:=[4],cs:=λ k=>[(9,Em.e k),(10,Er.e k),(11,Bb.e k),(12,As.e k),(13,C3.e k)],rf:=true }
theorem Dh.s (k:Nat):A6 Try.prog 4 (Dh.e k):=mkS (D:=Dh.d) (k:=k) sO [] Try.func4 ⟨Em.s k,Er.s k,Bb.s k,As.s k,C3.s k,trivial⟩ trivial (by kernel_rfl) (by kernel_rfl) (λ x=>by kernel_rfl)
def Dw.e (k:Nat):Ent:=⟨2,[(.val false t0),(.val false .s)],[(.one,.b)],λ x=>Dw k x.1 x.2⟩
def Ce.p:LF:=⟨⟨[],[(0,t0),(1,.s),(5,(.i .i64))]⟩,[(.ret,⟨[],[(4,.b)]⟩),((.exit 0),⟨[],[]⟩)],λ k x=>Ce k x.1 x.2.1 x.2.2⟩
def Dw.d:Fd := { nt:=18,nv:=2,nm:=[0,1,2,3,5],res:=[4],ls:=[(2,Ce.p)],rf:=true }
theorem Ce.s:LK Try.prog Try.f14 Dw.d 2 Ce.p:=mkL sO [] (by kernel_rfl) (λ _=>trivial) trivial (by kernel_rfl) (λ _=>rfl) (λ k x=>by kernel_rfl)
theorem Dw.s (k:Nat):A6 Try.prog 14 (Dw.e k):=mkS (D:=Dw.d) (k:=k) sO [2] Try.func14 trivial ⟨Ce.s,trivial⟩ (by kernel_rfl) (by kernel_rfl) (λ x=>by kernel_rfl)
def Fp.e (k:Nat):Ent:=⟨2,[(.val false t11),(.val false .s)],[(.one,(.i .i64))],λ x=>Fp k x.1 x.2⟩
def Di.p:LF:=⟨⟨[],[(0,t11),(1,.s),(5,(.i .i64))]⟩,[(.ret,⟨[],[(4,(.i .i64))]⟩),((.exit 0),⟨[],[]⟩)],λ k x=>Di k x.1 x.2.1 x.2.2⟩
def Fp.d:Fd := { nt:=20,nv:=2,nm:=[0,1,2,3,5],res:=[4],ls:=[(2,Di.p)] }
theorem Di.s:LK Try.prog Try.f33 Fp.d 2 Di.p:=mkL sO [] (by kernel_rfl) (λ _=>trivial) trivial (by kernel_rfl) (λ _=>rfl) (λ k x=>by kernel_rfl)
theorem Fp.s (k:Nat):A6 Try.prog 33 (Fp.e k):=mkS (D:=Fp.d) (k:=k) sO [2] Try.func33 trivial ⟨Di.s,trivial⟩ (by kernel_rfl) (by kernel_rfl) (λ x=>by kernel_rfl)
def Aw.e (k:Nat):Ent:=⟨2,[(.val false t2),(.val false (.i .i64))],[(.one,(.i .i64)),(.one,(.i .i64)),(.one,.b)],λ x=>Aw k x.1 x.2⟩
def B9.p:LF:=⟨⟨[],[(0,t2),(1,(.i .i64)),(7,(.i .i64)),(8,(.i .i64))]⟩,[(.ret,⟨[],[(4,(.i .i64)),(5,(.i .i64)),(6,.b)]⟩),((.exit 0),⟨[],[]⟩)],λ k x=>B9 k x.1 x.2.1 x.2.2.1 x.2.2.2⟩
def Aw.d:Fd := { nt:=64,nv:=2,nm:=[0,1,2,3,7,8,9],res:=[4,5,6],ls:=[(3,B9.p)] }
theorem B9.s:LK Try.prog Try.f52 Aw.d 3 B9.p:=mkL sO [] (by kernel_rfl) (λ _=>trivial) trivial (by kernel_rfl) (λ _=>rfl) (λ k x=>by kernel_rfl)
theorem Aw.s (k:Nat):A6 Try.prog 52 (Aw.e k):=mkS (D:=Aw.d) (k:=k) sO [3] Try.func52 trivial ⟨B9.s,trivial⟩ (by kernel_rfl) (by kernel_rfl) (λ x=>by kernel_rfl)
def Bo.e (k:Nat):Ent:=⟨2,[(.val false t2),(.val false (.i .i64))],[(.agg,t14),(.one,(.i .i64)),(.one,.b)],λ x=>Bo k x.1 x.2⟩
def Bo.d:Fd := { nt:=49,nv:=2,nm:=[0,1,2,3,7,8,9,10,11,12,13,14,15],res:=[5,6],cs:=λ k=>[(52,Aw.e k)] }
theorem Bo.s (k:Nat):A6 Try.prog 51 (Bo.e k):=mkS (D:=Bo.d) (k:=k) sO [] Try.func51 ⟨Aw.s k,trivial⟩ trivial (by kernel_rfl) (by kernel_rfl) (λ x=>by kernel_rfl)
def Dj.e (k:Nat):Ent:=⟨2,[(.val false t2),(.val false (.i .i64))],[(.one,.s),(.one,(.i .i64)),(.one,.b)],λ x=>Dj k x.1 x.2⟩
def Dj.d:Fd := { nt:=37,nv:=2,nm:=[0,1,2,3,7,8,9],res:=[4,5,6],cs:=λ k=>[(52,Aw.e k)] }
theorem Dj.s (k:Nat):A6 Try.prog 53 (Dj.e k):=mkS (D:=Dj.d) (k:=k) sO [] Try.func53 ⟨Aw.s k,trivial⟩ trivial (by kernel_rfl) (by kernel_rfl) (λ x=>by kernel_rfl)
def Fb.e (k:Nat):Ent:=⟨3,[(.val false (.i .i64)),(.val false (.i .i64)),(.val false (.i .i64))],[(.one,.b)],λ x=>Fb x.1 x.2.1 x.2.2⟩
def Fb.d:Fd := { nt:=15,nv:=3,nm:=[0,1,2,3,4,5],res:=[6] }
theorem Fb.s (k:Nat):A6 Try.prog 93 (Fb.e k):=mkS (D:=Fb.d) (k:=k) sO [] Try.func93 trivial trivial (by kernel_rfl) (by kernel_rfl) (λ x=>by kernel_rfl)
def Dk.e (k:Nat):Ent:=⟨1,[(.val true t14)],[(.one,.b)],λ x=>Dk x⟩
def Dk.d:Fd := { nt:=16,nv:=1,nm:=[0,1],res:=[2],cs:=λ k=>[(93,Fb.e k)] }
theorem Dk.s (k:Nat):A6 Try.prog 72 (Dk.e k):=mkS (D:=Dk.d) (k:=k) sO [] Try.func72 ⟨Fb.s k,trivial⟩ trivial (by kernel_rfl) (by kernel_rfl) (λ x=>by kernel_rfl)
def D7.e (k:Nat):Ent:=⟨1,[(.val true t23)],[(.one,.b)],λ x=>D7 x⟩
def D7.d:Fd := { nt:=23,nv:=1,nm:=[0,1],res:=[2],cs:=λ k=>[(72,Dk.e k)] }
theorem D7.s (k:Nat):A6 Try.prog 54 (D7.e k):=mkS (D:=D7.d) (k:=k) sO [] Try.func54 ⟨Dk.s k,trivial⟩ trivial (by kernel_rfl) (by kernel_rfl) (λ x=>by kernel_rfl)
def Ax.e (k:Nat):Ent:=⟨2,[(.val false t2),(.val false (.i .i64))],[(.one,t3)],λ x=>Ax k x.1 x.2⟩
def Ar.p:LF:=⟨⟨[],[(1,(.i .i64)),(5,t3)]⟩,[((.exit 0),⟨[],[(1,(.i .i64)),(5,t3)]⟩)],λ k x=>Ar k x.1 x.2⟩
def Ax.d:Fd := { nt:=29,nv:=2,nm:=[0,1,2,3,5],res:=[4],ls:=[(6,Ar.p)] }
theorem Ar.s:LK Try.prog Try.f74 Ax.d 6 Ar.p:=mkL sO [] (by kernel_rfl) (λ _=>trivial) trivial (by kernel_rfl) (λ _=>rfl) (λ k x=>by kernel_rfl)
theorem Ax.s (k:Nat):A6 Try.prog 74 (Ax.e k):=mkS (D:=Ax.d) (k:=k) sO [6] Try.func74 trivial ⟨Ar.s,trivial⟩ (by kernel_rfl) (by kernel_rfl) (λ x=>by kernel_rfl)
def Dl.e (k:Nat):Ent:=⟨2,[(.val false t2),(.val false .s)],[(.one,t3)],λ x=>Dl k x.1 x.2⟩
def Dl.d:Fd := { nt:=11,nv:=2,nm:=[0,1,2,3],res:=[4],cs:=λ k=>[(74,Ax.e k)] }
theorem Dl.s (k:Nat):A6 Try.prog 73 (Dl.e k):=mkS (D:=Dl.d) (k:=k) sO [] Try.func73 ⟨Ax.s k,trivial⟩ trivial (by kernel_rfl) (by kernel_rfl) (λ x=>by kernel_rfl)
def Dm.e (k:Nat):Ent:=⟨2,[(.val false t2),(.val true t14)],[(.one,t3)],λ x=>Dm k x.1 x.2⟩
def Dm.d:Fd := { nt:=15,nv:=2,nm:=[0,1,2,3],res:=[4],cs:=λ k=>[(74,Ax.e k)] }
theorem Dm.s (k:Nat):A6 Try.prog 75 (Dm.e k):=mkS (D:=Dm.d) (k:=k) sO [] Try.func75 ⟨Ax.s k,trivial⟩ trivial (by kernel_rfl) (by kernel_rfl) (λ x=>by kernel_rfl)
def Ev.e (k:Nat):Ent:=⟨1,[(.val false .b)],[(.one,(.i .i64))],λ x=>Ev x⟩
def Ev.d:Fd := { nt:=4,nv:=1,nm:=[0,1],res:=[2] }
theorem Ev.s (k:Nat):A6 Try.prog 76 (Ev.e k):=mkS (D:=Ev.d) (k:=k) sO [] Try.func76 trivial trivial (by kernel_rfl) (by kernel_rfl) (λ x=>by kernel_rfl)
def G7.e (k:Nat):Ent:=⟨1,[(.val false t2)],[(.one,(.i .i64))],λ x=>G7 k x⟩
def Dx.p:LF:=⟨⟨[],[(0,t2),(3,(.i .i64)),(4,(.i .i64)),(5,(.i .i64))]⟩,[((.exit 2),⟨[],[(0,t2),(3,(.i .i64)),(4,(.i .i64))]⟩)],λ k x=>Dx k x.1 x.2.1 x.2.2.1 x.2.2.2⟩
def Ed.p:LF:=⟨⟨[],[(0,t2),(3,(.i .i64)),(4,(.i .i64))]⟩,[((.exit 0),⟨[],[(3,(.i .i64))]⟩)],λ k x=>Ed k x.1 x.2.1 x.2.2⟩
def G7.d:Fd := { nt:=34,nv:=1,nm:=[0,1,3,4,5,6],res:=[2],ls:=[(7,Dx.p),(3,Ed.p)] }
theorem Dx.s:LK Try.prog Try.f77 G7.d 7 Dx.p:=mkL sO [] (by kernel_rfl) (λ _=>trivial) trivial (by kernel_rfl) (λ _=>rfl) (λ k x=>by kernel_rfl)
theorem Ed.s:LK Try.prog Try.f77 G7.d 3 Ed.p:=mkL sO [7] (by kernel_rfl) (λ _=>trivial) ⟨Dx.s,trivial⟩ (by kernel_rfl) (λ _=>rfl) (λ k x=>by kernel_rfl)
theorem G7.s (k:Nat):A6 Try.prog 77 (G7.e k):=mkS (D:=G7.d) (k:=k) sO [3] Try.func77 trivial ⟨Ed.s,trivial⟩ (by kernel_rfl) (by kernel_rfl) (λ x=>by kernel_rfl)
def Dn.e (k:Nat):Ent:=⟨1,[(.val true t23)],[(.one,t3)],λ x=>Dn k x⟩
def Dn.d:Fd := { nt:=37,nv:=1,nm:=[0,1,3,4],res:=[2],cs:=λ k=>[(54,D7.e k),(73,Dl.e k),(74,Ax.e k),(75,Dm.e k),(76,Ev.e k),(77,G7.e k)] }
theorem Dn.s (k:Nat):A6 Try.prog 55 (Dn.e k):=mkS (D:=Dn.d) (k:=k) sO [] Try.func55 ⟨D7.s k,Dl.s k,Ax.s k,Dm.s k,Ev.s k,G7.s k,trivial⟩ trivial (by kernel_rfl) (by kernel_rfl) (λ x=>by kernel_rfl)
def Dp.e (k:Nat):Ent:=⟨1,[(.val false t2)],[(.agg,t24),(.one,.b)],λ x=>Dp k x⟩
def Dp.d:Fd := { nt:=76,nv:=1,nm:=[0,1,4,5,6,7,8,9,10,11,12,13],res:=[3],cs:=λ k=>[(51,Bo.e k),(52,Aw.e k),(53,Dj.e k),(54,D7.e k),(55,Dn.e k)],mv:=[75] }
theorem Dp.s (k:Nat):A6 Try.prog 34 (Dp.e k):=mkS (D:=Dp.d) (k:=k) sO [] Try.func34 ⟨Bo.s k,Aw.s k,Dj.s k,D7.s k,Dn.s k,trivial⟩ trivial (by kernel_rfl) (by kernel_rfl) (λ x=>by kernel_rfl)
def Cf.e (k:Nat):Ent:=⟨2,[(.val true t14),(.val true t14)],[(.one,.b)],λ x=>Cf x.1 x.2⟩
def Cf.d:Fd := { nt:=32,nv:=2,nm:=[0,1,2,3],res:=[4] }
theorem Cf.s (k:Nat):A6 Try.prog 56 (Cf.e k):=mkS (D:=Cf.d) (k:=k) sO [] Try.func56 trivial trivial (by kernel_rfl) (by kernel_rfl) (λ x=>by kernel_rfl)
def Fc.e (k:Nat):Ent:=⟨2,[(.val true t23),(.val true t23)],[(.one,.b)],λ x=>Fc x.1 x.2⟩
def Fc.d:Fd := { nt:=10,nv:=2,nm:=[0,1,2,3],res:=[4],cs:=λ k=>[(56,Cf.e k)] }
theorem Fc.s (k:Nat):A6 Try.prog 35 (Fc.e k):=mkS (D:=Fc.d) (k:=k) sO [] Try.func35 ⟨Cf.s k,trivial⟩ trivial (by kernel_rfl) (by kernel_rfl) (λ x=>by kernel_rfl)
def Bc.e (k:Nat):Ent:=⟨2,[(.val true t41),(.val true t32)],[(.one,.b)],λ x=>Bc k x.1 x.2⟩
def Ay.p:LF:=⟨⟨[(2,(.bp 2 0 0)),(3,(.bp 3 0 0)),(3999,(.hd 9)),(4999,(.hd 7))],[(5,(.i .i64)),(3000,t41),(4000,t32)]⟩,[(.ret,⟨[],[(4,.b)]⟩),((.exit 0),⟨[],[]⟩)],λ k x=>Ay k x.1 x.2.1 x.2.2⟩
def Bc.d:Fd := { nt:=47,nv:=2,nm:=[0,1,2,3,5,6,7,8,9],res:=[4],cs:=λ k=>[(33,Fp.e k),(34,Dp.e k),(35,Fc.e k)],ls:=[(2,Ay.p)],rf:=true }
theorem Bc.a (k:Nat):Mg Try.prog (Bc.d.cs k):=⟨Fp.s k,Dp.s k,Fc.s k,trivial⟩
theorem Ay.s:LK Try.prog Try.f15 Bc.d 2 Ay.p:=mkL sO [] (by kernel_rfl) Bc.a trivial (by kernel_rfl) (λ _=>rfl) (λ k x=>by kernel_rfl)
theorem Bc.s (k:Nat):A6 Try.prog 15 (Bc.e k):=mkS (D:=Bc.d) (k:=k) sO [2] Try.func15 (Bc.a k) ⟨Ay.s,trivial⟩ (by kernel_rfl) (by kernel_rfl) (λ x=>by kernel_rfl)
def E4.e (k:Nat):Ent:=⟨1,[(.val true t41)],[(.one,.b)],λ x=>E4 k x⟩
def Cw.p:LF:=⟨⟨[(1,(.bp 1 0 0)),(2999,(.hd 9))],[(3,(.i .i64)),(2000,t41)]⟩,[(.ret,⟨[],[(2,.b)]⟩),((.exit 0),⟨[],[]⟩)],λ k x=>Cw k x.1 x.2⟩
def E4.d:Fd := { nt:=33,nv:=1,nm:=[0,1,3,4],res:=[2],cs:=λ k=>[(14,Dw.e k),(15,Bc.e k)],ls:=[(2,Cw.p)],rf:=true }
theorem E4.a (k:Nat):Mg Try.prog (E4.d.cs k):=⟨Dw.s k,Bc.s k,trivial⟩
theorem Cw.s:LK Try.prog Try.f5 E4.d 2 Cw.p:=mkL sO [] (by kernel_rfl) E4.a trivial (by kernel_rfl) (λ _=>rfl) (λ k x=>by kernel_rfl)
theorem E4.s (k:Nat):A6 Try.prog 5 (E4.e k):=mkS (D:=E4.d) (k:=k) sO [2] Try.func5 (E4.a k) ⟨Cw.s,trivial⟩ (by kernel_rfl) (by kernel_rfl) (λ x=>by kernel_rfl)
def Fs.e (k:Nat):Ent:=⟨1,[(.val true t14)],[(.agg,t14)],λ x=>Fs x⟩
def Fs.d:Fd := { nt:=14,nv:=1,nm:=[0,1,3],res:=[],rf:=true }
theorem Fs.s (k:Nat):A6 Try.prog 36 (Fs.e k):=mkS (D:=Fs.d) (k:=k) sO [] Try.func36 trivial trivial (by kernel_rfl) (by kernel_rfl) (λ x=>by kernel_rfl)
def C9.e (k:Nat):Ent:=⟨1,[(.val false t21)],[(.one,t20)],λ x=>C9 k x⟩
def Cg.p:LF:=⟨⟨[],[(0,t21),(3,t20),(4,(.i .i64))]⟩,[((.exit 0),⟨[],[(3,t20)]⟩)],λ k x=>Cg k x.1 x.2.1 x.2.2⟩
def C9.d:Fd := { nt:=23,nv:=1,nm:=[0,1,3,4],res:=[2],cs:=λ k=>[(36,Fs.e k)],ls:=[(3,Cg.p)],rf:=true }
theorem C9.a (k:Nat):Mg Try.prog (C9.d.cs k):=⟨Fs.s k,trivial⟩
theorem Cg.s:LK Try.prog Try.f16 C9.d 3 Cg.p:=mkL sO [] (by kernel_rfl) C9.a trivial (by kernel_rfl) (λ _=>rfl) (λ k x=>by kernel_rfl)
theorem C9.s (k:Nat):A6 Try.prog 16 (C9.e k):=mkS (D:=C9.d) (k:=k) sO [3] Try.func16 (C9.a k) ⟨Cg.s,trivial⟩ (by kernel_rfl) (by kernel_rfl) (λ x=>by kernel_rfl)
def Dy.e (k:Nat):Ent:=⟨1,[(.val false t4)],[(.one,t5)],λ x=>Dy k x⟩
def Ch.p:LF:=⟨⟨[],[(0,t4),(3,t5),(4,(.i .i64))]⟩,[((.exit 0),⟨[],[(3,t5)]⟩)],λ k x=>Ch k x.1 x.2.1 x.2.2⟩
def Dy.d:Fd := { nt:=22,nv:=1,nm:=[0,1,3,4],res:=[2],ls:=[(3,Ch.p)],rf:=true }
theorem Ch.s:LK Try.prog Try.f78 Dy.d 3 Ch.p:=mkL sO [] (by kernel_rfl) (λ _=>trivial) trivial (by kernel_rfl) (λ _=>rfl) (λ k x=>by kernel_rfl)
theorem Dy.s (k:Nat):A6 Try.prog 78 (Dy.e k):=mkS (D:=Dy.d) (k:=k) sO [3] Try.func78 trivial ⟨Ch.s,trivial⟩ (by kernel_rfl) (by kernel_rfl) (λ x=>by kernel_rfl)
def Ew.e (k:Nat):Ent:=⟨1,[(.val true t4)],[(.agg,t5)],λ x=>Ew k x⟩
def Ew.d:Fd := { nt:=9,nv:=1,nm:=[0,1,3],res:=[],cs:=λ k=>[(78,Dy.e k)],mv:=[8],rf:=true }
theorem Ew.s (k:Nat):A6 Try.prog 57 (Ew.e k):=mkS (D:=Ew.d) (k:=k) sO [] Try.func57 ⟨Dy.s k,trivial⟩ trivial (by kernel_rfl) (by kernel_rfl) (λ x=>by kernel_rfl)
def Bd.e (k:Nat):Ent:=⟨1,[(.val false t7)],[(.one,t9)],λ x=>Bd k x⟩
def Bp.p:LF:=⟨⟨[],[(0,t7),(3,t9),(4,(.i .i64))]⟩,[((.exit 0),⟨[],[(3,t9)]⟩)],λ k x=>Bp k x.1 x.2.1 x.2.2⟩
def Bd.d:Fd := { nt:=23,nv:=1,nm:=[0,1,3,4],res:=[2],cs:=λ k=>[(57,Ew.e k)],ls:=[(3,Bp.p)],rf:=true }
theorem Bd.a (k:Nat):Mg Try.prog (Bd.d.cs k):=⟨Ew.s k,trivial⟩
theorem Bp.s:LK Try.prog Try.f37 Bd.d 3 Bp.p:=mkL sO [] (by kernel_rfl) Bd.a trivial (by kernel_rfl) (λ _=>rfl) (λ k x=>by kernel_rfl)
theorem Bd.s (k:Nat):A6 Try.prog 37 (Bd.e k):=mkS (D:=Bd.d) (k:=k) sO [3] Try.func37 (Bd.a k) ⟨Bp.s,trivial⟩ (by kernel_rfl) (by kernel_rfl) (λ x=>by kernel_rfl)
def Ey.e (k:Nat):Ent:=⟨1,[(.val true t15)],[(.agg,t17)],λ x=>Ey k x⟩
def Ey.d:Fd := { nt:=12,nv:=1,nm:=[0,1,3],res:=[],cs:=λ k=>[(37,Bd.e k)],mv:=[11],rf:=true }
theorem Ey.s (k:Nat):A6 Try.prog 17 (Ey.e k):=mkS (D:=Ey.d) (k:=k) sO [] Try.func17 ⟨Bd.s k,trivial⟩ trivial (by kernel_rfl) (by kernel_rfl) (λ x=>by kernel_rfl)
def Br.e (k:Nat):Ent:=⟨1,[(.val false t2)],[(.one,t3)],λ x=>Br k x⟩
def Bq.p:LF:=⟨⟨[],[(0,t2),(3,t3),(4,(.i .i64))]⟩,[((.exit 0),⟨[],[(3,t3)]⟩)],λ k x=>Bq k x.1 x.2.1 x.2.2⟩
def Br.d:Fd := { nt:=22,nv:=1,nm:=[0,1,3,4],res:=[2],ls:=[(3,Bq.p)],rf:=true }
theorem Bq.s:LK Try.prog Try.f81 Br.d 3 Bq.p:=mkL sO [] (by kernel_rfl) (λ _=>trivial) trivial (by kernel_rfl) (λ _=>rfl) (λ k x=>by kernel_rfl)
theorem Br.s (k:Nat):A6 Try.prog 81 (Br.e k):=mkS (D:=Br.d) (k:=k) sO [3] Try.func81 trivial ⟨Bq.s,trivial⟩ (by kernel_rfl) (by kernel_rfl) (λ x=>by kernel_rfl)
def E8.e (k:Nat):Ent:=⟨1,[(.val true t10)],[(.agg,(.pr .s t3))],λ x=>E8 k x⟩
def E8.d:Fd := { nt:=12,nv:=1,nm:=[0,1,3],res:=[],cs:=λ k=>[(81,Br.e k)],mv:=[11],rf:=true }
theorem E8.s (k:Nat):A6 Try.prog 94 (E8.e k):=mkS (D:=E8.d) (k:=k) sO [] Try.func94 ⟨Br.s k,trivial⟩ trivial (by kernel_rfl) (by kernel_rfl) (λ x=>by kernel_rfl)
def Am.e (k:Nat):Ent:=⟨1,[(.val false t13)],[(.one,t12)],λ x=>Am k x⟩
def B4.p:LF:=⟨⟨[],[(0,t13),(3,t12),(4,(.i .i64))]⟩,[((.exit 0),⟨[],[(3,t12)]⟩)],λ k x=>B4 k x.1 x.2.1 x.2.2⟩
def Am.d:Fd := { nt:=23,nv:=1,nm:=[0,1,3,4],res:=[2],cs:=λ k=>[(94,E8.e k)],ls:=[(3,B4.p)],rf:=true }
theorem Am.a (k:Nat):Mg Try.prog (Am.d.cs k):=⟨E8.s k,trivial⟩
theorem B4.s:LK Try.prog Try.f79 Am.d 3 B4.p:=mkL sO [] (by kernel_rfl) Am.a trivial (by kernel_rfl) (λ _=>rfl) (λ k x=>by kernel_rfl)
theorem Am.s (k:Nat):A6 Try.prog 79 (Am.e k):=mkS (D:=Am.d) (k:=k) sO [3] Try.func79 (Am.a k) ⟨B4.s,trivial⟩ (by kernel_rfl) (by kernel_rfl) (λ x=>by kernel_rfl)
def Ez.e (k:Nat):Ent:=⟨1,[(.val true t28)],[(.agg,t27)],λ x=>Ez k x⟩
def Ez.d:Fd := { nt:=13,nv:=1,nm:=[0,1,3],res:=[],cs:=λ k=>[(79,Am.e k)],mv:=[12],rf:=true }
theorem Ez.s (k:Nat):A6 Try.prog 58 (Ez.e k):=mkS (D:=Ez.d) (k:=k) sO [] Try.func58 ⟨Am.s k,trivial⟩ trivial (by kernel_rfl) (by kernel_rfl) (λ x=>by kernel_rfl)
def An.e (k:Nat):Ent:=⟨1,[(.val true t14)],[(.agg,t14)],λ x=>An x⟩
def An.d:Fd := { nt:=14,nv:=1,nm:=[0,1,3],res:=[],rf:=true }
theorem An.s (k:Nat):A6 Try.prog 19 (An.e k):=mkS (D:=An.d) (k:=k) sO [] Try.func19 trivial trivial (by kernel_rfl) (by kernel_rfl) (λ x=>by kernel_rfl)
def Ft.e (k:Nat):Ent:=⟨1,[(.val true t25)],[(.agg,t25)],λ x=>Ft x⟩
def Ft.d:Fd := { nt:=18,nv:=1,nm:=[0,1,3],res:=[],cs:=λ k=>[(19,An.e k)],rf:=true }
theorem Ft.s (k:Nat):A6 Try.prog 80 (Ft.e k):=mkS (D:=Ft.d) (k:=k) sO [] Try.func80 ⟨An.s k,trivial⟩ trivial (by kernel_rfl) (by kernel_rfl) (λ x=>by kernel_rfl)
def Bs.e (k:Nat):Ent:=⟨1,[(.val false t29)],[(.one,t31)],λ x=>Bs k x⟩
def Ci.p:LF:=⟨⟨[],[(0,t29),(3,t31),(4,(.i .i64))]⟩,[((.exit 0),⟨[],[(3,t31)]⟩)],λ k x=>Ci k x.1 x.2.1 x.2.2⟩
def Bs.d:Fd := { nt:=23,nv:=1,nm:=[0,1,3,4],res:=[2],cs:=λ k=>[(80,Ft.e k)],ls:=[(3,Ci.p)],rf:=true }
theorem Bs.a (k:Nat):Mg Try.prog (Bs.d.cs k):=⟨Ft.s k,trivial⟩
theorem Ci.s:LK Try.prog Try.f59 Bs.d 3 Ci.p:=mkL sO [] (by kernel_rfl) Bs.a trivial (by kernel_rfl) (λ _=>rfl) (λ k x=>by kernel_rfl)
theorem Bs.s (k:Nat):A6 Try.prog 59 (Bs.e k):=mkS (D:=Bs.d) (k:=k) sO [3] Try.func59 (Bs.a k) ⟨Ci.s,trivial⟩ (by kernel_rfl) (by kernel_rfl) (λ x=>by kernel_rfl)
def F3.e (k:Nat):Ent:=⟨1,[(.val true t37)],[(.agg,(.pr (.i .i64) (.pr t27 (.pr t31 t31))))],λ x=>F3 k x⟩
def F3.d:Fd := { nt:=20,nv:=1,nm:=[0,1,3],res:=[],cs:=λ k=>[(58,Ez.e k),(59,Bs.e k)],mv:=[19],rf:=true }
theorem F3.s (k:Nat):A6 Try.prog 38 (F3.e k):=mkS (D:=F3.d) (k:=k) sO [] Try.func38 ⟨Ez.s k,Bs.s k,trivial⟩ trivial (by kernel_rfl) (by kernel_rfl) (λ x=>by kernel_rfl)
def Be.e (k:Nat):Ent:=⟨1,[(.val false t40)],[(.one,t39)],λ x=>Be k x⟩
def Bt.p:LF:=⟨⟨[],[(0,t40),(3,t39),(4,(.i .i64))]⟩,[((.exit 0),⟨[],[(3,t39)]⟩)],λ k x=>Bt k x.1 x.2.1 x.2.2⟩
def Be.d:Fd := { nt:=23,nv:=1,nm:=[0,1,3,4],res:=[2],cs:=λ k=>[(38,F3.e k)],ls:=[(3,Bt.p)],rf:=true }
theorem Be.a (k:Nat):Mg Try.prog (Be.d.cs k):=⟨F3.s k,trivial⟩
theorem Bt.s:LK Try.prog Try.f18 Be.d 3 Bt.p:=mkL sO [] (by kernel_rfl) Be.a trivial (by kernel_rfl) (λ _=>rfl) (λ k x=>by kernel_rfl)
theorem Be.s (k:Nat):A6 Try.prog 18 (Be.e k):=mkS (D:=Be.d) (k:=k) sO [3] Try.func18 (Be.a k) ⟨Bt.s,trivial⟩ (by kernel_rfl) (by kernel_rfl) (λ x=>by kernel_rfl)
def Ee.e (k:Nat):Ent:=⟨1,[(.val true t23)],[(.agg,t24)],λ x=>Ee k x⟩
def Ee.d:Fd := { nt:=16,nv:=1,nm:=[0,1,3],res:=[],cs:=λ k=>[(19,An.e k),(81,Br.e k)],mv:=[15],rf:=true }
theorem Ee.s (k:Nat):A6 Try.prog 60 (Ee.e k):=mkS (D:=Ee.d) (k:=k) sO [] Try.func60 ⟨An.s k,Br.s k,trivial⟩ trivial (by kernel_rfl) (by kernel_rfl) (λ x=>by kernel_rfl)
def E9.e (k:Nat):Ent:=⟨1,[(.val true t32)],[(.agg,(.pr .s (.pr t24 .b)))],λ x=>E9 k x⟩
def E9.d:Fd := { nt:=15,nv:=1,nm:=[0,1,3],res:=[],cs:=λ k=>[(60,Ee.e k)],mv:=[14],rf:=true }
theorem E9.s (k:Nat):A6 Try.prog 39 (E9.e k):=mkS (D:=E9.d) (k:=k) sO [] Try.func39 ⟨Ee.s k,trivial⟩ trivial (by kernel_rfl) (by kernel_rfl) (λ x=>by kernel_rfl)
def Au.e (k:Nat):Ent:=⟨1,[(.val false t33)],[(.one,t35)],λ x=>Au k x⟩
def B5.p:LF:=⟨⟨[],[(0,t33),(3,t35),(4,(.i .i64))]⟩,[((.exit 0),⟨[],[(3,t35)]⟩)],λ k x=>B5 k x.1 x.2.1 x.2.2⟩
def Au.d:Fd := { nt:=23,nv:=1,nm:=[0,1,3,4],res:=[2],cs:=λ k=>[(39,E9.e k)],ls:=[(3,B5.p)],rf:=true }
theorem Au.a (k:Nat):Mg Try.prog (Au.d.cs k):=⟨E9.s k,trivial⟩
theorem B5.s:LK Try.prog Try.f20 Au.d 3 B5.p:=mkL sO [] (by kernel_rfl) Au.a trivial (by kernel_rfl) (λ _=>rfl) (λ k x=>by kernel_rfl)
theorem Au.s (k:Nat):A6 Try.prog 20 (Au.e k):=mkS (D:=Au.d) (k:=k) sO [3] Try.func20 (Au.a k) ⟨B5.s,trivial⟩ (by kernel_rfl) (by kernel_rfl) (λ x=>by kernel_rfl)
def C4.e (k:Nat):Ent:=⟨1,[(.val false t0)],[(.one,t1)],λ x=>C4 k x⟩
def Az.p:LF:=⟨⟨[],[(0,t0),(3,t1),(4,(.i .i64))]⟩,[((.exit 0),⟨[],[(3,t1)]⟩)],λ k x=>Az k x.1 x.2.1 x.2.2⟩
def C4.d:Fd := { nt:=22,nv:=1,nm:=[0,1,3,4],res:=[2],ls:=[(3,Az.p)],rf:=true }
theorem Az.s:LK Try.prog Try.f21 C4.d 3 Az.p:=mkL sO [] (by kernel_rfl) (λ _=>trivial) trivial (by kernel_rfl) (λ _=>rfl) (λ k x=>by kernel_rfl)
theorem C4.s (k:Nat):A6 Try.prog 21 (C4.e k):=mkS (D:=C4.d) (k:=k) sO [3] Try.func21 trivial ⟨Az.s,trivial⟩ (by kernel_rfl) (by kernel_rfl) (λ x=>by kernel_rfl)
def Cy.e (k:Nat):Ent:=⟨1,[(.val true t42)],[(.agg,(.pr t20 (.pr t17 (.pr t39 (.pr t14 (.pr t35 t1))))))],λ x=>Cy k x⟩
def Cy.d:Fd := { nt:=29,nv:=1,nm:=[0,1,3],res:=[],cs:=λ k=>[(16,C9.e k),(17,Ey.e k),(18,Be.e k),(19,An.e k),(20,Au.e k),(21,C4.e k)],mv:=[28],rf:=true }
theorem Cy.s (k:Nat):A6 Try.prog 6 (Cy.e k):=mkS (D:=Cy.d) (k:=k) sO [] Try.func6 ⟨C9.s k,Ey.s k,Be.s k,An.s k,Au.s k,C4.s k,trivial⟩ trivial (by kernel_rfl) (by kernel_rfl) (λ x=>by kernel_rfl)
def Dc.e (k:Nat):Ent:=⟨2,[(.val false t0),(.val false .s)],[(.one,.b)],λ x=>Dc k x.1 x.2⟩
def Bu.p:LF:=⟨⟨[],[(1,.s),(7,t0),(8,(.i .i64)),(9,(.i .i64))]⟩,[(.ret,⟨[],[(4,.b)]⟩),((.exit 0),⟨[],[]⟩)],λ k x=>Bu k x.1 x.2.1 x.2.2.1 x.2.2.2⟩
def Dc.d:Fd := { nt:=17,nv:=2,nm:=[0,1,2,3,5,6],res:=[4],ls:=[(2,Bu.p)],rf:=true }
theorem Bu.s:LK Try.prog Try.f22 Dc.d 2 Bu.p:=mkL sO [] (by kernel_rfl) (λ _=>trivial) trivial (by kernel_rfl) (λ _=>rfl) (λ k x=>by kernel_rfl)
theorem Dc.s (k:Nat):A6 Try.prog 22 (Dc.e k):=mkS (D:=Dc.d) (k:=k) sO [2] Try.func22 trivial ⟨Bu.s,trivial⟩ (by kernel_rfl) (by kernel_rfl) (λ x=>by kernel_rfl)
def Ha.e (k:Nat):Ent:=⟨2,[(.val false t11),(.val false .s)],[(.one,(.i .i64))],λ x=>Ha k x.1 x.2⟩
def Fe.p:LF:=⟨⟨[],[(1,.s),(7,t11),(8,(.i .i64)),(9,(.i .i64))]⟩,[(.ret,⟨[],[(4,(.i .i64))]⟩),((.exit 0),⟨[],[]⟩)],λ k x=>Fe k x.1 x.2.1 x.2.2.1 x.2.2.2⟩
def Ha.d:Fd := { nt:=20,nv:=2,nm:=[0,1,2,3,5,6],res:=[4],ls:=[(2,Fe.p)] }
theorem Fe.s:LK Try.prog Try.f40 Ha.d 2 Fe.p:=mkL sO [] (by kernel_rfl) (λ _=>trivial) trivial (by kernel_rfl) (λ _=>rfl) (λ k x=>by kernel_rfl)
theorem Ha.s (k:Nat):A6 Try.prog 40 (Ha.e k):=mkS (D:=Ha.d) (k:=k) sO [2] Try.func40 trivial ⟨Fe.s,trivial⟩ (by kernel_rfl) (by kernel_rfl) (λ x=>by kernel_rfl)
def Cu.e (k:Nat):Ent:=⟨2,[(.val false t2),(.val false (.i .i64))],[(.one,(.i .i64)),(.one,(.i .i64)),(.one,.b)],λ x=>Cu k x.1 x.2⟩
def C5.p:LF:=⟨⟨[],[(0,t2),(1,(.i .i64)),(7,(.i .i64)),(8,(.i .i64))]⟩,[(.ret,⟨[],[(4,(.i .i64)),(5,(.i .i64)),(6,.b)]⟩),((.exit 0),⟨[],[]⟩)],λ k x=>C5 k x.1 x.2.1 x.2.2.1 x.2.2.2⟩
def Cu.d:Fd := { nt:=57,nv:=2,nm:=[0,1,2,3,7,8,9],res:=[4,5,6],ls:=[(3,C5.p)] }
theorem C5.s:LK Try.prog Try.f95 Cu.d 3 C5.p:=mkL sO [] (by kernel_rfl) (λ _=>trivial) trivial (by kernel_rfl) (λ _=>rfl) (λ k x=>by kernel_rfl)
theorem Cu.s (k:Nat):A6 Try.prog 95 (Cu.e k):=mkS (D:=Cu.d) (k:=k) sO [3] Try.func95 trivial ⟨C5.s,trivial⟩ (by kernel_rfl) (by kernel_rfl) (λ x=>by kernel_rfl)
def Ao.e (k:Nat):Ent:=⟨1,[(.ptr t18 t18)],[(.one,(.i .i64))],λ x=>Ao k x⟩
def Ao.d:Fd := { nt:=35,nv:=1,nm:=[0,1,3,4,5],res:=[2],cs:=λ k=>[(95,Cu.e k)] }
theorem Ao.s (k:Nat):A6 Try.prog 82 (Ao.e k):=mkS (D:=Ao.d) (k:=k) sO [] Try.func82 ⟨Cu.s k,trivial⟩ trivial (by kernel_rfl) (by kernel_rfl) (λ x=>by kernel_rfl)
def B0.e (k:Nat):Ent:=⟨1,[(.ptr t18 t18)],[(.agg,t14),(.one,.b)],λ x=>B0 k x⟩
def B0.d:Fd := { nt:=31,nv:=1,nm:=[0,1,4,5],res:=[3],cs:=λ k=>[(82,Ao.e k)] }
theorem B0.s (k:Nat):A6 Try.prog 61 (B0.e k):=mkS (D:=B0.d) (k:=k) sO [] Try.func61 ⟨Ao.s k,trivial⟩ trivial (by kernel_rfl) (by kernel_rfl) (λ x=>by kernel_rfl)
def Dq.e (k:Nat):Ent:=⟨2,[(.val false t2),(.val false (.i .i64))],[(.one,.s),(.one,(.i .i64)),(.one,.b)],λ x=>Dq k x.1 x.2⟩
def Dq.d:Fd := { nt:=37,nv:=2,nm:=[0,1,2,3,7,8,9],res:=[4,5,6],cs:=λ k=>[(95,Cu.e k)] }
theorem Dq.s (k:Nat):A6 Try.prog 83 (Dq.e k):=mkS (D:=Dq.d) (k:=k) sO [] Try.func83 ⟨Cu.s k,trivial⟩ trivial (by kernel_rfl) (by kernel_rfl) (λ x=>by kernel_rfl)
def Aj.e (k:Nat):Ent:=⟨1,[(.ptr t18 t18)],[(.one,.s)],λ x=>Aj k x⟩
def Aj.d:Fd := { nt:=35,nv:=1,nm:=[0,1,3,4,5],res:=[2],cs:=λ k=>[(83,Dq.e k)] }
theorem Aj.s (k:Nat):A6 Try.prog 62 (Aj.e k):=mkS (D:=Aj.d) (k:=k) sO [] Try.func62 ⟨Dq.s k,trivial⟩ trivial (by kernel_rfl) (by kernel_rfl) (λ x=>by kernel_rfl)
def H0.e (k:Nat):Ent:=⟨3,[(.val false (.i .i64)),(.val false (.i .i64)),(.val false (.i .i64))],[(.one,.b)],λ x=>H0 x.1 x.2.1 x.2.2⟩
def H0.d:Fd := { nt:=15,nv:=3,nm:=[0,1,2,3,4,5],res:=[6] }
theorem H0.s (k:Nat):A6 Try.prog 100 (H0.e k):=mkS (D:=H0.d) (k:=k) sO [] Try.func100 trivial trivial (by kernel_rfl) (by kernel_rfl) (λ x=>by kernel_rfl)
def Dr.e (k:Nat):Ent:=⟨1,[(.val true t14)],[(.one,.b)],λ x=>Dr x⟩
def Dr.d:Fd := { nt:=16,nv:=1,nm:=[0,1],res:=[2],cs:=λ k=>[(100,H0.e k)] }
theorem Dr.s (k:Nat):A6 Try.prog 96 (Dr.e k):=mkS (D:=Dr.d) (k:=k) sO [] Try.func96 ⟨H0.s k,trivial⟩ trivial (by kernel_rfl) (by kernel_rfl) (λ x=>by kernel_rfl)
def Ef.e (k:Nat):Ent:=⟨1,[(.val true t23)],[(.one,.b)],λ x=>Ef x⟩
def Ef.d:Fd := { nt:=23,nv:=1,nm:=[0,1],res:=[2],cs:=λ k=>[(96,Dr.e k)] }
theorem Ef.s (k:Nat):A6 Try.prog 84 (Ef.e k):=mkS (D:=Ef.d) (k:=k) sO [] Try.func84 ⟨Dr.s k,trivial⟩ trivial (by kernel_rfl) (by kernel_rfl) (λ x=>by kernel_rfl)
def Bh.e (k:Nat):Ent:=⟨2,[(.val false t3),(.val false (.i .i64))],[(.one,t3)],λ x=>Bh k x.1 x.2⟩
def Cj.p:LF:=⟨⟨[],[(0,t3),(1,(.i .i64))]⟩,[((.exit 0),⟨[],[(0,t3),(1,(.i .i64))]⟩)],λ k x=>Cj k x.1 x.2⟩
def Bh.d:Fd := { nt:=24,nv:=2,nm:=[0,1,2,3],res:=[4],ls:=[(2,Cj.p)] }
theorem Cj.s:LK Try.prog Try.f97 Bh.d 2 Cj.p:=mkL sO [] (by kernel_rfl) (λ _=>trivial) trivial (by kernel_rfl) (λ _=>rfl) (λ k x=>by kernel_rfl)
theorem Bh.s (k:Nat):A6 Try.prog 97 (Bh.e k):=mkS (D:=Bh.d) (k:=k) sO [2] Try.func97 trivial ⟨Cj.s,trivial⟩ (by kernel_rfl) (by kernel_rfl) (λ x=>by kernel_rfl)
def Ds.e (k:Nat):Ent:=⟨2,[(.val false t3),(.val false .s)],[(.one,t3)],λ x=>Ds k x.1 x.2⟩
def Ds.d:Fd := { nt:=11,nv:=2,nm:=[0,1,2,3],res:=[4],cs:=λ k=>[(97,Bh.e k)] }
theorem Ds.s (k:Nat):A6 Try.prog 85 (Ds.e k):=mkS (D:=Ds.d) (k:=k) sO [] Try.func85 ⟨Bh.s k,trivial⟩ trivial (by kernel_rfl) (by kernel_rfl) (λ x=>by kernel_rfl)
def H4.e (k:Nat):Ent:=⟨1,[(.val false .b)],[(.one,(.i .i64))],λ x=>H4 x⟩
def H4.d:Fd := { nt:=4,nv:=1,nm:=[0,1],res:=[2] }
theorem H4.s (k:Nat):A6 Try.prog 98 (H4.e k):=mkS (D:=H4.d) (k:=k) sO [] Try.func98 trivial trivial (by kernel_rfl) (by kernel_rfl) (λ x=>by kernel_rfl)
def D8.e (k:Nat):Ent:=⟨3,[(.val false t3),(.val true t14),(.val false .b)],[(.one,t3)],λ x=>D8 k x.1 x.2.1 x.2.2⟩
def D8.d:Fd := { nt:=20,nv:=3,nm:=[0,1,2,3,4,5],res:=[6],cs:=λ k=>[(97,Bh.e k),(98,H4.e k)] }
theorem D8.s (k:Nat):A6 Try.prog 86 (D8.e k):=mkS (D:=D8.d) (k:=k) sO [] Try.func86 ⟨Bh.s k,H4.s k,trivial⟩ trivial (by kernel_rfl) (by kernel_rfl) (λ x=>by kernel_rfl)
def G8.e (k:Nat):Ent:=⟨1,[(.val false t2)],[(.one,(.i .i64))],λ x=>G8 k x⟩
def Dz.p:LF:=⟨⟨[],[(3,(.i .u32)),(7,t2),(8,(.i .i64)),(9,(.i .i64)),(17,(.i .i64))]⟩,[((.exit 2),⟨[],[(3,(.i .u32)),(7,t2),(8,(.i .i64)),(9,(.i .i64))]⟩)],λ k x=>Dz k x.1 x.2.1 x.2.2.1 x.2.2.2.1 x.2.2.2.2⟩
def Eg.p:LF:=⟨⟨[],[(3,(.i .u32)),(7,t2),(8,(.i .i64)),(9,(.i .i64))]⟩,[((.exit 0),⟨[],[(3,(.i .u32))]⟩)],λ k x=>Eg k x.1 x.2.1 x.2.2.1 x.2.2.2⟩
def G8.d:Fd := { nt:=32,nv:=1,nm:=[0,1,3,4,5,6],res:=[2],ls:=[(7,Dz.p),(3,Eg.p)] }
theorem Dz.s:LK Try.prog Try.f87 G8.d 7 Dz.p:=mkL sO [] (by kernel_rfl) (λ _=>trivial) trivial (by kernel_rfl) (λ _=>rfl) (λ k x=>by kernel_rfl)
theorem Eg.s:LK Try.prog Try.f87 G8.d 3 Eg.p:=mkL sO [7] (by kernel_rfl) (λ _=>trivial) ⟨Dz.s,trivial⟩ (by kernel_rfl) (λ _=>rfl) (λ k x=>by kernel_rfl)
theorem G8.s (k:Nat):A6 Try.prog 87 (G8.e k):=mkS (D:=G8.d) (k:=k) sO [3] Try.func87 trivial ⟨Eg.s,trivial⟩ (by kernel_rfl) (by kernel_rfl) (λ x=>by kernel_rfl)
def Dt.e (k:Nat):Ent:=⟨1,[(.val true t23)],[(.one,t3)],λ x=>Dt k x⟩
def Dt.d:Fd := { nt:=33,nv:=1,nm:=[0,1,3,4],res:=[2],cs:=λ k=>[(84,Ef.e k),(85,Ds.e k),(86,D8.e k),(87,G8.e k)] }
theorem Dt.s (k:Nat):A6 Try.prog 63 (Dt.e k):=mkS (D:=Dt.d) (k:=k) sO [] Try.func63 ⟨Ef.s k,Ds.s k,D8.s k,G8.s k,trivial⟩ trivial (by kernel_rfl) (by kernel_rfl) (λ x=>by kernel_rfl)
def Du.e (k:Nat):Ent:=⟨1,[(.val false t2)],[(.agg,t23),(.one,.b)],λ x=>Du k x⟩
def Du.d:Fd := { nt:=41,nv:=1,nm:=[0,1,4,5,6],res:=[3],cs:=λ k=>[(61,B0.e k),(62,Aj.e k),(63,Dt.e k)] }
theorem Du.s (k:Nat):A6 Try.prog 41 (Du.e k):=mkS (D:=Du.d) (k:=k) sO [] Try.func41 ⟨B0.s k,Aj.s k,Dt.s k,trivial⟩ trivial (by kernel_rfl) (by kernel_rfl) (λ x=>by kernel_rfl)
def Ck.e (k:Nat):Ent:=⟨2,[(.val true t14),(.val true t14)],[(.one,.b)],λ x=>Ck x.1 x.2⟩
def Ck.d:Fd := { nt:=32,nv:=2,nm:=[0,1,2,3],res:=[4] }
theorem Ck.s (k:Nat):A6 Try.prog 42 (Ck.e k):=mkS (D:=Ck.d) (k:=k) sO [] Try.func42 trivial trivial (by kernel_rfl) (by kernel_rfl) (λ x=>by kernel_rfl)
def Db.e (k:Nat):Ent:=⟨3,[(.val true t41),(.val false .s),(.val true t14)],[(.one,.b)],λ x=>Db k x.1 x.2.1 x.2.2⟩
def C8.p:LF:=⟨⟨[(5,(.bp 5 0 0)),(6999,(.hd 3))],[(1,.s),(13,t38),(14,(.i .i64)),(15,(.i .i64)),(6000,t14)]⟩,[(.ret,⟨[],[(6,.b)]⟩),((.exit 0),⟨[],[]⟩)],λ k x=>C8 k x.1 x.2.1 x.2.2.1 x.2.2.2.1 x.2.2.2.2⟩
def Db.d:Fd := { nt:=46,nv:=3,nm:=[0,1,2,3,4,5,7,8,9,10,11],res:=[6],cs:=λ k=>[(40,Ha.e k),(41,Du.e k),(42,Ck.e k)],ls:=[(2,C8.p)],rf:=true }
theorem Db.a (k:Nat):Mg Try.prog (Db.d.cs k):=⟨Ha.s k,Du.s k,Ck.s k,trivial⟩
theorem C8.s:LK Try.prog Try.f23 Db.d 2 C8.p:=mkL sO [] (by kernel_rfl) Db.a trivial (by kernel_rfl) (λ _=>rfl) (λ k x=>by kernel_rfl)
theorem Db.s (k:Nat):A6 Try.prog 23 (Db.e k):=mkS (D:=Db.d) (k:=k) sO [2] Try.func23 (Db.a k) ⟨C8.s,trivial⟩ (by kernel_rfl) (by kernel_rfl) (λ x=>by kernel_rfl)
def E5.e (k:Nat):Ent:=⟨1,[(.val true t41)],[(.one,.b)],λ x=>E5 k x⟩
def Cz.p:LF:=⟨⟨[(1,(.bp 1 0 0)),(2999,(.hd 9))],[(6,t34),(7,(.i .i64)),(8,(.i .i64)),(2000,t41)]⟩,[(.ret,⟨[],[(2,.b)]⟩),((.exit 0),⟨[],[]⟩)],λ k x=>Cz k x.1 x.2.1 x.2.2.1 x.2.2.2⟩
def E5.d:Fd := { nt:=33,nv:=1,nm:=[0,1,3,4],res:=[2],cs:=λ k=>[(22,Dc.e k),(23,Db.e k)],ls:=[(2,Cz.p)],rf:=true }
theorem E5.a (k:Nat):Mg Try.prog (E5.d.cs k):=⟨Dc.s k,Db.s k,trivial⟩
theorem Cz.s:LK Try.prog Try.f7 E5.d 2 Cz.p:=mkL sO [] (by kernel_rfl) E5.a trivial (by kernel_rfl) (λ _=>rfl) (λ k x=>by kernel_rfl)
theorem E5.s (k:Nat):A6 Try.prog 7 (E5.e k):=mkS (D:=E5.d) (k:=k) sO [2] Try.func7 (E5.a k) ⟨Cz.s,trivial⟩ (by kernel_rfl) (by kernel_rfl) (λ x=>by kernel_rfl)
def Ff.e (k:Nat):Ent:=⟨2,[(.val true t14),(.val true t14)],[(.one,.b)],λ x=>Ff x.1 x.2⟩
def Ff.d:Fd := { nt:=20,nv:=2,nm:=[0,1,2,3],res:=[4],rf:=true }
theorem Ff.s (k:Nat):A6 Try.prog 43 (Ff.e k):=mkS (D:=Ff.d) (k:=k) sO [] Try.func43 trivial trivial (by kernel_rfl) (by kernel_rfl) (λ x=>by kernel_rfl)
def Ca.e (k:Nat):Ent:=⟨2,[(.val false t19),(.val false t19)],[(.one,.b)],λ x=>Ca k x.1 x.2⟩
def Cl.p:LF:=⟨⟨[],[(0,t19),(1,t19),(5,(.i .i64))]⟩,[(.ret,⟨[],[(4,.b)]⟩),((.exit 0),⟨[],[]⟩)],λ k x=>Cl k x.1 x.2.1 x.2.2⟩
def Ca.d:Fd := { nt:=27,nv:=2,nm:=[0,1,2,3,5],res:=[4],cs:=λ k=>[(43,Ff.e k)],ls:=[(4,Cl.p)],rf:=true }
theorem Ca.a (k:Nat):Mg Try.prog (Ca.d.cs k):=⟨Ff.s k,trivial⟩
theorem Cl.s:LK Try.prog Try.f24 Ca.d 4 Cl.p:=mkL sO [] (by kernel_rfl) Ca.a trivial (by kernel_rfl) (λ _=>rfl) (λ k x=>by kernel_rfl)
theorem Ca.s (k:Nat):A6 Try.prog 24 (Ca.e k):=mkS (D:=Ca.d) (k:=k) sO [4] Try.func24 (Ca.a k) ⟨Cl.s,trivial⟩ (by kernel_rfl) (by kernel_rfl) (λ x=>by kernel_rfl)
def E3.e (k:Nat):Ent:=⟨2,[(.val false t4),(.val false t4)],[(.one,.b)],λ x=>E3 k x.1 x.2⟩
def Cm.p:LF:=⟨⟨[],[(0,t4),(1,t4),(5,(.i .i64))]⟩,[(.ret,⟨[],[(4,.b)]⟩),((.exit 0),⟨[],[]⟩)],λ k x=>Cm k x.1 x.2.1 x.2.2⟩
def E3.d:Fd := { nt:=26,nv:=2,nm:=[0,1,2,3,5],res:=[4],ls:=[(4,Cm.p)],rf:=true }
theorem Cm.s:LK Try.prog Try.f88 E3.d 4 Cm.p:=mkL sO [] (by kernel_rfl) (λ _=>trivial) trivial (by kernel_rfl) (λ _=>rfl) (λ k x=>by kernel_rfl)
theorem E3.s (k:Nat):A6 Try.prog 88 (E3.e k):=mkS (D:=E3.d) (k:=k) sO [4] Try.func88 trivial ⟨Cm.s,trivial⟩ (by kernel_rfl) (by kernel_rfl) (λ x=>by kernel_rfl)
def F4.e (k:Nat):Ent:=⟨2,[(.val true t4),(.val true t4)],[(.one,.b)],λ x=>F4 k x.1 x.2⟩
def F4.d:Fd := { nt:=11,nv:=2,nm:=[0,1,2,3],res:=[4],cs:=λ k=>[(88,E3.e k)],rf:=true }
theorem F4.s (k:Nat):A6 Try.prog 64 (F4.e k):=mkS (D:=F4.d) (k:=k) sO [] Try.func64 ⟨E3.s k,trivial⟩ trivial (by kernel_rfl) (by kernel_rfl) (λ x=>by kernel_rfl)
def Bf.e (k:Nat):Ent:=⟨2,[(.val false t8),(.val false t8)],[(.one,.b)],λ x=>Bf k x.1 x.2⟩
def Bv.p:LF:=⟨⟨[],[(0,t8),(1,t8),(5,(.i .i64))]⟩,[(.ret,⟨[],[(4,.b)]⟩),((.exit 0),⟨[],[]⟩)],λ k x=>Bv k x.1 x.2.1 x.2.2⟩
def Bf.d:Fd := { nt:=27,nv:=2,nm:=[0,1,2,3,5],res:=[4],cs:=λ k=>[(64,F4.e k)],ls:=[(4,Bv.p)],rf:=true }
theorem Bf.a (k:Nat):Mg Try.prog (Bf.d.cs k):=⟨F4.s k,trivial⟩
theorem Bv.s:LK Try.prog Try.f44 Bf.d 4 Bv.p:=mkL sO [] (by kernel_rfl) Bf.a trivial (by kernel_rfl) (λ _=>rfl) (λ k x=>by kernel_rfl)
theorem Bf.s (k:Nat):A6 Try.prog 44 (Bf.e k):=mkS (D:=Bf.d) (k:=k) sO [4] Try.func44 (Bf.a k) ⟨Bv.s,trivial⟩ (by kernel_rfl) (by kernel_rfl) (λ x=>by kernel_rfl)
def F5.e (k:Nat):Ent:=⟨2,[(.val true t16),(.val true t16)],[(.one,.b)],λ x=>F5 k x.1 x.2⟩
def F5.d:Fd := { nt:=16,nv:=2,nm:=[0,1,2,3],res:=[4],cs:=λ k=>[(44,Bf.e k)],rf:=true }
theorem F5.s (k:Nat):A6 Try.prog 25 (F5.e k):=mkS (D:=F5.d) (k:=k) sO [] Try.func25 ⟨Bf.s k,trivial⟩ trivial (by kernel_rfl) (by kernel_rfl) (λ x=>by kernel_rfl)
def Bx.e (k:Nat):Ent:=⟨2,[(.val false t2),(.val false t2)],[(.one,.b)],λ x=>Bx k x.1 x.2⟩
def Bw.p:LF:=⟨⟨[],[(0,t2),(1,t2),(5,(.i .i64))]⟩,[(.ret,⟨[],[(4,.b)]⟩),((.exit 0),⟨[],[]⟩)],λ k x=>Bw k x.1 x.2.1 x.2.2⟩
def Bx.d:Fd := { nt:=26,nv:=2,nm:=[0,1,2,3,5],res:=[4],ls:=[(4,Bw.p)],rf:=true }
theorem Bw.s:LK Try.prog Try.f91 Bx.d 4 Bw.p:=mkL sO [] (by kernel_rfl) (λ _=>trivial) trivial (by kernel_rfl) (λ _=>rfl) (λ k x=>by kernel_rfl)
theorem Bx.s (k:Nat):A6 Try.prog 91 (Bx.e k):=mkS (D:=Bx.d) (k:=k) sO [4] Try.func91 trivial ⟨Bw.s,trivial⟩ (by kernel_rfl) (by kernel_rfl) (λ x=>by kernel_rfl)
def Ea.e (k:Nat):Ent:=⟨2,[(.val true t10),(.val true t10)],[(.one,.b)],λ x=>Ea k x.1 x.2⟩
def Ea.d:Fd := { nt:=16,nv:=2,nm:=[0,1,2,3],res:=[4],cs:=λ k=>[(91,Bx.e k)],rf:=true }
theorem Ea.s (k:Nat):A6 Try.prog 99 (Ea.e k):=mkS (D:=Ea.d) (k:=k) sO [] Try.func99 ⟨Bx.s k,trivial⟩ trivial (by kernel_rfl) (by kernel_rfl) (λ x=>by kernel_rfl)
def Ap.e (k:Nat):Ent:=⟨2,[(.val false t11),(.val false t11)],[(.one,.b)],λ x=>Ap k x.1 x.2⟩
def B6.p:LF:=⟨⟨[],[(0,t11),(1,t11),(5,(.i .i64))]⟩,[(.ret,⟨[],[(4,.b)]⟩),((.exit 0),⟨[],[]⟩)],λ k x=>B6 k x.1 x.2.1 x.2.2⟩
def Ap.d:Fd := { nt:=27,nv:=2,nm:=[0,1,2,3,5],res:=[4],cs:=λ k=>[(99,Ea.e k)],ls:=[(4,B6.p)],rf:=true }
theorem Ap.a (k:Nat):Mg Try.prog (Ap.d.cs k):=⟨Ea.s k,trivial⟩
theorem B6.s:LK Try.prog Try.f89 Ap.d 4 B6.p:=mkL sO [] (by kernel_rfl) Ap.a trivial (by kernel_rfl) (λ _=>rfl) (λ k x=>by kernel_rfl)
theorem Ap.s (k:Nat):A6 Try.prog 89 (Ap.e k):=mkS (D:=Ap.d) (k:=k) sO [4] Try.func89 (Ap.a k) ⟨B6.s,trivial⟩ (by kernel_rfl) (by kernel_rfl) (λ x=>by kernel_rfl)
def F6.e (k:Nat):Ent:=⟨2,[(.val true t26),(.val true t26)],[(.one,.b)],λ x=>F6 k x.1 x.2⟩
def F6.d:Fd := { nt:=17,nv:=2,nm:=[0,1,2,3],res:=[4],cs:=λ k=>[(89,Ap.e k)],rf:=true }
theorem F6.s (k:Nat):A6 Try.prog 65 (F6.e k):=mkS (D:=F6.d) (k:=k) sO [] Try.func65 ⟨Ap.s k,trivial⟩ trivial (by kernel_rfl) (by kernel_rfl) (λ x=>by kernel_rfl)
def B3.e (k:Nat):Ent:=⟨2,[(.val true t14),(.val true t14)],[(.one,.b)],λ x=>B3 x.1 x.2⟩
def B3.d:Fd := { nt:=20,nv:=2,nm:=[0,1,2,3],res:=[4],rf:=true }
theorem B3.s (k:Nat):A6 Try.prog 27 (B3.e k):=mkS (D:=B3.d) (k:=k) sO [] Try.func27 trivial trivial (by kernel_rfl) (by kernel_rfl) (λ x=>by kernel_rfl)
def Fg.e (k:Nat):Ent:=⟨2,[(.val true t25),(.val true t25)],[(.one,.b)],λ x=>Fg x.1 x.2⟩
def Fg.d:Fd := { nt:=26,nv:=2,nm:=[0,1,2,3],res:=[4],cs:=λ k=>[(27,B3.e k)],rf:=true }
theorem Fg.s (k:Nat):A6 Try.prog 90 (Fg.e k):=mkS (D:=Fg.d) (k:=k) sO [] Try.func90 ⟨B3.s k,trivial⟩ trivial (by kernel_rfl) (by kernel_rfl) (λ x=>by kernel_rfl)
def Bz.e (k:Nat):Ent:=⟨2,[(.val false t30),(.val false t30)],[(.one,.b)],λ x=>Bz k x.1 x.2⟩
def Cn.p:LF:=⟨⟨[],[(0,t30),(1,t30),(5,(.i .i64))]⟩,[(.ret,⟨[],[(4,.b)]⟩),((.exit 0),⟨[],[]⟩)],λ k x=>Cn k x.1 x.2.1 x.2.2⟩
def Bz.d:Fd := { nt:=27,nv:=2,nm:=[0,1,2,3,5],res:=[4],cs:=λ k=>[(90,Fg.e k)],ls:=[(4,Cn.p)],rf:=true }
theorem Bz.a (k:Nat):Mg Try.prog (Bz.d.cs k):=⟨Fg.s k,trivial⟩
theorem Cn.s:LK Try.prog Try.f66 Bz.d 4 Cn.p:=mkL sO [] (by kernel_rfl) Bz.a trivial (by kernel_rfl) (λ _=>rfl) (λ k x=>by kernel_rfl)
theorem Bz.s (k:Nat):A6 Try.prog 66 (Bz.e k):=mkS (D:=Bz.d) (k:=k) sO [4] Try.func66 (Bz.a k) ⟨Cn.s,trivial⟩ (by kernel_rfl) (by kernel_rfl) (λ x=>by kernel_rfl)
def F7.e (k:Nat):Ent:=⟨2,[(.val true t36),(.val true t36)],[(.one,.b)],λ x=>F7 k x.1 x.2⟩
def F7.d:Fd := { nt:=28,nv:=2,nm:=[0,1,2,3],res:=[4],cs:=λ k=>[(65,F6.e k),(66,Bz.e k)],rf:=true }
theorem F7.s (k:Nat):A6 Try.prog 45 (F7.e k):=mkS (D:=F7.d) (k:=k) sO [] Try.func45 ⟨F6.s k,Bz.s k,trivial⟩ trivial (by kernel_rfl) (by kernel_rfl) (λ x=>by kernel_rfl)
def Bg.e (k:Nat):Ent:=⟨2,[(.val false t38),(.val false t38)],[(.one,.b)],λ x=>Bg k x.1 x.2⟩
def C0.p:LF:=⟨⟨[],[(0,t38),(1,t38),(5,(.i .i64))]⟩,[(.ret,⟨[],[(4,.b)]⟩),((.exit 0),⟨[],[]⟩)],λ k x=>C0 k x.1 x.2.1 x.2.2⟩
def Bg.d:Fd := { nt:=27,nv:=2,nm:=[0,1,2,3,5],res:=[4],cs:=λ k=>[(45,F7.e k)],ls:=[(4,C0.p)],rf:=true }
theorem Bg.a (k:Nat):Mg Try.prog (Bg.d.cs k):=⟨F7.s k,trivial⟩
theorem C0.s:LK Try.prog Try.f26 Bg.d 4 C0.p:=mkL sO [] (by kernel_rfl) Bg.a trivial (by kernel_rfl) (λ _=>rfl) (λ k x=>by kernel_rfl)
theorem Bg.s (k:Nat):A6 Try.prog 26 (Bg.e k):=mkS (D:=Bg.d) (k:=k) sO [4] Try.func26 (Bg.a k) ⟨C0.s,trivial⟩ (by kernel_rfl) (by kernel_rfl) (λ x=>by kernel_rfl)
def Eh.e (k:Nat):Ent:=⟨2,[(.val true t23),(.val true t23)],[(.one,.b)],λ x=>Eh k x.1 x.2⟩
def Eh.d:Fd := { nt:=22,nv:=2,nm:=[0,1,2,3],res:=[4],cs:=λ k=>[(27,B3.e k),(91,Bx.e k)],rf:=true }
theorem Eh.s (k:Nat):A6 Try.prog 67 (Eh.e k):=mkS (D:=Eh.d) (k:=k) sO [] Try.func67 ⟨B3.s k,Bx.s k,trivial⟩ trivial (by kernel_rfl) (by kernel_rfl) (λ x=>by kernel_rfl)
def Eb.e (k:Nat):Ent:=⟨2,[(.val true t32),(.val true t32)],[(.one,.b)],λ x=>Eb k x.1 x.2⟩
def Eb.d:Fd := { nt:=21,nv:=2,nm:=[0,1,2,3],res:=[4],cs:=λ k=>[(67,Eh.e k)],rf:=true }
theorem Eb.s (k:Nat):A6 Try.prog 46 (Eb.e k):=mkS (D:=Eb.d) (k:=k) sO [] Try.func46 ⟨Eh.s k,trivial⟩ trivial (by kernel_rfl) (by kernel_rfl) (λ x=>by kernel_rfl)
def Av.e (k:Nat):Ent:=⟨2,[(.val false t34),(.val false t34)],[(.one,.b)],λ x=>Av k x.1 x.2⟩
def B7.p:LF:=⟨⟨[],[(0,t34),(1,t34),(5,(.i .i64))]⟩,[(.ret,⟨[],[(4,.b)]⟩),((.exit 0),⟨[],[]⟩)],λ k x=>B7 k x.1 x.2.1 x.2.2⟩
def Av.d:Fd := { nt:=27,nv:=2,nm:=[0,1,2,3,5],res:=[4],cs:=λ k=>[(46,Eb.e k)],ls:=[(4,B7.p)],rf:=true }
theorem Av.a (k:Nat):Mg Try.prog (Av.d.cs k):=⟨Eb.s k,trivial⟩
theorem B7.s:LK Try.prog Try.f28 Av.d 4 B7.p:=mkL sO [] (by kernel_rfl) Av.a trivial (by kernel_rfl) (λ _=>rfl) (λ k x=>by kernel_rfl)
theorem Av.s (k:Nat):A6 Try.prog 28 (Av.e k):=mkS (D:=Av.d) (k:=k) sO [4] Try.func28 (Av.a k) ⟨B7.s,trivial⟩ (by kernel_rfl) (by kernel_rfl) (λ x=>by kernel_rfl)
def C6.e (k:Nat):Ent:=⟨2,[(.val false t0),(.val false t0)],[(.one,.b)],λ x=>C6 k x.1 x.2⟩
def B1.p:LF:=⟨⟨[],[(0,t0),(1,t0),(5,(.i .i64))]⟩,[(.ret,⟨[],[(4,.b)]⟩),((.exit 0),⟨[],[]⟩)],λ k x=>B1 k x.1 x.2.1 x.2.2⟩
def C6.d:Fd := { nt:=26,nv:=2,nm:=[0,1,2,3,5],res:=[4],ls:=[(4,B1.p)],rf:=true }
theorem B1.s:LK Try.prog Try.f29 C6.d 4 B1.p:=mkL sO [] (by kernel_rfl) (λ _=>trivial) trivial (by kernel_rfl) (λ _=>rfl) (λ k x=>by kernel_rfl)
theorem C6.s (k:Nat):A6 Try.prog 29 (C6.e k):=mkS (D:=C6.d) (k:=k) sO [4] Try.func29 trivial ⟨B1.s,trivial⟩ (by kernel_rfl) (by kernel_rfl) (λ x=>by kernel_rfl)
def Dv.e (k:Nat):Ent:=⟨2,[(.val true t41),(.val true t41)],[(.one,.b)],λ x=>Dv k x.1 x.2⟩
def Dv.d:Fd := { nt:=41,nv:=2,nm:=[0,1,2,3],res:=[4],cs:=λ k=>[(24,Ca.e k),(25,F5.e k),(26,Bg.e k),(27,B3.e k),(28,Av.e k),(29,C6.e k)],rf:=true }
theorem Dv.s (k:Nat):A6 Try.prog 8 (Dv.e k):=mkS (D:=Dv.d) (k:=k) sO [] Try.func8 ⟨Ca.s k,F5.s k,Bg.s k,B3.s k,Av.s k,C6.s k,trivial⟩ trivial (by kernel_rfl) (by kernel_rfl) (λ x=>by kernel_rfl)
def C7.e (k:Nat):Ent:=⟨1,[(.val true t42)],[(.one,.b)],λ x=>C7 k x⟩
def C7.d:Fd := { nt:=27,nv:=1,nm:=[0,1,3,4,5,6],res:=[2],cs:=λ k=>[(4,Dh.e k),(5,E4.e k),(6,Cy.e k),(7,E5.e k),(8,Dv.e k)],rf:=true }
theorem C7.s (k:Nat):A6 Try.prog 3 (C7.e k):=mkS (D:=C7.d) (k:=k) sO [] Try.func3 ⟨Dh.s k,E4.s k,Cy.s k,E5.s k,Dv.s k,trivial⟩ trivial (by kernel_rfl) (by kernel_rfl) (λ x=>by kernel_rfl)
end

def Tot {α:Type} (f:Nat→Option α) (Q:α→Prop):Prop:=∃ r K,(∀ k,K≤k→f k=some r)∧Q r
section
variable {α β:Type} {f g:Nat→Option α} {Q Q':α→Prop}
theorem Tot.mono (h:Tot f Q) (hq:∀ a,Q a→Q' a):Tot f Q':=by
 obtain ⟨r,K,h1,h2⟩:=h
 exact ⟨r,K,h1,hq r h2⟩
theorem Tot.pure {a:α} (h:Q a):Tot (λ _=>some a) Q:=⟨a,0,λ _ _=>rfl,h⟩
theorem Tot.of {o:Option α} {a:α} (e:o=some a) (h:Q a):Tot (λ _=>o) Q:=⟨a,0,λ _ _=>e,h⟩
theorem Tot.bind {h:Nat→α→Option β} {R:β→Prop} (hf:Tot f Q) (hh:∀ a,Q a→Tot (λ k=>h k a) R):Tot (λ k=>(f k).bind (h k)) R:=by
 obtain ⟨a,K,h1,h2⟩:=hf
 obtain ⟨b,L,h3,h4⟩:=hh a h2
 exact ⟨b,max K L,λ k hk=>by show (f k).bind (h k)=_; rw [h1 k (by omega)]; exact h3 k (by omega),h4⟩
theorem Tot.yes {c:Bool} (hc:c=true) (h:Tot f Q):Tot (λ k=>cond c (f k) (g k)) Q:=by subst hc; exact h
theorem Tot.no {c:Bool} (hc:c=false) (h:Tot g Q):Tot (λ k=>cond c (f k) (g k)) Q:=by subst hc; exact h
theorem Tot.ite {c:Bool} (h1:c=true→Tot f Q) (h2:c=false→Tot g Q):Tot (λ k=>cond c (f k) (g k)) Q:=by
 cases hc:c with
 |true=>exact h1 hc
 |false=>exact h2 hc
theorem Tot.dec {p:Prop} [Decidable p] (hp:p) (h:Tot f Q):Tot (λ k=>cond (decide p) (f k) (g k)) Q:=Tot.yes (decide_eq_true hp) h
theorem Tot.ndec {p:Prop} [Decidable p] (hp:¬ p) (h:Tot g Q):Tot (λ k=>cond (decide p) (f k) (g k)) Q:=Tot.no (decide_eq_false hp) h
theorem Tot.dite {p:Prop} [Decidable p] (h1:p→Tot f Q) (h2:¬ p→Tot g Q):Tot (λ k=>cond (decide p) (f k) (g k)) Q:=
 Tot.ite (λ h=>h1 (of_decide_eq_true h)) (λ h=>h2 (of_decide_eq_false h))
theorem Tot.ble {m n:Nat} (hp:m≤n) (h:Tot f Q):Tot (λ k=>cond (Nat.ble m n) (f k) (g k)) Q:=Tot.yes (Nat.ble_eq_true_of_le hp) h
theorem Tot.succ (h:Tot (λ k=>f (k+1)) Q):Tot f Q:=by
 obtain ⟨r,K,h1,h2⟩:=h
 exact ⟨r,K+1,λ k hk=>by obtain ⟨m,rfl⟩:∃ m,k=m+1:=⟨k - 1,by omega⟩; exact h1 m (by omega),h2⟩
theorem Tot.and (h:Tot f Q) (h':Tot f Q'):Tot f (λ a=>Q a∧Q' a):=by
 obtain ⟨r,K,h1,h2⟩:=h
 obtain ⟨r',K',h1',h2'⟩:=h'
 have e:r=r':=by
  have a1:=h1 (max K K') (by omega)
  have a2:=h1' (max K K') (by omega)
  rw [a1] at a2
  exact Option.some.inj a2
 subst e
 exact ⟨r,K,h1,h2,h2'⟩
theorem Tot.law {f:Nat→Option Bool} (h:Tot f (λ b=>b=true)):∃ k,f k=some true:=by
 obtain ⟨r,K,h1,h2⟩:=h
 subst h2
 exact ⟨K,h1 K (Nat.le_refl _)⟩
end
theorem w64 {n:Int} (h1 : -9223372036854775808≤n) (h2:n≤9223372036854775807):IntKind.wrap .i64 n=n:=Go.IntWalk.i64_in n ⟨h1,h2⟩
theorem Dka (n:Int):0≤IntKind.wrap .u8 n∧IntKind.wrap .u8 n≤255:=by
 simp only [IntKind.wrap,IntKind.signed,IntKind.bits]
 simp
 omega

def Aq (l:List Int):Prop:=∀ x∈l,0≤x∧x≤255
abbrev Stp:=Int×Int×Int
abbrev Row:=ByteArray×Stp×Bool×Int
abbrev Fil:=Stp×Bool×List Int

def tlt (a b:ByteArray):Bool:=Op.bytesLess a.toList b.toList
def teq (a b:ByteArray):Bool:=a.toList==b.toList
theorem A5a {a b:ByteArray} (h:a.toList=b.toList):a=b:=by
 rw [ByteArray.toList_eq,ByteArray.toList_eq] at h
 obtain ⟨⟨x⟩⟩:=a
 obtain ⟨⟨y⟩⟩:=b
 simp only at h
 rw [h]
theorem Uq {a b:ByteArray}:teq a b=true↔a=b:=by
 unfold teq
 rw [beq_iff_eq]
 exact ⟨A5a,λ h=>by rw [h]⟩
def sle (a b:Stp):Bool:=cond (a.1 != b.1) (decide (a.1<b.1)) (cond (a.2.1 != b.2.1) (decide (a.2.1<b.2.1)) (decide (a.2.2<b.2.2)))
theorem Gda (a b:Stp):Cf a b=some (sle a b):=by
 unfold Cf sle
 cases a.1 != b.1<;>cases a.2.1 != b.2.1<;>rfl
theorem Gea (a b:Stp):Ck a b=some (sle a b):=by
 unfold Ck sle
 cases a.1 != b.1<;>cases a.2.1 != b.2.1<;>rfl
def Lma (a b:Row):Bool:=cond (!((a.2.1.1==b.2.1.1)&&((a.2.1.2.1==b.2.1.2.1)&&(a.2.1.2.2==b.2.1.2.2)))) (sle a.2.1 b.2.1) (cond (!(a.2.2.1==b.2.2.1)) b.2.2.1 (decide (a.2.2.2<b.2.2.2)))
theorem I8 {α:Type} {l:List α} {i:Nat} {d:α} (h:i<l.length):l.drop i=l.getD i d::l.drop (i+1):=by
 rw [List.drop_eq_getElem_cons h,List.getD_eq_getElem?_getD,List.getElem?_eq_getElem h]
 rfl

section
open Go
end

def inR (n lo hi:Int):Bool:=decide (n≥lo)&&decide (n≤hi)
theorem Kta (n lo hi:Int):H0 n lo hi=some (inR n lo hi):=by
 unfold H0 inR
 cases decide (n≥lo)<;>rfl
theorem Kua (n lo hi:Int):Fb n lo hi=some (inR n lo hi):=by
 unfold Fb inR
 cases decide (n≥lo)<;>rfl
theorem J0a {n lo hi:Int}:inR n lo hi=true↔lo≤n∧n≤hi:=by
 unfold inR
 simp
def Kva (c:Int):Bool:=inR c 97 122 || (inR c 48 57 || (!(c != 45) || (!(c != 95) || !(c != 47))))
def Gfa (s:ByteArray):Prop:=s.size≤4611686018427387904
def bOk (b:UInt8):Bool:=Kva (b.toNat:Int)
def Dla (s:ByteArray):Bool:=s.data.toList.all bOk&&inR (s.size:Int) 1 20
def Ir (s:Stp):Bool:=inR s.1 0 1000000000&&(inR s.2.1 0 1000000&&inR s.2.2 0 20)
theorem Dma (s:Stp):Dr s=some (Ir s):=by
 unfold Dr Ir
 simp only [Kta,Option.bind_some]
 cases inR s.1 0 1000000000<;>cases inR s.2.1 0 1000000<;>rfl
theorem Dna (s:Stp):Dk s=some (Ir s):=by
 unfold Dk Ir
 simp only [Kua,Option.bind_some]
 cases inR s.1 0 1000000000<;>cases inR s.2.1 0 1000000<;>rfl
def Gga (x:Row):Bool:=Dla x.1&&(Ir x.2.1&&(inR x.2.2.2 0 200&&(!x.2.2.1 || x.2.2.2==0)))
def chk:Option ByteArray→List Row→Bool
 |_,[]=>true
 |none,r::l=>Gga r&&chk (some r.1) l
 |some q,r::l=>Gga r&&(tlt q r.1&&chk (some r.1) l)
def Hma (l:List Row):Bool:=chk none l&&decide ((l.length:Int)≤60)
def Gha (l:List Row):Prop:=∀ r∈l,Gfa r.1
theorem Bi {α:Type} {l:List α} {i:Nat} {d:α} (h1:i<l.length):l.getD i d∈l:=by
 rw [List.getD_eq_getElem?_getD,List.getElem?_eq_getElem h1]
 exact List.getElem_mem h1
def mx (a b:Row):Row:=bif Lma a b then b else a

def R7:Nat→Nat→List Int
 |0,n=>[(n:Int)]
 |f+1,n=>if n≤127 then [(n:Int)] else ((n % 128+128:Nat):Int)::R7 f (n / 128)
def Tc (n:Nat):List Int:=R7 4 n
def Ou:Nat→Nat→Nat→List Int→Option (Nat×Nat)
 |0,_,_,_=>none
 |_+1,_,_,[]=>none
 |f+1,k,acc,x::l=>if 128≤x then Ou f (k+1) (acc+x.toNat % 128 * 128 ^ k) l
  else if (x=0∧0<k)∨1000000000<acc+x.toNat % 128 * 128 ^ k then none else some (acc+x.toNat % 128 * 128 ^ k,k+1)
def It (l:List Int) (p:Nat):Option (Nat×Nat):=match Ou 5 0 0 (l.drop p) with
 |some (n,c)=>some (n,p+c)
 |none=>none
theorem Doa:∀ (f n:Nat),(R7 f n).length≤f+1∧0<(R7 f n).length
 |0,n=>by simp [R7]
 |f+1,n=>by
  unfold R7
  split
  ·simp
  ·have:=Doa f (n / 128)
   simp only [List.length_cons]
   omega
theorem Km:∀ (f k acc:Nat) (l:List Int) (n c:Nat),Aq l→Ou f k acc l=some (n,c)→acc<128 ^ k→k<c∧c≤k+f∧c - k≤l.length∧n≤1000000000
 |0,_,_,_,_,_,_,h,_=>by simp [Ou] at h
 |_+1,_,_,[],_,_,_,h,_=>by simp [Ou] at h
 |f+1,k,acc,x::l,n,c,hb,h,ha=>by
  have hx:=hb x (by simp)
  unfold Ou at h
  split at h
  ·have h1:acc+x.toNat % 128 * 128 ^ k<128 ^ (k+1):=by
    have h2:x.toNat % 128≤127:=by omega
    have h3:=Nat.mul_le_mul_right (128 ^ k) h2
    rw [Nat.pow_succ]
    omega
   have:=Km f (k+1) _ l n c (λ y hy=>hb y (List.mem_cons_of_mem _ hy)) h h1
   simp only [List.length_cons]
   omega
  ·split at h
   ·cases h
   ·simp only [Option.some.injEq,Prod.mk.injEq] at h
    obtain ⟨rfl,rfl⟩:=h
    simp only [List.length_cons]
    omega
theorem Dpa:∀ (f k acc:Nat) (l:List Int) (n c:Nat),Aq l→Ou (f+1) k acc l=some (n,c)→acc<128 ^ k→∃ m,n=acc+m * 128 ^ k∧l=R7 f m++l.drop (c - k)∧(m=0→c=k+1∧(0<k→False))∧m<128 ^ (f+1)
 |0,k,acc,[],n,c,hb,h,ha=>by simp [Ou] at h
 |_+1,k,acc,[],n,c,hb,h,ha=>by simp [Ou] at h
 |0,k,acc,x::l,n,c,hb,h,ha=>by
  have hx:=hb x (by simp)
  unfold Ou at h
  split at h
  ·simp [Ou] at h
  ·rename_i h128
   split at h
   ·cases h
   ·rename_i hz
    simp only [Option.some.injEq,Prod.mk.injEq] at h
    obtain ⟨rfl,rfl⟩:=h
    have hm:x.toNat % 128=x.toNat:=Nat.mod_eq_of_lt (by omega)
    refine ⟨x.toNat,by rw [hm],?_,λ h0=>⟨rfl,λ hk=>hz (.inl ⟨by omega,hk⟩)⟩,by omega⟩
    rw [show k+1 - k=1 by omega]
    show x::l=[((x.toNat:Nat):Int)]++l
    rw [show ((x.toNat:Nat):Int)=x by omega]
    rfl
 |f+1,k,acc,x::l,n,c,hb,h,ha=>by
  have hx:=hb x (by simp)
  have hb':Aq l:=λ y hy=>hb y (List.mem_cons_of_mem _ hy)
  unfold Ou at h
  split at h
  ·rename_i h128
   have h1:acc+x.toNat % 128 * 128 ^ k<128 ^ (k+1):=by
    have h2:x.toNat % 128≤127:=by omega
    have h3:=Nat.mul_le_mul_right (128 ^ k) h2
    rw [Nat.pow_succ]
    omega
   obtain ⟨m,e1,e2,e3,e4⟩:=Dpa f (k+1) _ l n c hb' h h1
   have hbd:=Km (f+1) (k+1) _ l n c hb' h h1
   have hm0:m≠0:=λ h0=>(e3 h0).2 (by omega)
   refine ⟨x.toNat % 128+m * 128,?_,?_,λ h0=>by omega,?_⟩
   ·rw [e1,Nat.pow_succ,Nat.add_mul]
    have:m * 128 * 128 ^ k=m * (128 ^ k * 128):=by rw [Nat.mul_assoc,Nat.mul_comm 128]
    omega
   ·unfold R7
    rw [if_neg (by omega),show (x.toNat % 128+m * 128) / 128=m by omega,show (x.toNat % 128+m * 128) % 128=x.toNat % 128 by omega,show c - k=(c - (k+1))+1 by omega,List.drop_succ_cons,List.cons_append,← e2]
    congr 1
    omega
   ·rw [Nat.pow_succ]
    omega
  ·rename_i h128
   split at h
   ·cases h
   ·rename_i hz
    simp only [Option.some.injEq,Prod.mk.injEq] at h
    obtain ⟨rfl,rfl⟩:=h
    have hm:x.toNat % 128=x.toNat:=Nat.mod_eq_of_lt (by omega)
    have hp:128≤128 ^ (f+1+1):=by
     have:=Nat.pow_le_pow_right (show 0<128 by decide) (show 1≤f+1+1 by omega)
     simpa using this
    refine ⟨x.toNat,by rw [hm],?_,λ h0=>⟨rfl,λ hk=>hz (.inl ⟨by omega,hk⟩)⟩,by omega⟩
    rw [show k+1 - k=1 by omega]
    unfold R7
    rw [if_pos (by omega)]
    show x::l=[((x.toNat:Nat):Int)]++l
    rw [show ((x.toNat:Nat):Int)=x by omega]
    rfl
theorem Ko {l:List Int} {p n q:Nat} (hb:Aq l) (h:It l p=some (n,q)):l.drop p=Tc n++l.drop q∧n≤1000000000∧p<q∧q≤l.length:=by
 unfold It at h
 split at h
 ·rename_i m c hd
  simp only [Option.some.injEq,Prod.mk.injEq] at h
  obtain ⟨rfl,rfl⟩:=h
  have hb':Aq (l.drop p):=λ y hy=>hb y (List.mem_of_mem_drop hy)
  have hbd:=Km 5 0 0 _ _ _ hb' hd (by decide)
  obtain ⟨m',e1,e2,_,_⟩:=Dpa 4 0 0 _ _ _ hb' hd (by decide)
  have e3:m=m':=by rw [e1]; simp
  subst e3
  rw [List.length_drop] at hbd
  refine ⟨?_,hbd.2.2.2,by omega,by omega⟩
  rw [Nat.sub_zero,List.drop_drop] at e2
  exact e2
 ·cases h
theorem Mia (i:Nat) (hi:i<5):(2:Int) ^ (min (Int.toNat (IntKind.wrap .i64 (7 * (i:Int)))) (IntKind.bits .i64))=((128 ^ i:Nat):Int):=by
 have:i=0∨i=1∨i=2∨i=3∨i=4:=by omega
 rcases this with rfl|rfl|rfl|rfl|rfl<;>decide
theorem Lna (i:Nat) (hi:i<5):(2:Int) ^ (min (Int.toNat (IntKind.wrap .u64 (IntKind.wrap .i64 (7 * (i:Int))))) (IntKind.bits .i64))=((128 ^ i:Nat):Int):=by
 have:i=0∨i=1∨i=2∨i=3∨i=4:=by omega
 rcases this with rfl|rfl|rfl|rfl|rfl<;>decide
theorem sh7 (i:Nat) (hi:i<5):¬ (IntKind.wrap .i64 (7 * (i:Int))<0)∧¬ (IntKind.wrap .u64 (IntKind.wrap .i64 (7 * (i:Int)))<0):=by
 have:i=0∨i=1∨i=2∨i=3∨i=4:=by omega
 rcases this with rfl|rfl|rfl|rfl|rfl<;>decide
theorem I9 (i:Nat) (hi:i≤5):128 ^ i≤34359738368:=by
 have:=Nat.pow_le_pow_right (show 0<128 by decide) hi
 simpa using this
theorem Lo (n:Nat) (h:n<18446744073709551616):(BitVec.ofInt (IntKind.bits .i64) (n:Int)).toNat=n:=by
 rw [BitVec.toNat_ofInt]
 show ((n:Int) % ((2 ^ 64:Nat):Int)).toNat=n
 rw [Int.emod_eq_of_lt (by omega) (by omega)]
 exact Int.toNat_natCast n
theorem Hna (n:Nat) (h:n<9223372036854775808):IntKind.wrap .i64 ((BitVec.ofInt (IntKind.bits .i64) (n:Int) &&& BitVec.ofInt (IntKind.bits .i64) 127).toNat)=((n % 128:Nat):Int):=by
 rw [BitVec.toNat_and,Lo n (by omega),show (BitVec.ofInt (IntKind.bits .i64) 127).toNat=127 from by decide,show (127:Nat)=2 ^ 7 - 1 from rfl,Nat.and_two_pow_sub_one_eq_mod]
 exact w64 (by omega) (by omega)
theorem Xp (a m i:Nat) (ha:a<128 ^ i) (hm:m<128) (hi:i<5):IntKind.wrap .i64 ((BitVec.ofInt (IntKind.bits .i64) (a:Int) ||| BitVec.ofInt (IntKind.bits .i64) ((m * 128 ^ i:Nat):Int)).toNat)=((a+m * 128 ^ i:Nat):Int):=by
 have hp:=I9 i (by omega)
 have hmul:m * 128 ^ i≤127 * 34359738368:=Nat.mul_le_mul (by omega) hp
 rw [BitVec.toNat_or,Lo a (by omega),Lo _ (by omega),Nat.or_comm]
 have e:(128:Nat) ^ i=2 ^ (7 * i):=by rw [Nat.pow_mul]
 have h2:=Nat.two_pow_add_eq_or_of_lt (i:=7 * i) (b:=a) (by rw [← e]; exact ha) m
 rw [← e,Nat.mul_comm] at h2
 rw [← h2,Nat.add_comm]
 exact w64 (by omega) (by omega)
def Ur (l:List Int) (p:Int):Int×Int×Bool:=if p<0 then (0,0,false) else match It l p.toNat with
 |some (n,q)=>((n:Int),(q:Int),true)
 |none=>(0,0,false)
def Lba (p:Nat):Option (Nat×Nat)→Int×Int×Bool
 |some (n,c)=>((n:Int),((p+c:Nat):Int),true)
 |none=>(0,0,false)
def Oa (r:Sum (Int×Int×Bool) Unit):Int×Int×Bool:=Sum.elim (λ y=>y) (λ _=>(0,0,false)) r
theorem Sr {l:List Int} {p:Nat} (h:p<l.length):l.drop p=l.getD p 0::l.drop (p+1):=I8 h
theorem A6a (l:List Int) (hb:Aq l) (hl:l.length≤1000000000000) (p:Nat) (hp:p≤1000000000000):∀ (f i acc:Nat),f+i=5→acc<128 ^ i→
  Tot (λ k=>C5 k l (p:Int) (acc:Int) (i:Int)) (λ r=>Oa r=Lba p (Ou f i acc (l.drop (p+i)))):=by
 intro f
 induction f with
 |zero=>
  intro i acc hi ha
  refine Tot.succ ?_
  simp only [C5]
  exact Tot.ndec (by omega) (Tot.pure rfl)
 |succ f ih=>
  intro i acc hi ha
  have hi5:i<5:=by omega
  refine Tot.succ ?_
  simp only [C5]
  refine Tot.dec (by omega) (Tot.dec (by omega) ?_)
  rw [w64 (n:=(l.length:Int) - (i:Int)) (by omega) (by omega),w64 (n:=(p:Int)+(i:Int)) (by omega) (by omega),show Int.toNat ((p:Int)+(i:Int))=p+i by omega]
  refine Tot.dite (λ h=>?_) (λ h=>?_)
  ·have hlt:p+i<l.length:=by omega
   refine Tot.dec (by omega) (Tot.dec (by omega) ?_)
   have hx:=hb (l.getD (p+i) 0) (Bi hlt)
   rw [Sr hlt,Mia i hi5]
   have he:Ou (f+1) i acc (l.getD (p+i) 0::l.drop (p+i+1))=if 128≤l.getD (p+i) 0 then Ou f (i+1) (acc+(l.getD (p+i) 0).toNat % 128 * 128 ^ i) (l.drop (p+i+1)) else if (l.getD (p+i) 0=0∧0<i)∨1000000000<acc+(l.getD (p+i) 0).toNat % 128 * 128 ^ i then none else some (acc+(l.getD (p+i) 0).toNat % 128 * 128 ^ i,i+1):=rfl
   rw [he]
   generalize l.getD (p+i) 0=x at hx ⊢
   obtain ⟨v,rfl⟩:∃ v:Nat,x=(v:Int):=⟨x.toNat,by omega⟩
   rw [Int.toNat_natCast]
   have hp1:=I9 i (by omega)
   have hmul:v % 128 * 128 ^ i≤127 * 34359738368:=Nat.mul_le_mul (by omega) hp1
   rw [w64 (n:=(v:Int)) (by omega) (by omega)]
   have e1:Int.tmod (v:Int) 128 * ((128 ^ i:Nat):Int)=((v % 128 * 128 ^ i:Nat):Int):=by
    rw [Int.tmod_eq_emod_of_nonneg (by omega)]
    push_cast
    rfl
   rw [e1,w64 (n:=((v % 128 * 128 ^ i:Nat):Int)) (by omega) (by omega),← Int.natCast_add,w64 (n:=((acc+v % 128 * 128 ^ i:Nat):Int)) (by omega) (by omega),w64 (n:=(i:Int)+1) (by omega) (by omega),w64 (n:=(p:Int)+(i:Int)+1) (by omega) (by omega)]
   refine Tot.ndec (sh7 i hi5).1 ?_
   refine Tot.dite (λ h128=>?_) (λ h128=>?_)
   ·rw [if_pos (by omega)]
    have h1:acc+v % 128 * 128 ^ i<128 ^ (i+1):=by
     have h2:v % 128≤127:=by omega
     have h3:=Nat.mul_le_mul_right (128 ^ i) h2
     rw [Nat.pow_succ]
     omega
    have:=ih (i+1) (acc+v % 128 * 128 ^ i) (by omega) h1
    rw [show p+(i+1)=p+i+1 by omega] at this
    exact this
   ·rw [if_neg (by omega)]
    have big:Tot (λ _:Nat=>cond (decide (((acc+v % 128 * 128 ^ i:Nat):Int) > 1000000000)) (some (Sum.inl ((0:Int),(0:Int),false))) (some (Sum.inl (((acc+v % 128 * 128 ^ i:Nat):Int),(p:Int)+(i:Int)+1,true))):Nat→Option (Sum (Int×Int×Bool) Unit))
      (λ r=>Oa r=if 1000000000<acc+v % 128 * 128 ^ i then (0,0,false) else (((acc+v % 128 * 128 ^ i:Nat):Int),((p+(i+1):Nat):Int),true)):=by
     refine Tot.dite (λ hbig=>?_) (λ hbig=>?_)
     ·rw [if_pos (by omega)]; exact Tot.pure rfl
     ·rw [if_neg (by omega)]
      refine Tot.pure ?_
      show (_,_,_)=_
      rw [show (p:Int)+(i:Int)+1=((p+(i+1):Nat):Int) by omega]
    have goal:∀ c:Prop,[Decidable c]→(if c∨1000000000<acc+v % 128 * 128 ^ i then none else some (acc+v % 128 * 128 ^ i,i+1))=if c then none else if 1000000000<acc+v % 128 * 128 ^ i then (none:Option (Nat×Nat)) else some (acc+v % 128 * 128 ^ i,i+1):=by
     intro c _
     by_cases h1:c<;>by_cases h2:1000000000<acc+v % 128 * 128 ^ i<;>simp [h1,h2]
    rw [goal]
    have fin:(Lba p (if 1000000000<acc+v % 128 * 128 ^ i then (none:Option (Nat×Nat)) else some (acc+v % 128 * 128 ^ i,i+1)))=if 1000000000<acc+v % 128 * 128 ^ i then (0,0,false) else (((acc+v % 128 * 128 ^ i:Nat):Int),((p+(i+1):Nat):Int),true):=by
     split<;>rfl
    refine Tot.ite (λ h0=>?_) (λ h0=>?_)
    ·have hv:v=0:=by
      have:=beq_iff_eq.1 h0
      omega
     refine Tot.dite (λ hi0=>?_) (λ hi0=>?_)
     ·rw [if_pos ⟨by omega,by omega⟩]; exact Tot.pure rfl
     ·rw [if_neg (by omega),fin]; exact big
    ·have hv:v≠0:=by
      intro e
      subst e
      simp at h0
     rw [if_neg (by omega),fin]; exact big
  ·refine Tot.pure ?_
   rw [List.drop_of_length_le (by omega)]
   rfl
theorem Dqa (l:List Int) (hb:Aq l) (hl:l.length≤1000000000000) (p:Int) (hp:p≤1000000000000):Tot (λ k=>Cu k l p) (λ r=>r=Ur l p):=by
 unfold Cu Ur
 by_cases h0:p<0
 ·rw [if_pos h0]
  refine Tot.bind (Q:=λ r=>r = .inr ()) ?_ ?_
  ·refine Tot.succ ?_
   simp only [C5]
   exact Tot.dec (by omega) (Tot.ndec (by omega) (Tot.pure rfl))
  ·rintro r rfl
   exact Tot.pure rfl
 ·rw [if_neg h0]
  obtain ⟨n,rfl⟩:∃ n:Nat,p=(n:Int):=⟨p.toNat,by omega⟩
  rw [Int.toNat_natCast]
  refine Tot.bind (A6a l hb hl n (by omega) 5 0 0 rfl (by decide)) ?_
  intro r hr
  unfold It
  rw [Nat.add_zero] at hr
  have hr':Oa r=(match (match Ou 5 0 0 (l.drop n) with|some (m,c)=>some (m,n+c)|none=>none) with|some (m,q)=>((m:Int),(q:Int),true)|none=>((0:Int),(0:Int),false)):=by
   rw [hr]
   cases Ou 5 0 0 (l.drop n) with
   |none=>rfl
   |some mc=>rfl
  rw [← hr']
  cases r with
  |inl y=>exact Tot.pure rfl
  |inr z=>exact Tot.pure rfl

end Go.Proofs.Ytlfoljnopndpeaa.Vf
