import Derived.Test.YtflokceoeiplcaaGreatMaj
import Derived.Laws.StructEq
import Derived.Below
section
set_option linter.unusedVariables false
set_option linter.unusedSimpArgs false
namespace Go.Proofs.YtflokceoeiplcaaGreat.Vf
open Go
attribute [local irreducible] C H
def eq1:Lf→Lf→Option Bool
 |.sc (.int k x),.sc (.int k' y)=>if k=k' then some (x==y) else none
 |.sc (.bool x),.sc (.bool y)=>some (x==y)
 |.sc (.string x),.sc (.string y)=>some (x==y)
 |_,_=>none
theorem Sfa (a a':Lf) (l l':List Lf) {b:Bool} (h:Ef (a::l) (a'::l')=some b):∃ b1 b2,eq1 a a'=some b1∧Ef l l'=some b2∧b=(b1&&b2):=by
 unfold Ef at h
 split at h
 ·rename_i e _; cases e
 ·rename_i k x k' y e1 e2
  cases e1; cases e2
  by_cases hk:k=k'
  ·simp only [hk,decide_true,cond_true,Option.some.injEq] at h
   exact ⟨x==y,true,by simp only [eq1,hk,if_true],rfl,by simp [h]⟩
  ·simp [hk] at h
 ·rename_i x y e1 e2
  cases e1; cases e2
  simp only [Option.some.injEq] at h
  exact ⟨_,true,rfl,rfl,by simp [h]⟩
 ·rename_i x y e1 e2
  cases e1; cases e2
  simp only [Option.some.injEq] at h
  exact ⟨_,true,rfl,rfl,by simp [h]⟩
 ·rename_i k x l k' y l' _ e1 e2
  cases e1; cases e2
  by_cases hk:k=k'
  ·simp only [hk,decide_true,cond_true] at h
   split at h
   ·rename_i b2 hb
    simp only [Option.some.injEq] at h
    exact ⟨_,b2,by simp only [eq1,hk,if_true],hb,h.symm⟩
   ·cases h
  ·simp [hk] at h
 ·rename_i x l y l' _ e1 e2
  cases e1; cases e2
  split at h
  ·rename_i b2 hb
   simp only [Option.some.injEq] at h
   exact ⟨_,b2,rfl,hb,h.symm⟩
  ·cases h
 ·rename_i x l y l' _ e1 e2
  cases e1; cases e2
  split at h
  ·rename_i b2 hb
   simp only [Option.some.injEq] at h
   exact ⟨_,b2,rfl,hb,h.symm⟩
  ·cases h
 ·cases h
theorem Ada:∀ (l m l' m':List Lf) (b:Bool),l.length=l'.length→Ef (l++m) (l'++m')=some b→∃ b1 b2,Ef l l'=some b1∧Ef m m'=some b2∧b=(b1&&b2)
 |[],m,[],m',b,_,h=>⟨true,b,rfl,h,by simp⟩
 |[],_,_::_,_,_,hl,_=>by simp at hl
 |_::_,_,[],_,_,hl,_=>by simp at hl
 |a::l,m,a'::l',m',b,hl,h=>by
  obtain ⟨b1,b2,h1,h2,rfl⟩:=Sfa a a' (l++m) (l'++m') h
  obtain ⟨b3,b4,h3,h4,rfl⟩:=Ada l m l' m' b2 (by simpa using hl) h2
  refine ⟨b1&&b3,b4,?_,h4,by simp [Bool.and_assoc]⟩
  cases a with
  |sc u=>
   cases a' with
   |sc u'=>
    cases u<;>first|(simp [eq1] at h1; done)|skip
    all_goals (cases u'<;>first|(simp [eq1] at h1; done)|skip)
    ·rename_i x y
     simp only [eq1,Option.some.injEq] at h1
     cases l<;>cases l'<;>first|(simp at hl; done)|skip
     ·simp only [Ef,Option.some.injEq] at h3
      simp only [Ef]
      rw [← h3,← h1,Bool.and_true]
     ·simp only [Ef,h3]
      rw [← h1]
    ·rename_i k x k' y
     simp only [eq1] at h1
     by_cases hk:k=k'
     ·rw [if_pos hk] at h1
      simp only [Option.some.injEq] at h1
      cases l<;>cases l'<;>first|(simp at hl; done)|skip
      ·simp only [Ef,Option.some.injEq] at h3
       simp only [Ef,hk,decide_true,cond_true]
       rw [← h3,← h1,Bool.and_true]
      ·simp only [Ef,hk,decide_true,cond_true,h3]
       rw [← h1]
     ·rw [if_neg hk] at h1; cases h1
    ·rename_i x y
     simp only [eq1,Option.some.injEq] at h1
     cases l<;>cases l'<;>first|(simp at hl; done)|skip
     ·simp only [Ef,Option.some.injEq] at h3
      simp only [Ef]
      rw [← h3,← h1,Bool.and_true]
     ·simp only [Ef,h3]
      rw [← h1]
   |_=>cases u<;>simp [eq1] at h1
  |_=>simp [eq1] at h1
def eqB (P:Program) (ti:TypeId→Option TI):Nat→TypeId→Bool
 |0,_=>false
 |n+1,T=>match ti T,P.underlying T with
  |some t,some (.struct fs)=>t.ag && !(P.stoodInHeld T)&&T5 ti fs.toList 0 t.ty&&fs.toList.all (fun f => !(f.name == "_")&&eqB P ti n f.type)
  |some ⟨.i _,false,_,_⟩,some (.int _)=>true
  |some ⟨.b,false,_,_⟩,some .bool=>true
  |some ⟨.s,false,_,_⟩,some .string=>true
  |_,_=>false
section
variable {P:Program} {ti:TypeId→Option TI} {G:Nat→Prop} {w:World}
def Z4a (P:Program) (ti:TypeId→Option TI) (G:Nat→Prop) (w:World) (n:Nat):Prop:=
 ∀ T t d (X Y:t.ty.den) (us vs:List Value) (x y:Value) (b:Bool) (w':World),n≤d→eqB P ti n T=true→ti T=some t→M4 (L5 P G w) (A7 t.ty X) us→M4 (L5 P G w) (A7 t.ty Y) vs→Ef (A7 t.ty X) (A7 t.ty Y)=some b→
  (if t.ag then x = .agg us.toArray else us=[x])→(if t.ag then y = .agg vs.toArray else vs=[y])→(Op.equalIn d T x y).run P w' = .ok b w'
theorem Ua {T:TypeId} {t:TI} (hk:TOk P T t) {us:List Value} {off:Nat} (hl:off+t.ty.sz≤us.length) (w':World):
  ∃ u,(part T us.toArray off).run P w' = .ok u w'∧(if t.ag then u = .agg ((us.drop off).take t.ty.sz).toArray else (us.drop off).take t.ty.sz=[u]):=by
 obtain ⟨d,hd,hagg⟩:=Fua hk
 cases ha:t.ag with
 |true=>
  rw [ha] at hagg
  refine ⟨.agg (us.toArray.extract off (off+t.ty.sz)),?_,?_⟩
  ·unfold part
   simp only [Sem.run_bind,O7 hd hagg,Result.andThen_ok,if_true,L6 (Q0 hk),Sem.run_pure]
  ·simp only [if_true]
   congr 1
   apply Array.ext'
   rw [Array.toList_extract]
   simp [List.extract]
 |false=>
  rw [ha] at hagg
  have h1:=Mva hk ha
  have hlt:off<us.length:=by omega
  refine ⟨us[off],?_,?_⟩
  ·unfold part
   simp only [Sem.run_bind,O7 hd hagg,Result.andThen_ok,Bool.false_eq_true,if_false]
   have:us.toArray[off]? = some us[off]:=by simp [hlt]
   rw [this]
   rfl
  ·simp only [Bool.false_eq_true,if_false]
   rw [h1,List.drop_eq_getElem_cons hlt]
   rfl
theorem Dta (htok:∀ T t,ti T=some t→TOk P T t) {n:Nat} (ih:Z4a P ti G w n) {d:Nat} (hd:n≤d) {us vs:List Value} (w':World):
  ∀ (fs:List Field) (o:Nat) (ty:Ty) (X Y:ty.den) (b:Bool),T5 ti fs o ty=true→fs.all (fun f => !(f.name == "_")&&eqB P ti n f.type)=true→o+ty.sz≤us.length→o+ty.sz≤vs.length→
   M4 (L5 P G w) (A7 ty X) ((us.drop o).take ty.sz)→M4 (L5 P G w) (A7 ty Y) ((vs.drop o).take ty.sz)→
   Ef (A7 ty X) (A7 ty Y)=some b→(Op.eqFields d us.toArray vs.toArray fs).run P w' = .ok b w'
 |[],o,ty,X,Y,b,hp,_,_,_,_,_,_=>by cases ty<;>simp [T5] at hp
 |[f],o,ty,X,Y,b,hp,ha,hl,hl',h0,h0',he=>by
  simp only [T5,Bool.and_eq_true] at hp
  simp only [List.all_cons,Bool.and_eq_true,Bool.not_eq_true',beq_eq_false_iff_ne] at ha
  obtain ⟨⟨a1,a2⟩,_⟩:=ha
  obtain ⟨t,h1,h2⟩:=Pi hp.2
  have ho:f.offset=o:=Nat.eq_of_beq_eq_true hp.1
  subst h2
  subst ho
  obtain ⟨x,hx1,hx2⟩:=Ua (htok _ _ h1) hl w'
  obtain ⟨y,hy1,hy2⟩:=Ua (htok _ _ h1) hl' w'
  have hr:=ih f.type t d X Y _ _ x y b w' hd a2 h1 h0 h0' he hx2 hy2
  simp only [Op.eqFields,ne_eq,a1,not_false_eq_true,if_true,Sem.run_bind,hx1,hy1,hr,Result.andThen_ok]
  cases b<;>rfl
 |f::g::fs,o,ty,X,Y,b,hp,ha,hl,hl',h0,h0',he=>by
  cases ty<;>first|(simp [T5] at hp; done)|skip
  rename_i tx tyy
  simp only [T5,Bool.and_eq_true] at hp
  obtain ⟨⟨q0,q1⟩,hp⟩:=hp
  rw [List.all_cons,Bool.and_eq_true] at ha
  obtain ⟨ha0,ha⟩:=ha
  simp only [Bool.and_eq_true,Bool.not_eq_true',beq_eq_false_iff_ne] at ha0
  obtain ⟨a1,a2⟩:=ha0
  obtain ⟨t,h1,h2⟩:=Pi q1
  have ho:f.offset=o:=Nat.eq_of_beq_eq_true q0
  subst h2
  subst ho
  have hl2:f.offset+(t.ty.sz+tyy.sz)≤us.length:=hl
  have hl2':f.offset+(t.ty.sz+tyy.sz)≤vs.length:=hl'
  have he2:Ef (A7 t.ty X.1++A7 tyy X.2) (A7 t.ty Y.1++A7 tyy Y.2)=some b:=he
  have r0:M4 (L5 P G w) (A7 t.ty X.1++A7 tyy X.2) ((us.drop f.offset).take (t.ty.sz+tyy.sz)):=h0
  have r0':M4 (L5 P G w) (A7 t.ty Y.1++A7 tyy Y.2) ((vs.drop f.offset).take (t.ty.sz+tyy.sz)):=h0'
  have k1:=r0.take t.ty.sz
  have k2:=r0.drop t.ty.sz
  have k1':=r0'.take t.ty.sz
  have k2':=r0'.drop t.ty.sz
  have c1:=Ip t.ty X.1
  have c1':=Ip t.ty Y.1
  rw [← c1,List.take_left,c1,List.take_take,Nat.min_eq_left (by omega)] at k1
  rw [← c1',List.take_left,c1',List.take_take,Nat.min_eq_left (by omega)] at k1'
  have c2:∀ l:List Value,List.drop t.ty.sz (List.take (t.ty.sz+tyy.sz) l)=List.take tyy.sz (List.drop t.ty.sz l):=fun l=>by rw [List.drop_take]; congr 1; omega
  rw [c2,List.drop_drop] at k2 k2'
  rw [show List.drop t.ty.sz (A7 t.ty X.1++A7 tyy X.2)=A7 tyy X.2 by rw [← c1,List.drop_left]] at k2
  rw [show List.drop t.ty.sz (A7 t.ty Y.1++A7 tyy Y.2)=A7 tyy Y.2 by rw [← c1',List.drop_left]] at k2'
  obtain ⟨b1,b2,e1,e2,rfl⟩:=Ada _ _ _ _ b (by rw [c1,c1']) he2
  obtain ⟨x,hx1,hx2⟩:=Ua (htok _ _ h1) (us:=us) (off:=f.offset) (by omega) w'
  obtain ⟨y,hy1,hy2⟩:=Ua (htok _ _ h1) (us:=vs) (off:=f.offset) (by omega) w'
  have hr:=ih f.type t d X.1 Y.1 _ _ x y b1 w' hd a2 h1 k1 k1' e1 hx2 hy2
  have hr2:=Dta htok ih hd w' (g::fs) (f.offset+t.ty.sz) tyy X.2 Y.2 b2 hp ha (by omega) (by omega) k2 k2' e2
  rw [Op.eqFields]
  simp only [ne_eq,a1,not_false_eq_true,if_true,Sem.run_bind,hx1,hy1,hr,Result.andThen_ok]
  cases b1
  ·rfl
  ·simpa using hr2
theorem Uoa (htok:∀ T t,ti T=some t→TOk P T t):∀ n,Z4a P ti G w n
 |0=>by
  intro T t d X Y us vs x y b w' _ h
  simp [eqB] at h
 |n+1=>by
  intro T t d X Y us vs x y b w' hd h hT hl hl' he hx hy
  obtain ⟨d,rfl⟩:∃ m,d=m+1:=⟨d - 1,by omega⟩
  have one:∀ {us:List Value} {x:Value} {z:Lf},us=[x]→M4 (L5 P G w) [z] us→L5 P G w z x:=by
   intro us x z e h
   subst e
   cases h with
   |cons a h=>exact a
  unfold eqB at h
  rw [hT] at h
  split at h
  ·rename_i t0 fs e1 hu
   cases e1
   simp only [Bool.and_eq_true,Bool.not_eq_true'] at h
   obtain ⟨⟨⟨h1,h2⟩,h3⟩,h4⟩:=h
   rw [h1] at hx hy
   simp only [if_true] at hx hy
   subst hx hy
   have hfs:P.fieldsOf T=fs:=by unfold Program.fieldsOf; rw [hu]
   rw [run_equalIn_struct w' d T _ _ (by rw [hfs]; exact hu) h2,hfs]
   have e1:=hl.len
   have e2:=hl'.len
   rw [Ip] at e1 e2
   exact Dta htok (Uoa htok n) (by omega) w' fs.toList 0 t.ty X Y b h3 h4 (by omega) (by omega) (by rw [List.drop_zero,← e1,List.take_length]; exact hl) (by rw [List.drop_zero,← e2,List.take_length]; exact hl') he
  ·rename_i k by_ fo k' e1 hu
   cases e1
   simp only [Bool.false_eq_true,if_false] at hx hy
   have hz:=(one hx hl).1
   have hz':=(one hy hl').1
   subst hz hz'
   have he':(X==Y)=b:=by simpa [A7,Ef] using he
   rw [← he']
   simp [Op.equalIn,run_underlying hu]
  ·rename_i by_ fo e1 hu
   cases e1
   simp only [Bool.false_eq_true,if_false] at hx hy
   have hz:=(one hx hl).1
   have hz':=(one hy hl').1
   subst hz hz'
   have he':(X==Y)=b:=by simpa [A7,Ef] using he
   rw [← he']
   simp [Op.equalIn,run_underlying hu]
  ·rename_i by_ fo e1 hu
   cases e1
   simp only [Bool.false_eq_true,if_false] at hx hy
   have hz:=(one hx hl).1
   have hz':=(one hy hl').1
   subst hz hz'
   have he':(X==Y)=b:=by simpa [A7,Ef] using he
   rw [← he']
   simp [Op.equalIn,run_underlying hu]
  ·cases h
end
theorem Z5a:∀ (t:Ty) (l l':List Lf) (x:t.den),O3 l=true→mkT t l=some (x,l')→l=A7 t x++l'∧O3 l'=true:=by
 intro t
 induction t with
 |pr p q ihp ihq=>
  intro l l' x h hm
  simp only [mkT] at hm
  split at hm
  ·rename_i y l1 h1
   split at hm
   ·rename_i z l2 h2
    simp only [Option.some.injEq,Prod.mk.injEq] at hm
    obtain ⟨rfl,rfl⟩:=hm
    obtain ⟨e1,a1⟩:=ihp _ _ _ h h1
    obtain ⟨e2,a2⟩:=ihq _ _ _ a1 h2
    refine ⟨?_,a2⟩
    rw [e1,e2,← List.append_assoc]
    rfl
   ·cases hm
  ·cases hm
 |_=>
  intro l l' x h hm
  cases l with
  |nil=>simp [mkT] at hm
  |cons z l=>
   cases z<;>first|(simp [O3] at h; done)|skip
   rename_i v
   cases v<;>first|(simp [mkT] at hm; done)|skip
   all_goals
    simp only [O3] at h
    simp only [mkT] at hm
    first
     |(simp only [Option.some.injEq,Prod.mk.injEq] at hm; obtain ⟨rfl,rfl⟩:=hm; exact ⟨rfl,h⟩)
     |(
       rename_i k k' n
       by_cases hk:k=k'
       ·subst hk
        simp only [decide_true,cond_true,Option.some.injEq,Prod.mk.injEq] at hm
        obtain ⟨rfl,rfl⟩:=hm
        exact ⟨rfl,h⟩
       ·simp [hk] at hm)
theorem Aob {P:Program} {ti:TypeId→Option TI} (htok:∀ T t,ti T=some t→TOk P T t) {T:TypeId} (h:eqB P ti 9 T=true) (hag:(match ti T with|some t=>t.ag|none=>false)=true) (hg:P.eqGuardType P.depth T=false) (G:Nat→Prop) (w w':World) (x y:Operand) (l l':List Lf) (us vs:List Value) (b:Bool)
  (h1:M4 (L5 P G w) l us) (h2:M4 (L5 P G w) l' vs) (he:Ef l l'=some b) (ha:O3 l=true) (ha':O3 l'=true) (hk:Ms (ti T) l=true) (hk':Ms (ti T) l'=true):
  (Op.equal T (.agg us.toArray) (.agg vs.toArray)).run P w' = .ok b w'∧(eqGuard .eql T x y (.agg us.toArray) (.agg vs.toArray)).run P w' = .ok () w'∧(eqGuard .neq T x y (.agg us.toArray) (.agg vs.toArray)).run P w' = .ok () w':=by
 refine ⟨?_,run_eqGuard_agg w' _ T x y _ _ hg,run_eqGuard_agg w' _ T x y _ _ hg⟩
 unfold Ms at hk hk'
 split at hk
 ·rename_i t hT
  rw [hT] at hk' hag
  simp only at hk' hag
  have key:∀ {l:List Lf},O3 l=true→(mkW t.ty l).isSome=true→∃ X,l=A7 t.ty X:=by
   intro l ha hk
   obtain ⟨X,hX⟩:=Option.isSome_iff_exists.1 hk
   unfold mkW at hX
   split at hX
   ·rename_i z hz
    cases hX
    obtain ⟨e1,_⟩:=Z5a t.ty l [] _ ha hz
    exact ⟨_,by rw [e1,List.append_nil]⟩
   ·cases hX
  obtain ⟨X,rfl⟩:=key ha hk
  obtain ⟨Y,rfl⟩:=key ha' hk'
  exact Uoa htok 9 T t Op.maxDepth X Y us vs _ _ b w' (by decide) h hT h1 h2 he (by rw [hag]; rfl) (by rw [hag]; rfl)
 ·cases hk
end Go.Proofs.YtflokceoeiplcaaGreat.Vf
end

section
set_option linter.unusedVariables false
set_option linter.unusedSimpArgs false
namespace Go.Proofs.YtflokceoeiplcaaGreat.Vf
open Go Go.RowKit
attribute [local irreducible] C H
def Ln:Code→List Code
 |.seq a b=>Ln a++Ln b
 |.cond _ a b=>Ln a++Ln b
 |.block _ c=>Ln c
 |.loop c=>[c]
 |_=>[]
theorem Ooa {X:Cx} {E:En}:∀ (c:Code),(∀ d∈Ln c,∀ L,E.lp (first d)=some L→Dia X L d)→Mw X E c:=by
 intro c
 induction c with
 |seq a b iha ihb=>exact fun h=>⟨iha fun d hd=>h d (List.mem_append_left _ hd),ihb fun d hd=>h d (List.mem_append_right _ hd)⟩
 |cond x a b iha ihb=>exact fun h=>⟨iha fun d hd=>h d (List.mem_append_left _ hd),ihb fun d hd=>h d (List.mem_append_right _ hd)⟩
 |block i c ih=>exact fun h=>ih h
 |loop c ih=>exact fun h=>h c (by simp [Ln])
 |_=>exact fun h=>trivial
theorem Sga {X:Cx} {E:En} {c b:Code} (ids:List Nat) (h1:Ln c=ids.map fun l=>Kz l b) (h2:(ids.map fun l=>first (Kz l b))=ids) (h3:∀ l∈ids,∀ L,E.lp l=some L→Dia X L (Kz l b)):Mw X E c:=by
 refine Ooa c fun d hd L hL=>?_
 rw [h1] at hd
 obtain ⟨l,hl,rfl⟩:=List.mem_map.1 hd
 have:first (Kz l b)=l:=by
  have key:∀ (is:List Nat),(is.map fun l=>first (Kz l b))=is→∀ l∈is,first (Kz l b)=l:=by
   intro is
   induction is with
   |nil=>intro _ l hl; simp at hl
   |cons i is ih=>
    intro e l hl
    simp only [List.map_cons,List.cons.injEq] at e
    rcases List.mem_cons.1 hl with rfl|hl
    ·exact e.1
    ·exact ih e.2 l hl
  exact key ids h2 l hl
 rw [this] at hL
 exact h3 l hl L hL
theorem Z6a {P:Program} {X:Cx} {E:En} {ti:TypeId→Option TI} {eqs:TypeId→Bool} (hP:X.P=P) (h1:E.nt=X.nt) (h2:E.np=X.np) (h3:E.ti=ti) (h4:E.eq=eqs) (htok:∀ T t,ti T=some t→TOk P T t)
  (heq:∀ T,eqs T=true→eqB P ti 9 T=true∧(match ti T with|some t=>t.ag|none=>false)=true∧P.eqGuardType P.depth T=false) (hc:∀ f en,E.call f=some en→A4 P f en):V9 X E:=by
 refine ⟨⟨h1,h2,fun T t h=>?_,fun T h G w w' x y l l' us vs b=>?_⟩,fun f en h=>?_⟩
 ·rw [hP]; rw [h3] at h; exact htok T t h
 ·rw [hP,h3]
  rw [h4] at h
  obtain ⟨e1,e2,e3⟩:=heq T h
  exact Aob htok e1 e2 e3 G w w' x y l l' us vs b
 ·rw [hP]; exact hc f en h
def Wpa {t:Ty} : {ts:List Ty}→t.den→Den ts→Den (t::ts)
 |[],x,_=>x
 |_::_,x,y=>(x,y)
theorem Dua {t:Ty} {ts:List Ty} {x:t.den} {y:Den ts}:Ed (t::ts) (Wpa x y)=A7 t x::Ed ts y:=by
 cases ts<;>rfl
inductive Upa (P:Program) (w:World):(ps:List Par)→Den (ps.map Par.ty)→List Value→Prop
 |nil:Upa P w [] () []
 |cons {ag:Bool} {t:Ty} {ps:List Par} {X:t.den} {Y:Den (ps.map Par.ty)} {u:Value} {us vs:List Value} (hn:Jy t=true) (hu:if ag then u = .agg vs.toArray else vs=[u])
   (hr:t.rep P (fun k=>k<w.heap.size) w X vs) (h:Upa P w ps Y us):Upa P w (.val ag t::ps) (Wpa (t:=t) (ts:=ps.map Par.ty) X Y) (u::us)
def Sha (w:World):Nat→Lab:=fun k=>if k<w.heap.size then .fz else .no
theorem Sia {P:Program} {w:World}:∀ {ps:List Par} {x:Den (ps.map Par.ty)} {us:List Value},Upa P w ps x us→us.length=ps.length:=by
 intro ps x us h
 induction h with
 |nil=>rfl
 |cons _ _ _ _ ih=>simp [ih]
theorem Opa {P:Program} {w:World} {rg:Nat→Nat×Nat} {nv:Nat} {hs:List Value}:∀ {ps:List Par} {x:Den (ps.map Par.ty)} {us:List Value} (i:Nat),Upa P w ps x us→Nu P (bare (Sha w) w) rg nv hs i ps (Ed _ x) us:=by
 intro ps x us i h
 induction h generalizing i with
 |nil=>trivial
 |@cons ag t ps X Y u us vs hn hu hr h ih=>
  show Nu P (bare (Sha w) w) rg nv hs i (.val ag t::ps) (Ed (t::ps.map Par.ty) (Wpa X Y)) (u::us)
  rw [Dua]
  refine ⟨⟨vs,hu,?_⟩,ih (i+1)⟩
  have h1:=O6 (P:=P) (G:=fun k=>Sha w k = .fz) (w:=w) t X vs (Ty.rep_mono (fun k hk=>by unfold Sha; rw [if_pos hk]) (fun _ _=>rfl) t X vs hr)
  rw [V5 t X hn]
  exact Aa.ofRep (S:=bare (Sha w) w) h1 _ _
theorem Sja {P:Program} {f:FuncId} {en:Ent} (hs:W2a P f en) {w:World} {us:List Value} {x:Den (en.ps.map Par.ty)} (hc:Upa P w en.ps x us) (hnv:Nat.ble en.ps.length en.nv=true) {r:Den (en.rs.map Prod.snd++Lj en.ps)} (hr:en.run x=some r)
  (hrs:en.rs=[(.one,.b)]) (hl:∃ ls,Ed _ r=[.sc (.bool true)]::ls):Calls P f us.toArray w (fun e w'=>e = .returned (.bool true)∧Below w.heap.size w w'):=by
 have htk:us.take en.nv=us:=List.take_of_length_le (by rw [Sia hc]; exact Nat.le_of_ble_eq_true hnv)
 have hcalls:=hs x r hr w (Sha w) (fun _=>(0,0)) us (fun k hk=>by
  unfold Sha at hk
  split at hk
  ·assumption
  ·exact (hk rfl).elim) (fun k b hk=>by
  unfold Sha at hk
  split at hk<;>cases hk) (Opa 0 hc)
 rw [htk] at hcalls
 refine Sz hcalls ?_
 rintro e w' ⟨v,O',rfl,hF,_,hR,_⟩
 obtain ⟨ls,hl⟩:=hl
 rw [hl] at hR
 rw [hrs] at hR
 obtain ⟨l,ls',e1,h1⟩:=hR
 cases e1
 have h2:Aa P (bare O' w') (fun _ => .tm 1 []) 0 [.sc (.bool true)] [v]:=h1
 have hv:v = .bool true:=h2.1.1
 subst hv
 exact ⟨rfl,hF.os,hF.tape,hF.out,hF.size,fun k hk=>(hF.fz k hk (by unfold Sha; rw [if_pos hk])).2⟩
theorem Ska {H':Type} {enc:TypeId×Value→H'} {P:Program} {w:World} {base:Nat} {spare:Nat→Bool} {held:Bool} {ti:TypeId→Option TI} (htok:∀ T t,ti T=some t→TOk P T t) (hcl:∀ T,Rz P ti T=true)
  {T:TypeId} {t:TI} (hT:ti T=some t) {v:Value} {d:DataW H'} {p:List MemPlace} {b0:Nat} (hv:Value.okWide P w .any b0 T v) (h:DataW.Trod enc P w base spare held T v d p)
  {ts:List TypeId} {ds:List (DataW H')} (hw:(DataW.weightsEach P ts ds).all (· ≤ reachBytes)=true) {j:Nat} (hj:ts[j]? = some T) (hd:ds[j]? = some d):
  ∃ (X:t.ty.den) (vs:List Value),(if t.ag then v = .agg vs.toArray else vs=[v])∧t.ty.rep P (fun k=>k<w.heap.size) w X vs∧t.ty.fit ti X:=by
 obtain ⟨n,hn⟩:=h
 obtain ⟨X,r,f⟩:=Bsa htok hcl n T t _ _ hT hn (fun m hm=>by
  have:=List.all_eq_true.1 hw m (DataW.weights_mem_each hj hd m hm)
  exact of_decide_eq_true this)
 refine ⟨X,_,?_,r,f⟩
 have hc:=hcl T
 unfold Rz at hc
 rw [hT] at hc
 unfold Value.okWide at hv
 split at hc
 ·rename_i e; cases e
 ·rename_i t0 fs e1 hu
  cases e1
  simp only [Bool.and_eq_true] at hc
  rw [hc.1]
  rw [hu] at hv
  obtain ⟨cs,rfl,_⟩:=hv
  simp [Value.cells]
 all_goals first
  |(cases hc; done)
  |(rename_i hu; rw [hu] at hv; simp only [Cell.okWide,hu] at hv; rename_i e1; cases e1; simp only [Bool.false_eq_true,if_false]; have hsz:=Ty.rep_len _ _ _ r; cases v<;>first|(simp [Value.cells]; done)|(simp only [Cell.ok,hu] at hv; done)|(simp [Cell.ok,hu] at hv; done))
end Go.Proofs.YtflokceoeiplcaaGreat.Vf
end

section
set_option linter.unusedVariables false
set_option linter.unusedSimpArgs false
namespace Go.Proofs.YtflokceoeiplcaaGreat.Vf
open Go Go.RowKit
attribute [local irreducible] C H
def lk {α:Type}:List (Nat×α)→Nat→Option α
 |[],_=>none
 |(i,a)::l,n=>bif Nat.beq n i then some a else lk l n
structure LF where
 ins:Cja
 alts:List (Ex×Cja)
 f:Nat→ins.den→Option (R1a alts)
@[reducible] def LF.at (p:LF) (k:Nat):Lp:=⟨p.ins,p.alts,p.f k⟩
structure Fd where
 nt:Nat
 nv:Nat
 nm:List Nat
 res:List Nat
 cs:Nat→List (FuncId×Ent):=fun _=>[]
 ls:List (Nat×LF):=[]
 hint:List (Nat×Ty):=[]
 mv:List Nat:=[]
 gh:List (Nat×List Gh):=[]
 opn:List Nat:=[]
 sh:Bool:=false
 rf:Bool:=false
def Fd.n (D:Fd) (ti:TypeId→Option TI) (eqs:TypeId→Bool) (k:Nat):En:=
 ⟨D.nt,ti,eqs,D.nm.contains,D.res.contains,lk (D.cs k),fun l=>match lk D.ls l with|some p=>some (p.at k)|none=>none,D.nv,lk D.hint,D.mv.contains,fun n=>(lk D.gh n).getD [],D.opn.contains,fun _=>D.sh,D.rf⟩
theorem Uqa {α:Type}:∀ {l:List (Nat×α)} {n:Nat} {a:α},lk l n=some a→n∈l.map Prod.fst
 |[],_,_,h=>by cases h
 |(i,b)::l,n,a,h=>by
  unfold lk at h
  cases hb:Nat.beq n i with
  |true=>rw [Nat.eq_of_beq_eq_true hb]; simp
  |false=>
   rw [hb,cond_false] at h
   exact List.mem_cons_of_mem _ (Uqa h)
def Li (P:Program):List (FuncId×Ent)→Prop
 |[]=>True
 |c::l=>A4 P c.1 c.2∧Li P l
theorem Oqa {P:Program}:∀ {l:List (FuncId×Ent)} {f:FuncId} {en:Ent},Li P l→lk l f=some en→A4 P f en
 |[],_,_,_,h=>by cases h
 |(i,a)::l,f,en,hc,h=>by
  unfold lk at h
  cases hb:Nat.beq f i with
  |true=>
   rw [hb,cond_true] at h
   cases h
   rw [Nat.eq_of_beq_eq_true hb]
   exact hc.1
  |false=>rw [hb,cond_false] at h; exact Oqa hc.2 h
@[reducible] def bo (fn:Func):Code:=fn.body.getD .skip
structure Wr (P:Program) (ti:TypeId→Option TI) (eqs:TypeId→Bool):Prop where
 tok:∀ T t,ti T=some t→TOk P T t
 eq:∀ T,eqs T=true→eqB P ti 9 T=true∧(match ti T with|some t=>t.ag|none=>false)=true∧P.eqGuardType P.depth T=false
 mix:P.follows .mixedOrders=true
def LK (P:Program) (fn:Func) (D:Fd) (l:Nat) (p:LF):Prop:=∀ X:Cx,X.P=P→X.nt=fn.ntmps→X.np=D.nv→∀ k,Dia X (p.at k) (Kz l (bo fn))
def Z7a (P:Program) (fn:Func) (D:Fd):List Nat→Prop
 |[]=>True
 |l::r=>(match lk D.ls l with|some p=>LK P fn D l p|none=>True)∧Z7a P fn D r
theorem Ora {P:Program} {fn:Func} {D:Fd} {l:Nat} {p:LF} (hp:lk D.ls l=some p):∀ {r:List Nat},Z7a P fn D r→l∈r→LK P fn D l p
 |[],_,h=>by cases h
 |i::r,ha,h=>by
  rcases List.mem_cons.1 h with rfl|h
  ·have:=ha.1
   rw [hp] at this
   exact this
  ·exact Ora hp ha.2 h
section
variable {P:Program} {ti:TypeId→Option TI} {eqs:TypeId→Bool} {fn:Func}
theorem Apb (hS:Wr P ti eqs) {D:Fd} {k:Nat} (hn:Nat.beq D.nt fn.ntmps=true) (hc:Li P (D.cs k)) {X:Cx} (hP:X.P=P) (hx:X.nt=fn.ntmps) (hp:X.np=D.nv):V9 X (D.n ti eqs k):=
 Z6a hP ((Nat.eq_of_beq_eq_true hn).trans hx.symm) hp.symm rfl rfl hS.tok hS.eq (fun _ _ h=>Oqa hc h)
theorem Z8a (hS:Wr P ti eqs) {D:Fd} {k:Nat} (hn:Nat.beq D.nt fn.ntmps=true) (hc:Li P (D.cs k)) {X:Cx} (hP:X.P=P) (hx:X.nt=fn.ntmps) (hp:X.np=D.nv):Dja X (D.n ti eqs k):=
 Woa (Apb hS hn hc hP hx hp) (by rw [hP]; exact hS.mix)
theorem Ura {D:Fd} {k:Nat} {c:Code} {ids:List Nat} (h:(Ln c,ids.map fun l=>first (Kz l (bo fn)))=(ids.map fun l=>Kz l (bo fn),ids)) (hi:Z7a P fn D ids) {X:Cx} (hP:X.P=P) (hx:X.nt=fn.ntmps) (hp:X.np=D.nv):Mw X (D.n ti eqs k) c:=by
 rw [Prod.mk.injEq] at h
 refine Sga (b:=bo fn) ids h.1 h.2 fun l hl L hL=>?_
 have hL':(match lk D.ls l with|some p=>some (p.at k)|none=>none)=some L:=hL
 cases hp':lk D.ls l with
 |none=>rw [hp'] at hL'; cases hL'
 |some p=>
  rw [hp'] at hL'
  cases hL'
  exact Ora hp' hi hl X hP hx hp k
@[reducible] def Bkb (ti:TypeId→Option TI) (eqs:TypeId→Bool) (fn:Func) (D:Fd) (l:Nat) (p:LF):Prop:=∀ k x,Mla (D.n ti eqs k) (p.at k) (Kz l (bo fn)) x=p.f (k+1) x
theorem mkL (hS:Wr P ti eqs) {D:Fd} {l:Nat} {p:LF} (ids:List Nat) (hn:Nat.beq D.nt fn.ntmps=true) (hc:∀ k,Li P (D.cs k)) (hi:Z7a P fn D ids) (h:(Ln (Kz l (bo fn)),ids.map fun l=>first (Kz l (bo fn)))=(ids.map fun l=>Kz l (bo fn),ids)) (h0:∀ x,p.f 0 x=none) (hs:Bkb ti eqs fn D l p):LK P fn D l p:=
 fun X hP hx hp=>Waa (ins:=p.ins) (alts:=p.alts) (f:=p.f) (En':=D.n ti eqs) h0 hs (fun k=>Apb hS hn (hc k) hP hx hp) (fun k=>Z8a hS hn (hc k) hP hx hp) (fun k=>Ura h hi hP hx hp)
def B8b (fn:Func) (D:Fd) (en:Ent):Bool:=Nat.beq D.nt fn.ntmps&&(Nat.ble fn.ntmps 1000&&(Nat.ble en.nv fn.ntmps&&(Nat.beq en.nv D.nv&&(fn.body.isSome&&(!(fn.name == "runtime.NumGoroutine")&&G9a en)))))
theorem mkS (hS:Wr P ti eqs) {f:FuncId} {D:Fd} {k:Nat} {en:Ent} (ids:List Nat) (hf:P.funcs[f]? = some fn) (hc:Li P (D.cs k)) (hi:Z7a P fn D ids) (hk:B8b fn D en=true) (h:(Ln (bo fn),ids.map fun l=>first (Kz l (bo fn)))=(ids.map fun l=>Kz l (bo fn),ids))
  (hr:∀ x,Uaa (D.n ti eqs k) (bo fn) fn.results.toList en x=en.run x):A4 P f en:=by
 unfold B8b at hk
 simp only [Bool.and_eq_true,Bool.not_eq_true'] at hk
 obtain ⟨h1,h2,h3,h4,h5,h6,h7⟩:=hk
 have h4:=Nat.eq_of_beq_eq_true h4
 have hb:fn.body=some (bo fn):=by
  unfold bo
  cases hb:fn.body with
  |none=>rw [hb] at h5; cases h5
  |some c=>rfl
 refine ⟨⟨fn,hf,h6,by rw [hb]; rfl⟩,Kva hf hb (Nat.le_of_ble_eq_true h2) (Nat.le_of_ble_eq_true h3) (fun X hP hx hp=>?_) (fun X hP hx hp=>?_) (fun X hP hx hp=>?_) h7 hr⟩
 ·exact Apb hS h1 hc hP hx (hp.trans h4)
 ·exact Z8a hS h1 hc hP hx (hp.trans h4)
 ·exact Ura h hi hP hx (hp.trans h4)
theorem Aqb {keys Y1a:List Nat} (hk:∀ {T t},ti T=some t→T∈keys) (h1:(keys.all fun T=>(match ti T with|some t=>Akb P T t|none=>true)&&Rz P ti T)=true)
  (h2:(Y1a.all fun T=>eqB P ti 9 T&&(match ti T with|some t=>t.ag|none=>false) && !(P.eqGuardType P.depth T))=true) (he:eqs=fun T=>Y1a.contains T) (hm:P.follows .mixedOrders=true):Wr P ti eqs∧∀ T,Rz P ti T=true:=by
 refine ⟨⟨fun T t h=>?_,fun T h=>?_,hm⟩,fun T=>?_⟩
 ·have h3:=List.all_eq_true.1 h1 T (hk h)
  rw [Bool.and_eq_true,h] at h3
  exact Yda _ _ _ h3.1
 ·rw [he] at h
  have h3:=List.all_eq_true.1 h2 T (List.elem_iff.1 h)
  simp only [Bool.and_eq_true,Bool.not_eq_true'] at h3
  exact ⟨h3.1.1,h3.1.2,h3.2⟩
 ·cases h:ti T with
  |none=>unfold Rz; rw [h]
  |some t=>
   have h3:=List.all_eq_true.1 h1 T (hk h)
   rw [Bool.and_eq_true] at h3
   exact h3.2
end
end Go.Proofs.YtflokceoeiplcaaGreat.Vf
end
