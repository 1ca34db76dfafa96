import Derived.Test.YtcgfpppmikhgmaaGreatMaj
import Derived.Laws.StructEq
import Derived.Below
set_option linter.unusedVariables false
set_option linter.unusedSimpArgs false
namespace Go.Proofs.YtcgfpppmikhgmaaGreat.Vf
open Go

section
attribute [local irreducible] C H
def eq1:Lf→Lf→Option Bool
 |.sc (.int k x),.sc (.int k' y)=>if k=k' then some (x==y) else none
 |.sc (.bool x),.sc (.bool y)=>some (x==y)
 |.sc (.string x),.sc (.string y)=>some (x==y)
 |_,_=>none
theorem Uca (a a':Lf) (l l':List Lf) {b:Bool} (h:F3 (a::l) (a'::l')=some b):∃ b1 b2,eq1 a a'=some b1∧F3 l l'=some b2∧b=(b1&&b2):=by
 unfold F3 at h
 split at h
 ·rename_i e _; cases e
 ·rename_i k x k' y e1 e2
  cases e1; cases e2
  by_cases hk:k=k'
  ·simp only [hk,decide_true,cond_true,Option.some.injEq] at h
   exact ⟨x==y,true,by simp only [eq1,hk,if_true],rfl,by simp [h]⟩
  ·simp [hk] at h
 ·rename_i x y e1 e2
  cases e1; cases e2
  simp only [Option.some.injEq] at h
  exact ⟨_,true,rfl,rfl,by simp [h]⟩
 ·rename_i x y e1 e2
  cases e1; cases e2
  simp only [Option.some.injEq] at h
  exact ⟨_,true,rfl,rfl,by simp [h]⟩
 ·rename_i k x l k' y l' _ e1 e2
  cases e1; cases e2
  by_cases hk:k=k'
  ·simp only [hk,decide_true,cond_true] at h
   split at h
   ·rename_i b2 hb
    simp only [Option.some.injEq] at h
    exact ⟨_,b2,by simp only [eq1,hk,if_true],hb,h.symm⟩
   ·cases h
  ·simp [hk] at h
 ·rename_i x l y l' _ e1 e2
  cases e1; cases e2
  split at h
  ·rename_i b2 hb
   simp only [Option.some.injEq] at h
   exact ⟨_,b2,rfl,hb,h.symm⟩
  ·cases h
 ·rename_i x l y l' _ e1 e2
  cases e1; cases e2
  split at h
  ·rename_i b2 hb
   simp only [Option.some.injEq] at h
   exact ⟨_,b2,rfl,hb,h.symm⟩
  ·cases h
 ·cases h
theorem Bja:∀ (l m l' m':List Lf) (b:Bool),l.length=l'.length→F3 (l++m) (l'++m')=some b→∃ b1 b2,F3 l l'=some b1∧F3 m m'=some b2∧b=(b1&&b2)
 |[],m,[],m',b,_,h=>⟨true,b,rfl,h,by simp⟩
 |[],_,_::_,_,_,hl,_=>by simp at hl
 |_::_,_,[],_,_,hl,_=>by simp at hl
 |a::l,m,a'::l',m',b,hl,h=>by
  obtain ⟨b1,b2,h1,h2,rfl⟩:=Uca a a' (l++m) (l'++m') h
  obtain ⟨b3,b4,h3,h4,rfl⟩:=Bja l m l' m' b2 (by simpa using hl) h2
  refine ⟨b1&&b3,b4,?_,h4,by simp [Bool.and_assoc]⟩
  cases a with
  |sc u=>
   cases a' with
   |sc u'=>
    cases u<;>first|(simp [eq1] at h1; done)|skip
    all_goals (cases u'<;>first|(simp [eq1] at h1; done)|skip)
    ·rename_i x y
     simp only [eq1,Option.some.injEq] at h1
     cases l<;>cases l'<;>first|(simp at hl; done)|skip
     ·simp only [F3,Option.some.injEq] at h3
      simp only [F3]
      rw [← h3,← h1,Bool.and_true]
     ·simp only [F3,h3]
      rw [← h1]
    ·rename_i k x k' y
     simp only [eq1] at h1
     by_cases hk:k=k'
     ·rw [if_pos hk] at h1
      simp only [Option.some.injEq] at h1
      cases l<;>cases l'<;>first|(simp at hl; done)|skip
      ·simp only [F3,Option.some.injEq] at h3
       simp only [F3,hk,decide_true,cond_true]
       rw [← h3,← h1,Bool.and_true]
      ·simp only [F3,hk,decide_true,cond_true,h3]
       rw [← h1]
     ·rw [if_neg hk] at h1; cases h1
    ·rename_i x y
     simp only [eq1,Option.some.injEq] at h1
     cases l<;>cases l'<;>first|(simp at hl; done)|skip
     ·simp only [F3,Option.some.injEq] at h3
      simp only [F3]
      rw [← h3,← h1,Bool.and_true]
     ·simp only [F3,h3]
      rw [← h1]
   |_=>cases u<;>simp [eq1] at h1
  |_=>simp [eq1] at h1
def eqB (P:Program) (ti:TypeId→Option TI):Nat→TypeId→Bool
 |0,_=>false
 |n+1,T=>match ti T,P.underlying T with
  |some t,some (.struct fs)=>t.ag && !(P.stoodInHeld T)&&U5 ti fs.toList 0 t.ty&&fs.toList.all (λ f => !(f.name == "_")&&eqB P ti n f.type)
  |some ⟨.i _,false,_,_⟩,some (.int _)=>true
  |some ⟨.b,false,_,_⟩,some .bool=>true
  |some ⟨.s,false,_,_⟩,some .string=>true
  |_,_=>false
section
variable {P:Program} {ti:TypeId→Option TI} {G:Nat→Prop} {w:World}
def B6b (P:Program) (ti:TypeId→Option TI) (G:Nat→Prop) (w:World) (n:Nat):Prop:=
 ∀ T t d (X Y:t.ty.den) (us vs:List Value) (x y:Value) (b:Bool) (w':World),n≤d→eqB P ti n T=true→ti T=some t→N1 (M4 P G w) (A7 t.ty X) us→N1 (M4 P G w) (A7 t.ty Y) vs→F3 (A7 t.ty X) (A7 t.ty Y)=some b→
  (if t.ag then x = .agg us.toArray else us=[x])→(if t.ag then y = .agg vs.toArray else vs=[y])→(Op.equalIn d T x y).run P w' = .ok b w'
theorem W1 {T:TypeId} {t:TI} (hk:TOk P T t) {us:List Value} {off:Nat} (hl:off+t.ty.sz≤us.length) (w':World):
  ∃ u,(part T us.toArray off).run P w' = .ok u w'∧(if t.ag then u = .agg ((us.drop off).take t.ty.sz).toArray else (us.drop off).take t.ty.sz=[u]):=by
 obtain ⟨d,hd,hagg⟩:=H9a hk
 cases ha:t.ag with
 |true=>
  rw [ha] at hagg
  refine ⟨.agg (us.toArray.extract off (off+t.ty.sz)),?_,?_⟩
  ·unfold part
   simp only [Sem.run_bind,Pd hd hagg,Result.andThen_ok,if_true,M5 (R3 hk),Sem.run_pure]
  ·simp only [if_true]
   congr 1
   apply Array.ext'
   rw [Array.toList_extract]
   simp [List.extract]
 |false=>
  rw [ha] at hagg
  have h1:=Oia hk ha
  have hlt:off<us.length:=by omega
  refine ⟨us[off],?_,?_⟩
  ·unfold part
   simp only [Sem.run_bind,Pd hd hagg,Result.andThen_ok,Bool.false_eq_true,if_false]
   have:us.toArray[off]? = some us[off]:=by simp [hlt]
   rw [this]
   rfl
  ·simp only [Bool.false_eq_true,if_false]
   rw [h1,List.drop_eq_getElem_cons hlt]
   rfl
theorem F2a (htok:∀ T t,ti T=some t→TOk P T t) {n:Nat} (ih:B6b P ti G w n) {d:Nat} (hd:n≤d) {us vs:List Value} (w':World):
  ∀ (fs:List Field) (o:Nat) (ty:Ty) (X Y:ty.den) (b:Bool),U5 ti fs o ty=true→fs.all (λ f => !(f.name == "_")&&eqB P ti n f.type)=true→o+ty.sz≤us.length→o+ty.sz≤vs.length→
   N1 (M4 P G w) (A7 ty X) ((us.drop o).take ty.sz)→N1 (M4 P G w) (A7 ty Y) ((vs.drop o).take ty.sz)→
   F3 (A7 ty X) (A7 ty Y)=some b→(Op.eqFields d us.toArray vs.toArray fs).run P w' = .ok b w'
 |[],o,ty,X,Y,b,hp,_,_,_,_,_,_=>by cases ty<;>simp [U5] at hp
 |[f],o,ty,X,Y,b,hp,ha,hl,hl',h0,h0',he=>by
  simp only [U5,Bool.and_eq_true] at hp
  simp only [List.all_cons,Bool.and_eq_true,Bool.not_eq_true',beq_eq_false_iff_ne] at ha
  obtain ⟨⟨a1,a2⟩,_⟩:=ha
  obtain ⟨t,h1,h2⟩:=Qh hp.2
  have ho:f.offset=o:=Nat.eq_of_beq_eq_true hp.1
  subst h2
  subst ho
  obtain ⟨x,hx1,hx2⟩:=W1 (htok _ _ h1) hl w'
  obtain ⟨y,hy1,hy2⟩:=W1 (htok _ _ h1) hl' w'
  have hr:=ih f.type t d X Y _ _ x y b w' hd a2 h1 h0 h0' he hx2 hy2
  simp only [Op.eqFields,ne_eq,a1,not_false_eq_true,if_true,Sem.run_bind,hx1,hy1,hr,Result.andThen_ok]
  cases b<;>rfl
 |f::g::fs,o,ty,X,Y,b,hp,ha,hl,hl',h0,h0',he=>by
  cases ty<;>first|(simp [U5] at hp; done)|skip
  rename_i tx tyy
  simp only [U5,Bool.and_eq_true] at hp
  obtain ⟨⟨q0,q1⟩,hp⟩:=hp
  rw [List.all_cons,Bool.and_eq_true] at ha
  obtain ⟨ha0,ha⟩:=ha
  simp only [Bool.and_eq_true,Bool.not_eq_true',beq_eq_false_iff_ne] at ha0
  obtain ⟨a1,a2⟩:=ha0
  obtain ⟨t,h1,h2⟩:=Qh q1
  have ho:f.offset=o:=Nat.eq_of_beq_eq_true q0
  subst h2
  subst ho
  have hl2:f.offset+(t.ty.sz+tyy.sz)≤us.length:=hl
  have hl2':f.offset+(t.ty.sz+tyy.sz)≤vs.length:=hl'
  have he2:F3 (A7 t.ty X.1++A7 tyy X.2) (A7 t.ty Y.1++A7 tyy Y.2)=some b:=he
  have r0:N1 (M4 P G w) (A7 t.ty X.1++A7 tyy X.2) ((us.drop f.offset).take (t.ty.sz+tyy.sz)):=h0
  have r0':N1 (M4 P G w) (A7 t.ty Y.1++A7 tyy Y.2) ((vs.drop f.offset).take (t.ty.sz+tyy.sz)):=h0'
  have k1:=r0.take t.ty.sz
  have k2:=r0.drop t.ty.sz
  have k1':=r0'.take t.ty.sz
  have k2':=r0'.drop t.ty.sz
  have c1:=Jm t.ty X.1
  have c1':=Jm t.ty Y.1
  rw [← c1,List.take_left,c1,List.take_take,Nat.min_eq_left (by omega)] at k1
  rw [← c1',List.take_left,c1',List.take_take,Nat.min_eq_left (by omega)] at k1'
  have c2:∀ l:List Value,List.drop t.ty.sz (List.take (t.ty.sz+tyy.sz) l)=List.take tyy.sz (List.drop t.ty.sz l):=λ l=>by rw [List.drop_take]; congr 1; omega
  rw [c2,List.drop_drop] at k2 k2'
  rw [show List.drop t.ty.sz (A7 t.ty X.1++A7 tyy X.2)=A7 tyy X.2 by rw [← c1,List.drop_left]] at k2
  rw [show List.drop t.ty.sz (A7 t.ty Y.1++A7 tyy Y.2)=A7 tyy Y.2 by rw [← c1',List.drop_left]] at k2'
  obtain ⟨b1,b2,e1,e2,rfl⟩:=Bja _ _ _ _ b (by rw [c1,c1']) he2
  obtain ⟨x,hx1,hx2⟩:=W1 (htok _ _ h1) (us:=us) (off:=f.offset) (by omega) w'
  obtain ⟨y,hy1,hy2⟩:=W1 (htok _ _ h1) (us:=vs) (off:=f.offset) (by omega) w'
  have hr:=ih f.type t d X.1 Y.1 _ _ x y b1 w' hd a2 h1 k1 k1' e1 hx2 hy2
  have hr2:=F2a htok ih hd w' (g::fs) (f.offset+t.ty.sz) tyy X.2 Y.2 b2 hp ha (by omega) (by omega) k2 k2' e2
  rw [Op.eqFields]
  simp only [ne_eq,a1,not_false_eq_true,if_true,Sem.run_bind,hx1,hy1,hr,Result.andThen_ok]
  cases b1
  ·rfl
  ·simpa using hr2
theorem Wka (htok:∀ T t,ti T=some t→TOk P T t):∀ n,B6b P ti G w n
 |0=>by
  intro T t d X Y us vs x y b w' _ h
  simp [eqB] at h
 |n+1=>by
  intro T t d X Y us vs x y b w' hd h hT hl hl' he hx hy
  obtain ⟨d,rfl⟩:∃ m,d=m+1:=⟨d - 1,by omega⟩
  have one:∀ {us:List Value} {x:Value} {z:Lf},us=[x]→N1 (M4 P G w) [z] us→M4 P G w z x:=by
   intro us x z e h
   subst e
   cases h with
   |cons a h=>exact a
  unfold eqB at h
  rw [hT] at h
  split at h
  ·rename_i t0 fs e1 hu
   cases e1
   simp only [Bool.and_eq_true,Bool.not_eq_true'] at h
   obtain ⟨⟨⟨h1,h2⟩,h3⟩,h4⟩:=h
   rw [h1] at hx hy
   simp only [if_true] at hx hy
   subst hx hy
   have hfs:P.fieldsOf T=fs:=by unfold Program.fieldsOf; rw [hu]
   rw [run_equalIn_struct w' d T _ _ (by rw [hfs]; exact hu) h2,hfs]
   have e1:=hl.len
   have e2:=hl'.len
   rw [Jm] at e1 e2
   exact F2a htok (Wka htok n) (by omega) w' fs.toList 0 t.ty X Y b h3 h4 (by omega) (by omega) (by rw [List.drop_zero,← e1,List.take_length]; exact hl) (by rw [List.drop_zero,← e2,List.take_length]; exact hl') he
  ·rename_i k by_ fo k' e1 hu
   cases e1
   simp only [Bool.false_eq_true,if_false] at hx hy
   have hz:=(one hx hl).1
   have hz':=(one hy hl').1
   subst hz hz'
   have he':(X==Y)=b:=by simpa [A7,F3] using he
   rw [← he']
   simp [Op.equalIn,run_underlying hu]
  ·rename_i by_ fo e1 hu
   cases e1
   simp only [Bool.false_eq_true,if_false] at hx hy
   have hz:=(one hx hl).1
   have hz':=(one hy hl').1
   subst hz hz'
   have he':(X==Y)=b:=by simpa [A7,F3] using he
   rw [← he']
   simp [Op.equalIn,run_underlying hu]
  ·rename_i by_ fo e1 hu
   cases e1
   simp only [Bool.false_eq_true,if_false] at hx hy
   have hz:=(one hx hl).1
   have hz':=(one hy hl').1
   subst hz hz'
   have he':(X==Y)=b:=by simpa [A7,F3] using he
   rw [← he']
   simp [Op.equalIn,run_underlying hu]
  ·cases h
end
theorem B7b:∀ (t:Ty) (l l':List Lf) (x:t.den),P9 l=true→mkT t l=some (x,l')→l=A7 t x++l'∧P9 l'=true:=by
 intro t
 induction t with
 |pr p q ihp ihq=>
  intro l l' x h hm
  simp only [mkT] at hm
  split at hm
  ·rename_i y l1 h1
   split at hm
   ·rename_i z l2 h2
    simp only [Option.some.injEq,Prod.mk.injEq] at hm
    obtain ⟨rfl,rfl⟩:=hm
    obtain ⟨e1,a1⟩:=ihp _ _ _ h h1
    obtain ⟨e2,a2⟩:=ihq _ _ _ a1 h2
    refine ⟨?_,a2⟩
    rw [e1,e2,← List.append_assoc]
    rfl
   ·cases hm
  ·cases hm
 |_=>
  intro l l' x h hm
  cases l with
  |nil=>simp [mkT] at hm
  |cons z l=>
   cases z<;>first|(simp [P9] at h; done)|skip
   rename_i v
   cases v<;>first|(simp [mkT] at hm; done)|skip
   all_goals
    simp only [P9] at h
    simp only [mkT] at hm
    first
     |(simp only [Option.some.injEq,Prod.mk.injEq] at hm; obtain ⟨rfl,rfl⟩:=hm; exact ⟨rfl,h⟩)
     |(
       rename_i k k' n
       by_cases hk:k=k'
       ·subst hk
        simp only [decide_true,cond_true,Option.some.injEq,Prod.mk.injEq] at hm
        obtain ⟨rfl,rfl⟩:=hm
        exact ⟨rfl,h⟩
       ·simp [hk] at hm)
theorem Cnb {P:Program} {ti:TypeId→Option TI} (htok:∀ T t,ti T=some t→TOk P T t) {T:TypeId} (h:eqB P ti 9 T=true) (hag:(match ti T with|some t=>t.ag|none=>false)=true) (hg:P.eqGuardType P.depth T=false) (G:Nat→Prop) (w w':World) (x y:Operand) (l l':List Lf) (us vs:List Value) (b:Bool)
  (h1:N1 (M4 P G w) l us) (h2:N1 (M4 P G w) l' vs) (he:F3 l l'=some b) (ha:P9 l=true) (ha':P9 l'=true) (hk:Nn (ti T) l=true) (hk':Nn (ti T) l'=true):
  (Op.equal T (.agg us.toArray) (.agg vs.toArray)).run P w' = .ok b w'∧(eqGuard .eql T x y (.agg us.toArray) (.agg vs.toArray)).run P w' = .ok () w'∧(eqGuard .neq T x y (.agg us.toArray) (.agg vs.toArray)).run P w' = .ok () w':=by
 refine ⟨?_,run_eqGuard_agg w' _ T x y _ _ hg,run_eqGuard_agg w' _ T x y _ _ hg⟩
 unfold Nn at hk hk'
 split at hk
 ·rename_i t hT
  rw [hT] at hk' hag
  simp only at hk' hag
  have key:∀ {l:List Lf},P9 l=true→(mkW t.ty l).isSome=true→∃ X,l=A7 t.ty X:=by
   intro l ha hk
   obtain ⟨X,hX⟩:=Option.isSome_iff_exists.1 hk
   unfold mkW at hX
   split at hX
   ·rename_i z hz
    cases hX
    obtain ⟨e1,_⟩:=B7b t.ty l [] _ ha hz
    exact ⟨_,by rw [e1,List.append_nil]⟩
   ·cases hX
  obtain ⟨X,rfl⟩:=key ha hk
  obtain ⟨Y,rfl⟩:=key ha' hk'
  exact Wka htok 9 T t Op.maxDepth X Y us vs _ _ b w' (by decide) h hT h1 h2 he (by rw [hag]; rfl) (by rw [hag]; rfl)
 ·cases hk
end

section
open Go.RowKit
attribute [local irreducible] C H
def Lz:Code→List Code
 |.seq a b=>Lz a++Lz b
 |.cond _ a b=>Lz a++Lz b
 |.block _ c=>Lz c
 |.loop c=>[c]
 |_=>[]
theorem Qba {X:Cx} {E:En}:∀ (c:Code),(∀ d∈Lz c,∀ L,E.lp (first d)=some L→Era X L d)→Nr X E c:=by
 intro c
 induction c with
 |seq a b iha ihb=>exact λ h=>⟨iha λ d hd=>h d (List.mem_append_left _ hd),ihb λ d hd=>h d (List.mem_append_right _ hd)⟩
 |cond x a b iha ihb=>exact λ h=>⟨iha λ d hd=>h d (List.mem_append_left _ hd),ihb λ d hd=>h d (List.mem_append_right _ hd)⟩
 |block i c ih=>exact λ h=>ih h
 |loop c ih=>exact λ h=>h c (by simp [Lz])
 |_=>exact λ h=>trivial
theorem Uda {X:Cx} {E:En} {c b:Code} (ids:List Nat) (h1:Lz c=ids.map λ l=>Ky l b) (h2:(ids.map λ l=>first (Ky l b))=ids) (h3:∀ l∈ids,∀ L,E.lp l=some L→Era X L (Ky l b)):Nr X E c:=by
 refine Qba c λ d hd L hL=>?_
 rw [h1] at hd
 obtain ⟨l,hl,rfl⟩:=List.mem_map.1 hd
 have:first (Ky l b)=l:=by
  have key:∀ (is:List Nat),(is.map λ l=>first (Ky l b))=is→∀ l∈is,first (Ky l b)=l:=by
   intro is
   induction is with
   |nil=>intro _ l hl; simp at hl
   |cons i is ih=>
    intro e l hl
    simp only [List.map_cons,List.cons.injEq] at e
    rcases List.mem_cons.1 hl with rfl|hl
    ·exact e.1
    ·exact ih e.2 l hl
  exact key ids h2 l hl
 rw [this] at hL
 exact h3 l hl L hL
theorem B8b {P:Program} {X:Cx} {E:En} {ti:TypeId→Option TI} {eqs:TypeId→Bool} (hP:X.P=P) (h1:E.nt=X.nt) (h2:E.np=X.np) (h3:E.ti=ti) (h4:E.eq=eqs) (htok:∀ T t,ti T=some t→TOk P T t)
  (heq:∀ T,eqs T=true→eqB P ti 9 T=true∧(match ti T with|some t=>t.ag|none=>false)=true∧P.eqGuardType P.depth T=false) (hc:∀ f en,E.call f=some en→P3 P f en):Xi X E:=by
 refine ⟨⟨h1,h2,λ T t h=>?_,λ T h G w w' x y l l' us vs b=>?_⟩,λ f en h=>?_⟩
 ·rw [hP]; rw [h3] at h; exact htok T t h
 ·rw [hP,h3]
  rw [h4] at h
  obtain ⟨e1,e2,e3⟩:=heq T h
  exact Cnb htok e1 e2 e3 G w w' x y l l' us vs b
 ·rw [hP]; exact hc f en h
def Yna {t:Ty} : {ts:List Ty}→t.den→Den ts→Den (t::ts)
 |[],x,_=>x
 |_::_,x,y=>(x,y)
theorem F3a {t:Ty} {ts:List Ty} {x:t.den} {y:Den ts}:Ev (t::ts) (Yna x y)=A7 t x::Ev ts y:=by
 cases ts<;>rfl
inductive Wla (P:Program) (w:World):(ps:List Par)→Den (ps.map Par.ty)→List Value→Prop
 |nil:Wla P w [] () []
 |cons {ag:Bool} {t:Ty} {ps:List Par} {X:t.den} {Y:Den (ps.map Par.ty)} {u:Value} {us vs:List Value} (hn:Le t=true) (hu:if ag then u = .agg vs.toArray else vs=[u])
   (hr:t.rep P (λ k=>k<w.heap.size) w X vs) (h:Wla P w ps Y us):Wla P w (.val ag t::ps) (Yna (t:=t) (ts:=ps.map Par.ty) X Y) (u::us)
def Uea (w:World):Nat→Lab:=λ k=>if k<w.heap.size then .fz else .no
theorem Ufa {P:Program} {w:World}:∀ {ps:List Par} {x:Den (ps.map Par.ty)} {us:List Value},Wla P w ps x us→us.length=ps.length:=by
 intro ps x us h
 induction h with
 |nil=>rfl
 |cons _ _ _ _ ih=>simp [ih]
theorem Qca {P:Program} {w:World} {rg:Nat→Nat×Nat} {nv:Nat} {hs:List Value}:∀ {ps:List Par} {x:Den (ps.map Par.ty)} {us:List Value} (i:Nat),Wla P w ps x us→P0 P (bare (Uea w) w) rg nv hs i ps (Ev _ x) us:=by
 intro ps x us i h
 induction h generalizing i with
 |nil=>trivial
 |@cons ag t ps X Y u us vs hn hu hr h ih=>
  show P0 P (bare (Uea w) w) rg nv hs i (.val ag t::ps) (Ev (t::ps.map Par.ty) (Yna X Y)) (u::us)
  rw [F3a]
  refine ⟨⟨vs,hu,?_⟩,ih (i+1)⟩
  have h1:=Pc (P:=P) (G:=λ k=>Uea w k = .fz) (w:=w) t X vs (Ty.rep_mono (λ k hk=>by unfold Uea; rw [if_pos hk]) (λ _ _=>rfl) t X vs hr)
  rw [Xe t X hn]
  exact A9.ofRep (S:=bare (Uea w) w) h1 _ _
theorem Uga {P:Program} {f:FuncId} {en:Ent} (hs:Y0a P f en) {w:World} {us:List Value} {x:Den (en.ps.map Par.ty)} (hc:Wla P w en.ps x us) (hnv:Nat.ble en.ps.length en.nv=true) {r:Den (en.rs.map Prod.snd++Me en.ps)} (hr:en.run x=some r)
  (hrs:en.rs=[(.one,.b)]) (hl:∃ ls,Ev _ r=[.sc (.bool true)]::ls):Calls P f us.toArray w (λ e w'=>e = .returned (.bool true)∧Below w.heap.size w w'):=by
 have htk:us.take en.nv=us:=List.take_of_length_le (by rw [Ufa hc]; exact Nat.le_of_ble_eq_true hnv)
 have hcalls:=hs x r hr w (Uea w) (λ _=>(0,0)) us (λ k hk=>by
  unfold Uea at hk
  split at hk
  ·assumption
  ·exact (hk rfl).elim) (λ k b hk=>by
  unfold Uea at hk
  split at hk<;>cases hk) (Qca 0 hc)
 rw [htk] at hcalls
 refine Tz hcalls ?_
 rintro e w' ⟨v,O',rfl,hF,_,hR,_⟩
 obtain ⟨ls,hl⟩:=hl
 rw [hl] at hR
 rw [hrs] at hR
 obtain ⟨l,ls',e1,h1⟩:=hR
 cases e1
 have h2:A9 P (bare O' w') (λ _ => .tm 1 []) 0 [.sc (.bool true)] [v]:=h1
 have hv:v = .bool true:=h2.1.1
 subst hv
 exact ⟨rfl,hF.os,hF.tape,hF.out,hF.size,λ k hk=>(hF.fz k hk (by unfold Uea; rw [if_pos hk])).2⟩
theorem Uha {H':Type} {enc:TypeId×Value→H'} {P:Program} {w:World} {base:Nat} {spare:Nat→Bool} {held:Bool} {ti:TypeId→Option TI} (htok:∀ T t,ti T=some t→TOk P T t) (hcl:∀ T,T6 P ti T=true)
  {T:TypeId} {t:TI} (hT:ti T=some t) {v:Value} {d:DataW H'} {p:List MemPlace} {b0:Nat} (hv:Value.okWide P w .any b0 T v) (h:DataW.Trod enc P w base spare held T v d p)
  {ts:List TypeId} {ds:List (DataW H')} (hw:(DataW.weightsEach P ts ds).all (· ≤ reachBytes)=true) {j:Nat} (hj:ts[j]? = some T) (hd:ds[j]? = some d):
  ∃ (X:t.ty.den) (vs:List Value),(if t.ag then v = .agg vs.toArray else vs=[v])∧t.ty.rep P (λ k=>k<w.heap.size) w X vs∧t.ty.fit ti X:=by
 obtain ⟨n,hn⟩:=h
 obtain ⟨X,r,f⟩:=D5a htok hcl n T t _ _ hT hn (λ m hm=>by
  have:=List.all_eq_true.1 hw m (DataW.weights_mem_each hj hd m hm)
  exact of_decide_eq_true this)
 refine ⟨X,_,?_,r,f⟩
 have hc:=hcl T
 unfold T6 at hc
 rw [hT] at hc
 unfold Value.okWide at hv
 split at hc
 ·rename_i e; cases e
 ·rename_i t0 fs e1 hu
  cases e1
  simp only [Bool.and_eq_true] at hc
  rw [hc.1]
  rw [hu] at hv
  obtain ⟨cs,rfl,_⟩:=hv
  simp [Value.cells]
 all_goals first
  |(cases hc; done)
  |(rename_i hu; rw [hu] at hv; simp only [Cell.okWide,hu] at hv; rename_i e1; cases e1; simp only [Bool.false_eq_true,if_false]; have hsz:=Ty.rep_len _ _ _ r; cases v<;>first|(simp [Value.cells]; done)|(simp only [Cell.ok,hu] at hv; done)|(simp [Cell.ok,hu] at hv; done))
end

section
open Go.RowKit
attribute [local irreducible] C H
def lk {α:Type}:List (Nat×α)→Nat→Option α
 |[],_=>none
 |(i,a)::l,n=>bif Nat.beq n i then some a else lk l n
structure LF where
 ins:Dsa
 alts:List (Ex×Dsa)
 f:Nat→ins.den→Option (Sya alts)
@[reducible] def LF.at (p:LF) (k:Nat):Lp:=⟨p.ins,p.alts,p.f k⟩
structure Fd where
 nt:Nat
 nv:Nat
 nm:List Nat
 res:List Nat
 cs:Nat→List (FuncId×Ent):=λ _=>[]
 ls:List (Nat×LF):=[]
 hint:List (Nat×Ty):=[]
 mv:List Nat:=[]
 gh:List (Nat×List Gh):=[]
 opn:List Nat:=[]
 sh:Bool:=false
 rf:Bool:=false
def Fd.n (D:Fd) (ti:TypeId→Option TI) (eqs:TypeId→Bool) (k:Nat):En:=
 ⟨D.nt,ti,eqs,D.nm.contains,D.res.contains,lk (D.cs k),λ l=>match lk D.ls l with|some p=>some (p.at k)|none=>none,D.nv,lk D.hint,D.mv.contains,λ n=>(lk D.gh n).getD [],D.opn.contains,λ _=>D.sh,D.rf⟩
theorem Wma {α:Type}:∀ {l:List (Nat×α)} {n:Nat} {a:α},lk l n=some a→n∈l.map Prod.fst
 |[],_,_,h=>by cases h
 |(i,b)::l,n,a,h=>by
  unfold lk at h
  cases hb:Nat.beq n i with
  |true=>rw [Nat.eq_of_beq_eq_true hb]; simp
  |false=>
   rw [hb,cond_false] at h
   exact List.mem_cons_of_mem _ (Wma h)
def Yoa (P:Program):List (FuncId×Ent)→Prop
 |[]=>True
 |c::l=>P3 P c.1 c.2∧Yoa P l
theorem Qda {P:Program}:∀ {l:List (FuncId×Ent)} {f:FuncId} {en:Ent},Yoa P l→lk l f=some en→P3 P f en
 |[],_,_,_,h=>by cases h
 |(i,a)::l,f,en,hc,h=>by
  unfold lk at h
  cases hb:Nat.beq f i with
  |true=>
   rw [hb,cond_true] at h
   cases h
   rw [Nat.eq_of_beq_eq_true hb]
   exact hc.1
  |false=>rw [hb,cond_false] at h; exact Qda hc.2 h
@[reducible] def bo (fn:Func):Code:=fn.body.getD .skip
structure Xv (P:Program) (ti:TypeId→Option TI) (eqs:TypeId→Bool):Prop where
 tok:∀ T t,ti T=some t→TOk P T t
 eq:∀ T,eqs T=true→eqB P ti 9 T=true∧(match ti T with|some t=>t.ag|none=>false)=true∧P.eqGuardType P.depth T=false
 mix:P.follows .mixedOrders=true
def LK (P:Program) (fn:Func) (D:Fd) (l:Nat) (p:LF):Prop:=∀ X:Cx,X.P=P→X.nt=fn.ntmps→X.np=D.nv→∀ k,Era X (p.at k) (Ky l (bo fn))
def Ypa (P:Program) (fn:Func) (D:Fd):List Nat→Prop
 |[]=>True
 |l::r=>(match lk D.ls l with|some p=>LK P fn D l p|none=>True)∧Ypa P fn D r
theorem Qea {P:Program} {fn:Func} {D:Fd} {l:Nat} {p:LF} (hp:lk D.ls l=some p):∀ {r:List Nat},Ypa P fn D r→l∈r→LK P fn D l p
 |[],_,h=>by cases h
 |i::r,ha,h=>by
  rcases List.mem_cons.1 h with rfl|h
  ·have:=ha.1
   rw [hp] at this
   exact this
  ·exact Qea hp ha.2 h
section
variable {P:Program} {ti:TypeId→Option TI} {eqs:TypeId→Bool} {fn:Func}
theorem Cob (hS:Xv P ti eqs) {D:Fd} {k:Nat} (hn:Nat.beq D.nt fn.ntmps=true) (hc:Yoa P (D.cs k)) {X:Cx} (hP:X.P=P) (hx:X.nt=fn.ntmps) (hp:X.np=D.nv):Xi X (D.n ti eqs k):=
 B8b hP ((Nat.eq_of_beq_eq_true hn).trans hx.symm) hp.symm rfl rfl hS.tok hS.eq (λ _ _ h=>Qda hc h)
theorem B9b (hS:Xv P ti eqs) {D:Fd} {k:Nat} (hn:Nat.beq D.nt fn.ntmps=true) (hc:Yoa P (D.cs k)) {X:Cx} (hP:X.P=P) (hx:X.nt=fn.ntmps) (hp:X.np=D.nv):Esa X (D.n ti eqs k):=
 Yma (Cob hS hn hc hP hx hp) (by rw [hP]; exact hS.mix)
theorem Wna {D:Fd} {k:Nat} {c:Code} {ids:List Nat} (h:(Lz c,ids.map λ l=>first (Ky l (bo fn)))=(ids.map λ l=>Ky l (bo fn),ids)) (hi:Ypa P fn D ids) {X:Cx} (hP:X.P=P) (hx:X.nt=fn.ntmps) (hp:X.np=D.nv):Nr X (D.n ti eqs k) c:=by
 rw [Prod.mk.injEq] at h
 refine Uda (b:=bo fn) ids h.1 h.2 λ l hl L hL=>?_
 have hL':(match lk D.ls l with|some p=>some (p.at k)|none=>none)=some L:=hL
 cases hp':lk D.ls l with
 |none=>rw [hp'] at hL'; cases hL'
 |some p=>
  rw [hp'] at hL'
  cases hL'
  exact Qea hp' hi hl X hP hx hp k
@[reducible] def D9b (ti:TypeId→Option TI) (eqs:TypeId→Bool) (fn:Func) (D:Fd) (l:Nat) (p:LF):Prop:=∀ k x,O7a (D.n ti eqs k) (p.at k) (Ky l (bo fn)) x=p.f (k+1) x
theorem mkL (hS:Xv P ti eqs) {D:Fd} {l:Nat} {p:LF} (ids:List Nat) (hn:Nat.beq D.nt fn.ntmps=true) (hc:∀ k,Yoa P (D.cs k)) (hi:Ypa P fn D ids) (h:(Lz (Ky l (bo fn)),ids.map λ l=>first (Ky l (bo fn)))=(ids.map λ l=>Ky l (bo fn),ids)) (h0:∀ x,p.f 0 x=none) (hs:D9b ti eqs fn D l p):LK P fn D l p:=
 λ X hP hx hp=>Y8a (ins:=p.ins) (alts:=p.alts) (f:=p.f) (En':=D.n ti eqs) h0 hs (λ k=>Cob hS hn (hc k) hP hx hp) (λ k=>B9b hS hn (hc k) hP hx hp) (λ k=>Wna h hi hP hx hp)
def Cpb (fn:Func) (D:Fd) (en:Ent):Bool:=Nat.beq D.nt fn.ntmps&&(Nat.ble fn.ntmps 1000&&(Nat.ble en.nv fn.ntmps&&(Nat.beq en.nv D.nv&&(fn.body.isSome&&(!(fn.name == "runtime.NumGoroutine")&&Hoa en)))))
theorem mkS (hS:Xv P ti eqs) {f:FuncId} {D:Fd} {k:Nat} {en:Ent} (ids:List Nat) (hf:P.funcs[f]? = some fn) (hc:Yoa P (D.cs k)) (hi:Ypa P fn D ids) (hk:Cpb fn D en=true) (h:(Lz (bo fn),ids.map λ l=>first (Ky l (bo fn)))=(ids.map λ l=>Ky l (bo fn),ids))
  (hr:∀ x,O8a (D.n ti eqs k) (bo fn) fn.results.toList en x=en.run x):P3 P f en:=by
 unfold Cpb at hk
 simp only [Bool.and_eq_true,Bool.not_eq_true'] at hk
 obtain ⟨h1,h2,h3,h4,h5,h6,h7⟩:=hk
 have h4:=Nat.eq_of_beq_eq_true h4
 have hb:fn.body=some (bo fn):=by
  unfold bo
  cases hb:fn.body with
  |none=>rw [hb] at h5; cases h5
  |some c=>rfl
 refine ⟨⟨fn,hf,h6,by rw [hb]; rfl⟩,Mja hf hb (Nat.le_of_ble_eq_true h2) (Nat.le_of_ble_eq_true h3) (λ X hP hx hp=>?_) (λ X hP hx hp=>?_) (λ X hP hx hp=>?_) h7 hr⟩
 ·exact Cob hS h1 hc hP hx (hp.trans h4)
 ·exact B9b hS h1 hc hP hx (hp.trans h4)
 ·exact Wna h hi hP hx (hp.trans h4)
theorem Cqb {keys A2b:List Nat} (hk:∀ {T t},ti T=some t→T∈keys) (h1:(keys.all λ T=>(match ti T with|some t=>Cjb P T t|none=>true)&&T6 P ti T)=true)
  (h2:(A2b.all λ T=>eqB P ti 9 T&&(match ti T with|some t=>t.ag|none=>false) && !(P.eqGuardType P.depth T))=true) (he:eqs=λ T=>A2b.contains T) (hm:P.follows .mixedOrders=true):Xv P ti eqs∧∀ T,T6 P ti T=true:=by
 refine ⟨⟨λ T t h=>?_,λ T h=>?_,hm⟩,λ T=>?_⟩
 ·have h3:=List.all_eq_true.1 h1 T (hk h)
  rw [Bool.and_eq_true,h] at h3
  exact Afb _ _ _ h3.1
 ·rw [he] at h
  have h3:=List.all_eq_true.1 h2 T (List.elem_iff.1 h)
  simp only [Bool.and_eq_true,Bool.not_eq_true'] at h3
  exact ⟨h3.1.1,h3.1.2,h3.2⟩
 ·cases h:ti T with
  |none=>unfold T6; rw [h]
  |some t=>
   have h3:=List.all_eq_true.1 h1 T (hk h)
   rw [Bool.and_eq_true] at h3
   exact h3.2
end
end

end Go.Proofs.YtcgfpppmikhgmaaGreat.Vf
