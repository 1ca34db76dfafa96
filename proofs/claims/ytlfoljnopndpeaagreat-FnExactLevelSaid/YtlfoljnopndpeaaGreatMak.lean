import Derived.Test.YtlfoljnopndpeaaGreatMaj
import Derived.Laws.StructEq
import Derived.Below
set_option linter.unusedVariables false
set_option linter.unusedSimpArgs false
namespace Go.Proofs.YtlfoljnopndpeaaGreat.Vf
open Go

section
attribute [local irreducible] C H
def eq1:Lf→Lf→Option Bool
 |.sc (.int k x),.sc (.int k' y)=>if k=k' then some (x==y) else none
 |.sc (.bool x),.sc (.bool y)=>some (x==y)
 |.sc (.string x),.sc (.string y)=>some (x==y)
 |_,_=>none
theorem Lqa (a a':Lf) (l l':List Lf) {b:Bool} (h:Co (a::l) (a'::l')=some b):∃ b1 b2,eq1 a a'=some b1∧Co l l'=some b2∧b=(b1&&b2):=by
 unfold Co at h
 split at h
 ·rename_i e _; cases e
 ·rename_i k x k' y e1 e2
  cases e1; cases e2
  by_cases hk:k=k'
  ·simp only [hk,decide_true,cond_true,Option.some.injEq] at h
   exact ⟨x==y,true,by simp only [eq1,hk,if_true],rfl,by simp [h]⟩
  ·simp [hk] at h
 ·rename_i x y e1 e2
  cases e1; cases e2
  simp only [Option.some.injEq] at h
  exact ⟨_,true,rfl,rfl,by simp [h]⟩
 ·rename_i x y e1 e2
  cases e1; cases e2
  simp only [Option.some.injEq] at h
  exact ⟨_,true,rfl,rfl,by simp [h]⟩
 ·rename_i k x l k' y l' _ e1 e2
  cases e1; cases e2
  by_cases hk:k=k'
  ·simp only [hk,decide_true,cond_true] at h
   split at h
   ·rename_i b2 hb
    simp only [Option.some.injEq] at h
    exact ⟨_,b2,by simp only [eq1,hk,if_true],hb,h.symm⟩
   ·cases h
  ·simp [hk] at h
 ·rename_i x l y l' _ e1 e2
  cases e1; cases e2
  split at h
  ·rename_i b2 hb
   simp only [Option.some.injEq] at h
   exact ⟨_,b2,rfl,hb,h.symm⟩
  ·cases h
 ·rename_i x l y l' _ e1 e2
  cases e1; cases e2
  split at h
  ·rename_i b2 hb
   simp only [Option.some.injEq] at h
   exact ⟨_,b2,rfl,hb,h.symm⟩
  ·cases h
 ·cases h
theorem Ub:∀ (l m l' m':List Lf) (b:Bool),l.length=l'.length→Co (l++m) (l'++m')=some b→∃ b1 b2,Co l l'=some b1∧Co m m'=some b2∧b=(b1&&b2)
 |[],m,[],m',b,_,h=>⟨true,b,rfl,h,by simp⟩
 |[],_,_::_,_,_,hl,_=>by simp at hl
 |_::_,_,[],_,_,hl,_=>by simp at hl
 |a::l,m,a'::l',m',b,hl,h=>by
  obtain ⟨b1,b2,h1,h2,rfl⟩:=Lqa a a' (l++m) (l'++m') h
  obtain ⟨b3,b4,h3,h4,rfl⟩:=Ub l m l' m' b2 (by simpa using hl) h2
  refine ⟨b1&&b3,b4,?_,h4,by simp [Bool.and_assoc]⟩
  cases a with
  |sc u=>
   cases a' with
   |sc u'=>
    cases u<;>first|(simp [eq1] at h1; done)|skip
    all_goals (cases u'<;>first|(simp [eq1] at h1; done)|skip)
    ·rename_i x y
     simp only [eq1,Option.some.injEq] at h1
     cases l<;>cases l'<;>first|(simp at hl; done)|skip
     ·simp only [Co,Option.some.injEq] at h3
      simp only [Co]
      rw [← h3,← h1,Bool.and_true]
     ·simp only [Co,h3]
      rw [← h1]
    ·rename_i k x k' y
     simp only [eq1] at h1
     by_cases hk:k=k'
     ·rw [if_pos hk] at h1
      simp only [Option.some.injEq] at h1
      cases l<;>cases l'<;>first|(simp at hl; done)|skip
      ·simp only [Co,Option.some.injEq] at h3
       simp only [Co,hk,decide_true,cond_true]
       rw [← h3,← h1,Bool.and_true]
      ·simp only [Co,hk,decide_true,cond_true,h3]
       rw [← h1]
     ·rw [if_neg hk] at h1; cases h1
    ·rename_i x y
     simp only [eq1,Option.some.injEq] at h1
     cases l<;>cases l'<;>first|(simp at hl; done)|skip
     ·simp only [Co,Option.some.injEq] at h3
      simp only [Co]
      rw [← h3,← h1,Bool.and_true]
     ·simp only [Co,h3]
      rw [← h1]
   |_=>cases u<;>simp [eq1] at h1
  |_=>simp [eq1] at h1
def eqB (P:Program) (ti:TypeId→Option TI):Nat→TypeId→Bool
 |0,_=>false
 |n+1,T=>match ti T,P.underlying T with
  |some t,some (.struct fs)=>t.ag && !(P.stoodInHeld T)&&Qp ti fs.toList 0 t.ty&&fs.toList.all (λ f => !(f.name == "_")&&eqB P ti n f.type)
  |some ⟨.i _,false,_,_⟩,some (.int _)=>true
  |some ⟨.b,false,_,_⟩,some .bool=>true
  |some ⟨.s,false,_,_⟩,some .string=>true
  |_,_=>false
section
variable {P:Program} {ti:TypeId→Option TI} {G:Nat→Prop} {w:World}
def Qya (P:Program) (ti:TypeId→Option TI) (G:Nat→Prop) (w:World) (n:Nat):Prop:=
 ∀ T t d (X Y:t.ty.den) (us vs:List Value) (x y:Value) (b:Bool) (w':World),n≤d→eqB P ti n T=true→ti T=some t→Lk (Km P G w) (A4 t.ty X) us→Lk (Km P G w) (A4 t.ty Y) vs→Co (A4 t.ty X) (A4 t.ty Y)=some b→
  (if t.ag then x = .agg us.toArray else us=[x])→(if t.ag then y = .agg vs.toArray else vs=[y])→(Op.equalIn d T x y).run P w' = .ok b w'
theorem Rm {T:TypeId} {t:TI} (hk:TOk P T t) {us:List Value} {off:Nat} (hl:off+t.ty.sz≤us.length) (w':World):
  ∃ u,(part T us.toArray off).run P w' = .ok u w'∧(if t.ag then u = .agg ((us.drop off).take t.ty.sz).toArray else (us.drop off).take t.ty.sz=[u]):=by
 obtain ⟨d,hd,hagg⟩:=B7a hk
 cases ha:t.ag with
 |true=>
  rw [ha] at hagg
  refine ⟨.agg (us.toArray.extract off (off+t.ty.sz)),?_,?_⟩
  ·unfold part
   simp only [Sem.run_bind,Mx hd hagg,Result.andThen_ok,if_true,Ko (O6 hk),Sem.run_pure]
  ·simp only [if_true]
   congr 1
   apply Array.ext'
   rw [Array.toList_extract]
   simp [List.extract]
 |false=>
  rw [ha] at hagg
  have h1:=Gwa hk ha
  have hlt:off<us.length:=by omega
  refine ⟨us[off],?_,?_⟩
  ·unfold part
   simp only [Sem.run_bind,Mx hd hagg,Result.andThen_ok,Bool.false_eq_true,if_false]
   have:us.toArray[off]? = some us[off]:=by simp [hlt]
   rw [this]
   rfl
  ·simp only [Bool.false_eq_true,if_false]
   rw [h1,List.drop_eq_getElem_cons hlt]
   rfl
theorem Zx (htok:∀ T t,ti T=some t→TOk P T t) {n:Nat} (ih:Qya P ti G w n) {d:Nat} (hd:n≤d) {us vs:List Value} (w':World):
  ∀ (fs:List Field) (o:Nat) (ty:Ty) (X Y:ty.den) (b:Bool),Qp ti fs o ty=true→fs.all (λ f => !(f.name == "_")&&eqB P ti n f.type)=true→o+ty.sz≤us.length→o+ty.sz≤vs.length→
   Lk (Km P G w) (A4 ty X) ((us.drop o).take ty.sz)→Lk (Km P G w) (A4 ty Y) ((vs.drop o).take ty.sz)→
   Co (A4 ty X) (A4 ty Y)=some b→(Op.eqFields d us.toArray vs.toArray fs).run P w' = .ok b w'
 |[],o,ty,X,Y,b,hp,_,_,_,_,_,_=>by cases ty<;>simp [Qp] at hp
 |[f],o,ty,X,Y,b,hp,ha,hl,hl',h0,h0',he=>by
  simp only [Qp,Bool.and_eq_true] at hp
  simp only [List.all_cons,Bool.and_eq_true,Bool.not_eq_true',beq_eq_false_iff_ne] at ha
  obtain ⟨⟨a1,a2⟩,_⟩:=ha
  obtain ⟨t,h1,h2⟩:=Nw hp.2
  have ho:f.offset=o:=Nat.eq_of_beq_eq_true hp.1
  subst h2
  subst ho
  obtain ⟨x,hx1,hx2⟩:=Rm (htok _ _ h1) hl w'
  obtain ⟨y,hy1,hy2⟩:=Rm (htok _ _ h1) hl' w'
  have hr:=ih f.type t d X Y _ _ x y b w' hd a2 h1 h0 h0' he hx2 hy2
  simp only [Op.eqFields,ne_eq,a1,not_false_eq_true,if_true,Sem.run_bind,hx1,hy1,hr,Result.andThen_ok]
  cases b<;>rfl
 |f::g::fs,o,ty,X,Y,b,hp,ha,hl,hl',h0,h0',he=>by
  cases ty<;>first|(simp [Qp] at hp; done)|skip
  rename_i tx tyy
  simp only [Qp,Bool.and_eq_true] at hp
  obtain ⟨⟨q0,q1⟩,hp⟩:=hp
  rw [List.all_cons,Bool.and_eq_true] at ha
  obtain ⟨ha0,ha⟩:=ha
  simp only [Bool.and_eq_true,Bool.not_eq_true',beq_eq_false_iff_ne] at ha0
  obtain ⟨a1,a2⟩:=ha0
  obtain ⟨t,h1,h2⟩:=Nw q1
  have ho:f.offset=o:=Nat.eq_of_beq_eq_true q0
  subst h2
  subst ho
  have hl2:f.offset+(t.ty.sz+tyy.sz)≤us.length:=hl
  have hl2':f.offset+(t.ty.sz+tyy.sz)≤vs.length:=hl'
  have he2:Co (A4 t.ty X.1++A4 tyy X.2) (A4 t.ty Y.1++A4 tyy Y.2)=some b:=he
  have r0:Lk (Km P G w) (A4 t.ty X.1++A4 tyy X.2) ((us.drop f.offset).take (t.ty.sz+tyy.sz)):=h0
  have r0':Lk (Km P G w) (A4 t.ty Y.1++A4 tyy Y.2) ((vs.drop f.offset).take (t.ty.sz+tyy.sz)):=h0'
  have k1:=r0.take t.ty.sz
  have k2:=r0.drop t.ty.sz
  have k1':=r0'.take t.ty.sz
  have k2':=r0'.drop t.ty.sz
  have c1:=I1 t.ty X.1
  have c1':=I1 t.ty Y.1
  rw [← c1,List.take_left,c1,List.take_take,Nat.min_eq_left (by omega)] at k1
  rw [← c1',List.take_left,c1',List.take_take,Nat.min_eq_left (by omega)] at k1'
  have c2:∀ l:List Value,List.drop t.ty.sz (List.take (t.ty.sz+tyy.sz) l)=List.take tyy.sz (List.drop t.ty.sz l):=λ l=>by rw [List.drop_take]; congr 1; omega
  rw [c2,List.drop_drop] at k2 k2'
  rw [show List.drop t.ty.sz (A4 t.ty X.1++A4 tyy X.2)=A4 tyy X.2 by rw [← c1,List.drop_left]] at k2
  rw [show List.drop t.ty.sz (A4 t.ty Y.1++A4 tyy Y.2)=A4 tyy Y.2 by rw [← c1',List.drop_left]] at k2'
  obtain ⟨b1,b2,e1,e2,rfl⟩:=Ub _ _ _ _ b (by rw [c1,c1']) he2
  obtain ⟨x,hx1,hx2⟩:=Rm (htok _ _ h1) (us:=us) (off:=f.offset) (by omega) w'
  obtain ⟨y,hy1,hy2⟩:=Rm (htok _ _ h1) (us:=vs) (off:=f.offset) (by omega) w'
  have hr:=ih f.type t d X.1 Y.1 _ _ x y b1 w' hd a2 h1 k1 k1' e1 hx2 hy2
  have hr2:=Zx htok ih hd w' (g::fs) (f.offset+t.ty.sz) tyy X.2 Y.2 b2 hp ha (by omega) (by omega) k2 k2' e2
  rw [Op.eqFields]
  simp only [ne_eq,a1,not_false_eq_true,if_true,Sem.run_bind,hx1,hy1,hr,Result.andThen_ok]
  cases b1
  ·rfl
  ·simpa using hr2
theorem Naa (htok:∀ T t,ti T=some t→TOk P T t):∀ n,Qya P ti G w n
 |0=>by
  intro T t d X Y us vs x y b w' _ h
  simp [eqB] at h
 |n+1=>by
  intro T t d X Y us vs x y b w' hd h hT hl hl' he hx hy
  obtain ⟨d,rfl⟩:∃ m,d=m+1:=⟨d - 1,by omega⟩
  have one:∀ {us:List Value} {x:Value} {z:Lf},us=[x]→Lk (Km P G w) [z] us→Km P G w z x:=by
   intro us x z e h
   subst e
   cases h with
   |cons a h=>exact a
  unfold eqB at h
  rw [hT] at h
  split at h
  ·rename_i t0 fs e1 hu
   cases e1
   simp only [Bool.and_eq_true,Bool.not_eq_true'] at h
   obtain ⟨⟨⟨h1,h2⟩,h3⟩,h4⟩:=h
   rw [h1] at hx hy
   simp only [if_true] at hx hy
   subst hx hy
   have hfs:P.fieldsOf T=fs:=by unfold Program.fieldsOf; rw [hu]
   rw [run_equalIn_struct w' d T _ _ (by rw [hfs]; exact hu) h2,hfs]
   have e1:=hl.len
   have e2:=hl'.len
   rw [I1] at e1 e2
   exact Zx htok (Naa htok n) (by omega) w' fs.toList 0 t.ty X Y b h3 h4 (by omega) (by omega) (by rw [List.drop_zero,← e1,List.take_length]; exact hl) (by rw [List.drop_zero,← e2,List.take_length]; exact hl') he
  ·rename_i k by_ fo k' e1 hu
   cases e1
   simp only [Bool.false_eq_true,if_false] at hx hy
   have hz:=(one hx hl).1
   have hz':=(one hy hl').1
   subst hz hz'
   have he':(X==Y)=b:=by simpa [A4,Co] using he
   rw [← he']
   simp [Op.equalIn,run_underlying hu]
  ·rename_i by_ fo e1 hu
   cases e1
   simp only [Bool.false_eq_true,if_false] at hx hy
   have hz:=(one hx hl).1
   have hz':=(one hy hl').1
   subst hz hz'
   have he':(X==Y)=b:=by simpa [A4,Co] using he
   rw [← he']
   simp [Op.equalIn,run_underlying hu]
  ·rename_i by_ fo e1 hu
   cases e1
   simp only [Bool.false_eq_true,if_false] at hx hy
   have hz:=(one hx hl).1
   have hz':=(one hy hl').1
   subst hz hz'
   have he':(X==Y)=b:=by simpa [A4,Co] using he
   rw [← he']
   simp [Op.equalIn,run_underlying hu]
  ·cases h
end
theorem Qza:∀ (t:Ty) (l l':List Lf) (x:t.den),Mt l=true→mkT t l=some (x,l')→l=A4 t x++l'∧Mt l'=true:=by
 intro t
 induction t with
 |pr p q ihp ihq=>
  intro l l' x h hm
  simp only [mkT] at hm
  split at hm
  ·rename_i y l1 h1
   split at hm
   ·rename_i z l2 h2
    simp only [Option.some.injEq,Prod.mk.injEq] at hm
    obtain ⟨rfl,rfl⟩:=hm
    obtain ⟨e1,a1⟩:=ihp _ _ _ h h1
    obtain ⟨e2,a2⟩:=ihq _ _ _ a1 h2
    refine ⟨?_,a2⟩
    rw [e1,e2,← List.append_assoc]
    rfl
   ·cases hm
  ·cases hm
 |_=>
  intro l l' x h hm
  cases l with
  |nil=>simp [mkT] at hm
  |cons z l=>
   cases z<;>first|(simp [Mt] at h; done)|skip
   rename_i v
   cases v<;>first|(simp [mkT] at hm; done)|skip
   all_goals
    simp only [Mt] at h
    simp only [mkT] at hm
    first
     |(simp only [Option.some.injEq,Prod.mk.injEq] at hm; obtain ⟨rfl,rfl⟩:=hm; exact ⟨rfl,h⟩)
     |(
       rename_i k k' n
       by_cases hk:k=k'
       ·subst hk
        simp only [decide_true,cond_true,Option.some.injEq,Prod.mk.injEq] at hm
        obtain ⟨rfl,rfl⟩:=hm
        exact ⟨rfl,h⟩
       ·simp [hk] at hm)
theorem Rva {P:Program} {ti:TypeId→Option TI} (htok:∀ T t,ti T=some t→TOk P T t) {T:TypeId} (h:eqB P ti 9 T=true) (hag:(match ti T with|some t=>t.ag|none=>false)=true) (hg:P.eqGuardType P.depth T=false) (G:Nat→Prop) (w w':World) (x y:Operand) (l l':List Lf) (us vs:List Value) (b:Bool)
  (h1:Lk (Km P G w) l us) (h2:Lk (Km P G w) l' vs) (he:Co l l'=some b) (ha:Mt l=true) (ha':Mt l'=true) (hk:Ly (ti T) l=true) (hk':Ly (ti T) l'=true):
  (Op.equal T (.agg us.toArray) (.agg vs.toArray)).run P w' = .ok b w'∧(eqGuard .eql T x y (.agg us.toArray) (.agg vs.toArray)).run P w' = .ok () w'∧(eqGuard .neq T x y (.agg us.toArray) (.agg vs.toArray)).run P w' = .ok () w':=by
 refine ⟨?_,run_eqGuard_agg w' _ T x y _ _ hg,run_eqGuard_agg w' _ T x y _ _ hg⟩
 unfold Ly at hk hk'
 split at hk
 ·rename_i t hT
  rw [hT] at hk' hag
  simp only at hk' hag
  have key:∀ {l:List Lf},Mt l=true→(mkW t.ty l).isSome=true→∃ X,l=A4 t.ty X:=by
   intro l ha hk
   obtain ⟨X,hX⟩:=Option.isSome_iff_exists.1 hk
   unfold mkW at hX
   split at hX
   ·rename_i z hz
    cases hX
    obtain ⟨e1,_⟩:=Qza t.ty l [] _ ha hz
    exact ⟨_,by rw [e1,List.append_nil]⟩
   ·cases hX
  obtain ⟨X,rfl⟩:=key ha hk
  obtain ⟨Y,rfl⟩:=key ha' hk'
  exact Naa htok 9 T t Op.maxDepth X Y us vs _ _ b w' (by decide) h hT h1 h2 he (by rw [hag]; rfl) (by rw [hag]; rfl)
 ·cases hk
end

section
open Go.RowKit
attribute [local irreducible] C H
def Kj:Code→List Code
 |.seq a b=>Kj a++Kj b
 |.cond _ a b=>Kj a++Kj b
 |.block _ c=>Kj c
 |.loop c=>[c]
 |_=>[]
theorem Ipa {X:Cx} {E:En}:∀ (c:Code),(∀ d∈Kj c,∀ L,E.lp (first d)=some L→Z1 X L d)→M2 X E c:=by
 intro c
 induction c with
 |seq a b iha ihb=>exact λ h=>⟨iha λ d hd=>h d (List.mem_append_left _ hd),ihb λ d hd=>h d (List.mem_append_right _ hd)⟩
 |cond x a b iha ihb=>exact λ h=>⟨iha λ d hd=>h d (List.mem_append_left _ hd),ihb λ d hd=>h d (List.mem_append_right _ hd)⟩
 |block i c ih=>exact λ h=>ih h
 |loop c ih=>exact λ h=>h c (by simp [Kj])
 |_=>exact λ h=>trivial
theorem Lra {X:Cx} {E:En} {c b:Code} (ids:List Nat) (h1:Kj c=ids.map λ l=>Je l b) (h2:(ids.map λ l=>first (Je l b))=ids) (h3:∀ l∈ids,∀ L,E.lp l=some L→Z1 X L (Je l b)):M2 X E c:=by
 refine Ipa c λ d hd L hL=>?_
 rw [h1] at hd
 obtain ⟨l,hl,rfl⟩:=List.mem_map.1 hd
 have:first (Je l b)=l:=by
  have key:∀ (is:List Nat),(is.map λ l=>first (Je l b))=is→∀ l∈is,first (Je l b)=l:=by
   intro is
   induction is with
   |nil=>intro _ l hl; simp at hl
   |cons i is ih=>
    intro e l hl
    simp only [List.map_cons,List.cons.injEq] at e
    rcases List.mem_cons.1 hl with rfl|hl
    ·exact e.1
    ·exact ih e.2 l hl
  exact key ids h2 l hl
 rw [this] at hL
 exact h3 l hl L hL
theorem R0a {P:Program} {X:Cx} {E:En} {ti:TypeId→Option TI} {eqs:TypeId→Bool} (hP:X.P=P) (h1:E.nt=X.nt) (h2:E.np=X.np) (h3:E.ti=ti) (h4:E.eq=eqs) (htok:∀ T t,ti T=some t→TOk P T t)
  (heq:∀ T,eqs T=true→eqB P ti 9 T=true∧(match ti T with|some t=>t.ag|none=>false)=true∧P.eqGuardType P.depth T=false) (hc:∀ f en,E.call f=some en→Mp P f en):Sf X E:=by
 refine ⟨⟨h1,h2,λ T t h=>?_,λ T h G w w' x y l l' us vs b=>?_⟩,λ f en h=>?_⟩
 ·rw [hP]; rw [h3] at h; exact htok T t h
 ·rw [hP,h3]
  rw [h4] at h
  obtain ⟨e1,e2,e3⟩:=heq T h
  exact Rva htok e1 e2 e3 G w w' x y l l' us vs b
 ·rw [hP]; exact hc f en h
def P4a {t:Ty} : {ts:List Ty}→t.den→Den ts→Den (t::ts)
 |[],x,_=>x
 |_::_,x,y=>(x,y)
theorem Zy {t:Ty} {ts:List Ty} {x:t.den} {y:Den ts}:Cn (t::ts) (P4a x y)=A4 t x::Cn ts y:=by
 cases ts<;>rfl
inductive Nba (P:Program) (w:World):(ps:List Par)→Den (ps.map Par.ty)→List Value→Prop
 |nil:Nba P w [] () []
 |cons {ag:Bool} {t:Ty} {ps:List Par} {X:t.den} {Y:Den (ps.map Par.ty)} {u:Value} {us vs:List Value} (hn:Js t=true) (hu:if ag then u = .agg vs.toArray else vs=[u])
   (hr:t.rep P (λ k=>k<w.heap.size) w X vs) (h:Nba P w ps Y us):Nba P w (.val ag t::ps) (P4a (t:=t) (ts:=ps.map Par.ty) X Y) (u::us)
def Lsa (w:World):Nat→Lab:=λ k=>if k<w.heap.size then .fz else .no
theorem Lta {P:Program} {w:World}:∀ {ps:List Par} {x:Den (ps.map Par.ty)} {us:List Value},Nba P w ps x us→us.length=ps.length:=by
 intro ps x us h
 induction h with
 |nil=>rfl
 |cons _ _ _ _ ih=>simp [ih]
theorem Iqa {P:Program} {w:World} {rg:Nat→Nat×Nat} {nv:Nat} {hs:List Value}:∀ {ps:List Par} {x:Den (ps.map Par.ty)} {us:List Value} (i:Nat),Nba P w ps x us→Mo P (bare (Lsa w) w) rg nv hs i ps (Cn _ x) us:=by
 intro ps x us i h
 induction h generalizing i with
 |nil=>trivial
 |@cons ag t ps X Y u us vs hn hu hr h ih=>
  show Mo P (bare (Lsa w) w) rg nv hs i (.val ag t::ps) (Cn (t::ps.map Par.ty) (P4a X Y)) (u::us)
  rw [Zy]
  refine ⟨⟨vs,hu,?_⟩,ih (i+1)⟩
  have h1:=Mw (P:=P) (G:=λ k=>Lsa w k = .fz) (w:=w) t X vs (Ty.rep_mono (λ k hk=>by unfold Lsa; rw [if_pos hk]) (λ _ _=>rfl) t X vs hr)
  rw [Sa t X hn]
  exact A5.ofRep (S:=bare (Lsa w) w) h1 _ _
theorem Lua {P:Program} {f:FuncId} {en:Ent} (hs:Oha P f en) {w:World} {us:List Value} {x:Den (en.ps.map Par.ty)} (hc:Nba P w en.ps x us) (hnv:Nat.ble en.ps.length en.nv=true) {r:Den (en.rs.map Prod.snd++L7 en.ps)} (hr:en.run x=some r)
  (hrs:en.rs=[(.one,.b)]) (hl:∃ ls,Cn _ r=[.sc (.bool true)]::ls):Calls P f us.toArray w (λ e w'=>e = .returned (.bool true)∧Below w.heap.size w w'):=by
 have htk:us.take en.nv=us:=List.take_of_length_le (by rw [Lta hc]; exact Nat.le_of_ble_eq_true hnv)
 have hcalls:=hs x r hr w (Lsa w) (λ _=>(0,0)) us (λ k hk=>by
  unfold Lsa at hk
  split at hk
  ·assumption
  ·exact (hk rfl).elim) (λ k b hk=>by
  unfold Lsa at hk
  split at hk<;>cases hk) (Iqa 0 hc)
 rw [htk] at hcalls
 refine Qj hcalls ?_
 rintro e w' ⟨v,O',rfl,hF,_,hR,_⟩
 obtain ⟨ls,hl⟩:=hl
 rw [hl] at hR
 rw [hrs] at hR
 obtain ⟨l,ls',e1,h1⟩:=hR
 cases e1
 have h2:A5 P (bare O' w') (λ _ => .tm 1 []) 0 [.sc (.bool true)] [v]:=h1
 have hv:v = .bool true:=h2.1.1
 subst hv
 exact ⟨rfl,hF.os,hF.tape,hF.out,hF.size,λ k hk=>(hF.fz k hk (by unfold Lsa; rw [if_pos hk])).2⟩
theorem Lva {H':Type} {enc:TypeId×Value→H'} {P:Program} {w:World} {base:Nat} {spare:Nat→Bool} {held:Bool} {ti:TypeId→Option TI} (htok:∀ T t,ti T=some t→TOk P T t) (hcl:∀ T,Pw P ti T=true)
  {T:TypeId} {t:TI} (hT:ti T=some t) {v:Value} {d:DataW H'} {p:List MemPlace} {b0:Nat} (hv:Value.okWide P w .any b0 T v) (h:DataW.Trod enc P w base spare held T v d p)
  {ts:List TypeId} {ds:List (DataW H')} (hw:(DataW.weightsEach P ts ds).all (· ≤ reachBytes)=true) {j:Nat} (hj:ts[j]? = some T) (hd:ds[j]? = some d):
  ∃ (X:t.ty.den) (vs:List Value),(if t.ag then v = .agg vs.toArray else vs=[v])∧t.ty.rep P (λ k=>k<w.heap.size) w X vs∧t.ty.fit ti X:=by
 obtain ⟨n,hn⟩:=h
 obtain ⟨X,r,f⟩:=Wu htok hcl n T t _ _ hT hn (λ m hm=>by
  have:=List.all_eq_true.1 hw m (DataW.weights_mem_each hj hd m hm)
  exact of_decide_eq_true this)
 refine ⟨X,_,?_,r,f⟩
 have hc:=hcl T
 unfold Pw at hc
 rw [hT] at hc
 unfold Value.okWide at hv
 split at hc
 ·rename_i e; cases e
 ·rename_i t0 fs e1 hu
  cases e1
  simp only [Bool.and_eq_true] at hc
  rw [hc.1]
  rw [hu] at hv
  obtain ⟨cs,rfl,_⟩:=hv
  simp [Value.cells]
 all_goals first
  |(cases hc; done)
  |(rename_i hu; rw [hu] at hv; simp only [Cell.okWide,hu] at hv; rename_i e1; cases e1; simp only [Bool.false_eq_true,if_false]; have hsz:=Ty.rep_len _ _ _ r; cases v<;>first|(simp [Value.cells]; done)|(simp only [Cell.ok,hu] at hv; done)|(simp [Cell.ok,hu] at hv; done))
end

section
open Go.RowKit
attribute [local irreducible] C H
def lk {α:Type}:List (Nat×α)→Nat→Option α
 |[],_=>none
 |(i,a)::l,n=>bif Nat.beq n i then some a else lk l n
structure LF where
 ins:Xd
 alts:List (Ex×Xd)
 f:Nat→ins.den→Option (Kca alts)
@[reducible] def LF.at (p:LF) (k:Nat):Lp:=⟨p.ins,p.alts,p.f k⟩
structure Fd where
 nt:Nat
 nv:Nat
 nm:List Nat
 res:List Nat
 cs:Nat→List (FuncId×Ent):=λ _=>[]
 ls:List (Nat×LF):=[]
 hint:List (Nat×Ty):=[]
 mv:List Nat:=[]
 gh:List (Nat×List Gh):=[]
 opn:List Nat:=[]
 sh:Bool:=false
 rf:Bool:=false
def Fd.n (D:Fd) (ti:TypeId→Option TI) (eqs:TypeId→Bool) (k:Nat):En:=
 ⟨D.nt,ti,eqs,D.nm.contains,D.res.contains,lk (D.cs k),λ l=>match lk D.ls l with|some p=>some (p.at k)|none=>none,D.nv,lk D.hint,D.mv.contains,λ n=>(lk D.gh n).getD [],D.opn.contains,λ _=>D.sh,D.rf⟩
theorem Nca {α:Type}:∀ {l:List (Nat×α)} {n:Nat} {a:α},lk l n=some a→n∈l.map Prod.fst
 |[],_,_,h=>by cases h
 |(i,b)::l,n,a,h=>by
  unfold lk at h
  cases hb:Nat.beq n i with
  |true=>rw [Nat.eq_of_beq_eq_true hb]; simp
  |false=>
   rw [hb,cond_false] at h
   exact List.mem_cons_of_mem _ (Nca h)
def P5a (P:Program):List (FuncId×Ent)→Prop
 |[]=>True
 |c::l=>Mp P c.1 c.2∧P5a P l
theorem Ira {P:Program}:∀ {l:List (FuncId×Ent)} {f:FuncId} {en:Ent},P5a P l→lk l f=some en→Mp P f en
 |[],_,_,_,h=>by cases h
 |(i,a)::l,f,en,hc,h=>by
  unfold lk at h
  cases hb:Nat.beq f i with
  |true=>
   rw [hb,cond_true] at h
   cases h
   rw [Nat.eq_of_beq_eq_true hb]
   exact hc.1
  |false=>rw [hb,cond_false] at h; exact Ira hc.2 h
@[reducible] def bo (fn:Func):Code:=fn.body.getD .skip
structure Ss (P:Program) (ti:TypeId→Option TI) (eqs:TypeId→Bool):Prop where
 tok:∀ T t,ti T=some t→TOk P T t
 eq:∀ T,eqs T=true→eqB P ti 9 T=true∧(match ti T with|some t=>t.ag|none=>false)=true∧P.eqGuardType P.depth T=false
 mix:P.follows .mixedOrders=true
def LK (P:Program) (fn:Func) (D:Fd) (l:Nat) (p:LF):Prop:=∀ X:Cx,X.P=P→X.nt=fn.ntmps→X.np=D.nv→∀ k,Z1 X (p.at k) (Je l (bo fn))
def P6a (P:Program) (fn:Func) (D:Fd):List Nat→Prop
 |[]=>True
 |l::r=>(match lk D.ls l with|some p=>LK P fn D l p|none=>True)∧P6a P fn D r
theorem Isa {P:Program} {fn:Func} {D:Fd} {l:Nat} {p:LF} (hp:lk D.ls l=some p):∀ {r:List Nat},P6a P fn D r→l∈r→LK P fn D l p
 |[],_,h=>by cases h
 |i::r,ha,h=>by
  rcases List.mem_cons.1 h with rfl|h
  ·have:=ha.1
   rw [hp] at this
   exact this
  ·exact Isa hp ha.2 h
section
variable {P:Program} {ti:TypeId→Option TI} {eqs:TypeId→Bool} {fn:Func}
theorem Rwa (hS:Ss P ti eqs) {D:Fd} {k:Nat} (hn:Nat.beq D.nt fn.ntmps=true) (hc:P5a P (D.cs k)) {X:Cx} (hP:X.P=P) (hx:X.nt=fn.ntmps) (hp:X.np=D.nv):Sf X (D.n ti eqs k):=
 R0a hP ((Nat.eq_of_beq_eq_true hn).trans hx.symm) hp.symm rfl rfl hS.tok hS.eq (λ _ _ h=>Ira hc h)
theorem R1a (hS:Ss P ti eqs) {D:Fd} {k:Nat} (hn:Nat.beq D.nt fn.ntmps=true) (hc:P5a P (D.cs k)) {X:Cx} (hP:X.P=P) (hx:X.nt=fn.ntmps) (hp:X.np=D.nv):Z2 X (D.n ti eqs k):=
 P3a (Rwa hS hn hc hP hx hp) (by rw [hP]; exact hS.mix)
theorem Nda {D:Fd} {k:Nat} {c:Code} {ids:List Nat} (h:(Kj c,ids.map λ l=>first (Je l (bo fn)))=(ids.map λ l=>Je l (bo fn),ids)) (hi:P6a P fn D ids) {X:Cx} (hP:X.P=P) (hx:X.nt=fn.ntmps) (hp:X.np=D.nv):M2 X (D.n ti eqs k) c:=by
 rw [Prod.mk.injEq] at h
 refine Lra (b:=bo fn) ids h.1 h.2 λ l hl L hL=>?_
 have hL':(match lk D.ls l with|some p=>some (p.at k)|none=>none)=some L:=hL
 cases hp':lk D.ls l with
 |none=>rw [hp'] at hL'; cases hL'
 |some p=>
  rw [hp'] at hL'
  cases hL'
  exact Isa hp' hi hl X hP hx hp k
@[reducible] def Sia (ti:TypeId→Option TI) (eqs:TypeId→Bool) (fn:Func) (D:Fd) (l:Nat) (p:LF):Prop:=∀ k x,Gla (D.n ti eqs k) (p.at k) (Je l (bo fn)) x=p.f (k+1) x
theorem mkL (hS:Ss P ti eqs) {D:Fd} {l:Nat} {p:LF} (ids:List Nat) (hn:Nat.beq D.nt fn.ntmps=true) (hc:∀ k,P5a P (D.cs k)) (hi:P6a P fn D ids) (h:(Kj (Je l (bo fn)),ids.map λ l=>first (Je l (bo fn)))=(ids.map λ l=>Je l (bo fn),ids)) (h0:∀ x,p.f 0 x=none) (hs:Sia ti eqs fn D l p):LK P fn D l p:=
 λ X hP hx hp=>Opa (ins:=p.ins) (alts:=p.alts) (f:=p.f) (En':=D.n ti eqs) h0 hs (λ k=>Rwa hS hn (hc k) hP hx hp) (λ k=>R1a hS hn (hc k) hP hx hp) (λ k=>Nda h hi hP hx hp)
def Rxa (fn:Func) (D:Fd) (en:Ent):Bool:=Nat.beq D.nt fn.ntmps&&(Nat.ble fn.ntmps 1000&&(Nat.ble en.nv fn.ntmps&&(Nat.beq en.nv D.nv&&(fn.body.isSome&&(!(fn.name == "runtime.NumGoroutine")&&Bma en)))))
theorem mkS (hS:Ss P ti eqs) {f:FuncId} {D:Fd} {k:Nat} {en:Ent} (ids:List Nat) (hf:P.funcs[f]? = some fn) (hc:P5a P (D.cs k)) (hi:P6a P fn D ids) (hk:Rxa fn D en=true) (h:(Kj (bo fn),ids.map λ l=>first (Je l (bo fn)))=(ids.map λ l=>Je l (bo fn),ids))
  (hr:∀ x,Gma (D.n ti eqs k) (bo fn) fn.results.toList en x=en.run x):Mp P f en:=by
 unfold Rxa at hk
 simp only [Bool.and_eq_true,Bool.not_eq_true'] at hk
 obtain ⟨h1,h2,h3,h4,h5,h6,h7⟩:=hk
 have h4:=Nat.eq_of_beq_eq_true h4
 have hb:fn.body=some (bo fn):=by
  unfold bo
  cases hb:fn.body with
  |none=>rw [hb] at h5; cases h5
  |some c=>rfl
 refine ⟨⟨fn,hf,h6,by rw [hb]; rfl⟩,F1a hf hb (Nat.le_of_ble_eq_true h2) (Nat.le_of_ble_eq_true h3) (λ X hP hx hp=>?_) (λ X hP hx hp=>?_) (λ X hP hx hp=>?_) h7 hr⟩
 ·exact Rwa hS h1 hc hP hx (hp.trans h4)
 ·exact R1a hS h1 hc hP hx (hp.trans h4)
 ·exact Nda h hi hP hx (hp.trans h4)
theorem Rya {keys Pxa:List Nat} (hk:∀ {T t},ti T=some t→T∈keys) (h1:(keys.all λ T=>(match ti T with|some t=>Rra P T t|none=>true)&&Pw P ti T)=true)
  (h2:(Pxa.all λ T=>eqB P ti 9 T&&(match ti T with|some t=>t.ag|none=>false) && !(P.eqGuardType P.depth T))=true) (he:eqs=λ T=>Pxa.contains T) (hm:P.follows .mixedOrders=true):Ss P ti eqs∧∀ T,Pw P ti T=true:=by
 refine ⟨⟨λ T t h=>?_,λ T h=>?_,hm⟩,λ T=>?_⟩
 ·have h3:=List.all_eq_true.1 h1 T (hk h)
  rw [Bool.and_eq_true,h] at h3
  exact Q7a _ _ _ h3.1
 ·rw [he] at h
  have h3:=List.all_eq_true.1 h2 T (List.elem_iff.1 h)
  simp only [Bool.and_eq_true,Bool.not_eq_true'] at h3
  exact ⟨h3.1.1,h3.1.2,h3.2⟩
 ·cases h:ti T with
  |none=>unfold Pw; rw [h]
  |some t=>
   have h3:=List.all_eq_true.1 h1 T (hk h)
   rw [Bool.and_eq_true] at h3
   exact h3.2
end
end

end Go.Proofs.YtlfoljnopndpeaaGreat.Vf
