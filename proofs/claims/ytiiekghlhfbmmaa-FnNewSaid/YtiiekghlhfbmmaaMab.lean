import Derived.Test.YtiiekghlhfbmmaaMaa
import Derived.Laws.AppendOwn
import Derived.Laws.Cells
import Derived.Laws.World
set_option linter.all false
namespace Go.Proofs.Ytiiekghlhfbmmaa.Vf
open Go
open List (length getD)
open Int (toNat)
open Go.IntKind (wrap)
open BitVec (ofInt)
def Va:=@Bool.and_eq_true
def Vc:=@Option.some.injEq
def Vh:=@List.length_cons
def Vi:=@List.length_append
def Vn:=@List.mem_append_right
def Vo:=@List.append_assoc
def Vx:=@List.mem_append_left
def Wf:=@List.length_map
def Wg:=@Nat.zero_add
def Wk:=@List.eq_nil_of_length_eq_zero
def Wn:=@List.nil_append
def Wq:=@List.getElem?_take
def Yi:=@List.drop_drop
def Ym:=@List.append_nil
def Yu:=@Nat.add_mul
def Zd:=@Nat.one_mul
def Zi:=@List.drop_zero
def Zj:=@List.drop_left
def Zl:=@Nat.add_assoc
def Zz:=@List.take_length_add_append
def Y3a:=@Nat.add_comm
def Yaa:=@List.take_zero
def Yma:=@List.sublist_append_right
def Yta:=@Nat.zero_mul
def Z5a:=@List.take_left
def Zba:=@List.sublist_append_left
def Zma:=@List.Sublist.refl
def Zza:=@List.replicate_succ
def Abb:=@Iff.rfl

abbrev y0:=(Int×Int×Int)
abbrev y1:=(ByteArray×(List Int))
abbrev y2:=((List Int)×Int×Int)
abbrev y3:=(Int×(List (List Int)))
abbrev y4:=((List Int)×Int×Bool)
abbrev y5:=(y0×Bool×(List Int))
abbrev y6:=(ByteArray×y0×Bool×Int)
abbrev y7:=(ByteArray×y5×Bool)
abbrev y8:=((List y1)×(List y1))
abbrev y9:=(Int×y8×(List y6)×(List y6))
abbrev y10:=((List y0)×y3×(List y9)×y0×(List y7)×(List ByteArray))
def I8 (a0:List Int):Option (Bool):=some (decide ((length a0:Int) > 1048576))
def E3:Nat→(List Int)→Int→Int→Option ((List Int)×Int)
 |0,_,_,_=>none
 |k+1,b,d,c=>cond (decide (c<(length b:Int))) (cond (decide (c<4000)) (cond (decide ((0:Int)≤c)) (cond (decide (c<(length b:Int))) (E3 k b (wrap .i64 ((ofInt (IntKind.bits .i64) (wrap .i64 ((wrap .i64 ((wrap .i64 (d*137))+(wrap .i64 (getD b (toNat c) (0:Int)))))+11)) &&& ofInt (IntKind.bits .i64) 1073741823).toNat)) (wrap .i64 (c+1))) none) none) (some (b,d))) (some (b,d))
def Fz (k:Nat) (a0:List Int):Option y2:=(E3 k a0 (wrap .i64 (378378+(length a0:Int))) 0).bind λ r1=>some (r1.1,0,r1.2)
def E4 (a0:y2):Option (Int×y2):=cond (decide (a0.2.1<(length a0.1:Int))) (cond (decide ((0:Int)≤a0.2.1)) (cond (decide (a0.2.1<(length a0.1:Int))) (some (wrap .i64 ((ofInt (IntKind.bits .i64) (wrap .i64 ((wrap .i64 ((ofInt (IntKind.bits .i64) (wrap .i64 ((ofInt (IntKind.bits .i64) (Int.fdiv (wrap .i64 ((wrap .i64 (a0.2.2*6364136223846793005))+1442695040888963407)) (2 ^ (min (toNat 33) (IntKind.bits .i64)))) ^^^ ofInt (IntKind.bits .i64) (Int.fdiv (wrap .i64 ((wrap .i64 (a0.2.2*6364136223846793005))+1442695040888963407)) (2 ^ (min (toNat 47) (IntKind.bits .i64))))).toNat)) &&& ofInt (IntKind.bits .i64) 255).toNat))+(wrap .i64 (getD a0.1 (toNat a0.2.1) (0:Int))))) &&& ofInt (IntKind.bits .i64) 255).toNat),(a0.1,wrap .i64 (a0.2.1+1),wrap .i64 ((wrap .i64 (a0.2.2*6364136223846793005))+1442695040888963407)))) none) none) (some (wrap .i64 ((ofInt (IntKind.bits .i64) (wrap .i64 ((ofInt (IntKind.bits .i64) (Int.fdiv (wrap .i64 ((wrap .i64 (a0.2.2*6364136223846793005))+1442695040888963407)) (2 ^ (min (toNat 33) (IntKind.bits .i64)))) ^^^ ofInt (IntKind.bits .i64) (Int.fdiv (wrap .i64 ((wrap .i64 (a0.2.2*6364136223846793005))+1442695040888963407)) (2 ^ (min (toNat 47) (IntKind.bits .i64))))).toNat)) &&& ofInt (IntKind.bits .i64) 255).toNat),(a0.1,a0.2.1,wrap .i64 ((wrap .i64 (a0.2.2*6364136223846793005))+1442695040888963407))))
def Ax (a0:y2) (a1:Int):Option (Int×y2):=cond (decide (a1≤0)) (some (0,a0)) (cond (decide (a1≤256)) ((E4 a0).bind λ r1=>cond (decide (a1=0)) none (some (Int.tmod r1.1 a1,r1.2))) ((E4 a0).bind λ r2=>(E4 r2.2).bind λ r3=>(E4 r3.2).bind λ r4=>cond (decide (a1=0)) none (some (Int.tmod (wrap .i64 ((wrap .i64 ((wrap .i64 (r2.1*65536))+(wrap .i64 (r3.1*256))))+r4.1)) a1,r4.2))))
def C7 (a0:y2) (a1:List Int):Option (Int×y2):=(Ax a0 (length a1:Int)).bind λ r1=>cond (decide ((0:Int)≤r1.1)) (cond (decide (r1.1<(length a1:Int))) (some ((getD a1 (toNat r1.1) (0:Int)),r1.2)) none) none
def D9:Nat→(List y0)→Int→Int→Int→y2→Option ((List y0)×y2)
 |0,_,_,_,_,_=>none
 |k+1,b,d,c,e,f=>cond (decide (e > 0)) ((C7 f [1,1,2]).bind λ r1=>(Ax r1.2 d).bind λ r2=>(C7 r2.2 [1,1,1,2,10,100]).bind λ r3=>cond (Nat.ble ((length b+length [(wrap .i64 (c+r1.1),r2.1,r3.1)])*24) 140737488355328) (D9 k (b++[(wrap .i64 (c+r1.1),r2.1,r3.1)]) d (wrap .i64 (c+r1.1)) (wrap .i64 (e-1)) r3.2) none) (some (b,f))
def Cw (k:Nat) (a0:y2):Option ((List y0)×y2):=(Ax a0 4).bind λ r1=>(Ax r1.2 5).bind λ r2=>(D9 k ([]:List y0) (wrap .i64 (1+r1.1)) 0 (wrap .i64 (2+r2.1)) r2.2).bind λ r3=>some (r3.1,r3.2)
def G9 (k:Nat) (a0:y2):Option ((List y0)×y2):=(Cw k a0).bind λ r1=>(Ax r1.2 (length r1.1:Int)).bind λ r2=>(Ax r2.2 12).bind λ r3=>cond (r3.1==0) ((C7 r3.2 [(-1),0,20,21]).bind λ r4=>cond (decide ((0:Int)≤r2.1)) (cond (decide (r2.1<(length r1.1:Int))) (some ((List.set r1.1 (toNat r2.1) (r4.1,(getD r1.1 (toNat r2.1) ((0:Int),((0:Int),(0:Int)))).2)),r4.2)) none) none) (cond (r3.1==1) ((C7 r3.2 [(-1),20,21]).bind λ r7=>cond (decide ((0:Int)≤r2.1)) (cond (decide (r2.1<(length r1.1:Int))) (let v8:=getD r1.1 (toNat r2.1) ((0:Int),((0:Int),(0:Int)));some ((List.set r1.1 (toNat r2.1) (v8.1,r7.1,v8.2.2)),r7.2)) none) none) (cond (r3.1==2) ((C7 r3.2 [0,1000,1001]).bind λ r10=>cond (decide ((0:Int)≤r2.1)) (cond (decide (r2.1<(length r1.1:Int))) (let v11:=getD r1.1 (toNat r2.1) ((0:Int),((0:Int),(0:Int)));some ((List.set r1.1 (toNat r2.1) (v11.1,v11.2.1,r10.1)),r10.2)) none) none) (cond (r3.1==3) (cond (decide ((0:Int)≤(length r1.1:Int))) (some (List.take (toNat 0) r1.1,r3.2)) none) (some (r1.1,r3.2)))))
def Dz (k:Nat) (a0:List Int):Option ((List y0)×Int×Int):=(Fz k a0).bind λ r1=>(G9 k r1).bind λ r2=>(C7 r2.2 [4,8,1,16,0,64,65]).bind λ r3=>(C7 r3.2 [1,2,3,2,3,5,6,0]).bind λ r4=>some (r2.1,r3.1,r4.1)
def C8 (k:Nat) (a0:List Int):Option ((List y0)×Int×Int):=(Dz k a0).bind λ r1=>some (r1.1,r1.2.1,r1.2.2)
def Bu (a0:Int) (a1:Int) (a2:Int):Option (Bool):=cond (decide (a0≥a1)) (some (decide (a0≤a2))) (some false)
def D0 (a0:Int):Option y9:=(Bu a0 0 20).bind λ r1=>cond (!r1) (some (0,(([]:List y1),([]:List y1)),([]:List y6),([]:List y6))) (some (a0,(([]:List y1),([]:List y1)),([]:List y6),([]:List y6)))
def Cn:Nat→(List y0)→(List y0)→Int→Int→Option (Sum (Bool) (List y0))
 |0,_,_,_,_=>none
 |k+1,c,d,e,b=>cond (decide (b<e)) (cond (decide ((0:Int)≤b)) (cond (decide (b<(length d:Int))) (let v1:=getD d (toNat b) ((0:Int),((0:Int),(0:Int)));(Bu v1.1 0 20).bind λ r2=>cond (!r2) (some (.inl false)) ((Bu v1.2.1 0 20).bind λ r3=>cond (!r3) (some (.inl false)) ((Bu v1.2.2 1 1000).bind λ r4=>cond (!r4) (some (.inl false)) (cond (decide (b > 0)) (cond (decide ((0:Int)≤wrap .i64 (b-1))) (cond (decide (wrap .i64 (b-1)<(length c:Int))) (cond (decide ((getD c (toNat (wrap .i64 (b-1))) ((0:Int),((0:Int),(0:Int)))).1≥v1.1)) (some (.inl false)) (Cn k c d e (wrap .i64 (b+1)))) none) none) (Cn k c d e (wrap .i64 (b+1))))))) none) none) (some (.inr c))
def B1 (k:Nat) (a0:List y0):Option (Bool):=(Cn k a0 a0 (length a0:Int) 0).bind λ r1=>Sum.elim (λ y2=>some y2) (λ z3=>(Bu (length z3:Int) 1 12).bind λ r4=>some r4) r1
def Da:Nat→Int→(List Int)→Int→Int→Option (Sum (Bool) (Unit))
 |0,_,_,_,_=>none
 |k+1,d,c,e,b=>cond (decide (b<e)) (cond (decide ((0:Int)≤b)) (cond (decide (b<(length c:Int))) (cond ((getD c (toNat b) (0:Int))==d) (some (.inl true)) (Da k d c e (wrap .i64 (b+1)))) none) none) (some (.inr ()))
def Ar (k:Nat) (a0:List Int) (a1:Int):Option (Bool):=(Da k a1 a0 (length a0:Int) 0).bind λ r1=>Sum.elim (λ y2=>some y2) (λ z3=>some false) r1
def E5:Nat→Int→(List y0)→Int→Int→y0→Option (Sum (Bool×y0) y0)
 |0,_,_,_,_,_=>none
 |k+1,d,c,e,b,f=>cond (decide (b<e)) (cond (decide ((0:Int)≤b)) (cond (decide (b<(length c:Int))) (let v1:=getD c (toNat b) ((0:Int),((0:Int),(0:Int)));cond (v1.1==d) (some (.inl (true,v1))) (E5 k d c e (wrap .i64 (b+1)) f)) none) none) (some (.inr f))
def Ez (k:Nat) (a0:List y0) (a1:Int):Option (y0×Bool):=(E5 k a1 a0 (length a0:Int) 0 (0,0,0)).bind λ r1=>Sum.elim (λ y2=>some (y2.2,y2.1)) (λ z3=>some ((0,0,0),false)) r1
def Be:Nat→(List y0)→(List Int)→(List Int)→Int→Int→Option (List Int)
 |0,_,_,_,_,_=>none
 |k+1,e,c,d,f,b=>cond (decide (b<f)) (cond (decide ((0:Int)≤b)) (cond (decide (b<(length d:Int))) ((Ez k e (getD d (toNat b) (0:Int))).bind λ r2=>cond r2.2 ((Ar k c r2.1.2.1).bind λ r3=>cond (!r3) (cond (Nat.ble ((length c+length [r2.1.2.1])*8) 140737488355328) (Be k e (c++[r2.1.2.1]) d f (wrap .i64 (b+1))) none) (Be k e c d f (wrap .i64 (b+1)))) (Be k e c d f (wrap .i64 (b+1)))) none) none) (some c)
def C9 (k:Nat) (a0:List Int) (a1:List y0):Option (List Int):=(Be k a1 ([]:List Int) a0 (length a0:Int) 0).bind λ r1=>some r1
def Co:Nat→Int→Int→(List (List Int))→Int→Int→(List Int)→Int→Int→Option (Int×Int×(List (List Int))×Int×Int)
 |0,_,_,_,_,_,_,_,_=>none
 |k+1,c,e,f,g,h,d,i,b=>cond (decide (b<i)) (cond (decide ((0:Int)≤b)) (cond (decide (b<(length d:Int))) (cond ((getD d (toNat b) (0:Int))==c) (Co k c (wrap .i64 (e+1)) f g h d i (wrap .i64 (b+1))) (Co k c e f g h d i (wrap .i64 (b+1)))) none) none) (some (c,e,f,g,h))
def Db:Nat→Int→Int→(List (List Int))→Int→Int→Option (Int)
 |0,_,_,_,_,_=>none
 |k+1,f,d,c,e,b=>cond (decide (b<e)) (cond (decide ((0:Int)≤b)) (cond (decide (b<(length c:Int))) (let v1:=getD c (toNat b) [];(Co k f d c e b v1 (length v1:Int) 0).bind λ r2=>Db k r2.1 r2.2.1 r2.2.2.1 r2.2.2.2.1 (wrap .i64 (r2.2.2.2.2+1))) none) none) (some d)
def F3 (k:Nat) (a0:y3) (a1:Int):Option (Int):=(Db k a1 0 a0.2 (length a0.2:Int) 0).bind λ r1=>some r1
def An:Nat→(List Int)→Int→Bool→(List y0)→Int→Int→y3→(List Int)→y0→Option y0
 |0,_,_,_,_,_,_,_,_,_=>none
 |k+1,d,j,i,c,e,b,f,g,h=>cond (decide (b<e)) (cond (decide ((0:Int)≤b)) (cond (decide (b<(length c:Int))) (let v1:=getD c (toNat b) ((0:Int),((0:Int),(0:Int)));(Ar k g v1.1).bind λ r2=>cond r2 (An k d j i c e (wrap .i64 (b+1)) f g h) ((F3 k f v1.1).bind λ r3=>(Ar k d v1.2.1).bind λ r4=>cond (decide (h.1<0)) (An k d (wrap .i64 (r3+1)) (!r4) c e (wrap .i64 (b+1)) f g v1) (cond (!r4) (cond (!i) (An k d (wrap .i64 (r3+1)) (!r4) c e (wrap .i64 (b+1)) f g v1) (cond ((!r4)==i) (cond (decide ((wrap .i64 ((wrap .i64 (r3+1))*h.2.2))<(wrap .i64 (j*v1.2.2)))) (An k d (wrap .i64 (r3+1)) (!r4) c e (wrap .i64 (b+1)) f g v1) (An k d j i c e (wrap .i64 (b+1)) f g h)) (An k d j i c e (wrap .i64 (b+1)) f g h))) (cond ((!r4)==i) (cond (decide ((wrap .i64 ((wrap .i64 (r3+1))*h.2.2))<(wrap .i64 (j*v1.2.2)))) (An k d (wrap .i64 (r3+1)) (!r4) c e (wrap .i64 (b+1)) f g v1) (An k d j i c e (wrap .i64 (b+1)) f g h)) (An k d j i c e (wrap .i64 (b+1)) f g h))))) none) none) (some h)
def Fm (k:Nat) (a0:y3) (a1:List Int) (a2:List y0):Option (Int):=(B1 k a2).bind λ r1=>cond (!r1) (some (-1)) ((C9 k a1 a2).bind λ r2=>(An k r2 0 false a2 (length a2:Int) 0 a0 a1 ((-1),0,0)).bind λ r3=>some r3.1)
def E6:Nat→(List y0)→Int→Int→Int→Int→Int→Int→y3→y3→Option ((List y0)×Int×Int×Int×y3×y3)
 |0,_,_,_,_,_,_,_,_,_=>none
 |k+1,d,e,b,f,g,h,i,j,c=>cond (decide (i<h)) (cond (decide ((0:Int)≤b)) (cond (decide (b<(length c.2:Int))) ((Fm k c (getD c.2 (toNat b) []) d).bind λ r2=>cond (decide ((0:Int)≤b)) (cond (decide (b<(length c.2:Int))) (let v3:=getD c.2 (toNat b) [];cond (Nat.ble ((length v3+length [r2])*8) 140737488355328) (E6 k d e b f g h (wrap .i64 (i+1)) j (c.1,(List.set c.2 (toNat b) (v3++[r2])))) none) none) none) none) none) (some (d,e,f,g,j,c))
def E7:Nat→(List y0)→Int→Int→Int→y3→y3→Option (y3×y3)
 |0,_,_,_,_,_,_=>none
 |k+1,g,d,e,c,f,b=>cond (decide (c<e)) (cond (Nat.ble ((length b.2+length [([]:List Int)])*24) 140737488355328) ((E6 k g d c e c d 0 f (b.1,(b.2++[([]:List Int)]))).bind λ r2=>E7 k r2.1 r2.2.1 r2.2.2.1 (wrap .i64 (r2.2.2.2.1+1)) r2.2.2.2.2.1 r2.2.2.2.2.2) none) (some (f,b))
def D5 (k:Nat) (a0:List y0) (a1:Int) (a2:Int):Option (y3×Bool):=(B1 k a0).bind λ r1=>cond (!r1) (some ((0,([]:List (List Int))),false)) ((Bu a1 1 64).bind λ r2=>cond (!r2) (some ((0,([]:List (List Int))),false)) ((Bu a2 1 5).bind λ r3=>cond (!r3) (some ((0,([]:List (List Int))),false)) (cond (decide ((length a0:Int)<a2)) (some ((0,([]:List (List Int))),false)) ((E7 k a0 a2 a1 0 (0,([]:List (List Int))) (a2,([]:List (List Int)))).bind λ r4=>some (r4.2,true)))))
def Bx:Nat→(List y0)→Int→Int→y10→y10→Option (y10×y10)
 |0,_,_,_,_,_=>none
 |k+1,d,e,c,f,b=>cond (decide (c<e)) (cond (decide ((0:Int)≤c)) (cond (decide (c<(length d:Int))) ((D0 (getD d (toNat c) ((0:Int),((0:Int),(0:Int)))).1).bind λ r2=>cond (Nat.ble ((length b.2.2.1+length [r2])*104) 140737488355328) (Bx k d e (wrap .i64 (c+1)) f (b.1,b.2.1,b.2.2.1++[r2],b.2.2.2)) none) none) none) (some (f,b))
def Bb (k:Nat) (a0:List y0) (a1:Int) (a2:Int):Option y10:=(D5 k a0 a1 a2).bind λ r1=>cond (!r1.2) (some (([]:List y0),(0,([]:List (List Int))),([]:List y9),(0,0,0),([]:List y7),([]:List ByteArray))) (cond (Nat.ble ((length ([]:List y0)+length a0)*24) 140737488355328) ((Bx k a0 (length a0:Int) 0 (([]:List y0),(0,([]:List (List Int))),([]:List y9),(0,0,0),([]:List y7),([]:List ByteArray)) ((([]:List y0)++a0),r1.1,([]:List y9),(0,0,0),([]:List y7),([]:List ByteArray))).bind λ r3=>some r3.2) none)
def Dc (a0:Int) (a1:Int) (a2:Int):Option (Bool):=cond (decide (a0≥a1)) (some (decide (a0≤a2))) (some false)
def Cp:Nat→(List y0)→Int→Option (Sum (Bool) (List y0))
 |0,_,_=>none
 |k+1,c,b=>cond (decide (b<(length c:Int))) (cond (decide ((0:Int)≤b)) (cond (decide (b<(length c:Int))) (let v1:=getD c (toNat b) ((0:Int),((0:Int),(0:Int)));(Dc v1.1 0 20).bind λ r2=>cond (!r2) (some (.inl false)) ((Dc v1.2.1 0 20).bind λ r3=>cond (!r3) (some (.inl false)) ((Dc v1.2.2 1 1000).bind λ r4=>cond (!r4) (some (.inl false)) (cond (decide (b > 0)) (cond (decide ((0:Int)≤wrap .i64 (b-1))) (cond (decide (wrap .i64 (b-1)<(length c:Int))) (cond (decide ((getD c (toNat (wrap .i64 (b-1))) ((0:Int),((0:Int),(0:Int)))).1≥v1.1)) (some (.inl false)) (Cp k c (wrap .i64 (b+1)))) none) none) (Cp k c (wrap .i64 (b+1))))))) none) none) (some (.inr c))
def Bv (k:Nat) (a0:List y0):Option (Bool):=(Cp k a0 0).bind λ r1=>Sum.elim (λ y2=>some y2) (λ z3=>(Dc (length z3:Int) 1 12).bind λ r4=>some r4) r1
def E8:Nat→(List Int)→Int→Int→Option (Sum (Bool) (Unit))
 |0,_,_,_=>none
 |k+1,c,d,b=>cond (decide (b<(length c:Int))) (cond (decide ((0:Int)≤b)) (cond (decide (b<(length c:Int))) (cond ((getD c (toNat b) (0:Int))==d) (some (.inl true)) (E8 k c d (wrap .i64 (b+1)))) none) none) (some (.inr ()))
def Eo (k:Nat) (a0:List Int) (a1:Int):Option (Bool):=(E8 k a0 a1 0).bind λ r1=>Sum.elim (λ y2=>some y2) (λ z3=>some false) r1
def E9:Nat→(List y0)→Int→Int→y0→Option (Sum (Bool×y0) y0)
 |0,_,_,_,_=>none
 |k+1,c,d,b,e=>cond (decide (b<(length c:Int))) (cond (decide ((0:Int)≤b)) (cond (decide (b<(length c:Int))) (cond ((getD c (toNat b) ((0:Int),((0:Int),(0:Int)))).1==d) (cond (decide ((0:Int)≤b)) (cond (decide (b<(length c:Int))) (some (.inl (true,(getD c (toNat b) ((0:Int),((0:Int),(0:Int))))))) none) none) (E9 k c d (wrap .i64 (b+1)) e)) none) none) (some (.inr e))
def G0 (k:Nat) (a0:List y0) (a1:Int):Option (y0×Bool):=(E9 k a0 a1 0 (0,0,0)).bind λ r1=>Sum.elim (λ y2=>some (y2.2,y2.1)) (λ z3=>some ((0,0,0),false)) r1
def Bf:Nat→(List Int)→(List y0)→(List Int)→Int→Option (List Int)
 |0,_,_,_,_=>none
 |k+1,c,e,d,b=>cond (decide (b<(length c:Int))) (cond (decide ((0:Int)≤b)) (cond (decide (b<(length c:Int))) ((G0 k e (getD c (toNat b) (0:Int))).bind λ r2=>cond r2.2 ((Eo k d r2.1.2.1).bind λ r3=>cond (!r3) (cond (Nat.ble ((length d+length [r2.1.2.1])*8) 140737488355328) (Bf k c e (d++[r2.1.2.1]) (wrap .i64 (b+1))) none) (Bf k c e d (wrap .i64 (b+1)))) (Bf k c e d (wrap .i64 (b+1)))) none) none) (some d)
def Ca (k:Nat) (a0:List Int) (a1:List y0):Option (List Int):=(Bf k a0 a1 ([]:List Int) 0).bind λ r1=>some r1
def Cq:Nat→Int→Int→Int→Int→y3→Option (Int×Int×Int×y3)
 |0,_,_,_,_,_=>none
 |k+1,e,f,b,d,c=>cond (decide ((0:Int)≤b)) (cond (decide (b<(length c.2:Int))) (cond (decide (d<(length (getD c.2 (toNat b) []):Int))) (cond (decide ((0:Int)≤b)) (cond (decide (b<(length c.2:Int))) (let v2:=getD c.2 (toNat b) [];cond (decide ((0:Int)≤d)) (cond (decide (d<(length v2:Int))) (cond ((getD v2 (toNat d) (0:Int))==e) (Cq k e (wrap .i64 (f+1)) b (wrap .i64 (d+1)) c) (Cq k e f b (wrap .i64 (d+1)) c)) none) none) none) none) (some (e,f,b,c))) none) none
def Dd:Nat→Int→Int→Int→y3→Option (Int)
 |0,_,_,_,_=>none
 |k+1,e,b,c,d=>cond (decide (c<(length d.2:Int))) ((Cq k e b c 0 d).bind λ r1=>Dd k r1.1 r1.2.1 (wrap .i64 (r1.2.2.1+1)) r1.2.2.2) (some b)
def Cc (k:Nat) (a0:y3) (a1:Int):Option (Int):=(Dd k a1 0 0 a0).bind λ r1=>some r1
def Ao:Nat→(List y0)→(List Int)→Int→Bool→Int→y3→(List Int)→Option ((List y0)×Int)
 |0,_,_,_,_,_,_,_=>none
 |k+1,b,f,c,g,d,e,h=>cond (decide (d<(length b:Int))) ((Bv k b).bind λ r1=>cond r1 (cond (decide ((0:Int)≤d)) (cond (decide (d<(length b:Int))) (let v2:=getD b (toNat d) ((0:Int),((0:Int),(0:Int)));(Eo k h v2.1).bind λ r3=>cond r3 (Ao k b f c g (wrap .i64 (d+1)) e h) ((Eo k f v2.2.1).bind λ r4=>cond (decide (c<0)) (Ao k b f d (!r4) (wrap .i64 (d+1)) e h) (cond (!r4) (cond (!g) (Ao k b f d (!r4) (wrap .i64 (d+1)) e h) (cond ((!r4)==g) ((Cc k e v2.1).bind λ r5=>cond (decide ((0:Int)≤c)) (cond (decide (c<(length b:Int))) (cond (decide ((0:Int)≤c)) (cond (decide (c<(length b:Int))) ((Cc k e (getD b (toNat c) ((0:Int),((0:Int),(0:Int)))).1).bind λ r8=>cond (decide ((wrap .i64 ((wrap .i64 (r5+1))*(getD b (toNat c) ((0:Int),((0:Int),(0:Int)))).2.2))<(wrap .i64 ((wrap .i64 (r8+1))*v2.2.2)))) (Ao k b f d g (wrap .i64 (d+1)) e h) (Ao k b f c g (wrap .i64 (d+1)) e h)) none) none) none) none) (Ao k b f c g (wrap .i64 (d+1)) e h))) (cond ((!r4)==g) ((Cc k e v2.1).bind λ r9=>cond (decide ((0:Int)≤c)) (cond (decide (c<(length b:Int))) (cond (decide ((0:Int)≤c)) (cond (decide (c<(length b:Int))) ((Cc k e (getD b (toNat c) ((0:Int),((0:Int),(0:Int)))).1).bind λ r12=>cond (decide ((wrap .i64 ((wrap .i64 (r9+1))*(getD b (toNat c) ((0:Int),((0:Int),(0:Int)))).2.2))<(wrap .i64 ((wrap .i64 (r12+1))*v2.2.2)))) (Ao k b f d g (wrap .i64 (d+1)) e h) (Ao k b f c g (wrap .i64 (d+1)) e h)) none) none) none) none) (Ao k b f c g (wrap .i64 (d+1)) e h))))) none) none) (some (b,c))) (some (b,c))
def Fn (k:Nat) (a0:y3) (a1:List Int) (a2:List y0):Option (Int):=(Ca k a1 a2).bind λ r1=>(Ao k a2 r1 (-1) false 0 a0 a1).bind λ r2=>cond (decide (r2.2<0)) (some (-1)) (cond (decide ((0:Int)≤r2.2)) (cond (decide (r2.2<(length r2.1:Int))) (some (getD r2.1 (toNat r2.2) ((0:Int),((0:Int),(0:Int)))).1) none) none)
def Ea:Nat→(List y0)→Int→Int→Int→Int→y3→y3→Option ((List y0)×Int×Int×Int×y3×y3)
 |0,_,_,_,_,_,_,_=>none
 |k+1,d,f,e,b,g,h,c=>cond (decide (g<e)) (cond (decide ((0:Int)≤b)) (cond (decide (b<(length c.2:Int))) ((Fn k c (getD c.2 (toNat b) []) d).bind λ r2=>cond (decide ((0:Int)≤b)) (cond (decide (b<(length c.2:Int))) (let v3:=getD c.2 (toNat b) [];cond (decide (b=b)) (cond (Nat.ble ((length v3+length [r2])*8) 140737488355328) (cond (decide (b=b)) (Ea k d f e b (wrap .i64 (g+1)) h (c.1,(List.set c.2 (toNat b) (v3++[r2])))) none) none) none) none) none) none) none) (some (d,f,e,b,h,c))
def Eb:Nat→(List y0)→Int→Int→Int→y3→y3→Option (y3×y3)
 |0,_,_,_,_,_,_=>none
 |k+1,f,c,g,d,e,b=>cond (decide (d<c)) (cond (Nat.ble ((length b.2+length [([]:List Int)])*24) 140737488355328) ((Ea k f c g d 0 e (b.1,(b.2++[([]:List Int)]))).bind λ r2=>Eb k r2.1 r2.2.1 r2.2.2.1 (wrap .i64 (r2.2.2.2.1+1)) r2.2.2.2.2.1 r2.2.2.2.2.2) none) (some (e,b))
def D6 (k:Nat) (a0:List y0) (a1:Int) (a2:Int):Option (y3×Bool):=(Bv k a0).bind λ r1=>cond (!r1) (some ((0,([]:List (List Int))),false)) ((Dc a1 1 64).bind λ r2=>cond (!r2) (some ((0,([]:List (List Int))),false)) ((Dc a2 1 5).bind λ r3=>cond (!r3) (some ((0,([]:List (List Int))),false)) (cond (decide (a2 > (length a0:Int))) (some ((0,([]:List (List Int))),false)) ((Eb k a0 a1 a2 0 (0,([]:List (List Int))) (a2,([]:List (List Int)))).bind λ r4=>some (r4.2,true)))))
def F8 (a0:Int):Option y9:=(Dc a0 0 20).bind λ r1=>cond (!r1) (some (0,(([]:List y1),([]:List y1)),([]:List y6),([]:List y6))) (some (a0,(([]:List y1),([]:List y1)),([]:List y6),([]:List y6)))
def Bz:Nat→(List y0)→Int→y10→y10→Option (y10×y10)
 |0,_,_,_,_=>none
 |k+1,d,c,e,b=>cond (decide (c<(length d:Int))) (cond (decide ((0:Int)≤c)) (cond (decide (c<(length d:Int))) ((F8 (getD d (toNat c) ((0:Int),((0:Int),(0:Int)))).1).bind λ r2=>cond (Nat.ble ((length b.2.2.1+length [r2])*104) 140737488355328) (Bz k d (wrap .i64 (c+1)) e (b.1,b.2.1,b.2.2.1++[r2],b.2.2.2)) none) none) none) (some (e,b))
def Aw (k:Nat) (a0:List y0) (a1:Int) (a2:Int):Option y10:=(D6 k a0 a1 a2).bind λ r1=>cond (Nat.ble ((length ([]:List y0)+length a0)*24) 140737488355328) (cond (!r1.2) (some (([]:List y0),(0,([]:List (List Int))),([]:List y9),(0,0,0),([]:List y7),([]:List ByteArray))) ((Bz k a0 0 (([]:List y0),(0,([]:List (List Int))),([]:List y9),(0,0,0),([]:List y7),([]:List ByteArray)) ((([]:List y0)++a0),r1.1,([]:List y9),(0,0,0),([]:List y7),([]:List ByteArray))).bind λ r3=>some r3.2)) none
def Br (a0:y0):Option (Bool):=(Bu a0.1 0 1000000000).bind λ r1=>cond r1 ((Bu a0.2.1 0 1000000).bind λ r2=>cond r2 ((Bu a0.2.2 0 20).bind λ r3=>some r3) (some false)) (some false)
def A8:Nat→ByteArray→Int→Option (Sum (Bool) (ByteArray))
 |0,_,_=>none
 |k+1,b,c=>cond (decide (c<(ByteArray.size b:Int))) (cond (decide ((0:Int)≤c)) (cond (decide (c<(ByteArray.size b:Int))) (cond (decide ((bt b c)≥97)) (cond (!(decide ((bt b c)≤122))) (cond (decide ((bt b c)≥48)) (cond (!(decide ((bt b c)≤57))) (cond ((bt b c) != 45) (cond ((bt b c) != 95) (cond ((bt b c) != 47) (some (.inl false)) (A8 k b (wrap .i64 (c+1)))) (A8 k b (wrap .i64 (c+1)))) (A8 k b (wrap .i64 (c+1)))) (A8 k b (wrap .i64 (c+1)))) (cond ((bt b c) != 45) (cond ((bt b c) != 95) (cond ((bt b c) != 47) (some (.inl false)) (A8 k b (wrap .i64 (c+1)))) (A8 k b (wrap .i64 (c+1)))) (A8 k b (wrap .i64 (c+1))))) (A8 k b (wrap .i64 (c+1)))) (cond (decide ((bt b c)≥48)) (cond (!(decide ((bt b c)≤57))) (cond ((bt b c) != 45) (cond ((bt b c) != 95) (cond ((bt b c) != 47) (some (.inl false)) (A8 k b (wrap .i64 (c+1)))) (A8 k b (wrap .i64 (c+1)))) (A8 k b (wrap .i64 (c+1)))) (A8 k b (wrap .i64 (c+1)))) (cond ((bt b c) != 45) (cond ((bt b c) != 95) (cond ((bt b c) != 47) (some (.inl false)) (A8 k b (wrap .i64 (c+1)))) (A8 k b (wrap .i64 (c+1)))) (A8 k b (wrap .i64 (c+1)))))) none) none) (some (.inr b))
def As (k:Nat) (a0:ByteArray):Option (Bool):=(A8 k a0 0).bind λ r1=>Sum.elim (λ y2=>some y2) (λ z3=>(Bu (ByteArray.size z3:Int) 1 20).bind λ r4=>some r4) r1
def Fi (k:Nat) (a0:y6):Option (Bool):=(As k a0.1).bind λ r1=>cond r1 ((Br a0.2.1).bind λ r2=>cond r2 ((Bu a0.2.2.2 0 200).bind λ r3=>cond r3 (cond (!a0.2.2.1) (some true) (some (a0.2.2.2==0))) (some false)) (some false)) (some false)
def C0:Nat→(List y1)→(List y1)→Int→Int→Option (Sum (Bool) (List y1))
 |0,_,_,_,_=>none
 |k+1,c,d,e,b=>cond (decide (b<e)) (cond (decide ((0:Int)≤b)) (cond (decide (b<(length d:Int))) (let v1:=getD d (toNat b) ((⟨#[]⟩:ByteArray),[]);(As k v1.1).bind λ r2=>cond (!r2) (some (.inl false)) (cond (decide ((length v1.2:Int) > 400)) (some (.inl false)) (cond (decide (b > 0)) (cond (decide ((0:Int)≤wrap .i64 (b-1))) (cond (decide (wrap .i64 (b-1)<(length c:Int))) (cond (!(Op.bytesLess (getD c (toNat (wrap .i64 (b-1))) ((⟨#[]⟩:ByteArray),[])).1.toList v1.1.toList)) (some (.inl false)) (C0 k c d e (wrap .i64 (b+1)))) none) none) (C0 k c d e (wrap .i64 (b+1)))))) none) none) (some (.inr c))
def Bs (k:Nat) (a0:List y1):Option (Bool):=(C0 k a0 a0 (length a0:Int) 0).bind λ r1=>Sum.elim (λ y2=>some y2) (λ z3=>some (decide ((length z3:Int)≤60))) r1
def Fu (k:Nat) (a0:y8):Option (Bool):=(Bs k a0.1).bind λ r1=>cond r1 ((Bs k a0.2).bind λ r2=>some r2) (some false)
def Cr:Nat→(List y6)→(List y6)→Int→Int→Option (Sum (Bool) (List y6))
 |0,_,_,_,_=>none
 |k+1,c,d,e,b=>cond (decide (b<e)) (cond (decide ((0:Int)≤b)) (cond (decide (b<(length d:Int))) (let v1:=getD d (toNat b) ((⟨#[]⟩:ByteArray),(((0:Int),((0:Int),(0:Int))),(false,(0:Int))));(Fi k v1).bind λ r2=>cond (!r2) (some (.inl false)) (cond (decide (b > 0)) (cond (decide ((0:Int)≤wrap .i64 (b-1))) (cond (decide (wrap .i64 (b-1)<(length c:Int))) (cond (!(Op.bytesLess (getD c (toNat (wrap .i64 (b-1))) ((⟨#[]⟩:ByteArray),(((0:Int),((0:Int),(0:Int))),(false,(0:Int))))).1.toList v1.1.toList)) (some (.inl false)) (Cr k c d e (wrap .i64 (b+1)))) none) none) (Cr k c d e (wrap .i64 (b+1))))) none) none) (some (.inr c))
def Cy (k:Nat) (a0:List y6):Option (Bool):=(Cr k a0 a0 (length a0:Int) 0).bind λ r1=>Sum.elim (λ y2=>some y2) (λ z3=>some (decide ((length z3:Int)≤60))) r1
def De:Nat→(List y6)→Int→Int→Int→(List y1)→(List y1)→(List y6)→(List y6)→Option (Sum (Bool) (Int×(List y1)×(List y1)×(List y6)×(List y6)))
 |0,_,_,_,_,_,_,_,_=>none
 |k+1,c,d,b,e,f,g,h,i=>cond (decide (b<d)) (cond (decide ((0:Int)≤b)) (cond (decide (b<(length c:Int))) ((Fi k (getD c (toNat b) ((⟨#[]⟩:ByteArray),(((0:Int),((0:Int),(0:Int))),(false,(0:Int)))))).bind λ r2=>cond (!r2) (some (.inl false)) (De k c d (wrap .i64 (b+1)) e f g h i)) none) none) (some (.inr (e,f,g,h,i)))
def Bw (k:Nat) (a0:y9):Option (Bool):=(De k a0.2.2.2 (length a0.2.2.2:Int) 0 a0.1 a0.2.1.1 a0.2.1.2 a0.2.2.1 a0.2.2.2).bind λ r1=>Sum.elim (λ y2=>some y2) (λ z3=>(Bu z3.1 0 20).bind λ r4=>cond r4 ((Fu k (z3.2.1,z3.2.2.1)).bind λ r5=>cond r5 ((Cy k z3.2.2.2.1).bind λ r6=>cond r6 (some (decide ((length z3.2.2.2.2:Int)≤60))) (some false)) (some false)) (some false)) r1
def Ec:Nat→(List Int)→(List Int)→Int→Int→Option (Sum (Bool) (Unit))
 |0,_,_,_,_=>none
 |k+1,c,d,e,b=>cond (decide (b<e)) (cond (decide ((0:Int)≤b)) (cond (decide (b<(length d:Int))) (cond (decide ((0:Int)≤b)) (cond (decide (b≤(length c:Int))) ((Ar k (List.take (toNat b) c) (getD d (toNat b) (0:Int))).bind λ r2=>cond r2 (some (.inl false)) (Ec k c d e (wrap .i64 (b+1)))) none) none) none) none) (some (.inr ()))
def Ep (k:Nat) (a0:List Int):Option (Bool):=(Ec k a0 a0 (length a0:Int) 0).bind λ r1=>Sum.elim (λ y2=>some y2) (λ z3=>some true) r1
def Df:Nat→(List y0)→(List (List Int))→Int→Int→(List Int)→Int→Int→y3→Option (Sum (Bool) ((List y0)×(List (List Int))×Int×Int×y3))
 |0,_,_,_,_,_,_,_,_=>none
 |k+1,c,e,f,g,d,h,b,i=>cond (decide (b<h)) (cond (decide ((0:Int)≤b)) (cond (decide (b<(length d:Int))) ((Ez k c (getD d (toNat b) (0:Int))).bind λ r2=>cond (!r2.2) (some (.inl false)) (Df k c e f g d h (wrap .i64 (b+1)) i)) none) none) (some (.inr (c,e,f,g,i)))
def Dg:Nat→(List y0)→(List (List Int))→Int→Int→y3→Option (Sum (Bool) (Unit))
 |0,_,_,_,_,_=>none
 |k+1,f,c,d,b,e=>cond (decide (b<d)) (cond (decide ((0:Int)≤b)) (cond (decide (b<(length c:Int))) (let v1:=getD c (toNat b) [];cond ((length v1:Int) != e.1) (some (.inl false)) ((Ep k v1).bind λ r2=>cond (!r2) (some (.inl false)) ((Df k f c d b v1 (length v1:Int) 0 e).bind λ r3=>Sum.elim (λ y4=>some (.inl y4)) (λ z5=>Dg k z5.1 z5.2.1 z5.2.2.1 (wrap .i64 (z5.2.2.2.1+1)) z5.2.2.2.2) r3))) none) none) (some (.inr ()))
def Cd (k:Nat) (a0:y3) (a1:List y0):Option (Bool):=(B1 k a1).bind λ r1=>cond (!r1) (some false) ((Bu a0.1 1 5).bind λ r2=>cond (!r2) (some false) ((Bu (length a0.2:Int) 1 64).bind λ r3=>cond (!r3) (some false) ((Dg k a1 a0.2 (length a0.2:Int) 0 a0).bind λ r4=>Sum.elim (λ y5=>some y5) (λ z6=>some true) r4)))
def Ed (a0:y5):Option (Bool):=(Br a0.1).bind λ r1=>cond r1 (cond (decide ((length a0.2.2:Int)≤200)) (cond (!a0.2.1) (some true) (some ((length a0.2.2:Int)==0))) (some false)) (some false)
def Ae (a0:y0) (a1:y0):Option (Bool):=cond (a0.1 != a1.1) (some (decide (a0.1<a1.1))) (cond (a0.2.1 != a1.2.1) (some (decide (a0.2.1<a1.2.1))) (some (decide (a0.2.2<a1.2.2))))
def C1:Nat→(List y7)→Int→Int→y10→Option (Sum (Bool) y10)
 |0,_,_,_,_=>none
 |k+1,c,e,b,d=>cond (decide (b<e)) (cond (decide ((0:Int)≤b)) (cond (decide (b<(length c:Int))) (let v1:=getD c (toNat b) ((⟨#[]⟩:ByteArray),((((0:Int),((0:Int),(0:Int))),(false,[])),false));(As k v1.1).bind λ r2=>cond (!r2) (some (.inl false)) ((Ed v1.2.1).bind λ r3=>cond (!r3) (some (.inl false)) ((Ae d.2.2.2.1 v1.2.1.1).bind λ r4=>cond r4 (some (.inl false)) (C1 k c e (wrap .i64 (b+1)) d)))) none) none) (some (.inr d))
def Bc (k:Nat) (a0:y10):Option (Bool):=(C1 k a0.2.2.2.2.1 (length a0.2.2.2.2.1:Int) 0 a0).bind λ r1=>Sum.elim (λ y2=>some y2) (λ z3=>some (decide ((length z3.2.2.2.2.1:Int)≤200))) r1
def B2:Nat→(List ByteArray)→Int→Int→y10→Option (Sum (Bool) (Unit))
 |0,_,_,_,_=>none
 |k+1,c,e,b,d=>cond (decide (b<e)) (cond (decide ((0:Int)≤b)) (cond (decide (b<(length c:Int))) (let v1:=getD c (toNat b) (⟨#[]⟩:ByteArray);(As k v1).bind λ r2=>cond (!r2) (some (.inl false)) (cond (decide (b > 0)) (cond (decide ((0:Int)≤wrap .i64 (b-1))) (cond (decide (wrap .i64 (b-1)<(length d.2.2.2.2.2:Int))) (cond (!(Op.bytesLess (getD d.2.2.2.2.2 (toNat (wrap .i64 (b-1))) (⟨#[]⟩:ByteArray)).toList v1.toList)) (some (.inl false)) (B2 k c e (wrap .i64 (b+1)) d)) none) none) (B2 k c e (wrap .i64 (b+1)) d))) none) none) (some (.inr ()))
def C2:Nat→(List y9)→Int→Int→y10→Option (Sum (Bool) y10)
 |0,_,_,_,_=>none
 |k+1,d,e,b,c=>cond (decide (b<e)) (cond (decide ((0:Int)≤b)) (cond (decide (b<(length d:Int))) (let v1:=getD d (toNat b) ((0:Int),(([],[]),([],[])));cond (decide ((0:Int)≤b)) (cond (decide (b<(length c.1:Int))) (cond (v1.1 != (getD c.1 (toNat b) ((0:Int),((0:Int),(0:Int)))).1) (some (.inl false)) ((Bw k v1).bind λ r3=>cond (!r3) (some (.inl false)) (C2 k d e (wrap .i64 (b+1)) c))) none) none) none) none) (some (.inr c))
def Au (k:Nat) (a0:y10):Option (Bool):=(Cd k a0.2.1 a0.1).bind λ r1=>cond (!r1) (some false) (cond ((length a0.2.2.1:Int) != (length a0.1:Int)) (some false) ((Br a0.2.2.2.1).bind λ r2=>cond (!r2) (some false) ((Bc k a0).bind λ r3=>cond (!r3) (some false) ((C2 k a0.2.2.1 (length a0.2.2.1:Int) 0 a0).bind λ r4=>Sum.elim (λ y5=>some y5) (λ z6=>(B2 k z6.2.2.2.2.2 (length z6.2.2.2.2.2:Int) 0 z6).bind λ r7=>Sum.elim (λ y8=>some y8) (λ z9=>some true) r7) r4))))
def Cs:Nat→(List Int)→Int→Int→Int→Option (Sum (Int×Int×Bool) (Unit))
 |0,_,_,_,_=>none
 |k+1,e,c,d,b=>cond (decide (b<5)) (cond (decide (c≥0)) (cond (decide (c<(wrap .i64 ((length e:Int)-b)))) (cond (decide ((0:Int)≤wrap .i64 (c+b))) (cond (decide (wrap .i64 (c+b)<(length e:Int))) (let v1:=getD e (toNat (wrap .i64 (c+b))) (0:Int);cond (decide ((wrap .i64 (7*b))<0)) none (cond (decide ((wrap .i64 v1)≥128)) (Cs k e c (wrap .i64 (d+(wrap .i64 ((Int.tmod (wrap .i64 v1) 128)*2 ^ (min (toNat (wrap .i64 (7*b))) (IntKind.bits .i64)))))) (wrap .i64 (b+1))) (cond ((wrap .i64 v1)==0) (cond (decide (b > 0)) (some (.inl (0,0,false))) (cond (decide ((wrap .i64 (d+(wrap .i64 ((Int.tmod (wrap .i64 v1) 128)*2 ^ (min (toNat (wrap .i64 (7*b))) (IntKind.bits .i64)))))) > 1000000000)) (some (.inl (0,0,false))) (some (.inl (wrap .i64 (d+(wrap .i64 ((Int.tmod (wrap .i64 v1) 128)*2 ^ (min (toNat (wrap .i64 (7*b))) (IntKind.bits .i64))))),wrap .i64 ((wrap .i64 (c+b))+1),true))))) (cond (decide ((wrap .i64 (d+(wrap .i64 ((Int.tmod (wrap .i64 v1) 128)*2 ^ (min (toNat (wrap .i64 (7*b))) (IntKind.bits .i64)))))) > 1000000000)) (some (.inl (0,0,false))) (some (.inl (wrap .i64 (d+(wrap .i64 ((Int.tmod (wrap .i64 v1) 128)*2 ^ (min (toNat (wrap .i64 (7*b))) (IntKind.bits .i64))))),wrap .i64 ((wrap .i64 (c+b))+1),true))))))) none) none) (some (.inr ()))) (some (.inr ()))) (some (.inr ()))
def Dt (k:Nat) (a0:List Int) (a1:Int):Option (Int×Int×Bool):=(Cs k a0 a1 0 0).bind λ r1=>Sum.elim (λ y2=>some (y2.1,y2.2.1,y2.2.2)) (λ z3=>some (0,0,false)) r1
def B7 (k:Nat) (a0:y4):Option (Int×y4):=(Dt k a0.1 a0.2.1).bind λ r1=>cond a0.2.2 (some (0,(a0.1,a0.2.1,true))) (cond (!r1.2.2) (some (0,(a0.1,a0.2.1,true))) (some (r1.1,(a0.1,r1.2.1,a0.2.2))))
def Bg (k:Nat) (a0:y4):Option (y0×Bool×y4):=(B7 k a0).bind λ r1=>(B7 k r1.2).bind λ r2=>(B7 k r2.2).bind λ r3=>(B7 k r3.2).bind λ r4=>cond r4.2.2.2 (some ((r1.1,r2.1,r3.1),r4.1==1,(r4.2.1,r4.2.2.1,true))) (some ((r1.1,r2.1,r3.1),r4.1==1,(r4.2.1,r4.2.2.1,decide (r4.1 > 1))))
def F9 (k:Nat) (a0:List Int) (a1:Int):Option (ByteArray×Int×Bool):=(Dt k a0 a1).bind λ r1=>cond (!r1.2.2) (some ((⟨#[]⟩:ByteArray),0,false)) (cond (decide (r1.1 > (wrap .i64 ((length a0:Int)-r1.2.1)))) (some ((⟨#[]⟩:ByteArray),0,false)) (cond (decide ((0:Int)≤r1.2.1)) (cond (decide (r1.2.1≤wrap .i64 (r1.2.1+r1.1))) (cond (decide (wrap .i64 (r1.2.1+r1.1)≤(length a0:Int))) (some (Hg (List.drop (toNat r1.2.1) (List.take (toNat (wrap .i64 (r1.2.1+r1.1))) a0)),wrap .i64 (r1.2.1+r1.1),true)) none) none) none))
def B3 (k:Nat) (a0:y4):Option (ByteArray×y4):=(F9 k a0.1 a0.2.1).bind λ r1=>cond a0.2.2 (some ((⟨#[]⟩:ByteArray),(a0.1,a0.2.1,true))) (cond (!r1.2.2) (some ((⟨#[]⟩:ByteArray),(a0.1,a0.2.1,true))) (some (r1.1,(a0.1,r1.2.1,a0.2.2))))
def Dh:Nat→(List Int)→Int→Option ((List Int)×Int)
 |0,_,_=>none
 |k+1,c,b=>cond (decide (b > 127)) (cond (Nat.ble ((length c+length [wrap .u8 (wrap .i64 ((Int.tmod b 128)+128))])*1) 140737488355328) (Dh k (c++[wrap .u8 (wrap .i64 ((Int.tmod b 128)+128))]) (wrap .i64 (Int.tdiv b 128))) none) (some (c,b))
def Ce (k:Nat) (a0:List Int) (a1:Int):Option (List Int):=let v1:=if (1000000000:Int)<a1 then 1000000000 else a1;(Dh k a0 (if (0:Int)<v1 then v1 else 0)).bind λ r3=>cond (Nat.ble ((length r3.1+length [wrap .u8 r3.2])*1) 140737488355328) (some (r3.1++[wrap .u8 r3.2])) none
def Fa (k:Nat) (a0:List Int) (a1:ByteArray):Option (List Int):=(Ce k a0 (ByteArray.size a1:Int)).bind λ r1=>cond (Nat.ble ((length r1+ByteArray.size a1)*1) 140737488355328) (some (r1++bytesOf a1)) none
def I9 (a0:Bool):Option (Int):=cond a0 (some 1) (some 0)
def Ee (k:Nat) (a0:List Int) (a1:y0) (a2:Bool):Option (List Int):=(Ce k a0 a1.1).bind λ r1=>(Ce k r1 a1.2.1).bind λ r2=>(Ce k r2 a1.2.2).bind λ r3=>(I9 a2).bind λ r4=>(Ce k r3 r4).bind λ r5=>some r5
def Fj:Nat→Int→(List Int)→Int→Int→Int→Option (Int×y2)
 |0,_,_,_,_,_=>none
 |k+1,b,c,d,e,f=>cond (decide (f<8)) (cond ((wrap .u32 ((ofInt (IntKind.bits .u32) b &&& ofInt (IntKind.bits .u32) 1).toNat))==1) (Fj k (wrap .u32 ((ofInt (IntKind.bits .u32) (Int.fdiv b (2 ^ (min (toNat 1) (IntKind.bits .u32)))) ^^^ ofInt (IntKind.bits .u32) 2197175160).toNat)) c d e (wrap .i64 (f+1))) (Fj k (Int.fdiv b (2 ^ (min (toNat 1) (IntKind.bits .u32)))) c d e (wrap .i64 (f+1)))) (some (b,c,d,e))
def Fv:Nat→Int→(List Int)→Int→Int→Option (Int)
 |0,_,_,_,_=>none
 |k+1,d,c,e,b=>cond (decide (b<e)) (cond (decide ((0:Int)≤b)) (cond (decide (b<(length c:Int))) ((Fj k (wrap .u32 ((ofInt (IntKind.bits .u32) d ^^^ ofInt (IntKind.bits .u32) (wrap .u32 (getD c (toNat b) (0:Int)))).toNat)) c e b 0).bind λ r2=>Fv k r2.1 r2.2.1 r2.2.2.1 (wrap .i64 (r2.2.2.2+1))) none) none) (some d)
def H6 (k:Nat) (a0:List Int):Option (Int):=(Fv k 4294967295 a0 (length a0:Int) 0).bind λ r1=>some (wrap .i64 (wrap .u32 ((ofInt (IntKind.bits .u32) (if IntKind.signed .u32 then -1 else IntKind.max .u32) ^^^ ofInt (IntKind.bits .u32) r1).toNat)))
def Fb (k:Nat) (a0:y5):Option (List Int):=(Ed a0).bind λ r1=>cond (!r1) (some ([]:List Int)) ((Ee k ([]:List Int) a0.1 a0.2.1).bind λ r2=>(Fa k r2 (Hg a0.2.2)).bind λ r3=>(H6 k r3).bind λ r4=>cond (Nat.ble ((length r3+length [wrap .u8 (Int.fdiv r4 (2 ^ (min (toNat 24) (IntKind.bits .i64)))),wrap .u8 (Int.fdiv r4 (2 ^ (min (toNat 16) (IntKind.bits .i64)))),wrap .u8 (Int.fdiv r4 (2 ^ (min (toNat 8) (IntKind.bits .i64)))),wrap .u8 r4])*1) 140737488355328) (some (r3++[wrap .u8 (Int.fdiv r4 (2 ^ (min (toNat 24) (IntKind.bits .i64)))),wrap .u8 (Int.fdiv r4 (2 ^ (min (toNat 16) (IntKind.bits .i64)))),wrap .u8 (Int.fdiv r4 (2 ^ (min (toNat 8) (IntKind.bits .i64)))),wrap .u8 r4])) none)
def Bt (k:Nat) (a0:List Int):Option (y5×Bool):=(Bg k (a0,0,false)).bind λ r1=>(B3 k r1.2.2).bind λ r2=>cond (Nat.ble (ByteArray.size r2.1) 140737488355328) ((Fb k (r1.1,r1.2.1,bytesOf r2.1)).bind λ r3=>cond r2.2.2.2 (some (((0,0,0),false,([]:List Int)),false)) (cond ((length r3:Int)==0) (some (((0,0,0),false,([]:List Int)),false)) (cond (!((Hg r3).toList==(Hg a0).toList)) (some (((0,0,0),false,([]:List Int)),false)) (some ((r1.1,r1.2.1,bytesOf r2.1),true))))) none
def Cf (a0:y5) (a1:y5):Option (Bool):=cond ((a0.1.1==a1.1.1)&&((a0.1.2.1==a1.1.2.1)&&(a0.1.2.2==a1.1.2.2))) (cond (a0.2.1==a1.2.1) (some ((Hg a0.2.2).toList==(Hg a1.2.2).toList)) (some false)) (some false)
def B4:Nat→ByteArray→(List y7)→Int→Int→y5→Option (Sum (Bool) (Unit))
 |0,_,_,_,_,_=>none
 |k+1,d,c,e,b,f=>cond (decide (b<e)) (cond (decide ((0:Int)≤b)) (cond (decide (b<(length c:Int))) (let v1:=getD c (toNat b) ((⟨#[]⟩:ByteArray),((((0:Int),((0:Int),(0:Int))),(false,[])),false));cond (v1.1.toList==d.toList) ((Cf v1.2.1 f).bind λ r2=>cond r2 (some (.inl true)) (B4 k d c e (wrap .i64 (b+1)) f)) (B4 k d c e (wrap .i64 (b+1)) f)) none) none) (some (.inr ()))
def Ay (k:Nat) (a0:y10) (a1:ByteArray) (a2:y5):Option (Bool):=(B4 k a1 a0.2.2.2.2.1 (length a0.2.2.2.2.1:Int) 0 a2).bind λ r1=>Sum.elim (λ y2=>some y2) (λ z3=>some false) r1
def C3:Nat→(List y9)→Int→Int→(List y1)→Int→Int→y10→Option (Sum (Bool) ((List y9)×Int×Int×y10))
 |0,_,_,_,_,_,_,_=>none
 |k+1,e,f,g,c,h,b,d=>cond (decide (b<h)) (cond (decide ((0:Int)≤b)) (cond (decide (b<(length c:Int))) (let v1:=getD c (toNat b) ((⟨#[]⟩:ByteArray),[]);(Bt k v1.2).bind λ r2=>cond r2.2 ((Ay k d v1.1 r2.1).bind λ r3=>cond (!r3) (some (.inl false)) (C3 k e f g c h (wrap .i64 (b+1)) d)) (C3 k e f g c h (wrap .i64 (b+1)) d)) none) none) (some (.inr (e,f,g,d)))
def Ck:Nat→(List y9)→Int→Int→y10→Option (Sum (Bool) (Unit))
 |0,_,_,_,_=>none
 |k+1,c,d,b,e=>cond (decide (b<d)) (cond (decide ((0:Int)≤b)) (cond (decide (b<(length c:Int))) (let v1:=getD c (toNat b) ((0:Int),(([],[]),([],[])));cond (Nat.ble ((length ([]:List y1)+length v1.2.1.1)*40) 140737488355328) (let v2:List y1:=([]:List y1)++v1.2.1.1;cond (Nat.ble ((length v2+length v1.2.1.2)*40) 140737488355328) ((C3 k c d b (v2++v1.2.1.2) (length (v2++v1.2.1.2):Int) 0 e).bind λ r3=>Sum.elim (λ y4=>some (.inl y4)) (λ z5=>Ck k z5.1 z5.2.1 (wrap .i64 (z5.2.2.1+1)) z5.2.2.2) r3) none) none) none) none) (some (.inr ()))
def Ba (k:Nat) (a0:y10):Option (Bool):=(Ck k a0.2.2.1 (length a0.2.2.1:Int) 0 a0).bind λ r1=>Sum.elim (λ y2=>some y2) (λ z3=>some true) r1
def Ef (a0:List y6):Option (List y6):=cond (Nat.ble ((length ([]:List y6)+length a0)*56) 140737488355328) (some (([]:List y6)++a0)) none
def Gu (a0:ByteArray) (a1:y5):Option y6:=some (a0,a1.1,a1.2.1,(length a1.2.2:Int))
def Bo:Nat→Bool→(List y9)→Int→Int→(List y6)→Int→Int→(List y7)→Int→Int→y10→y6→Option (Bool×(List y9)×Int×Int×(List y6)×Int×Int×y10)
 |0,_,_,_,_,_,_,_,_,_,_,_,_=>none
 |k+1,n,e,f,g,h,i,j,d,l,c,m,b=>cond (decide (c<l)) (cond (decide ((0:Int)≤c)) (cond (decide (c<(length d:Int))) (let v1:=getD d (toNat c) ((⟨#[]⟩:ByteArray),((((0:Int),((0:Int),(0:Int))),(false,[])),false));cond n (Bo k true e f g h i j d l (wrap .i64 (c+1)) m b) ((Gu v1.1 v1.2.1).bind λ r2=>Bo k ((r2.1==b.1)&&((r2.2.1.1==b.2.1.1)&&((r2.2.1.2.1==b.2.1.2.1)&&((r2.2.1.2.2==b.2.1.2.2)&&((r2.2.2.1==b.2.2.1)&&(r2.2.2.2==b.2.2.2)))))) e f g h i j d l (wrap .i64 (c+1)) m b)) none) none) (some (n,e,f,g,h,i,j,m))
def Di:Nat→(List y9)→Int→Int→(List y6)→Int→Int→y10→Option (Sum (Bool) ((List y9)×Int×Int×y10))
 |0,_,_,_,_,_,_,_=>none
 |k+1,e,f,g,d,h,b,c=>cond (decide (b<h)) (cond (decide ((0:Int)≤b)) (cond (decide (b<(length d:Int))) ((Bo k false e f g d h b c.2.2.2.2.1 (length c.2.2.2.2.1:Int) 0 c (getD d (toNat b) ((⟨#[]⟩:ByteArray),(((0:Int),((0:Int),(0:Int))),(false,(0:Int)))))).bind λ r2=>cond (!r2.1) (some (.inl false)) (Di k r2.2.1 r2.2.2.1 r2.2.2.2.1 r2.2.2.2.2.1 r2.2.2.2.2.2.1 (wrap .i64 (r2.2.2.2.2.2.2.1+1)) r2.2.2.2.2.2.2.2)) none) none) (some (.inr (e,f,g,c)))
def Dj:Nat→(List y9)→Int→Int→y10→Option (Sum (Bool) (Unit))
 |0,_,_,_,_=>none
 |k+1,c,d,b,e=>cond (decide (b<d)) (cond (decide ((0:Int)≤b)) (cond (decide (b<(length c:Int))) (let v1:=getD c (toNat b) ((0:Int),(([],[]),([],[])));(Ef v1.2.2.1).bind λ r2=>cond (Nat.ble ((length r2+length v1.2.2.2)*56) 140737488355328) ((Di k c d b (r2++v1.2.2.2) (length (r2++v1.2.2.2):Int) 0 e).bind λ r3=>Sum.elim (λ y4=>some (.inl y4)) (λ z5=>Dj k z5.1 z5.2.1 (wrap .i64 (z5.2.2.1+1)) z5.2.2.2) r3) none) none) none) (some (.inr ()))
def Bh (k:Nat) (a0:y10):Option (Bool):=(Dj k a0.2.2.1 (length a0.2.2.1:Int) 0 a0).bind λ r1=>Sum.elim (λ y2=>some y2) (λ z3=>some true) r1
def Cl:Nat→ByteArray→(List ByteArray)→Int→Int→Option (Sum (Bool) (Unit))
 |0,_,_,_,_=>none
 |k+1,d,c,e,b=>cond (decide (b<e)) (cond (decide ((0:Int)≤b)) (cond (decide (b<(length c:Int))) (cond ((getD c (toNat b) (⟨#[]⟩:ByteArray)).toList==d.toList) (some (.inl true)) (Cl k d c e (wrap .i64 (b+1)))) none) none) (some (.inr ()))
def Et (k:Nat) (a0:List ByteArray) (a1:ByteArray):Option (Bool):=(Cl k a1 a0 (length a0:Int) 0).bind λ r1=>Sum.elim (λ y2=>some y2) (λ z3=>some false) r1
def Ga:Nat→ByteArray→(List y1)→Int→Int→Option (Sum (Int) (Unit))
 |0,_,_,_,_=>none
 |k+1,d,c,e,b=>cond (decide (b<e)) (cond (decide ((0:Int)≤b)) (cond (decide (b<(length c:Int))) (cond ((getD c (toNat b) ((⟨#[]⟩:ByteArray),[])).1.toList==d.toList) (some (.inl b)) (Ga k d c e (wrap .i64 (b+1)))) none) none) (some (.inr ()))
def Hp (k:Nat) (a0:List y1) (a1:ByteArray):Option (Int):=(Ga k a1 a0 (length a0:Int) 0).bind λ r1=>Sum.elim (λ y2=>some y2) (λ z3=>some (-1)) r1
def Cu:Nat→ByteArray→(List y9)→Int→Int→y0→Option (Sum (Bool) (Unit))
 |0,_,_,_,_,_=>none
 |k+1,d,c,e,b,f=>cond (decide (b<e)) (cond (decide ((0:Int)≤b)) (cond (decide (b<(length c:Int))) (let v1:=getD c (toNat b) ((0:Int),(([],[]),([],[])));(Hp k v1.2.1.2 d).bind λ r2=>cond (decide (r2<0)) (Cu k d c e (wrap .i64 (b+1)) f) (cond (decide ((0:Int)≤r2)) (cond (decide (r2<(length v1.2.1.2:Int))) ((Bt k (getD v1.2.1.2 (toNat r2) ((⟨#[]⟩:ByteArray),[])).2).bind λ r4=>cond r4.2 ((Ae r4.1.1 f).bind λ r5=>cond (!r5) (some (.inl true)) (Cu k d c e (wrap .i64 (b+1)) f)) (Cu k d c e (wrap .i64 (b+1)) f)) none) none)) none) none) (some (.inr ()))
def Er (k:Nat) (a0:y10) (a1:ByteArray) (a2:y0):Option (Bool):=(Cu k a1 a0.2.2.1 (length a0.2.2.1:Int) 0 a2).bind λ r1=>Sum.elim (λ y2=>some y2) (λ z3=>some false) r1
def Dv:Nat→(List y7)→Int→Int→y10→Option (Sum (Bool) (Unit))
 |0,_,_,_,_=>none
 |k+1,c,e,b,d=>cond (decide (b<e)) (cond (decide ((0:Int)≤b)) (cond (decide (b<(length c:Int))) (let v1:=getD c (toNat b) ((⟨#[]⟩:ByteArray),((((0:Int),((0:Int),(0:Int))),(false,[])),false));cond v1.2.2 ((Et k d.2.2.2.2.2 v1.1).bind λ r2=>cond (!r2) ((Er k d v1.1 v1.2.1.1).bind λ r3=>cond (!r3) (some (.inl false)) (Dv k c e (wrap .i64 (b+1)) d)) (Dv k c e (wrap .i64 (b+1)) d)) (Dv k c e (wrap .i64 (b+1)) d)) none) none) (some (.inr ()))
def Fo (k:Nat) (a0:y10):Option (Bool):=(Dv k a0.2.2.2.2.1 (length a0.2.2.2.2.1:Int) 0 a0).bind λ r1=>Sum.elim (λ y2=>some y2) (λ z3=>some true) r1
def C4:Nat→(List y7)→Int→Int→y10→Option (Sum (Bool) (Unit))
 |0,_,_,_,_=>none
 |k+1,d,e,b,c=>cond (decide (b<e)) (cond (decide ((0:Int)≤b)) (cond (decide (b<(length d:Int))) (let v1:=getD d (toNat b) ((⟨#[]⟩:ByteArray),((((0:Int),((0:Int),(0:Int))),(false,[])),false));(Ae c.2.2.2.1 v1.2.1.1).bind λ r2=>cond r2 (some (.inl false)) (cond (decide (b > 0)) (cond (decide ((0:Int)≤wrap .i64 (b-1))) (cond (decide (wrap .i64 (b-1)<(length c.2.2.2.2.1:Int))) ((Ae (getD c.2.2.2.2.1 (toNat (wrap .i64 (b-1))) ((⟨#[]⟩:ByteArray),((((0:Int),((0:Int),(0:Int))),(false,[])),false))).2.1.1 v1.2.1.1).bind λ r4=>cond (!r4) (some (.inl false)) (C4 k d e (wrap .i64 (b+1)) c)) none) none) (C4 k d e (wrap .i64 (b+1)) c))) none) none) (some (.inr ()))
def Cb (k:Nat) (a0:y10):Option (Bool):=(C4 k a0.2.2.2.2.1 (length a0.2.2.2.2.1:Int) 0 a0).bind λ r1=>Sum.elim (λ y2=>some y2) (λ z3=>some true) r1
def Gy (k:Nat) (a0:y10):Option (Int):=(Au k a0).bind λ r1=>cond (!r1) (some 1) ((Ba k a0).bind λ r2=>cond (!r2) (some 2) ((Bh k a0).bind λ r3=>cond (!r3) (some 3) ((Fo k a0).bind λ r4=>cond (!r4) (some 4) ((Cb k a0).bind λ r5=>cond (!r5) (some 5) (some 0)))))
def Dk (a0:List Int):Option (List Int):=cond (Nat.ble ((length ([]:List Int)+length a0)*1) 140737488355328) (some (([]:List Int)++a0)) none
def Eg (k:Nat) (a0:y8) (a1:ByteArray):Option ((List Int)×Bool):=(Hp k a0.1 a1).bind λ r1=>cond (decide (r1<0)) (some (([]:List Int),false)) (cond (decide ((0:Int)≤r1)) (cond (decide (r1<(length a0.1:Int))) ((Dk (getD a0.1 (toNat r1) ((⟨#[]⟩:ByteArray),[])).2).bind λ r3=>some (r3,true)) none) none)
def Fc (k:Nat) (a0:y8) (a1:ByteArray):Option (y5×Int):=(Eg k a0 a1).bind λ r1=>cond (!r1.2) (some (((0,0,0),false,([]:List Int)),1)) ((Bt k r1.1).bind λ r2=>cond (!r2.2) (some (((0,0,0),false,([]:List Int)),2)) (some (r2.1,0)))
def C5:Nat→(List ByteArray)→ByteArray→Int→Option ((List ByteArray)×ByteArray×Int)
 |0,_,_,_=>none
 |k+1,c,d,b=>cond (decide (b<(length c:Int))) (cond (decide ((0:Int)≤b)) (cond (decide (b<(length c:Int))) (cond (Op.bytesLess (getD c (toNat b) (⟨#[]⟩:ByteArray)).toList d.toList) (C5 k c d (wrap .i64 (b+1))) (some (c,d,b))) none) none) (some (c,d,b))
def Dp (k:Nat) (a0:List ByteArray) (a1:ByteArray):Option (List ByteArray):=(C5 k a0 a1 0).bind λ r1=>cond (decide (r1.2.2<(length r1.1:Int))) (cond (decide ((0:Int)≤r1.2.2)) (cond (decide (r1.2.2<(length r1.1:Int))) (cond ((getD r1.1 (toNat r1.2.2) (⟨#[]⟩:ByteArray)).toList==r1.2.1.toList) (some r1.1) (cond (decide ((0:Int)≤r1.2.2)) (cond (decide (r1.2.2≤(length r1.1:Int))) (cond (Nat.ble ((length ([]:List ByteArray)+length (List.take (toNat r1.2.2) r1.1))*16) 140737488355328) (let v3:List ByteArray:=([]:List ByteArray)++(List.take (toNat r1.2.2) r1.1);cond (Nat.ble ((length v3+length [r1.2.1])*16) 140737488355328) (cond (decide ((0:Int)≤r1.2.2)) (cond (decide (r1.2.2≤(length r1.1:Int))) (cond (Nat.ble ((length (v3++[r1.2.1])+length (List.drop (toNat r1.2.2) r1.1))*16) 140737488355328) (some ((v3++[r1.2.1])++(List.drop (toNat r1.2.2) r1.1))) none) none) none) none) none) none) none)) none) none) (cond (decide ((0:Int)≤r1.2.2)) (cond (decide (r1.2.2≤(length r1.1:Int))) (cond (Nat.ble ((length ([]:List ByteArray)+length (List.take (toNat r1.2.2) r1.1))*16) 140737488355328) (let v5:List ByteArray:=([]:List ByteArray)++(List.take (toNat r1.2.2) r1.1);cond (Nat.ble ((length v5+length [r1.2.1])*16) 140737488355328) (cond (decide ((0:Int)≤r1.2.2)) (cond (decide (r1.2.2≤(length r1.1:Int))) (cond (Nat.ble ((length (v5++[r1.2.1])+length (List.drop (toNat r1.2.2) r1.1))*16) 140737488355328) (some ((v5++[r1.2.1])++(List.drop (toNat r1.2.2) r1.1))) none) none) none) none) none) none) none)
def Eu:Nat→(List ByteArray)→(List y1)→Int→Int→y8→Option (List ByteArray)
 |0,_,_,_,_,_=>none
 |k+1,d,c,e,b,f=>cond (decide (b<e)) (cond (decide ((0:Int)≤b)) (cond (decide (b<(length c:Int))) (let v1:=getD c (toNat b) ((⟨#[]⟩:ByteArray),[]);(Fc k f v1.1).bind λ r2=>cond (r2.2==0) ((Dp k d v1.1).bind λ r3=>Eu k r3 c e (wrap .i64 (b+1)) f) (Eu k d c e (wrap .i64 (b+1)) f)) none) none) (some d)
def Fp (k:Nat) (a0:y8):Option (List ByteArray):=(Eu k ([]:List ByteArray) a0.1 (length a0.1:Int) 0 a0).bind λ r1=>some r1
def Gb (a0:y5) (a1:y5):Option (Bool):=(Ae a1.1 a0.1).bind λ r1=>some r1
def Av:Nat→ByteArray→Bool→(List y9)→Int→Int→y5→y5→Option (Bool×y5×y5)
 |0,_,_,_,_,_,_,_=>none
 |k+1,d,g,c,e,b,f,h=>cond (decide (b<e)) (cond (decide ((0:Int)≤b)) (cond (decide (b<(length c:Int))) ((Fc k (getD c (toNat b) ((0:Int),(([],[]),([],[])))).2.1 d).bind λ r2=>cond (r2.2==0) (cond (!g) (Av k d true c e (wrap .i64 (b+1)) f r2.1) ((Gb r2.1 h).bind λ r3=>cond r3 (Av k d true c e (wrap .i64 (b+1)) f r2.1) (Av k d g c e (wrap .i64 (b+1)) f h))) (Av k d g c e (wrap .i64 (b+1)) f h)) none) none) (some (g,f,h))
def Bd (k:Nat) (a0:y10) (a1:ByteArray):Option (y5×Bool):=(Av k a1 false a0.2.2.1 (length a0.2.2.1:Int) 0 ((0,0,0),false,([]:List Int)) ((0,0,0),false,([]:List Int))).bind λ r1=>some (r1.2.2,r1.1)
def Eh (a0:List Int):Option (List Int):=cond (Nat.ble ((length ([]:List Int)+length a0)*8) 140737488355328) (some (([]:List Int)++a0)) none
def Fe:Nat→ByteArray→Int→Int→Option (Int)
 |0,_,_,_=>none
 |k+1,c,d,b=>cond (decide (b<(ByteArray.size c:Int))) (cond (decide ((0:Int)≤b)) (cond (decide (b<(ByteArray.size c:Int))) (Fe k c (wrap .u32 ((wrap .u32 ((ofInt (IntKind.bits .u32) d ^^^ ofInt (IntKind.bits .u32) (wrap .u32 (bt c b))).toNat))*16777619)) (wrap .i64 (b+1))) none) none) (some d)
def Gr (k:Nat) (a0:ByteArray):Option (Int):=(Fe k a0 2166136261 0).bind λ r1=>some (wrap .i64 r1)
def G5 (k:Nat) (a0:ByteArray) (a1:Int):Option (Int):=cond (decide (a1<1)) (some 0) ((Gr k a0).bind λ r1=>cond (decide (a1=0)) none (some (Int.tmod r1 a1)))
def Bp (k:Nat) (a0:y3) (a1:ByteArray):Option (List Int):=cond ((length a0.2:Int)==0) (some ([]:List Int)) ((G5 k a1 (length a0.2:Int)).bind λ r1=>cond (decide ((0:Int)≤r1)) (cond (decide (r1<(length a0.2:Int))) ((Eh (getD a0.2 (toNat r1) [])).bind λ r3=>some r3) none) none)
def Dl (k:Nat) (a0:y3) (a1:ByteArray) (a2:Int):Option (Bool):=(Bp k a0 a1).bind λ r1=>(Ar k r1 a2).bind λ r2=>some r2
def B5:Nat→ByteArray→(List y9)→Int→Int→y10→y5→Option (Sum (Bool) (Unit))
 |0,_,_,_,_,_,_=>none
 |k+1,c,d,e,b,f,g=>cond (decide (b<e)) (cond (decide ((0:Int)≤b)) (cond (decide (b<(length d:Int))) (let v1:=getD d (toNat b) ((0:Int),(([],[]),([],[])));(Fc k v1.2.1 c).bind λ r2=>(Dl k f.2.1 c v1.1).bind λ r3=>cond (!r3) (cond (r2.2==0) (some (.inl false)) (B5 k c d e (wrap .i64 (b+1)) f g)) (cond (r2.2 != 0) (some (.inl false)) ((Cf r2.1 g).bind λ r4=>cond (!r4) (some (.inl false)) (B5 k c d e (wrap .i64 (b+1)) f g)))) none) none) (some (.inr ()))
def Az (k:Nat) (a0:y10) (a1:ByteArray):Option (Bool):=(Bd k a0 a1).bind λ r1=>(B5 k a1 a0.2.2.1 (length a0.2.2.1:Int) 0 a0 r1.1).bind λ r2=>Sum.elim (λ y3=>some y3) (λ z4=>some true) r2
def Bi:Nat→(List Int)→Int→(List Int)→Int→Int→(List y9)→Int→Int→y10→Option ((List Int)×(List Int)×Int×Int×y10)
 |0,_,_,_,_,_,_,_,_,_=>none
 |k+1,c,e,f,g,h,d,i,b,j=>cond (decide (b<i)) (cond (decide ((0:Int)≤b)) (cond (decide (b<(length d:Int))) (cond ((getD d (toNat b) ((0:Int),(([],[]),([],[])))).1==e) (cond (Nat.ble ((length c+length [b])*8) 140737488355328) (Bi k (c++[b]) e f g h d i (wrap .i64 (b+1)) j) none) (Bi k c e f g h d i (wrap .i64 (b+1)) j)) none) none) (some (c,f,g,h,j))
def Cm:Nat→(List Int)→(List Int)→Int→Int→y10→Option (List Int)
 |0,_,_,_,_,_=>none
 |k+1,e,c,f,b,d=>cond (decide (b<f)) (cond (decide ((0:Int)≤b)) (cond (decide (b<(length c:Int))) ((Bi k e (getD c (toNat b) (0:Int)) c f b d.2.2.1 (length d.2.2.1:Int) 0 d).bind λ r2=>Cm k r2.1 r2.2.1 r2.2.2.1 (wrap .i64 (r2.2.2.2.1+1)) r2.2.2.2.2) none) none) (some e)
def Dw (k:Nat) (a0:y10) (a1:List Int):Option (List Int):=(Cm k ([]:List Int) a1 (length a1:Int) 0 a0).bind λ r1=>some r1
def Ff (k:Nat) (a0:y10):Option (List Int):=(Bp k a0.2.1 (⟨#[108,105,115,116]⟩:ByteArray)).bind λ r1=>(Dw k a0 r1).bind λ r2=>some r2
def C6:Nat→(List y6)→(List y6)→Int→Int→Option (Sum (Bool) (Unit))
 |0,_,_,_,_=>none
 |k+1,c,d,e,b=>cond (decide (b<e)) (cond (decide ((0:Int)≤b)) (cond (decide (b<(length c:Int))) (let v1:=getD c (toNat b) ((⟨#[]⟩:ByteArray),(((0:Int),((0:Int),(0:Int))),(false,(0:Int))));cond (decide ((0:Int)≤b)) (cond (decide (b<(length d:Int))) (let v2:=getD d (toNat b) ((⟨#[]⟩:ByteArray),(((0:Int),((0:Int),(0:Int))),(false,(0:Int))));cond (!((v1.1==v2.1)&&((v1.2.1.1==v2.2.1.1)&&((v1.2.1.2.1==v2.2.1.2.1)&&((v1.2.1.2.2==v2.2.1.2.2)&&((v1.2.2.1==v2.2.2.1)&&(v1.2.2.2==v2.2.2.2))))))) (some (.inl false)) (C6 k c d e (wrap .i64 (b+1)))) none) none) none) none) (some (.inr ()))
def Dq (k:Nat) (a0:List y6) (a1:List y6):Option (Bool):=cond ((length a0:Int) != (length a1:Int)) (some false) ((C6 k a0 a1 (length a0:Int) 0).bind λ r1=>Sum.elim (λ y2=>some y2) (λ z3=>some true) r1)
def B6:Nat→(List Int)→(List y9)→Int→Int→y10→Option (Sum (Bool) (Unit))
 |0,_,_,_,_,_=>none
 |k+1,c,d,f,b,e=>cond (decide (b<f)) (cond (decide ((0:Int)≤b)) (cond (decide (b<(length d:Int))) (let v1:=getD d (toNat b) ((0:Int),(([],[]),([],[])));cond (decide ((length v1.2.2.2:Int) > 0)) (some (.inl false)) ((Ar k c b).bind λ r2=>cond (!r2) (cond (decide ((length v1.2.2.1:Int) > 0)) (some (.inl false)) (B6 k c d f (wrap .i64 (b+1)) e)) (cond (decide ((0:Int)<(length c:Int))) (let v3:=getD c (toNat 0) (0:Int);cond (decide ((0:Int)≤v3)) (cond (decide (v3<(length e.2.2.1:Int))) ((Dq k v1.2.2.1 (getD e.2.2.1 (toNat v3) ((0:Int),(([],[]),([],[])))).2.2.1).bind λ r5=>cond (!r5) (some (.inl false)) (B6 k c d f (wrap .i64 (b+1)) e)) none) none) none))) none) none) (some (.inr ()))
def B0 (k:Nat) (a0:y10):Option (Bool):=(Ff k a0).bind λ r1=>(B6 k r1 a0.2.2.1 (length a0.2.2.1:Int) 0 a0).bind λ r2=>Sum.elim (λ y3=>some y3) (λ z4=>some true) r2
def Ei:Nat→(List y9)→Int→Int→(List ByteArray)→Int→Int→y10→Option (Sum (Bool) ((List y9)×Int×Int×y10))
 |0,_,_,_,_,_,_,_=>none
 |k+1,e,f,g,c,h,b,d=>cond (decide (b<h)) (cond (decide ((0:Int)≤b)) (cond (decide (b<(length c:Int))) ((Az k d (getD c (toNat b) (⟨#[]⟩:ByteArray))).bind λ r2=>cond (!r2) (some (.inl false)) (Ei k e f g c h (wrap .i64 (b+1)) d)) none) none) (some (.inr (e,f,g,d)))
def Ej:Nat→(List y9)→Int→Int→y10→Option (Sum (Bool) y10)
 |0,_,_,_,_=>none
 |k+1,c,d,b,e=>cond (decide (b<d)) (cond (decide ((0:Int)≤b)) (cond (decide (b<(length c:Int))) ((Fp k (getD c (toNat b) ((0:Int),(([],[]),([],[])))).2.1).bind λ r2=>(Ei k c d b r2 (length r2:Int) 0 e).bind λ r3=>Sum.elim (λ y4=>some (.inl y4)) (λ z5=>Ej k z5.1 z5.2.1 (wrap .i64 (z5.2.2.1+1)) z5.2.2.2) r3) none) none) (some (.inr e))
def D7 (k:Nat) (a0:y10):Option (Bool):=(Ej k a0.2.2.1 (length a0.2.2.1:Int) 0 a0).bind λ r1=>Sum.elim (λ y2=>some y2) (λ z3=>(B0 k z3).bind λ r4=>some r4) r1
def Ct:Nat→(List y0)→Int→y10→Option (Sum (Bool) y10)
 |0,_,_,_=>none
 |k+1,c,b,d=>cond (decide (b<(length c:Int))) (cond (decide ((0:Int)≤b)) (cond (decide (b<(length d.2.2.1:Int))) (cond (decide ((0:Int)≤b)) (cond (decide (b<(length c:Int))) (cond ((getD d.2.2.1 (toNat b) ((0:Int),(([],[]),([],[])))).1 != (getD c (toNat b) ((0:Int),((0:Int),(0:Int)))).1) (some (.inl false)) (cond (decide ((0:Int)≤b)) (cond (decide (b<(length d.2.2.1:Int))) (cond ((length (getD d.2.2.1 (toNat b) ((0:Int),(([],[]),([],[])))).2.1.1:Int) != 0) (some (.inl false)) (cond (decide ((0:Int)≤b)) (cond (decide (b<(length c:Int))) ((D0 (getD c (toNat b) ((0:Int),((0:Int),(0:Int)))).1).bind λ r5=>(Bw k r5).bind λ r6=>cond (!r6) (some (.inl false)) (Ct k c (wrap .i64 (b+1)) d)) none) none)) none) none)) none) none) none) none) (some (.inr d))
def F4 (k:Nat) (a0:List Int):Option (Bool):=(I8 a0).bind λ r1=>cond r1 (some true) ((C8 k a0).bind λ r2=>(Bb k r2.1 r2.2.1 r2.2.2).bind λ r3=>(Aw k r2.1 r2.2.1 r2.2.2).bind λ r4=>cond ((length r3.2.2.1:Int) != (length r4.2.2.1:Int)) (some false) (cond ((length r3.2.2.1:Int)==0) ((Au k r3).bind λ r5=>some (!r5)) ((Ct k r2.1 0 r3).bind λ r6=>Sum.elim (λ y7=>some y7) (λ z8=>(Au k z8).bind λ r9=>cond r9 ((Gy k z8).bind λ r10=>cond (r10==0) ((D7 k z8).bind λ r11=>cond r11 (some ((length z8.2.2.2.2.1:Int)==0)) (some false)) (some false)) (some false)) r6)))

def Dm (w:World) (k o:Nat) (cs:List Value):Prop:=∀ j u,cs[j]? = some u→w.cell? ⟨k,o+j,none⟩=some u
def Rows {α:Type} (R:α→List Value→Prop):List α→List Value→Prop
 |[],cs=>cs=[]
 |x::xs,cs=>∃ c d,cs=c++d∧R x c∧Rows R xs d
def Sr (P:Program) (e:TypeId) (n:Nat):Prop:=(P.info? e).map (λ i=>i.size)=some n
def Kh {α:Type} (G:Nat→Prop) (w:World) (R:α→List Value→Prop) (xs:List α) (v:Value):Prop:=
 ∃ a cap cs,v = .slice a xs.length cap∧xs.length≤cap∧Rows R xs cs∧(xs≠[]→∃ k o,a=some ⟨k,o,none⟩∧G k∧Dm w k o cs)
def Ty.rep (P:Program) (G:Nat→Prop) (w:World):(t:Ty)→t.den→List Value→Prop
 |.i k,n,vs=>vs=[.int k n]
 |.b,x,vs=>vs=[.bool x]
 |.s,x,vs=>vs=[.string x]
 |.sl e r,xs,vs=>∃ v,vs=[v]∧Sr P e r.sz∧Kh G w (λ x c=>r.rep P G w x c) xs v
 |.ow e r,xs,vs=>∃ v,vs=[v]∧Sr P e r.sz∧Kh G w (λ x c=>r.rep P G w x c) xs v
 |.pr x y,p,vs=>∃ c d,vs=c++d∧x.rep P G w p.1 c∧y.rep P G w p.2 d
section
variable {P:Program} {G G':Nat→Prop} {w w':World} {α:Type}
def Xp {k:Nat} (h:w'.heap[k]? = w.heap[k]?) (o:Nat):w'.cell? ⟨k,o,none⟩=w.cell? ⟨k,o,none⟩:=by
 simp[World.cell?,h]
def Dm.mono {k o:Nat} {cs:List Value} (h:Dm w k o cs) (hs:w'.heap[k]? = w.heap[k]?):Dm w' k o cs:=
 λ j u hu=>(Xp hs _).trans (h j u hu)
def Rows.mono {R R':α→List Value→Prop} (hR:∀ x c,R x c→R' x c):∀ {xs:List α} {cs:List Value},Rows R xs cs→Rows R' xs cs
 |[],_,h=>h
 |_::_,_,⟨c,d,e,h1,h2⟩=>⟨c,d,e,hR _ _ h1,h2.mono hR⟩
def Kh.mono {R R':α→List Value→Prop} {xs:List α} {v:Value} (h:Kh G w R xs v) (hR:∀ x c,R x c→R' x c) (hG:∀ k,G k→G' k)
  (hw:∀ k,G k→w'.heap[k]? = w.heap[k]?):Kh G' w' R' xs v:=by
 obtain⟨a,cap,cs,e,hc,hr,hx⟩:=h
 refine⟨a,cap,cs,e,hc,hr.mono hR,λ hn=>?_⟩
 obtain⟨k,o,ea,hk,hcs⟩:=hx hn
 exact⟨k,o,ea,hG k hk,hcs.mono (hw k hk)⟩
def Ty.rep_mono (hG:∀ k,G k→G' k) (hw:∀ k,G k→w'.heap[k]? = w.heap[k]?):∀ (t:Ty) (x:t.den) (vs:List Value),t.rep P G w x vs→t.rep P G' w' x vs
 |.i _,_,_,h=>h
 |.b,_,_,h=>h
 |.s,_,_,h=>h
 |.sl _ r,_,_,⟨v,e,hs,h⟩=>⟨v,e,hs,h.mono (λ x c=>Ty.rep_mono hG hw r x c) hG hw⟩
 |.ow _ r,_,_,⟨v,e,hs,h⟩=>⟨v,e,hs,h.mono (λ x c=>Ty.rep_mono hG hw r x c) hG hw⟩
 |.pr x y,p,_,⟨c,d,e,h1,h2⟩=>⟨c,d,e,Ty.rep_mono hG hw x p.1 c h1,Ty.rep_mono hG hw y p.2 d h2⟩
def Ty.rep_len:∀ (t:Ty) (x:t.den) (vs:List Value),t.rep P G w x vs→vs.length=t.sz
 |.i _,_,_,h=>by subst h;rfl
 |.b,_,_,h=>by subst h;rfl
 |.s,_,_,h=>by subst h;rfl
 |.sl _ _,_,_,⟨_,e,_⟩=>by subst e;rfl
 |.ow _ _,_,_,⟨_,e,_⟩=>by subst e;rfl
 |.pr x y,p,_,⟨c,d,e,h1,h2⟩=>by
  subst e
  rw[Vi,Ty.rep_len x p.1 c h1,Ty.rep_len y p.2 d h2]
  rfl
def Rows.len {R:α→List Value→Prop} {n:Nat} (hn:∀ x c,R x c→c.length=n):∀ {xs:List α} {cs:List Value},Rows R xs cs→cs.length=xs.length*n
 |[],_,h=>by simp only[Rows]at h;subst h;simp
 |_::_,_,⟨c,d,e,h1,h2⟩=>by
  subst e
  rw[Vi,hn _ _ h1,h2.len hn,Vh,Yu,Zd,Y3a]
def Rows.get {R:α→List Value→Prop} {n:Nat} (hn:∀ x c,R x c→c.length=n):∀ {xs:List α} {cs:List Value} (_:Rows R xs cs) (i:Nat) (x:α),xs[i]? = some x→R x ((cs.drop (i*n)).take n)
 |[],_,_,i,x,hx=>by simp at hx
 |y::ys,_,⟨c,d,e,h1,h2⟩,0,x,hx=>by
  simp at hx
  subst hx e
  have:=hn _ _ h1
  simp only[Yta,Zi]
  rw[← this,Z5a]
  exact h1
 |y::ys,_,⟨c,d,e,h1,h2⟩,i+1,x,hx=>by
  subst e
  have hl:=hn _ _ h1
  rw[show (i+1)*n=c.length+i*n by rw[hl,Yu,Zd,Y3a],← Yi,Zj]
  exact h2.get hn i x (by simpa using hx)
def Rows.append {R:α→List Value→Prop}:∀ {xs ys:List α} {cs ds:List Value},Rows R xs cs→Rows R ys ds→Rows R (xs++ys) (cs++ds)
 |[],_,_,_,h1,h2=>by simp only[Rows]at h1;subst h1;exact h2
 |_::_,_,_,_,⟨c,d,e,h,h'⟩,h2=>by subst e;exact⟨c,_,by rw[Vo],h,h'.append h2⟩
def Rows.set {R:α→List Value→Prop} {n:Nat} (hn:∀ x c,R x c→c.length=n):∀ {xs:List α} {cs:List Value} (_:Rows R xs cs) (i:Nat) (x:α) (c:List Value),i<xs.length→R x c→
  Rows R (xs.set i x) (cs.take (i*n)++c++cs.drop (i*n+n))
 |[],_,_,i,x,c,hi,_=>by simp at hi
 |y::ys,_,⟨c0,d,e,h1,h2⟩,0,x,c,_,hc=>by
  subst e
  have hl:=hn _ _ h1
  refine⟨c,d,?_,hc,h2⟩
  simp only[Yta,Yaa,Wn,Wg,← hl,Zj]
 |y::ys,_,⟨c0,d,e,h1,h2⟩,i+1,x,c,hi,hc=>by
  subst e
  have hl:=hn _ _ h1
  refine⟨c0,_,?_,h1,h2.set hn i x c (by simpa using hi) hc⟩
  have e1:(i+1)*n=c0.length+i*n:=by rw[hl,Yu,Zd,Y3a]
  rw[e1,Zz,Zl,← Yi,Zj]
  simp[Vo]
def Rows.replicate {R:α→List Value→Prop} {x:α} {c:List Value} (h:R x c):∀ n,Rows R (List.replicate n x) (List.replicate n c).flatten
 |0=>by simp[Rows]
 |n+1=>⟨c,_,by simp[Zza],h,Rows.replicate h n⟩
def Rows.take {R:α→List Value→Prop} {n:Nat} (hn:∀ x c,R x c→c.length=n):∀ {xs:List α} {cs:List Value} (_:Rows R xs cs) (k:Nat),Rows R (xs.take k) (cs.take (k*n))
 |[],_,h,k=>by simp only[Rows]at h;subst h;simp[Rows]
 |_::_,_,⟨c,d,e,h1,h2⟩,0=>by simp[Rows]
 |_::_,_,⟨c,d,e,h1,h2⟩,k+1=>by
  subst e
  have hl:=hn _ _ h1
  refine⟨c,_,?_,h1,h2.take hn k⟩
  rw[show (k+1)*n=c.length+k*n by rw[hl,Yu,Zd,Y3a],Zz]
def Rows.drop {R:α→List Value→Prop} {n:Nat} (hn:∀ x c,R x c→c.length=n):∀ {xs:List α} {cs:List Value} (_:Rows R xs cs) (k:Nat),Rows R (xs.drop k) (cs.drop (k*n))
 |[],_,h,k=>by simp only[Rows]at h;subst h;simp[Rows]
 |_::_,_,h@⟨c,d,e,h1,h2⟩,0=>by simpa using h
 |_::_,_,⟨c,d,e,h1,h2⟩,k+1=>by
  subst e
  have hl:=hn _ _ h1
  have e1:List.drop ((k+1)*n) (c++d)=List.drop (k*n) d:=by
   rw[show (k+1)*n=c.length+k*n by rw[hl,Yu,Zd,Y3a],← Yi,Zj]
  rw[e1]
  exact h2.drop hn k
def Hh (P:Program) (G:Nat→Prop) (w:World):Lf→Value→Prop
 |.sc v,u=>u=v∧Dma v=true
 |.fz e r xs,u=>(Ty.sl e r).rep P G w xs [u]
 |_,_=>False
inductive Ia {β γ:Type} (R:β→γ→Prop):List β→List γ→Prop
 |nil:Ia R [] []
 |cons {x:β} {y:γ} {xs:List β} {ys:List γ}:R x y→Ia R xs ys→Ia R (x::xs) (y::ys)
def Ia.append {β γ:Type} {R:β→γ→Prop} {xs xs':List β} {ys ys':List γ} (h:Ia R xs ys) (h':Ia R xs' ys'):Ia R (xs++xs') (ys++ys'):=by
 induction h with
 |nil=>exact h'
 |cons a _ ih=>exact .cons a ih
def Ia.len {β γ:Type} {R:β→γ→Prop} {xs:List β} {ys:List γ} (h:Ia R xs ys):ys.length=xs.length:=by
 induction h with
 |nil=>rfl
 |cons _ _ ih=>simp[ih]
def Ia.imp {β γ:Type} {R R':β→γ→Prop} {xs:List β} {ys:List γ} (h:Ia R xs ys) (hi:∀ x y,R x y→R' x y):Ia R' xs ys:=by
 induction h with
 |nil=>exact .nil
 |cons a _ ih=>exact .cons (hi _ _ a) ih
def Ia.drop {β γ:Type} {R:β→γ→Prop} {xs:List β} {ys:List γ} (h:Ia R xs ys):∀ n,Ia R (xs.drop n) (ys.drop n):=by
 induction h with
 |nil=>intro n;cases n<;>exact .nil
 |cons a h ih=>intro n;cases n with
  |zero=>exact .cons a h
  |succ n=>exact ih n
def Ia.take {β γ:Type} {R:β→γ→Prop} {xs:List β} {ys:List γ} (h:Ia R xs ys):∀ n,Ia R (xs.take n) (ys.take n):=by
 induction h with
 |nil=>intro n;cases n<;>exact .nil
 |cons a h ih=>intro n;cases n with
  |zero=>exact .nil
  |succ n=>exact .cons a (ih n)
def Ul:∀ (t:Ty) (x:t.den),(lvs t x).length=t.sz
 |.i _,_=>rfl
 |.b,_=>rfl
 |.s,_=>rfl
 |.sl _ _,_=>rfl
 |.ow _ _,_=>rfl
 |.pr x y,p=>by
  show (lvs x p.1++lvs y p.2).length=x.sz+y.sz
  rw[Vi,Ul x p.1,Ul y p.2]
def Ki:∀ (t:Ty) (x:t.den) (vs:List Value),t.rep P G w x vs→Ia (Hh P G w) (lvs t x) vs
 |.i _,_,_,h=>by subst h;exact .cons ⟨rfl,rfl⟩ .nil
 |.b,_,_,h=>by subst h;exact .cons ⟨rfl,rfl⟩ .nil
 |.s,_,_,h=>by subst h;exact .cons ⟨rfl,rfl⟩ .nil
 |.sl _ _,_,_,⟨_,e,h⟩=>by subst e;exact .cons ⟨_,rfl,h⟩ .nil
 |.ow _ _,_,_,⟨_,e,h⟩=>by subst e;exact .cons ⟨_,rfl,h⟩ .nil
 |.pr x y,p,_,⟨c,d,e,h1,h2⟩=>by subst e;exact(Ki x p.1 c h1).append (Ki y p.2 d h2)
def Qr {α β:Type} (h:α=β) (xs:List α):cast (congrArg List h) xs=xs.map (cast h):=by
 subst h
 show xs=List.map (λ x=>x) xs
 simp
def Rows.map {β:Type} {R:α→List Value→Prop} {R':β→List Value→Prop} {f:α→β} (hR:∀ x c,R x c→R' (f x) c):∀ {xs:List α} {cs:List Value},Rows R xs cs→Rows R' (xs.map f) cs
 |[],_,h=>h
 |_::_,_,⟨c,d,e,h1,h2⟩=>⟨c,d,e,hR _ _ h1,h2.map hR⟩
def Rows.unmap {β:Type} {R:α→List Value→Prop} {R':β→List Value→Prop} {f:α→β} (hR:∀ x c,R' (f x) c→R x c):∀ {xs:List α} {cs:List Value},Rows R' (xs.map f) cs→Rows R xs cs
 |[],_,h=>h
 |_::_,_,⟨c,d,e,h1,h2⟩=>⟨c,d,e,hR _ _ h1,h2.unmap hR⟩
def I2:∀ t:Ty,(shp t).sz=t.sz
 |.i _=>rfl
 |.b=>rfl
 |.s=>rfl
 |.sl _ _=>rfl
 |.ow _ _=>rfl
 |.pr x y=>by show (shp x).sz+(shp y).sz=x.sz+y.sz;rw[I2 x,I2 y]
def Kh.map {β:Type} {R:α→List Value→Prop} {R':β→List Value→Prop} {f:α→β} {xs:List α} {v:Value} (hR:∀ x c,R x c↔R' (f x) c):Kh G w R xs v↔Kh G w R' (xs.map f) v:=by
 constructor
 ·rintro⟨a,cap,cs,e,hc,hr,hx⟩
  exact⟨a,cap,cs,by rw[Wf];exact e,by rw[Wf];exact hc,hr.map (λ x c=>(hR x c).1),λ hn=>hx (by intro e;subst e;simp at hn)⟩
 ·rintro⟨a,cap,cs,e,hc,hr,hx⟩
  rw[Wf]at e hc
  exact⟨a,cap,cs,e,hc,hr.unmap (λ x c=>(hR x c).2),λ hn=>hx (by intro e;rw[List.map_eq_nil_iff]at e;exact hn e)⟩
def Moa {α α' β β':Type} (h1:α=α') (h2:β=β') (h:(α×β)=(α'×β')) (x:α×β):(cast h x).1=cast h1 x.1∧(cast h x).2=cast h2 x.2:=by
 subst h1 h2
 exact⟨rfl,rfl⟩
def Oo:∀ (t:Ty) (x:t.den) (vs:List Value),t.rep P G w x vs↔(shp t).rep P G w (cast (G8 t).symm x) vs
 |.i _,_,_=>Abb
 |.b,_,_=>Abb
 |.s,_,_=>Abb
 |.sl e r,xs,vs=>by
  have hc:cast (G8 (.sl e r)).symm xs=List.map (cast (G8 r).symm) xs:=Qr (G8 r).symm xs
  rw[hc]
  show (∃ v,vs=[v]∧Sr P e r.sz∧Kh G w (λ x c=>r.rep P G w x c) xs v)↔(∃ v,vs=[v]∧Sr P e (shp r).sz∧Kh G w (λ x c=>(shp r).rep P G w x c) _ v)
  rw[I2 r]
  exact exists_congr λ v=>and_congr_right λ _=>and_congr_right λ _=>Kh.map (λ x c=>Oo r x c)
 |.ow e r,xs,vs=>by
  have hc:cast (G8 (.ow e r)).symm xs=List.map (cast (G8 r).symm) xs:=Qr (G8 r).symm xs
  rw[hc]
  show (∃ v,vs=[v]∧Sr P e r.sz∧Kh G w (λ x c=>r.rep P G w x c) xs v)↔(∃ v,vs=[v]∧Sr P e (shp r).sz∧Kh G w (λ x c=>(shp r).rep P G w x c) _ v)
  rw[I2 r]
  exact exists_congr λ v=>and_congr_right λ _=>and_congr_right λ _=>Kh.map (λ x c=>Oo r x c)
 |.pr x y,p,vs=>by
  obtain⟨e1,e2⟩:=Moa (G8 x).symm (G8 y).symm (G8 (.pr x y)).symm p
  show (∃ c d,vs=c++d∧x.rep P G w p.1 c∧y.rep P G w p.2 d)↔(∃ c d,vs=c++d∧(shp x).rep P G w (cast (G8 (.pr x y)).symm p).1 c∧(shp y).rep P G w (cast (G8 (.pr x y)).symm p).2 d)
  have key:∀ (q:(shp x).den×(shp y).den),q.1=cast (G8 x).symm p.1→q.2=cast (G8 y).symm p.2→((∃ c d,vs=c++d∧x.rep P G w p.1 c∧y.rep P G w p.2 d)↔∃ c d,vs=c++d∧(shp x).rep P G w q.1 c∧(shp y).rep P G w q.2 d):=by
   intro q h1 h2
   rw[h1,h2]
   exact exists_congr λ c=>exists_congr λ d=>and_congr_right λ _=>and_congr (Oo x p.1 c) (Oo y p.2 d)
  exact key _ e1 e2
def Tva {t u:Ty} (h:u=t) (h2:u.den=t.den) (x:u.den) (vs:List Value):u.rep P G w x vs↔t.rep P G w (cast h2 x) vs:=by
 subst h
 exact Abb
def I5a {t u:Ty} (h:shp u=shp t) (x:u.den) (vs:List Value):u.rep P G w x vs↔t.rep P G w (cast (Dla h) x) vs:=by
 rw[Oo u x vs,Oo t _ vs,Tva h (congrArg Ty.den h) _ vs]
 simp only[cast_cast]
def Oq {r r':Ty} {xs:List r'.den} {ys:List r.den} (h:Mv r r' xs=some ys):∃ e:shp r'=shp r,ys=xs.map (cast (Dla e)):=by
 unfold Mv at h
 split at h
 ·rename_i e
  simp only[Vc]at h
  exact⟨e,by rw[← h];exact Qr (Dla e) xs⟩
 ·cases h
def Td {r r':Ty} {xs:List r'.den} {ys:List r.den} {cs:List Value} (h:Mv r r' xs=some ys) (hr:Rows (λ x c=>r'.rep P G w x c) xs cs):Rows (λ x c=>r.rep P G w x c) ys cs∧ys.length=xs.length:=by
 obtain⟨e,rfl⟩:=Oq h
 exact⟨hr.map (λ x c hx=>(I5a e x c).1 hx),by rw[Wf]⟩
def Nl {r r':Ty} {e:TypeId} {xs:List r'.den} {ys:List r.den} {vs:List Value} (h:Mv r r' xs=some ys) (hr:(Ty.sl e r').rep P G w xs vs):(Ty.sl e r).rep P G w ys vs:=by
 obtain⟨e1,rfl⟩:=Oq h
 obtain⟨v,ev,hs,hr⟩:=hr
 have hsz:r'.sz=r.sz:=by rw[← I2 r',e1,I2 r]
 exact⟨v,ev,by rw[← hsz];exact hs,(Kh.map (λ x c=>I5a e1 x c)).1 hr⟩
def Te {r r':Ty} {xs:List r'.den} {ys:List r.den} (h:Py r r' xs=some ys):(∃ e:r'=r,ys=e ▸ xs)∨(shp r'=shp r∧xs=[]∧ys=[]):=by
 unfold Py at h
 split at h
 ·rename_i e
  exact .inl ⟨e,by simpa using h.symm⟩
 ·split at h
  ·rename_i e
   split at h
   ·simp only[Vc]at h
    exact .inr ⟨e,rfl,h.symm⟩
   ·cases h
  ·cases h
def R8a:∀ (t:Ty) (l l':List Lf) (x:t.den) (us:List Value),mkT t l=some (x,l')→Ia (Hh P G w) l us→
  ∃ vs ws,us=vs++ws∧t.rep P G w x vs∧Ia (Hh P G w) l' ws:=by
 intro t
 induction t with
 |i k=>
  intro l l' x us h hl
  cases hl with
  |nil=>simp[mkT]at h
  |@cons y u ys us' hy hys=>
   cases y<;>first|(simp[mkT]at h;done)|skip
   rename_i v
   cases v<;>first|(simp[mkT]at h;done)|skip
   rename_i k' n
   simp only[mkT]at h
   by_cases hk:k=k'
   ·subst hk
    simp at h
    obtain⟨rfl,rfl⟩:=h
    exact⟨[u],us',rfl,by rw[hy.1];rfl,hys⟩
   ·simp[hk]at h
 |b=>
  intro l l' x us h hl
  cases hl with
  |nil=>simp[mkT]at h
  |@cons y u ys us' hy hys=>
   cases y<;>first|(simp[mkT]at h;done)|skip
   rename_i v
   cases v<;>first|(simp[mkT]at h;done)|skip
   simp[mkT]at h
   obtain⟨rfl,rfl⟩:=h
   exact⟨[u],us',rfl,by rw[hy.1];rfl,hys⟩
 |s=>
  intro l l' x us h hl
  cases hl with
  |nil=>simp[mkT]at h
  |@cons y u ys us' hy hys=>
   cases y<;>first|(simp[mkT]at h;done)|skip
   rename_i v
   cases v<;>first|(simp[mkT]at h;done)|skip
   simp[mkT]at h
   obtain⟨rfl,rfl⟩:=h
   exact⟨[u],us',rfl,by rw[hy.1];rfl,hys⟩
 |sl e r _=>
  intro l l' x us h hl
  cases hl with
  |nil=>simp[mkT]at h
  |@cons y u ys us' hy hys=>
   cases y<;>first|(simp[mkT]at h;done)|exact hy.elim|skip
   rename_i e' r' xs
   simp only[mkT]at h
   cases he:Nat.beq e e'
   ·rw[he]at h;simp at h
   rw[he]at h
   simp only[cond_true]at h
   split at h
   ·rename_i zs hz
    have:e=e':=by simpa using he
    subst this
    simp at h
    obtain⟨rfl,rfl⟩:=h
    exact⟨[u],us',rfl,Nl hz hy,hys⟩
   ·cases h
 |ow e r _=>
  intro l l' x us h hl
  cases hl with
  |nil=>simp[mkT]at h
  |@cons y u ys us' hy hys=>
   cases y<;>first|(simp[mkT]at h;done)|exact hy.elim
 |pr x y ihx ihy=>
  intro l l' p us h hl
  simp only[mkT]at h
  split at h
  ·rename_i a l1 h1
   split at h
   ·rename_i b l2 h2
    simp at h
    obtain⟨rfl,rfl⟩:=h
    obtain⟨vs,ws,rfl,r1,hw1⟩:=ihx _ _ _ _ h1 hl
    obtain⟨vs2,ws2,rfl,r2,hw2⟩:=ihy _ _ _ _ h2 hw1
    exact⟨vs++vs2,ws2,by rw[Vo],⟨vs,vs2,rfl,r1,r2⟩,hw2⟩
   ·cases h
  ·cases h
def Qs {t:Ty} {l:List Lf} {x:t.den} {us:List Value} (h:mkW t l=some x) (hl:Ia (Hh P G w) l us):t.rep P G w x us:=by
 unfold mkW at h
 split at h
 ·rename_i y hy
  simp at h
  subst h
  obtain⟨vs,ws,rfl,hr,hw⟩:=R8a _ _ _ _ _ hy hl
  cases hw
  rw[Ym]
  exact hr
 ·cases h
def Hh.mono {x:Lf} {u:Value} (h:Hh P G w x u) (hG:∀ k,G k→G' k) (hw:∀ k,G k→w'.heap[k]? = w.heap[k]?):Hh P G' w' x u:=by
 cases x<;>first|exact h|exact Ty.rep_mono hG hw _ _ _ h
end
def Cz {α:Type} (R:α→List Value→List Nat→Prop):List α→List Value→List Nat→Prop
 |[],cs,bs=>cs=[]∧bs=[]
 |x::xs,cs,bs=>∃ c d b1 b2,cs=c++d∧bs=b1++b2∧R x c b1∧Cz R xs d b2
def Ty.dep (P:Program) (G:Nat→Prop) (w:World):(t:Ty)→t.den→List Value→List Nat→Prop
 |.i k,n,vs,bs=>vs=[.int k n]∧bs=[]
 |.b,x,vs,bs=>vs=[.bool x]∧bs=[]
 |.s,x,vs,bs=>vs=[.string x]∧bs=[]
 |.sl e r,xs,vs,bs=>(Ty.sl e r).rep P G w xs vs∧bs=[]
 |.ow e r,xs,vs,bs=>∃ v cs b2,vs=[v]∧Sr P e r.sz∧w.ownsRow 0 e r.sz v xs.length cs∧Cz (λ x c b=>r.dep P G w x c b) xs cs b2∧bs=v.ownBlock.toList++b2
 |.pr x y,p,vs,bs=>∃ c d b1 b2,vs=c++d∧bs=b1++b2∧x.dep P G w p.1 c b1∧y.dep P G w p.2 d b2
section
variable {P:Program} {G G':Nat→Prop} {w w':World} {α:Type}
def Lh {w w':World} {e n m:Nat} {cs:List Value} {u:Value} (h:w.ownsRow 0 e n u m cs) (hk:∀ k,u.ownBlock=some k→w'.heap[k]? = w.heap[k]?):w'.ownsRow 0 e n u m cs:=by
 refine⟨h.1,?_⟩
 rcases h.2 with hn|⟨g,cap,cur,rfl,hb,hg,rest⟩
 ·exact .inl hn
 ·exact .inr ⟨g,cap,cur,rfl,hb,(hk g rfl).trans hg,rest⟩
def Dx {w:World} {e n m:Nat} {cs:List Value} {u:Value} (h:w.ownsRow 0 e n u m cs):
  (u = .slice none 0 0∧m=0∧cs=[])∨∃ k cap cur,u = .slice (some ⟨k,0,none⟩) m cap∧w.heap[k]? = some (.cells cur e (0,0))∧m≤cap∧cap≤maxLen∧cur.size=cap*n∧cur.toList.take (m*n)=cs:=by
 rcases h.2 with⟨e1,e2⟩|⟨k,cap,cur,e1,_,e2,e3,e4,e5,e6⟩
 ·refine .inl ⟨e1,e2,?_⟩
  have:=h.1
  rw[e2,Yta]at this
  exact Wk this
 ·exact .inr ⟨k,cap,cur,e1,e2,e3,e4,e5,e6⟩
def Gz {w:World} {k:Nat} {cur:Array Value} {e:TypeId} {f:Nat×Nat} {cs:List Value} {n:Nat} (h:w.heap[k]? = some (.cells cur e f)) (ht:cur.toList.take n=cs):Dm w k 0 cs:=by
 intro j u hu
 subst ht
 rw[Wq]at hu
 split at hu
 ·simp[World.cell?,h]
  simpa using hu
 ·cases hu
def Cz.mono {R R':α→List Value→List Nat→Prop}:∀ {xs:List α} {cs:List Value} {bs:List Nat},(∀ x c b,(∀ k∈b,k∈bs)→R x c b→R' x c b)→Cz R xs cs bs→Cz R' xs cs bs
 |[],_,_,_,h=>h
 |_::_,_,_,hR,⟨c,d,b1,b2,e1,e2,h1,h2⟩=>⟨c,d,b1,b2,e1,e2,hR _ _ _ (λ k hk=>by rw[e2];exact Vx _ hk) h1,h2.mono (λ x c b hb h=>hR x c b (λ k hk=>by rw[e2];exact Vn _ (hb k hk)) h)⟩
def Ty.dep_mono (hG:∀ k,G k→G' k) (hw:∀ k,G k→w'.heap[k]? = w.heap[k]?):∀ (t:Ty) (x:t.den) (vs:List Value) (bs:List Nat),(∀ k∈bs,w'.heap[k]? = w.heap[k]?)→t.dep P G w x vs bs→t.dep P G' w' x vs bs
 |.i _,_,_,_,_,h=>h
 |.b,_,_,_,_,h=>h
 |.s,_,_,_,_,h=>h
 |.sl e r,xs,vs,_,_,⟨h,hb⟩=>⟨Ty.rep_mono hG hw (.sl e r) xs vs h,hb⟩
 |.ow _ r,_,_,bs,hb,⟨v,cs,b2,e,hs,ho,hd,eb⟩=>⟨v,cs,b2,e,hs,Lh ho (λ k hk=>hb k (by rw[eb,hk];simp)),hd.mono (λ x c b hbb h=>Ty.dep_mono hG hw r x c b (λ k hk=>hb k (by rw[eb];exact Vn _ (hbb k hk))) h),eb⟩
 |.pr x y,p,_,bs,hb,⟨c,d,b1,b2,e,eb,h1,h2⟩=>⟨c,d,b1,b2,e,eb,Ty.dep_mono hG hw x p.1 c b1 (λ k hk=>hb k (by rw[eb];exact Vx _ hk)) h1,Ty.dep_mono hG hw y p.2 d b2 (λ k hk=>hb k (by rw[eb];exact Vn _ hk)) h2⟩
def Cz.rows {R:α→List Value→List Nat→Prop} {R':α→List Value→Prop}:∀ {xs:List α} {cs:List Value} {bs:List Nat},(∀ x c b,(∀ k∈b,k∈bs)→R x c b→R' x c)→Cz R xs cs bs→Rows R' xs cs
 |[],_,_,_,h=>h.1
 |_::_,_,_,hR,⟨c,d,b1,b2,e1,e2,h1,h2⟩=>⟨c,d,e1,hR _ _ _ (λ k hk=>by rw[e2];exact Vx _ hk) h1,h2.rows (λ x c b hb h=>hR x c b (λ k hk=>by rw[e2];exact Vn _ (hb k hk)) h)⟩
def Ty.dep_rep (hG:∀ k,G k→G' k):∀ (t:Ty) (x:t.den) (vs:List Value) (bs:List Nat),(∀ k∈bs,G' k)→t.dep P G w x vs bs→t.rep P G' w x vs
 |.i _,_,_,_,_,h=>h.1
 |.b,_,_,_,_,h=>h.1
 |.s,_,_,_,_,h=>h.1
 |.sl e r,xs,vs,_,_,⟨h,_⟩=>Ty.rep_mono hG (λ _ _=>rfl) (.sl e r) xs vs h
 |.ow e r,xs,_,bs,hb,⟨v,cs,b2,ev,hs,ho,hd,eb⟩=>by
  have hr:Rows (λ x c=>r.rep P G' w x c) xs cs:=hd.rows (λ x c b hbb h=>Ty.dep_rep hG r x c b (λ k hk=>hb k (by rw[eb];exact Vn _ (hbb k hk))) h)
  refine⟨v,ev,hs,?_⟩
  rcases Dx ho with⟨rfl,hm,rfl⟩|⟨k,cap,cur,rfl,hg,hc,_,_,ht⟩
  ·refine⟨none,0,[],?_,by omega,hr,λ hn=>?_⟩
   ·rw[hm]
   ·exact absurd (Wk hm) hn
  ·exact⟨_,cap,cs,rfl,hc,hr,λ _=>⟨k,0,rfl,hb k (by rw[eb];simp[Value.ownBlock]),Gz hg ht⟩⟩
 |.pr x y,p,_,bs,hb,⟨c,d,b1,b2,e,eb,h1,h2⟩=>⟨c,d,e,Ty.dep_rep hG x p.1 c b1 (λ k hk=>hb k (by rw[eb];exact Vx _ hk)) h1,Ty.dep_rep hG y p.2 d b2 (λ k hk=>hb k (by rw[eb];exact Vn _ hk)) h2⟩
def Ty.dep_flat:∀ (t:Ty) (x:t.den) (vs:List Value) (bs:List Nat),Hq t=true→(t.dep P G w x vs bs↔t.rep P G w x vs∧bs=[])
 |.i _,_,_,_,_=>Abb
 |.b,_,_,_,_=>Abb
 |.s,_,_,_,_=>Abb
 |.sl _ _,_,_,_,_=>Abb
 |.ow _ _,_,_,_,h=>by simp[Hq]at h
 |.pr x y,p,vs,bs,h=>by
  simp only[Hq,Va]at h
  constructor
  ·rintro⟨c,d,b1,b2,e,eb,h1,h2⟩
   obtain⟨r1,rfl⟩:=(Ty.dep_flat x p.1 c b1 h.1).1 h1
   obtain⟨r2,rfl⟩:=(Ty.dep_flat y p.2 d b2 h.2).1 h2
   exact⟨⟨c,d,e,r1,r2⟩,eb⟩
  ·rintro⟨⟨c,d,e,r1,r2⟩,rfl⟩
   exact⟨c,d,[],[],e,rfl,(Ty.dep_flat x p.1 c [] h.1).2 ⟨r1,rfl⟩,(Ty.dep_flat y p.2 d [] h.2).2 ⟨r2,rfl⟩⟩
def Cz.flat {R:α→List Value→List Nat→Prop} {R':α→List Value→Prop} (hR:∀ x c b,R x c b↔R' x c∧b=[]):∀ {xs:List α} {cs:List Value} {bs:List Nat},Cz R xs cs bs↔Rows R' xs cs∧bs=[]
 |[],_,_=>Abb
 |x::xs,cs,bs=>by
  constructor
  ·rintro⟨c,d,b1,b2,e,eb,h1,h2⟩
   obtain⟨r1,rfl⟩:=(hR x c b1).1 h1
   obtain⟨r2,rfl⟩:=(Cz.flat hR).1 h2
   exact⟨⟨c,d,e,r1,r2⟩,eb⟩
  ·rintro⟨⟨c,d,e,r1,r2⟩,rfl⟩
   exact⟨c,d,[],[],e,rfl,(hR x c []).2 ⟨r1,rfl⟩,(Cz.flat hR).2 ⟨r2,rfl⟩⟩
def Ty.dep_len:∀ (t:Ty) (x:t.den) (vs:List Value) (bs:List Nat),t.dep P G w x vs bs→vs.length=t.sz
 |.i _,_,_,_,h=>by obtain⟨rfl,_⟩:=h;rfl
 |.b,_,_,_,h=>by obtain⟨rfl,_⟩:=h;rfl
 |.s,_,_,_,h=>by obtain⟨rfl,_⟩:=h;rfl
 |.sl e r,xs,vs,_,h=>Ty.rep_len (.sl e r) xs vs h.1
 |.ow _ _,_,_,_,⟨_,_,_,e,_⟩=>by subst e;rfl
 |.pr x y,p,_,_,⟨c,d,b1,b2,e,_,h1,h2⟩=>by
  subst e
  rw[Vi,Ty.dep_len x p.1 c b1 h1,Ty.dep_len y p.2 d b2 h2]
  rfl
def Cz.len {R:α→List Value→List Nat→Prop} {n:Nat} (hn:∀ x c b,R x c b→c.length=n):∀ {xs:List α} {cs:List Value} {bs:List Nat},Cz R xs cs bs→cs.length=xs.length*n
 |[],_,_,h=>by obtain⟨rfl,_⟩:=h;simp
 |_::_,_,_,⟨c,d,b1,b2,e,_,h1,h2⟩=>by
  subst e
  rw[Vi,hn _ _ _ h1,h2.len hn,Vh,Yu,Zd,Y3a]
def Cz.take {R:α→List Value→List Nat→Prop} {n:Nat} (hn:∀ x c b,R x c b→c.length=n):∀ {xs:List α} {cs:List Value} {bs:List Nat} (_:Cz R xs cs bs) (k:Nat),∃ b',Cz R (xs.take k) (cs.take (k*n)) b'∧b'.Sublist bs
 |[],_,_,h,k=>by obtain⟨rfl,rfl⟩:=h;exact⟨[],by simp[Cz],Zma _⟩
 |_::_,_,_,⟨c,d,b1,b2,e,eb,h1,h2⟩,0=>⟨[],by simp[Cz],List.nil_sublist _⟩
 |_::_,_,_,⟨c,d,b1,b2,e,eb,h1,h2⟩,k+1=>by
  subst e eb
  have hl:=hn _ _ _ h1
  obtain⟨b',h3,h4⟩:=h2.take hn k
  refine⟨b1++b',⟨c,_,b1,b',?_,rfl,h1,h3⟩,(Zma b1).append h4⟩
  rw[show (k+1)*n=c.length+k*n by rw[hl,Yu,Zd,Y3a],Zz]
def Cz.drop {R:α→List Value→List Nat→Prop} {n:Nat} (hn:∀ x c b,R x c b→c.length=n):∀ {xs:List α} {cs:List Value} {bs:List Nat} (_:Cz R xs cs bs) (k:Nat),∃ b',Cz R (xs.drop k) (cs.drop (k*n)) b'∧b'.Sublist bs
 |[],_,_,h,k=>by obtain⟨rfl,rfl⟩:=h;exact⟨[],by simp[Cz],Zma _⟩
 |x::xs,cs,bs,h@⟨c,d,b1,b2,e,eb,h1,h2⟩,0=>⟨bs,by simpa using h,Zma _⟩
 |_::_,_,_,⟨c,d,b1,b2,e,eb,h1,h2⟩,k+1=>by
  subst e eb
  have hl:=hn _ _ _ h1
  obtain⟨b',h3,h4⟩:=h2.drop hn k
  refine⟨b',?_,h4.trans (Yma b1 b2)⟩
  have e1:List.drop ((k+1)*n) (c++d)=List.drop (k*n) d:=by
   rw[show (k+1)*n=c.length+k*n by rw[hl,Yu,Zd,Y3a],← Yi,Zj]
  rw[e1]
  exact h3
def Cz.append {R:α→List Value→List Nat→Prop}:∀ {xs ys:List α} {cs ds:List Value} {bs es:List Nat},Cz R xs cs bs→Cz R ys ds es→Cz R (xs++ys) (cs++ds) (bs++es)
 |[],_,_,_,_,_,h1,h2=>by obtain⟨rfl,rfl⟩:=h1;exact h2
 |_::_,_,_,_,_,_,⟨c,d,b1,b2,e,eb,h,h'⟩,h2=>by subst e eb;exact⟨c,_,b1,_,by rw[Vo],by rw[Vo],h,h'.append h2⟩
def Cz.get {R:α→List Value→List Nat→Prop} {n:Nat} (hn:∀ x c b,R x c b→c.length=n):∀ {xs:List α} {cs:List Value} {bs:List Nat} (_:Cz R xs cs bs) (i:Nat) (x:α),xs[i]? = some x→∃ b,R x ((cs.drop (i*n)).take n) b∧b.Sublist bs
 |[],_,_,_,i,x,hx=>by simp at hx
 |y::ys,_,_,⟨c,d,b1,b2,e,eb,h1,h2⟩,0,x,hx=>by
  simp at hx
  subst hx e eb
  have:=hn _ _ _ h1
  simp only[Yta,Zi]
  rw[← this,Z5a]
  exact⟨b1,h1,Zba b1 b2⟩
 |y::ys,_,_,⟨c,d,b1,b2,e,eb,h1,h2⟩,i+1,x,hx=>by
  subst e eb
  have hl:=hn _ _ _ h1
  rw[show (i+1)*n=c.length+i*n by rw[hl,Yu,Zd,Y3a],← Yi,Zj]
  obtain⟨b,h3,h4⟩:=h2.get hn i x (by simpa using hx)
  exact⟨b,h3,h4.trans (Yma b1 b2)⟩
def Ty.dep_all:∀ (t:Ty) (x:t.den) (vs:List Value) (bs:List Nat),Fl t=true→(∀ k∈bs,w'.heap[k]? = w.heap[k]?)→t.dep P G w x vs bs→t.dep P G' w' x vs bs
 |.i _,_,_,_,_,_,h=>h
 |.b,_,_,_,_,_,h=>h
 |.s,_,_,_,_,_,h=>h
 |.sl _ _,_,_,_,h,_,_=>by simp[Fl]at h
 |.ow _ r,_,_,bs,ha,hb,⟨v,cs,b2,e,hs,ho,hd,eb⟩=>⟨v,cs,b2,e,hs,Lh ho (λ k hk=>hb k (by rw[eb,hk];simp)),hd.mono (λ x c b hbb h=>Ty.dep_all r x c b ha (λ k hk=>hb k (by rw[eb];exact Vn _ (hbb k hk))) h),eb⟩
 |.pr x y,p,_,bs,ha,hb,⟨c,d,b1,b2,e,eb,h1,h2⟩=>by
  simp only[Fl,Va]at ha
  exact⟨c,d,b1,b2,e,eb,Ty.dep_all x p.1 c b1 ha.1 (λ k hk=>hb k (by rw[eb];exact Vx _ hk)) h1,Ty.dep_all y p.2 d b2 ha.2 (λ k hk=>hb k (by rw[eb];exact Vn _ hk)) h2⟩
end

end Go.Proofs.Ytiiekghlhfbmmaa.Vf
