import Derived.Test.YtcpligincipmhaaGreatMaa
import Derived.Laws.AppendOwn
import Derived.Laws.Cells
import Derived.Laws.World
set_option linter.all false
namespace Go.Proofs.YtcpligincipmhaaGreat.Vf
open Go
open List (length getD)
open Int (toNat)
open Go.IntKind (wrap)
open BitVec (ofInt)
def Va:=@Bool.and_eq_true
def Vc:=@Option.some.injEq
def Vh:=@List.length_cons
def Vi:=@List.length_append
def Vo:=@List.mem_append_right
def Vp:=@List.append_assoc
def Vx:=@List.mem_append_left
def Wc:=@List.length_map
def Wi:=@Nat.zero_add
def Wk:=@List.eq_nil_of_length_eq_zero
def Wn:=@List.nil_append
def Wp:=@List.getElem?_take
def Yf:=@List.append_nil
def Yp:=@List.drop_drop
def Zc:=@Nat.add_mul
def Zf:=@List.drop_zero
def Zh:=@Nat.one_mul
def Zj:=@Nat.add_assoc
def Zl:=@List.drop_left
def Zz:=@List.take_zero
def Zza:=@List.take_length_add_append
def C6b:=@Nat.add_comm
def Cob:=@List.sublist_append_right
def Czb:=@Nat.zero_mul
def Dab:=@List.take_left
def Dhb:=@List.sublist_append_left
def Drb:=@List.Sublist.refl
def E4b:=@List.replicate_succ
def Ehb:=@Iff.rfl

abbrev y0:=(Int×Int×Int)
abbrev y1:=((List Int)×Int×Int)
abbrev y2:=(ByteArray×(List Int))
abbrev y3:=(Int×(List (List Int)))
abbrev y4:=((List Int)×Int×Bool)
abbrev y5:=(y0×Bool×(List Int))
abbrev y6:=(ByteArray×y0×Bool×Int)
abbrev y7:=(ByteArray×y5×Bool)
abbrev y8:=((List y2)×(List y2))
abbrev y9:=(Int×y8×(List y6)×(List y6))
abbrev y10:=((List y0)×y3×(List y9)×y0×(List y7)×(List ByteArray))
def Jq (a0:List Int):Option (Bool):=some (decide ((length a0:Int) > 1048576))
def Fb:Nat→(List Int)→Int→Int→Option ((List Int)×Int)
 |0,_,_,_=>none
 |k+1,b,d,c=>cond (decide (c<(length b:Int))) (cond (decide (c<4000)) (cond (decide ((0:Int)≤c)) (cond (decide (c<(length b:Int))) (Fb k b (wrap .i64 ((ofInt (IntKind.bits .i64) (wrap .i64 ((wrap .i64 ((wrap .i64 (d*137))+(wrap .i64 (getD b (toNat c) (0:Int)))))+11)) &&& ofInt (IntKind.bits .i64) 1073741823).toNat)) (wrap .i64 (c+1))) none) none) (some (b,d))) (some (b,d))
def H2 (k:Nat) (a0:List Int):Option y1:=(Fb k a0 (wrap .i64 (378378+(length a0:Int))) 0).bind λ r1=>some (r1.1,0,r1.2)
def Fc (a0:y1):Option (Int×y1):=cond (decide (a0.2.1<(length a0.1:Int))) (cond (decide ((0:Int)≤a0.2.1)) (cond (decide (a0.2.1<(length a0.1:Int))) (some (wrap .i64 ((ofInt (IntKind.bits .i64) (wrap .i64 ((wrap .i64 ((ofInt (IntKind.bits .i64) (wrap .i64 ((ofInt (IntKind.bits .i64) (Int.fdiv (wrap .i64 ((wrap .i64 (a0.2.2*6364136223846793005))+1442695040888963407)) (2 ^ (min (toNat 33) (IntKind.bits .i64)))) ^^^ ofInt (IntKind.bits .i64) (Int.fdiv (wrap .i64 ((wrap .i64 (a0.2.2*6364136223846793005))+1442695040888963407)) (2 ^ (min (toNat 47) (IntKind.bits .i64))))).toNat)) &&& ofInt (IntKind.bits .i64) 255).toNat))+(wrap .i64 (getD a0.1 (toNat a0.2.1) (0:Int))))) &&& ofInt (IntKind.bits .i64) 255).toNat),(a0.1,wrap .i64 (a0.2.1+1),wrap .i64 ((wrap .i64 (a0.2.2*6364136223846793005))+1442695040888963407)))) none) none) (some (wrap .i64 ((ofInt (IntKind.bits .i64) (wrap .i64 ((ofInt (IntKind.bits .i64) (Int.fdiv (wrap .i64 ((wrap .i64 (a0.2.2*6364136223846793005))+1442695040888963407)) (2 ^ (min (toNat 33) (IntKind.bits .i64)))) ^^^ ofInt (IntKind.bits .i64) (Int.fdiv (wrap .i64 ((wrap .i64 (a0.2.2*6364136223846793005))+1442695040888963407)) (2 ^ (min (toNat 47) (IntKind.bits .i64))))).toNat)) &&& ofInt (IntKind.bits .i64) 255).toNat),(a0.1,a0.2.1,wrap .i64 ((wrap .i64 (a0.2.2*6364136223846793005))+1442695040888963407))))
def C0 (a0:y1) (a1:Int):Option (Int×y1):=cond (decide (a1≤0)) (some (0,a0)) (cond (decide (a1≤256)) ((Fc a0).bind λ r1=>cond (decide (a1=0)) none (some (Int.tmod r1.1 a1,r1.2))) ((Fc a0).bind λ r2=>(Fc r2.2).bind λ r3=>(Fc r3.2).bind λ r4=>cond (decide (a1=0)) none (some (Int.tmod (wrap .i64 ((wrap .i64 ((wrap .i64 (r2.1*65536))+(wrap .i64 (r3.1*256))))+r4.1)) a1,r4.2))))
def Dl (a0:y1) (a1:List Int):Option (Int×y1):=(C0 a0 (length a1:Int)).bind λ r1=>cond (decide ((0:Int)≤r1.1)) (cond (decide (r1.1<(length a1:Int))) (some ((getD a1 (toNat r1.1) (0:Int)),r1.2)) none) none
def Ei:Nat→(List y0)→Int→Int→Int→y1→Option ((List y0)×y1)
 |0,_,_,_,_,_=>none
 |k+1,b,d,c,e,f=>cond (decide (e > 0)) ((Dl f [1,1,2]).bind λ r1=>(C0 r1.2 d).bind λ r2=>(Dl r2.2 [1,1,1,2,10,100]).bind λ r3=>cond (Nat.ble ((length b+length [(wrap .i64 (c+r1.1),r2.1,r3.1)])*24) 140737488355328) (Ei k (b++[(wrap .i64 (c+r1.1),r2.1,r3.1)]) d (wrap .i64 (c+r1.1)) (wrap .i64 (e-1)) r3.2) none) (some (b,f))
def Eb (k:Nat) (a0:y1):Option ((List y0)×y1):=(C0 a0 4).bind λ r1=>(C0 r1.2 5).bind λ r2=>(Ei k ([]:List y0) (wrap .i64 (1+r1.1)) 0 (wrap .i64 (2+r2.1)) r2.2).bind λ r3=>some (r3.1,r3.2)
def Hg (k:Nat) (a0:y1):Option ((List y0)×y1):=(Eb k a0).bind λ r1=>(C0 r1.2 (length r1.1:Int)).bind λ r2=>(C0 r2.2 12).bind λ r3=>cond (r3.1==0) ((Dl r3.2 [(-1),0,20,21]).bind λ r4=>cond (decide ((0:Int)≤r2.1)) (cond (decide (r2.1<(length r1.1:Int))) (some ((List.set r1.1 (toNat r2.1) (r4.1,(getD r1.1 (toNat r2.1) ((0:Int),((0:Int),(0:Int)))).2)),r4.2)) none) none) (cond (r3.1==1) ((Dl r3.2 [(-1),20,21]).bind λ r7=>cond (decide ((0:Int)≤r2.1)) (cond (decide (r2.1<(length r1.1:Int))) (let v8:=getD r1.1 (toNat r2.1) ((0:Int),((0:Int),(0:Int)));some ((List.set r1.1 (toNat r2.1) (v8.1,r7.1,v8.2.2)),r7.2)) none) none) (cond (r3.1==2) ((Dl r3.2 [0,1000,1001]).bind λ r10=>cond (decide ((0:Int)≤r2.1)) (cond (decide (r2.1<(length r1.1:Int))) (let v11:=getD r1.1 (toNat r2.1) ((0:Int),((0:Int),(0:Int)));some ((List.set r1.1 (toNat r2.1) (v11.1,v11.2.1,r10.1)),r10.2)) none) none) (cond (r3.1==3) (cond (decide ((0:Int)≤(length r1.1:Int))) (some (List.take (toNat 0) r1.1,r3.2)) none) (some (r1.1,r3.2)))))
def Fa (k:Nat) (a0:List Int):Option ((List y0)×Int×Int):=(H2 k a0).bind λ r1=>(Hg k r1).bind λ r2=>(Dl r2.2 [4,8,1,16,0,64,65]).bind λ r3=>(Dl r3.2 [1,2,3,2,3,5,6,0]).bind λ r4=>some (r2.1,r3.1,r4.1)
def Dm (k:Nat) (a0:List Int):Option ((List y0)×Int×Int):=(Fa k a0).bind λ r1=>some (r1.1,r1.2.1,r1.2.2)
def C3 (a0:Int) (a1:Int) (a2:Int):Option (Bool):=cond (decide (a0≥a1)) (some (decide (a0≤a2))) (some false)
def E4:Nat→(List y0)→(List y0)→Int→Int→Option (Sum (Bool) (List y0))
 |0,_,_,_,_=>none
 |k+1,c,d,e,b=>cond (decide (b<e)) (cond (decide ((0:Int)≤b)) (cond (decide (b<(length d:Int))) (let v1:=getD d (toNat b) ((0:Int),((0:Int),(0:Int)));(C3 v1.1 0 20).bind λ r2=>cond (!r2) (some (.inl false)) ((C3 v1.2.1 0 20).bind λ r3=>cond (!r3) (some (.inl false)) ((C3 v1.2.2 1 1000).bind λ r4=>cond (!r4) (some (.inl false)) (cond (decide (b > 0)) (cond (decide ((0:Int)≤wrap .i64 (b-1))) (cond (decide (wrap .i64 (b-1)<(length c:Int))) (cond (decide ((getD c (toNat (wrap .i64 (b-1))) ((0:Int),((0:Int),(0:Int)))).1≥v1.1)) (some (.inl false)) (E4 k c d e (wrap .i64 (b+1)))) none) none) (E4 k c d e (wrap .i64 (b+1))))))) none) none) (some (.inr c))
def C4 (k:Nat) (a0:List y0):Option (Bool):=(E4 k a0 a0 (length a0:Int) 0).bind λ r1=>Sum.elim (λ y2=>some y2) (λ z3=>(C3 (length z3:Int) 1 12).bind λ r4=>some r4) r1
def Ej:Nat→Int→(List Int)→Int→Int→Option (Sum (Bool) (Unit))
 |0,_,_,_,_=>none
 |k+1,d,c,e,b=>cond (decide (b<e)) (cond (decide ((0:Int)≤b)) (cond (decide (b<(length c:Int))) (cond ((getD c (toNat b) (0:Int))==d) (some (.inl true)) (Ej k d c e (wrap .i64 (b+1)))) none) none) (some (.inr ()))
def Bd (k:Nat) (a0:List Int) (a1:Int):Option (Bool):=(Ej k a1 a0 (length a0:Int) 0).bind λ r1=>Sum.elim (λ y2=>some y2) (λ z3=>some false) r1
def Fe:Nat→Int→(List y0)→Int→Int→y0→Option (Sum (Bool×y0) y0)
 |0,_,_,_,_,_=>none
 |k+1,d,c,e,b,f=>cond (decide (b<e)) (cond (decide ((0:Int)≤b)) (cond (decide (b<(length c:Int))) (let v1:=getD c (toNat b) ((0:Int),((0:Int),(0:Int)));cond (v1.1==d) (some (.inl (true,v1))) (Fe k d c e (wrap .i64 (b+1)) f)) none) none) (some (.inr f))
def G0 (k:Nat) (a0:List y0) (a1:Int):Option (y0×Bool):=(Fe k a1 a0 (length a0:Int) 0 (0,0,0)).bind λ r1=>Sum.elim (λ y2=>some (y2.2,y2.1)) (λ z3=>some ((0,0,0),false)) r1
def Cl:Nat→(List y0)→(List Int)→(List Int)→Int→Int→Option (List Int)
 |0,_,_,_,_,_=>none
 |k+1,e,c,d,f,b=>cond (decide (b<f)) (cond (decide ((0:Int)≤b)) (cond (decide (b<(length d:Int))) ((G0 k e (getD d (toNat b) (0:Int))).bind λ r2=>cond r2.2 ((Bd k c r2.1.2.1).bind λ r3=>cond (!r3) (cond (Nat.ble ((length c+length [r2.1.2.1])*8) 140737488355328) (Cl k e (c++[r2.1.2.1]) d f (wrap .i64 (b+1))) none) (Cl k e c d f (wrap .i64 (b+1)))) (Cl k e c d f (wrap .i64 (b+1)))) none) none) (some c)
def Cc (k:Nat) (a0:List Int) (a1:List y0):Option (List Int):=(Cl k a1 ([]:List Int) a0 (length a0:Int) 0).bind λ r1=>some r1
def E5:Nat→Int→Int→(List (List Int))→Int→Int→(List Int)→Int→Int→Option (Int×Int×(List (List Int))×Int×Int)
 |0,_,_,_,_,_,_,_,_=>none
 |k+1,c,e,f,g,h,d,i,b=>cond (decide (b<i)) (cond (decide ((0:Int)≤b)) (cond (decide (b<(length d:Int))) (cond ((getD d (toNat b) (0:Int))==c) (E5 k c (wrap .i64 (e+1)) f g h d i (wrap .i64 (b+1))) (E5 k c e f g h d i (wrap .i64 (b+1)))) none) none) (some (c,e,f,g,h))
def Ek:Nat→Int→Int→(List (List Int))→Int→Int→Option (Int)
 |0,_,_,_,_,_=>none
 |k+1,f,d,c,e,b=>cond (decide (b<e)) (cond (decide ((0:Int)≤b)) (cond (decide (b<(length c:Int))) (let v1:=getD c (toNat b) [];(E5 k f d c e b v1 (length v1:Int) 0).bind λ r2=>Ek k r2.1 r2.2.1 r2.2.2.1 r2.2.2.2.1 (wrap .i64 (r2.2.2.2.2+1))) none) none) (some d)
def G3 (k:Nat) (a0:y3) (a1:Int):Option (Int):=(Ek k a1 0 a0.2 (length a0.2:Int) 0).bind λ r1=>some r1
def Be:Nat→(List Int)→Int→Bool→(List y0)→Int→Int→y3→(List Int)→y0→Option y0
 |0,_,_,_,_,_,_,_,_,_=>none
 |k+1,d,j,i,c,e,b,f,g,h=>cond (decide (b<e)) (cond (decide ((0:Int)≤b)) (cond (decide (b<(length c:Int))) (let v1:=getD c (toNat b) ((0:Int),((0:Int),(0:Int)));(Bd k g v1.1).bind λ r2=>cond r2 (Be k d j i c e (wrap .i64 (b+1)) f g h) ((G3 k f v1.1).bind λ r3=>(Bd k d v1.2.1).bind λ r4=>cond (decide (h.1<0)) (Be k d (wrap .i64 (r3+1)) (!r4) c e (wrap .i64 (b+1)) f g v1) (cond (!r4) (cond (!i) (Be k d (wrap .i64 (r3+1)) (!r4) c e (wrap .i64 (b+1)) f g v1) (cond ((!r4)==i) (cond (decide ((wrap .i64 ((wrap .i64 (r3+1))*h.2.2))<(wrap .i64 (j*v1.2.2)))) (Be k d (wrap .i64 (r3+1)) (!r4) c e (wrap .i64 (b+1)) f g v1) (Be k d j i c e (wrap .i64 (b+1)) f g h)) (Be k d j i c e (wrap .i64 (b+1)) f g h))) (cond ((!r4)==i) (cond (decide ((wrap .i64 ((wrap .i64 (r3+1))*h.2.2))<(wrap .i64 (j*v1.2.2)))) (Be k d (wrap .i64 (r3+1)) (!r4) c e (wrap .i64 (b+1)) f g v1) (Be k d j i c e (wrap .i64 (b+1)) f g h)) (Be k d j i c e (wrap .i64 (b+1)) f g h))))) none) none) (some h)
def Gl (k:Nat) (a0:y3) (a1:List Int) (a2:List y0):Option (Int):=(C4 k a2).bind λ r1=>cond (!r1) (some (-1)) ((Cc k a1 a2).bind λ r2=>(Be k r2 0 false a2 (length a2:Int) 0 a0 a1 ((-1),0,0)).bind λ r3=>some r3.1)
def Ff:Nat→(List y0)→Int→Int→Int→Int→Int→Int→y3→y3→Option ((List y0)×Int×Int×Int×y3×y3)
 |0,_,_,_,_,_,_,_,_,_=>none
 |k+1,d,e,b,f,g,h,i,j,c=>cond (decide (i<h)) (cond (decide ((0:Int)≤b)) (cond (decide (b<(length c.2:Int))) ((Gl k c (getD c.2 (toNat b) []) d).bind λ r2=>cond (decide ((0:Int)≤b)) (cond (decide (b<(length c.2:Int))) (let v3:=getD c.2 (toNat b) [];cond (Nat.ble ((length v3+length [r2])*8) 140737488355328) (Ff k d e b f g h (wrap .i64 (i+1)) j (c.1,(List.set c.2 (toNat b) (v3++[r2])))) none) none) none) none) none) (some (d,e,f,g,j,c))
def Fg:Nat→(List y0)→Int→Int→Int→y3→y3→Option (y3×y3)
 |0,_,_,_,_,_,_=>none
 |k+1,g,d,e,c,f,b=>cond (decide (c<e)) (cond (Nat.ble ((length b.2+length [([]:List Int)])*24) 140737488355328) ((Ff k g d c e c d 0 f (b.1,(b.2++[([]:List Int)]))).bind λ r2=>Fg k r2.1 r2.2.1 r2.2.2.1 (wrap .i64 (r2.2.2.2.1+1)) r2.2.2.2.2.1 r2.2.2.2.2.2) none) (some (f,b))
def Ee (k:Nat) (a0:List y0) (a1:Int) (a2:Int):Option (y3×Bool):=(C4 k a0).bind λ r1=>cond (!r1) (some ((0,([]:List (List Int))),false)) ((C3 a1 1 64).bind λ r2=>cond (!r2) (some ((0,([]:List (List Int))),false)) ((C3 a2 1 5).bind λ r3=>cond (!r3) (some ((0,([]:List (List Int))),false)) (cond (decide ((length a0:Int)<a2)) (some ((0,([]:List (List Int))),false)) ((Fg k a0 a2 a1 0 (0,([]:List (List Int))) (a2,([]:List (List Int)))).bind λ r4=>some (r4.2,true)))))
def G6 (a0:Int):Option y9:=(C3 a0 0 20).bind λ r1=>cond (!r1) (some (0,(([]:List y2),([]:List y2)),([]:List y6),([]:List y6))) (some (a0,(([]:List y2),([]:List y2)),([]:List y6),([]:List y6)))
def Db:Nat→(List y0)→Int→Int→y10→y10→Option (y10×y10)
 |0,_,_,_,_,_=>none
 |k+1,d,e,c,f,b=>cond (decide (c<e)) (cond (decide ((0:Int)≤c)) (cond (decide (c<(length d:Int))) ((G6 (getD d (toNat c) ((0:Int),((0:Int),(0:Int)))).1).bind λ r2=>cond (Nat.ble ((length b.2.2.1+length [r2])*104) 140737488355328) (Db k d e (wrap .i64 (c+1)) f (b.1,b.2.1,b.2.2.1++[r2],b.2.2.2)) none) none) none) (some (f,b))
def Ch (k:Nat) (a0:List y0) (a1:Int) (a2:Int):Option y10:=(Ee k a0 a1 a2).bind λ r1=>cond (!r1.2) (some (([]:List y0),(0,([]:List (List Int))),([]:List y9),(0,0,0),([]:List y7),([]:List ByteArray))) (cond (Nat.ble ((length ([]:List y0)+length a0)*24) 140737488355328) ((Db k a0 (length a0:Int) 0 (([]:List y0),(0,([]:List (List Int))),([]:List y9),(0,0,0),([]:List y7),([]:List ByteArray)) ((([]:List y0)++a0),r1.1,([]:List y9),(0,0,0),([]:List y7),([]:List ByteArray))).bind λ r3=>some r3.2) none)
def El (a0:Int) (a1:Int) (a2:Int):Option (Bool):=cond (decide (a0≥a1)) (some (decide (a0≤a2))) (some false)
def E6:Nat→(List y0)→Int→Option (Sum (Bool) (List y0))
 |0,_,_=>none
 |k+1,c,b=>cond (decide (b<(length c:Int))) (cond (decide ((0:Int)≤b)) (cond (decide (b<(length c:Int))) (let v1:=getD c (toNat b) ((0:Int),((0:Int),(0:Int)));(El v1.1 0 20).bind λ r2=>cond (!r2) (some (.inl false)) ((El v1.2.1 0 20).bind λ r3=>cond (!r3) (some (.inl false)) ((El v1.2.2 1 1000).bind λ r4=>cond (!r4) (some (.inl false)) (cond (decide (b > 0)) (cond (decide ((0:Int)≤wrap .i64 (b-1))) (cond (decide (wrap .i64 (b-1)<(length c:Int))) (cond (decide ((getD c (toNat (wrap .i64 (b-1))) ((0:Int),((0:Int),(0:Int)))).1≥v1.1)) (some (.inl false)) (E6 k c (wrap .i64 (b+1)))) none) none) (E6 k c (wrap .i64 (b+1))))))) none) none) (some (.inr c))
def D9 (k:Nat) (a0:List y0):Option (Bool):=(E6 k a0 0).bind λ r1=>Sum.elim (λ y2=>some y2) (λ z3=>(El (length z3:Int) 1 12).bind λ r4=>some r4) r1
def Fh:Nat→(List y0)→Int→Int→y0→Option (Sum (Bool×y0) y0)
 |0,_,_,_,_=>none
 |k+1,c,d,b,e=>cond (decide (b<(length c:Int))) (cond (decide ((0:Int)≤b)) (cond (decide (b<(length c:Int))) (cond ((getD c (toNat b) ((0:Int),((0:Int),(0:Int)))).1==d) (cond (decide ((0:Int)≤b)) (cond (decide (b<(length c:Int))) (some (.inl (true,(getD c (toNat b) ((0:Int),((0:Int),(0:Int))))))) none) none) (Fh k c d (wrap .i64 (b+1)) e)) none) none) (some (.inr e))
def H3 (k:Nat) (a0:List y0) (a1:Int):Option (y0×Bool):=(Fh k a0 a1 0 (0,0,0)).bind λ r1=>Sum.elim (λ y2=>some (y2.2,y2.1)) (λ z3=>some ((0,0,0),false)) r1
def Fi:Nat→(List Int)→Int→Int→Option (Sum (Bool) (Unit))
 |0,_,_,_=>none
 |k+1,c,d,b=>cond (decide (b<(length c:Int))) (cond (decide ((0:Int)≤b)) (cond (decide (b<(length c:Int))) (cond ((getD c (toNat b) (0:Int))==d) (some (.inl true)) (Fi k c d (wrap .i64 (b+1)))) none) none) (some (.inr ()))
def Ft (k:Nat) (a0:List Int) (a1:Int):Option (Bool):=(Fi k a0 a1 0).bind λ r1=>Sum.elim (λ y2=>some y2) (λ z3=>some false) r1
def Cm:Nat→(List Int)→(List y0)→(List Int)→Int→Option (List Int)
 |0,_,_,_,_=>none
 |k+1,c,e,d,b=>cond (decide (b<(length c:Int))) (cond (decide ((0:Int)≤b)) (cond (decide (b<(length c:Int))) ((H3 k e (getD c (toNat b) (0:Int))).bind λ r2=>cond r2.2 ((Ft k d r2.1.2.1).bind λ r3=>cond (!r3) (cond (Nat.ble ((length d+length [r2.1.2.1])*8) 140737488355328) (Cm k c e (d++[r2.1.2.1]) (wrap .i64 (b+1))) none) (Cm k c e d (wrap .i64 (b+1)))) (Cm k c e d (wrap .i64 (b+1)))) none) none) (some d)
def Dp (k:Nat) (a0:List Int) (a1:List y0):Option (List Int):=(Cm k a0 a1 ([]:List Int) 0).bind λ r1=>some r1
def E7:Nat→Int→Int→Int→Int→y3→Option (Int×Int×Int×y3)
 |0,_,_,_,_,_=>none
 |k+1,e,f,b,d,c=>cond (decide ((0:Int)≤b)) (cond (decide (b<(length c.2:Int))) (cond (decide (d<(length (getD c.2 (toNat b) []):Int))) (cond (decide ((0:Int)≤b)) (cond (decide (b<(length c.2:Int))) (let v2:=getD c.2 (toNat b) [];cond (decide ((0:Int)≤d)) (cond (decide (d<(length v2:Int))) (cond ((getD v2 (toNat d) (0:Int))==e) (E7 k e (wrap .i64 (f+1)) b (wrap .i64 (d+1)) c) (E7 k e f b (wrap .i64 (d+1)) c)) none) none) none) none) (some (e,f,b,c))) none) none
def Em:Nat→Int→Int→Int→y3→Option (Int)
 |0,_,_,_,_=>none
 |k+1,e,b,c,d=>cond (decide (c<(length d.2:Int))) ((E7 k e b c 0 d).bind λ r1=>Em k r1.1 r1.2.1 (wrap .i64 (r1.2.2.1+1)) r1.2.2.2) (some b)
def Dr (k:Nat) (a0:y3) (a1:Int):Option (Int):=(Em k a1 0 0 a0).bind λ r1=>some r1
def Bf:Nat→(List y0)→(List Int)→Int→Bool→Int→y3→(List Int)→Option ((List y0)×Int)
 |0,_,_,_,_,_,_,_=>none
 |k+1,b,f,c,g,d,e,h=>cond (decide (d<(length b:Int))) ((D9 k b).bind λ r1=>cond r1 (cond (decide ((0:Int)≤d)) (cond (decide (d<(length b:Int))) (let v2:=getD b (toNat d) ((0:Int),((0:Int),(0:Int)));(Ft k h v2.1).bind λ r3=>cond r3 (Bf k b f c g (wrap .i64 (d+1)) e h) ((Ft k f v2.2.1).bind λ r4=>cond (decide (c<0)) (Bf k b f d (!r4) (wrap .i64 (d+1)) e h) (cond (!r4) (cond (!g) (Bf k b f d (!r4) (wrap .i64 (d+1)) e h) (cond ((!r4)==g) ((Dr k e v2.1).bind λ r5=>cond (decide ((0:Int)≤c)) (cond (decide (c<(length b:Int))) (cond (decide ((0:Int)≤c)) (cond (decide (c<(length b:Int))) ((Dr k e (getD b (toNat c) ((0:Int),((0:Int),(0:Int)))).1).bind λ r8=>cond (decide ((wrap .i64 ((wrap .i64 (r5+1))*(getD b (toNat c) ((0:Int),((0:Int),(0:Int)))).2.2))<(wrap .i64 ((wrap .i64 (r8+1))*v2.2.2)))) (Bf k b f d g (wrap .i64 (d+1)) e h) (Bf k b f c g (wrap .i64 (d+1)) e h)) none) none) none) none) (Bf k b f c g (wrap .i64 (d+1)) e h))) (cond ((!r4)==g) ((Dr k e v2.1).bind λ r9=>cond (decide ((0:Int)≤c)) (cond (decide (c<(length b:Int))) (cond (decide ((0:Int)≤c)) (cond (decide (c<(length b:Int))) ((Dr k e (getD b (toNat c) ((0:Int),((0:Int),(0:Int)))).1).bind λ r12=>cond (decide ((wrap .i64 ((wrap .i64 (r9+1))*(getD b (toNat c) ((0:Int),((0:Int),(0:Int)))).2.2))<(wrap .i64 ((wrap .i64 (r12+1))*v2.2.2)))) (Bf k b f d g (wrap .i64 (d+1)) e h) (Bf k b f c g (wrap .i64 (d+1)) e h)) none) none) none) none) (Bf k b f c g (wrap .i64 (d+1)) e h))))) none) none) (some (b,c))) (some (b,c))
def Gn (k:Nat) (a0:y3) (a1:List Int) (a2:List y0):Option (Int):=(Dp k a1 a2).bind λ r1=>(Bf k a2 r1 (-1) false 0 a0 a1).bind λ r2=>cond (decide (r2.2<0)) (some (-1)) (cond (decide ((0:Int)≤r2.2)) (cond (decide (r2.2<(length r2.1:Int))) (some (getD r2.1 (toNat r2.2) ((0:Int),((0:Int),(0:Int)))).1) none) none)
def Fj:Nat→(List y0)→Int→Int→Int→Int→y3→y3→Option ((List y0)×Int×Int×Int×y3×y3)
 |0,_,_,_,_,_,_,_=>none
 |k+1,d,f,e,b,g,h,c=>cond (decide (g<e)) (cond (decide ((0:Int)≤b)) (cond (decide (b<(length c.2:Int))) ((Gn k c (getD c.2 (toNat b) []) d).bind λ r2=>cond (decide ((0:Int)≤b)) (cond (decide (b<(length c.2:Int))) (let v3:=getD c.2 (toNat b) [];cond (decide (b=b)) (cond (Nat.ble ((length v3+length [r2])*8) 140737488355328) (cond (decide (b=b)) (Fj k d f e b (wrap .i64 (g+1)) h (c.1,(List.set c.2 (toNat b) (v3++[r2])))) none) none) none) none) none) none) none) (some (d,f,e,b,h,c))
def Fk:Nat→(List y0)→Int→Int→Int→y3→y3→Option (y3×y3)
 |0,_,_,_,_,_,_=>none
 |k+1,f,c,g,d,e,b=>cond (decide (d<c)) (cond (Nat.ble ((length b.2+length [([]:List Int)])*24) 140737488355328) ((Fj k f c g d 0 e (b.1,(b.2++[([]:List Int)]))).bind λ r2=>Fk k r2.1 r2.2.1 r2.2.2.1 (wrap .i64 (r2.2.2.2.1+1)) r2.2.2.2.2.1 r2.2.2.2.2.2) none) (some (e,b))
def Ef (k:Nat) (a0:List y0) (a1:Int) (a2:Int):Option (y3×Bool):=(D9 k a0).bind λ r1=>cond (!r1) (some ((0,([]:List (List Int))),false)) ((El a1 1 64).bind λ r2=>cond (!r2) (some ((0,([]:List (List Int))),false)) ((El a2 1 5).bind λ r3=>cond (!r3) (some ((0,([]:List (List Int))),false)) (cond (decide (a2 > (length a0:Int))) (some ((0,([]:List (List Int))),false)) ((Fk k a0 a1 a2 0 (0,([]:List (List Int))) (a2,([]:List (List Int)))).bind λ r4=>some (r4.2,true)))))
def G7 (a0:Int):Option y9:=(El a0 0 20).bind λ r1=>cond (!r1) (some (0,(([]:List y2),([]:List y2)),([]:List y6),([]:List y6))) (some (a0,(([]:List y2),([]:List y2)),([]:List y6),([]:List y6)))
def Dc:Nat→(List y0)→Int→y10→y10→Option (y10×y10)
 |0,_,_,_,_=>none
 |k+1,d,c,e,b=>cond (decide (c<(length d:Int))) (cond (decide ((0:Int)≤c)) (cond (decide (c<(length d:Int))) ((G7 (getD d (toNat c) ((0:Int),((0:Int),(0:Int)))).1).bind λ r2=>cond (Nat.ble ((length b.2.2.1+length [r2])*104) 140737488355328) (Dc k d (wrap .i64 (c+1)) e (b.1,b.2.1,b.2.2.1++[r2],b.2.2.2)) none) none) none) (some (e,b))
def Bx (k:Nat) (a0:List y0) (a1:Int) (a2:Int):Option y10:=(Ef k a0 a1 a2).bind λ r1=>cond (Nat.ble ((length ([]:List y0)+length a0)*24) 140737488355328) (cond (!r1.2) (some (([]:List y0),(0,([]:List (List Int))),([]:List y9),(0,0,0),([]:List y7),([]:List ByteArray))) ((Dc k a0 0 (([]:List y0),(0,([]:List (List Int))),([]:List y9),(0,0,0),([]:List y7),([]:List ByteArray)) ((([]:List y0)++a0),r1.1,([]:List y9),(0,0,0),([]:List y7),([]:List ByteArray))).bind λ r3=>some r3.2)) none
def Aj:Nat→ByteArray→Int→Option (Sum (Bool) (ByteArray))
 |0,_,_=>none
 |k+1,b,c=>cond (decide (c<(ByteArray.size b:Int))) (cond (decide ((0:Int)≤c)) (cond (decide (c<(ByteArray.size b:Int))) (cond (decide ((bt b c)≥97)) (cond (!(decide ((bt b c)≤122))) (cond (decide ((bt b c)≥48)) (cond (!(decide ((bt b c)≤57))) (cond ((bt b c) != 45) (cond ((bt b c) != 95) (cond ((bt b c) != 47) (some (.inl false)) (Aj k b (wrap .i64 (c+1)))) (Aj k b (wrap .i64 (c+1)))) (Aj k b (wrap .i64 (c+1)))) (Aj k b (wrap .i64 (c+1)))) (cond ((bt b c) != 45) (cond ((bt b c) != 95) (cond ((bt b c) != 47) (some (.inl false)) (Aj k b (wrap .i64 (c+1)))) (Aj k b (wrap .i64 (c+1)))) (Aj k b (wrap .i64 (c+1))))) (Aj k b (wrap .i64 (c+1)))) (cond (decide ((bt b c)≥48)) (cond (!(decide ((bt b c)≤57))) (cond ((bt b c) != 45) (cond ((bt b c) != 95) (cond ((bt b c) != 47) (some (.inl false)) (Aj k b (wrap .i64 (c+1)))) (Aj k b (wrap .i64 (c+1)))) (Aj k b (wrap .i64 (c+1)))) (Aj k b (wrap .i64 (c+1)))) (cond ((bt b c) != 45) (cond ((bt b c) != 95) (cond ((bt b c) != 47) (some (.inl false)) (Aj k b (wrap .i64 (c+1)))) (Aj k b (wrap .i64 (c+1)))) (Aj k b (wrap .i64 (c+1)))))) none) none) (some (.inr b))
def Ad (k:Nat) (a0:ByteArray):Option (Bool):=(Aj k a0 0).bind λ r1=>Sum.elim (λ y2=>some y2) (λ z3=>(C3 (ByteArray.size z3:Int) 1 20).bind λ r4=>some r4) r1
def Fl:Nat→(List Int)→(List Int)→Int→Int→Option (Sum (Bool) (Unit))
 |0,_,_,_,_=>none
 |k+1,c,d,e,b=>cond (decide (b<e)) (cond (decide ((0:Int)≤b)) (cond (decide (b<(length d:Int))) (cond (decide ((0:Int)≤b)) (cond (decide (b≤(length c:Int))) ((Bd k (List.take (toNat b) c) (getD d (toNat b) (0:Int))).bind λ r2=>cond r2 (some (.inl false)) (Fl k c d e (wrap .i64 (b+1)))) none) none) none) none) (some (.inr ()))
def Fu (k:Nat) (a0:List Int):Option (Bool):=(Fl k a0 a0 (length a0:Int) 0).bind λ r1=>Sum.elim (λ y2=>some y2) (λ z3=>some true) r1
def Eo:Nat→(List y0)→(List (List Int))→Int→Int→(List Int)→Int→Int→y3→Option (Sum (Bool) ((List y0)×(List (List Int))×Int×Int×y3))
 |0,_,_,_,_,_,_,_,_=>none
 |k+1,c,e,f,g,d,h,b,i=>cond (decide (b<h)) (cond (decide ((0:Int)≤b)) (cond (decide (b<(length d:Int))) ((G0 k c (getD d (toNat b) (0:Int))).bind λ r2=>cond (!r2.2) (some (.inl false)) (Eo k c e f g d h (wrap .i64 (b+1)) i)) none) none) (some (.inr (c,e,f,g,i)))
def Ep:Nat→(List y0)→(List (List Int))→Int→Int→y3→Option (Sum (Bool) (Unit))
 |0,_,_,_,_,_=>none
 |k+1,f,c,d,b,e=>cond (decide (b<d)) (cond (decide ((0:Int)≤b)) (cond (decide (b<(length c:Int))) (let v1:=getD c (toNat b) [];cond ((length v1:Int) != e.1) (some (.inl false)) ((Fu k v1).bind λ r2=>cond (!r2) (some (.inl false)) ((Eo k f c d b v1 (length v1:Int) 0 e).bind λ r3=>Sum.elim (λ y4=>some (.inl y4)) (λ z5=>Ep k z5.1 z5.2.1 z5.2.2.1 (wrap .i64 (z5.2.2.2.1+1)) z5.2.2.2.2) r3))) none) none) (some (.inr ()))
def Ds (k:Nat) (a0:y3) (a1:List y0):Option (Bool):=(C4 k a1).bind λ r1=>cond (!r1) (some false) ((C3 a0.1 1 5).bind λ r2=>cond (!r2) (some false) ((C3 (length a0.2:Int) 1 64).bind λ r3=>cond (!r3) (some false) ((Ep k a1 a0.2 (length a0.2:Int) 0 a0).bind λ r4=>Sum.elim (λ y5=>some y5) (λ z6=>some true) r4)))
def Br (a0:y0):Option (Bool):=(C3 a0.1 0 1000000000).bind λ r1=>cond r1 ((C3 a0.2.1 0 1000000).bind λ r2=>cond r2 ((C3 a0.2.2 0 20).bind λ r3=>some r3) (some false)) (some false)
def Bs (a0:y0) (a1:y0):Option (Bool):=cond (a0.1 != a1.1) (some (decide (a0.1<a1.1))) (cond (a0.2.1 != a1.2.1) (some (decide (a0.2.1<a1.2.1))) (some (decide (a0.2.2<a1.2.2))))
def Cn (a0:y5):Option (Bool):=(Br a0.1).bind λ r1=>cond r1 (cond (decide ((length a0.2.2:Int)≤200)) (cond (!a0.2.1) (some true) (some ((length a0.2.2:Int)==0))) (some false)) (some false)
def Dd:Nat→(List y7)→Int→Int→y10→Option (Sum (Bool) y10)
 |0,_,_,_,_=>none
 |k+1,c,e,b,d=>cond (decide (b<e)) (cond (decide ((0:Int)≤b)) (cond (decide (b<(length c:Int))) (let v1:=getD c (toNat b) ((⟨#[]⟩:ByteArray),((((0:Int),((0:Int),(0:Int))),(false,[])),false));(Ad k v1.1).bind λ r2=>cond (!r2) (some (.inl false)) ((Cn v1.2.1).bind λ r3=>cond (!r3) (some (.inl false)) ((Bs d.2.2.2.1 v1.2.1.1).bind λ r4=>cond r4 (some (.inl false)) (Dd k c e (wrap .i64 (b+1)) d)))) none) none) (some (.inr d))
def Ci (k:Nat) (a0:y10):Option (Bool):=(Dd k a0.2.2.2.2.1 (length a0.2.2.2.2.1:Int) 0 a0).bind λ r1=>Sum.elim (λ y2=>some y2) (λ z3=>some (decide ((length z3.2.2.2.2.1:Int)≤200))) r1
def Gg (k:Nat) (a0:y6):Option (Bool):=(Ad k a0.1).bind λ r1=>cond r1 ((Br a0.2.1).bind λ r2=>cond r2 ((C3 a0.2.2.2 0 200).bind λ r3=>cond r3 (cond (!a0.2.2.1) (some true) (some (a0.2.2.2==0))) (some false)) (some false)) (some false)
def De:Nat→(List y2)→(List y2)→Int→Int→Option (Sum (Bool) (List y2))
 |0,_,_,_,_=>none
 |k+1,c,d,e,b=>cond (decide (b<e)) (cond (decide ((0:Int)≤b)) (cond (decide (b<(length d:Int))) (let v1:=getD d (toNat b) ((⟨#[]⟩:ByteArray),[]);(Ad k v1.1).bind λ r2=>cond (!r2) (some (.inl false)) (cond (decide ((length v1.2:Int) > 400)) (some (.inl false)) (cond (decide (b > 0)) (cond (decide ((0:Int)≤wrap .i64 (b-1))) (cond (decide (wrap .i64 (b-1)<(length c:Int))) (cond (!(Op.bytesLess (getD c (toNat (wrap .i64 (b-1))) ((⟨#[]⟩:ByteArray),[])).1.toList v1.1.toList)) (some (.inl false)) (De k c d e (wrap .i64 (b+1)))) none) none) (De k c d e (wrap .i64 (b+1)))))) none) none) (some (.inr c))
def D5 (k:Nat) (a0:List y2):Option (Bool):=(De k a0 a0 (length a0:Int) 0).bind λ r1=>Sum.elim (λ y2=>some y2) (λ z3=>some (decide ((length z3:Int)≤60))) r1
def Bg (k:Nat) (a0:y8):Option (Bool):=(D5 k a0.1).bind λ r1=>cond r1 ((D5 k a0.2).bind λ r2=>some r2) (some false)
def E8:Nat→(List y6)→(List y6)→Int→Int→Option (Sum (Bool) (List y6))
 |0,_,_,_,_=>none
 |k+1,c,d,e,b=>cond (decide (b<e)) (cond (decide ((0:Int)≤b)) (cond (decide (b<(length d:Int))) (let v1:=getD d (toNat b) ((⟨#[]⟩:ByteArray),(((0:Int),((0:Int),(0:Int))),(false,(0:Int))));(Gg k v1).bind λ r2=>cond (!r2) (some (.inl false)) (cond (decide (b > 0)) (cond (decide ((0:Int)≤wrap .i64 (b-1))) (cond (decide (wrap .i64 (b-1)<(length c:Int))) (cond (!(Op.bytesLess (getD c (toNat (wrap .i64 (b-1))) ((⟨#[]⟩:ByteArray),(((0:Int),((0:Int),(0:Int))),(false,(0:Int))))).1.toList v1.1.toList)) (some (.inl false)) (E8 k c d e (wrap .i64 (b+1)))) none) none) (E8 k c d e (wrap .i64 (b+1))))) none) none) (some (.inr c))
def Da (k:Nat) (a0:List y6):Option (Bool):=(E8 k a0 a0 (length a0:Int) 0).bind λ r1=>Sum.elim (λ y2=>some y2) (λ z3=>some (decide ((length z3:Int)≤60))) r1
def Er:Nat→(List y6)→Int→Int→Int→(List y2)→(List y2)→(List y6)→(List y6)→Option (Sum (Bool) (Int×(List y2)×(List y2)×(List y6)×(List y6)))
 |0,_,_,_,_,_,_,_,_=>none
 |k+1,c,d,b,e,f,g,h,i=>cond (decide (b<d)) (cond (decide ((0:Int)≤b)) (cond (decide (b<(length c:Int))) ((Gg k (getD c (toNat b) ((⟨#[]⟩:ByteArray),(((0:Int),((0:Int),(0:Int))),(false,(0:Int)))))).bind λ r2=>cond (!r2) (some (.inl false)) (Er k c d (wrap .i64 (b+1)) e f g h i)) none) none) (some (.inr (e,f,g,h,i)))
def C5 (k:Nat) (a0:y9):Option (Bool):=(Er k a0.2.2.2 (length a0.2.2.2:Int) 0 a0.1 a0.2.1.1 a0.2.1.2 a0.2.2.1 a0.2.2.2).bind λ r1=>Sum.elim (λ y2=>some y2) (λ z3=>(C3 z3.1 0 20).bind λ r4=>cond r4 ((Bg k (z3.2.1,z3.2.2.1)).bind λ r5=>cond r5 ((Da k z3.2.2.2.1).bind λ r6=>cond r6 (some (decide ((length z3.2.2.2.2:Int)≤60))) (some false)) (some false)) (some false)) r1
def C8:Nat→(List ByteArray)→Int→Int→y10→Option (Sum (Bool) (Unit))
 |0,_,_,_,_=>none
 |k+1,c,e,b,d=>cond (decide (b<e)) (cond (decide ((0:Int)≤b)) (cond (decide (b<(length c:Int))) (let v1:=getD c (toNat b) (⟨#[]⟩:ByteArray);(Ad k v1).bind λ r2=>cond (!r2) (some (.inl false)) (cond (decide (b > 0)) (cond (decide ((0:Int)≤wrap .i64 (b-1))) (cond (decide (wrap .i64 (b-1)<(length d.2.2.2.2.2:Int))) (cond (!(Op.bytesLess (getD d.2.2.2.2.2 (toNat (wrap .i64 (b-1))) (⟨#[]⟩:ByteArray)).toList v1.toList)) (some (.inl false)) (C8 k c e (wrap .i64 (b+1)) d)) none) none) (C8 k c e (wrap .i64 (b+1)) d))) none) none) (some (.inr ()))
def Df:Nat→(List y9)→Int→Int→y10→Option (Sum (Bool) y10)
 |0,_,_,_,_=>none
 |k+1,d,e,b,c=>cond (decide (b<e)) (cond (decide ((0:Int)≤b)) (cond (decide (b<(length d:Int))) (let v1:=getD d (toNat b) ((0:Int),(([],[]),([],[])));cond (decide ((0:Int)≤b)) (cond (decide (b<(length c.1:Int))) (cond (v1.1 != (getD c.1 (toNat b) ((0:Int),((0:Int),(0:Int)))).1) (some (.inl false)) ((C5 k v1).bind λ r3=>cond (!r3) (some (.inl false)) (Df k d e (wrap .i64 (b+1)) c))) none) none) none) none) (some (.inr c))
def B8 (k:Nat) (a0:y10):Option (Bool):=(Ds k a0.2.1 a0.1).bind λ r1=>cond (!r1) (some false) (cond ((length a0.2.2.1:Int) != (length a0.1:Int)) (some false) ((Br a0.2.2.2.1).bind λ r2=>cond (!r2) (some false) ((Ci k a0).bind λ r3=>cond (!r3) (some false) ((Df k a0.2.2.1 (length a0.2.2.1:Int) 0 a0).bind λ r4=>Sum.elim (λ y5=>some y5) (λ z6=>(C8 k z6.2.2.2.2.2 (length z6.2.2.2.2.2:Int) 0 z6).bind λ r7=>Sum.elim (λ y8=>some y8) (λ z9=>some true) r7) r4))))
def Du (a0:List Int):Option (List Int):=cond (Nat.ble ((length ([]:List Int)+length a0)*8) 140737488355328) (some (([]:List Int)++a0)) none
def Dg:Nat→(List (List Int))→Int→Int→y3→y3→Option (y3×y3)
 |0,_,_,_,_,_=>none
 |k+1,d,e,b,f,c=>cond (decide (b<e)) (cond (decide ((0:Int)≤b)) (cond (decide (b<(length d:Int))) ((Du (getD d (toNat b) [])).bind λ r2=>cond (Nat.ble ((length c.2+length [r2])*24) 140737488355328) (Dg k d e (wrap .i64 (b+1)) f (c.1,c.2++[r2])) none) none) none) (some (f,c))
def Cj (k:Nat) (a0:y3):Option y3:=(Dg k a0.2 (length a0.2:Int) 0 (0,([]:List (List Int))) (a0.1,([]:List (List Int)))).bind λ r1=>some r1.2
def Ai (a0:List y6):Option (List y6):=cond (Nat.ble ((length ([]:List y6)+length a0)*56) 140737488355328) (some (([]:List y6)++a0)) none
def Ah (a0:List Int):Option (List Int):=cond (Nat.ble ((length ([]:List Int)+length a0)*1) 140737488355328) (some (([]:List Int)++a0)) none
def Co:Nat→(List y2)→(List y2)→Int→Int→Option (List y2)
 |0,_,_,_,_=>none
 |k+1,c,d,e,b=>cond (decide (b<e)) (cond (decide ((0:Int)≤b)) (cond (decide (b<(length d:Int))) (let v1:=getD d (toNat b) ((⟨#[]⟩:ByteArray),[]);(Ah v1.2).bind λ r2=>cond (Nat.ble ((length c+length [(v1.1,r2)])*40) 140737488355328) (Co k (c++[(v1.1,r2)]) d e (wrap .i64 (b+1))) none) none) none) (some c)
def Bt (k:Nat) (a0:List y2):Option (List y2):=(Co k ([]:List y2) a0 (length a0:Int) 0).bind λ r1=>some r1
def A5 (k:Nat) (a0:y8):Option y8:=(Bt k a0.1).bind λ r1=>(Bt k a0.2).bind λ r2=>some (r1,r2)
def Ba (k:Nat) (a0:y9):Option y9:=(A5 k a0.2.1).bind λ r1=>(Ai a0.2.2.1).bind λ r2=>(Ai a0.2.2.2).bind λ r3=>some (a0.1,r1,r2,r3)
def Dv (a0:y5):Option y5:=(Ah a0.2.2).bind λ r1=>some (a0.1,a0.2.1,r1)
def Cp:Nat→(List y7)→Int→Int→y10→y10→Option (y10×y10)
 |0,_,_,_,_,_=>none
 |k+1,d,e,c,f,b=>cond (decide (c<e)) (cond (decide ((0:Int)≤c)) (cond (decide (c<(length d:Int))) (let v1:=getD d (toNat c) ((⟨#[]⟩:ByteArray),((((0:Int),((0:Int),(0:Int))),(false,[])),false));(Dv v1.2.1).bind λ r2=>cond (Nat.ble ((length b.2.2.2.2.1+length [(v1.1,r2,v1.2.2)])*80) 140737488355328) (Cp k d e (wrap .i64 (c+1)) f (b.1,b.2.1,b.2.2.1,b.2.2.2.1,(b.2.2.2.2.1++[(v1.1,r2,v1.2.2)]),b.2.2.2.2.2)) none) none) none) (some (f,b))
def Cq:Nat→(List y9)→Int→Int→y10→y10→y10→Option (y10×y10×y10)
 |0,_,_,_,_,_,_=>none
 |k+1,d,e,c,f,g,b=>cond (decide (c<e)) (cond (decide ((0:Int)≤c)) (cond (decide (c<(length d:Int))) ((Ba k (getD d (toNat c) ((0:Int),(([],[]),([],[]))))).bind λ r2=>cond (Nat.ble ((length b.2.2.1+length [r2])*104) 140737488355328) (Cq k d e (wrap .i64 (c+1)) f g (b.1,b.2.1,b.2.2.1++[r2],b.2.2.2)) none) none) none) (some (f,g,b))
def Aw (k:Nat) (a0:y10):Option y10:=cond (Nat.ble ((length ([]:List y0)+length a0.1)*24) 140737488355328) ((Cj k a0.2.1).bind λ r2=>cond (Nat.ble ((length ([]:List ByteArray)+length a0.2.2.2.2.2)*16) 140737488355328) ((Cq k a0.2.2.1 (length a0.2.2.1:Int) 0 a0 (([]:List y0),(0,([]:List (List Int))),([]:List y9),(0,0,0),([]:List y7),([]:List ByteArray)) ((([]:List y0)++a0.1),r2,([]:List y9),a0.2.2.2.1,([]:List y7),(([]:List ByteArray)++a0.2.2.2.2.2))).bind λ r4=>(Cp k r4.1.2.2.2.2.1 (length r4.1.2.2.2.2.1:Int) 0 r4.2.1 r4.2.2).bind λ r5=>some r5.2) none) none
def C1 (a0:List Int) (a1:Int):Option (Int):=cond (decide (a1<(length a0:Int))) (cond (decide ((0:Int)≤a1)) (cond (decide (a1<(length a0:Int))) ((C3 (getD a0 (toNat a1) (0:Int)) 1 3).bind λ r2=>cond r2 (cond (decide ((0:Int)≤a1)) (cond (decide (a1<(length a0:Int))) (some (getD a0 (toNat a1) (0:Int))) none) none) (some 0)) none) none) (some 0)
def G8:Nat→ByteArray→Int→Int→Option (Int)
 |0,_,_,_=>none
 |k+1,c,d,b=>cond (decide (b<(ByteArray.size c:Int))) (cond (decide ((0:Int)≤b)) (cond (decide (b<(ByteArray.size c:Int))) (G8 k c (wrap .u32 ((wrap .u32 ((ofInt (IntKind.bits .u32) d ^^^ ofInt (IntKind.bits .u32) (wrap .u32 (bt c b))).toNat))*16777619)) (wrap .i64 (b+1))) none) none) (some d)
def I3 (k:Nat) (a0:ByteArray):Option (Int):=(G8 k a0 2166136261 0).bind λ r1=>some (wrap .i64 r1)
def H8 (k:Nat) (a0:ByteArray) (a1:Int):Option (Int):=cond (decide (a1<1)) (some 0) ((I3 k a0).bind λ r1=>cond (decide (a1=0)) none (some (Int.tmod r1 a1)))
def Ao (k:Nat) (a0:y3) (a1:ByteArray):Option (List Int):=cond ((length a0.2:Int)==0) (some ([]:List Int)) ((H8 k a1 (length a0.2:Int)).bind λ r1=>cond (decide ((0:Int)≤r1)) (cond (decide (r1<(length a0.2:Int))) ((Du (getD a0.2 (toNat r1) [])).bind λ r3=>some r3) none) none)
def Cr:Nat→(List Int)→Int→(List Int)→Int→Int→(List y9)→Int→Int→y10→Option ((List Int)×(List Int)×Int×Int×y10)
 |0,_,_,_,_,_,_,_,_,_=>none
 |k+1,c,e,f,g,h,d,i,b,j=>cond (decide (b<i)) (cond (decide ((0:Int)≤b)) (cond (decide (b<(length d:Int))) (cond ((getD d (toNat b) ((0:Int),(([],[]),([],[])))).1==e) (cond (Nat.ble ((length c+length [b])*8) 140737488355328) (Cr k (c++[b]) e f g h d i (wrap .i64 (b+1)) j) none) (Cr k c e f g h d i (wrap .i64 (b+1)) j)) none) none) (some (c,f,g,h,j))
def E3:Nat→(List Int)→(List Int)→Int→Int→y10→Option (List Int)
 |0,_,_,_,_,_=>none
 |k+1,e,c,f,b,d=>cond (decide (b<f)) (cond (decide ((0:Int)≤b)) (cond (decide (b<(length c:Int))) ((Cr k e (getD c (toNat b) (0:Int)) c f b d.2.2.1 (length d.2.2.1:Int) 0 d).bind λ r2=>E3 k r2.1 r2.2.1 r2.2.2.1 (wrap .i64 (r2.2.2.2.1+1)) r2.2.2.2.2) none) none) (some e)
def Cd (k:Nat) (a0:y10) (a1:List Int):Option (List Int):=(E3 k ([]:List Int) a1 (length a1:Int) 0 a0).bind λ r1=>some r1
def C9:Nat→(List Int)→(List Int)→(List Int)→(List Int)→(List y0)→Int→Int→Option ((List Int)×(List Int))
 |0,_,_,_,_,_,_,_=>none
 |k+1,f,g,c,d,e,h,b=>cond (decide (b<h)) (cond (decide ((0:Int)≤b)) (cond (decide (b<(length e:Int))) (let v1:=getD e (toNat b) ((0:Int),((0:Int),(0:Int)));(Bd k f v1.1).bind λ r2=>cond r2 (C9 k f g c d e h (wrap .i64 (b+1))) ((Bd k g v1.2.1).bind λ r3=>cond r3 (cond (Nat.ble ((length d+length [v1.1])*8) 140737488355328) (C9 k f g c (d++[v1.1]) e h (wrap .i64 (b+1))) none) (cond (Nat.ble ((length c+length [v1.1])*8) 140737488355328) (C9 k f g (c++[v1.1]) d e h (wrap .i64 (b+1))) none))) none) none) (some (c,d))
def Ck (k:Nat) (a0:y3) (a1:List y0) (a2:ByteArray):Option (List Int):=(Ao k a0 a2).bind λ r1=>(Cc k r1 a1).bind λ r2=>(C9 k r1 r2 ([]:List Int) ([]:List Int) a1 (length a1:Int) 0).bind λ r3=>cond (Nat.ble ((length r3.1+length r3.2)*8) 140737488355328) (some (r3.1++r3.2)) none
def Bw (k:Nat) (a0:y10) (a1:ByteArray):Option ((List Int)×y10):=(Ao k a0.2.1 a1).bind λ r1=>(Ck k a0.2.1 a0.1 a1).bind λ r2=>cond (Nat.ble ((length r1+length r2)*8) 140737488355328) ((Cd k a0 (r1++r2)).bind λ r3=>some (r3,a0)) none
def Es (a0:y0) (a1:Int) (a2:Int):Option y0:=cond (decide (a1≤a0.1)) ((Br (a0.1,wrap .i64 (a0.2.1+1),a2)).bind λ r1=>cond (!r1) (some a0) (some (a0.1,wrap .i64 (a0.2.1+1),a2))) ((Br (a1,0,a2)).bind λ r2=>cond (!r2) (some a0) (some (a1,0,a2)))
def I4 (a0:ByteArray) (a1:y5):Option y6:=some (a0,a1.1,a1.2.1,(length a1.2.2:Int))
def Hh (a0:y5) (a1:y5):Option (Bool):=(Bs a1.1 a0.1).bind λ r1=>some r1
def Hi:Nat→ByteArray→(List y2)→Int→Int→Option (Sum (Int) (Unit))
 |0,_,_,_,_=>none
 |k+1,d,c,e,b=>cond (decide (b<e)) (cond (decide ((0:Int)≤b)) (cond (decide (b<(length c:Int))) (cond ((getD c (toNat b) ((⟨#[]⟩:ByteArray),[])).1.toList==d.toList) (some (.inl b)) (Hi k d c e (wrap .i64 (b+1)))) none) none) (some (.inr ()))
def H9 (k:Nat) (a0:List y2) (a1:ByteArray):Option (Int):=(Hi k a1 a0 (length a0:Int) 0).bind λ r1=>Sum.elim (λ y2=>some y2) (λ z3=>some (-1)) r1
def Dw (k:Nat) (a0:y8) (a1:ByteArray):Option ((List Int)×Bool):=(H9 k a0.1 a1).bind λ r1=>cond (decide (r1<0)) (some (([]:List Int),false)) (cond (decide ((0:Int)≤r1)) (cond (decide (r1<(length a0.1:Int))) ((Ah (getD a0.1 (toNat r1) ((⟨#[]⟩:ByteArray),[])).2).bind λ r3=>some (r3,true)) none) none)
def E9:Nat→(List Int)→Int→Int→Int→Option (Sum (Int×Int×Bool) (Unit))
 |0,_,_,_,_=>none
 |k+1,e,c,d,b=>cond (decide (b<5)) (cond (decide (c≥0)) (cond (decide (c<(wrap .i64 ((length e:Int)-b)))) (cond (decide ((0:Int)≤wrap .i64 (c+b))) (cond (decide (wrap .i64 (c+b)<(length e:Int))) (let v1:=getD e (toNat (wrap .i64 (c+b))) (0:Int);cond (decide ((wrap .i64 (7*b))<0)) none (cond (decide ((wrap .i64 v1)≥128)) (E9 k e c (wrap .i64 (d+(wrap .i64 ((Int.tmod (wrap .i64 v1) 128)*2 ^ (min (toNat (wrap .i64 (7*b))) (IntKind.bits .i64)))))) (wrap .i64 (b+1))) (cond ((wrap .i64 v1)==0) (cond (decide (b > 0)) (some (.inl (0,0,false))) (cond (decide ((wrap .i64 (d+(wrap .i64 ((Int.tmod (wrap .i64 v1) 128)*2 ^ (min (toNat (wrap .i64 (7*b))) (IntKind.bits .i64)))))) > 1000000000)) (some (.inl (0,0,false))) (some (.inl (wrap .i64 (d+(wrap .i64 ((Int.tmod (wrap .i64 v1) 128)*2 ^ (min (toNat (wrap .i64 (7*b))) (IntKind.bits .i64))))),wrap .i64 ((wrap .i64 (c+b))+1),true))))) (cond (decide ((wrap .i64 (d+(wrap .i64 ((Int.tmod (wrap .i64 v1) 128)*2 ^ (min (toNat (wrap .i64 (7*b))) (IntKind.bits .i64)))))) > 1000000000)) (some (.inl (0,0,false))) (some (.inl (wrap .i64 (d+(wrap .i64 ((Int.tmod (wrap .i64 v1) 128)*2 ^ (min (toNat (wrap .i64 (7*b))) (IntKind.bits .i64))))),wrap .i64 ((wrap .i64 (c+b))+1),true))))))) none) none) (some (.inr ()))) (some (.inr ()))) (some (.inr ()))
def F7 (k:Nat) (a0:List Int) (a1:Int):Option (Int×Int×Bool):=(E9 k a0 a1 0 0).bind λ r1=>Sum.elim (λ y2=>some (y2.1,y2.2.1,y2.2.2)) (λ z3=>some (0,0,false)) r1
def Ce (k:Nat) (a0:y4):Option (Int×y4):=(F7 k a0.1 a0.2.1).bind λ r1=>cond a0.2.2 (some (0,(a0.1,a0.2.1,true))) (cond (!r1.2.2) (some (0,(a0.1,a0.2.1,true))) (some (r1.1,(a0.1,r1.2.1,a0.2.2))))
def Cs (k:Nat) (a0:y4):Option (y0×Bool×y4):=(Ce k a0).bind λ r1=>(Ce k r1.2).bind λ r2=>(Ce k r2.2).bind λ r3=>(Ce k r3.2).bind λ r4=>cond r4.2.2.2 (some ((r1.1,r2.1,r3.1),r4.1==1,(r4.2.1,r4.2.2.1,true))) (some ((r1.1,r2.1,r3.1),r4.1==1,(r4.2.1,r4.2.2.1,decide (r4.1 > 1))))
def G9 (k:Nat) (a0:List Int) (a1:Int):Option (ByteArray×Int×Bool):=(F7 k a0 a1).bind λ r1=>cond (!r1.2.2) (some ((⟨#[]⟩:ByteArray),0,false)) (cond (decide (r1.1 > (wrap .i64 ((length a0:Int)-r1.2.1)))) (some ((⟨#[]⟩:ByteArray),0,false)) (cond (decide ((0:Int)≤r1.2.1)) (cond (decide (r1.2.1≤wrap .i64 (r1.2.1+r1.1))) (cond (decide (wrap .i64 (r1.2.1+r1.1)≤(length a0:Int))) (some (Jc (List.drop (toNat r1.2.1) (List.take (toNat (wrap .i64 (r1.2.1+r1.1))) a0)),wrap .i64 (r1.2.1+r1.1),true)) none) none) none))
def Ca (k:Nat) (a0:y4):Option (ByteArray×y4):=(G9 k a0.1 a0.2.1).bind λ r1=>cond a0.2.2 (some ((⟨#[]⟩:ByteArray),(a0.1,a0.2.1,true))) (cond (!r1.2.2) (some ((⟨#[]⟩:ByteArray),(a0.1,a0.2.1,true))) (some (r1.1,(a0.1,r1.2.1,a0.2.2))))
def Et:Nat→(List Int)→Int→Option ((List Int)×Int)
 |0,_,_=>none
 |k+1,c,b=>cond (decide (b > 127)) (cond (Nat.ble ((length c+length [wrap .u8 (wrap .i64 ((Int.tmod b 128)+128))])*1) 140737488355328) (Et k (c++[wrap .u8 (wrap .i64 ((Int.tmod b 128)+128))]) (wrap .i64 (Int.tdiv b 128))) none) (some (c,b))
def Dt (k:Nat) (a0:List Int) (a1:Int):Option (List Int):=let v1:=if (1000000000:Int)<a1 then 1000000000 else a1;(Et k a0 (if (0:Int)<v1 then v1 else 0)).bind λ r3=>cond (Nat.ble ((length r3.1+length [wrap .u8 r3.2])*1) 140737488355328) (some (r3.1++[wrap .u8 r3.2])) none
def Ga (k:Nat) (a0:List Int) (a1:ByteArray):Option (List Int):=(Dt k a0 (ByteArray.size a1:Int)).bind λ r1=>cond (Nat.ble ((length r1+ByteArray.size a1)*1) 140737488355328) (some (r1++bytesOf a1)) none
def Jr (a0:Bool):Option (Int):=cond a0 (some 1) (some 0)
def Fm (k:Nat) (a0:List Int) (a1:y0) (a2:Bool):Option (List Int):=(Dt k a0 a1.1).bind λ r1=>(Dt k r1 a1.2.1).bind λ r2=>(Dt k r2 a1.2.2).bind λ r3=>(Jr a2).bind λ r4=>(Dt k r3 r4).bind λ r5=>some r5
def Gi:Nat→Int→(List Int)→Int→Int→Int→Option (Int×y1)
 |0,_,_,_,_,_=>none
 |k+1,b,c,d,e,f=>cond (decide (f<8)) (cond ((wrap .u32 ((ofInt (IntKind.bits .u32) b &&& ofInt (IntKind.bits .u32) 1).toNat))==1) (Gi k (wrap .u32 ((ofInt (IntKind.bits .u32) (Int.fdiv b (2 ^ (min (toNat 1) (IntKind.bits .u32)))) ^^^ ofInt (IntKind.bits .u32) 2197175160).toNat)) c d e (wrap .i64 (f+1))) (Gi k (Int.fdiv b (2 ^ (min (toNat 1) (IntKind.bits .u32)))) c d e (wrap .i64 (f+1)))) (some (b,c,d,e))
def Gu:Nat→Int→(List Int)→Int→Int→Option (Int)
 |0,_,_,_,_=>none
 |k+1,d,c,e,b=>cond (decide (b<e)) (cond (decide ((0:Int)≤b)) (cond (decide (b<(length c:Int))) ((Gi k (wrap .u32 ((ofInt (IntKind.bits .u32) d ^^^ ofInt (IntKind.bits .u32) (wrap .u32 (getD c (toNat b) (0:Int)))).toNat)) c e b 0).bind λ r2=>Gu k r2.1 r2.2.1 r2.2.2.1 (wrap .i64 (r2.2.2.2+1))) none) none) (some d)
def Ii (k:Nat) (a0:List Int):Option (Int):=(Gu k 4294967295 a0 (length a0:Int) 0).bind λ r1=>some (wrap .i64 (wrap .u32 ((ofInt (IntKind.bits .u32) (if IntKind.signed .u32 then -1 else IntKind.max .u32) ^^^ ofInt (IntKind.bits .u32) r1).toNat)))
def Dq (k:Nat) (a0:y5):Option (List Int):=(Cn a0).bind λ r1=>cond (!r1) (some ([]:List Int)) ((Fm k ([]:List Int) a0.1 a0.2.1).bind λ r2=>(Ga k r2 (Jc a0.2.2)).bind λ r3=>(Ii k r3).bind λ r4=>cond (Nat.ble ((length r3+length [wrap .u8 (Int.fdiv r4 (2 ^ (min (toNat 24) (IntKind.bits .i64)))),wrap .u8 (Int.fdiv r4 (2 ^ (min (toNat 16) (IntKind.bits .i64)))),wrap .u8 (Int.fdiv r4 (2 ^ (min (toNat 8) (IntKind.bits .i64)))),wrap .u8 r4])*1) 140737488355328) (some (r3++[wrap .u8 (Int.fdiv r4 (2 ^ (min (toNat 24) (IntKind.bits .i64)))),wrap .u8 (Int.fdiv r4 (2 ^ (min (toNat 16) (IntKind.bits .i64)))),wrap .u8 (Int.fdiv r4 (2 ^ (min (toNat 8) (IntKind.bits .i64)))),wrap .u8 r4])) none)
def D6 (k:Nat) (a0:List Int):Option (y5×Bool):=(Cs k (a0,0,false)).bind λ r1=>(Ca k r1.2.2).bind λ r2=>cond (Nat.ble (ByteArray.size r2.1) 140737488355328) ((Dq k (r1.1,r1.2.1,bytesOf r2.1)).bind λ r3=>cond r2.2.2.2 (some (((0,0,0),false,([]:List Int)),false)) (cond ((length r3:Int)==0) (some (((0,0,0),false,([]:List Int)),false)) (cond (!((Jc r3).toList==(Jc a0).toList)) (some (((0,0,0),false,([]:List Int)),false)) (some ((r1.1,r1.2.1,bytesOf r2.1),true))))) none
def Eu (k:Nat) (a0:List y2) (a1:ByteArray):Option (List y2):=(H9 k a0 a1).bind λ r1=>cond (decide (r1<0)) (some a0) (cond (decide ((0:Int)≤r1)) (cond (decide (r1≤(length a0:Int))) (cond (Nat.ble ((length ([]:List y2)+length (List.take (toNat r1) a0))*40) 140737488355328) (let v2:List y2:=([]:List y2)++(List.take (toNat r1) a0);cond (decide ((0:Int)≤wrap .i64 (r1+1))) (cond (decide (wrap .i64 (r1+1)≤(length a0:Int))) (cond (Nat.ble ((length v2+length (List.drop (toNat (wrap .i64 (r1+1))) a0))*40) 140737488355328) (some (v2++(List.drop (toNat (wrap .i64 (r1+1))) a0))) none) none) none) none) none) none)
def Gv:Nat→(List y2)→Int→ByteArray→(List Int)→Option ((List y2)×Int×y2)
 |0,_,_,_,_=>none
 |k+1,c,b,d,e=>cond (decide (b<(length c:Int))) (cond (decide ((0:Int)≤b)) (cond (decide (b<(length c:Int))) (cond (Op.bytesLess (getD c (toNat b) ((⟨#[]⟩:ByteArray),[])).1.toList d.toList) (Gv k c (wrap .i64 (b+1)) d e) (some (c,b,d,e))) none) none) (some (c,b,d,e))
def Hw (k:Nat) (a0:List y2) (a1:y2):Option (List y2):=(Gv k a0 0 a1.1 a1.2).bind λ r1=>cond (decide ((0:Int)≤r1.2.1)) (cond (decide (r1.2.1≤(length r1.1:Int))) (cond (Nat.ble ((length ([]:List y2)+length (List.take (toNat r1.2.1) r1.1))*40) 140737488355328) (let v2:List y2:=([]:List y2)++(List.take (toNat r1.2.1) r1.1);cond (Nat.ble ((length v2+length [r1.2.2])*40) 140737488355328) (cond (decide ((0:Int)≤r1.2.1)) (cond (decide (r1.2.1≤(length r1.1:Int))) (cond (Nat.ble ((length (v2++[r1.2.2])+length (List.drop (toNat r1.2.1) r1.1))*40) 140737488355328) (some ((v2++[r1.2.2])++(List.drop (toNat r1.2.1) r1.1))) none) none) none) none) none) none) none
def Bp (k:Nat) (a0:y8) (a1:ByteArray):Option (y8×Bool):=(A5 k a0).bind λ r1=>(Bg k a0).bind λ r2=>cond (!r2) (some (r1,false)) ((Ad k a1).bind λ r3=>cond (!r3) (some (r1,false)) ((Eu k r1.2 a1).bind λ r4=>(H9 k a0.1 a1).bind λ r5=>cond (decide (r5≥0)) (cond (decide ((0:Int)≤r5)) (cond (decide (r5<(length a0.1:Int))) ((Ah (getD a0.1 (toNat r5) ((⟨#[]⟩:ByteArray),[])).2).bind λ r7=>(Hw k r4 (a1,r7)).bind λ r8=>cond (decide ((length r8:Int) > 60)) ((A5 k a0).bind λ r9=>some (r9,false)) (some ((r1.1,r8),true))) none) none) (cond (decide ((length r4:Int) > 60)) ((A5 k a0).bind λ r10=>some (r10,false)) (some ((r1.1,r4),true)))))
def Cy (k:Nat) (a0:y8) (a1:ByteArray) (a2:List Int):Option (y8×Bool):=(A5 k a0).bind λ r1=>(Bg k a0).bind λ r2=>cond (!r2) (some (r1,false)) ((Ad k a1).bind λ r3=>cond (!r3) (some (r1,false)) (cond (decide ((length a2:Int) > 400)) (some (r1,false)) ((Eu k r1.1 a1).bind λ r4=>(Ah a2).bind λ r5=>(Hw k r4 (a1,r5)).bind λ r6=>cond (decide ((length r6:Int) > 60)) ((A5 k a0).bind λ r7=>some (r7,false)) (some ((r6,r1.2),true)))))
def H5 (k:Nat) (a0:y8) (a1:ByteArray) (a2:y5) (a3:Bool):Option (y8×Int):=(Bg k a0).bind λ r1=>cond (!r1) ((A5 k a0).bind λ r2=>some (r2,2)) ((Ad k a1).bind λ r3=>cond (!r3) ((A5 k a0).bind λ r4=>some (r4,2)) ((Cn a2).bind λ r5=>cond (!r5) ((A5 k a0).bind λ r6=>some (r6,2)) ((A5 k a0).bind λ r7=>(Dw k a0 a1).bind λ r8=>(D6 k r8.1).bind λ r9=>cond r9.2 ((Hh a2 r9.1).bind λ r10=>cond (!r10) (cond a3 ((Bp k r7 a1).bind λ r11=>cond (!r11.2) ((A5 k a0).bind λ r12=>some (r12,3)) (some (r11.1,1))) (some (r7,1))) ((Dq k a2).bind λ r13=>(Cy k a0 a1 r13).bind λ r14=>cond (!r14.2) ((A5 k a0).bind λ r15=>some (r15,3)) (cond a3 ((Bp k r14.1 a1).bind λ r16=>cond (!r16.2) ((A5 k a0).bind λ r17=>some (r17,3)) (some (r16.1,0))) (some (r14.1,0))))) ((Dq k a2).bind λ r18=>(Cy k a0 a1 r18).bind λ r19=>cond (!r19.2) ((A5 k a0).bind λ r20=>some (r20,3)) (cond a3 ((Bp k r19.1 a1).bind λ r21=>cond (!r21.2) ((A5 k a0).bind λ r22=>some (r22,3)) (some (r21.1,0))) (some (r19.1,0)))))))
def Gb (k:Nat) (a0:y9) (a1:ByteArray) (a2:y5) (a3:Bool):Option (y9×Int):=(Ba k a0).bind λ r1=>(C5 k a0).bind λ r2=>cond (!r2) (some (r1,2)) ((Ad k a1).bind λ r3=>cond (!r3) (some (r1,2)) ((Cn a2).bind λ r4=>cond (!r4) (some (r1,2)) (cond (decide ((length a0.2.2.2:Int)≥60)) (some (r1,3)) ((H5 k a0.2.1 a1 a2 a3).bind λ r5=>cond (r5.2==0) (cond a3 ((I4 a1 a2).bind λ r6=>cond (Nat.ble ((length r1.2.2.2+length [r6])*56) 140737488355328) (some ((r1.1,r5.1,r1.2.2.1,r1.2.2.2++[r6]),r5.2)) none) (some ((r1.1,r5.1,r1.2.2),r5.2))) (some ((r1.1,r5.1,r1.2.2),r5.2))))))
def Cf (k:Nat) (a0:y9) (a1:Int) (a2:ByteArray) (a3:y5) (a4:Int):Option (y9×ByteArray×y5×Int):=(Gb k a0 a2 a3 (a1 != 3)).bind λ r1=>cond (a1==1) (cond (r1.2==0) (some (r1.1,a2,a3,wrap .i64 (a4+1))) (cond (r1.2==1) (some (r1.1,a2,a3,wrap .i64 (a4+1))) (some (r1.1,a2,a3,a4)))) (some (r1.1,a2,a3,a4))
def Gw (a0:Int):Option (Int):=some (wrap .i64 ((wrap .i64 (Int.tdiv a0 2))+1))
def Aa:Nat→(List Int)→Int→(List Int)→Int→Int→y10→ByteArray→y5→Int→Option (y10×ByteArray×y5×Int)
 |0,_,_,_,_,_,_,_,_,_=>none
 |k+1,e,f,d,g,c,b,h,i,j=>cond (decide (c<g)) (cond (decide ((0:Int)≤c)) (cond (decide (c<(length d:Int))) (let v1:=getD d (toNat c) (0:Int);(C1 e c).bind λ r2=>cond (r2 != 0) (cond (decide (f<b.2.1.1)) (cond (decide ((0:Int)≤v1)) (cond (decide (v1<(length b.2.2.1:Int))) ((Cf k (getD b.2.2.1 (toNat v1) ((0:Int),(([],[]),([],[])))) r2 h i j).bind λ r4=>Aa k e (wrap .i64 (f+1)) d g (wrap .i64 (c+1)) (b.1,b.2.1,(List.set b.2.2.1 (toNat v1) r4.1),b.2.2.2) r4.2.1 r4.2.2.1 r4.2.2.2) none) none) (Aa k e f d g (wrap .i64 (c+1)) b h i j)) (Aa k e f d g (wrap .i64 (c+1)) b h i j)) none) none) (some (b,h,i,j))
def A8 (k:Nat) (a0:y10) (a1:ByteArray) (a2:List Int) (a3:Bool) (a4:ByteArray) (a5:y5) (a6:Int):Option (y10×ByteArray×y5×Int):=(Bw k a0 a1).bind λ r1=>(Aa k a2 0 r1.1 (length r1.1:Int) 0 r1.2 a4 a5 a6).bind λ r2=>some (r2.1,r2.2.1,r2.2.2.1,r2.2.2.2)
def Cg (k:Nat) (a0:y10) (a1:ByteArray) (a2:y5) (a3:Int) (a4:List Int):Option (Int×y10):=(Ad k a1).bind λ r1=>cond (!r1) (some (2,a0)) (cond (decide ((length a2.2.2:Int) > 200)) (some (2,a0)) ((C3 a3 0 1000000000).bind λ r2=>cond (!r2) (some (2,a0)) ((Es a0.2.2.2.1 a3 0).bind λ r3=>cond (decide ((length a0.2.2.2.2.1:Int)≥200)) (some (3,a0)) (cond ((r3.1==a0.2.2.2.1.1)&&((r3.2.1==a0.2.2.2.1.2.1)&&(r3.2.2==a0.2.2.2.1.2.2))) (some (3,a0)) ((A8 k (a0.1,a0.2.1,a0.2.2.1,r3,a0.2.2.2.2) a1 a4 true a1 (r3,a2.2) 0).bind λ r4=>(Gw r4.1.2.1.1).bind λ r5=>(Dv r4.2.2.1).bind λ r6=>cond (Nat.ble ((length r4.1.2.2.2.2.1+length [(r4.2.1,r6,decide (r4.2.2.2≥r5))])*80) 140737488355328) (let v7:List y7:=r4.1.2.2.2.2.1++[(r4.2.1,r6,decide (r4.2.2.2≥r5))];cond (decide (r4.2.2.2≥r5)) (some (0,(r4.1.1,r4.1.2.1,r4.1.2.2.1,r4.1.2.2.2.1,v7,r4.1.2.2.2.2.2))) (some (1,(r4.1.1,r4.1.2.1,r4.1.2.2.1,r4.1.2.2.2.1,v7,r4.1.2.2.2.2.2)))) none)))))
def Ev (k:Nat) (a0:y10) (a1:ByteArray) (a2:List Int) (a3:Int) (a4:List Int):Option (y10×Int):=(Aw k a0).bind λ r1=>(B8 k a0).bind λ r2=>cond (!r2) (some (r1,2)) ((Ah a2).bind λ r3=>(Cg k r1 a1 ((0,0,0),false,r3) a3 a4).bind λ r4=>some (r4.2,r4.1))
def Gc (k:Nat) (a0:y8) (a1:ByteArray):Option (y5×Int):=(Dw k a0 a1).bind λ r1=>cond (!r1.2) (some (((0,0,0),false,([]:List Int)),1)) ((D6 k r1.1).bind λ r2=>cond (!r2.2) (some (((0,0,0),false,([]:List Int)),2)) (some (r2.1,0)))
def Gx:Nat→(List Int)→Int→Int→Option (Sum (Bool) (Unit))
 |0,_,_,_=>none
 |k+1,c,d,b=>cond (decide (b<(length c:Int))) (cond (decide ((0:Int)≤b)) (cond (decide (b<(length c:Int))) (cond ((getD c (toNat b) (0:Int))==d) (some (.inl true)) (Gx k c d (wrap .i64 (b+1)))) none) none) (some (.inr ()))
def J0 (k:Nat) (a0:List Int) (a1:Int):Option (Bool):=(Gx k a0 a1 0).bind λ r1=>Sum.elim (λ y2=>some y2) (λ z3=>some false) r1
def D7 (k:Nat) (a0:y10):Option (List Int):=(Ao k a0.2.1 (⟨#[108,105,115,116]⟩:ByteArray)).bind λ r1=>(Cd k a0 r1).bind λ r2=>some r2
def Fn (a0:y6) (a1:y6):Option (Bool):=cond (!((a0.2.1.1==a1.2.1.1)&&((a0.2.1.2.1==a1.2.1.2.1)&&(a0.2.1.2.2==a1.2.1.2.2)))) ((Bs a1.2.1 a0.2.1).bind λ r1=>some r1) (cond (!(a0.2.2.1==a1.2.2.1)) (some a0.2.2.1) (some (decide (a0.2.2.2 > a1.2.2.2))))
def Ct:Nat→(List y6)→Int→ByteArray→Int→Int→Int→Bool→Int→Option ((List y6)×Int×ByteArray×Int×Int×Int×Bool×Int)
 |0,_,_,_,_,_,_,_,_=>none
 |k+1,c,b,d,e,f,g,h,i=>cond (decide (b > 0)) (cond (decide ((0:Int)≤wrap .i64 (b-1))) (cond (decide (wrap .i64 (b-1)<(length c:Int))) (let v1:=getD c (toNat (wrap .i64 (b-1))) ((⟨#[]⟩:ByteArray),(((0:Int),((0:Int),(0:Int))),(false,(0:Int))));cond (!(Op.bytesLess v1.1.toList d.toList||v1.1.toList==d.toList)) (Ct k c (wrap .i64 (b-1)) d e f g h i) (some (c,b,d,e,f,g,h,i))) none) none) (some (c,b,d,e,f,g,h,i))
def Dh:Nat→(List y6)→(List y6)→(List y6)→Int→Int→ByteArray→Int→Int→Int→Bool→Int→Option (Sum (List y6) ((List y6)×ByteArray×Int×Int×Int×Bool×Int))
 |0,_,_,_,_,_,_,_,_,_,_,_=>none
 |k+1,l,d,j,m,b,c,e,f,g,h,i=>cond (decide (b<m)) (cond (decide ((0:Int)≤b)) (cond (decide (b<(length j:Int))) (let v1:=getD j (toNat b) ((⟨#[]⟩:ByteArray),(((0:Int),((0:Int),(0:Int))),(false,(0:Int))));cond (v1.1.toList==c.toList) ((Fn (c,(e,f,g),h,i) v1).bind λ r2=>cond r2 (cond (decide ((0:Int)≤b)) (cond (decide (b<(length d:Int))) (some (.inl (List.set d (toNat b) (c,(e,f,g),h,i)))) none) none) (some (.inl d))) (Dh k l d j m (wrap .i64 (b+1)) c e f g h i)) none) none) (some (.inr (l,c,e,f,g,h,i)))
def Bz (k:Nat) (a0:List y6) (a1:y6):Option (List y6):=(Ai a0).bind λ r1=>(Dh k a0 r1 a0 (length a0:Int) 0 a1.1 a1.2.1.1 a1.2.1.2.1 a1.2.1.2.2 a1.2.2.1 a1.2.2.2).bind λ r2=>Sum.elim (λ y3=>some y3) (λ z4=>(Ct k z4.1 (length z4.1:Int) z4.2.1 z4.2.2.1 z4.2.2.2.1 z4.2.2.2.2.1 z4.2.2.2.2.2.1 z4.2.2.2.2.2.2).bind λ r5=>cond (decide ((0:Int)≤r5.2.1)) (cond (decide (r5.2.1≤(length r5.1:Int))) ((Ai (List.take (toNat r5.2.1) r5.1)).bind λ r6=>cond (Nat.ble ((length r6+length [(r5.2.2.1,(r5.2.2.2.1,r5.2.2.2.2.1,r5.2.2.2.2.2.1),r5.2.2.2.2.2.2)])*56) 140737488355328) (let v7:List y6:=r6++[(r5.2.2.1,(r5.2.2.2.1,r5.2.2.2.2.1,r5.2.2.2.2.2.1),r5.2.2.2.2.2.2)];cond (decide ((0:Int)≤r5.2.1)) (cond (decide (r5.2.1≤(length r5.1:Int))) (cond (Nat.ble ((length v7+length (List.drop (toNat r5.2.1) r5.1))*56) 140737488355328) (some (v7++(List.drop (toNat r5.2.1) r5.1))) none) none) none) none) none) none) r2
def Cu:Nat→(List y6)→(List y6)→Int→Int→Option (List y6)
 |0,_,_,_,_=>none
 |k+1,d,c,e,b=>cond (decide (b<e)) (cond (decide ((0:Int)≤b)) (cond (decide (b<(length c:Int))) ((Bz k d (getD c (toNat b) ((⟨#[]⟩:ByteArray),(((0:Int),((0:Int),(0:Int))),(false,(0:Int)))))).bind λ r2=>Cu k r2 c e (wrap .i64 (b+1))) none) none) (some d)
def Bb (k:Nat) (a0:List y6) (a1:List y6):Option (List y6):=(Ai a0).bind λ r1=>(Cu k r1 a1 (length a1:Int) 0).bind λ r2=>some r2
def Bu (a0:ByteArray) (a1:ByteArray):Option (Bool):=cond (decide ((ByteArray.size a0:Int)≥(ByteArray.size a1:Int))) (cond (decide ((0:Int)≤(ByteArray.size a1:Int))) (cond (decide ((ByteArray.size a1:Int)≤(ByteArray.size a0:Int))) (some ((ByteArray.extract a0 0 (toNat (ByteArray.size a1:Int))).toList==a1.toList)) none) none) (some false)
def Dn (a0:ByteArray) (a1:ByteArray):Option (Bool):=(Bu a0 a1).bind λ r1=>some r1
def Hj (a0:ByteArray) (a1:ByteArray):Option (Bool):=(Dn a0 a1).bind λ r1=>some r1
def Bv:Nat→ByteArray→ByteArray→Int→(List ByteArray)→(List y6)→Int→Int→Option (List ByteArray)
 |0,_,_,_,_,_,_,_=>none
 |k+1,f,d,g,c,e,h,b=>cond (decide (b<h)) (cond (decide ((0:Int)≤b)) (cond (decide (b<(length e:Int))) (let v1:=getD e (toNat b) ((⟨#[]⟩:ByteArray),(((0:Int),((0:Int),(0:Int))),(false,(0:Int))));cond (!v1.2.2.1) ((Hj v1.1 f).bind λ r2=>cond r2 (cond (!(Op.bytesLess v1.1.toList d.toList||v1.1.toList==d.toList)) (cond (decide ((length c:Int)<g)) (cond (Nat.ble ((length c+length [v1.1])*16) 140737488355328) (Bv k f d g (c++[v1.1]) e h (wrap .i64 (b+1))) none) (Bv k f d g c e h (wrap .i64 (b+1)))) (Bv k f d g c e h (wrap .i64 (b+1)))) (Bv k f d g c e h (wrap .i64 (b+1)))) (Bv k f d g c e h (wrap .i64 (b+1)))) none) none) (some c)
def Bq (k:Nat) (a0:List y6) (a1:ByteArray) (a2:ByteArray) (a3:Int):Option (List ByteArray):=(Bv k a1 a2 a3 ([]:List ByteArray) a0 (length a0:Int) 0).bind λ r1=>some r1
def Bm:Nat→ByteArray→ByteArray→Int→(List Int)→(List y6)→Int→(List Int)→Int→Int→y10→Option (ByteArray×ByteArray×Int×(List y6)×Int)
 |0,_,_,_,_,_,_,_,_,_,_=>none
 |k+1,e,f,g,h,i,j,c,l,b,d=>cond (decide (b<l)) (cond (decide ((0:Int)≤b)) (cond (decide (b<(length c:Int))) (let v1:=getD c (toNat b) (0:Int);(C1 h b).bind λ r2=>cond (r2==1) (cond (decide ((0:Int)≤v1)) (cond (decide (v1<(length d.2.2.1:Int))) ((Bb k i (getD d.2.2.1 (toNat v1) ((0:Int),(([],[]),([],[])))).2.2.1).bind λ r4=>Bm k e f g h r4 (wrap .i64 (j+1)) c l (wrap .i64 (b+1)) d) none) none) (Bm k e f g h i j c l (wrap .i64 (b+1)) d)) none) none) (some (e,f,g,i,j))
def B2 (k:Nat) (a0:y10) (a1:ByteArray) (a2:ByteArray) (a3:Int) (a4:List Int):Option ((List ByteArray)×Int):=(B8 k a0).bind λ r1=>cond (!r1) (some (([]:List ByteArray),2)) ((D7 k a0).bind λ r2=>(Bm k a1 a2 a3 a4 ([]:List y6) 0 r2 (length r2:Int) 0 a0).bind λ r3=>cond (r3.2.2.2.2==0) (some (([]:List ByteArray),1)) ((Bq k r3.2.2.2.1 r3.1 r3.2.1 r3.2.2.1).bind λ r4=>some (r4,0)))
def Di:Nat→(List Int)→Int→Option (List Int)
 |0,_,_=>none
 |k+1,b,c=>cond (decide (c<12)) (cond (Nat.ble ((length b+length [1])*8) 140737488355328) (Di k (b++[1]) (wrap .i64 (c+1))) none) (some b)
def Ez (k:Nat)  : Option (List Int):=(Di k ([]:List Int) 0).bind λ r1=>some r1
def F3:Nat→Int→(List y2)→Int→Int→y8→y8→Option (Int×y8×y8)
 |0,_,_,_,_,_,_=>none
 |k+1,e,c,f,b,g,d=>cond (decide (b<f)) (cond (decide ((0:Int)≤b)) (cond (decide (b<(length c:Int))) (let v1:=getD c (toNat b) ((⟨#[]⟩:ByteArray),[]);(D6 k v1.2).bind λ r2=>cond (!r2.2) ((Eu k d.1 v1.1).bind λ r3=>(Eu k d.2 v1.1).bind λ r4=>F3 k (wrap .i64 (e+1)) c f (wrap .i64 (b+1)) g (r3,r4)) (F3 k e c f (wrap .i64 (b+1)) g d)) none) none) (some (e,g,d))
def Fv (k:Nat) (a0:y8):Option (y8×Int):=(A5 k a0).bind λ r1=>(Bg k a0).bind λ r2=>cond (!r2) (some (r1,0)) ((F3 k 0 a0.1 (length a0.1:Int) 0 (([]:List y2),([]:List y2)) r1).bind λ r3=>some (r3.2.2,r3.1))
def Ew (k:Nat) (a0:y9):Option (y9×Int):=(Ba k a0).bind λ r1=>(Fv k a0.2.1).bind λ r2=>some ((r1.1,r2.1,r1.2.2),r2.2)
def Dj:Nat→(List ByteArray)→ByteArray→Int→Option ((List ByteArray)×ByteArray×Int)
 |0,_,_,_=>none
 |k+1,c,d,b=>cond (decide (b<(length c:Int))) (cond (decide ((0:Int)≤b)) (cond (decide (b<(length c:Int))) (cond (Op.bytesLess (getD c (toNat b) (⟨#[]⟩:ByteArray)).toList d.toList) (Dj k c d (wrap .i64 (b+1))) (some (c,d,b))) none) none) (some (c,d,b))
def F4 (k:Nat) (a0:List ByteArray) (a1:ByteArray):Option (List ByteArray):=(Dj k a0 a1 0).bind λ r1=>cond (decide (r1.2.2<(length r1.1:Int))) (cond (decide ((0:Int)≤r1.2.2)) (cond (decide (r1.2.2<(length r1.1:Int))) (cond ((getD r1.1 (toNat r1.2.2) (⟨#[]⟩:ByteArray)).toList==r1.2.1.toList) (some r1.1) (cond (decide ((0:Int)≤r1.2.2)) (cond (decide (r1.2.2≤(length r1.1:Int))) (cond (Nat.ble ((length ([]:List ByteArray)+length (List.take (toNat r1.2.2) r1.1))*16) 140737488355328) (let v3:List ByteArray:=([]:List ByteArray)++(List.take (toNat r1.2.2) r1.1);cond (Nat.ble ((length v3+length [r1.2.1])*16) 140737488355328) (cond (decide ((0:Int)≤r1.2.2)) (cond (decide (r1.2.2≤(length r1.1:Int))) (cond (Nat.ble ((length (v3++[r1.2.1])+length (List.drop (toNat r1.2.2) r1.1))*16) 140737488355328) (some ((v3++[r1.2.1])++(List.drop (toNat r1.2.2) r1.1))) none) none) none) none) none) none) none)) none) none) (cond (decide ((0:Int)≤r1.2.2)) (cond (decide (r1.2.2≤(length r1.1:Int))) (cond (Nat.ble ((length ([]:List ByteArray)+length (List.take (toNat r1.2.2) r1.1))*16) 140737488355328) (let v5:List ByteArray:=([]:List ByteArray)++(List.take (toNat r1.2.2) r1.1);cond (Nat.ble ((length v5+length [r1.2.1])*16) 140737488355328) (cond (decide ((0:Int)≤r1.2.2)) (cond (decide (r1.2.2≤(length r1.1:Int))) (cond (Nat.ble ((length (v5++[r1.2.1])+length (List.drop (toNat r1.2.2) r1.1))*16) 140737488355328) (some ((v5++[r1.2.1])++(List.drop (toNat r1.2.2) r1.1))) none) none) none) none) none) none) none)
def Fw:Nat→(List ByteArray)→(List y2)→Int→Int→y8→Option (List ByteArray)
 |0,_,_,_,_,_=>none
 |k+1,d,c,e,b,f=>cond (decide (b<e)) (cond (decide ((0:Int)≤b)) (cond (decide (b<(length c:Int))) (let v1:=getD c (toNat b) ((⟨#[]⟩:ByteArray),[]);(Gc k f v1.1).bind λ r2=>cond (r2.2==0) ((F4 k d v1.1).bind λ r3=>Fw k r3 c e (wrap .i64 (b+1)) f) (Fw k d c e (wrap .i64 (b+1)) f)) none) none) (some d)
def Gd (k:Nat) (a0:y8):Option (List ByteArray):=(Fw k ([]:List ByteArray) a0.1 (length a0.1:Int) 0 a0).bind λ r1=>some r1
def Dk (k:Nat) (a0:y8) (a1:ByteArray):Option (y8×Bool):=(A5 k a0).bind λ r1=>(Bg k a0).bind λ r2=>cond (!r2) (some (r1,false)) ((H9 k a0.1 a1).bind λ r3=>cond (decide (r3<0)) (some (r1,false)) ((Eu k r1.1 a1).bind λ r4=>some ((r4,r1.2),true)))
def Ac:Nat→Int→ByteArray→(List Int)→Bool→Bool→(List Int)→Int→Int→y10→y5→Option (Int×ByteArray×Bool×Bool×y10)
 |0,_,_,_,_,_,_,_,_,_,_=>none
 |k+1,d,e,g,l,j,f,h,c,b,i=>cond (decide (c<h)) (cond (decide ((0:Int)≤c)) (cond (decide (c<(length f:Int))) (let v1:=getD f (toNat c) (0:Int);cond (v1==d) (Ac k d e g l true f h (wrap .i64 (c+1)) b i) ((C1 g c).bind λ r2=>cond (r2 != 1) (Ac k d e g false j f h (wrap .i64 (c+1)) b i) (cond (decide ((0:Int)≤v1)) (cond (decide (v1<(length b.2.2.1:Int))) ((H5 k (getD b.2.2.1 (toNat v1) ((0:Int),(([],[]),([],[])))).2.1 e i true).bind λ r4=>cond (decide ((0:Int)≤v1)) (cond (decide (v1<(length b.2.2.1:Int))) (let v5:=getD b.2.2.1 (toNat v1) ((0:Int),(([],[]),([],[])));let v6:=List.set b.2.2.1 (toNat v1) (v5.1,r4.1,v5.2.2);cond l (cond (r4.2==0) (Ac k d e g true j f h (wrap .i64 (c+1)) (b.1,b.2.1,v6,b.2.2.2) i) (Ac k d e g (r4.2==1) j f h (wrap .i64 (c+1)) (b.1,b.2.1,v6,b.2.2.2) i)) (Ac k d e g false j f h (wrap .i64 (c+1)) (b.1,b.2.1,v6,b.2.2.2) i)) none) none) none) none))) none) none) (some (d,e,l,j,b))
def Af (k:Nat) (a0:y10) (a1:Int) (a2:ByteArray) (a3:List Int):Option (Bool×y10):=cond (decide ((0:Int)≤a1)) (cond (decide (a1<(length a0.2.2.1:Int))) ((Gc k (getD a0.2.2.1 (toNat a1) ((0:Int),(([],[]),([],[])))).2.1 a2).bind λ r2=>cond (r2.2 != 0) (some (false,a0)) ((Ao k a0.2.1 a2).bind λ r3=>(Cd k a0 r3).bind λ r4=>(Ac k a1 a2 a3 true false r4 (length r4:Int) 0 a0 r2.1).bind λ r5=>cond (!r5.2.2.2.1) (cond r5.2.2.1 (cond (decide ((0:Int)≤r5.1)) (cond (decide (r5.1<(length r5.2.2.2.2.2.2.1:Int))) ((Dk k (getD r5.2.2.2.2.2.2.1 (toNat r5.1) ((0:Int),(([],[]),([],[])))).2.1 r5.2.1).bind λ r7=>(Bp k r7.1 r5.2.1).bind λ r8=>cond (decide ((0:Int)≤r5.1)) (cond (decide (r5.1<(length r5.2.2.2.2.2.2.1:Int))) (let v9:=getD r5.2.2.2.2.2.2.1 (toNat r5.1) ((0:Int),(([],[]),([],[])));some (true,(r5.2.2.2.2.1,r5.2.2.2.2.2.1,(List.set r5.2.2.2.2.2.2.1 (toNat r5.1) (v9.1,r8.1,v9.2.2)),r5.2.2.2.2.2.2.2))) none) none) none) none) (some (true,r5.2.2.2.2))) (some (true,r5.2.2.2.2)))) none) none
def Fo (k:Nat) (a0:y9) (a1:List y6):Option (y9×Bool):=(Ba k a0).bind λ r1=>(C5 k a0).bind λ r2=>cond (!r2) (some (r1,false)) ((Da k a1).bind λ r3=>cond (!r3) (some (r1,false)) ((Bb k a0.2.2.1 a1).bind λ r4=>cond (decide ((length r4:Int) > 60)) ((Ba k a0).bind λ r5=>some (r5,false)) (some ((r1.1,r1.2.1,r4,r1.2.2.2),true))))
def As:Nat→(List y6)→(List Int)→Int→Bool→(List Int)→Int→Int→y10→Option (Bool×y10)
 |0,_,_,_,_,_,_,_,_=>none
 |k+1,e,f,g,i,d,h,c,b=>cond (decide (c<h)) (cond (decide ((0:Int)≤c)) (cond (decide (c<(length d:Int))) (let v1:=getD d (toNat c) (0:Int);cond (v1==g) (As k e f g i d h (wrap .i64 (c+1)) b) ((C1 f c).bind λ r2=>cond (r2 != 1) (As k e f g false d h (wrap .i64 (c+1)) b) (cond (decide ((0:Int)≤v1)) (cond (decide (v1<(length b.2.2.1:Int))) ((Fo k (getD b.2.2.1 (toNat v1) ((0:Int),(([],[]),([],[])))) e).bind λ r4=>cond (decide ((0:Int)≤v1)) (cond (decide (v1<(length b.2.2.1:Int))) (let v6:=List.set b.2.2.1 (toNat v1) r4.1;cond i (As k e f g r4.2 d h (wrap .i64 (c+1)) (b.1,b.2.1,v6,b.2.2.2)) (As k e f g false d h (wrap .i64 (c+1)) (b.1,b.2.1,v6,b.2.2.2))) none) none) none) none))) none) none) (some (i,b))
def Al (k:Nat) (a0:y10) (a1:List y6) (a2:List Int) (a3:Int):Option (Bool×y10):=(D7 k a0).bind λ r1=>(As k a1 a2 a3 true r1 (length r1:Int) 0 a0).bind λ r2=>some (r2.1,r2.2)
def Bn (k:Nat) (a0:y10) (a1:Int) (a2:List Int):Option (Bool×y10):=cond (decide ((0:Int)≤a1)) (cond (decide (a1<(length a0.2.2.1:Int))) (cond ((length (getD a0.2.2.1 (toNat a1) ((0:Int),(([],[]),([],[])))).2.2.2:Int)==0) (some (false,a0)) (cond (decide ((0:Int)≤a1)) (cond (decide (a1<(length a0.2.2.1:Int))) (let v2:=getD a0.2.2.1 (toNat a1) ((0:Int),(([],[]),([],[])));cond (decide ((1:Int)≤(length v2.2.2.2:Int))) ((Ai (List.take (toNat 1) v2.2.2.2)).bind λ r3=>(Al k a0 r3 a2 (-1)).bind λ r4=>cond r4.1 (cond (decide ((0:Int)≤a1)) (cond (decide (a1<(length r4.2.2.2.1:Int))) (let v5:=getD r4.2.2.2.1 (toNat a1) ((0:Int),(([],[]),([],[])));cond (decide ((1:Int)≤(length v5.2.2.2:Int))) ((Ai (List.drop (toNat 1) v5.2.2.2)).bind λ r6=>cond (decide ((0:Int)≤a1)) (cond (decide (a1<(length r4.2.2.2.1:Int))) (let v7:=getD r4.2.2.2.1 (toNat a1) ((0:Int),(([],[]),([],[])));some (true,(r4.2.1,r4.2.2.1,(List.set r4.2.2.2.1 (toNat a1) (v7.1,v7.2.1,v7.2.2.1,r6)),r4.2.2.2.2))) none) none) none) none) none) (some (true,r4.2))) none) none) none)) none) none
def Bh (k:Nat) (a0:y10) (a1:Int) (a2:List Int):Option (Bool×y10):=cond (decide ((0:Int)≤a1)) (cond (decide (a1<(length a0.2.2.1:Int))) ((Ai (getD a0.2.2.1 (toNat a1) ((0:Int),(([],[]),([],[])))).2.2.1).bind λ r2=>cond ((length r2:Int)==0) (some (false,a0)) ((Al k a0 r2 a2 a1).bind λ r3=>cond r3.1 ((D7 k r3.2).bind λ r4=>(Bd k r4 a1).bind λ r5=>cond (!r5) (cond (decide ((0:Int)≤a1)) (cond (decide (a1<(length r3.2.2.2.1:Int))) (let v6:=getD r3.2.2.2.1 (toNat a1) ((0:Int),(([],[]),([],[])));some (true,(r3.2.1,r3.2.2.1,(List.set r3.2.2.2.1 (toNat a1) (v6.1,v6.2.1,([]:List y6),v6.2.2.2)),r3.2.2.2.2))) none) none) (some (true,r3.2))) (some (true,r3.2)))) none) none
def B6:Nat→(List Int)→Int→Int→Int→Int→Int→y10→Option ((List Int)×Int×Int×Int×y10)
 |0,_,_,_,_,_,_,_=>none
 |k+1,b,c,d,e,f,g,h=>cond (decide (g<f)) ((Bn k h c b).bind λ r1=>B6 k b c d e f (wrap .i64 (g+1)) r1.2) (some (b,c,d,e,h))
def B3:Nat→(List Int)→Int→Int→Int→(List ByteArray)→Int→Int→y10→Option ((List Int)×Int×Int×Int×y10)
 |0,_,_,_,_,_,_,_,_=>none
 |k+1,c,d,f,g,e,h,b,i=>cond (decide (b<h)) (cond (decide ((0:Int)≤b)) (cond (decide (b<(length e:Int))) ((Af k i d (getD e (toNat b) (⟨#[]⟩:ByteArray)) c).bind λ r2=>B3 k c d f g e h (wrap .i64 (b+1)) r2.2) none) none) (some (c,d,f,g,i))
def Bi:Nat→(List Int)→Int→Int→y10→Option y10
 |0,_,_,_,_=>none
 |k+1,e,d,b,c=>cond (decide (b<d)) (cond (decide ((0:Int)≤b)) (cond (decide (b<(length c.2.2.1:Int))) ((Ew k (getD c.2.2.1 (toNat b) ((0:Int),(([],[]),([],[]))))).bind λ r2=>cond (decide ((0:Int)≤b)) (cond (decide (b<(length c.2.2.1:Int))) (let v4:=List.set c.2.2.1 (toNat b) r2.1;cond (decide ((0:Int)≤b)) (cond (decide (b<(length v4:Int))) ((Gd k (getD v4 (toNat b) ((0:Int),(([],[]),([],[])))).2.1).bind λ r6=>(B3 k e b d b r6 (length r6:Int) 0 (c.1,c.2.1,v4,c.2.2.2)).bind λ r7=>cond (decide ((0:Int)≤r7.2.1)) (cond (decide (r7.2.1<(length r7.2.2.2.2.2.2.1:Int))) ((B6 k r7.1 r7.2.1 r7.2.2.1 r7.2.2.2.1 (length (getD r7.2.2.2.2.2.2.1 (toNat r7.2.1) ((0:Int),(([],[]),([],[])))).2.2.2:Int) 0 r7.2.2.2.2).bind λ r9=>(Bh k r9.2.2.2.2 r9.2.1 r9.1).bind λ r10=>Bi k r9.1 r9.2.2.1 (wrap .i64 (r9.2.2.2.1+1)) r10.2) none) none) none) none) none) none) none) none) (some c)
def Ae (k:Nat) (a0:y10):Option y10:=(Ez k).bind λ r1=>(Bi k r1 (length a0.2.2.1:Int) 0 a0).bind λ r2=>some r2
def Hk (k:Nat) (a0:y10):Option y10:=(Aw k a0).bind λ r1=>(B8 k a0).bind λ r2=>cond r2 ((Ae k r1).bind λ r3=>some r3) (some r1)
def B4:Nat→(List Int)→Int→(List Int)→Int→y10→Option (Sum (Bool) ((List Int)×Int×y10))
 |0,_,_,_,_,_=>none
 |k+1,d,e,f,b,c=>cond (decide (b<(length c.2.2.1:Int))) (cond (decide ((0:Int)≤b)) (cond (decide (b<(length c.2.2.1:Int))) ((Gc k (getD c.2.2.1 (toNat b) ((0:Int),(([],[]),([],[])))).2.1 (⟨#[99,97,116,47,49]⟩:ByteArray)).bind λ r2=>cond (decide ((0:Int)≤b)) (cond (decide (b<(length c.2.2.1:Int))) ((J0 k f (getD c.2.2.1 (toNat b) ((0:Int),(([],[]),([],[])))).1).bind λ r4=>cond (!((r2.2==0)==r4)) (some (.inl false)) (B4 k d e f (wrap .i64 (b+1)) c)) none) none) none) none) (some (.inr (d,e,c)))
def B9 (k:Nat) (a0:List Int):Option (Bool):=(Jq a0).bind λ r1=>cond r1 (some true) ((Dm k a0).bind λ r2=>(Ch k r2.1 r2.2.1 r2.2.2).bind λ r3=>(Bx k r2.1 r2.2.1 r2.2.2).bind λ r4=>cond ((length r3.2.2.1:Int) != (length r4.2.2.1:Int)) (some false) (cond ((length r3.2.2.1:Int)==0) (some true) ((Ev k r3 (⟨#[99,97,116,47,49]⟩:ByteArray) [109,101,111,119] 5 [1,1,1,1,1,1]).bind λ r5=>(Ao k r5.1.2.1 (⟨#[99,97,116,47,49]⟩:ByteArray)).bind λ r6=>(B4 k [1,1,1,1,1,1] r5.2 r6 0 r5.1).bind λ r7=>Sum.elim (λ y8=>some y8) (λ z9=>(B2 k z9.2.2 (⟨#[]⟩:ByteArray) (⟨#[]⟩:ByteArray) 9 z9.1).bind λ r10=>(Hk k z9.2.2).bind λ r11=>(B2 k r11 (⟨#[99,97,116]⟩:ByteArray) (⟨#[]⟩:ByteArray) 9 z9.1).bind λ r12=>cond (z9.2.1==0) (cond ((length r10.1:Int)==0) (cond ((length r12.1:Int)==1) (cond (decide ((0:Int)<(length r12.1:Int))) (some ((getD r12.1 (toNat 0) (⟨#[]⟩:ByteArray)).toList==(⟨#[99,97,116,47,49]⟩:ByteArray).toList)) none) (some false)) (some false)) (some false)) r7)))

def Ec (w:World) (k o:Nat) (cs:List Value):Prop:=∀ j u,cs[j]? = some u→w.cell? ⟨k,o+j,none⟩=some u
def Rows {α:Type} (R:α→List Value→Prop):List α→List Value→Prop
 |[],cs=>cs=[]
 |x::xs,cs=>∃ c d,cs=c++d∧R x c∧Rows R xs d
def Uz (P:Program) (e:TypeId) (n:Nat):Prop:=(P.info? e).map (λ i=>i.size)=some n
def Mh {α:Type} (G:Nat→Prop) (w:World) (R:α→List Value→Prop) (xs:List α) (v:Value):Prop:=
 ∃ a cap cs,v = .slice a xs.length cap∧xs.length≤cap∧Rows R xs cs∧(xs≠[]→∃ k o,a=some ⟨k,o,none⟩∧G k∧Ec w k o cs)
def Ty.rep (P:Program) (G:Nat→Prop) (w:World):(t:Ty)→t.den→List Value→Prop
 |.i k,n,vs=>vs=[.int k n]
 |.b,x,vs=>vs=[.bool x]
 |.s,x,vs=>vs=[.string x]
 |.sl e r,xs,vs=>∃ v,vs=[v]∧Uz P e r.sz∧Mh G w (λ x c=>r.rep P G w x c) xs v
 |.ow e r,xs,vs=>∃ v,vs=[v]∧Uz P e r.sz∧Mh G w (λ x c=>r.rep P G w x c) xs v
 |.pr x y,p,vs=>∃ c d,vs=c++d∧x.rep P G w p.1 c∧y.rep P G w p.2 d
section
variable {P:Program} {G G':Nat→Prop} {w w':World} {α:Type}
def Bca {k:Nat} (h:w'.heap[k]? = w.heap[k]?) (o:Nat):w'.cell? ⟨k,o,none⟩=w.cell? ⟨k,o,none⟩:=by
 simp[World.cell?,h]
def Ec.mono {k o:Nat} {cs:List Value} (h:Ec w k o cs) (hs:w'.heap[k]? = w.heap[k]?):Ec w' k o cs:=
 λ j u hu=>(Bca hs _).trans (h j u hu)
def Rows.mono {R R':α→List Value→Prop} (hR:∀ x c,R x c→R' x c):∀ {xs:List α} {cs:List Value},Rows R xs cs→Rows R' xs cs
 |[],_,h=>h
 |_::_,_,⟨c,d,e,h1,h2⟩=>⟨c,d,e,hR _ _ h1,h2.mono hR⟩
def Mh.mono {R R':α→List Value→Prop} {xs:List α} {v:Value} (h:Mh G w R xs v) (hR:∀ x c,R x c→R' x c) (hG:∀ k,G k→G' k)
  (hw:∀ k,G k→w'.heap[k]? = w.heap[k]?):Mh G' w' R' xs v:=by
 obtain⟨a,cap,cs,e,hc,hr,hx⟩:=h;refine⟨a,cap,cs,e,hc,hr.mono hR,λ hn=>?_⟩;obtain⟨k,o,ea,hk,hcs⟩:=hx hn;exact⟨k,o,ea,hG k hk,hcs.mono (hw k hk)⟩
def Ty.rep_mono (hG:∀ k,G k→G' k) (hw:∀ k,G k→w'.heap[k]? = w.heap[k]?):∀ (t:Ty) (x:t.den) (vs:List Value),t.rep P G w x vs→t.rep P G' w' x vs
 |.i _,_,_,h=>h
 |.b,_,_,h=>h
 |.s,_,_,h=>h
 |.sl _ r,_,_,⟨v,e,hs,h⟩=>⟨v,e,hs,h.mono (λ x c=>Ty.rep_mono hG hw r x c) hG hw⟩
 |.ow _ r,_,_,⟨v,e,hs,h⟩=>⟨v,e,hs,h.mono (λ x c=>Ty.rep_mono hG hw r x c) hG hw⟩
 |.pr x y,p,_,⟨c,d,e,h1,h2⟩=>⟨c,d,e,Ty.rep_mono hG hw x p.1 c h1,Ty.rep_mono hG hw y p.2 d h2⟩
def Ty.rep_len:∀ (t:Ty) (x:t.den) (vs:List Value),t.rep P G w x vs→vs.length=t.sz
 |.i _,_,_,h=>by subst h;rfl
 |.b,_,_,h=>by subst h;rfl
 |.s,_,_,h=>by subst h;rfl
 |.sl _ _,_,_,⟨_,e,_⟩=>by subst e;rfl
 |.ow _ _,_,_,⟨_,e,_⟩=>by subst e;rfl
 |.pr x y,p,_,⟨c,d,e,h1,h2⟩=>by
  subst e;rw[Vi,Ty.rep_len x p.1 c h1,Ty.rep_len y p.2 d h2];rfl
def Rows.len {R:α→List Value→Prop} {n:Nat} (hn:∀ x c,R x c→c.length=n):∀ {xs:List α} {cs:List Value},Rows R xs cs→cs.length=xs.length*n
 |[],_,h=>by simp only[Rows]at h;subst h;simp
 |_::_,_,⟨c,d,e,h1,h2⟩=>by
  subst e;rw[Vi,hn _ _ h1,h2.len hn,Vh,Zc,Zh,C6b]
def Rows.get {R:α→List Value→Prop} {n:Nat} (hn:∀ x c,R x c→c.length=n):∀ {xs:List α} {cs:List Value} (_:Rows R xs cs) (i:Nat) (x:α),xs[i]? = some x→R x ((cs.drop (i*n)).take n)
 |[],_,_,i,x,hx=>by simp at hx
 |y::ys,_,⟨c,d,e,h1,h2⟩,0,x,hx=>by
  simp at hx;subst hx e;have:=hn _ _ h1;simp only[Czb,Zf];rw[← this,Dab];exact h1
 |y::ys,_,⟨c,d,e,h1,h2⟩,i+1,x,hx=>by
  subst e;have hl:=hn _ _ h1;rw[show (i+1)*n=c.length+i*n by rw[hl,Zc,Zh,C6b],← Yp,Zl];exact h2.get hn i x (by simpa using hx)
def Rows.append {R:α→List Value→Prop}:∀ {xs ys:List α} {cs ds:List Value},Rows R xs cs→Rows R ys ds→Rows R (xs++ys) (cs++ds)
 |[],_,_,_,h1,h2=>by simp only[Rows]at h1;subst h1;exact h2
 |_::_,_,_,_,⟨c,d,e,h,h'⟩,h2=>by subst e;exact⟨c,_,by rw[Vp],h,h'.append h2⟩
def Rows.set {R:α→List Value→Prop} {n:Nat} (hn:∀ x c,R x c→c.length=n):∀ {xs:List α} {cs:List Value} (_:Rows R xs cs) (i:Nat) (x:α) (c:List Value),i<xs.length→R x c→
  Rows R (xs.set i x) (cs.take (i*n)++c++cs.drop (i*n+n))
 |[],_,_,i,x,c,hi,_=>by simp at hi
 |y::ys,_,⟨c0,d,e,h1,h2⟩,0,x,c,_,hc=>by
  subst e;have hl:=hn _ _ h1;refine⟨c,d,?_,hc,h2⟩;simp only[Czb,Zz,Wn,Wi,← hl,Zl]
 |y::ys,_,⟨c0,d,e,h1,h2⟩,i+1,x,c,hi,hc=>by
  subst e;have hl:=hn _ _ h1;refine⟨c0,_,?_,h1,h2.set hn i x c (by simpa using hi) hc⟩
  have e1:(i+1)*n=c0.length+i*n:=by rw[hl,Zc,Zh,C6b]
  rw[e1,Zza,Zj,← Yp,Zl];simp[Vp]
def Rows.replicate {R:α→List Value→Prop} {x:α} {c:List Value} (h:R x c):∀ n,Rows R (List.replicate n x) (List.replicate n c).flatten
 |0=>by simp[Rows]
 |n+1=>⟨c,_,by simp[E4b],h,Rows.replicate h n⟩
def Rows.take {R:α→List Value→Prop} {n:Nat} (hn:∀ x c,R x c→c.length=n):∀ {xs:List α} {cs:List Value} (_:Rows R xs cs) (k:Nat),Rows R (xs.take k) (cs.take (k*n))
 |[],_,h,k=>by simp only[Rows]at h;subst h;simp[Rows]
 |_::_,_,⟨c,d,e,h1,h2⟩,0=>by simp[Rows]
 |_::_,_,⟨c,d,e,h1,h2⟩,k+1=>by
  subst e;have hl:=hn _ _ h1;refine⟨c,_,?_,h1,h2.take hn k⟩;rw[show (k+1)*n=c.length+k*n by rw[hl,Zc,Zh,C6b],Zza]
def Rows.drop {R:α→List Value→Prop} {n:Nat} (hn:∀ x c,R x c→c.length=n):∀ {xs:List α} {cs:List Value} (_:Rows R xs cs) (k:Nat),Rows R (xs.drop k) (cs.drop (k*n))
 |[],_,h,k=>by simp only[Rows]at h;subst h;simp[Rows]
 |_::_,_,h@⟨c,d,e,h1,h2⟩,0=>by simpa using h
 |_::_,_,⟨c,d,e,h1,h2⟩,k+1=>by
  subst e;have hl:=hn _ _ h1
  have e1:List.drop ((k+1)*n) (c++d)=List.drop (k*n) d:=by
   rw[show (k+1)*n=c.length+k*n by rw[hl,Zc,Zh,C6b],← Yp,Zl]
  rw[e1];exact h2.drop hn k
def Iu (P:Program) (G:Nat→Prop) (w:World):Lf→Value→Prop
 |.sc v,u=>u=v∧G1a v=true
 |.fz e r xs,u=>(Ty.sl e r).rep P G w xs [u]
 |_,_=>False
inductive Js {β γ:Type} (R:β→γ→Prop):List β→List γ→Prop
 |nil:Js R [] []
 |cons {x:β} {y:γ} {xs:List β} {ys:List γ}:R x y→Js R xs ys→Js R (x::xs) (y::ys)
def Js.append {β γ:Type} {R:β→γ→Prop} {xs xs':List β} {ys ys':List γ} (h:Js R xs ys) (h':Js R xs' ys'):Js R (xs++xs') (ys++ys'):=by
 induction h with
 |nil=>exact h'
 |cons a _ ih=>exact .cons a ih
def Js.len {β γ:Type} {R:β→γ→Prop} {xs:List β} {ys:List γ} (h:Js R xs ys):ys.length=xs.length:=by
 induction h with
 |nil=>rfl
 |cons _ _ ih=>simp[ih]
def Js.imp {β γ:Type} {R R':β→γ→Prop} {xs:List β} {ys:List γ} (h:Js R xs ys) (hi:∀ x y,R x y→R' x y):Js R' xs ys:=by
 induction h with
 |nil=>exact .nil
 |cons a _ ih=>exact .cons (hi _ _ a) ih
def Js.drop {β γ:Type} {R:β→γ→Prop} {xs:List β} {ys:List γ} (h:Js R xs ys):∀ n,Js R (xs.drop n) (ys.drop n):=by
 induction h with
 |nil=>intro n;cases n<;>exact .nil
 |cons a h ih=>intro n;cases n with
  |zero=>exact .cons a h
  |succ n=>exact ih n
def Js.take {β γ:Type} {R:β→γ→Prop} {xs:List β} {ys:List γ} (h:Js R xs ys):∀ n,Js R (xs.take n) (ys.take n):=by
 induction h with
 |nil=>intro n;cases n<;>exact .nil
 |cons a h ih=>intro n;cases n with
  |zero=>exact .nil
  |succ n=>exact .cons a (ih n)
def Xw:∀ (t:Ty) (x:t.den),(lvs t x).length=t.sz
 |.i _,_=>rfl
 |.b,_=>rfl
 |.s,_=>rfl
 |.sl _ _,_=>rfl
 |.ow _ _,_=>rfl
 |.pr x y,p=>by
  show (lvs x p.1++lvs y p.2).length=x.sz+y.sz;rw[Vi,Xw x p.1,Xw y p.2]
def Mi:∀ (t:Ty) (x:t.den) (vs:List Value),t.rep P G w x vs→Js (Iu P G w) (lvs t x) vs
 |.i _,_,_,h=>by subst h;exact .cons ⟨rfl,rfl⟩ .nil
 |.b,_,_,h=>by subst h;exact .cons ⟨rfl,rfl⟩ .nil
 |.s,_,_,h=>by subst h;exact .cons ⟨rfl,rfl⟩ .nil
 |.sl _ _,_,_,⟨_,e,h⟩=>by subst e;exact .cons ⟨_,rfl,h⟩ .nil
 |.ow _ _,_,_,⟨_,e,h⟩=>by subst e;exact .cons ⟨_,rfl,h⟩ .nil
 |.pr x y,p,_,⟨c,d,e,h1,h2⟩=>by subst e;exact(Mi x p.1 c h1).append (Mi y p.2 d h2)
def T5 {α β:Type} (h:α=β) (xs:List α):cast (congrArg List h) xs=xs.map (cast h):=by
 subst h;show xs=List.map (λ x=>x) xs;simp
def Rows.map {β:Type} {R:α→List Value→Prop} {R':β→List Value→Prop} {f:α→β} (hR:∀ x c,R x c→R' (f x) c):∀ {xs:List α} {cs:List Value},Rows R xs cs→Rows R' (xs.map f) cs
 |[],_,h=>h
 |_::_,_,⟨c,d,e,h1,h2⟩=>⟨c,d,e,hR _ _ h1,h2.map hR⟩
def Rows.unmap {β:Type} {R:α→List Value→Prop} {R':β→List Value→Prop} {f:α→β} (hR:∀ x c,R' (f x) c→R x c):∀ {xs:List α} {cs:List Value},Rows R' (xs.map f) cs→Rows R xs cs
 |[],_,h=>h
 |_::_,_,⟨c,d,e,h1,h2⟩=>⟨c,d,e,hR _ _ h1,h2.unmap hR⟩
def Jl:∀ t:Ty,(shp t).sz=t.sz
 |.i _=>rfl
 |.b=>rfl
 |.s=>rfl
 |.sl _ _=>rfl
 |.ow _ _=>rfl
 |.pr x y=>by show (shp x).sz+(shp y).sz=x.sz+y.sz;rw[Jl x,Jl y]
def Mh.map {β:Type} {R:α→List Value→Prop} {R':β→List Value→Prop} {f:α→β} {xs:List α} {v:Value} (hR:∀ x c,R x c↔R' (f x) c):Mh G w R xs v↔Mh G w R' (xs.map f) v:=by
 constructor
 ·rintro⟨a,cap,cs,e,hc,hr,hx⟩;exact⟨a,cap,cs,by rw[Wc];exact e,by rw[Wc];exact hc,hr.map (λ x c=>(hR x c).1),λ hn=>hx (by intro e;subst e;simp at hn)⟩
 ·rintro⟨a,cap,cs,e,hc,hr,hx⟩;rw[Wc]at e hc;exact⟨a,cap,cs,e,hc,hr.unmap (λ x c=>(hR x c).2),λ hn=>hx (by intro e;rw[List.map_eq_nil_iff]at e;exact hn e)⟩
def Pza {α α' β β':Type} (h1:α=α') (h2:β=β') (h:(α×β)=(α'×β')) (x:α×β):(cast h x).1=cast h1 x.1∧(cast h x).2=cast h2 x.2:=by
 subst h1 h2;exact⟨rfl,rfl⟩
def Qu:∀ (t:Ty) (x:t.den) (vs:List Value),t.rep P G w x vs↔(shp t).rep P G w (cast (Hf t).symm x) vs
 |.i _,_,_=>Ehb
 |.b,_,_=>Ehb
 |.s,_,_=>Ehb
 |.sl e r,xs,vs=>by
  have hc:cast (Hf (.sl e r)).symm xs=List.map (cast (Hf r).symm) xs:=T5 (Hf r).symm xs;rw[hc];show (∃ v,vs=[v]∧Uz P e r.sz∧Mh G w (λ x c=>r.rep P G w x c) xs v)↔(∃ v,vs=[v]∧Uz P e (shp r).sz∧Mh G w (λ x c=>(shp r).rep P G w x c) _ v);rw[Jl r];exact exists_congr λ v=>and_congr_right λ _=>and_congr_right λ _=>Mh.map (λ x c=>Qu r x c)
 |.ow e r,xs,vs=>by
  have hc:cast (Hf (.ow e r)).symm xs=List.map (cast (Hf r).symm) xs:=T5 (Hf r).symm xs;rw[hc];show (∃ v,vs=[v]∧Uz P e r.sz∧Mh G w (λ x c=>r.rep P G w x c) xs v)↔(∃ v,vs=[v]∧Uz P e (shp r).sz∧Mh G w (λ x c=>(shp r).rep P G w x c) _ v);rw[Jl r];exact exists_congr λ v=>and_congr_right λ _=>and_congr_right λ _=>Mh.map (λ x c=>Qu r x c)
 |.pr x y,p,vs=>by
  obtain⟨e1,e2⟩:=Pza (Hf x).symm (Hf y).symm (Hf (.pr x y)).symm p;show (∃ c d,vs=c++d∧x.rep P G w p.1 c∧y.rep P G w p.2 d)↔(∃ c d,vs=c++d∧(shp x).rep P G w (cast (Hf (.pr x y)).symm p).1 c∧(shp y).rep P G w (cast (Hf (.pr x y)).symm p).2 d)
  have key:∀ (q:(shp x).den×(shp y).den),q.1=cast (Hf x).symm p.1→q.2=cast (Hf y).symm p.2→((∃ c d,vs=c++d∧x.rep P G w p.1 c∧y.rep P G w p.2 d)↔∃ c d,vs=c++d∧(shp x).rep P G w q.1 c∧(shp y).rep P G w q.2 d):=by
   intro q h1 h2;rw[h1,h2];exact exists_congr λ c=>exists_congr λ d=>and_congr_right λ _=>and_congr (Qu x p.1 c) (Qu y p.2 d)
  exact key _ e1 e2
def Y1a {t u:Ty} (h:u=t) (h2:u.den=t.den) (x:u.den) (vs:List Value):u.rep P G w x vs↔t.rep P G w (cast h2 x) vs:=by
 subst h;exact Ehb
def Ksa {t u:Ty} (h:shp u=shp t) (x:u.den) (vs:List Value):u.rep P G w x vs↔t.rep P G w (cast (G0a h) x) vs:=by
 rw[Qu u x vs,Qu t _ vs,Y1a h (congrArg Ty.den h) _ vs];simp only[cast_cast]
def Qv {r r':Ty} {xs:List r'.den} {ys:List r.den} (h:Oz r r' xs=some ys):∃ e:shp r'=shp r,ys=xs.map (cast (G0a e)):=by
 unfold Oz at h;split at h
 ·rename_i e;simp only[Vc]at h;exact⟨e,by rw[← h];exact T5 (G0a e) xs⟩
 ·cases h
def W7 {r r':Ty} {xs:List r'.den} {ys:List r.den} {cs:List Value} (h:Oz r r' xs=some ys) (hr:Rows (λ x c=>r'.rep P G w x c) xs cs):Rows (λ x c=>r.rep P G w x c) ys cs∧ys.length=xs.length:=by
 obtain⟨e,rfl⟩:=Qv h;exact⟨hr.map (λ x c hx=>(Ksa e x c).1 hx),by rw[Wc]⟩
def Pt {r r':Ty} {e:TypeId} {xs:List r'.den} {ys:List r.den} {vs:List Value} (h:Oz r r' xs=some ys) (hr:(Ty.sl e r').rep P G w xs vs):(Ty.sl e r).rep P G w ys vs:=by
 obtain⟨e1,rfl⟩:=Qv h;obtain⟨v,ev,hs,hr⟩:=hr
 have hsz:r'.sz=r.sz:=by rw[← Jl r',e1,Jl r]
 exact⟨v,ev,by rw[← hsz];exact hs,(Mh.map (λ x c=>Ksa e1 x c)).1 hr⟩
def W8 {r r':Ty} {xs:List r'.den} {ys:List r.den} (h:S6 r r' xs=some ys):(∃ e:r'=r,ys=e ▸ xs)∨(shp r'=shp r∧xs=[]∧ys=[]):=by
 unfold S6 at h;split at h
 ·rename_i e;exact .inl ⟨e,by simpa using h.symm⟩
 ·split at h
  ·rename_i e;split at h
   ·simp only[Vc]at h;exact .inr ⟨e,rfl,h.symm⟩
   ·cases h
  ·cases h
def V4a:∀ (t:Ty) (l l':List Lf) (x:t.den) (us:List Value),mkT t l=some (x,l')→Js (Iu P G w) l us→
  ∃ vs ws,us=vs++ws∧t.rep P G w x vs∧Js (Iu P G w) l' ws:=by
 intro t
 induction t with
 |i k=>
  intro l l' x us h hl
  cases hl with
  |nil=>simp[mkT]at h
  |@cons y u ys us' hy hys=>
   cases y<;>first|(simp[mkT]at h;done)|skip
   rename_i v
   cases v<;>first|(simp[mkT]at h;done)|skip
   rename_i k' n;simp only[mkT]at h
   by_cases hk:k=k'
   ·subst hk;simp at h;obtain⟨rfl,rfl⟩:=h;exact⟨[u],us',rfl,by rw[hy.1];rfl,hys⟩
   ·simp[hk]at h
 |b=>
  intro l l' x us h hl
  cases hl with
  |nil=>simp[mkT]at h
  |@cons y u ys us' hy hys=>
   cases y<;>first|(simp[mkT]at h;done)|skip
   rename_i v
   cases v<;>first|(simp[mkT]at h;done)|skip
   simp[mkT]at h;obtain⟨rfl,rfl⟩:=h;exact⟨[u],us',rfl,by rw[hy.1];rfl,hys⟩
 |s=>
  intro l l' x us h hl
  cases hl with
  |nil=>simp[mkT]at h
  |@cons y u ys us' hy hys=>
   cases y<;>first|(simp[mkT]at h;done)|skip
   rename_i v
   cases v<;>first|(simp[mkT]at h;done)|skip
   simp[mkT]at h;obtain⟨rfl,rfl⟩:=h;exact⟨[u],us',rfl,by rw[hy.1];rfl,hys⟩
 |sl e r _=>
  intro l l' x us h hl
  cases hl with
  |nil=>simp[mkT]at h
  |@cons y u ys us' hy hys=>
   cases y<;>first|(simp[mkT]at h;done)|exact hy.elim|skip
   rename_i e' r' xs;simp only[mkT]at h;cases he:Nat.beq e e'
   ·rw[he]at h;simp at h
   rw[he]at h;simp only[cond_true]at h;split at h
   ·rename_i zs hz
    have:e=e':=by simpa using he
    subst this;simp at h;obtain⟨rfl,rfl⟩:=h;exact⟨[u],us',rfl,Pt hz hy,hys⟩
   ·cases h
 |ow e r _=>
  intro l l' x us h hl
  cases hl with
  |nil=>simp[mkT]at h
  |@cons y u ys us' hy hys=>
   cases y<;>first|(simp[mkT]at h;done)|exact hy.elim
 |pr x y ihx ihy=>
  intro l l' p us h hl;simp only[mkT]at h;split at h
  ·rename_i a l1 h1;split at h
   ·rename_i b l2 h2;simp at h;obtain⟨rfl,rfl⟩:=h;obtain⟨vs,ws,rfl,r1,hw1⟩:=ihx _ _ _ _ h1 hl;obtain⟨vs2,ws2,rfl,r2,hw2⟩:=ihy _ _ _ _ h2 hw1;exact⟨vs++vs2,ws2,by rw[Vp],⟨vs,vs2,rfl,r1,r2⟩,hw2⟩
   ·cases h
  ·cases h
def T6 {t:Ty} {l:List Lf} {x:t.den} {us:List Value} (h:mkW t l=some x) (hl:Js (Iu P G w) l us):t.rep P G w x us:=by
 unfold mkW at h;split at h
 ·rename_i y hy;simp at h;subst h;obtain⟨vs,ws,rfl,hr,hw⟩:=V4a _ _ _ _ _ hy hl;cases hw;rw[Yf];exact hr
 ·cases h
def Iu.mono {x:Lf} {u:Value} (h:Iu P G w x u) (hG:∀ k,G k→G' k) (hw:∀ k,G k→w'.heap[k]? = w.heap[k]?):Iu P G' w' x u:=by
 cases x<;>first|exact h|exact Ty.rep_mono hG hw _ _ _ h
end
def Ed {α:Type} (R:α→List Value→List Nat→Prop):List α→List Value→List Nat→Prop
 |[],cs,bs=>cs=[]∧bs=[]
 |x::xs,cs,bs=>∃ c d b1 b2,cs=c++d∧bs=b1++b2∧R x c b1∧Ed R xs d b2
def Ty.dep (P:Program) (G:Nat→Prop) (w:World):(t:Ty)→t.den→List Value→List Nat→Prop
 |.i k,n,vs,bs=>vs=[.int k n]∧bs=[]
 |.b,x,vs,bs=>vs=[.bool x]∧bs=[]
 |.s,x,vs,bs=>vs=[.string x]∧bs=[]
 |.sl e r,xs,vs,bs=>(Ty.sl e r).rep P G w xs vs∧bs=[]
 |.ow e r,xs,vs,bs=>∃ v cs b2,vs=[v]∧Uz P e r.sz∧w.ownsRow 0 e r.sz v xs.length cs∧Ed (λ x c b=>r.dep P G w x c b) xs cs b2∧bs=v.ownBlock.toList++b2
 |.pr x y,p,vs,bs=>∃ c d b1 b2,vs=c++d∧bs=b1++b2∧x.dep P G w p.1 c b1∧y.dep P G w p.2 d b2
section
variable {P:Program} {G G':Nat→Prop} {w w':World} {α:Type}
def Nd {w w':World} {e n m:Nat} {cs:List Value} {u:Value} (h:w.ownsRow 0 e n u m cs) (hk:∀ k,u.ownBlock=some k→w'.heap[k]? = w.heap[k]?):w'.ownsRow 0 e n u m cs:=by
 refine⟨h.1,?_⟩;rcases h.2 with hn|⟨g,cap,cur,rfl,hb,hg,rest⟩
 ·exact .inl hn
 ·exact .inr ⟨g,cap,cur,rfl,hb,(hk g rfl).trans hg,rest⟩
def F9 {w:World} {e n m:Nat} {cs:List Value} {u:Value} (h:w.ownsRow 0 e n u m cs):
  (u = .slice none 0 0∧m=0∧cs=[])∨∃ k cap cur,u = .slice (some ⟨k,0,none⟩) m cap∧w.heap[k]? = some (.cells cur e (0,0))∧m≤cap∧cap≤maxLen∧cur.size=cap*n∧cur.toList.take (m*n)=cs:=by
 rcases h.2 with⟨e1,e2⟩|⟨k,cap,cur,e1,_,e2,e3,e4,e5,e6⟩
 ·refine .inl ⟨e1,e2,?_⟩;have:=h.1;rw[e2,Czb]at this;exact Wk this
 ·exact .inr ⟨k,cap,cur,e1,e2,e3,e4,e5,e6⟩
def Ia {w:World} {k:Nat} {cur:Array Value} {e:TypeId} {f:Nat×Nat} {cs:List Value} {n:Nat} (h:w.heap[k]? = some (.cells cur e f)) (ht:cur.toList.take n=cs):Ec w k 0 cs:=by
 intro j u hu;subst ht;rw[Wp]at hu;split at hu
 ·simp[World.cell?,h]
  simpa using hu
 ·cases hu
def Ed.mono {R R':α→List Value→List Nat→Prop}:∀ {xs:List α} {cs:List Value} {bs:List Nat},(∀ x c b,(∀ k∈b,k∈bs)→R x c b→R' x c b)→Ed R xs cs bs→Ed R' xs cs bs
 |[],_,_,_,h=>h
 |_::_,_,_,hR,⟨c,d,b1,b2,e1,e2,h1,h2⟩=>⟨c,d,b1,b2,e1,e2,hR _ _ _ (λ k hk=>by rw[e2];exact Vx _ hk) h1,h2.mono (λ x c b hb h=>hR x c b (λ k hk=>by rw[e2];exact Vo _ (hb k hk)) h)⟩
def Ty.dep_mono (hG:∀ k,G k→G' k) (hw:∀ k,G k→w'.heap[k]? = w.heap[k]?):∀ (t:Ty) (x:t.den) (vs:List Value) (bs:List Nat),(∀ k∈bs,w'.heap[k]? = w.heap[k]?)→t.dep P G w x vs bs→t.dep P G' w' x vs bs
 |.i _,_,_,_,_,h=>h
 |.b,_,_,_,_,h=>h
 |.s,_,_,_,_,h=>h
 |.sl e r,xs,vs,_,_,⟨h,hb⟩=>⟨Ty.rep_mono hG hw (.sl e r) xs vs h,hb⟩
 |.ow _ r,_,_,bs,hb,⟨v,cs,b2,e,hs,ho,hd,eb⟩=>⟨v,cs,b2,e,hs,Nd ho (λ k hk=>hb k (by rw[eb,hk];simp)),hd.mono (λ x c b hbb h=>Ty.dep_mono hG hw r x c b (λ k hk=>hb k (by rw[eb];exact Vo _ (hbb k hk))) h),eb⟩
 |.pr x y,p,_,bs,hb,⟨c,d,b1,b2,e,eb,h1,h2⟩=>⟨c,d,b1,b2,e,eb,Ty.dep_mono hG hw x p.1 c b1 (λ k hk=>hb k (by rw[eb];exact Vx _ hk)) h1,Ty.dep_mono hG hw y p.2 d b2 (λ k hk=>hb k (by rw[eb];exact Vo _ hk)) h2⟩
def Ed.rows {R:α→List Value→List Nat→Prop} {R':α→List Value→Prop}:∀ {xs:List α} {cs:List Value} {bs:List Nat},(∀ x c b,(∀ k∈b,k∈bs)→R x c b→R' x c)→Ed R xs cs bs→Rows R' xs cs
 |[],_,_,_,h=>h.1
 |_::_,_,_,hR,⟨c,d,b1,b2,e1,e2,h1,h2⟩=>⟨c,d,e1,hR _ _ _ (λ k hk=>by rw[e2];exact Vx _ hk) h1,h2.rows (λ x c b hb h=>hR x c b (λ k hk=>by rw[e2];exact Vo _ (hb k hk)) h)⟩
def Ty.dep_rep (hG:∀ k,G k→G' k):∀ (t:Ty) (x:t.den) (vs:List Value) (bs:List Nat),(∀ k∈bs,G' k)→t.dep P G w x vs bs→t.rep P G' w x vs
 |.i _,_,_,_,_,h=>h.1
 |.b,_,_,_,_,h=>h.1
 |.s,_,_,_,_,h=>h.1
 |.sl e r,xs,vs,_,_,⟨h,_⟩=>Ty.rep_mono hG (λ _ _=>rfl) (.sl e r) xs vs h
 |.ow e r,xs,_,bs,hb,⟨v,cs,b2,ev,hs,ho,hd,eb⟩=>by
  have hr:Rows (λ x c=>r.rep P G' w x c) xs cs:=hd.rows (λ x c b hbb h=>Ty.dep_rep hG r x c b (λ k hk=>hb k (by rw[eb];exact Vo _ (hbb k hk))) h);refine⟨v,ev,hs,?_⟩;rcases F9 ho with⟨rfl,hm,rfl⟩|⟨k,cap,cur,rfl,hg,hc,_,_,ht⟩
  ·refine⟨none,0,[],?_,by omega,hr,λ hn=>?_⟩
   ·rw[hm]
   ·exact absurd (Wk hm) hn
  ·exact⟨_,cap,cs,rfl,hc,hr,λ _=>⟨k,0,rfl,hb k (by rw[eb];simp[Value.ownBlock]),Ia hg ht⟩⟩
 |.pr x y,p,_,bs,hb,⟨c,d,b1,b2,e,eb,h1,h2⟩=>⟨c,d,e,Ty.dep_rep hG x p.1 c b1 (λ k hk=>hb k (by rw[eb];exact Vx _ hk)) h1,Ty.dep_rep hG y p.2 d b2 (λ k hk=>hb k (by rw[eb];exact Vo _ hk)) h2⟩
def Ty.dep_flat:∀ (t:Ty) (x:t.den) (vs:List Value) (bs:List Nat),J6 t=true→(t.dep P G w x vs bs↔t.rep P G w x vs∧bs=[])
 |.i _,_,_,_,_=>Ehb
 |.b,_,_,_,_=>Ehb
 |.s,_,_,_,_=>Ehb
 |.sl _ _,_,_,_,_=>Ehb
 |.ow _ _,_,_,_,h=>by simp[J6]at h
 |.pr x y,p,vs,bs,h=>by
  simp only[J6,Va]at h;constructor
  ·rintro⟨c,d,b1,b2,e,eb,h1,h2⟩;obtain⟨r1,rfl⟩:=(Ty.dep_flat x p.1 c b1 h.1).1 h1;obtain⟨r2,rfl⟩:=(Ty.dep_flat y p.2 d b2 h.2).1 h2;exact⟨⟨c,d,e,r1,r2⟩,eb⟩
  ·rintro⟨⟨c,d,e,r1,r2⟩,rfl⟩;exact⟨c,d,[],[],e,rfl,(Ty.dep_flat x p.1 c [] h.1).2 ⟨r1,rfl⟩,(Ty.dep_flat y p.2 d [] h.2).2 ⟨r2,rfl⟩⟩
def Ed.flat {R:α→List Value→List Nat→Prop} {R':α→List Value→Prop} (hR:∀ x c b,R x c b↔R' x c∧b=[]):∀ {xs:List α} {cs:List Value} {bs:List Nat},Ed R xs cs bs↔Rows R' xs cs∧bs=[]
 |[],_,_=>Ehb
 |x::xs,cs,bs=>by
  constructor
  ·rintro⟨c,d,b1,b2,e,eb,h1,h2⟩;obtain⟨r1,rfl⟩:=(hR x c b1).1 h1;obtain⟨r2,rfl⟩:=(Ed.flat hR).1 h2;exact⟨⟨c,d,e,r1,r2⟩,eb⟩
  ·rintro⟨⟨c,d,e,r1,r2⟩,rfl⟩;exact⟨c,d,[],[],e,rfl,(hR x c []).2 ⟨r1,rfl⟩,(Ed.flat hR).2 ⟨r2,rfl⟩⟩
def Ty.dep_len:∀ (t:Ty) (x:t.den) (vs:List Value) (bs:List Nat),t.dep P G w x vs bs→vs.length=t.sz
 |.i _,_,_,_,h=>by obtain⟨rfl,_⟩:=h;rfl
 |.b,_,_,_,h=>by obtain⟨rfl,_⟩:=h;rfl
 |.s,_,_,_,h=>by obtain⟨rfl,_⟩:=h;rfl
 |.sl e r,xs,vs,_,h=>Ty.rep_len (.sl e r) xs vs h.1
 |.ow _ _,_,_,_,⟨_,_,_,e,_⟩=>by subst e;rfl
 |.pr x y,p,_,_,⟨c,d,b1,b2,e,_,h1,h2⟩=>by
  subst e;rw[Vi,Ty.dep_len x p.1 c b1 h1,Ty.dep_len y p.2 d b2 h2];rfl
def Ed.len {R:α→List Value→List Nat→Prop} {n:Nat} (hn:∀ x c b,R x c b→c.length=n):∀ {xs:List α} {cs:List Value} {bs:List Nat},Ed R xs cs bs→cs.length=xs.length*n
 |[],_,_,h=>by obtain⟨rfl,_⟩:=h;simp
 |_::_,_,_,⟨c,d,b1,b2,e,_,h1,h2⟩=>by
  subst e;rw[Vi,hn _ _ _ h1,h2.len hn,Vh,Zc,Zh,C6b]
def Ed.take {R:α→List Value→List Nat→Prop} {n:Nat} (hn:∀ x c b,R x c b→c.length=n):∀ {xs:List α} {cs:List Value} {bs:List Nat} (_:Ed R xs cs bs) (k:Nat),∃ b',Ed R (xs.take k) (cs.take (k*n)) b'∧b'.Sublist bs
 |[],_,_,h,k=>by obtain⟨rfl,rfl⟩:=h;exact⟨[],by simp[Ed],Drb _⟩
 |_::_,_,_,⟨c,d,b1,b2,e,eb,h1,h2⟩,0=>⟨[],by simp[Ed],List.nil_sublist _⟩
 |_::_,_,_,⟨c,d,b1,b2,e,eb,h1,h2⟩,k+1=>by
  subst e eb;have hl:=hn _ _ _ h1;obtain⟨b',h3,h4⟩:=h2.take hn k;refine⟨b1++b',⟨c,_,b1,b',?_,rfl,h1,h3⟩,(Drb b1).append h4⟩;rw[show (k+1)*n=c.length+k*n by rw[hl,Zc,Zh,C6b],Zza]
def Ed.drop {R:α→List Value→List Nat→Prop} {n:Nat} (hn:∀ x c b,R x c b→c.length=n):∀ {xs:List α} {cs:List Value} {bs:List Nat} (_:Ed R xs cs bs) (k:Nat),∃ b',Ed R (xs.drop k) (cs.drop (k*n)) b'∧b'.Sublist bs
 |[],_,_,h,k=>by obtain⟨rfl,rfl⟩:=h;exact⟨[],by simp[Ed],Drb _⟩
 |x::xs,cs,bs,h@⟨c,d,b1,b2,e,eb,h1,h2⟩,0=>⟨bs,by simpa using h,Drb _⟩
 |_::_,_,_,⟨c,d,b1,b2,e,eb,h1,h2⟩,k+1=>by
  subst e eb;have hl:=hn _ _ _ h1;obtain⟨b',h3,h4⟩:=h2.drop hn k;refine⟨b',?_,h4.trans (Cob b1 b2)⟩
  have e1:List.drop ((k+1)*n) (c++d)=List.drop (k*n) d:=by
   rw[show (k+1)*n=c.length+k*n by rw[hl,Zc,Zh,C6b],← Yp,Zl]
  rw[e1];exact h3
def Ed.append {R:α→List Value→List Nat→Prop}:∀ {xs ys:List α} {cs ds:List Value} {bs es:List Nat},Ed R xs cs bs→Ed R ys ds es→Ed R (xs++ys) (cs++ds) (bs++es)
 |[],_,_,_,_,_,h1,h2=>by obtain⟨rfl,rfl⟩:=h1;exact h2
 |_::_,_,_,_,_,_,⟨c,d,b1,b2,e,eb,h,h'⟩,h2=>by subst e eb;exact⟨c,_,b1,_,by rw[Vp],by rw[Vp],h,h'.append h2⟩
def Ed.get {R:α→List Value→List Nat→Prop} {n:Nat} (hn:∀ x c b,R x c b→c.length=n):∀ {xs:List α} {cs:List Value} {bs:List Nat} (_:Ed R xs cs bs) (i:Nat) (x:α),xs[i]? = some x→∃ b,R x ((cs.drop (i*n)).take n) b∧b.Sublist bs
 |[],_,_,_,i,x,hx=>by simp at hx
 |y::ys,_,_,⟨c,d,b1,b2,e,eb,h1,h2⟩,0,x,hx=>by
  simp at hx;subst hx e eb;have:=hn _ _ _ h1;simp only[Czb,Zf];rw[← this,Dab];exact⟨b1,h1,Dhb b1 b2⟩
 |y::ys,_,_,⟨c,d,b1,b2,e,eb,h1,h2⟩,i+1,x,hx=>by
  subst e eb;have hl:=hn _ _ _ h1;rw[show (i+1)*n=c.length+i*n by rw[hl,Zc,Zh,C6b],← Yp,Zl];obtain⟨b,h3,h4⟩:=h2.get hn i x (by simpa using hx);exact⟨b,h3,h4.trans (Cob b1 b2)⟩
def Ty.dep_all:∀ (t:Ty) (x:t.den) (vs:List Value) (bs:List Nat),Gk t=true→(∀ k∈bs,w'.heap[k]? = w.heap[k]?)→t.dep P G w x vs bs→t.dep P G' w' x vs bs
 |.i _,_,_,_,_,_,h=>h
 |.b,_,_,_,_,_,h=>h
 |.s,_,_,_,_,_,h=>h
 |.sl _ _,_,_,_,h,_,_=>by simp[Gk]at h
 |.ow _ r,_,_,bs,ha,hb,⟨v,cs,b2,e,hs,ho,hd,eb⟩=>⟨v,cs,b2,e,hs,Nd ho (λ k hk=>hb k (by rw[eb,hk];simp)),hd.mono (λ x c b hbb h=>Ty.dep_all r x c b ha (λ k hk=>hb k (by rw[eb];exact Vo _ (hbb k hk))) h),eb⟩
 |.pr x y,p,_,bs,ha,hb,⟨c,d,b1,b2,e,eb,h1,h2⟩=>by
  simp only[Gk,Va]at ha;exact⟨c,d,b1,b2,e,eb,Ty.dep_all x p.1 c b1 ha.1 (λ k hk=>hb k (by rw[eb];exact Vx _ hk)) h1,Ty.dep_all y p.2 d b2 ha.2 (λ k hk=>hb k (by rw[eb];exact Vo _ hk)) h2⟩
end

end Go.Proofs.YtcpligincipmhaaGreat.Vf
