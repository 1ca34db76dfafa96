import Derived.Test.YtcpligincipmhaaMaa
import Derived.Laws.AppendOwn
import Derived.Laws.Cells
import Derived.Laws.World
set_option linter.all false
namespace Go.Proofs.Ytcpligincipmhaa.Vf
open Go
open List (length getD)
open Int (toNat)
open Go.IntKind (wrap)
open BitVec (ofInt)
def Va:=@Bool.and_eq_true
def Vc:=@Option.some.injEq
def Vh:=@List.length_cons
def Vi:=@List.length_append
def Vn:=@List.mem_append_right
def Vo:=@List.append_assoc
def Vy:=@List.mem_append_left
def Vz:=@List.length_map
def Wg:=@Nat.zero_add
def Wk:=@List.eq_nil_of_length_eq_zero
def Wl:=@List.nil_append
def Wm:=@List.getElem?_take
def Yc:=@List.append_nil
def Ym:=@List.drop_drop
def Yu:=@List.drop_zero
def Zb:=@Nat.add_mul
def Zh:=@Nat.one_mul
def Zk:=@Nat.add_assoc
def Zm:=@List.drop_left
def Zy:=@List.take_length_add_append
def B4b:=@Nat.add_comm
def B7b:=@List.take_zero
def Bkb:=@List.sublist_append_right
def Btb:=@Nat.zero_mul
def C5b:=@List.take_left
def Cdb:=@List.sublist_append_left
def Cob:=@List.Sublist.refl
def D4b:=@List.replicate_succ
def Deb:=@Iff.rfl

abbrev y0:=(Int×Int×Int)
abbrev y1:=((List Int)×Int×Int)
abbrev y2:=(ByteArray×(List Int))
abbrev y3:=(Int×(List (List Int)))
abbrev y4:=((List Int)×Int×Bool)
abbrev y5:=(y0×Bool×(List Int))
abbrev y6:=(ByteArray×y0×Bool×Int)
abbrev y7:=(ByteArray×y5×Bool)
abbrev y8:=((List y2)×(List y2))
abbrev y9:=(Int×y8×(List y6)×(List y6))
abbrev y10:=((List y0)×y3×(List y9)×y0×(List y7)×(List ByteArray))
def J0 (a0:List Int):Option (Bool):=some (decide ((length a0:Int) > 1048576))
def Ev:Nat→(List Int)→Int→Int→Option ((List Int)×Int)
 |0,_,_,_=>none
 |k+1,b,d,c=>cond (decide (c<(length b:Int))) (cond (decide (c<4000)) (cond (decide ((0:Int)≤c)) (cond (decide (c<(length b:Int))) (Ev k b (wrap .i64 ((ofInt (IntKind.bits .i64) (wrap .i64 ((wrap .i64 ((wrap .i64 (d*137))+(wrap .i64 (getD b (toNat c) (0:Int)))))+11)) &&& ofInt (IntKind.bits .i64) 1073741823).toNat)) (wrap .i64 (c+1))) none) none) (some (b,d))) (some (b,d))
def Ge (k:Nat) (a0:List Int):Option y1:=(Ev k a0 (wrap .i64 (378378+(length a0:Int))) 0).bind λ r1=>some (r1.1,0,r1.2)
def Ew (a0:y1):Option (Int×y1):=cond (decide (a0.2.1<(length a0.1:Int))) (cond (decide ((0:Int)≤a0.2.1)) (cond (decide (a0.2.1<(length a0.1:Int))) (some (wrap .i64 ((ofInt (IntKind.bits .i64) (wrap .i64 ((wrap .i64 ((ofInt (IntKind.bits .i64) (wrap .i64 ((ofInt (IntKind.bits .i64) (Int.fdiv (wrap .i64 ((wrap .i64 (a0.2.2*6364136223846793005))+1442695040888963407)) (2 ^ (min (toNat 33) (IntKind.bits .i64)))) ^^^ ofInt (IntKind.bits .i64) (Int.fdiv (wrap .i64 ((wrap .i64 (a0.2.2*6364136223846793005))+1442695040888963407)) (2 ^ (min (toNat 47) (IntKind.bits .i64))))).toNat)) &&& ofInt (IntKind.bits .i64) 255).toNat))+(wrap .i64 (getD a0.1 (toNat a0.2.1) (0:Int))))) &&& ofInt (IntKind.bits .i64) 255).toNat),(a0.1,wrap .i64 (a0.2.1+1),wrap .i64 ((wrap .i64 (a0.2.2*6364136223846793005))+1442695040888963407)))) none) none) (some (wrap .i64 ((ofInt (IntKind.bits .i64) (wrap .i64 ((ofInt (IntKind.bits .i64) (Int.fdiv (wrap .i64 ((wrap .i64 (a0.2.2*6364136223846793005))+1442695040888963407)) (2 ^ (min (toNat 33) (IntKind.bits .i64)))) ^^^ ofInt (IntKind.bits .i64) (Int.fdiv (wrap .i64 ((wrap .i64 (a0.2.2*6364136223846793005))+1442695040888963407)) (2 ^ (min (toNat 47) (IntKind.bits .i64))))).toNat)) &&& ofInt (IntKind.bits .i64) 255).toNat),(a0.1,a0.2.1,wrap .i64 ((wrap .i64 (a0.2.2*6364136223846793005))+1442695040888963407))))
def Dc (a0:y1) (a1:Int):Option (Int×y1):=cond (decide (a1≤0)) (some (0,a0)) (cond (decide (a1≤256)) ((Ew a0).bind λ r1=>cond (decide (a1=0)) none (some (Int.tmod r1.1 a1,r1.2))) ((Ew a0).bind λ r2=>(Ew r2.2).bind λ r3=>(Ew r3.2).bind λ r4=>cond (decide (a1=0)) none (some (Int.tmod (wrap .i64 ((wrap .i64 ((wrap .i64 (r2.1*65536))+(wrap .i64 (r3.1*256))))+r4.1)) a1,r4.2))))
def Fg (a0:y1) (a1:List Int):Option (Int×y1):=(Dc a0 (length a1:Int)).bind λ r1=>cond (decide ((0:Int)≤r1.1)) (cond (decide (r1.1<(length a1:Int))) (some ((getD a1 (toNat r1.1) (0:Int)),r1.2)) none) none
def E7:Nat→(List y0)→Int→Int→Int→y1→Option ((List y0)×y1)
 |0,_,_,_,_,_=>none
 |k+1,b,d,c,e,f=>cond (decide (e > 0)) ((Fg f [1,1,2]).bind λ r1=>(Dc r1.2 d).bind λ r2=>(Fg r2.2 [1,1,1,2,10,100]).bind λ r3=>cond (Nat.ble ((length b+length [(wrap .i64 (c+r1.1),r2.1,r3.1)])*24) 140737488355328) (E7 k (b++[(wrap .i64 (c+r1.1),r2.1,r3.1)]) d (wrap .i64 (c+r1.1)) (wrap .i64 (e-1)) r3.2) none) (some (b,f))
def Dy (k:Nat) (a0:y1):Option ((List y0)×y1):=(Dc a0 4).bind λ r1=>(Dc r1.2 5).bind λ r2=>(E7 k ([]:List y0) (wrap .i64 (1+r1.1)) 0 (wrap .i64 (2+r2.1)) r2.2).bind λ r3=>some (r3.1,r3.2)
def Cd:Nat→(List y0)→Int→Int→Option (List y0)
 |0,_,_,_=>none
 |k+1,c,d,b=>cond (decide (b<(length c:Int))) (cond (decide ((0:Int)≤b)) (cond (decide (b<(length c:Int))) (let v1:=getD c (toNat b) ((0:Int),((0:Int),(0:Int)));let v2:=List.set c (toNat b) (v1.1,3,v1.2.2);cond (decide ((0:Int)≤b)) (cond (decide (b<(length v2:Int))) (let v3:=getD v2 (toNat b) ((0:Int),((0:Int),(0:Int)));Cd k (List.set v2 (toNat b) (v3.1,v3.2.1,d)) d (wrap .i64 (b+1))) none) none) none) none) (some c)
def Bs (k:Nat) (a0:List Int):Option (List y0):=(Ge k a0).bind λ r1=>(Dy k r1).bind λ r2=>(Fg r2.2 [1,7,1000]).bind λ r3=>(Cd k r2.1 r3.1 0).bind λ r4=>some r4
def Bu (a0:Int) (a1:Int) (a2:Int):Option (Bool):=cond (decide (a0≥a1)) (some (decide (a0≤a2))) (some false)
def Dp:Nat→(List y0)→(List y0)→Int→Int→Option (Sum (Bool) (List y0))
 |0,_,_,_,_=>none
 |k+1,c,d,e,b=>cond (decide (b<e)) (cond (decide ((0:Int)≤b)) (cond (decide (b<(length d:Int))) (let v1:=getD d (toNat b) ((0:Int),((0:Int),(0:Int)));(Bu v1.1 0 20).bind λ r2=>cond (!r2) (some (.inl false)) ((Bu v1.2.1 0 20).bind λ r3=>cond (!r3) (some (.inl false)) ((Bu v1.2.2 1 1000).bind λ r4=>cond (!r4) (some (.inl false)) (cond (decide (b > 0)) (cond (decide ((0:Int)≤wrap .i64 (b-1))) (cond (decide (wrap .i64 (b-1)<(length c:Int))) (cond (decide ((getD c (toNat (wrap .i64 (b-1))) ((0:Int),((0:Int),(0:Int)))).1≥v1.1)) (some (.inl false)) (Dp k c d e (wrap .i64 (b+1)))) none) none) (Dp k c d e (wrap .i64 (b+1))))))) none) none) (some (.inr c))
def Bv (k:Nat) (a0:List y0):Option (Bool):=(Dp k a0 a0 (length a0:Int) 0).bind λ r1=>Sum.elim (λ y2=>some y2) (λ z3=>(Bu (length z3:Int) 1 12).bind λ r4=>some r4) r1
def E8:Nat→Int→(List Int)→Int→Int→Option (Sum (Bool) (Unit))
 |0,_,_,_,_=>none
 |k+1,d,c,e,b=>cond (decide (b<e)) (cond (decide ((0:Int)≤b)) (cond (decide (b<(length c:Int))) (cond ((getD c (toNat b) (0:Int))==d) (some (.inl true)) (E8 k d c e (wrap .i64 (b+1)))) none) none) (some (.inr ()))
def B9 (k:Nat) (a0:List Int) (a1:Int):Option (Bool):=(E8 k a1 a0 (length a0:Int) 0).bind λ r1=>Sum.elim (λ y2=>some y2) (λ z3=>some false) r1
def Ey:Nat→Int→(List y0)→Int→Int→y0→Option (Sum (Bool×y0) y0)
 |0,_,_,_,_,_=>none
 |k+1,d,c,e,b,f=>cond (decide (b<e)) (cond (decide ((0:Int)≤b)) (cond (decide (b<(length c:Int))) (let v1:=getD c (toNat b) ((0:Int),((0:Int),(0:Int)));cond (v1.1==d) (some (.inl (true,v1))) (Ey k d c e (wrap .i64 (b+1)) f)) none) none) (some (.inr f))
def Fh (k:Nat) (a0:List y0) (a1:Int):Option (y0×Bool):=(Ey k a1 a0 (length a0:Int) 0 (0,0,0)).bind λ r1=>Sum.elim (λ y2=>some (y2.2,y2.1)) (λ z3=>some ((0,0,0),false)) r1
def Ce:Nat→(List y0)→(List Int)→(List Int)→Int→Int→Option (List Int)
 |0,_,_,_,_,_=>none
 |k+1,e,c,d,f,b=>cond (decide (b<f)) (cond (decide ((0:Int)≤b)) (cond (decide (b<(length d:Int))) ((Fh k e (getD d (toNat b) (0:Int))).bind λ r2=>cond r2.2 ((B9 k c r2.1.2.1).bind λ r3=>cond (!r3) (cond (Nat.ble ((length c+length [r2.1.2.1])*8) 140737488355328) (Ce k e (c++[r2.1.2.1]) d f (wrap .i64 (b+1))) none) (Ce k e c d f (wrap .i64 (b+1)))) (Ce k e c d f (wrap .i64 (b+1)))) none) none) (some c)
def C3 (k:Nat) (a0:List Int) (a1:List y0):Option (List Int):=(Ce k a1 ([]:List Int) a0 (length a0:Int) 0).bind λ r1=>some r1
def Dq:Nat→Int→Int→(List (List Int))→Int→Int→(List Int)→Int→Int→Option (Int×Int×(List (List Int))×Int×Int)
 |0,_,_,_,_,_,_,_,_=>none
 |k+1,c,e,f,g,h,d,i,b=>cond (decide (b<i)) (cond (decide ((0:Int)≤b)) (cond (decide (b<(length d:Int))) (cond ((getD d (toNat b) (0:Int))==c) (Dq k c (wrap .i64 (e+1)) f g h d i (wrap .i64 (b+1))) (Dq k c e f g h d i (wrap .i64 (b+1)))) none) none) (some (c,e,f,g,h))
def E9:Nat→Int→Int→(List (List Int))→Int→Int→Option (Int)
 |0,_,_,_,_,_=>none
 |k+1,f,d,c,e,b=>cond (decide (b<e)) (cond (decide ((0:Int)≤b)) (cond (decide (b<(length c:Int))) (let v1:=getD c (toNat b) [];(Dq k f d c e b v1 (length v1:Int) 0).bind λ r2=>E9 k r2.1 r2.2.1 r2.2.2.1 r2.2.2.2.1 (wrap .i64 (r2.2.2.2.2+1))) none) none) (some d)
def Fi (k:Nat) (a0:y3) (a1:Int):Option (Int):=(E9 k a1 0 a0.2 (length a0.2:Int) 0).bind λ r1=>some r1
def Ba:Nat→(List Int)→Int→Bool→(List y0)→Int→Int→y3→(List Int)→y0→Option y0
 |0,_,_,_,_,_,_,_,_,_=>none
 |k+1,d,j,i,c,e,b,f,g,h=>cond (decide (b<e)) (cond (decide ((0:Int)≤b)) (cond (decide (b<(length c:Int))) (let v1:=getD c (toNat b) ((0:Int),((0:Int),(0:Int)));(B9 k g v1.1).bind λ r2=>cond r2 (Ba k d j i c e (wrap .i64 (b+1)) f g h) ((Fi k f v1.1).bind λ r3=>(B9 k d v1.2.1).bind λ r4=>cond (decide (h.1<0)) (Ba k d (wrap .i64 (r3+1)) (!r4) c e (wrap .i64 (b+1)) f g v1) (cond (!r4) (cond (!i) (Ba k d (wrap .i64 (r3+1)) (!r4) c e (wrap .i64 (b+1)) f g v1) (cond ((!r4)==i) (cond (decide ((wrap .i64 ((wrap .i64 (r3+1))*h.2.2))<(wrap .i64 (j*v1.2.2)))) (Ba k d (wrap .i64 (r3+1)) (!r4) c e (wrap .i64 (b+1)) f g v1) (Ba k d j i c e (wrap .i64 (b+1)) f g h)) (Ba k d j i c e (wrap .i64 (b+1)) f g h))) (cond ((!r4)==i) (cond (decide ((wrap .i64 ((wrap .i64 (r3+1))*h.2.2))<(wrap .i64 (j*v1.2.2)))) (Ba k d (wrap .i64 (r3+1)) (!r4) c e (wrap .i64 (b+1)) f g v1) (Ba k d j i c e (wrap .i64 (b+1)) f g h)) (Ba k d j i c e (wrap .i64 (b+1)) f g h))))) none) none) (some h)
def G3 (k:Nat) (a0:y3) (a1:List Int) (a2:List y0):Option (Int):=(Bv k a2).bind λ r1=>cond (!r1) (some (-1)) ((C3 k a1 a2).bind λ r2=>(Ba k r2 0 false a2 (length a2:Int) 0 a0 a1 ((-1),0,0)).bind λ r3=>some r3.1)
def Ez:Nat→(List y0)→Int→Int→Int→Int→Int→Int→y3→y3→Option ((List y0)×Int×Int×Int×y3×y3)
 |0,_,_,_,_,_,_,_,_,_=>none
 |k+1,d,e,b,f,g,h,i,j,c=>cond (decide (i<h)) (cond (decide ((0:Int)≤b)) (cond (decide (b<(length c.2:Int))) ((G3 k c (getD c.2 (toNat b) []) d).bind λ r2=>cond (decide ((0:Int)≤b)) (cond (decide (b<(length c.2:Int))) (let v3:=getD c.2 (toNat b) [];cond (Nat.ble ((length v3+length [r2])*8) 140737488355328) (Ez k d e b f g h (wrap .i64 (i+1)) j (c.1,(List.set c.2 (toNat b) (v3++[r2])))) none) none) none) none) none) (some (d,e,f,g,j,c))
def F3:Nat→(List y0)→Int→Int→Int→y3→y3→Option (y3×y3)
 |0,_,_,_,_,_,_=>none
 |k+1,g,d,e,c,f,b=>cond (decide (c<e)) (cond (Nat.ble ((length b.2+length [([]:List Int)])*24) 140737488355328) ((Ez k g d c e c d 0 f (b.1,(b.2++[([]:List Int)]))).bind λ r2=>F3 k r2.1 r2.2.1 r2.2.2.1 (wrap .i64 (r2.2.2.2.1+1)) r2.2.2.2.2.1 r2.2.2.2.2.2) none) (some (f,b))
def E5 (k:Nat) (a0:List y0) (a1:Int) (a2:Int):Option (y3×Bool):=(Bv k a0).bind λ r1=>cond (!r1) (some ((0,([]:List (List Int))),false)) ((Bu a1 1 64).bind λ r2=>cond (!r2) (some ((0,([]:List (List Int))),false)) ((Bu a2 1 5).bind λ r3=>cond (!r3) (some ((0,([]:List (List Int))),false)) (cond (decide ((length a0:Int)<a2)) (some ((0,([]:List (List Int))),false)) ((F3 k a0 a2 a1 0 (0,([]:List (List Int))) (a2,([]:List (List Int)))).bind λ r4=>some (r4.2,true)))))
def Fm (a0:Int):Option y9:=(Bu a0 0 20).bind λ r1=>cond (!r1) (some (0,(([]:List y2),([]:List y2)),([]:List y6),([]:List y6))) (some (a0,(([]:List y2),([]:List y2)),([]:List y6),([]:List y6)))
def Cz:Nat→(List y0)→Int→Int→y10→y10→Option (y10×y10)
 |0,_,_,_,_,_=>none
 |k+1,d,e,c,f,b=>cond (decide (c<e)) (cond (decide ((0:Int)≤c)) (cond (decide (c<(length d:Int))) ((Fm (getD d (toNat c) ((0:Int),((0:Int),(0:Int)))).1).bind λ r2=>cond (Nat.ble ((length b.2.2.1+length [r2])*104) 140737488355328) (Cz k d e (wrap .i64 (c+1)) f (b.1,b.2.1,b.2.2.1++[r2],b.2.2.2)) none) none) none) (some (f,b))
def Ca (k:Nat) (a0:List y0) (a1:Int) (a2:Int):Option y10:=(E5 k a0 a1 a2).bind λ r1=>cond (!r1.2) (some (([]:List y0),(0,([]:List (List Int))),([]:List y9),(0,0,0),([]:List y7),([]:List ByteArray))) (cond (Nat.ble ((length ([]:List y0)+length a0)*24) 140737488355328) ((Cz k a0 (length a0:Int) 0 (([]:List y0),(0,([]:List (List Int))),([]:List y9),(0,0,0),([]:List y7),([]:List ByteArray)) ((([]:List y0)++a0),r1.1,([]:List y9),(0,0,0),([]:List y7),([]:List ByteArray))).bind λ r3=>some r3.2) none)
def Dh (a0:List Int):Option (List Int):=cond (Nat.ble ((length ([]:List Int)+length a0)*8) 140737488355328) (some (([]:List Int)++a0)) none
def D0:Nat→(List (List Int))→Int→Int→y3→y3→Option (y3×y3)
 |0,_,_,_,_,_=>none
 |k+1,d,e,b,f,c=>cond (decide (b<e)) (cond (decide ((0:Int)≤b)) (cond (decide (b<(length d:Int))) ((Dh (getD d (toNat b) [])).bind λ r2=>cond (Nat.ble ((length c.2+length [r2])*24) 140737488355328) (D0 k d e (wrap .i64 (b+1)) f (c.1,c.2++[r2])) none) none) none) (some (f,c))
def Cb (k:Nat) (a0:y3):Option y3:=(D0 k a0.2 (length a0.2:Int) 0 (0,([]:List (List Int))) (a0.1,([]:List (List Int)))).bind λ r1=>some r1.2
def Aj (a0:List Int):Option (List Int):=cond (Nat.ble ((length ([]:List Int)+length a0)*1) 140737488355328) (some (([]:List Int)++a0)) none
def Cf:Nat→(List y2)→(List y2)→Int→Int→Option (List y2)
 |0,_,_,_,_=>none
 |k+1,c,d,e,b=>cond (decide (b<e)) (cond (decide ((0:Int)≤b)) (cond (decide (b<(length d:Int))) (let v1:=getD d (toNat b) ((⟨#[]⟩:ByteArray),[]);(Aj v1.2).bind λ r2=>cond (Nat.ble ((length c+length [(v1.1,r2)])*40) 140737488355328) (Cf k (c++[(v1.1,r2)]) d e (wrap .i64 (b+1))) none) none) none) (some c)
def Bi (k:Nat) (a0:List y2):Option (List y2):=(Cf k ([]:List y2) a0 (length a0:Int) 0).bind λ r1=>some r1
def A5 (k:Nat) (a0:y8):Option y8:=(Bi k a0.1).bind λ r1=>(Bi k a0.2).bind λ r2=>some (r1,r2)
def Al (a0:List y6):Option (List y6):=cond (Nat.ble ((length ([]:List y6)+length a0)*56) 140737488355328) (some (([]:List y6)++a0)) none
def B7 (k:Nat) (a0:y9):Option y9:=(A5 k a0.2.1).bind λ r1=>(Al a0.2.2.1).bind λ r2=>(Al a0.2.2.2).bind λ r3=>some (a0.1,r1,r2,r3)
def Di (a0:y5):Option y5:=(Aj a0.2.2).bind λ r1=>some (a0.1,a0.2.1,r1)
def Cg:Nat→(List y7)→Int→Int→y10→y10→Option (y10×y10)
 |0,_,_,_,_,_=>none
 |k+1,d,e,c,f,b=>cond (decide (c<e)) (cond (decide ((0:Int)≤c)) (cond (decide (c<(length d:Int))) (let v1:=getD d (toNat c) ((⟨#[]⟩:ByteArray),((((0:Int),((0:Int),(0:Int))),(false,[])),false));(Di v1.2.1).bind λ r2=>cond (Nat.ble ((length b.2.2.2.2.1+length [(v1.1,r2,v1.2.2)])*80) 140737488355328) (Cg k d e (wrap .i64 (c+1)) f (b.1,b.2.1,b.2.2.1,b.2.2.2.1,(b.2.2.2.2.1++[(v1.1,r2,v1.2.2)]),b.2.2.2.2.2)) none) none) none) (some (f,b))
def Ch:Nat→(List y9)→Int→Int→y10→y10→y10→Option (y10×y10×y10)
 |0,_,_,_,_,_,_=>none
 |k+1,d,e,c,f,g,b=>cond (decide (c<e)) (cond (decide ((0:Int)≤c)) (cond (decide (c<(length d:Int))) ((B7 k (getD d (toNat c) ((0:Int),(([],[]),([],[]))))).bind λ r2=>cond (Nat.ble ((length b.2.2.1+length [r2])*104) 140737488355328) (Ch k d e (wrap .i64 (c+1)) f g (b.1,b.2.1,b.2.2.1++[r2],b.2.2.2)) none) none) none) (some (f,g,b))
def Ax (k:Nat) (a0:y10):Option y10:=cond (Nat.ble ((length ([]:List y0)+length a0.1)*24) 140737488355328) ((Cb k a0.2.1).bind λ r2=>cond (Nat.ble ((length ([]:List ByteArray)+length a0.2.2.2.2.2)*16) 140737488355328) ((Ch k a0.2.2.1 (length a0.2.2.1:Int) 0 a0 (([]:List y0),(0,([]:List (List Int))),([]:List y9),(0,0,0),([]:List y7),([]:List ByteArray)) ((([]:List y0)++a0.1),r2,([]:List y9),a0.2.2.2.1,([]:List y7),(([]:List ByteArray)++a0.2.2.2.2.2))).bind λ r4=>(Cg k r4.1.2.2.2.2.1 (length r4.1.2.2.2.2.1:Int) 0 r4.2.1 r4.2.2).bind λ r5=>some r5.2) none) none
def Am:Nat→ByteArray→Int→Option (Sum (Bool) (ByteArray))
 |0,_,_=>none
 |k+1,b,c=>cond (decide (c<(ByteArray.size b:Int))) (cond (decide ((0:Int)≤c)) (cond (decide (c<(ByteArray.size b:Int))) (cond (decide ((bt b c)≥97)) (cond (!(decide ((bt b c)≤122))) (cond (decide ((bt b c)≥48)) (cond (!(decide ((bt b c)≤57))) (cond ((bt b c) != 45) (cond ((bt b c) != 95) (cond ((bt b c) != 47) (some (.inl false)) (Am k b (wrap .i64 (c+1)))) (Am k b (wrap .i64 (c+1)))) (Am k b (wrap .i64 (c+1)))) (Am k b (wrap .i64 (c+1)))) (cond ((bt b c) != 45) (cond ((bt b c) != 95) (cond ((bt b c) != 47) (some (.inl false)) (Am k b (wrap .i64 (c+1)))) (Am k b (wrap .i64 (c+1)))) (Am k b (wrap .i64 (c+1))))) (Am k b (wrap .i64 (c+1)))) (cond (decide ((bt b c)≥48)) (cond (!(decide ((bt b c)≤57))) (cond ((bt b c) != 45) (cond ((bt b c) != 95) (cond ((bt b c) != 47) (some (.inl false)) (Am k b (wrap .i64 (c+1)))) (Am k b (wrap .i64 (c+1)))) (Am k b (wrap .i64 (c+1)))) (Am k b (wrap .i64 (c+1)))) (cond ((bt b c) != 45) (cond ((bt b c) != 95) (cond ((bt b c) != 47) (some (.inl false)) (Am k b (wrap .i64 (c+1)))) (Am k b (wrap .i64 (c+1)))) (Am k b (wrap .i64 (c+1)))))) none) none) (some (.inr b))
def Ac (k:Nat) (a0:ByteArray):Option (Bool):=(Am k a0 0).bind λ r1=>Sum.elim (λ y2=>some y2) (λ z3=>(Bu (ByteArray.size z3:Int) 1 20).bind λ r4=>some r4) r1
def F4:Nat→(List Int)→(List Int)→Int→Int→Option (Sum (Bool) (Unit))
 |0,_,_,_,_=>none
 |k+1,c,d,e,b=>cond (decide (b<e)) (cond (decide ((0:Int)≤b)) (cond (decide (b<(length d:Int))) (cond (decide ((0:Int)≤b)) (cond (decide (b≤(length c:Int))) ((B9 k (List.take (toNat b) c) (getD d (toNat b) (0:Int))).bind λ r2=>cond r2 (some (.inl false)) (F4 k c d e (wrap .i64 (b+1)))) none) none) none) none) (some (.inr ()))
def Fa (k:Nat) (a0:List Int):Option (Bool):=(F4 k a0 a0 (length a0:Int) 0).bind λ r1=>Sum.elim (λ y2=>some y2) (λ z3=>some true) r1
def Ea:Nat→(List y0)→(List (List Int))→Int→Int→(List Int)→Int→Int→y3→Option (Sum (Bool) ((List y0)×(List (List Int))×Int×Int×y3))
 |0,_,_,_,_,_,_,_,_=>none
 |k+1,c,e,f,g,d,h,b,i=>cond (decide (b<h)) (cond (decide ((0:Int)≤b)) (cond (decide (b<(length d:Int))) ((Fh k c (getD d (toNat b) (0:Int))).bind λ r2=>cond (!r2.2) (some (.inl false)) (Ea k c e f g d h (wrap .i64 (b+1)) i)) none) none) (some (.inr (c,e,f,g,i)))
def Eb:Nat→(List y0)→(List (List Int))→Int→Int→y3→Option (Sum (Bool) (Unit))
 |0,_,_,_,_,_=>none
 |k+1,f,c,d,b,e=>cond (decide (b<d)) (cond (decide ((0:Int)≤b)) (cond (decide (b<(length c:Int))) (let v1:=getD c (toNat b) [];cond ((length v1:Int) != e.1) (some (.inl false)) ((Fa k v1).bind λ r2=>cond (!r2) (some (.inl false)) ((Ea k f c d b v1 (length v1:Int) 0 e).bind λ r3=>Sum.elim (λ y4=>some (.inl y4)) (λ z5=>Eb k z5.1 z5.2.1 z5.2.2.1 (wrap .i64 (z5.2.2.2.1+1)) z5.2.2.2.2) r3))) none) none) (some (.inr ()))
def Df (k:Nat) (a0:y3) (a1:List y0):Option (Bool):=(Bv k a1).bind λ r1=>cond (!r1) (some false) ((Bu a0.1 1 5).bind λ r2=>cond (!r2) (some false) ((Bu (length a0.2:Int) 1 64).bind λ r3=>cond (!r3) (some false) ((Eb k a1 a0.2 (length a0.2:Int) 0 a0).bind λ r4=>Sum.elim (λ y5=>some y5) (λ z6=>some true) r4)))
def Bj (a0:y0):Option (Bool):=(Bu a0.1 0 1000000000).bind λ r1=>cond r1 ((Bu a0.2.1 0 1000000).bind λ r2=>cond r2 ((Bu a0.2.2 0 20).bind λ r3=>some r3) (some false)) (some false)
def Bl (a0:y0) (a1:y0):Option (Bool):=cond (a0.1 != a1.1) (some (decide (a0.1<a1.1))) (cond (a0.2.1 != a1.2.1) (some (decide (a0.2.1<a1.2.1))) (some (decide (a0.2.2<a1.2.2))))
def Ci (a0:y5):Option (Bool):=(Bj a0.1).bind λ r1=>cond r1 (cond (decide ((length a0.2.2:Int)≤200)) (cond (!a0.2.1) (some true) (some ((length a0.2.2:Int)==0))) (some false)) (some false)
def D5:Nat→(List y7)→Int→Int→y10→Option (Sum (Bool) y10)
 |0,_,_,_,_=>none
 |k+1,c,e,b,d=>cond (decide (b<e)) (cond (decide ((0:Int)≤b)) (cond (decide (b<(length c:Int))) (let v1:=getD c (toNat b) ((⟨#[]⟩:ByteArray),((((0:Int),((0:Int),(0:Int))),(false,[])),false));(Ac k v1.1).bind λ r2=>cond (!r2) (some (.inl false)) ((Ci v1.2.1).bind λ r3=>cond (!r3) (some (.inl false)) ((Bl d.2.2.2.1 v1.2.1.1).bind λ r4=>cond r4 (some (.inl false)) (D5 k c e (wrap .i64 (b+1)) d)))) none) none) (some (.inr d))
def Cc (k:Nat) (a0:y10):Option (Bool):=(D5 k a0.2.2.2.2.1 (length a0.2.2.2.2.1:Int) 0 a0).bind λ r1=>Sum.elim (λ y2=>some y2) (λ z3=>some (decide ((length z3.2.2.2.2.1:Int)≤200))) r1
def Fv (k:Nat) (a0:y6):Option (Bool):=(Ac k a0.1).bind λ r1=>cond r1 ((Bj a0.2.1).bind λ r2=>cond r2 ((Bu a0.2.2.2 0 200).bind λ r3=>cond r3 (cond (!a0.2.2.1) (some true) (some (a0.2.2.2==0))) (some false)) (some false)) (some false)
def D6:Nat→(List y2)→(List y2)→Int→Int→Option (Sum (Bool) (List y2))
 |0,_,_,_,_=>none
 |k+1,c,d,e,b=>cond (decide (b<e)) (cond (decide ((0:Int)≤b)) (cond (decide (b<(length d:Int))) (let v1:=getD d (toNat b) ((⟨#[]⟩:ByteArray),[]);(Ac k v1.1).bind λ r2=>cond (!r2) (some (.inl false)) (cond (decide ((length v1.2:Int) > 400)) (some (.inl false)) (cond (decide (b > 0)) (cond (decide ((0:Int)≤wrap .i64 (b-1))) (cond (decide (wrap .i64 (b-1)<(length c:Int))) (cond (!(Op.bytesLess (getD c (toNat (wrap .i64 (b-1))) ((⟨#[]⟩:ByteArray),[])).1.toList v1.1.toList)) (some (.inl false)) (D6 k c d e (wrap .i64 (b+1)))) none) none) (D6 k c d e (wrap .i64 (b+1)))))) none) none) (some (.inr c))
def Cu (k:Nat) (a0:List y2):Option (Bool):=(D6 k a0 a0 (length a0:Int) 0).bind λ r1=>Sum.elim (λ y2=>some y2) (λ z3=>some (decide ((length z3:Int)≤60))) r1
def Bb (k:Nat) (a0:y8):Option (Bool):=(Cu k a0.1).bind λ r1=>cond r1 ((Cu k a0.2).bind λ r2=>some r2) (some false)
def Dr:Nat→(List y6)→(List y6)→Int→Int→Option (Sum (Bool) (List y6))
 |0,_,_,_,_=>none
 |k+1,c,d,e,b=>cond (decide (b<e)) (cond (decide ((0:Int)≤b)) (cond (decide (b<(length d:Int))) (let v1:=getD d (toNat b) ((⟨#[]⟩:ByteArray),(((0:Int),((0:Int),(0:Int))),(false,(0:Int))));(Fv k v1).bind λ r2=>cond (!r2) (some (.inl false)) (cond (decide (b > 0)) (cond (decide ((0:Int)≤wrap .i64 (b-1))) (cond (decide (wrap .i64 (b-1)<(length c:Int))) (cond (!(Op.bytesLess (getD c (toNat (wrap .i64 (b-1))) ((⟨#[]⟩:ByteArray),(((0:Int),((0:Int),(0:Int))),(false,(0:Int))))).1.toList v1.1.toList)) (some (.inl false)) (Dr k c d e (wrap .i64 (b+1)))) none) none) (Dr k c d e (wrap .i64 (b+1))))) none) none) (some (.inr c))
def Cw (k:Nat) (a0:List y6):Option (Bool):=(Dr k a0 a0 (length a0:Int) 0).bind λ r1=>Sum.elim (λ y2=>some y2) (λ z3=>some (decide ((length z3:Int)≤60))) r1
def Ec:Nat→(List y6)→Int→Int→Int→(List y2)→(List y2)→(List y6)→(List y6)→Option (Sum (Bool) (Int×(List y2)×(List y2)×(List y6)×(List y6)))
 |0,_,_,_,_,_,_,_,_=>none
 |k+1,c,d,b,e,f,g,h,i=>cond (decide (b<d)) (cond (decide ((0:Int)≤b)) (cond (decide (b<(length c:Int))) ((Fv k (getD c (toNat b) ((⟨#[]⟩:ByteArray),(((0:Int),((0:Int),(0:Int))),(false,(0:Int)))))).bind λ r2=>cond (!r2) (some (.inl false)) (Ec k c d (wrap .i64 (b+1)) e f g h i)) none) none) (some (.inr (e,f,g,h,i)))
def Bw (k:Nat) (a0:y9):Option (Bool):=(Ec k a0.2.2.2 (length a0.2.2.2:Int) 0 a0.1 a0.2.1.1 a0.2.1.2 a0.2.2.1 a0.2.2.2).bind λ r1=>Sum.elim (λ y2=>some y2) (λ z3=>(Bu z3.1 0 20).bind λ r4=>cond r4 ((Bb k (z3.2.1,z3.2.2.1)).bind λ r5=>cond r5 ((Cw k z3.2.2.2.1).bind λ r6=>cond r6 (some (decide ((length z3.2.2.2.2:Int)≤60))) (some false)) (some false)) (some false)) r1
def Bz:Nat→(List ByteArray)→Int→Int→y10→Option (Sum (Bool) (Unit))
 |0,_,_,_,_=>none
 |k+1,c,e,b,d=>cond (decide (b<e)) (cond (decide ((0:Int)≤b)) (cond (decide (b<(length c:Int))) (let v1:=getD c (toNat b) (⟨#[]⟩:ByteArray);(Ac k v1).bind λ r2=>cond (!r2) (some (.inl false)) (cond (decide (b > 0)) (cond (decide ((0:Int)≤wrap .i64 (b-1))) (cond (decide (wrap .i64 (b-1)<(length d.2.2.2.2.2:Int))) (cond (!(Op.bytesLess (getD d.2.2.2.2.2 (toNat (wrap .i64 (b-1))) (⟨#[]⟩:ByteArray)).toList v1.toList)) (some (.inl false)) (Bz k c e (wrap .i64 (b+1)) d)) none) none) (Bz k c e (wrap .i64 (b+1)) d))) none) none) (some (.inr ()))
def D7:Nat→(List y9)→Int→Int→y10→Option (Sum (Bool) y10)
 |0,_,_,_,_=>none
 |k+1,d,e,b,c=>cond (decide (b<e)) (cond (decide ((0:Int)≤b)) (cond (decide (b<(length d:Int))) (let v1:=getD d (toNat b) ((0:Int),(([],[]),([],[])));cond (decide ((0:Int)≤b)) (cond (decide (b<(length c.1:Int))) (cond (v1.1 != (getD c.1 (toNat b) ((0:Int),((0:Int),(0:Int)))).1) (some (.inl false)) ((Bw k v1).bind λ r3=>cond (!r3) (some (.inl false)) (D7 k d e (wrap .i64 (b+1)) c))) none) none) none) none) (some (.inr c))
def B6 (k:Nat) (a0:y10):Option (Bool):=(Df k a0.2.1 a0.1).bind λ r1=>cond (!r1) (some false) (cond ((length a0.2.2.1:Int) != (length a0.1:Int)) (some false) ((Bj a0.2.2.2.1).bind λ r2=>cond (!r2) (some false) ((Cc k a0).bind λ r3=>cond (!r3) (some false) ((D7 k a0.2.2.1 (length a0.2.2.1:Int) 0 a0).bind λ r4=>Sum.elim (λ y5=>some y5) (λ z6=>(Bz k z6.2.2.2.2.2 (length z6.2.2.2.2.2:Int) 0 z6).bind λ r7=>Sum.elim (λ y8=>some y8) (λ z9=>some true) r7) r4))))
def Cj:Nat→(List Int)→Int→(List Int)→Int→Int→(List y9)→Int→Int→y10→Option ((List Int)×(List Int)×Int×Int×y10)
 |0,_,_,_,_,_,_,_,_,_=>none
 |k+1,c,e,f,g,h,d,i,b,j=>cond (decide (b<i)) (cond (decide ((0:Int)≤b)) (cond (decide (b<(length d:Int))) (cond ((getD d (toNat b) ((0:Int),(([],[]),([],[])))).1==e) (cond (Nat.ble ((length c+length [b])*8) 140737488355328) (Cj k (c++[b]) e f g h d i (wrap .i64 (b+1)) j) none) (Cj k c e f g h d i (wrap .i64 (b+1)) j)) none) none) (some (c,f,g,h,j))
def Dn:Nat→(List Int)→(List Int)→Int→Int→y10→Option (List Int)
 |0,_,_,_,_,_=>none
 |k+1,e,c,f,b,d=>cond (decide (b<f)) (cond (decide ((0:Int)≤b)) (cond (decide (b<(length c:Int))) ((Cj k e (getD c (toNat b) (0:Int)) c f b d.2.2.1 (length d.2.2.1:Int) 0 d).bind λ r2=>Dn k r2.1 r2.2.1 r2.2.2.1 (wrap .i64 (r2.2.2.2.1+1)) r2.2.2.2.2) none) none) (some e)
def Bm (k:Nat) (a0:y10) (a1:List Int):Option (List Int):=(Dn k ([]:List Int) a1 (length a1:Int) 0 a0).bind λ r1=>some r1
def Fn:Nat→ByteArray→Int→Int→Option (Int)
 |0,_,_,_=>none
 |k+1,c,d,b=>cond (decide (b<(ByteArray.size c:Int))) (cond (decide ((0:Int)≤b)) (cond (decide (b<(ByteArray.size c:Int))) (Fn k c (wrap .u32 ((wrap .u32 ((ofInt (IntKind.bits .u32) d ^^^ ofInt (IntKind.bits .u32) (wrap .u32 (bt c b))).toNat))*16777619)) (wrap .i64 (b+1))) none) none) (some d)
def Ha (k:Nat) (a0:ByteArray):Option (Int):=(Fn k a0 2166136261 0).bind λ r1=>some (wrap .i64 r1)
def Gl (k:Nat) (a0:ByteArray) (a1:Int):Option (Int):=cond (decide (a1<1)) (some 0) ((Ha k a0).bind λ r1=>cond (decide (a1=0)) none (some (Int.tmod r1 a1)))
def As (k:Nat) (a0:y3) (a1:ByteArray):Option (List Int):=cond ((length a0.2:Int)==0) (some ([]:List Int)) ((Gl k a1 (length a0.2:Int)).bind λ r1=>cond (decide ((0:Int)≤r1)) (cond (decide (r1<(length a0.2:Int))) ((Dh (getD a0.2 (toNat r1) [])).bind λ r3=>some r3) none) none)
def C0:Nat→(List Int)→(List Int)→(List Int)→(List Int)→(List y0)→Int→Int→Option ((List Int)×(List Int))
 |0,_,_,_,_,_,_,_=>none
 |k+1,f,g,c,d,e,h,b=>cond (decide (b<h)) (cond (decide ((0:Int)≤b)) (cond (decide (b<(length e:Int))) (let v1:=getD e (toNat b) ((0:Int),((0:Int),(0:Int)));(B9 k f v1.1).bind λ r2=>cond r2 (C0 k f g c d e h (wrap .i64 (b+1))) ((B9 k g v1.2.1).bind λ r3=>cond r3 (cond (Nat.ble ((length d+length [v1.1])*8) 140737488355328) (C0 k f g c (d++[v1.1]) e h (wrap .i64 (b+1))) none) (cond (Nat.ble ((length c+length [v1.1])*8) 140737488355328) (C0 k f g (c++[v1.1]) d e h (wrap .i64 (b+1))) none))) none) none) (some (c,d))
def Bp (k:Nat) (a0:y3) (a1:List y0) (a2:ByteArray):Option (List Int):=(As k a0 a2).bind λ r1=>(C3 k r1 a1).bind λ r2=>(C0 k r1 r2 ([]:List Int) ([]:List Int) a1 (length a1:Int) 0).bind λ r3=>cond (Nat.ble ((length r3.1+length r3.2)*8) 140737488355328) (some (r3.1++r3.2)) none
def Bf (k:Nat) (a0:y10) (a1:ByteArray):Option ((List Int)×y10):=(As k a0.2.1 a1).bind λ r1=>(Bp k a0.2.1 a0.1 a1).bind λ r2=>cond (Nat.ble ((length r1+length r2)*8) 140737488355328) ((Bm k a0 (r1++r2)).bind λ r3=>some (r3,a0)) none
@[reducible] def C4 (k:Nat) (a0:y10) (a1:ByteArray):Option ((List Int)×y10):=Bf k a0 a1
def Br (a0:List Int) (a1:Int):Option (Int):=cond (decide (a1<(length a0:Int))) (cond (decide ((0:Int)≤a1)) (cond (decide (a1<(length a0:Int))) ((Bu (getD a0 (toNat a1) (0:Int)) 1 3).bind λ r2=>cond r2 (cond (decide ((0:Int)≤a1)) (cond (decide (a1<(length a0:Int))) (some (getD a0 (toNat a1) (0:Int))) none) none) (some 0)) none) none) (some 0)
def Ed (a0:y0) (a1:Int) (a2:Int):Option y0:=cond (decide (a1≤a0.1)) ((Bj (a0.1,wrap .i64 (a0.2.1+1),a2)).bind λ r1=>cond (!r1) (some a0) (some (a0.1,wrap .i64 (a0.2.1+1),a2))) ((Bj (a1,0,a2)).bind λ r2=>cond (!r2) (some a0) (some (a1,0,a2)))
def Fw (a0:y5) (a1:y5):Option (Bool):=(Bl a1.1 a0.1).bind λ r1=>some r1
def Gv:Nat→ByteArray→(List y2)→Int→Int→Option (Sum (Int) (Unit))
 |0,_,_,_,_=>none
 |k+1,d,c,e,b=>cond (decide (b<e)) (cond (decide ((0:Int)≤b)) (cond (decide (b<(length c:Int))) (cond ((getD c (toNat b) ((⟨#[]⟩:ByteArray),[])).1.toList==d.toList) (some (.inl b)) (Gv k d c e (wrap .i64 (b+1)))) none) none) (some (.inr ()))
def Gn (k:Nat) (a0:List y2) (a1:ByteArray):Option (Int):=(Gv k a1 a0 (length a0:Int) 0).bind λ r1=>Sum.elim (λ y2=>some y2) (λ z3=>some (-1)) r1
def Dj (k:Nat) (a0:y8) (a1:ByteArray):Option ((List Int)×Bool):=(Gn k a0.1 a1).bind λ r1=>cond (decide (r1<0)) (some (([]:List Int),false)) (cond (decide ((0:Int)≤r1)) (cond (decide (r1<(length a0.1:Int))) ((Aj (getD a0.1 (toNat r1) ((⟨#[]⟩:ByteArray),[])).2).bind λ r3=>some (r3,true)) none) none)
def Ds:Nat→(List Int)→Int→Int→Int→Option (Sum (Int×Int×Bool) (Unit))
 |0,_,_,_,_=>none
 |k+1,e,c,d,b=>cond (decide (b<5)) (cond (decide (c≥0)) (cond (decide (c<(wrap .i64 ((length e:Int)-b)))) (cond (decide ((0:Int)≤wrap .i64 (c+b))) (cond (decide (wrap .i64 (c+b)<(length e:Int))) (let v1:=getD e (toNat (wrap .i64 (c+b))) (0:Int);cond (decide ((wrap .i64 (7*b))<0)) none (cond (decide ((wrap .i64 v1)≥128)) (Ds k e c (wrap .i64 (d+(wrap .i64 ((Int.tmod (wrap .i64 v1) 128)*2 ^ (min (toNat (wrap .i64 (7*b))) (IntKind.bits .i64)))))) (wrap .i64 (b+1))) (cond ((wrap .i64 v1)==0) (cond (decide (b > 0)) (some (.inl (0,0,false))) (cond (decide ((wrap .i64 (d+(wrap .i64 ((Int.tmod (wrap .i64 v1) 128)*2 ^ (min (toNat (wrap .i64 (7*b))) (IntKind.bits .i64)))))) > 1000000000)) (some (.inl (0,0,false))) (some (.inl (wrap .i64 (d+(wrap .i64 ((Int.tmod (wrap .i64 v1) 128)*2 ^ (min (toNat (wrap .i64 (7*b))) (IntKind.bits .i64))))),wrap .i64 ((wrap .i64 (c+b))+1),true))))) (cond (decide ((wrap .i64 (d+(wrap .i64 ((Int.tmod (wrap .i64 v1) 128)*2 ^ (min (toNat (wrap .i64 (7*b))) (IntKind.bits .i64)))))) > 1000000000)) (some (.inl (0,0,false))) (some (.inl (wrap .i64 (d+(wrap .i64 ((Int.tmod (wrap .i64 v1) 128)*2 ^ (min (toNat (wrap .i64 (7*b))) (IntKind.bits .i64))))),wrap .i64 ((wrap .i64 (c+b))+1),true))))))) none) none) (some (.inr ()))) (some (.inr ()))) (some (.inr ()))
def Er (k:Nat) (a0:List Int) (a1:Int):Option (Int×Int×Bool):=(Ds k a0 a1 0 0).bind λ r1=>Sum.elim (λ y2=>some (y2.1,y2.2.1,y2.2.2)) (λ z3=>some (0,0,false)) r1
def C5 (k:Nat) (a0:y4):Option (Int×y4):=(Er k a0.1 a0.2.1).bind λ r1=>cond a0.2.2 (some (0,(a0.1,a0.2.1,true))) (cond (!r1.2.2) (some (0,(a0.1,a0.2.1,true))) (some (r1.1,(a0.1,r1.2.1,a0.2.2))))
def Ck (k:Nat) (a0:y4):Option (y0×Bool×y4):=(C5 k a0).bind λ r1=>(C5 k r1.2).bind λ r2=>(C5 k r2.2).bind λ r3=>(C5 k r3.2).bind λ r4=>cond r4.2.2.2 (some ((r1.1,r2.1,r3.1),r4.1==1,(r4.2.1,r4.2.2.1,true))) (some ((r1.1,r2.1,r3.1),r4.1==1,(r4.2.1,r4.2.2.1,decide (r4.1 > 1))))
def Fo (k:Nat) (a0:List Int) (a1:Int):Option (ByteArray×Int×Bool):=(Er k a0 a1).bind λ r1=>cond (!r1.2.2) (some ((⟨#[]⟩:ByteArray),0,false)) (cond (decide (r1.1 > (wrap .i64 ((length a0:Int)-r1.2.1)))) (some ((⟨#[]⟩:ByteArray),0,false)) (cond (decide ((0:Int)≤r1.2.1)) (cond (decide (r1.2.1≤wrap .i64 (r1.2.1+r1.1))) (cond (decide (wrap .i64 (r1.2.1+r1.1)≤(length a0:Int))) (some (I8 (List.drop (toNat r1.2.1) (List.take (toNat (wrap .i64 (r1.2.1+r1.1))) a0)),wrap .i64 (r1.2.1+r1.1),true)) none) none) none))
def C1 (k:Nat) (a0:y4):Option (ByteArray×y4):=(Fo k a0.1 a0.2.1).bind λ r1=>cond a0.2.2 (some ((⟨#[]⟩:ByteArray),(a0.1,a0.2.1,true))) (cond (!r1.2.2) (some ((⟨#[]⟩:ByteArray),(a0.1,a0.2.1,true))) (some (r1.1,(a0.1,r1.2.1,a0.2.2))))
def Ee:Nat→(List Int)→Int→Option ((List Int)×Int)
 |0,_,_=>none
 |k+1,c,b=>cond (decide (b > 127)) (cond (Nat.ble ((length c+length [wrap .u8 (wrap .i64 ((Int.tmod b 128)+128))])*1) 140737488355328) (Ee k (c++[wrap .u8 (wrap .i64 ((Int.tmod b 128)+128))]) (wrap .i64 (Int.tdiv b 128))) none) (some (c,b))
def Dg (k:Nat) (a0:List Int) (a1:Int):Option (List Int):=let v1:=if (1000000000:Int)<a1 then 1000000000 else a1;(Ee k a0 (if (0:Int)<v1 then v1 else 0)).bind λ r3=>cond (Nat.ble ((length r3.1+length [wrap .u8 r3.2])*1) 140737488355328) (some (r3.1++[wrap .u8 r3.2])) none
def Fp (k:Nat) (a0:List Int) (a1:ByteArray):Option (List Int):=(Dg k a0 (ByteArray.size a1:Int)).bind λ r1=>cond (Nat.ble ((length r1+ByteArray.size a1)*1) 140737488355328) (some (r1++bytesOf a1)) none
def J1 (a0:Bool):Option (Int):=cond a0 (some 1) (some 0)
def F5 (k:Nat) (a0:List Int) (a1:y0) (a2:Bool):Option (List Int):=(Dg k a0 a1.1).bind λ r1=>(Dg k r1 a1.2.1).bind λ r2=>(Dg k r2 a1.2.2).bind λ r3=>(J1 a2).bind λ r4=>(Dg k r3 r4).bind λ r5=>some r5
def Fy:Nat→Int→(List Int)→Int→Int→Int→Option (Int×y1)
 |0,_,_,_,_,_=>none
 |k+1,b,c,d,e,f=>cond (decide (f<8)) (cond ((wrap .u32 ((ofInt (IntKind.bits .u32) b &&& ofInt (IntKind.bits .u32) 1).toNat))==1) (Fy k (wrap .u32 ((ofInt (IntKind.bits .u32) (Int.fdiv b (2 ^ (min (toNat 1) (IntKind.bits .u32)))) ^^^ ofInt (IntKind.bits .u32) 2197175160).toNat)) c d e (wrap .i64 (f+1))) (Fy k (Int.fdiv b (2 ^ (min (toNat 1) (IntKind.bits .u32)))) c d e (wrap .i64 (f+1)))) (some (b,c,d,e))
def G6:Nat→Int→(List Int)→Int→Int→Option (Int)
 |0,_,_,_,_=>none
 |k+1,d,c,e,b=>cond (decide (b<e)) (cond (decide ((0:Int)≤b)) (cond (decide (b<(length c:Int))) ((Fy k (wrap .u32 ((ofInt (IntKind.bits .u32) d ^^^ ofInt (IntKind.bits .u32) (wrap .u32 (getD c (toNat b) (0:Int)))).toNat)) c e b 0).bind λ r2=>G6 k r2.1 r2.2.1 r2.2.2.1 (wrap .i64 (r2.2.2.2+1))) none) none) (some d)
def Hl (k:Nat) (a0:List Int):Option (Int):=(G6 k 4294967295 a0 (length a0:Int) 0).bind λ r1=>some (wrap .i64 (wrap .u32 ((ofInt (IntKind.bits .u32) (if IntKind.signed .u32 then -1 else IntKind.max .u32) ^^^ ofInt (IntKind.bits .u32) r1).toNat)))
def Dd (k:Nat) (a0:y5):Option (List Int):=(Ci a0).bind λ r1=>cond (!r1) (some ([]:List Int)) ((F5 k ([]:List Int) a0.1 a0.2.1).bind λ r2=>(Fp k r2 (I8 a0.2.2)).bind λ r3=>(Hl k r3).bind λ r4=>cond (Nat.ble ((length r3+length [wrap .u8 (Int.fdiv r4 (2 ^ (min (toNat 24) (IntKind.bits .i64)))),wrap .u8 (Int.fdiv r4 (2 ^ (min (toNat 16) (IntKind.bits .i64)))),wrap .u8 (Int.fdiv r4 (2 ^ (min (toNat 8) (IntKind.bits .i64)))),wrap .u8 r4])*1) 140737488355328) (some (r3++[wrap .u8 (Int.fdiv r4 (2 ^ (min (toNat 24) (IntKind.bits .i64)))),wrap .u8 (Int.fdiv r4 (2 ^ (min (toNat 16) (IntKind.bits .i64)))),wrap .u8 (Int.fdiv r4 (2 ^ (min (toNat 8) (IntKind.bits .i64)))),wrap .u8 r4])) none)
def Cv (k:Nat) (a0:List Int):Option (y5×Bool):=(Ck k (a0,0,false)).bind λ r1=>(C1 k r1.2.2).bind λ r2=>cond (Nat.ble (ByteArray.size r2.1) 140737488355328) ((Dd k (r1.1,r1.2.1,bytesOf r2.1)).bind λ r3=>cond r2.2.2.2 (some (((0,0,0),false,([]:List Int)),false)) (cond ((length r3:Int)==0) (some (((0,0,0),false,([]:List Int)),false)) (cond (!((I8 r3).toList==(I8 a0).toList)) (some (((0,0,0),false,([]:List Int)),false)) (some ((r1.1,r1.2.1,bytesOf r2.1),true))))) none
def Ef (k:Nat) (a0:List y2) (a1:ByteArray):Option (List y2):=(Gn k a0 a1).bind λ r1=>cond (decide (r1<0)) (some a0) (cond (decide ((0:Int)≤r1)) (cond (decide (r1≤(length a0:Int))) (cond (Nat.ble ((length ([]:List y2)+length (List.take (toNat r1) a0))*40) 140737488355328) (let v2:List y2:=([]:List y2)++(List.take (toNat r1) a0);cond (decide ((0:Int)≤wrap .i64 (r1+1))) (cond (decide (wrap .i64 (r1+1)≤(length a0:Int))) (cond (Nat.ble ((length v2+length (List.drop (toNat (wrap .i64 (r1+1))) a0))*40) 140737488355328) (some (v2++(List.drop (toNat (wrap .i64 (r1+1))) a0))) none) none) none) none) none) none)
def G7:Nat→(List y2)→Int→ByteArray→(List Int)→Option ((List y2)×Int×y2)
 |0,_,_,_,_=>none
 |k+1,c,b,d,e=>cond (decide (b<(length c:Int))) (cond (decide ((0:Int)≤b)) (cond (decide (b<(length c:Int))) (cond (Op.bytesLess (getD c (toNat b) ((⟨#[]⟩:ByteArray),[])).1.toList d.toList) (G7 k c (wrap .i64 (b+1)) d e) (some (c,b,d,e))) none) none) (some (c,b,d,e))
def H4 (k:Nat) (a0:List y2) (a1:y2):Option (List y2):=(G7 k a0 0 a1.1 a1.2).bind λ r1=>cond (decide ((0:Int)≤r1.2.1)) (cond (decide (r1.2.1≤(length r1.1:Int))) (cond (Nat.ble ((length ([]:List y2)+length (List.take (toNat r1.2.1) r1.1))*40) 140737488355328) (let v2:List y2:=([]:List y2)++(List.take (toNat r1.2.1) r1.1);cond (Nat.ble ((length v2+length [r1.2.2])*40) 140737488355328) (cond (decide ((0:Int)≤r1.2.1)) (cond (decide (r1.2.1≤(length r1.1:Int))) (cond (Nat.ble ((length (v2++[r1.2.2])+length (List.drop (toNat r1.2.1) r1.1))*40) 140737488355328) (some ((v2++[r1.2.2])++(List.drop (toNat r1.2.1) r1.1))) none) none) none) none) none) none) none
def Bh (k:Nat) (a0:y8) (a1:ByteArray):Option (y8×Bool):=(A5 k a0).bind λ r1=>(Bb k a0).bind λ r2=>cond (!r2) (some (r1,false)) ((Ac k a1).bind λ r3=>cond (!r3) (some (r1,false)) ((Ef k r1.2 a1).bind λ r4=>(Gn k a0.1 a1).bind λ r5=>cond (decide (r5≥0)) (cond (decide ((0:Int)≤r5)) (cond (decide (r5<(length a0.1:Int))) ((Aj (getD a0.1 (toNat r5) ((⟨#[]⟩:ByteArray),[])).2).bind λ r7=>(H4 k r4 (a1,r7)).bind λ r8=>cond (decide ((length r8:Int) > 60)) ((A5 k a0).bind λ r9=>some (r9,false)) (some ((r1.1,r8),true))) none) none) (cond (decide ((length r4:Int) > 60)) ((A5 k a0).bind λ r10=>some (r10,false)) (some ((r1.1,r4),true)))))
def Cr (k:Nat) (a0:y8) (a1:ByteArray) (a2:List Int):Option (y8×Bool):=(A5 k a0).bind λ r1=>(Bb k a0).bind λ r2=>cond (!r2) (some (r1,false)) ((Ac k a1).bind λ r3=>cond (!r3) (some (r1,false)) (cond (decide ((length a2:Int) > 400)) (some (r1,false)) ((Ef k r1.1 a1).bind λ r4=>(Aj a2).bind λ r5=>(H4 k r4 (a1,r5)).bind λ r6=>cond (decide ((length r6:Int) > 60)) ((A5 k a0).bind λ r7=>some (r7,false)) (some ((r6,r1.2),true)))))
def Gi (k:Nat) (a0:y8) (a1:ByteArray) (a2:y5) (a3:Bool):Option (y8×Int):=(Bb k a0).bind λ r1=>cond (!r1) ((A5 k a0).bind λ r2=>some (r2,2)) ((Ac k a1).bind λ r3=>cond (!r3) ((A5 k a0).bind λ r4=>some (r4,2)) ((Ci a2).bind λ r5=>cond (!r5) ((A5 k a0).bind λ r6=>some (r6,2)) ((A5 k a0).bind λ r7=>(Dj k a0 a1).bind λ r8=>(Cv k r8.1).bind λ r9=>cond r9.2 ((Fw a2 r9.1).bind λ r10=>cond (!r10) (cond a3 ((Bh k r7 a1).bind λ r11=>cond (!r11.2) ((A5 k a0).bind λ r12=>some (r12,3)) (some (r11.1,1))) (some (r7,1))) ((Dd k a2).bind λ r13=>(Cr k a0 a1 r13).bind λ r14=>cond (!r14.2) ((A5 k a0).bind λ r15=>some (r15,3)) (cond a3 ((Bh k r14.1 a1).bind λ r16=>cond (!r16.2) ((A5 k a0).bind λ r17=>some (r17,3)) (some (r16.1,0))) (some (r14.1,0))))) ((Dd k a2).bind λ r18=>(Cr k a0 a1 r18).bind λ r19=>cond (!r19.2) ((A5 k a0).bind λ r20=>some (r20,3)) (cond a3 ((Bh k r19.1 a1).bind λ r21=>cond (!r21.2) ((A5 k a0).bind λ r22=>some (r22,3)) (some (r21.1,0))) (some (r19.1,0)))))))
def Hd (a0:ByteArray) (a1:y5):Option y6:=some (a0,a1.1,a1.2.1,(length a1.2.2:Int))
def Fq (k:Nat) (a0:y9) (a1:ByteArray) (a2:y5) (a3:Bool):Option (y9×Int):=(B7 k a0).bind λ r1=>(Bw k a0).bind λ r2=>cond (!r2) (some (r1,2)) ((Ac k a1).bind λ r3=>cond (!r3) (some (r1,2)) ((Ci a2).bind λ r4=>cond (!r4) (some (r1,2)) (cond (decide ((length a0.2.2.2:Int)≥60)) (some (r1,3)) ((Gi k a0.2.1 a1 a2 a3).bind λ r5=>cond (r5.2==0) (cond a3 ((Hd a1 a2).bind λ r6=>cond (Nat.ble ((length r1.2.2.2+length [r6])*56) 140737488355328) (some ((r1.1,r5.1,r1.2.2.1,r1.2.2.2++[r6]),r5.2)) none) (some ((r1.1,r5.1,r1.2.2),r5.2))) (some ((r1.1,r5.1,r1.2.2),r5.2))))))
def C6 (k:Nat) (a0:y9) (a1:Int) (a2:ByteArray) (a3:y5) (a4:Int):Option (y9×ByteArray×y5×Int):=(Fq k a0 a2 a3 (a1 != 3)).bind λ r1=>cond (a1==1) (cond (r1.2==0) (some (r1.1,a2,a3,wrap .i64 (a4+1))) (cond (r1.2==1) (some (r1.1,a2,a3,wrap .i64 (a4+1))) (some (r1.1,a2,a3,a4)))) (some (r1.1,a2,a3,a4))
def G8 (a0:Int):Option (Int):=some (wrap .i64 ((wrap .i64 (Int.tdiv a0 2))+1))
def Ad:Nat→(List Int)→Int→(List Int)→Int→Int→y10→ByteArray→y5→Int→Option (y10×ByteArray×y5×Int)
 |0,_,_,_,_,_,_,_,_,_=>none
 |k+1,e,f,d,g,c,b,h,i,j=>cond (decide (c<g)) (cond (decide ((0:Int)≤c)) (cond (decide (c<(length d:Int))) (let v1:=getD d (toNat c) (0:Int);(Br e c).bind λ r2=>cond (r2 != 0) (cond (decide (f<b.2.1.1)) (cond (decide ((0:Int)≤v1)) (cond (decide (v1<(length b.2.2.1:Int))) ((C6 k (getD b.2.2.1 (toNat v1) ((0:Int),(([],[]),([],[])))) r2 h i j).bind λ r4=>Ad k e (wrap .i64 (f+1)) d g (wrap .i64 (c+1)) (b.1,b.2.1,(List.set b.2.2.1 (toNat v1) r4.1),b.2.2.2) r4.2.1 r4.2.2.1 r4.2.2.2) none) none) (Ad k e f d g (wrap .i64 (c+1)) b h i j)) (Ad k e f d g (wrap .i64 (c+1)) b h i j)) none) none) (some (b,h,i,j))
def A9 (k:Nat) (a0:y10) (a1:ByteArray) (a2:List Int) (a3:Bool) (a4:ByteArray) (a5:y5) (a6:Int):Option (y10×ByteArray×y5×Int):=(C4 k a0 a1).bind λ r1=>(Ad k a2 0 r1.1 (length r1.1:Int) 0 r1.2 a4 a5 a6).bind λ r2=>some (r2.1,r2.2.1,r2.2.2.1,r2.2.2.2)
def C7 (k:Nat) (a0:y10) (a1:ByteArray) (a2:y5) (a3:Int) (a4:List Int):Option (Int×y10):=(Ac k a1).bind λ r1=>cond (!r1) (some (2,a0)) (cond (decide ((length a2.2.2:Int) > 200)) (some (2,a0)) ((Bu a3 0 1000000000).bind λ r2=>cond (!r2) (some (2,a0)) ((Ed a0.2.2.2.1 a3 0).bind λ r3=>cond (decide ((length a0.2.2.2.2.1:Int)≥200)) (some (3,a0)) (cond ((r3.1==a0.2.2.2.1.1)&&((r3.2.1==a0.2.2.2.1.2.1)&&(r3.2.2==a0.2.2.2.1.2.2))) (some (3,a0)) ((A9 k (a0.1,a0.2.1,a0.2.2.1,r3,a0.2.2.2.2) a1 a4 true a1 (r3,a2.2) 0).bind λ r4=>(G8 r4.1.2.1.1).bind λ r5=>(Di r4.2.2.1).bind λ r6=>cond (Nat.ble ((length r4.1.2.2.2.2.1+length [(r4.2.1,r6,decide (r4.2.2.2≥r5))])*80) 140737488355328) (let v7:List y7:=r4.1.2.2.2.2.1++[(r4.2.1,r6,decide (r4.2.2.2≥r5))];cond (decide (r4.2.2.2≥r5)) (some (0,(r4.1.1,r4.1.2.1,r4.1.2.2.1,r4.1.2.2.2.1,v7,r4.1.2.2.2.2.2))) (some (1,(r4.1.1,r4.1.2.1,r4.1.2.2.1,r4.1.2.2.2.1,v7,r4.1.2.2.2.2.2)))) none)))))
def Eg (k:Nat) (a0:y10) (a1:ByteArray) (a2:List Int) (a3:Int) (a4:List Int):Option (y10×Int):=(Ax k a0).bind λ r1=>(B6 k a0).bind λ r2=>cond (!r2) (some (r1,2)) ((Aj a2).bind λ r3=>(C7 k r1 a1 ((0,0,0),false,r3) a3 a4).bind λ r4=>some (r4.2,r4.1))
def Fs (k:Nat) (a0:y8) (a1:ByteArray):Option (y5×Int):=(Dj k a0 a1).bind λ r1=>cond (!r1.2) (some (((0,0,0),false,([]:List Int)),1)) ((Cv k r1.1).bind λ r2=>cond (!r2.2) (some (((0,0,0),false,([]:List Int)),2)) (some (r2.1,0)))
def Bo (k:Nat) (a0:y9) (a1:Int) (a2:Int) (a3:ByteArray) (a4:Bool) (a5:y5):Option (Int×ByteArray×Bool×y5):=cond (a1 != 1) (some (a2,a3,a4,a5)) ((Fs k a0.2.1 a3).bind λ r1=>cond (r1.2==0) (cond (!a4) (some (wrap .i64 (a2+1),a3,true,r1.1)) ((Fw r1.1 a5).bind λ r2=>cond r2 (some (wrap .i64 (a2+1),a3,true,r1.1)) (some (wrap .i64 (a2+1),a3,a4,a5)))) (some (wrap .i64 (a2+1),a3,a4,a5)))
def A8:Nat→(List Int)→Int→(List Int)→Int→Int→y10→Int→ByteArray→Bool→y5→Option (y10×Int×ByteArray×Bool×y5)
 |0,_,_,_,_,_,_,_,_,_,_=>none
 |k+1,e,f,d,g,b,c,h,i,j,l=>cond (decide (b<g)) (cond (decide ((0:Int)≤b)) (cond (decide (b<(length d:Int))) (let v1:=getD d (toNat b) (0:Int);(Br e b).bind λ r2=>cond (r2 != 0) (cond (decide (f<c.2.1.1)) (cond (decide ((0:Int)≤v1)) (cond (decide (v1<(length c.2.2.1:Int))) ((Bo k (getD c.2.2.1 (toNat v1) ((0:Int),(([],[]),([],[])))) r2 h i j l).bind λ r4=>A8 k e (wrap .i64 (f+1)) d g (wrap .i64 (b+1)) c r4.1 r4.2.1 r4.2.2.1 r4.2.2.2) none) none) (A8 k e f d g (wrap .i64 (b+1)) c h i j l)) (A8 k e f d g (wrap .i64 (b+1)) c h i j l)) none) none) (some (c,h,i,j,l))
def A7 (k:Nat) (a0:y10) (a1:ByteArray) (a2:List Int) (a3:Bool) (a4:Int) (a5:ByteArray) (a6:Bool) (a7:y5):Option (y10×Int×ByteArray×Bool×y5):=(Bf k a0 a1).bind λ r1=>(A8 k a2 0 r1.1 (length r1.1:Int) 0 r1.2 a4 a5 a6 a7).bind λ r2=>some (r2.1,r2.2.1,r2.2.2.1,r2.2.2.2.1,r2.2.2.2.2)
def Cs (k:Nat) (a0:y10) (a1:ByteArray) (a2:List Int):Option (y5×Int):=(B6 k a0).bind λ r1=>cond (!r1) (some (((0,0,0),false,([]:List Int)),2)) ((Ac k a1).bind λ r2=>cond (!r2) (some (((0,0,0),false,([]:List Int)),2)) ((A7 k a0 a1 a2 true 0 a1 false ((0,0,0),false,([]:List Int))).bind λ r3=>cond (r3.2.1==0) (some (((0,0,0),false,([]:List Int)),1)) (cond (!r3.2.2.2.1) (some (((0,0,0),false,([]:List Int)),4)) (cond r3.2.2.2.2.2.1 (some (((0,0,0),false,([]:List Int)),5)) (some (r3.2.2.2.2,0))))))
def D8:Nat→(List Int)→Int→Option (List Int)
 |0,_,_=>none
 |k+1,b,c=>cond (decide (c<12)) (cond (Nat.ble ((length b+length [1])*8) 140737488355328) (D8 k (b++[1]) (wrap .i64 (c+1))) none) (some b)
def Ej (k:Nat)  : Option (List Int):=(D8 k ([]:List Int) 0).bind λ r1=>some r1
def Ek:Nat→Int→(List y2)→Int→Int→y8→y8→Option (Int×y8×y8)
 |0,_,_,_,_,_,_=>none
 |k+1,e,c,f,b,g,d=>cond (decide (b<f)) (cond (decide ((0:Int)≤b)) (cond (decide (b<(length c:Int))) (let v1:=getD c (toNat b) ((⟨#[]⟩:ByteArray),[]);(Cv k v1.2).bind λ r2=>cond (!r2.2) ((Ef k d.1 v1.1).bind λ r3=>(Ef k d.2 v1.1).bind λ r4=>Ek k (wrap .i64 (e+1)) c f (wrap .i64 (b+1)) g (r3,r4)) (Ek k e c f (wrap .i64 (b+1)) g d)) none) none) (some (e,g,d))
def Fb (k:Nat) (a0:y8):Option (y8×Int):=(A5 k a0).bind λ r1=>(Bb k a0).bind λ r2=>cond (!r2) (some (r1,0)) ((Ek k 0 a0.1 (length a0.1:Int) 0 (([]:List y2),([]:List y2)) r1).bind λ r3=>some (r3.2.2,r3.1))
def Eh (k:Nat) (a0:y9):Option (y9×Int):=(B7 k a0).bind λ r1=>(Fb k a0.2.1).bind λ r2=>some ((r1.1,r2.1,r1.2.2),r2.2)
def D9:Nat→(List ByteArray)→ByteArray→Int→Option ((List ByteArray)×ByteArray×Int)
 |0,_,_,_=>none
 |k+1,c,d,b=>cond (decide (b<(length c:Int))) (cond (decide ((0:Int)≤b)) (cond (decide (b<(length c:Int))) (cond (Op.bytesLess (getD c (toNat b) (⟨#[]⟩:ByteArray)).toList d.toList) (D9 k c d (wrap .i64 (b+1))) (some (c,d,b))) none) none) (some (c,d,b))
def El (k:Nat) (a0:List ByteArray) (a1:ByteArray):Option (List ByteArray):=(D9 k a0 a1 0).bind λ r1=>cond (decide (r1.2.2<(length r1.1:Int))) (cond (decide ((0:Int)≤r1.2.2)) (cond (decide (r1.2.2<(length r1.1:Int))) (cond ((getD r1.1 (toNat r1.2.2) (⟨#[]⟩:ByteArray)).toList==r1.2.1.toList) (some r1.1) (cond (decide ((0:Int)≤r1.2.2)) (cond (decide (r1.2.2≤(length r1.1:Int))) (cond (Nat.ble ((length ([]:List ByteArray)+length (List.take (toNat r1.2.2) r1.1))*16) 140737488355328) (let v3:List ByteArray:=([]:List ByteArray)++(List.take (toNat r1.2.2) r1.1);cond (Nat.ble ((length v3+length [r1.2.1])*16) 140737488355328) (cond (decide ((0:Int)≤r1.2.2)) (cond (decide (r1.2.2≤(length r1.1:Int))) (cond (Nat.ble ((length (v3++[r1.2.1])+length (List.drop (toNat r1.2.2) r1.1))*16) 140737488355328) (some ((v3++[r1.2.1])++(List.drop (toNat r1.2.2) r1.1))) none) none) none) none) none) none) none)) none) none) (cond (decide ((0:Int)≤r1.2.2)) (cond (decide (r1.2.2≤(length r1.1:Int))) (cond (Nat.ble ((length ([]:List ByteArray)+length (List.take (toNat r1.2.2) r1.1))*16) 140737488355328) (let v5:List ByteArray:=([]:List ByteArray)++(List.take (toNat r1.2.2) r1.1);cond (Nat.ble ((length v5+length [r1.2.1])*16) 140737488355328) (cond (decide ((0:Int)≤r1.2.2)) (cond (decide (r1.2.2≤(length r1.1:Int))) (cond (Nat.ble ((length (v5++[r1.2.1])+length (List.drop (toNat r1.2.2) r1.1))*16) 140737488355328) (some ((v5++[r1.2.1])++(List.drop (toNat r1.2.2) r1.1))) none) none) none) none) none) none) none)
def Fc:Nat→(List ByteArray)→(List y2)→Int→Int→y8→Option (List ByteArray)
 |0,_,_,_,_,_=>none
 |k+1,d,c,e,b,f=>cond (decide (b<e)) (cond (decide ((0:Int)≤b)) (cond (decide (b<(length c:Int))) (let v1:=getD c (toNat b) ((⟨#[]⟩:ByteArray),[]);(Fs k f v1.1).bind λ r2=>cond (r2.2==0) ((El k d v1.1).bind λ r3=>Fc k r3 c e (wrap .i64 (b+1)) f) (Fc k d c e (wrap .i64 (b+1)) f)) none) none) (some d)
def Ft (k:Nat) (a0:y8):Option (List ByteArray):=(Fc k ([]:List ByteArray) a0.1 (length a0.1:Int) 0 a0).bind λ r1=>some r1
def Da (k:Nat) (a0:y8) (a1:ByteArray):Option (y8×Bool):=(A5 k a0).bind λ r1=>(Bb k a0).bind λ r2=>cond (!r2) (some (r1,false)) ((Gn k a0.1 a1).bind λ r3=>cond (decide (r3<0)) (some (r1,false)) ((Ef k r1.1 a1).bind λ r4=>some ((r4,r1.2),true)))
def Af:Nat→Int→ByteArray→(List Int)→Bool→Bool→(List Int)→Int→Int→y10→y5→Option (Int×ByteArray×Bool×Bool×y10)
 |0,_,_,_,_,_,_,_,_,_,_=>none
 |k+1,d,e,g,l,j,f,h,c,b,i=>cond (decide (c<h)) (cond (decide ((0:Int)≤c)) (cond (decide (c<(length f:Int))) (let v1:=getD f (toNat c) (0:Int);cond (v1==d) (Af k d e g l true f h (wrap .i64 (c+1)) b i) ((Br g c).bind λ r2=>cond (r2 != 1) (Af k d e g false j f h (wrap .i64 (c+1)) b i) (cond (decide ((0:Int)≤v1)) (cond (decide (v1<(length b.2.2.1:Int))) ((Gi k (getD b.2.2.1 (toNat v1) ((0:Int),(([],[]),([],[])))).2.1 e i true).bind λ r4=>cond (decide ((0:Int)≤v1)) (cond (decide (v1<(length b.2.2.1:Int))) (let v5:=getD b.2.2.1 (toNat v1) ((0:Int),(([],[]),([],[])));let v6:=List.set b.2.2.1 (toNat v1) (v5.1,r4.1,v5.2.2);cond l (cond (r4.2==0) (Af k d e g true j f h (wrap .i64 (c+1)) (b.1,b.2.1,v6,b.2.2.2) i) (Af k d e g (r4.2==1) j f h (wrap .i64 (c+1)) (b.1,b.2.1,v6,b.2.2.2) i)) (Af k d e g false j f h (wrap .i64 (c+1)) (b.1,b.2.1,v6,b.2.2.2) i)) none) none) none) none))) none) none) (some (d,e,l,j,b))
def Ai (k:Nat) (a0:y10) (a1:Int) (a2:ByteArray) (a3:List Int):Option (Bool×y10):=cond (decide ((0:Int)≤a1)) (cond (decide (a1<(length a0.2.2.1:Int))) ((Fs k (getD a0.2.2.1 (toNat a1) ((0:Int),(([],[]),([],[])))).2.1 a2).bind λ r2=>cond (r2.2 != 0) (some (false,a0)) ((As k a0.2.1 a2).bind λ r3=>(Bm k a0 r3).bind λ r4=>(Af k a1 a2 a3 true false r4 (length r4:Int) 0 a0 r2.1).bind λ r5=>cond (!r5.2.2.2.1) (cond r5.2.2.1 (cond (decide ((0:Int)≤r5.1)) (cond (decide (r5.1<(length r5.2.2.2.2.2.2.1:Int))) ((Da k (getD r5.2.2.2.2.2.2.1 (toNat r5.1) ((0:Int),(([],[]),([],[])))).2.1 r5.2.1).bind λ r7=>(Bh k r7.1 r5.2.1).bind λ r8=>cond (decide ((0:Int)≤r5.1)) (cond (decide (r5.1<(length r5.2.2.2.2.2.2.1:Int))) (let v9:=getD r5.2.2.2.2.2.2.1 (toNat r5.1) ((0:Int),(([],[]),([],[])));some (true,(r5.2.2.2.2.1,r5.2.2.2.2.2.1,(List.set r5.2.2.2.2.2.2.1 (toNat r5.1) (v9.1,r8.1,v9.2.2)),r5.2.2.2.2.2.2.2))) none) none) none) none) (some (true,r5.2.2.2.2))) (some (true,r5.2.2.2.2)))) none) none
def E4 (k:Nat) (a0:y10):Option (List Int):=(As k a0.2.1 (⟨#[108,105,115,116]⟩:ByteArray)).bind λ r1=>(Bm k a0 r1).bind λ r2=>some r2
def F6 (a0:y6) (a1:y6):Option (Bool):=cond (!((a0.2.1.1==a1.2.1.1)&&((a0.2.1.2.1==a1.2.1.2.1)&&(a0.2.1.2.2==a1.2.1.2.2)))) ((Bl a1.2.1 a0.2.1).bind λ r1=>some r1) (cond (!(a0.2.2.1==a1.2.2.1)) (some a0.2.2.1) (some (decide (a0.2.2.2 > a1.2.2.2))))
def Cl:Nat→(List y6)→Int→ByteArray→Int→Int→Int→Bool→Int→Option ((List y6)×Int×ByteArray×Int×Int×Int×Bool×Int)
 |0,_,_,_,_,_,_,_,_=>none
 |k+1,c,b,d,e,f,g,h,i=>cond (decide (b > 0)) (cond (decide ((0:Int)≤wrap .i64 (b-1))) (cond (decide (wrap .i64 (b-1)<(length c:Int))) (let v1:=getD c (toNat (wrap .i64 (b-1))) ((⟨#[]⟩:ByteArray),(((0:Int),((0:Int),(0:Int))),(false,(0:Int))));cond (!(Op.bytesLess v1.1.toList d.toList||v1.1.toList==d.toList)) (Cl k c (wrap .i64 (b-1)) d e f g h i) (some (c,b,d,e,f,g,h,i))) none) none) (some (c,b,d,e,f,g,h,i))
def Db:Nat→(List y6)→(List y6)→(List y6)→Int→Int→ByteArray→Int→Int→Int→Bool→Int→Option (Sum (List y6) ((List y6)×ByteArray×Int×Int×Int×Bool×Int))
 |0,_,_,_,_,_,_,_,_,_,_,_=>none
 |k+1,l,d,j,m,b,c,e,f,g,h,i=>cond (decide (b<m)) (cond (decide ((0:Int)≤b)) (cond (decide (b<(length j:Int))) (let v1:=getD j (toNat b) ((⟨#[]⟩:ByteArray),(((0:Int),((0:Int),(0:Int))),(false,(0:Int))));cond (v1.1.toList==c.toList) ((F6 (c,(e,f,g),h,i) v1).bind λ r2=>cond r2 (cond (decide ((0:Int)≤b)) (cond (decide (b<(length d:Int))) (some (.inl (List.set d (toNat b) (c,(e,f,g),h,i)))) none) none) (some (.inl d))) (Db k l d j m (wrap .i64 (b+1)) c e f g h i)) none) none) (some (.inr (l,c,e,f,g,h,i)))
def Bq (k:Nat) (a0:List y6) (a1:y6):Option (List y6):=(Al a0).bind λ r1=>(Db k a0 r1 a0 (length a0:Int) 0 a1.1 a1.2.1.1 a1.2.1.2.1 a1.2.1.2.2 a1.2.2.1 a1.2.2.2).bind λ r2=>Sum.elim (λ y3=>some y3) (λ z4=>(Cl k z4.1 (length z4.1:Int) z4.2.1 z4.2.2.1 z4.2.2.2.1 z4.2.2.2.2.1 z4.2.2.2.2.2.1 z4.2.2.2.2.2.2).bind λ r5=>cond (decide ((0:Int)≤r5.2.1)) (cond (decide (r5.2.1≤(length r5.1:Int))) ((Al (List.take (toNat r5.2.1) r5.1)).bind λ r6=>cond (Nat.ble ((length r6+length [(r5.2.2.1,(r5.2.2.2.1,r5.2.2.2.2.1,r5.2.2.2.2.2.1),r5.2.2.2.2.2.2)])*56) 140737488355328) (let v7:List y6:=r6++[(r5.2.2.1,(r5.2.2.2.1,r5.2.2.2.2.1,r5.2.2.2.2.2.1),r5.2.2.2.2.2.2)];cond (decide ((0:Int)≤r5.2.1)) (cond (decide (r5.2.1≤(length r5.1:Int))) (cond (Nat.ble ((length v7+length (List.drop (toNat r5.2.1) r5.1))*56) 140737488355328) (some (v7++(List.drop (toNat r5.2.1) r5.1))) none) none) none) none) none) none) r2
def Cm:Nat→(List y6)→(List y6)→Int→Int→Option (List y6)
 |0,_,_,_,_=>none
 |k+1,d,c,e,b=>cond (decide (b<e)) (cond (decide ((0:Int)≤b)) (cond (decide (b<(length c:Int))) ((Bq k d (getD c (toNat b) ((⟨#[]⟩:ByteArray),(((0:Int),((0:Int),(0:Int))),(false,(0:Int)))))).bind λ r2=>Cm k r2 c e (wrap .i64 (b+1))) none) none) (some d)
def Bt (k:Nat) (a0:List y6) (a1:List y6):Option (List y6):=(Al a0).bind λ r1=>(Cm k r1 a1 (length a1:Int) 0).bind λ r2=>some r2
def F7 (k:Nat) (a0:y9) (a1:List y6):Option (y9×Bool):=(B7 k a0).bind λ r1=>(Bw k a0).bind λ r2=>cond (!r2) (some (r1,false)) ((Cw k a1).bind λ r3=>cond (!r3) (some (r1,false)) ((Bt k a0.2.2.1 a1).bind λ r4=>cond (decide ((length r4:Int) > 60)) ((B7 k a0).bind λ r5=>some (r5,false)) (some ((r1.1,r1.2.1,r4,r1.2.2.2),true))))
def Ar:Nat→(List y6)→(List Int)→Int→Bool→(List Int)→Int→Int→y10→Option (Bool×y10)
 |0,_,_,_,_,_,_,_,_=>none
 |k+1,e,f,g,i,d,h,c,b=>cond (decide (c<h)) (cond (decide ((0:Int)≤c)) (cond (decide (c<(length d:Int))) (let v1:=getD d (toNat c) (0:Int);cond (v1==g) (Ar k e f g i d h (wrap .i64 (c+1)) b) ((Br f c).bind λ r2=>cond (r2 != 1) (Ar k e f g false d h (wrap .i64 (c+1)) b) (cond (decide ((0:Int)≤v1)) (cond (decide (v1<(length b.2.2.1:Int))) ((F7 k (getD b.2.2.1 (toNat v1) ((0:Int),(([],[]),([],[])))) e).bind λ r4=>cond (decide ((0:Int)≤v1)) (cond (decide (v1<(length b.2.2.1:Int))) (let v6:=List.set b.2.2.1 (toNat v1) r4.1;cond i (Ar k e f g r4.2 d h (wrap .i64 (c+1)) (b.1,b.2.1,v6,b.2.2.2)) (Ar k e f g false d h (wrap .i64 (c+1)) (b.1,b.2.1,v6,b.2.2.2))) none) none) none) none))) none) none) (some (i,b))
def An (k:Nat) (a0:y10) (a1:List y6) (a2:List Int) (a3:Int):Option (Bool×y10):=(E4 k a0).bind λ r1=>(Ar k a1 a2 a3 true r1 (length r1:Int) 0 a0).bind λ r2=>some (r2.1,r2.2)
def Bg (k:Nat) (a0:y10) (a1:Int) (a2:List Int):Option (Bool×y10):=cond (decide ((0:Int)≤a1)) (cond (decide (a1<(length a0.2.2.1:Int))) (cond ((length (getD a0.2.2.1 (toNat a1) ((0:Int),(([],[]),([],[])))).2.2.2:Int)==0) (some (false,a0)) (cond (decide ((0:Int)≤a1)) (cond (decide (a1<(length a0.2.2.1:Int))) (let v2:=getD a0.2.2.1 (toNat a1) ((0:Int),(([],[]),([],[])));cond (decide ((1:Int)≤(length v2.2.2.2:Int))) ((Al (List.take (toNat 1) v2.2.2.2)).bind λ r3=>(An k a0 r3 a2 (-1)).bind λ r4=>cond r4.1 (cond (decide ((0:Int)≤a1)) (cond (decide (a1<(length r4.2.2.2.1:Int))) (let v5:=getD r4.2.2.2.1 (toNat a1) ((0:Int),(([],[]),([],[])));cond (decide ((1:Int)≤(length v5.2.2.2:Int))) ((Al (List.drop (toNat 1) v5.2.2.2)).bind λ r6=>cond (decide ((0:Int)≤a1)) (cond (decide (a1<(length r4.2.2.2.1:Int))) (let v7:=getD r4.2.2.2.1 (toNat a1) ((0:Int),(([],[]),([],[])));some (true,(r4.2.1,r4.2.2.1,(List.set r4.2.2.2.1 (toNat a1) (v7.1,v7.2.1,v7.2.2.1,r6)),r4.2.2.2.2))) none) none) none) none) none) (some (true,r4.2))) none) none) none)) none) none
def Bc (k:Nat) (a0:y10) (a1:Int) (a2:List Int):Option (Bool×y10):=cond (decide ((0:Int)≤a1)) (cond (decide (a1<(length a0.2.2.1:Int))) ((Al (getD a0.2.2.1 (toNat a1) ((0:Int),(([],[]),([],[])))).2.2.1).bind λ r2=>cond ((length r2:Int)==0) (some (false,a0)) ((An k a0 r2 a2 a1).bind λ r3=>cond r3.1 ((E4 k r3.2).bind λ r4=>(B9 k r4 a1).bind λ r5=>cond (!r5) (cond (decide ((0:Int)≤a1)) (cond (decide (a1<(length r3.2.2.2.1:Int))) (let v6:=getD r3.2.2.2.1 (toNat a1) ((0:Int),(([],[]),([],[])));some (true,(r3.2.1,r3.2.2.1,(List.set r3.2.2.2.1 (toNat a1) (v6.1,v6.2.1,([]:List y6),v6.2.2.2)),r3.2.2.2.2))) none) none) (some (true,r3.2))) (some (true,r3.2)))) none) none
def B4:Nat→(List Int)→Int→Int→Int→Int→Int→y10→Option ((List Int)×Int×Int×Int×y10)
 |0,_,_,_,_,_,_,_=>none
 |k+1,b,c,d,e,f,g,h=>cond (decide (g<f)) ((Bg k h c b).bind λ r1=>B4 k b c d e f (wrap .i64 (g+1)) r1.2) (some (b,c,d,e,h))
def B1:Nat→(List Int)→Int→Int→Int→(List ByteArray)→Int→Int→y10→Option ((List Int)×Int×Int×Int×y10)
 |0,_,_,_,_,_,_,_,_=>none
 |k+1,c,d,f,g,e,h,b,i=>cond (decide (b<h)) (cond (decide ((0:Int)≤b)) (cond (decide (b<(length e:Int))) ((Ai k i d (getD e (toNat b) (⟨#[]⟩:ByteArray)) c).bind λ r2=>B1 k c d f g e h (wrap .i64 (b+1)) r2.2) none) none) (some (c,d,f,g,i))
def Bd:Nat→(List Int)→Int→Int→y10→Option y10
 |0,_,_,_,_=>none
 |k+1,e,d,b,c=>cond (decide (b<d)) (cond (decide ((0:Int)≤b)) (cond (decide (b<(length c.2.2.1:Int))) ((Eh k (getD c.2.2.1 (toNat b) ((0:Int),(([],[]),([],[]))))).bind λ r2=>cond (decide ((0:Int)≤b)) (cond (decide (b<(length c.2.2.1:Int))) (let v4:=List.set c.2.2.1 (toNat b) r2.1;cond (decide ((0:Int)≤b)) (cond (decide (b<(length v4:Int))) ((Ft k (getD v4 (toNat b) ((0:Int),(([],[]),([],[])))).2.1).bind λ r6=>(B1 k e b d b r6 (length r6:Int) 0 (c.1,c.2.1,v4,c.2.2.2)).bind λ r7=>cond (decide ((0:Int)≤r7.2.1)) (cond (decide (r7.2.1<(length r7.2.2.2.2.2.2.1:Int))) ((B4 k r7.1 r7.2.1 r7.2.2.1 r7.2.2.2.1 (length (getD r7.2.2.2.2.2.2.1 (toNat r7.2.1) ((0:Int),(([],[]),([],[])))).2.2.2:Int) 0 r7.2.2.2.2).bind λ r9=>(Bc k r9.2.2.2.2 r9.2.1 r9.1).bind λ r10=>Bd k r9.1 r9.2.2.1 (wrap .i64 (r9.2.2.2.1+1)) r10.2) none) none) none) none) none) none) none) none) (some c)
def Ah (k:Nat) (a0:y10):Option y10:=(Ej k).bind λ r1=>(Bd k r1 (length a0.2.2.1:Int) 0 a0).bind λ r2=>some r2
def Gw (k:Nat) (a0:y10):Option y10:=(Ax k a0).bind λ r1=>(B6 k a0).bind λ r2=>cond r2 ((Ah k r1).bind λ r3=>some r3) (some r1)
def Cn:Nat→(List Int)→(List Int)→Int→Option (Sum (Bool) (Unit))
 |0,_,_,_=>none
 |k+1,c,d,b=>cond (decide (b<(length c:Int))) (cond (decide ((0:Int)≤b)) (cond (decide (b<(length c:Int))) (cond (decide ((0:Int)≤b)) (cond (decide (b<(length d:Int))) (cond ((getD c (toNat b) (0:Int)) != (getD d (toNat b) (0:Int))) (some (.inl false)) (Cn k c d (wrap .i64 (b+1)))) none) none) none) none) (some (.inr ()))
def Dt (k:Nat) (a0:List Int) (a1:List Int):Option (Bool):=cond ((length a0:Int) != (length a1:Int)) (some false) ((Cn k a0 a1 0).bind λ r1=>Sum.elim (λ y2=>some y2) (λ z3=>some true) r1)
def Em (k:Nat) (a0:y5) (a1:y5):Option (Bool):=cond ((a0.1.1==a1.1.1)&&((a0.1.2.1==a1.1.2.1)&&(a0.1.2.2==a1.1.2.2))) (cond (a0.2.1==a1.2.1) ((Dt k a0.2.2 a1.2.2).bind λ r1=>some r1) (some false)) (some false)
def Du (k:Nat) (a0:List Int):Option (Bool):=(J0 a0).bind λ r1=>cond r1 (some true) ((Bs k a0).bind λ r2=>(Ca k r2 4 1).bind λ r3=>(Eg k r3 (⟨#[100,111,103]⟩:ByteArray) [119,111,111,102] 5 [0,1,1,1,1,1,1,1]).bind λ r4=>(Cs k r4.1 (⟨#[100,111,103]⟩:ByteArray) [0,1,1,1,1,1,1,1]).bind λ r5=>(Cs k r4.1 (⟨#[100,111,103]⟩:ByteArray) [1]).bind λ r6=>(Gw k r4.1).bind λ r7=>(Cs k r7 (⟨#[100,111,103]⟩:ByteArray) [1]).bind λ r8=>(Cs k r7 (⟨#[100,111,103]⟩:ByteArray) [0,1,1,1,1,1,1,1]).bind λ r9=>cond ((length r3.2.2.1:Int)==(length r2:Int)) (cond (r4.2==0) (cond (r5.2==0) (cond (r6.2==4) (cond (r8.2==0) (cond (r9.2==4) ((Em k r5.1 r8.1).bind λ r10=>cond r10 (some ((I8 r8.1.2.2).toList==(⟨#[119,111,111,102]⟩:ByteArray).toList)) (some false)) (some false)) (some false)) (some false)) (some false)) (some false)) (some false))

def Dz (w:World) (k o:Nat) (cs:List Value):Prop:=∀ j u,cs[j]? = some u→w.cell? ⟨k,o+j,none⟩=some u
def Rows {α:Type} (R:α→List Value→Prop):List α→List Value→Prop
 |[],cs=>cs=[]
 |x::xs,cs=>∃ c d,cs=c++d∧R x c∧Rows R xs d
def U2 (P:Program) (e:TypeId) (n:Nat):Prop:=(P.info? e).map (λ i=>i.size)=some n
def Lm {α:Type} (G:Nat→Prop) (w:World) (R:α→List Value→Prop) (xs:List α) (v:Value):Prop:=
 ∃ a cap cs,v = .slice a xs.length cap∧xs.length≤cap∧Rows R xs cs∧(xs≠[]→∃ k o,a=some ⟨k,o,none⟩∧G k∧Dz w k o cs)
def Ty.rep (P:Program) (G:Nat→Prop) (w:World):(t:Ty)→t.den→List Value→Prop
 |.i k,n,vs=>vs=[.int k n]
 |.b,x,vs=>vs=[.bool x]
 |.s,x,vs=>vs=[.string x]
 |.sl e r,xs,vs=>∃ v,vs=[v]∧U2 P e r.sz∧Lm G w (λ x c=>r.rep P G w x c) xs v
 |.ow e r,xs,vs=>∃ v,vs=[v]∧U2 P e r.sz∧Lm G w (λ x c=>r.rep P G w x c) xs v
 |.pr x y,p,vs=>∃ c d,vs=c++d∧x.rep P G w p.1 c∧y.rep P G w p.2 d
section
variable {P:Program} {G G':Nat→Prop} {w w':World} {α:Type}
def Aka {k:Nat} (h:w'.heap[k]? = w.heap[k]?) (o:Nat):w'.cell? ⟨k,o,none⟩=w.cell? ⟨k,o,none⟩:=by
 simp[World.cell?,h]
def Dz.mono {k o:Nat} {cs:List Value} (h:Dz w k o cs) (hs:w'.heap[k]? = w.heap[k]?):Dz w' k o cs:=
 λ j u hu=>(Aka hs _).trans (h j u hu)
def Rows.mono {R R':α→List Value→Prop} (hR:∀ x c,R x c→R' x c):∀ {xs:List α} {cs:List Value},Rows R xs cs→Rows R' xs cs
 |[],_,h=>h
 |_::_,_,⟨c,d,e,h1,h2⟩=>⟨c,d,e,hR _ _ h1,h2.mono hR⟩
def Lm.mono {R R':α→List Value→Prop} {xs:List α} {v:Value} (h:Lm G w R xs v) (hR:∀ x c,R x c→R' x c) (hG:∀ k,G k→G' k)
  (hw:∀ k,G k→w'.heap[k]? = w.heap[k]?):Lm G' w' R' xs v:=by
 obtain⟨a,cap,cs,e,hc,hr,hx⟩:=h;refine⟨a,cap,cs,e,hc,hr.mono hR,λ hn=>?_⟩;obtain⟨k,o,ea,hk,hcs⟩:=hx hn;exact⟨k,o,ea,hG k hk,hcs.mono (hw k hk)⟩
def Ty.rep_mono (hG:∀ k,G k→G' k) (hw:∀ k,G k→w'.heap[k]? = w.heap[k]?):∀ (t:Ty) (x:t.den) (vs:List Value),t.rep P G w x vs→t.rep P G' w' x vs
 |.i _,_,_,h=>h
 |.b,_,_,h=>h
 |.s,_,_,h=>h
 |.sl _ r,_,_,⟨v,e,hs,h⟩=>⟨v,e,hs,h.mono (λ x c=>Ty.rep_mono hG hw r x c) hG hw⟩
 |.ow _ r,_,_,⟨v,e,hs,h⟩=>⟨v,e,hs,h.mono (λ x c=>Ty.rep_mono hG hw r x c) hG hw⟩
 |.pr x y,p,_,⟨c,d,e,h1,h2⟩=>⟨c,d,e,Ty.rep_mono hG hw x p.1 c h1,Ty.rep_mono hG hw y p.2 d h2⟩
def Ty.rep_len:∀ (t:Ty) (x:t.den) (vs:List Value),t.rep P G w x vs→vs.length=t.sz
 |.i _,_,_,h=>by subst h;rfl
 |.b,_,_,h=>by subst h;rfl
 |.s,_,_,h=>by subst h;rfl
 |.sl _ _,_,_,⟨_,e,_⟩=>by subst e;rfl
 |.ow _ _,_,_,⟨_,e,_⟩=>by subst e;rfl
 |.pr x y,p,_,⟨c,d,e,h1,h2⟩=>by
  subst e;rw[Vi,Ty.rep_len x p.1 c h1,Ty.rep_len y p.2 d h2];rfl
def Rows.len {R:α→List Value→Prop} {n:Nat} (hn:∀ x c,R x c→c.length=n):∀ {xs:List α} {cs:List Value},Rows R xs cs→cs.length=xs.length*n
 |[],_,h=>by simp only[Rows]at h;subst h;simp
 |_::_,_,⟨c,d,e,h1,h2⟩=>by
  subst e;rw[Vi,hn _ _ h1,h2.len hn,Vh,Zb,Zh,B4b]
def Rows.get {R:α→List Value→Prop} {n:Nat} (hn:∀ x c,R x c→c.length=n):∀ {xs:List α} {cs:List Value} (_:Rows R xs cs) (i:Nat) (x:α),xs[i]? = some x→R x ((cs.drop (i*n)).take n)
 |[],_,_,i,x,hx=>by simp at hx
 |y::ys,_,⟨c,d,e,h1,h2⟩,0,x,hx=>by
  simp at hx;subst hx e;have:=hn _ _ h1;simp only[Btb,Yu];rw[← this,C5b];exact h1
 |y::ys,_,⟨c,d,e,h1,h2⟩,i+1,x,hx=>by
  subst e;have hl:=hn _ _ h1;rw[show (i+1)*n=c.length+i*n by rw[hl,Zb,Zh,B4b],← Ym,Zm];exact h2.get hn i x (by simpa using hx)
def Rows.append {R:α→List Value→Prop}:∀ {xs ys:List α} {cs ds:List Value},Rows R xs cs→Rows R ys ds→Rows R (xs++ys) (cs++ds)
 |[],_,_,_,h1,h2=>by simp only[Rows]at h1;subst h1;exact h2
 |_::_,_,_,_,⟨c,d,e,h,h'⟩,h2=>by subst e;exact⟨c,_,by rw[Vo],h,h'.append h2⟩
def Rows.set {R:α→List Value→Prop} {n:Nat} (hn:∀ x c,R x c→c.length=n):∀ {xs:List α} {cs:List Value} (_:Rows R xs cs) (i:Nat) (x:α) (c:List Value),i<xs.length→R x c→
  Rows R (xs.set i x) (cs.take (i*n)++c++cs.drop (i*n+n))
 |[],_,_,i,x,c,hi,_=>by simp at hi
 |y::ys,_,⟨c0,d,e,h1,h2⟩,0,x,c,_,hc=>by
  subst e;have hl:=hn _ _ h1;refine⟨c,d,?_,hc,h2⟩;simp only[Btb,B7b,Wl,Wg,← hl,Zm]
 |y::ys,_,⟨c0,d,e,h1,h2⟩,i+1,x,c,hi,hc=>by
  subst e;have hl:=hn _ _ h1;refine⟨c0,_,?_,h1,h2.set hn i x c (by simpa using hi) hc⟩
  have e1:(i+1)*n=c0.length+i*n:=by rw[hl,Zb,Zh,B4b]
  rw[e1,Zy,Zk,← Ym,Zm];simp[Vo]
def Rows.replicate {R:α→List Value→Prop} {x:α} {c:List Value} (h:R x c):∀ n,Rows R (List.replicate n x) (List.replicate n c).flatten
 |0=>by simp[Rows]
 |n+1=>⟨c,_,by simp[D4b],h,Rows.replicate h n⟩
def Rows.take {R:α→List Value→Prop} {n:Nat} (hn:∀ x c,R x c→c.length=n):∀ {xs:List α} {cs:List Value} (_:Rows R xs cs) (k:Nat),Rows R (xs.take k) (cs.take (k*n))
 |[],_,h,k=>by simp only[Rows]at h;subst h;simp[Rows]
 |_::_,_,⟨c,d,e,h1,h2⟩,0=>by simp[Rows]
 |_::_,_,⟨c,d,e,h1,h2⟩,k+1=>by
  subst e;have hl:=hn _ _ h1;refine⟨c,_,?_,h1,h2.take hn k⟩;rw[show (k+1)*n=c.length+k*n by rw[hl,Zb,Zh,B4b],Zy]
def Rows.drop {R:α→List Value→Prop} {n:Nat} (hn:∀ x c,R x c→c.length=n):∀ {xs:List α} {cs:List Value} (_:Rows R xs cs) (k:Nat),Rows R (xs.drop k) (cs.drop (k*n))
 |[],_,h,k=>by simp only[Rows]at h;subst h;simp[Rows]
 |_::_,_,h@⟨c,d,e,h1,h2⟩,0=>by simpa using h
 |_::_,_,⟨c,d,e,h1,h2⟩,k+1=>by
  subst e;have hl:=hn _ _ h1
  have e1:List.drop ((k+1)*n) (c++d)=List.drop (k*n) d:=by
   rw[show (k+1)*n=c.length+k*n by rw[hl,Zb,Zh,B4b],← Ym,Zm]
  rw[e1];exact h2.drop hn k
def Hy (P:Program) (G:Nat→Prop) (w:World):Lf→Value→Prop
 |.sc v,u=>u=v∧Fia v=true
 |.fz e r xs,u=>(Ty.sl e r).rep P G w xs [u]
 |_,_=>False
inductive J2 {β γ:Type} (R:β→γ→Prop):List β→List γ→Prop
 |nil:J2 R [] []
 |cons {x:β} {y:γ} {xs:List β} {ys:List γ}:R x y→J2 R xs ys→J2 R (x::xs) (y::ys)
def J2.append {β γ:Type} {R:β→γ→Prop} {xs xs':List β} {ys ys':List γ} (h:J2 R xs ys) (h':J2 R xs' ys'):J2 R (xs++xs') (ys++ys'):=by
 induction h with
 |nil=>exact h'
 |cons a _ ih=>exact .cons a ih
def J2.len {β γ:Type} {R:β→γ→Prop} {xs:List β} {ys:List γ} (h:J2 R xs ys):ys.length=xs.length:=by
 induction h with
 |nil=>rfl
 |cons _ _ ih=>simp[ih]
def J2.imp {β γ:Type} {R R':β→γ→Prop} {xs:List β} {ys:List γ} (h:J2 R xs ys) (hi:∀ x y,R x y→R' x y):J2 R' xs ys:=by
 induction h with
 |nil=>exact .nil
 |cons a _ ih=>exact .cons (hi _ _ a) ih
def J2.drop {β γ:Type} {R:β→γ→Prop} {xs:List β} {ys:List γ} (h:J2 R xs ys):∀ n,J2 R (xs.drop n) (ys.drop n):=by
 induction h with
 |nil=>intro n;cases n<;>exact .nil
 |cons a h ih=>intro n;cases n with
  |zero=>exact .cons a h
  |succ n=>exact ih n
def J2.take {β γ:Type} {R:β→γ→Prop} {xs:List β} {ys:List γ} (h:J2 R xs ys):∀ n,J2 R (xs.take n) (ys.take n):=by
 induction h with
 |nil=>intro n;cases n<;>exact .nil
 |cons a h ih=>intro n;cases n with
  |zero=>exact .nil
  |succ n=>exact .cons a (ih n)
def Wv:∀ (t:Ty) (x:t.den),(lvs t x).length=t.sz
 |.i _,_=>rfl
 |.b,_=>rfl
 |.s,_=>rfl
 |.sl _ _,_=>rfl
 |.ow _ _,_=>rfl
 |.pr x y,p=>by
  show (lvs x p.1++lvs y p.2).length=x.sz+y.sz;rw[Vi,Wv x p.1,Wv y p.2]
def Ln:∀ (t:Ty) (x:t.den) (vs:List Value),t.rep P G w x vs→J2 (Hy P G w) (lvs t x) vs
 |.i _,_,_,h=>by subst h;exact .cons ⟨rfl,rfl⟩ .nil
 |.b,_,_,h=>by subst h;exact .cons ⟨rfl,rfl⟩ .nil
 |.s,_,_,h=>by subst h;exact .cons ⟨rfl,rfl⟩ .nil
 |.sl _ _,_,_,⟨_,e,h⟩=>by subst e;exact .cons ⟨_,rfl,h⟩ .nil
 |.ow _ _,_,_,⟨_,e,h⟩=>by subst e;exact .cons ⟨_,rfl,h⟩ .nil
 |.pr x y,p,_,⟨c,d,e,h1,h2⟩=>by subst e;exact(Ln x p.1 c h1).append (Ln y p.2 d h2)
def S6 {α β:Type} (h:α=β) (xs:List α):cast (congrArg List h) xs=xs.map (cast h):=by
 subst h;show xs=List.map (λ x=>x) xs;simp
def Rows.map {β:Type} {R:α→List Value→Prop} {R':β→List Value→Prop} {f:α→β} (hR:∀ x c,R x c→R' (f x) c):∀ {xs:List α} {cs:List Value},Rows R xs cs→Rows R' (xs.map f) cs
 |[],_,h=>h
 |_::_,_,⟨c,d,e,h1,h2⟩=>⟨c,d,e,hR _ _ h1,h2.map hR⟩
def Rows.unmap {β:Type} {R:α→List Value→Prop} {R':β→List Value→Prop} {f:α→β} (hR:∀ x c,R' (f x) c→R x c):∀ {xs:List α} {cs:List Value},Rows R' (xs.map f) cs→Rows R xs cs
 |[],_,h=>h
 |_::_,_,⟨c,d,e,h1,h2⟩=>⟨c,d,e,hR _ _ h1,h2.unmap hR⟩
def Ir:∀ t:Ty,(shp t).sz=t.sz
 |.i _=>rfl
 |.b=>rfl
 |.s=>rfl
 |.sl _ _=>rfl
 |.ow _ _=>rfl
 |.pr x y=>by show (shp x).sz+(shp y).sz=x.sz+y.sz;rw[Ir x,Ir y]
def Lm.map {β:Type} {R:α→List Value→Prop} {R':β→List Value→Prop} {f:α→β} {xs:List α} {v:Value} (hR:∀ x c,R x c↔R' (f x) c):Lm G w R xs v↔Lm G w R' (xs.map f) v:=by
 constructor
 ·rintro⟨a,cap,cs,e,hc,hr,hx⟩;exact⟨a,cap,cs,by rw[Vz];exact e,by rw[Vz];exact hc,hr.map (λ x c=>(hR x c).1),λ hn=>hx (by intro e;subst e;simp at hn)⟩
 ·rintro⟨a,cap,cs,e,hc,hr,hx⟩;rw[Vz]at e hc;exact⟨a,cap,cs,e,hc,hr.unmap (λ x c=>(hR x c).2),λ hn=>hx (by intro e;rw[List.map_eq_nil_iff]at e;exact hn e)⟩
def Paa {α α' β β':Type} (h1:α=α') (h2:β=β') (h:(α×β)=(α'×β')) (x:α×β):(cast h x).1=cast h1 x.1∧(cast h x).2=cast h2 x.2:=by
 subst h1 h2;exact⟨rfl,rfl⟩
def Q1:∀ (t:Ty) (x:t.den) (vs:List Value),t.rep P G w x vs↔(shp t).rep P G w (cast (Gu t).symm x) vs
 |.i _,_,_=>Deb
 |.b,_,_=>Deb
 |.s,_,_=>Deb
 |.sl e r,xs,vs=>by
  have hc:cast (Gu (.sl e r)).symm xs=List.map (cast (Gu r).symm) xs:=S6 (Gu r).symm xs;rw[hc];show (∃ v,vs=[v]∧U2 P e r.sz∧Lm G w (λ x c=>r.rep P G w x c) xs v)↔(∃ v,vs=[v]∧U2 P e (shp r).sz∧Lm G w (λ x c=>(shp r).rep P G w x c) _ v);rw[Ir r];exact exists_congr λ v=>and_congr_right λ _=>and_congr_right λ _=>Lm.map (λ x c=>Q1 r x c)
 |.ow e r,xs,vs=>by
  have hc:cast (Gu (.ow e r)).symm xs=List.map (cast (Gu r).symm) xs:=S6 (Gu r).symm xs;rw[hc];show (∃ v,vs=[v]∧U2 P e r.sz∧Lm G w (λ x c=>r.rep P G w x c) xs v)↔(∃ v,vs=[v]∧U2 P e (shp r).sz∧Lm G w (λ x c=>(shp r).rep P G w x c) _ v);rw[Ir r];exact exists_congr λ v=>and_congr_right λ _=>and_congr_right λ _=>Lm.map (λ x c=>Q1 r x c)
 |.pr x y,p,vs=>by
  obtain⟨e1,e2⟩:=Paa (Gu x).symm (Gu y).symm (Gu (.pr x y)).symm p;show (∃ c d,vs=c++d∧x.rep P G w p.1 c∧y.rep P G w p.2 d)↔(∃ c d,vs=c++d∧(shp x).rep P G w (cast (Gu (.pr x y)).symm p).1 c∧(shp y).rep P G w (cast (Gu (.pr x y)).symm p).2 d)
  have key:∀ (q:(shp x).den×(shp y).den),q.1=cast (Gu x).symm p.1→q.2=cast (Gu y).symm p.2→((∃ c d,vs=c++d∧x.rep P G w p.1 c∧y.rep P G w p.2 d)↔∃ c d,vs=c++d∧(shp x).rep P G w q.1 c∧(shp y).rep P G w q.2 d):=by
   intro q h1 h2;rw[h1,h2];exact exists_congr λ c=>exists_congr λ d=>and_congr_right λ _=>and_congr (Q1 x p.1 c) (Q1 y p.2 d)
  exact key _ e1 e2
def X5a {t u:Ty} (h:u=t) (h2:u.den=t.den) (x:u.den) (vs:List Value):u.rep P G w x vs↔t.rep P G w (cast h2 x) vs:=by
 subst h;exact Deb
def K9a {t u:Ty} (h:shp u=shp t) (x:u.den) (vs:List Value):u.rep P G w x vs↔t.rep P G w (cast (Fha h) x) vs:=by
 rw[Q1 u x vs,Q1 t _ vs,X5a h (congrArg Ty.den h) _ vs];simp only[cast_cast]
def Q2 {r r':Ty} {xs:List r'.den} {ys:List r.den} (h:O3 r r' xs=some ys):∃ e:shp r'=shp r,ys=xs.map (cast (Fha e)):=by
 unfold O3 at h;split at h
 ·rename_i e;simp only[Vc]at h;exact⟨e,by rw[← h];exact S6 (Fha e) xs⟩
 ·cases h
def Ui {r r':Ty} {xs:List r'.den} {ys:List r.den} {cs:List Value} (h:O3 r r' xs=some ys) (hr:Rows (λ x c=>r'.rep P G w x c) xs cs):Rows (λ x c=>r.rep P G w x c) ys cs∧ys.length=xs.length:=by
 obtain⟨e,rfl⟩:=Q2 h;exact⟨hr.map (λ x c hx=>(K9a e x c).1 hx),by rw[Vz]⟩
def Ox {r r':Ty} {e:TypeId} {xs:List r'.den} {ys:List r.den} {vs:List Value} (h:O3 r r' xs=some ys) (hr:(Ty.sl e r').rep P G w xs vs):(Ty.sl e r).rep P G w ys vs:=by
 obtain⟨e1,rfl⟩:=Q2 h;obtain⟨v,ev,hs,hr⟩:=hr
 have hsz:r'.sz=r.sz:=by rw[← Ir r',e1,Ir r]
 exact⟨v,ev,by rw[← hsz];exact hs,(Lm.map (λ x c=>K9a e1 x c)).1 hr⟩
def Uj {r r':Ty} {xs:List r'.den} {ys:List r.den} (h:R7 r r' xs=some ys):(∃ e:r'=r,ys=e ▸ xs)∨(shp r'=shp r∧xs=[]∧ys=[]):=by
 unfold R7 at h;split at h
 ·rename_i e;exact .inl ⟨e,by simpa using h.symm⟩
 ·split at h
  ·rename_i e;split at h
   ·simp only[Vc]at h;exact .inr ⟨e,rfl,h.symm⟩
   ·cases h
  ·cases h
def Uaa:∀ (t:Ty) (l l':List Lf) (x:t.den) (us:List Value),mkT t l=some (x,l')→J2 (Hy P G w) l us→
  ∃ vs ws,us=vs++ws∧t.rep P G w x vs∧J2 (Hy P G w) l' ws:=by
 intro t
 induction t with
 |i k=>
  intro l l' x us h hl
  cases hl with
  |nil=>simp[mkT]at h
  |@cons y u ys us' hy hys=>
   cases y<;>first|(simp[mkT]at h;done)|skip
   rename_i v
   cases v<;>first|(simp[mkT]at h;done)|skip
   rename_i k' n;simp only[mkT]at h
   by_cases hk:k=k'
   ·subst hk;simp at h;obtain⟨rfl,rfl⟩:=h;exact⟨[u],us',rfl,by rw[hy.1];rfl,hys⟩
   ·simp[hk]at h
 |b=>
  intro l l' x us h hl
  cases hl with
  |nil=>simp[mkT]at h
  |@cons y u ys us' hy hys=>
   cases y<;>first|(simp[mkT]at h;done)|skip
   rename_i v
   cases v<;>first|(simp[mkT]at h;done)|skip
   simp[mkT]at h;obtain⟨rfl,rfl⟩:=h;exact⟨[u],us',rfl,by rw[hy.1];rfl,hys⟩
 |s=>
  intro l l' x us h hl
  cases hl with
  |nil=>simp[mkT]at h
  |@cons y u ys us' hy hys=>
   cases y<;>first|(simp[mkT]at h;done)|skip
   rename_i v
   cases v<;>first|(simp[mkT]at h;done)|skip
   simp[mkT]at h;obtain⟨rfl,rfl⟩:=h;exact⟨[u],us',rfl,by rw[hy.1];rfl,hys⟩
 |sl e r _=>
  intro l l' x us h hl
  cases hl with
  |nil=>simp[mkT]at h
  |@cons y u ys us' hy hys=>
   cases y<;>first|(simp[mkT]at h;done)|exact hy.elim|skip
   rename_i e' r' xs;simp only[mkT]at h;cases he:Nat.beq e e'
   ·rw[he]at h;simp at h
   rw[he]at h;simp only[cond_true]at h;split at h
   ·rename_i zs hz
    have:e=e':=by simpa using he
    subst this;simp at h;obtain⟨rfl,rfl⟩:=h;exact⟨[u],us',rfl,Ox hz hy,hys⟩
   ·cases h
 |ow e r _=>
  intro l l' x us h hl
  cases hl with
  |nil=>simp[mkT]at h
  |@cons y u ys us' hy hys=>
   cases y<;>first|(simp[mkT]at h;done)|exact hy.elim
 |pr x y ihx ihy=>
  intro l l' p us h hl;simp only[mkT]at h;split at h
  ·rename_i a l1 h1;split at h
   ·rename_i b l2 h2;simp at h;obtain⟨rfl,rfl⟩:=h;obtain⟨vs,ws,rfl,r1,hw1⟩:=ihx _ _ _ _ h1 hl;obtain⟨vs2,ws2,rfl,r2,hw2⟩:=ihy _ _ _ _ h2 hw1;exact⟨vs++vs2,ws2,by rw[Vo],⟨vs,vs2,rfl,r1,r2⟩,hw2⟩
   ·cases h
  ·cases h
def S7 {t:Ty} {l:List Lf} {x:t.den} {us:List Value} (h:mkW t l=some x) (hl:J2 (Hy P G w) l us):t.rep P G w x us:=by
 unfold mkW at h;split at h
 ·rename_i y hy;simp at h;subst h;obtain⟨vs,ws,rfl,hr,hw⟩:=Uaa _ _ _ _ _ hy hl;cases hw;rw[Yc];exact hr
 ·cases h
def Hy.mono {x:Lf} {u:Value} (h:Hy P G w x u) (hG:∀ k,G k→G' k) (hw:∀ k,G k→w'.heap[k]? = w.heap[k]?):Hy P G' w' x u:=by
 cases x<;>first|exact h|exact Ty.rep_mono hG hw _ _ _ h
end
def E3 {α:Type} (R:α→List Value→List Nat→Prop):List α→List Value→List Nat→Prop
 |[],cs,bs=>cs=[]∧bs=[]
 |x::xs,cs,bs=>∃ c d b1 b2,cs=c++d∧bs=b1++b2∧R x c b1∧E3 R xs d b2
def Ty.dep (P:Program) (G:Nat→Prop) (w:World):(t:Ty)→t.den→List Value→List Nat→Prop
 |.i k,n,vs,bs=>vs=[.int k n]∧bs=[]
 |.b,x,vs,bs=>vs=[.bool x]∧bs=[]
 |.s,x,vs,bs=>vs=[.string x]∧bs=[]
 |.sl e r,xs,vs,bs=>(Ty.sl e r).rep P G w xs vs∧bs=[]
 |.ow e r,xs,vs,bs=>∃ v cs b2,vs=[v]∧U2 P e r.sz∧w.ownsRow 0 e r.sz v xs.length cs∧E3 (λ x c b=>r.dep P G w x c b) xs cs b2∧bs=v.ownBlock.toList++b2
 |.pr x y,p,vs,bs=>∃ c d b1 b2,vs=c++d∧bs=b1++b2∧x.dep P G w p.1 c b1∧y.dep P G w p.2 d b2
section
variable {P:Program} {G G':Nat→Prop} {w w':World} {α:Type}
def Mi {w w':World} {e n m:Nat} {cs:List Value} {u:Value} (h:w.ownsRow 0 e n u m cs) (hk:∀ k,u.ownBlock=some k→w'.heap[k]? = w.heap[k]?):w'.ownsRow 0 e n u m cs:=by
 refine⟨h.1,?_⟩;rcases h.2 with hn|⟨g,cap,cur,rfl,hb,hg,rest⟩
 ·exact .inl hn
 ·exact .inr ⟨g,cap,cur,rfl,hb,(hk g rfl).trans hg,rest⟩
def Et {w:World} {e n m:Nat} {cs:List Value} {u:Value} (h:w.ownsRow 0 e n u m cs):
  (u = .slice none 0 0∧m=0∧cs=[])∨∃ k cap cur,u = .slice (some ⟨k,0,none⟩) m cap∧w.heap[k]? = some (.cells cur e (0,0))∧m≤cap∧cap≤maxLen∧cur.size=cap*n∧cur.toList.take (m*n)=cs:=by
 rcases h.2 with⟨e1,e2⟩|⟨k,cap,cur,e1,_,e2,e3,e4,e5,e6⟩
 ·refine .inl ⟨e1,e2,?_⟩;have:=h.1;rw[e2,Btb]at this;exact Wk this
 ·exact .inr ⟨k,cap,cur,e1,e2,e3,e4,e5,e6⟩
def Hg {w:World} {k:Nat} {cur:Array Value} {e:TypeId} {f:Nat×Nat} {cs:List Value} {n:Nat} (h:w.heap[k]? = some (.cells cur e f)) (ht:cur.toList.take n=cs):Dz w k 0 cs:=by
 intro j u hu;subst ht;rw[Wm]at hu;split at hu
 ·simp[World.cell?,h]
  simpa using hu
 ·cases hu
def E3.mono {R R':α→List Value→List Nat→Prop}:∀ {xs:List α} {cs:List Value} {bs:List Nat},(∀ x c b,(∀ k∈b,k∈bs)→R x c b→R' x c b)→E3 R xs cs bs→E3 R' xs cs bs
 |[],_,_,_,h=>h
 |_::_,_,_,hR,⟨c,d,b1,b2,e1,e2,h1,h2⟩=>⟨c,d,b1,b2,e1,e2,hR _ _ _ (λ k hk=>by rw[e2];exact Vy _ hk) h1,h2.mono (λ x c b hb h=>hR x c b (λ k hk=>by rw[e2];exact Vn _ (hb k hk)) h)⟩
def Ty.dep_mono (hG:∀ k,G k→G' k) (hw:∀ k,G k→w'.heap[k]? = w.heap[k]?):∀ (t:Ty) (x:t.den) (vs:List Value) (bs:List Nat),(∀ k∈bs,w'.heap[k]? = w.heap[k]?)→t.dep P G w x vs bs→t.dep P G' w' x vs bs
 |.i _,_,_,_,_,h=>h
 |.b,_,_,_,_,h=>h
 |.s,_,_,_,_,h=>h
 |.sl e r,xs,vs,_,_,⟨h,hb⟩=>⟨Ty.rep_mono hG hw (.sl e r) xs vs h,hb⟩
 |.ow _ r,_,_,bs,hb,⟨v,cs,b2,e,hs,ho,hd,eb⟩=>⟨v,cs,b2,e,hs,Mi ho (λ k hk=>hb k (by rw[eb,hk];simp)),hd.mono (λ x c b hbb h=>Ty.dep_mono hG hw r x c b (λ k hk=>hb k (by rw[eb];exact Vn _ (hbb k hk))) h),eb⟩
 |.pr x y,p,_,bs,hb,⟨c,d,b1,b2,e,eb,h1,h2⟩=>⟨c,d,b1,b2,e,eb,Ty.dep_mono hG hw x p.1 c b1 (λ k hk=>hb k (by rw[eb];exact Vy _ hk)) h1,Ty.dep_mono hG hw y p.2 d b2 (λ k hk=>hb k (by rw[eb];exact Vn _ hk)) h2⟩
def E3.rows {R:α→List Value→List Nat→Prop} {R':α→List Value→Prop}:∀ {xs:List α} {cs:List Value} {bs:List Nat},(∀ x c b,(∀ k∈b,k∈bs)→R x c b→R' x c)→E3 R xs cs bs→Rows R' xs cs
 |[],_,_,_,h=>h.1
 |_::_,_,_,hR,⟨c,d,b1,b2,e1,e2,h1,h2⟩=>⟨c,d,e1,hR _ _ _ (λ k hk=>by rw[e2];exact Vy _ hk) h1,h2.rows (λ x c b hb h=>hR x c b (λ k hk=>by rw[e2];exact Vn _ (hb k hk)) h)⟩
def Ty.dep_rep (hG:∀ k,G k→G' k):∀ (t:Ty) (x:t.den) (vs:List Value) (bs:List Nat),(∀ k∈bs,G' k)→t.dep P G w x vs bs→t.rep P G' w x vs
 |.i _,_,_,_,_,h=>h.1
 |.b,_,_,_,_,h=>h.1
 |.s,_,_,_,_,h=>h.1
 |.sl e r,xs,vs,_,_,⟨h,_⟩=>Ty.rep_mono hG (λ _ _=>rfl) (.sl e r) xs vs h
 |.ow e r,xs,_,bs,hb,⟨v,cs,b2,ev,hs,ho,hd,eb⟩=>by
  have hr:Rows (λ x c=>r.rep P G' w x c) xs cs:=hd.rows (λ x c b hbb h=>Ty.dep_rep hG r x c b (λ k hk=>hb k (by rw[eb];exact Vn _ (hbb k hk))) h);refine⟨v,ev,hs,?_⟩;rcases Et ho with⟨rfl,hm,rfl⟩|⟨k,cap,cur,rfl,hg,hc,_,_,ht⟩
  ·refine⟨none,0,[],?_,by omega,hr,λ hn=>?_⟩
   ·rw[hm]
   ·exact absurd (Wk hm) hn
  ·exact⟨_,cap,cs,rfl,hc,hr,λ _=>⟨k,0,rfl,hb k (by rw[eb];simp[Value.ownBlock]),Hg hg ht⟩⟩
 |.pr x y,p,_,bs,hb,⟨c,d,b1,b2,e,eb,h1,h2⟩=>⟨c,d,e,Ty.dep_rep hG x p.1 c b1 (λ k hk=>hb k (by rw[eb];exact Vy _ hk)) h1,Ty.dep_rep hG y p.2 d b2 (λ k hk=>hb k (by rw[eb];exact Vn _ hk)) h2⟩
def Ty.dep_flat:∀ (t:Ty) (x:t.den) (vs:List Value) (bs:List Nat),Ib t=true→(t.dep P G w x vs bs↔t.rep P G w x vs∧bs=[])
 |.i _,_,_,_,_=>Deb
 |.b,_,_,_,_=>Deb
 |.s,_,_,_,_=>Deb
 |.sl _ _,_,_,_,_=>Deb
 |.ow _ _,_,_,_,h=>by simp[Ib]at h
 |.pr x y,p,vs,bs,h=>by
  simp only[Ib,Va]at h;constructor
  ·rintro⟨c,d,b1,b2,e,eb,h1,h2⟩;obtain⟨r1,rfl⟩:=(Ty.dep_flat x p.1 c b1 h.1).1 h1;obtain⟨r2,rfl⟩:=(Ty.dep_flat y p.2 d b2 h.2).1 h2;exact⟨⟨c,d,e,r1,r2⟩,eb⟩
  ·rintro⟨⟨c,d,e,r1,r2⟩,rfl⟩;exact⟨c,d,[],[],e,rfl,(Ty.dep_flat x p.1 c [] h.1).2 ⟨r1,rfl⟩,(Ty.dep_flat y p.2 d [] h.2).2 ⟨r2,rfl⟩⟩
def E3.flat {R:α→List Value→List Nat→Prop} {R':α→List Value→Prop} (hR:∀ x c b,R x c b↔R' x c∧b=[]):∀ {xs:List α} {cs:List Value} {bs:List Nat},E3 R xs cs bs↔Rows R' xs cs∧bs=[]
 |[],_,_=>Deb
 |x::xs,cs,bs=>by
  constructor
  ·rintro⟨c,d,b1,b2,e,eb,h1,h2⟩;obtain⟨r1,rfl⟩:=(hR x c b1).1 h1;obtain⟨r2,rfl⟩:=(E3.flat hR).1 h2;exact⟨⟨c,d,e,r1,r2⟩,eb⟩
  ·rintro⟨⟨c,d,e,r1,r2⟩,rfl⟩;exact⟨c,d,[],[],e,rfl,(hR x c []).2 ⟨r1,rfl⟩,(E3.flat hR).2 ⟨r2,rfl⟩⟩
def Ty.dep_len:∀ (t:Ty) (x:t.den) (vs:List Value) (bs:List Nat),t.dep P G w x vs bs→vs.length=t.sz
 |.i _,_,_,_,h=>by obtain⟨rfl,_⟩:=h;rfl
 |.b,_,_,_,h=>by obtain⟨rfl,_⟩:=h;rfl
 |.s,_,_,_,h=>by obtain⟨rfl,_⟩:=h;rfl
 |.sl e r,xs,vs,_,h=>Ty.rep_len (.sl e r) xs vs h.1
 |.ow _ _,_,_,_,⟨_,_,_,e,_⟩=>by subst e;rfl
 |.pr x y,p,_,_,⟨c,d,b1,b2,e,_,h1,h2⟩=>by
  subst e;rw[Vi,Ty.dep_len x p.1 c b1 h1,Ty.dep_len y p.2 d b2 h2];rfl
def E3.len {R:α→List Value→List Nat→Prop} {n:Nat} (hn:∀ x c b,R x c b→c.length=n):∀ {xs:List α} {cs:List Value} {bs:List Nat},E3 R xs cs bs→cs.length=xs.length*n
 |[],_,_,h=>by obtain⟨rfl,_⟩:=h;simp
 |_::_,_,_,⟨c,d,b1,b2,e,_,h1,h2⟩=>by
  subst e;rw[Vi,hn _ _ _ h1,h2.len hn,Vh,Zb,Zh,B4b]
def E3.take {R:α→List Value→List Nat→Prop} {n:Nat} (hn:∀ x c b,R x c b→c.length=n):∀ {xs:List α} {cs:List Value} {bs:List Nat} (_:E3 R xs cs bs) (k:Nat),∃ b',E3 R (xs.take k) (cs.take (k*n)) b'∧b'.Sublist bs
 |[],_,_,h,k=>by obtain⟨rfl,rfl⟩:=h;exact⟨[],by simp[E3],Cob _⟩
 |_::_,_,_,⟨c,d,b1,b2,e,eb,h1,h2⟩,0=>⟨[],by simp[E3],List.nil_sublist _⟩
 |_::_,_,_,⟨c,d,b1,b2,e,eb,h1,h2⟩,k+1=>by
  subst e eb;have hl:=hn _ _ _ h1;obtain⟨b',h3,h4⟩:=h2.take hn k;refine⟨b1++b',⟨c,_,b1,b',?_,rfl,h1,h3⟩,(Cob b1).append h4⟩;rw[show (k+1)*n=c.length+k*n by rw[hl,Zb,Zh,B4b],Zy]
def E3.drop {R:α→List Value→List Nat→Prop} {n:Nat} (hn:∀ x c b,R x c b→c.length=n):∀ {xs:List α} {cs:List Value} {bs:List Nat} (_:E3 R xs cs bs) (k:Nat),∃ b',E3 R (xs.drop k) (cs.drop (k*n)) b'∧b'.Sublist bs
 |[],_,_,h,k=>by obtain⟨rfl,rfl⟩:=h;exact⟨[],by simp[E3],Cob _⟩
 |x::xs,cs,bs,h@⟨c,d,b1,b2,e,eb,h1,h2⟩,0=>⟨bs,by simpa using h,Cob _⟩
 |_::_,_,_,⟨c,d,b1,b2,e,eb,h1,h2⟩,k+1=>by
  subst e eb;have hl:=hn _ _ _ h1;obtain⟨b',h3,h4⟩:=h2.drop hn k;refine⟨b',?_,h4.trans (Bkb b1 b2)⟩
  have e1:List.drop ((k+1)*n) (c++d)=List.drop (k*n) d:=by
   rw[show (k+1)*n=c.length+k*n by rw[hl,Zb,Zh,B4b],← Ym,Zm]
  rw[e1];exact h3
def E3.append {R:α→List Value→List Nat→Prop}:∀ {xs ys:List α} {cs ds:List Value} {bs es:List Nat},E3 R xs cs bs→E3 R ys ds es→E3 R (xs++ys) (cs++ds) (bs++es)
 |[],_,_,_,_,_,h1,h2=>by obtain⟨rfl,rfl⟩:=h1;exact h2
 |_::_,_,_,_,_,_,⟨c,d,b1,b2,e,eb,h,h'⟩,h2=>by subst e eb;exact⟨c,_,b1,_,by rw[Vo],by rw[Vo],h,h'.append h2⟩
def E3.get {R:α→List Value→List Nat→Prop} {n:Nat} (hn:∀ x c b,R x c b→c.length=n):∀ {xs:List α} {cs:List Value} {bs:List Nat} (_:E3 R xs cs bs) (i:Nat) (x:α),xs[i]? = some x→∃ b,R x ((cs.drop (i*n)).take n) b∧b.Sublist bs
 |[],_,_,_,i,x,hx=>by simp at hx
 |y::ys,_,_,⟨c,d,b1,b2,e,eb,h1,h2⟩,0,x,hx=>by
  simp at hx;subst hx e eb;have:=hn _ _ _ h1;simp only[Btb,Yu];rw[← this,C5b];exact⟨b1,h1,Cdb b1 b2⟩
 |y::ys,_,_,⟨c,d,b1,b2,e,eb,h1,h2⟩,i+1,x,hx=>by
  subst e eb;have hl:=hn _ _ _ h1;rw[show (i+1)*n=c.length+i*n by rw[hl,Zb,Zh,B4b],← Ym,Zm];obtain⟨b,h3,h4⟩:=h2.get hn i x (by simpa using hx);exact⟨b,h3,h4.trans (Bkb b1 b2)⟩
def Ty.dep_all:∀ (t:Ty) (x:t.den) (vs:List Value) (bs:List Nat),G0 t=true→(∀ k∈bs,w'.heap[k]? = w.heap[k]?)→t.dep P G w x vs bs→t.dep P G' w' x vs bs
 |.i _,_,_,_,_,_,h=>h
 |.b,_,_,_,_,_,h=>h
 |.s,_,_,_,_,_,h=>h
 |.sl _ _,_,_,_,h,_,_=>by simp[G0]at h
 |.ow _ r,_,_,bs,ha,hb,⟨v,cs,b2,e,hs,ho,hd,eb⟩=>⟨v,cs,b2,e,hs,Mi ho (λ k hk=>hb k (by rw[eb,hk];simp)),hd.mono (λ x c b hbb h=>Ty.dep_all r x c b ha (λ k hk=>hb k (by rw[eb];exact Vn _ (hbb k hk))) h),eb⟩
 |.pr x y,p,_,bs,ha,hb,⟨c,d,b1,b2,e,eb,h1,h2⟩=>by
  simp only[G0,Va]at ha;exact⟨c,d,b1,b2,e,eb,Ty.dep_all x p.1 c b1 ha.1 (λ k hk=>hb k (by rw[eb];exact Vy _ hk)) h1,Ty.dep_all y p.2 d b2 ha.2 (λ k hk=>hb k (by rw[eb];exact Vn _ hk)) h2⟩
end

end Go.Proofs.Ytcpligincipmhaa.Vf
