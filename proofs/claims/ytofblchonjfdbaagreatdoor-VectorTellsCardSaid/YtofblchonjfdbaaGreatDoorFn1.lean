import Derived.Test.YtofblchonjfdbaaGreatDoorBase
import Derived.Test.YtofblchonjfdbaaGreatDoorEnv
import Derived.Test.YtofblchonjfdbaaGreatDoorEvC
import Derived.KernelRfl
namespace Go.Proofs.YtofblchonjfdbaaGreatDoor
open Go Go.Ev
noncomputable section
variable {R : Type}
def Qfj:ByteArray:=ByteArray.mk (List.toArray (List.append (List.append [0,1,2,2,3,3,3,3,4,4,4,4,4,4,4,4,5,5,5,5,5,5,5,5,5,5,5,5,5,5,5,5,6,6,6,6,6,6,6,6,6,6,6,6,6,6,6,6,6,6,6,6,6,6,6,6,6,6,6,6,6,6,6,6] [7,7,7,7,7,7,7,7,7,7,7,7,7,7,7,7,7,7,7,7,7,7,7,7,7,7,7,7,7,7,7,7,7,7,7,7,7,7,7,7,7,7,7,7,7,7,7,7,7,7,7,7,7,7,7,7,7,7,7,7,7,7,7,7]) (List.append [8,8,8,8,8,8,8,8,8,8,8,8,8,8,8,8,8,8,8,8,8,8,8,8,8,8,8,8,8,8,8,8,8,8,8,8,8,8,8,8,8,8,8,8,8,8,8,8,8,8,8,8,8,8,8,8,8,8,8,8,8,8,8,8] [8,8,8,8,8,8,8,8,8,8,8,8,8,8,8,8,8,8,8,8,8,8,8,8,8,8,8,8,8,8,8,8,8,8,8,8,8,8,8,8,8,8,8,8,8,8,8,8,8,8,8,8,8,8,8,8,8,8,8,8,8,8,8,8])))
set_option maxRecDepth 100000
set_option maxHeartbeats 4000000
@[match_pattern] abbrev Ai (n : Int) : AV := AV.int .i64 n
@[match_pattern] abbrev Au (n : Int) : AV := AV.int .u64 n
@[match_pattern] abbrev Ab (b : Bool) : AV := AV.bool b
@[match_pattern] abbrev Ap (a b : Nat) : AV := AV.ptr a b
@[match_pattern] abbrev Fu (xs : List Int) : AV := AV.fsl (Blk.ints .u64 xs)
@[match_pattern] abbrev HA (vs : List AV) : HB := HB.live (Blk.any vs)
@[match_pattern] abbrev HU (xs : List Int) : HB := HB.live (Blk.ints .u64 xs)
@[match_pattern] abbrev HO (bs : List Bool) : HB := HB.live (Blk.bools bs)
def Qk0 (v0 : Int) (K0 : Int → Option R) : Option R :=
 K0 (Qu .i64 (QB .i64 (Qe .i64 v0 64) 1) 64)
def QaL:=Qa (@Qk0 R)
theorem QmR : @QaL R = @Qk0 R:=Q2 _
def QmS (v0 : Int) (K0 : Int → Option R) : Option R :=
 sel (decide (v0 ≤ 0))
 (K0 0)
 (sel (decide (0 ≤ max2 0 (QB .i64 64 v0)))
 (K0 (ZC .u64 18446744073709551615 (max2 0 (QB .i64 64 v0))))
 (none))
def Q0h:=Qa (@QmS R)
theorem QoA : @Q0h R = @QmS R:=Q2 _
def Qcf (v0 : Int) (v1 : List Int) (K0 : Bool → Option R) : Option R :=
 sel (decide (YP v0 64 = 0))
 (K0 true)
 (sel (decide (0 ≤ QB .i64 (↑(List.length v1) : Int) 1))
 (sel (decide (QB .i64 (↑(List.length v1) : Int) 1 < (↑(List.length v1) : Int)))
 (Q0h (YP v0 64)
 (fun v2 => Y3 (decide (Qj6 .u64 (List.getD v1 (Int.toNat (QB .i64 (↑(List.length v1) : Int) 1)) 0) v2 = 0)) (fun (v3 : Bool) =>
 K0 v3)))
 (none))
 (none))
def Qbm:=Qa (@Qcf R)
theorem Qfk : @Qbm R = @Qcf R:=Q2 _
def Qk1 (v0 : Int) (v1 : List Int) (K0 : Bool → Option R) : Option R :=
 sel (decide (v0 < 0))
 (K0 false)
 (sel (decide (1048576 < v0))
 (K0 false)
 (QaL v0
 (fun v2 => sel (!decide ((↑(List.length v1) : Int) = v2))
 (K0 false)
 (Qbm v0 v1
 (fun v3 => K0 v3)))))
def Ub:=Qa (@Qk1 R)
theorem QmT : @Ub R = @Qk1 R:=Q2 _
def UJ (v0 : Int) (K0 : Int → Option R) : Option R :=
 Y3 (ZC .u64 (Qe .u64 (J2 .u64 (ZC .u64 (Qe .u64 (J2 .u64 (ZC .u64 v0 1) 6148914691236517205) (J2 .u64 v0 6148914691236517205)) 2) 3689348814741910323) (J2 .u64 (Qe .u64 (J2 .u64 (ZC .u64 v0 1) 6148914691236517205) (J2 .u64 v0 6148914691236517205)) 3689348814741910323)) 4) (fun (v1 : Int) =>
 Y3 (Qe .u64 v1 (Qe .u64 (J2 .u64 (ZC .u64 (Qe .u64 (J2 .u64 (ZC .u64 v0 1) 6148914691236517205) (J2 .u64 v0 6148914691236517205)) 2) 3689348814741910323) (J2 .u64 (Qe .u64 (J2 .u64 (ZC .u64 v0 1) 6148914691236517205) (J2 .u64 v0 6148914691236517205)) 3689348814741910323))) (fun (v2 : Int) =>
 Y3 (Qe .u64 (Qe .u64 (Qe .u64 (J2 .u64 v2 1085102592571150095) (ZC .u64 (J2 .u64 v2 1085102592571150095) 8)) (ZC .u64 (Qe .u64 (J2 .u64 v2 1085102592571150095) (ZC .u64 (J2 .u64 v2 1085102592571150095) 8)) 16)) (ZC .u64 (Qe .u64 (Qe .u64 (J2 .u64 v2 1085102592571150095) (ZC .u64 (J2 .u64 v2 1085102592571150095) 8)) (ZC .u64 (Qe .u64 (J2 .u64 v2 1085102592571150095) (ZC .u64 (J2 .u64 v2 1085102592571150095) 8)) 16)) 32)) (fun (v3 : Int) =>
 K0 (J2 .i64 (QV .i64 v3) 127))))
def JZ:=Qa (@UJ R)
theorem Q67 : @JZ R = @UJ R:=Q2 _
def Qpk (v0 : Int) (K0 : Int → Option R) : Option R :=
 JZ v0
 (fun v1 => K0 v1)
def Q37:=Qa (@Qpk R)
theorem Qq3 : @Q37 R = @Qpk R:=Q2 _
def Q97 (v0 v1 v2 v3 : Int) (v4 : Bool) (v5 : Int) (v6 : List Int) (v7 v8 : Int) (v9 : List Int) (va vb : Nat) (vc vd : List Int) (K0 : Int → Int → Int → Int → Int → List Int → Int → Int → List Int → Nat → Nat → List Int → List Int → Option R) : Option R :=
 sel v4
 (sel (decide (List.length vc = va))
 (sel (decide ((va + 1) * 8 ≤ 140737488355328))
 (Y3 (vc ++ [v0]) (fun (ve : List Int) =>
 K0 v0 v1 v2 v3 v5 v6 v7 v8 v9 (va + 1) vb ve vd))
 (none))
 (none))
 (K0 v0 v1 v2 v3 v5 v6 v7 v8 v9 va vb vc vd)
def Q0i:=Qa (@Q97 R)
theorem QcD : @Q0i R = @Q97 R:=Q2 _
def Q98 (v0 v1 v2 v3 v4 : Int) (v5 : List Int) (v6 v7 : Int) (v8 : List Int) (v9 va : Nat) (vb vc : List Int) (K0 : Int → Int → Int → Int → List Int → Int → Int → List Int → Nat → Nat → List Int → List Int → Option R) : Option R :=
 sel (decide (v1 < (↑(List.length v5) : Int)))
 (sel (decide (0 ≤ Qu .i64 v1 8))
 (sel (decide (Qu .i64 v1 8 < (↑v9 : Int)))
 (sel (decide (Int.toNat (Qu .i64 v1 8) < List.length vb))
 (sel (decide (List.length vc = va))
 (sel (decide ((va + 1) * 8 ≤ 140737488355328))
 (Y3 (vc ++ [QB .i64 v0 (List.getD vb (Int.toNat (Qu .i64 v1 8)) 0)]) (fun (vd : List Int) =>
 sel (decide (0 ≤ v1))
 (sel (decide (v1 < (↑(List.length v5) : Int)))
 (Q37 (List.getD v5 (Int.toNat v1) 0)
 (fun ve => K0 (Qe .i64 v0 ve) v2 v3 v4 v5 v6 v7 v8 v9 (va + 1) vb vd))
 (none))
 (none)))
 (none))
 (none))
 (none))
 (none))
 (none))
 (K0 v0 v2 v3 v4 v5 v6 v7 v8 v9 va vb vc)
def YQ:=Qa (@Q98 R)
theorem QcE : @YQ R = @Q98 R:=Q2 _
def QaM (rec : Int → Int → Int → Int → List Int → Int → Int → List Int → Nat → Nat → List Int → List Int → Option R) (v0 v1 v2 v3 : Int) (v4 : List Int) (v5 v6 : Int) (v7 : List Int) (v8 v9 : Nat) (va vb : List Int) (K0 : Int → Int → List Int → Nat → Nat → List Int → List Int → Option R) : Option R :=
 sel (decide (v2 < v1))
 (sel (decide (YP v2 8 = 0))
 (Q0i v0 v2 v1 v2 (decide (UC .i64 v2 64 ≤ v3)) v3 v4 v5 v6 v7 v8 v9 va vb
 (fun vc vd ve vf vg vh vi vj vk vl vm vn vo => YQ vc vd ve vf vg vh vi vj vk vl vm vn vo
 (fun vp vq vr vs vt vu vv vw vx vy vz v10 => rec vp vq (Qe .i64 vr 1) vs vt vu vv vw vx vy vz v10)))
 (Q0i v0 v2 v1 v2 false v3 v4 v5 v6 v7 v8 v9 va vb
 (fun v11 v12 v13 v14 v15 v16 v17 v18 v19 v1a v1b v1c v1d => YQ v11 v12 v13 v14 v15 v16 v17 v18 v19 v1a v1b v1c v1d
 (fun v1e v1f v1g v1h v1i v1j v1k v1l v1m v1n v1o v1p => rec v1e v1f (Qe .i64 v1g 1) v1h v1i v1j v1k v1l v1m v1n v1o v1p))))
 (K0 v5 v6 v7 v8 v9 va vb)
def Z8 (K0 : Int → Int → List Int → Nat → Nat → List Int → List Int → Option R) : Nat → Int → Int → Int → Int → List Int → Int → Int → List Int → Nat → Nat → List Int → List Int → Option R
 | 0, _, _, _, _, _, _, _, _, _, _, _, _ => none
 | N + 1, v0, v1, v2, v3, v4, v5, v6, v7, v8, v9, va, vb => QaM (Z8 K0 N) v0 v1 v2 v3 v4 v5 v6 v7 v8 v9 va vb K0
def Q5N (v0 v1 v2 v3 : Int) (v4 : List Int) (v5 v6 : Int) (v7 : List Int) (v8 v9 : Nat) (va vb : List Int) (K0 : Int → Int → List Int → Nat → Nat → List Int → List Int → Option R) : Option R :=
 Z8 K0 NR v0 v1 v2 v3 v4 v5 v6 v7 v8 v9 va vb
def Qef:=Qa (@Q5N R)
theorem Qeg : @Qef R = @Q5N R:=Q2 _
def Qgk (v0 : Int) (v1 : List Int) (K0 : Int → List Int → List Int → List Int → Int → Option R) : Option R :=
 Ub v0 v1
 (fun v2 => sel (!v2)
 (K0 0 [] [] [] 2)
 (Qef 0 (Qe .i64 (↑(List.length v1) : Int) 1) 0 v0 v1 0 v0 v1 0 0 [] []
 (fun _ v4 v5 v6 v7 v8 v9 => sel (decide (v6 = List.length v8))
 (sel (decide (v7 = List.length v9))
 (K0 v4 v5 v8 v9 0)
 (none))
 (none))))
def QbU:=Qa (@Qgk R)
theorem QkR : @QbU R = @Qgk R:=Q2 _
def Q7x (v0 v1 : Int) (v2 : Bool) (v3 : Int) (v4 : List Int) (K0 : Int → Int → Option R) (K1 : Int → Int → Int → List Int → Option R) : Option R :=
 sel v2
 (K0 0 3)
 (sel (decide (v1 = 0))
 (K0 0 0)
 (K1 v0 v1 v3 v4))
def Q3n:=Qa (@Q7x R)
theorem Q99 : @Q3n R = @Q7x R:=Q2 _
def Q7y (v0 v1 : Int) (v2 : Bool) (v3 : Int) (v4 : List Int) (K0 : Int → Int → Option R) (K1 : Int → Int → Int → List Int → Option R) : Option R :=
 sel v2
 (K0 0 2)
 (sel (decide (v0 < 0))
 (Q3n v0 v1 true v3 v4
 (fun v5 v6 => K0 v5 v6)
 (fun v7 v8 v9 va => K1 v7 v8 v9 va))
 (sel (decide (v3 < v0))
 (Q3n v0 v1 true v3 v4
 (fun vb vc => K0 vb vc)
 (fun vd ve vf vg => K1 vd ve vf vg))
 (Q3n v0 v1 (decide (QB .i64 v3 v0 < v1)) v3 v4
 (fun vh vi => K0 vh vi)
 (fun vj vk vl vm => K1 vj vk vl vm))))
def Q3o:=Qa (@Q7y R)
theorem Q9a : @Q3o R = @Q7y R:=Q2 _
def Q5O (v0 v1 : Int) (K0 : Int → Int → Option R) : Option R :=
 Q0h v0
 (fun v2 => K0 (J2 .u64 v1 v2) 0)
def Q9b:=Qa (@Q5O R)
theorem Q7Q : @Q9b R = @Q5O R:=Q2 _
def Q7z (v0 v1 _v2 : Int) (v3 : List Int) (K0 : Int → Int → Option R) : Option R :=
 sel (decide (0 ≤ Qu .i64 v0 64))
 (sel (decide (Qu .i64 v0 64 < (↑(List.length v3) : Int)))
 (sel (decide (0 ≤ YP v0 64))
 (sel (decide (64 < Qe .i64 (YP v0 64) v1))
 (sel (decide (0 ≤ Qe .i64 (Qu .i64 v0 64) 1))
 (sel (decide (Qe .i64 (Qu .i64 v0 64) 1 < (↑(List.length v3) : Int)))
 (sel (decide (0 ≤ QB .i64 64 (YP v0 64)))
 (Y3 (orW .u64 (ZC .u64 (List.getD v3 (Int.toNat (Qu .i64 v0 64)) 0) (YP v0 64)) (Qap .u64 (List.getD v3 (Int.toNat (Qe .i64 (Qu .i64 v0 64) 1)) 0) (QB .i64 64 (YP v0 64)))) (fun (v4 : Int) =>
 Q9b v1 v4
 (fun v5 v6 => K0 v5 v6)))
 (none))
 (none))
 (none))
 (Q9b v1 (ZC .u64 (List.getD v3 (Int.toNat (Qu .i64 v0 64)) 0) (YP v0 64))
 (fun v7 v8 => K0 v7 v8)))
 (none))
 (none))
 (none)
def Q3p:=Qa (@Q7z R)
theorem Qfl : @Q3p R = @Q7z R:=Q2 _
def Qk2 (v0 : Int) (v1 : List Int) (v2 v3 : Int) (K0 : Int → Int → Option R) : Option R :=
 Ub v0 v1
 (fun v4 => sel (!v4)
 (Q3o v2 v3 true v0 v1
 (fun v5 v6 => K0 v5 v6)
 (fun v7 v8 v9 va => Q3p v7 v8 v9 va
 (fun vb vc => K0 vb vc)))
 (sel (decide (v3 < 0))
 (Q3o v2 v3 true v0 v1
 (fun vd ve => K0 vd ve)
 (fun vf vg vh vi => Q3p vf vg vh vi
 (fun vj vk => K0 vj vk)))
 (Q3o v2 v3 (decide (64 < v3)) v0 v1
 (fun vl vm => K0 vl vm)
 (fun vn vo vp vq => Q3p vn vo vp vq
 (fun vr vs => K0 vr vs)))))
def Q2l:=Qa (@Qk2 R)
theorem QmU : @Q2l R = @Qk2 R:=Q2 _
def Qk3 (K0 : Int → Int → Option R) : Option R :=
 K0 0 0
def Qq4:=Qa (@Qk3 R)
theorem Qk4 : @Qq4 R = @Qk3 R:=Q2 _
def QcF (rec : Int → List Int → Option R) (v0 : Int) (v1 : List Int) (K0 : List Int → Option R) : Option R :=
 sel (decide (0 < v0))
 (sel (decide (0 ≤ v0))
 (sel (decide (v0 < (↑63 : Int)))
 (sel (decide (Int.toNat v0 < List.length v1))
 (sel (decide (0 ≤ QB .i64 v0 1))
 (sel (decide (QB .i64 v0 1 < (↑63 : Int)))
 (sel (decide (Int.toNat (QB .i64 v0 1) < List.length v1))
 (sel (decide (0 ≤ v0))
 (sel (decide (v0 < (↑63 : Int)))
 (sel (decide (Int.toNat v0 < List.length v1))
 (Y3 (List.set v1 (Int.toNat v0) (Qe .u64 (List.getD v1 (Int.toNat v0) 0) (List.getD v1 (Int.toNat (QB .i64 v0 1)) 0))) (fun (v2 : List Int) =>
 rec (QB .i64 v0 1) v2))
 (none))
 (none))
 (none))
 (none))
 (none))
 (none))
 (none))
 (none))
 (none))
 (K0 v1)
def YK (K0 : List Int → Option R) : Nat → Int → List Int → Option R
 | 0, _, _ => none
 | N + 1, v0, v1 => QcF (YK K0 N) v0 v1 K0
def Q1b (v0 : Int) (v1 : List Int) (K0 : List Int → Option R) : Option R :=
 YK K0 NR v0 v1
def Q9c:=Qa (@Q1b R)
theorem Qar : @Q9c R = @Q1b R:=Q2 _
def Q7R (v0 : Int) (v1 : List Int) (K0 : List Int → Option R) : Option R :=
 Q9c (Qe .i64 v0 1) v1
 (fun v2 => K0 v2)
def Q1p:=Qa (@Q7R R)
theorem QbV : @Q1p R = @Q7R R:=Q2 _
def QkS (rec : Nat → Int → Int → List Int → List (List Int) → Option R) (v0 : Nat) (v1 v2 : Int) (v3 : List Int) (v4 : List (List Int)) (K0 : Nat → List (List Int) → Option R) : Option R :=
 sel (decide (v2 < v1))
 (Q1p v2 v3
 (fun v5 => sel (decide (0 + 63 * 1 ≤ List.length v5))
 (sel (decide (0 ≤ Qe .i64 v2 2))
 (sel (decide (Qe .i64 v2 2 ≤ (↑63 : Int)))
 (sel (decide (Int.toNat (Qe .i64 v2 2) - Int.toNat 0 = List.length v5))
 (sel (decide ((Int.toNat (Qe .i64 v2 2) - Int.toNat 0) * 8 ≤ 140737488355328))
 (sel (decide (List.length v4 = v0))
 (sel (decide ((v0 + 1) * 24 ≤ 140737488355328))
 (sel (decide (Int.toNat (Qe .i64 v2 2) - Int.toNat 0 = List.length v5))
 (sel (decide (Int.toNat (Qe .i64 v2 2) - Int.toNat 0 = List.length v5))
 (Y3 (v4 ++ [v5]) (fun (v6 : List (List Int)) =>
 rec (v0 + 1) v1 (Qe .i64 v2 1) v5 v6))
 (none))
 (none))
 (none))
 (none))
 (none))
 (sel (decide (0 + Nat.sub (Int.toNat (Qe .i64 v2 2)) (Int.toNat 0) ≤ List.length v5))
 (sel (decide ((Int.toNat (Qe .i64 v2 2) - Int.toNat 0) * 8 ≤ 140737488355328))
 (Y3 (List.take (Nat.sub (Int.toNat (Qe .i64 v2 2)) (Int.toNat 0)) (List.drop 0 v5)) (fun (v7 : List Int) =>
 sel (decide (List.length v4 = v0))
 (sel (decide ((v0 + 1) * 24 ≤ 140737488355328))
 (sel (decide (Int.toNat (Qe .i64 v2 2) - Int.toNat 0 = List.length v7))
 (sel (decide (Int.toNat (Qe .i64 v2 2) - Int.toNat 0 = List.length v7))
 (Y3 (v4 ++ [v7]) (fun (v8 : List (List Int)) =>
 rec (v0 + 1) v1 (Qe .i64 v2 1) v5 v8))
 (none))
 (none))
 (none))
 (none)))
 (none))
 (none)))
 (none))
 (none))
 (none)))
 (K0 v0 v4)
def Q0j (K0 : Nat → List (List Int) → Option R) : Nat → Nat → Int → Int → List Int → List (List Int) → Option R
 | 0, _, _, _, _, _ => none
 | N + 1, v0, v1, v2, v3, v4 => QkS (Q0j K0 N) v0 v1 v2 v3 v4 K0
def Q7A (v0 : Nat) (v1 v2 : Int) (v3 : List Int) (v4 : List (List Int)) (K0 : Nat → List (List Int) → Option R) : Option R :=
 Q0j K0 NR v0 v1 v2 v3 v4
def Qbn:=Qa (@Q7A R)
theorem Qfm : @Qbn R = @Q7A R:=Q2 _
def Qk5 (v0 : Int) (K0 : List (List Int) → Option R) : Option R :=
 Qbn 1 v0 0 (List.take 0 (List.replicate 63 0) ++ ([1, 0, 0, 0, 0, 0, 0, 0, 0, 0, 0, 0, 0, 0, 0, 0, 0, 0, 0, 0, 0, 0, 0, 0, 0, 0, 0, 0, 0, 0, 0, 0, 0, 0, 0, 0, 0, 0, 0, 0, 0, 0, 0, 0, 0, 0, 0, 0, 0, 0, 0, 0, 0, 0, 0, 0, 0, 0, 0, 0, 0, 0, 0] ++ List.drop (0 + List.length [1, 0, 0, 0, 0, 0, 0, 0, 0, 0, 0, 0, 0, 0, 0, 0, 0, 0, 0, 0, 0, 0, 0, 0, 0, 0, 0, 0, 0, 0, 0, 0, 0, 0, 0, 0, 0, 0, 0, 0, 0, 0, 0, 0, 0, 0, 0, 0, 0, 0, 0, 0, 0, 0, 0, 0, 0, 0, 0, 0, 0, 0, 0]) (List.replicate 63 0))) ([[1]])
 (fun v1 v2 => sel (decide (v1 = Q4R [Col.fints .u64 v2]))
 (K0 v2)
 (none))
def Qeh:=Qa (@Qk5 R)
theorem QmV : @Qeh R = @Qk5 R:=Q2 _
def Q00 (v0 v1 : Int) (K0 : Int → Option R) : Option R :=
 sel (decide (0 ≤ QV .u8 v0))
 (sel (decide (QV .u8 v0 < (↑(ByteArray.size (Qfj)) : Int)))
 (Y3 ((↑(UInt8.toNat (List.getD (Array.toList (ByteArray.data (Qfj))) (Int.toNat (QV .u8 v0)) 0)) : Int)) (fun (v2 : Int) =>
 K0 (Qe .i64 v1 (QV .i64 v2))))
 (none))
 (none)
def J7:=Qa (@Q00 R)
theorem Q8c : @J7 R = @Q00 R:=Q2 _
def Q55 (v0 v1 : Int) (K0 : Int → Option R) : Option R :=
 sel (decide (256 ≤ v0))
 (J7 (ZC .u64 v0 8) (Qe .i64 v1 8)
 (fun v2 => K0 v2))
 (J7 v0 v1
 (fun v3 => K0 v3))
def JJ:=Qa (@Q55 R)
theorem Q9d : @JJ R = @Q55 R:=Q2 _
def Q56 (v0 v1 : Int) (K0 : Int → Option R) : Option R :=
 sel (decide (65536 ≤ v0))
 (JJ (ZC .u64 v0 16) (Qe .i64 v1 16)
 (fun v2 => K0 v2))
 (JJ v0 v1
 (fun v3 => K0 v3))
def JK:=Qa (@Q56 R)
theorem Q9e : @JK R = @Q56 R:=Q2 _
def Q9f (v0 : Int) (K0 : Int → Option R) : Option R :=
 sel (decide (4294967296 ≤ v0))
 (JK (ZC .u64 v0 32) 32
 (fun v1 => K0 v1))
 (JK v0 0
 (fun v2 => K0 v2))
def Q7B:=Qa (@Q9f R)
theorem QcG : @Q7B R = @Q9f R:=Q2 _
def Qpl (v0 : Int) (K0 : Int → Option R) : Option R :=
 Q7B v0
 (fun v1 => K0 v1)
def QbW:=Qa (@Qpl R)
theorem Qq5 : @QbW R = @Qpl R:=Q2 _
def Q7S (v0 v1 : Int) (v2 : List (List Int)) (v3 v4 v5 : Int) (K0 : Int → Int → List (List Int) → Int → Int → Option R) : Option R :=
 sel (decide (0 ≤ v5))
 (K0 (Qj6 .u64 v0 (Qap .u64 1 v5)) v1 v2 v3 v4)
 (none)
def Q1q:=Qa (@Q7S R)
theorem QbX : @Q1q R = @Q7S R:=Q2 _
def Qfn (rec : Int → Int → List (List Int) → Int → Int → Option R) (v0 v1 : Int) (v2 : List (List Int)) (v3 v4 : Int) (K0 : Int → Int → Option R) : Option R :=
 sel (decide (0 < v0))
 (QbW v0
 (fun v5 => sel (decide (v4 ≤ QB .i64 v5 1))
 (sel (decide (0 ≤ QB .i64 v5 1))
 (sel (decide (QB .i64 v5 1 < (↑(List.length v2) : Int)))
 (Y3 (List.getD v2 (Int.toNat (QB .i64 v5 1)) []) (fun (v6 : List Int) =>
 sel (decide (0 ≤ v4))
 (sel (decide (v4 < (↑(List.length v6) : Int)))
 (Q1q v0 v1 v2 (Qe .u64 v3 (List.getD v6 (Int.toNat v4) 0)) v4 (QB .i64 v5 1)
 (fun v7 v8 v9 va vb => rec v7 v8 v9 va (QB .i64 vb 1)))
 (none))
 (none)))
 (none))
 (none))
 (Q1q v0 v1 v2 v3 v4 (QB .i64 v5 1)
 (fun vc vd ve vf vg => rec vc vd ve vf (QB .i64 vg 1)))))
 (K0 v1 v3)
def UK (K0 : Int → Int → Option R) : Nat → Int → Int → List (List Int) → Int → Int → Option R
 | 0, _, _, _, _, _ => none
 | N + 1, v0, v1, v2, v3, v4 => Qfn (UK K0 N) v0 v1 v2 v3 v4 K0
def Q4l (v0 v1 : Int) (v2 : List (List Int)) (v3 v4 : Int) (K0 : Int → Int → Option R) : Option R :=
 UK K0 NR v0 v1 v2 v3 v4
def Qcg:=Qa (@Q4l R)
theorem QcH : @Qcg R = @Q4l R:=Q2 _
def Q9g (v0 v1 : Int) (K0 : Int → Int → Option R) : Option R :=
 Q0h v1
 (fun v2 => Q37 (J2 .u64 v0 v2)
 (fun v3 => Qeh v1
 (fun v4 => Qcg (J2 .u64 v0 v2) v3 v4 0 v3
 (fun v5 v6 => K0 v5 v6))))
def Qch:=Qa (@Q9g R)
theorem QcI : @Qch R = @Q9g R:=Q2 _
def Qei (v0 v1 : Int) (K0 : Int → Int → Option R) : Option R :=
 sel (decide (v1 < 0))
 (K0 0 0)
 (sel (decide (62 < v1))
 (K0 0 0)
 (Qch v0 v1
 (fun v2 v3 => K0 v2 v3)))
def Qd5:=Qa (@Qei R)
theorem Qhq : @Qd5 R = @Qei R:=Q2 _
def Qgl (v0 : Int) (K0 : Int → Int → Option R) : Option R :=
 Qq4
 (fun _ _ => Qd5 v0 15
 (fun v3 v4 => K0 v3 v4))
def Qfo:=Qa (@Qgl R)
theorem QkT : @Qfo R = @Qgl R:=Q2 _
def Qfp (rec : Int → Int → Int → List Int → Option R) (v0 v1 v2 : Int) (v3 : List Int) (K0 : Int → List Int → Option R) : Option R :=
 sel (decide (v2 < v1))
 (Q1p v2 v3
 (fun v4 => rec v0 v1 (Qe .i64 v2 1) v4))
 (K0 v0 v3)
def UL (K0 : Int → List Int → Option R) : Nat → Int → Int → Int → List Int → Option R
 | 0, _, _, _, _ => none
 | N + 1, v0, v1, v2, v3 => Qfp (UL K0 N) v0 v1 v2 v3 K0
def Q4m (v0 v1 v2 : Int) (v3 : List Int) (K0 : Int → List Int → Option R) : Option R :=
 UL K0 NR v0 v1 v2 v3
def Q7C:=Qa (@Q4m R)
theorem QcJ : @Q7C R = @Q4m R:=Q2 _
def Q9h (v0 v1 : Int) (K0 : Int → Option R) : Option R :=
 Q7C v1 v0 0 (List.take 0 (List.replicate 63 0) ++ ([1, 0, 0, 0, 0, 0, 0, 0, 0, 0, 0, 0, 0, 0, 0, 0, 0, 0, 0, 0, 0, 0, 0, 0, 0, 0, 0, 0, 0, 0, 0, 0, 0, 0, 0, 0, 0, 0, 0, 0, 0, 0, 0, 0, 0, 0, 0, 0, 0, 0, 0, 0, 0, 0, 0, 0, 0, 0, 0, 0, 0, 0, 0] ++ List.drop (0 + List.length [1, 0, 0, 0, 0, 0, 0, 0, 0, 0, 0, 0, 0, 0, 0, 0, 0, 0, 0, 0, 0, 0, 0, 0, 0, 0, 0, 0, 0, 0, 0, 0, 0, 0, 0, 0, 0, 0, 0, 0, 0, 0, 0, 0, 0, 0, 0, 0, 0, 0, 0, 0, 0, 0, 0, 0, 0, 0, 0, 0, 0, 0, 0]) (List.replicate 63 0)))
 (fun v2 v3 => sel (decide (0 ≤ v2))
 (sel (decide (v2 < (↑63 : Int)))
 (sel (decide (Int.toNat v2 < List.length v3))
 (K0 (List.getD v3 (Int.toNat v2) 0))
 (none))
 (none))
 (none))
def Qci:=Qa (@Q9h R)
theorem QcK : @Qci R = @Q9h R:=Q2 _
def Qej (v0 v1 : Int) (K0 : Int → Option R) : Option R :=
 sel (decide (v0 < 0))
 (K0 0)
 (sel (decide (62 < v0))
 (K0 0)
 (sel (decide (v1 < 0))
 (K0 0)
 (sel (decide (v0 < v1))
 (K0 0)
 (Qci v0 v1
 (fun v2 => K0 v2)))))
def Q9i:=Qa (@Qej R)
theorem Qhr : @Q9i R = @Qej R:=Q2 _
def Qgm (v0 v1 : Int) (K0 : Int → Option R) : Option R :=
 Q9i v0 v1
 (fun v2 => sel (decide (v2 = 0))
 (K0 0)
 (QbW (QB .u64 v2 1)
 (fun v3 => K0 v3)))
def Q8d:=Qa (@Qgm R)
theorem QkU : @Q8d R = @Qgm R:=Q2 _
def Q5P (v0 v1 : Int) (v2 : Bool) (v3 : Int) (v4 : List Int) (v5 : Int) (K0 : Int → Int → List Int → Option R) (K1 : Int → Int → Int → List Int → Int → Option R) : Option R :=
 sel v2
 (K0 2 v3 v4)
 (K1 v0 v1 v3 v4 v5)
def JL:=Qa (@Q5P R)
theorem Q7T : @JL R = @Q5P R:=Q2 _
def Qd6 (_v0 : Int) (v1 : List Int) (v2 : Int) (K0 : Int → Nat → List Int → Option R) : Option R :=
 QaL v2
 (fun v3 => sel (decide (0 ≤ v3))
 (sel (decide (v3 ≤ v3))
 (sel (decide (v3 ≤ 281474976710656))
 (sel (decide ((↑8 : Int) * v3 ≤ 281474976710656))
 (Y3 (List.replicate (Int.toNat v3) 0) (fun (v4 : List Int) =>
 sel (decide (0 + Int.toNat v3 ≤ List.length v4))
 (sel (decide (List.length v1 ≤ Int.toNat v3))
 (sel (decide (0 + List.length v1 ≤ List.length v4))
 (Y3 (List.take 0 v4 ++ (v1 ++ List.drop (0 + List.length v1) v4)) (fun (v5 : List Int) =>
 K0 v2 (Int.toNat v3) v5))
 (none))
 (sel (decide (0 + Int.toNat v3 ≤ List.length v1))
 (sel (decide (0 + List.length (List.take (Int.toNat v3) (List.drop 0 v1)) ≤ List.length v4))
 (Y3 (List.take 0 v4 ++ (List.take (Int.toNat v3) (List.drop 0 v1) ++ List.drop (0 + List.length (List.take (Int.toNat v3) (List.drop 0 v1))) v4)) (fun (v6 : List Int) =>
 K0 v2 (Int.toNat v3) v6))
 (none))
 (none)))
 (none)))
 (none))
 (none))
 (none))
 (none))
def Qk6:=Qa (@Qd6 R)
theorem QmW : @Qk6 R = @Qd6 R:=Q2 _
def Q9j (v0 v1 v2 : Int) (v3 : Bool) (v4 : List Int) (_v5 : Int) (v6 : Nat) (K0 : List Int → Option R) : Option R :=
 sel v3
 (sel (decide (0 ≤ Qe .i64 v1 1))
 (sel (decide (Qe .i64 v1 1 < (↑v6 : Int)))
 (sel (decide (Int.toNat (Qe .i64 v1 1) < List.length v4))
 (sel (decide (0 ≤ QB .i64 64 v2))
 (sel (decide (0 ≤ Qe .i64 v1 1))
 (sel (decide (Qe .i64 v1 1 < (↑v6 : Int)))
 (sel (decide (Int.toNat (Qe .i64 v1 1) < List.length v4))
 (Y3 (List.set v4 (Int.toNat (Qe .i64 v1 1)) (orW .u64 (List.getD v4 (Int.toNat (Qe .i64 v1 1)) 0) (ZC .u64 v0 (QB .i64 64 v2)))) (fun (v7 : List Int) =>
 K0 v7))
 (none))
 (none))
 (none))
 (none))
 (none))
 (none))
 (none))
 (K0 v4)
def Q9k:=Qa (@Q9j R)
theorem QaN : @Q9k R = @Q9j R:=Q2 _
def Qek (v0 v1 v2 : Int) (v3 : List Int) (v4 : Int) (v5 : Nat) (K0 : List Int → Option R) : Option R :=
 sel (decide (0 < v2))
 (Q9k v0 v1 v2 (decide (Qe .i64 v1 1 < (↑v5 : Int))) v3 v4 v5
 (fun v6 => K0 v6))
 (Q9k v0 v1 v2 false v3 v4 v5
 (fun v7 => K0 v7))
def Q9l:=Qa (@Qek R)
theorem Qhs : @Q9l R = @Qek R:=Q2 _
def Qbo (v0 : Int) (v1 : Nat) (v2 v3 : Int) (v4 : List Int) (K0 : List Int → Option R) : Option R :=
 sel (decide (Qu .i64 v2 64 < (↑v1 : Int)))
 (sel (decide (0 ≤ Qu .i64 v2 64))
 (sel (decide (Qu .i64 v2 64 < (↑v1 : Int)))
 (sel (decide (Int.toNat (Qu .i64 v2 64) < List.length v4))
 (sel (decide (0 ≤ YP v2 64))
 (sel (decide (0 ≤ Qu .i64 v2 64))
 (sel (decide (Qu .i64 v2 64 < (↑v1 : Int)))
 (sel (decide (Int.toNat (Qu .i64 v2 64) < List.length v4))
 (Y3 (List.set v4 (Int.toNat (Qu .i64 v2 64)) (orW .u64 (List.getD v4 (Int.toNat (Qu .i64 v2 64)) 0) (Qap .u64 v3 (YP v2 64)))) (fun (v5 : List Int) =>
 Q9l v3 (Qu .i64 v2 64) (YP v2 64) v5 v0 v1
 (fun v6 => K0 v6)))
 (none))
 (none))
 (none))
 (none))
 (none))
 (none))
 (none))
 (Q9l v3 (Qu .i64 v2 64) (YP v2 64) v4 v0 v1
 (fun v7 => K0 v7))
def Qfq:=Qa (@Qbo R)
theorem QkV : @Qfq R = @Qbo R:=Q2 _
def QaO (v0 v1 v2 : Int) (v3 : List Int) (_v4 : Int) (K0 : Int → Int → Nat → List Int → Option R) : Option R :=
 Qk6 v2 v3 (Qe .i64 v2 v1)
 (fun v5 v6 v7 => Q0h v1
 (fun v8 => Qfq v5 v6 v2 (J2 .u64 v0 v8) v7
 (fun v9 => K0 0 v5 v6 v9)))
def JM:=Qa (@QaO R)
theorem Qel : @JM R = @QaO R:=Q2 _
def Qbp (v0 : Int) (v1 : List Int) (v2 v3 : Int) (K0 : Int → List Int → Int → Option R) : Option R :=
 Ub v0 v1
 (fun v4 => sel (!v4)
 (JL v2 v3 true v0 v1 0
 (fun v5 v6 v7 => K0 v6 v7 v5)
 (fun v8 v9 va vb vc => JM v8 v9 va vb vc
 (fun vd ve vf vg => sel (decide (vf = List.length vg))
 (K0 ve vg vd)
 (none))))
 (sel (decide (v3 < 0))
 (JL v2 v3 true v0 v1 0
 (fun vh vi vj => K0 vi vj vh)
 (fun vk vl vm vn vo => JM vk vl vm vn vo
 (fun vp vq vr vs => sel (decide (vr = List.length vs))
 (K0 vq vs vp)
 (none))))
 (sel (decide (64 < v3))
 (JL v2 v3 true v0 v1 0
 (fun vt vu vv => K0 vu vv vt)
 (fun vw vx vy vz v10 => JM vw vx vy vz v10
 (fun v11 v12 v13 v14 => sel (decide (v13 = List.length v14))
 (K0 v12 v14 v11)
 (none))))
 (JL v2 v3 (decide (QB .i64 1048576 v0 < v3)) v0 v1 0
 (fun v15 v16 v17 => K0 v16 v17 v15)
 (fun v18 v19 v1a v1b v1c => JM v18 v19 v1a v1b v1c
 (fun v1d v1e v1f v1g => sel (decide (v1f = List.length v1g))
 (K0 v1e v1g v1d)
 (none)))))))
def Q8e:=Qa (@Qbp R)
theorem QkW : @Q8e R = @Qbp R:=Q2 _
def Q7D (v0 : Nat) (v1 v2 v3 : Int) (v4 : List Int) (v5 v6 v7 v8 v9 va vb vc vd ve : Int) (vf : List Int) (vg vh : Nat) (vi vj vk : List Int) (vl _vm : Int) (K0 : Nat → Int → Int → Int → List Int → Int → Int → Int → Int → Int → Int → Int → Int → Int → Int → List Int → Nat → Nat → List Int → List Int → List Int → Option R) : Option R :=
 K0 v0 (Qe .i64 v1 vl) v2 v3 v4 v5 v6 v7 v8 v9 va vb vc vd ve vf vg vh vi vj vk
def Qbq:=Qa (@Q7D R)
theorem Q9m : @Qbq R = @Q7D R:=Q2 _
def Q38 (v0 : Nat) (v1 v2 v3 : Int) (v4 : List Int) (v5 v6 v7 v8 v9 va vb vc vd ve : Int) (vf : List Int) (vg vh : Nat) (vi vj vk : List Int) (K0 : Nat → Int → Int → Int → Int → Int → Int → Int → Int → Int → Int → List Int → Nat → Nat → List Int → List Int → List Int → Option R) (K1 : Nat → Int → Int → Int → List Int → Int → Int → Int → Int → Int → Int → Int → Int → Int → Int → List Int → Nat → Nat → List Int → List Int → List Int → Option R) : Option R :=
 sel (decide (v2 = v3))
 (K0 v0 v5 v6 v7 v8 v9 va vb vc vd ve vf vg vh vi vj vk)
 (Q2l v3 v4 v2 (min2 15 (QB .i64 v3 v2))
 (fun vl _ => Qfo vl
 (fun vn vo => sel (decide (List.length vk = v0))
 (sel (decide ((v0 + 1) * 8 ≤ 140737488355328))
 (Y3 (vk ++ [QV .u64 vn]) (fun (vp : List Int) =>
 Qq4
 (fun vq vr => sel (!(decide (vn = vq) && decide (vo = vr)))
 (Q8d 15 vn
 (fun vs => Q8e ve vf vo vs
 (fun vt vu _ => Qbq (v0 + 1) v1 v2 v3 v4 v5 v6 v7 v8 v9 va vb vc vd vt vu vg vh vi vj vp vn vo
 K1)))
 (Qbq (v0 + 1) v1 v2 v3 v4 v5 v6 v7 v8 v9 va vb vc vd ve vf vg vh vi vj vp vn vo
 K1))))
 (none))
 (none))))
def Q70:=Qa (@Q38 R)
theorem Q9n : @Q70 R = @Q38 R:=Q2 _
def Q39 (v0 : Nat) (v1 v2 v3 : Int) (v4 : List Int) (v5 v6 v7 v8 v9 va vb vc vd ve : Int) (vf : List Int) (vg vh : Nat) (vi vj vk : List Int) (K0 : Nat → Int → Int → Int → Int → Int → Int → Int → Int → Int → Int → List Int → Nat → Nat → List Int → List Int → List Int → Option R) (K1 : Nat → Int → Int → Int → List Int → Int → Int → Int → Int → Int → Int → Int → Int → Int → Int → List Int → Nat → Nat → List Int → List Int → List Int → Option R) : Option R :=
 sel (decide (YP v2 120 = 0))
 (sel (decide (List.length vi = vg))
 (sel (decide ((vg + 1) * 8 ≤ 140737488355328))
 (Y3 (vi ++ [v1]) (fun (vl : List Int) =>
 sel (decide (List.length vj = vh))
 (sel (decide ((vh + 1) * 8 ≤ 140737488355328))
 (Y3 (vj ++ [ve]) (fun (vm : List Int) =>
 Q70 v0 v1 v2 v3 v4 v5 v6 v7 v8 v9 va vb vc vd ve vf (vg + 1) (vh + 1) vl vm vk
 K0
 (fun v14 v15 v16 v17 v18 v19 v1a v1b v1c v1d v1e v1f v1g v1h v1i v1j v1k v1l v1m v1n v1o => K1 v14 v15 (Qe .i64 v16 15) v17 v18 v19 v1a v1b v1c v1d v1e v1f v1g v1h v1i v1j v1k v1l v1m v1n v1o)))
 (none))
 (none)))
 (none))
 (none))
 (Q70 v0 v1 v2 v3 v4 v5 v6 v7 v8 v9 va vb vc vd ve vf vg vh vi vj vk
 K0
 (fun v26 v27 v28 v29 v2a v2b v2c v2d v2e v2f v2g v2h v2i v2j v2k v2l v2m v2n v2o v2p v2q => K1 v26 v27 (Qe .i64 v28 15) v29 v2a v2b v2c v2d v2e v2f v2g v2h v2i v2j v2k v2l v2m v2n v2o v2p v2q))
def Qbr:=Qa (@Q39 R)
theorem Q9o : @Qbr R = @Q39 R:=Q2 _
def Qem (rec : Nat → Int → Int → Int → List Int → Int → Int → Int → Int → Int → Int → Int → Int → Int → Int → List Int → Nat → Nat → List Int → List Int → List Int → Option R) (v0 : Nat) (v1 v2 v3 : Int) (v4 : List Int) (v5 v6 v7 v8 v9 va vb vc vd ve : Int) (vf : List Int) (vg vh : Nat) (vi vj vk : List Int) (K0 : Nat → Int → Int → Int → Int → Int → Int → Int → Int → Int → Int → List Int → Nat → Nat → List Int → List Int → List Int → Option R) : Option R :=
 sel (decide (v2 < v3))
 (Qbr v0 v1 v2 v3 v4 v5 v6 v7 v8 v9 va vb vc vd ve vf vg vh vi vj vk
 K0
 rec)
 (sel (decide (v2 = 0))
 (Qbr v0 v1 v2 v3 v4 v5 v6 v7 v8 v9 va vb vc vd ve vf vg vh vi vj vk
 K0
 rec)
 (K0 v0 v5 v6 v7 v8 v9 va vb vc vd ve vf vg vh vi vj vk))
def Uv (K0 : Nat → Int → Int → Int → Int → Int → Int → Int → Int → Int → Int → List Int → Nat → Nat → List Int → List Int → List Int → Option R) : Nat → Nat → Int → Int → Int → List Int → Int → Int → Int → Int → Int → Int → Int → Int → Int → Int → List Int → Nat → Nat → List Int → List Int → List Int → Option R
 | 0, _, _, _, _, _, _, _, _, _, _, _, _, _, _, _, _, _, _, _, _, _ => none
 | N + 1, v0, v1, v2, v3, v4, v5, v6, v7, v8, v9, va, vb, vc, vd, ve, vf, vg, vh, vi, vj, vk => Qem (Uv K0 N) v0 v1 v2 v3 v4 v5 v6 v7 v8 v9 va vb vc vd ve vf vg vh vi vj vk K0
def Q9p (v0 : Nat) (v1 v2 v3 : Int) (v4 : List Int) (v5 v6 v7 v8 v9 va vb vc vd ve : Int) (vf : List Int) (vg vh : Nat) (vi vj vk : List Int) (K0 : Nat → Int → Int → Int → Int → Int → Int → Int → Int → Int → Int → List Int → Nat → Nat → List Int → List Int → List Int → Option R) : Option R :=
 Uv K0 NR v0 v1 v2 v3 v4 v5 v6 v7 v8 v9 va vb vc vd ve vf vg vh vi vj vk
def Qk7:=Qa (@Q9p R)
theorem Qht : @Qk7 R = @Q9p R:=Q2 _
def Q9q (v0 : Int) (v1 : List Int) (v2 : Bool) (v3 v4 v5 : Int) (K0 : Int → Int → Int → Int → Option R) (K1 : Int → List Int → Int → Int → Int → Option R) : Option R :=
 sel v2
 (K0 2 0 0 0)
 (K1 v0 v1 v3 v4 v5)
def Q2m:=Qa (@Q9q R)
theorem QaP : @Q2m R = @Q9q R:=Q2 _
def Qbs (v0 : Int) (v1 : Bool) (v2 : Int) (K0 : Int → Int → Option R) (K1 : Int → Int → Option R) : Option R :=
 sel v1
 (K0 2 0)
 (K1 v0 v2)
def Q23:=Qa (@Qbs R)
theorem Qcj : @Q23 R = @Qbs R:=Q2 _
def Qgn (v0 _v1 : Int) (K0 : Int → Int → Nat → List Int → Option R) : Option R :=
 QaL v0
 (fun v2 => sel (decide (0 ≤ v2))
 (sel (decide (v2 ≤ v2))
 (sel (decide (v2 ≤ 281474976710656))
 (sel (decide ((↑8 : Int) * v2 ≤ 281474976710656))
 (Y3 (List.replicate (Int.toNat v2) 0) (fun (v3 : List Int) =>
 K0 0 v0 (Int.toNat v2) v3))
 (none))
 (none))
 (none))
 (none))
def Q57:=Qa (@Qgn R)
theorem QkX : @Q57 R = @Qgn R:=Q2 _
def Qpm (v0 : Int) (K0 : Int → List Int → Int → Option R) : Option R :=
 sel (decide (v0 < 0))
 (Q23 v0 true 0
 (fun v1 v2 => K0 v2 [] v1)
 (fun v3 v4 => Q57 v3 v4
 (fun v5 v6 v7 v8 => sel (decide (v7 = List.length v8))
 (K0 v6 v8 v5)
 (none))))
 (Q23 v0 (decide (1048576 < v0)) 0
 (fun v9 va => K0 va [] v9)
 (fun vb vc => Q57 vb vc
 (fun vd ve vf vg => sel (decide (vf = List.length vg))
 (K0 ve vg vd)
 (none))))
def Qq6:=Qa (@Qpm R)
theorem Qq7 : @Qq6 R = @Qpm R:=Q2 _
def QmX (rec : Int → List Int → List Int → Int → Int → Int → Int → Int → Int → List Int → Option R) (v0 : Int) (v1 v2 : List Int) (v3 v4 v5 v6 v7 v8 : Int) (v9 : List Int) (K0 : Int → List Int → Int → Int → Int → Int → List Int → Option R) : Option R :=
 sel (decide (v4 < v3))
 (sel (decide (0 ≤ v4))
 (sel (decide (v4 < (↑(List.length v2) : Int)))
 (Q8e v8 v9 (List.getD v2 (Int.toNat v4) 0) v0
 (fun va vb _ => rec v0 v1 v2 v3 (Qe .i64 v4 1) v5 v6 v7 va vb))
 (none))
 (none))
 (K0 v0 v1 v5 v6 v7 v8 v9)
def Q1r (K0 : Int → List Int → Int → Int → Int → Int → List Int → Option R) : Nat → Int → List Int → List Int → Int → Int → Int → Int → Int → Int → List Int → Option R
 | 0, _, _, _, _, _, _, _, _, _, _ => none
 | N + 1, v0, v1, v2, v3, v4, v5, v6, v7, v8, v9 => QmX (Q1r K0 N) v0 v1 v2 v3 v4 v5 v6 v7 v8 v9 K0
def Q9r (v0 : Int) (v1 v2 : List Int) (v3 v4 v5 v6 v7 v8 : Int) (v9 : List Int) (K0 : Int → List Int → Int → Int → Int → Int → List Int → Option R) : Option R :=
 Q1r K0 NR v0 v1 v2 v3 v4 v5 v6 v7 v8 v9
def Qk8:=Qa (@Q9r R)
theorem Qhu : @Qk8 R = @Q9r R:=Q2 _
def Qen (v0 : Int) (v1 : List Int) (v2 v3 v4 : Int) (K0 : Int → Int → Int → Int → List Int → Option R) : Option R :=
 Qq6 0
 (fun v5 v6 _ => Qk8 v0 v1 v1 ((↑(List.length v1) : Int)) 0 v2 v3 v4 v5 v6
 (fun v8 v9 _ _ _ vd ve => K0 0 ((↑(List.length v9) : Int)) v8 vd ve))
def Q2n:=Qa (@Qen R)
theorem Qhv : @Q2n R = @Qen R:=Q2 _
def QkY (rec : Int → List Int → Int → Int → Option R) (v0 : Int) (v1 : List Int) (v2 v3 : Int) (K0 : Int → Option R) : Option R :=
 sel (decide (v3 < v2))
 (sel (decide (0 ≤ v3))
 (sel (decide (v3 < (↑(List.length v1) : Int)))
 (QbW (List.getD v1 (Int.toNat v3) 0)
 (fun v4 => rec (max2 v0 v4) v1 v2 (Qe .i64 v3 1)))
 (none))
 (none))
 (K0 v0)
def Q0k (K0 : Int → Option R) : Nat → Int → List Int → Int → Int → Option R
 | 0, _, _, _, _ => none
 | N + 1, v0, v1, v2, v3 => QkY (Q0k K0 N) v0 v1 v2 v3 K0
def Q7E (v0 : Int) (v1 : List Int) (v2 v3 : Int) (K0 : Int → Option R) : Option R :=
 Q0k K0 NR v0 v1 v2 v3
def Qgo:=Qa (@Q7E R)
theorem Qfr : @Qgo R = @Q7E R:=Q2 _
def Qk9 (v0 : List Int) (K0 : Int → Option R) : Option R :=
 Qgo 1 v0 ((↑(List.length v0) : Int)) 0
 (fun v1 => K0 v1)
def Qka:=Qa (@Qk9 R)
theorem QmY : @Qka R = @Qk9 R:=Q2 _
def Qfs (v0 : Int) (v1 : List Int) (K0 : Int → Int → Int → List Int → Int → Option R) : Option R :=
 sel (decide (v0 < 1))
 (Q2m v0 v1 true 0 0 0
 (fun v2 v3 v4 v5 => K0 v3 v4 v5 [] v2)
 (fun v6 v7 v8 v9 va => Q2n v6 v7 v8 v9 va
 (fun vb vc vd ve vf => K0 vc vd ve vf vb)))
 (sel (decide (64 < v0))
 (Q2m v0 v1 true 0 0 0
 (fun vg vh vi vj => K0 vh vi vj [] vg)
 (fun vk vl vm vn vo => Q2n vk vl vm vn vo
 (fun vp vq vr vs vt => K0 vq vr vs vt vp)))
 (sel (decide (v0 = 0))
 (none)
 (sel (decide (Qu .i64 1048576 v0 < (↑(List.length v1) : Int)))
 (Q2m v0 v1 true 0 0 0
 (fun vu vv vw vx => K0 vv vw vx [] vu)
 (fun vy vz v10 v11 v12 => Q2n vy vz v10 v11 v12
 (fun v13 v14 v15 v16 v17 => K0 v14 v15 v16 v17 v13)))
 (Qka v1
 (fun v18 => Q2m v0 v1 (decide (v0 < v18)) 0 0 0
 (fun v19 v1a v1b v1c => K0 v1a v1b v1c [] v19)
 (fun v1d v1e v1f v1g v1h => Q2n v1d v1e v1f v1g v1h
 (fun v1i v1j v1k v1l v1m => K0 v1j v1k v1l v1m v1i)))))))
def Qhw:=Qa (@Qfs R)
theorem QoB : @Qhw R = @Qfs R:=Q2 _
def Qeo (v0 : Int) (v1 : List Int) (v2 v3 v4 v5 v6 v7 v8 v9 va vb : Int) (K0 : Int → Int → Int → Int → Int → List Int → Int → List Int → Nat → Nat → List Int → List Int → Option R) : Option R :=
 Qk7 0 0 0 v0 v1 v2 v3 v4 v5 v6 v7 v8 v9 va vb [] 0 0 [] [] []
 (fun vc _ _ _ _ _ vi _ _ _ vm vn vo vp vq vr vs => sel (decide (vc = List.length vs))
 (sel (decide (vc = List.length vs))
 (Qhw 4 vs
 (fun vt vu vv vw _ => K0 0 vi vt vu vv vw vm vn vo vp vq vr))
 (none))
 (none))
def Qkb:=Qa (@Qeo R)
theorem Qhx : @Qkb R = @Qeo R:=Q2 _
def Qft (v0 : Int) (v1 : List Int) (K0 : Int → Int → Int → Int → List Int → Int → List Int → List Int → List Int → Int → Option R) : Option R :=
 Ub v0 v1
 (fun v2 => sel (!v2)
 (K0 0 0 0 0 [] 0 [] [] [] 2)
 (Qkb v0 v1 0 0 0 0 0 v0 0 0 0 0
 (fun v3 v4 v5 v6 v7 v8 v9 va vb vc vd ve => sel (decide (vb = List.length vd))
 (sel (decide (vc = List.length ve))
 (K0 v4 v5 v6 v7 v8 v9 va vd ve v3)
 (none))
 (none))))
def Qdo:=Qa (@Qft R)
theorem Qgp : @Qdo R = @Qft R:=Q2 _
def QmZ (rec : Int → Int → List Int → Int → Int → Int → List Int → Option R) (v0 v1 : Int) (v2 : List Int) (v3 v4 v5 : Int) (v6 : List Int) (K0 : Int → Int → Int → List Int → Option R) : Option R :=
 sel (decide (v4 < v3))
 (sel (decide (0 ≤ v4))
 (sel (decide (v4 < (↑(List.length v2) : Int)))
 (Q37 (List.getD v2 (Int.toNat v4) 0)
 (fun v7 => rec v0 (Qe .i64 v1 v7) v2 v3 (Qe .i64 v4 1) v5 v6))
 (none))
 (none))
 (K0 v0 v1 v5 v6)
def Q1s (K0 : Int → Int → Int → List Int → Option R) : Nat → Int → Int → List Int → Int → Int → Int → List Int → Option R
 | 0, _, _, _, _, _, _, _ => none
 | N + 1, v0, v1, v2, v3, v4, v5, v6 => QmZ (Q1s K0 N) v0 v1 v2 v3 v4 v5 v6 K0
def Q9s (v0 v1 : Int) (v2 : List Int) (v3 v4 v5 : Int) (v6 : List Int) (K0 : Int → Int → Int → List Int → Option R) : Option R :=
 Q1s K0 NR v0 v1 v2 v3 v4 v5 v6
def Qkc:=Qa (@Q9s R)
theorem Qhy : @Qkc R = @Q9s R:=Q2 _
def Qn0 (v0 v1 : Int) (K0 : Int → Option R) : Option R :=
 Q0h v1
 (fun v2 => Q37 (J2 .u64 v0 v2)
 (fun v3 => K0 v3))
def QaQ:=Qa (@Qn0 R)
theorem QoC : @QaQ R = @Qn0 R:=Q2 _
def Qn1 (v0 : Int) (v1 : List Int) (v2 : Int) (K0 : Int → Option R) : Option R :=
 Ub v0 v1
 (fun v3 => sel (!v3)
 (K0 0)
 (sel (decide (0 ≤ Qu .i64 (max2 0 (min2 v2 v0)) 64))
 (sel (decide (Qu .i64 (max2 0 (min2 v2 v0)) 64 ≤ (↑(List.length v1) : Int)))
 (Y3 (List.drop (Int.toNat 0) (List.take (Int.toNat (Qu .i64 (max2 0 (min2 v2 v0)) 64)) v1)) (fun (v4 : List Int) =>
 Qkc (max2 0 (min2 v2 v0)) 0 v4 ((↑(List.length v4) : Int)) 0 v0 v1
 (fun v5 v6 _ v8 => sel (decide (0 < YP v5 64))
 (sel (decide (0 ≤ Qu .i64 v5 64))
 (sel (decide (Qu .i64 v5 64 < (↑(List.length v8) : Int)))
 (QaQ (List.getD v8 (Int.toNat (Qu .i64 v5 64)) 0) (YP v5 64)
 (fun v9 => K0 (Qe .i64 v6 v9)))
 (none))
 (none))
 (K0 v6))))
 (none))
 (none)))
def Qhz:=Qa (@Qn1 R)
theorem QoD : @Qhz R = @Qn1 R:=Q2 _
def Qkd (v0 v1 : Int) (K0 : Int → Option R) : Option R :=
 sel (decide (v1 = 0))
 (K0 0)
 (sel (decide (v1 = 0))
 (none)
 (QbW (QV .u64 (Qu .i64 v0 v1))
 (fun v2 => K0 (QB .i64 v2 1))))
def QaR:=Qa (@Qkd R)
theorem Qn2 : @QaR R = @Qkd R:=Q2 _
def Q5Q (v0 : Int) (v1 : List Int) (K0 : Int → List Int → Option R) : Option R :=
 K0 v0 v1
def Q9t:=Qa (@Q5Q R)
theorem Q7U : @Q9t R = @Q5Q R:=Q2 _
def QhA (rec : Int → Int → Int → Option R) (v0 v1 v2 : Int) (K0 : Int → Option R) : Option R :=
 sel (decide (v2 < v1))
 (rec (J2 .u64 v0 (QB .u64 v0 1)) v1 (Qe .i64 v2 1))
 (K0 v0)
def Jy (K0 : Int → Option R) : Nat → Int → Int → Int → Option R
 | 0, _, _, _ => none
 | N + 1, v0, v1, v2 => QhA (Jy K0 N) v0 v1 v2 K0
def Q5R (v0 v1 v2 : Int) (K0 : Int → Option R) : Option R :=
 Jy K0 NR v0 v1 v2
def Qep:=Qa (@Q5R R)
theorem Qeq : @Qep R = @Q5R R:=Q2 _
def Jn (v0 : Int) (K0 : Int → Option R) : Option R :=
 sel (decide (v0 = 0))
 (K0 64)
 (sel (decide (0 ≤ ZC .u64 (UC .u64 (J2 .u64 v0 (QBX .u64 v0)) 285870213051353865) 58))
 (sel (decide (ZC .u64 (UC .u64 (J2 .u64 v0 (QBX .u64 v0)) 285870213051353865) 58 < (↑64 : Int)))
 (K0 (QV .i64 (List.getD Qt4 (Int.toNat (ZC .u64 (UC .u64 (J2 .u64 v0 (QBX .u64 v0)) 285870213051353865) 58)) 0)))
 (none))
 (none))
def Yc:=Qa (@Jn R)
theorem Q24 : @Yc R = @Jn R:=Q2 _
def QaS (v0 v1 : Int) (K0 : Int → Option R) : Option R :=
 Qep v0 v1 0
 (fun v2 => Yc v2
 (fun v3 => K0 v3))
def Qer:=Qa (@QaS R)
theorem Qes : @Qer R = @QaS R:=Q2 _
def Qgq (v0 v1 : Int) (K0 : Int → Option R) : Option R :=
 sel (decide (v1 < 0))
 (K0 64)
 (Q37 v0
 (fun v2 => sel (decide (v2 ≤ v1))
 (K0 64)
 (Qer v0 v1
 (fun v3 => K0 v3))))
def Q25:=Qa (@Qgq R)
theorem QkZ : @Q25 R = @Qgq R:=Q2 _
def Qfu (v0 : Nat) (v1 : List Bool) (v2 v3 : Int) (v4 : Nat) (v5 : List Int) (K0 : Bool → Nat → List Bool → Int → Int → Nat → List Int → Option R) : Option R :=
 K0 true v0 v1 v2 (Qe .i64 v3 1) v4 v5
def Qck:=Qa (@Qfu R)
theorem Qos : @Qck R = @Qfu R:=Q2 _
def QcL (v0 : Nat) (v1 : List Bool) (v2 v3 : Int) (K0 : Bool → Nat → List Bool → Int → Int → Option R) : Option R :=
 K0 true v0 v1 v2 (Qe .i64 v3 1)
def Q9u:=Qa (@QcL R)
theorem Qlx : @Q9u R = @QcL R:=Q2 _
def QhB (v0 : Int) (v1 : Nat) (v2 : List Bool) (v3 v4 : Int) (K0 : Bool → Nat → List Bool → Int → Int → Nat → List Int → Option R) (K1 : Bool → Nat → List Bool → Int → Int → Option R) : Option R :=
 sel (decide (0 ≤ v3))
 (sel (decide (0 ≤ Qe .i64 (ZC .i64 v0 v3) v4))
 (sel (decide (Qe .i64 (ZC .i64 v0 v3) v4 < (↑v1 : Int)))
 (sel (decide (Int.toNat (Qe .i64 (ZC .i64 v0 v3) v4) < List.length v2))
 (Y3 (List.set v2 (Int.toNat (Qe .i64 (ZC .i64 v0 v3) v4)) true) (fun (v5 : List Bool) =>
 sel (decide (0 < v3))
 (Q0h v3
 (fun v6 => Qck v1 v5 v3 v4 1 ([J2 .u64 (QV .u64 v0) v6])
 K0))
 (Q9u v1 v5 v3 v4
 (fun ve vf vg vh vi => K1 ve vf vg vh vi))))
 (none))
 (none))
 (none))
 (none)
def Qn3:=Qa (@QhB R)
theorem Qpn : @Qn3 R = @QhB R:=Q2 _
def Q6B (v0 : Nat) (v1 : List Bool) (v2 v3 : Int) (v4 : Nat) (v5 : List Int) (K0 : Bool → Nat → List Bool → Int → Int → Nat → List Int → Option R) : Option R :=
 K0 true v0 v1 v2 (Qe .i64 v3 1) v4 v5
def Q9v:=Qa (@Q6B R)
theorem Qas : @Q9v R = @Q6B R:=Q2 _
def Q6C (v0 : Nat) (v1 : List Bool) (v2 v3 : Int) (v4 : Nat) (v5 : List Int) (K0 : Bool → Nat → List Bool → Int → Int → Nat → List Int → Option R) : Option R :=
 K0 true v0 v1 v2 (Qe .i64 v3 1) v4 v5
def Q9w:=Qa (@Q6C R)
theorem Qat : @Q9w R = @Q6C R:=Q2 _
def Q2o (v0 : Int) (v1 : Nat) (v2 : List Bool) (v3 v4 : Int) (v5 : Nat) (v6 : List Int) (K0 : Bool → Nat → List Bool → Int → Int → Nat → List Int → Option R) (K1 : Bool → Nat → List Bool → Int → Int → Nat → List Int → Option R) : Option R :=
 sel (decide (0 ≤ v3))
 (sel (decide (0 ≤ Qe .i64 (ZC .i64 v0 v3) v4))
 (sel (decide (Qe .i64 (ZC .i64 v0 v3) v4 < (↑v1 : Int)))
 (sel (decide (Int.toNat (Qe .i64 (ZC .i64 v0 v3) v4) < List.length v2))
 (Y3 (List.set v2 (Int.toNat (Qe .i64 (ZC .i64 v0 v3) v4)) true) (fun (v7 : List Bool) =>
 sel (decide (0 < v3))
 (Q0h v3
 (fun v8 => sel (decide (List.length v6 = v5))
 (sel (decide ((v5 + 1) * 8 ≤ 140737488355328))
 (Y3 (v6 ++ [J2 .u64 (QV .u64 v0) v8]) (fun (v9 : List Int) =>
 Q9v v1 v7 v3 v4 (v5 + 1) v9
 K0))
 (none))
 (none)))
 (Q9w v1 v7 v3 v4 v5 v6
 K1)))
 (none))
 (none))
 (none))
 (none)
def Q5S:=Qa (@Q2o R)
theorem QbY : @Q5S R = @Q2o R:=Q2 _
def QcM (rec : Int → Int → List Int → Int → Int → Nat → List Bool → Int → Int → Nat → Int → List Int → List Int → Option R) (v0 v1 : Int) (v2 : List Int) (v3 v4 : Int) (v5 : Nat) (v6 : List Bool) (v7 v8 : Int) (v9 : Nat) (va : Int) (vb vc : List Int) (K0 : Nat → List Bool → Int → Int → Nat → Int → List Int → List Int → Option R) (K1 : List Int → Int → Int → Nat → List Bool → Int → Int → Nat → Int → List Int → List Int → Option R) : Option R :=
 sel (!decide (v1 = 0))
 (Q25 v1 0
 (fun vd => Q5S (Qe .i64 (UC .i64 v0 64) vd) v5 v6 v7 v8 v9 vc
 (fun ve vf vg vh vi vj vk => sel (!ve)
 (K0 vf vg vh vi vj va vb vk)
 (rec v0 (J2 .u64 v1 (QB .u64 v1 1)) v2 v3 v4 vf vg vh vi vj va vb vk))
 (fun vl vm vn vo vp vq vr => sel (!vl)
 (K0 vm vn vo vp vq va vb vr)
 (rec v0 (J2 .u64 v1 (QB .u64 v1 1)) v2 v3 v4 vm vn vo vp vq va vb vr))))
 (K1 v2 v3 v4 v5 v6 v7 v8 v9 va vb vc)
def YL (K0 : Nat → List Bool → Int → Int → Nat → Int → List Int → List Int → Option R) (K1 : List Int → Int → Int → Nat → List Bool → Int → Int → Nat → Int → List Int → List Int → Option R) : Nat → Int → Int → List Int → Int → Int → Nat → List Bool → Int → Int → Nat → Int → List Int → List Int → Option R
 | 0, _, _, _, _, _, _, _, _, _, _, _, _, _ => none
 | N + 1, v0, v1, v2, v3, v4, v5, v6, v7, v8, v9, va, vb, vc => QcM (YL K0 K1 N) v0 v1 v2 v3 v4 v5 v6 v7 v8 v9 va vb vc K0 K1
def Q1c (v0 v1 : Int) (v2 : List Int) (v3 v4 : Int) (v5 : Nat) (v6 : List Bool) (v7 v8 : Int) (v9 : Nat) (va : Int) (vb vc : List Int) (K0 : Nat → List Bool → Int → Int → Nat → Int → List Int → List Int → Option R) (K1 : List Int → Int → Int → Nat → List Bool → Int → Int → Nat → Int → List Int → List Int → Option R) : Option R :=
 YL K0 K1 NR v0 v1 v2 v3 v4 v5 v6 v7 v8 v9 va vb vc
def Q9x:=Qa (@Q1c R)
theorem Qau : @Q9x R = @Q1c R:=Q2 _
def QcN (rec : List Int → Int → Int → Nat → List Bool → Int → Int → Nat → Int → List Int → List Int → Option R) (v0 : List Int) (v1 v2 : Int) (v3 : Nat) (v4 : List Bool) (v5 v6 : Int) (v7 : Nat) (v8 : Int) (v9 va : List Int) (K0 : Nat → List Bool → Int → Int → Nat → Int → List Int → List Int → Option R) (K1 : Nat → List Bool → Int → Int → Nat → Int → List Int → List Int → Option R) : Option R :=
 sel (decide (v2 < v1))
 (sel (decide (0 ≤ v2))
 (sel (decide (v2 < (↑(List.length v0) : Int)))
 (Q9x v2 (List.getD v0 (Int.toNat v2) 0) v0 v1 v2 v3 v4 v5 v6 v7 v8 v9 va
 K0
 (fun vj vk vl vm vn vo vp vq vr vs vt => rec vj vk (Qe .i64 vl 1) vm vn vo vp vq vr vs vt))
 (none))
 (none))
 (K1 v3 v4 v5 v6 v7 v8 v9 va)
def YM (K0 : Nat → List Bool → Int → Int → Nat → Int → List Int → List Int → Option R) (K1 : Nat → List Bool → Int → Int → Nat → Int → List Int → List Int → Option R) : Nat → List Int → Int → Int → Nat → List Bool → Int → Int → Nat → Int → List Int → List Int → Option R
 | 0, _, _, _, _, _, _, _, _, _, _, _ => none
 | N + 1, v0, v1, v2, v3, v4, v5, v6, v7, v8, v9, va => QcN (YM K0 K1 N) v0 v1 v2 v3 v4 v5 v6 v7 v8 v9 va K0 K1
def Q1d (v0 : List Int) (v1 v2 : Int) (v3 : Nat) (v4 : List Bool) (v5 v6 : Int) (v7 : Nat) (v8 : Int) (v9 va : List Int) (K0 : Nat → List Bool → Int → Int → Nat → Int → List Int → List Int → Option R) (K1 : Nat → List Bool → Int → Int → Nat → Int → List Int → List Int → Option R) : Option R :=
 YM K0 K1 NR v0 v1 v2 v3 v4 v5 v6 v7 v8 v9 va
def Q9y:=Qa (@Q1d R)
theorem Qav : @Q9y R = @Q1d R:=Q2 _
def Q7V (v0 : Nat) (v1 : List Bool) (v2 v3 v4 : Int) (v5 : List Int) (K0 : Nat → List Bool → Int → Int → Nat → Int → List Int → List Int → Option R) : Option R :=
 Q9y v5 ((↑(List.length v5) : Int)) 0 v0 v1 v2 v3 0 v4 v5 []
 K0
 K0
def QaT:=Qa (@Q7V R)
theorem QbZ : @QaT R = @Q7V R:=Q2 _
def Qke (v0 : Int) (K0 : Int → Int → Option R) (K1 : Int → Nat → Int → List Int → Option R) : Option R :=
 sel (decide (v0 < 0))
 (Q23 v0 true 0
 (fun v1 v2 => K0 v2 v1)
 (fun v3 v4 => Q57 v3 v4
 (fun v5 v6 v7 v8 => K1 v6 v7 v5 v8)))
 (Q23 v0 (decide (1048576 < v0)) 0
 (fun v9 va => K0 va v9)
 (fun vb vc => Q57 vb vc
 (fun vd ve vf vg => K1 ve vf vd vg)))
def Qkf:=Qa (@Qke R)
theorem Qn4 : @Qkf R = @Qke R:=Q2 _
def Qu9 (rec : List Bool → Int → Int → Int → Int → Option R) (v0 : List Bool) (v1 v2 v3 v4 : Int) (K0 : Int → Int → Option R) : Option R :=
 sel (decide (v2 < v1))
 (sel (decide (0 ≤ v2))
 (sel (decide (v2 < (↑(List.length v0) : Int)))
 (sel (List.getD v0 (Int.toNat v2) false)
 (none)
 (rec v0 v1 (Qe .i64 v2 1) v3 v4))
 (none))
 (none))
 (K0 v3 v4)
def Q9z (K0 : Int → Int → Option R) : Nat → List Bool → Int → Int → Int → Int → Option R
 | 0, _, _, _, _, _ => none
 | N + 1, v0, v1, v2, v3, v4 => Qu9 (Q9z K0 N) v0 v1 v2 v3 v4 K0
def Qet (v0 : List Bool) (v1 v2 v3 v4 : Int) (K0 : Int → Int → Option R) : Option R :=
 Q9z K0 NR v0 v1 v2 v3 v4
def Qkg:=Qa (@Qet R)
theorem Qrc : @Qkg R = @Qet R:=Q2 _
def QhC (rec : List Bool → Int → Int → Int → Int → Nat → List Int → Option R) (v0 : List Bool) (v1 v2 v3 v4 : Int) (v5 : Nat) (v6 : List Int) (K0 : Int → Int → Nat → List Int → Option R) : Option R :=
 sel (decide (v2 < v1))
 (sel (decide (0 ≤ v2))
 (sel (decide (v2 < (↑(List.length v0) : Int)))
 (sel (List.getD v0 (Int.toNat v2) false)
 (sel (decide (0 ≤ Qu .i64 v2 64))
 (sel (decide (Qu .i64 v2 64 < (↑v5 : Int)))
 (sel (decide (Int.toNat (Qu .i64 v2 64) < List.length v6))
 (sel (decide (0 ≤ YP v2 64))
 (sel (decide (0 ≤ Qu .i64 v2 64))
 (sel (decide (Qu .i64 v2 64 < (↑v5 : Int)))
 (sel (decide (Int.toNat (Qu .i64 v2 64) < List.length v6))
 (Y3 (List.set v6 (Int.toNat (Qu .i64 v2 64)) (orW .u64 (List.getD v6 (Int.toNat (Qu .i64 v2 64)) 0) (Qap .u64 1 (YP v2 64)))) (fun (v7 : List Int) =>
 rec v0 v1 (Qe .i64 v2 1) v3 v4 v5 v7))
 (none))
 (none))
 (none))
 (none))
 (none))
 (none))
 (none))
 (rec v0 v1 (Qe .i64 v2 1) v3 v4 v5 v6))
 (none))
 (none))
 (K0 v3 v4 v5 v6)
def Jz (K0 : Int → Int → Nat → List Int → Option R) : Nat → List Bool → Int → Int → Int → Int → Nat → List Int → Option R
 | 0, _, _, _, _, _, _, _ => none
 | N + 1, v0, v1, v2, v3, v4, v5, v6 => QhC (Jz K0 N) v0 v1 v2 v3 v4 v5 v6 K0
def Q5T (v0 : List Bool) (v1 v2 v3 v4 : Int) (v5 : Nat) (v6 : List Int) (K0 : Int → Int → Nat → List Int → Option R) : Option R :=
 Jz K0 NR v0 v1 v2 v3 v4 v5 v6
def Q9A:=Qa (@Q5T R)
theorem Qeu : @Q9A R = @Q5T R:=Q2 _
def Qn5 (v0 : List Bool) (K0 : Int → List Int → Int → Option R) : Option R :=
 Qkf ((↑(List.length v0) : Int))
 (fun v1 v2 => sel (!decide (v2 = 0))
 (K0 v1 [] v2)
 (Qkg v0 ((↑(List.length v0) : Int)) 0 0 v1
 (fun _ v4 => K0 v4 [] 0)))
 (fun v5 v6 v7 v8 => sel (!decide (v7 = 0))
 (sel (decide (v6 = List.length v8))
 (K0 v5 v8 v7)
 (none))
 (Q9A v0 ((↑(List.length v0) : Int)) 0 0 v5 v6 v8
 (fun _ va vb vc => sel (decide (vb = List.length vc))
 (K0 va vc 0)
 (none))))
def QhD:=Qa (@Qn5 R)
theorem QoE : @QhD R = @Qn5 R:=Q2 _
def QaU (v0 : Bool) (v1 v2 v3 v4 v5 v6 v7 v8 v9 va vb : Int) (vc : List Int) (vd : Int) (ve : List Int) (K0 : Int → Int → Int → Int → Int → Int → Int → Option R) (K1 : Int → Int → Int → Int → Int → Int → Int → Int → Int → Int → Int → List Int → Int → List Int → Option R) : Option R :=
 sel v0
 (K0 2 0 0 0 0 0 0)
 (K1 v1 v2 v3 v4 v5 v6 v7 v8 v9 va vb vc vd ve)
def Q9B:=Qa (@QaU R)
theorem Qev : @Q9B R = @QaU R:=Q2 _
def Q9C (v0 : Int) (v1 : List Int) (K0 : Int → Int → Int → Int → Int → List Int → Int → List Int → Int → Option R) : Option R :=
 Ub v0 v1
 (fun v2 => sel (!v2)
 (K0 0 0 0 0 0 [] 0 [] 2)
 (Qhz v0 v1 v0
 (fun v3 => QaR v0 v3
 (fun v4 => sel (decide (0 ≤ v4))
 (sel (decide (0 ≤ Qe .i64 (Qe .i64 v3 (ZC .i64 v0 v4)) 1))
 (sel (decide (Qe .i64 (Qe .i64 v3 (ZC .i64 v0 v4)) 1 ≤ Qe .i64 (Qe .i64 v3 (ZC .i64 v0 v4)) 1))
 (sel (decide (Qe .i64 (Qe .i64 v3 (ZC .i64 v0 v4)) 1 ≤ 281474976710656))
 (sel (decide ((↑1 : Int) * Qe .i64 (Qe .i64 v3 (ZC .i64 v0 v4)) 1 ≤ 281474976710656))
 (Y3 (List.replicate (Int.toNat (Qe .i64 (Qe .i64 v3 (ZC .i64 v0 v4)) 1)) false) (fun (v5 : List Bool) =>
 Q9t v0 v1
 (fun v6 v7 => QaT (Int.toNat (Qe .i64 (Qe .i64 v3 (ZC .i64 v0 v4)) 1)) v5 v4 0 v6 v7
 (fun v8 v9 va _ vc _ _ vf => sel (decide (vc = List.length vf))
 (sel (decide (vc = List.length vf))
 (Qhw (max2 1 va) vf
 (fun vg vh vi vj vk => sel (decide (Int.toNat (Qe .i64 (Qe .i64 v3 (ZC .i64 v0 v4)) 1) = List.length v9))
 (sel (decide (v8 = List.length v9))
 (sel (decide (v8 = List.length v9))
 (QhD v9
 (fun vl vm vn => sel (!decide (vk = 0))
 (Q9B true 0 0 0 0 0 0 v0 v3 vg vh vi vj vl vm
 (fun vo vp vq vr vs vt vu => K0 vp vq vr vs vt [] vu [] vo)
 (fun _ _ _ _ _ _ v11 v12 v13 v14 v15 v16 v17 v18 => K0 v11 v12 v13 v14 v15 v16 v17 v18 0))
 (Q9B (!decide (vn = 0)) 0 0 0 0 0 0 v0 v3 vg vh vi vj vl vm
 (fun v19 v1a v1b v1c v1d v1e v1f => K0 v1a v1b v1c v1d v1e [] v1f [] v19)
 (fun _ _ _ _ _ _ v1m v1n v1o v1p v1q v1r v1s v1t => K0 v1m v1n v1o v1p v1q v1r v1s v1t 0))))
 (none))
 (none))
 (none)))
 (none))
 (none)))))
 (none))
 (none))
 (none))
 (none))
 (none)))))
def QaV:=Qa (@Q9C R)
theorem Qew : @QaV R = @Q9C R:=Q2 _
def Zo (v0 _v1 _v2 _v3 _v4 _v5 _v6 _v7 _v8 _v9 _va _vb _vc _vd ve vf : Int) (vg vh vi : List Int) (vj vk vl vm : Int) (vn : List Int) (vo : Int) (vp vq vr : List Int) (vs vt vu vv vw : Int) (vx : List Int) (vy : Int) (vz : List Int) (K0 : Int → Int → Int → Int → Int → Int → Int → Int → Int → Int → Int → Int → Int → Int → Option R) (K1 : Int → Int → Int → List Int → List Int → List Int → Int → Int → Int → Int → List Int → Int → List Int → List Int → List Int → Int → Int → Int → Int → Int → List Int → Int → List Int → Option R) : Option R :=
 sel (!decide (v0 = 0))
 (K0 v0 0 0 0 0 0 0 0 0 0 0 0 0 0)
 (K1 0 ve vf vg vh vi vj vk vl vm vn vo vp vq vr vs vt vu vv vw vx vy vz)
def JA:=Qa (@Zo R)
theorem Zf : @JA R = @Zo R:=Q2 _
def Uw (v0 v1 : Int) (v2 : List Int) (K0 : Int → Int → List Int → List Int → List Int → Int → Int → Int → Int → List Int → Int → List Int → List Int → List Int → Int → Int → Int → Int → Int → List Int → Int → List Int → Int → Option R) : Option R :=
 sel (decide (v0 = 1))
 (QbU v1 v2
 (fun v3 v4 v5 v6 v7 => JA v7 0 0 0 0 0 0 0 0 0 0 0 0 0 v0 v3 v4 v5 v6 0 0 0 0 [] 0 [] [] [] 0 0 0 0 0 [] 0 []
 (fun v8 v9 va vb vc vd ve vf vg vh vi vj vk vl => K0 v9 va [] [] [] vb vc vd ve [] vf [] [] [] vg vh vi vj vk [] vl [] v8)
 (fun vm vn vo vp vq vr vs vt vu vv vw vx vy vz v10 v11 v12 v13 v14 v15 v16 v17 v18 => K0 vn vo vp vq vr vs vt vu vv vw vx vy vz v10 v11 v12 v13 v14 v15 v16 v17 v18 vm)))
 (sel (decide (v0 = 2))
 (Qdo v1 v2
 (fun v19 v1a v1b v1c v1d v1e v1f v1g v1h v1i => JA v1i 0 0 0 0 0 0 0 0 0 0 0 0 0 v0 0 [] [] [] v19 v1a v1b v1c v1d v1e v1f v1g v1h 0 0 0 0 0 [] 0 []
 (fun v1j v1k v1l v1m v1n v1o v1p v1q v1r v1s v1t v1u v1v v1w => K0 v1k v1l [] [] [] v1m v1n v1o v1p [] v1q [] [] [] v1r v1s v1t v1u v1v [] v1w [] v1j)
 (fun v1x v1y v1z v20 v21 v22 v23 v24 v25 v26 v27 v28 v29 v2a v2b v2c v2d v2e v2f v2g v2h v2i v2j => K0 v1y v1z v20 v21 v22 v23 v24 v25 v26 v27 v28 v29 v2a v2b v2c v2d v2e v2f v2g v2h v2i v2j v1x)))
 (sel (decide (v0 = 3))
 (QaV v1 v2
 (fun v2k v2l v2m v2n v2o v2p v2q v2r v2s => JA v2s 0 0 0 0 0 0 0 0 0 0 0 0 0 v0 0 [] [] [] 0 0 0 0 [] 0 [] [] [] v2k v2l v2m v2n v2o v2p v2q v2r
 (fun v2t v2u v2v v2w v2x v2y v2z v30 v31 v32 v33 v34 v35 v36 => K0 v2u v2v [] [] [] v2w v2x v2y v2z [] v30 [] [] [] v31 v32 v33 v34 v35 [] v36 [] v2t)
 (fun v37 v38 v39 v3a v3b v3c v3d v3e v3f v3g v3h v3i v3j v3k v3l v3m v3n v3o v3p v3q v3r v3s v3t => K0 v38 v39 v3a v3b v3c v3d v3e v3f v3g v3h v3i v3j v3k v3l v3m v3n v3o v3p v3q v3r v3s v3t v37)))
 (JA 5 0 0 0 0 0 0 0 0 0 0 0 0 0 v0 0 [] [] [] 0 0 0 0 [] 0 [] [] [] 0 0 0 0 0 [] 0 []
 (fun v3u v3v v3w v3x v3y v3z v40 v41 v42 v43 v44 v45 v46 v47 => K0 v3v v3w [] [] [] v3x v3y v3z v40 [] v41 [] [] [] v42 v43 v44 v45 v46 [] v47 [] v3u)
 (fun v48 v49 v4a v4b v4c v4d v4e v4f v4g v4h v4i v4j v4k v4l v4m v4n v4o v4p v4q v4r v4s v4t v4u => K0 v49 v4a v4b v4c v4d v4e v4f v4g v4h v4i v4j v4k v4l v4m v4n v4o v4p v4q v4r v4s v4t v4u v48))))
def Q0s:=Qa (@Uw R)
theorem JB : @Q0s R = @Uw R:=Q2 _
def Q9D (rec : List Int → List (List Int) → Int → Int → Option R) (v0 : List Int) (v1 : List (List Int)) (v2 v3 : Int) (K0 : Bool → Option R) (K1 : Unit → Option R) : Option R :=
 sel (decide (v3 < v2))
 (sel (decide (0 ≤ v3))
 (sel (decide (v3 < (↑(List.length v0) : Int)))
 (Y3 (List.getD v1 (Int.toNat v3) []) (fun (v4 : List Int) =>
 sel (!decide (List.getD v0 (Int.toNat v3) 0 = 0))
 (K0 false)
 (sel (decide (0 < (↑(List.length v4) : Int)))
 (K0 false)
 (rec v0 v1 v2 (Qe .i64 v3 1)))))
 (none))
 (none))
 (K1 ())
def UM (K0 : Bool → Option R) (K1 : Unit → Option R) : Nat → List Int → List (List Int) → Int → Int → Option R
 | 0, _, _, _, _ => none
 | N + 1, v0, v1, v2, v3 => Q9D (UM K0 K1 N) v0 v1 v2 v3 K0 K1
def Q0t (v0 : List Int) (v1 : List (List Int)) (v2 v3 : Int) (K0 : Bool → Option R) (K1 : Unit → Option R) : Option R :=
 UM K0 K1 NR v0 v1 v2 v3
def Qcl:=Qa (@Q0t R)
theorem Q6D : @Qcl R = @Q0t R:=Q2 _
def Q9E (v0 : List Int) (v1 : List (List Int)) (K0 : Bool → Option R) : Option R :=
 Qcl v0 v1 ((↑(List.length v0) : Int)) 0
 (fun v2 => K0 v2)
 (fun _ => K0 true)
def Q2p:=Qa (@Q9E R)
theorem QaW : @Q2p R = @Q9E R:=Q2 _
def Q9F (v0 v1 v2 : Bool) (v3 _v4 : Int) (_v5 _v6 _v7 : List Int) (_v8 _v9 _va _vb : Int) (_vc : List Int) (_vd : Int) (_ve _vf _vg : List Int) (_vh _vi _vj _vk _vl : Int) (_vm : List Int) (_vn : Int) (_vo : List Int) (K0 : Bool → Option R) : Option R :=
 sel (decide (v3 = 1))
 (sel v1
 (K0 v2)
 (K0 false))
 (sel (decide (v3 = 2))
 (sel v0
 (K0 v2)
 (K0 false))
 (sel v0
 (K0 v1)
 (K0 false)))
def YR:=Qa (@Q9F R)
theorem QcO : @YR R = @Q9F R:=Q2 _
def Q4n (v0 v1 : Bool) (v2 v3 : Int) (v4 v5 v6 : List Int) (v7 v8 v9 va : Int) (vb : List Int) (vc : Int) (vd ve vf : List Int) (vg vh vi vj vk : Int) (vl : List Int) (vm : Int) (vn : List Int) (vo vp vq vr vs : Int) (vt : List Int) (vu : Int) (vv : List Int) (K0 : Bool → Option R) : Option R :=
 Q2p ([vs] ++ [vu]) ([vt] ++ [vv])
 (fun vw => Y3 ([vs] ++ [vu]) (fun (_ : List Int) =>
 Y3 ([vt] ++ [vv]) (fun (vy : List (List Int)) =>
 sel vw
 (sel (decide (vo = 0))
 (sel (decide (vp = 0))
 (sel (decide (vq = 0))
 (YR v0 v1 (decide (vr = 0)) v2 v3 v4 v5 v6 v7 v8 v9 va vb vc vd ve vf vg vh vi vj vk vl vm vn
 (fun vz => K0 vz))
 (YR v0 v1 false v2 v3 v4 v5 v6 v7 v8 v9 va vb vc vd ve vf vg vh vi vj vk vl vm vn
 (fun v10 => K0 v10)))
 (YR v0 v1 false v2 v3 v4 v5 v6 v7 v8 v9 va vb vc vd ve vf vg vh vi vj vk vl vm vn
 (fun v11 => K0 v11)))
 (YR v0 v1 false v2 v3 v4 v5 v6 v7 v8 v9 va vb vc vd ve vf vg vh vi vj vk vl vm vn
 (fun v12 => K0 v12)))
 (YR v0 v1 false v2 v3 v4 v5 v6 v7 v8 v9 va vb vc vd ve vf vg vh vi vj vk vl vm vn
 (fun v13 => K0 v13)))))
def YS:=Qa (@Q4n R)
theorem QcP : @YS R = @Q4n R:=Q2 _
def Q4o (v0 : Bool) (v1 v2 : Int) (v3 v4 v5 : List Int) (v6 v7 v8 v9 : Int) (va : List Int) (vb : Int) (vc vd ve : List Int) (vf vg vh vi vj : Int) (vk : List Int) (vl : Int) (vm : List Int) (vn vo vp vq : Int) (vr : List Int) (vs : Int) (vt vu vv : List Int) (vw vx vy vz v10 : Int) (v11 : List Int) (v12 : Int) (v13 : List Int) (K0 : Bool → Option R) : Option R :=
 Q2p ([vq] ++ [vs]) ([vr] ++ [vt])
 (fun v14 => Y3 ([vq] ++ [vs]) (fun (_ : List Int) =>
 Y3 ([vr] ++ [vt]) (fun (v16 : List (List Int)) =>
 sel v14
 (Y3 (decide (Qe .i64 (↑(List.length vu) : Int) (↑(List.length vv) : Int) = 0)) (fun (v17 : Bool) =>
 sel v17
 (sel (decide (vn = 0))
 (sel (decide (vo = 0))
 (YS v0 (decide (vp = 0)) v1 v2 v3 v4 v5 v6 v7 v8 v9 va vb vc vd ve vf vg vh vi vj vk vl vm vw vx vy vz v10 v11 v12 v13
 (fun v18 => K0 v18))
 (YS v0 false v1 v2 v3 v4 v5 v6 v7 v8 v9 va vb vc vd ve vf vg vh vi vj vk vl vm vw vx vy vz v10 v11 v12 v13
 (fun v19 => K0 v19)))
 (YS v0 false v1 v2 v3 v4 v5 v6 v7 v8 v9 va vb vc vd ve vf vg vh vi vj vk vl vm vw vx vy vz v10 v11 v12 v13
 (fun v1a => K0 v1a)))
 (YS v0 false v1 v2 v3 v4 v5 v6 v7 v8 v9 va vb vc vd ve vf vg vh vi vj vk vl vm vw vx vy vz v10 v11 v12 v13
 (fun v1b => K0 v1b))))
 (YS v0 false v1 v2 v3 v4 v5 v6 v7 v8 v9 va vb vc vd ve vf vg vh vi vj vk vl vm vw vx vy vz v10 v11 v12 v13
 (fun v1c => K0 v1c)))))
def Q3a:=Qa (@Q4o R)
theorem QcQ : @Q3a R = @Q4o R:=Q2 _
def Qex (v0 v1 : Int) (v2 v3 v4 : List Int) (v5 v6 v7 v8 : Int) (v9 : List Int) (va : Int) (vb vc vd : List Int) (ve vf vg vh vi : Int) (vj : List Int) (vk : Int) (vl : List Int) (K0 : Bool → Option R) : Option R :=
 Q2p ([v1]) ([v2])
 (fun vm => sel vm
 (Y3 (decide (Qe .i64 (↑(List.length v3) : Int) (↑(List.length v4) : Int) = 0)) (fun (vn : Bool) =>
 Q3a vn v0 v1 v2 v3 v4 v5 v6 v7 v8 v9 va vb vc vd ve vf vg vh vi vj vk vl v5 v6 v7 v8 v9 va vb vc vd ve vf vg vh vi vj vk vl
 (fun vo => K0 vo)))
 (Q3a false v0 v1 v2 v3 v4 v5 v6 v7 v8 v9 va vb vc vd ve vf vg vh vi vj vk vl v5 v6 v7 v8 v9 va vb vc vd ve vf vg vh vi vj vk vl
 (fun vp => K0 vp)))
def Qd7:=Qa (@Qex R)
theorem QhE : @Qd7 R = @Qex R:=Q2 _
def Q68 (rec : List Int → List Int → Int → Int → Option R) (v0 v1 : List Int) (v2 v3 : Int) (K0 : Bool → Option R) (K1 : Unit → Option R) : Option R :=
 sel (decide (v3 < v2))
 (sel (decide (0 ≤ v3))
 (sel (decide (v3 < (↑(List.length v0) : Int)))
 (sel (decide (0 ≤ v3))
 (sel (decide (v3 < (↑(List.length v1) : Int)))
 (sel (!decide (List.getD v0 (Int.toNat v3) 0 = List.getD v1 (Int.toNat v3) 0))
 (K0 false)
 (rec v0 v1 v2 (Qe .i64 v3 1)))
 (none))
 (none))
 (none))
 (none))
 (K1 ())
def Zi (K0 : Bool → Option R) (K1 : Unit → Option R) : Nat → List Int → List Int → Int → Int → Option R
 | 0, _, _, _, _ => none
 | N + 1, v0, v1, v2, v3 => Q68 (Zi K0 K1 N) v0 v1 v2 v3 K0 K1
def YV (v0 v1 : List Int) (v2 v3 : Int) (K0 : Bool → Option R) (K1 : Unit → Option R) : Option R :=
 Zi K0 K1 NR v0 v1 v2 v3
def Q1t:=Qa (@YV R)
theorem Q4p : @Q1t R = @YV R:=Q2 _
def Q2q (v0 v1 : List Int) (K0 : Bool → Option R) : Option R :=
 sel (!decide ((↑(List.length v0) : Int) = (↑(List.length v1) : Int)))
 (K0 false)
 (Q1t v0 v1 ((↑(List.length v0) : Int)) 0
 (fun v2 => K0 v2)
 (fun _ => K0 true))
def Y0:=Qa (@Q2q R)
theorem Q71 : @Y0 R = @Q2q R:=Q2 _
def Qgr (v0 : Int) (v1 v2 v3 : List Int) (K0 : Bool → Option R) : Option R :=
 QbU v0 v1
 (fun _ _ v6 v7 v8 => sel (decide (v8 = 0))
 (Y0 v2 v6
 (fun v9 => sel v9
 (Y0 v3 v7
 (fun va => K0 va))
 (K0 false)))
 (K0 false))
def Ju:=Qa (@Qgr R)
theorem Ql0 : @Ju R = @Qgr R:=Q2 _
def Qkh (v0 v1 v2 : Int) (v3 : List Int) (K0 : Bool → Option R) : Option R :=
 sel (decide (1 ≤ v1))
 (sel (decide (v1 ≤ 64))
 (sel (decide (0 ≤ v0))
 (sel (decide (v0 ≤ 1048576))
 (Ub v2 v3
 (fun v4 => sel v4
 (K0 (decide (v2 = UC .i64 v0 v1)))
 (K0 false)))
 (K0 false))
 (K0 false))
 (K0 false))
 (K0 false)
def Q7W:=Qa (@Qkh R)
theorem Qn6 : @Q7W R = @Qkh R:=Q2 _
def Qn7 (rec : Nat → Int → Int → Int → Int → Int → List Int → List Int → Option R) (v0 : Nat) (v1 v2 v3 v4 v5 : Int) (v6 v7 : List Int) (K0 : Nat → List Int → Option R) : Option R :=
 sel (decide (v2 < v1))
 (Q2l v5 v6 (UC .i64 v2 v4) v4
 (fun v8 _ => sel (decide (0 ≤ v2))
 (sel (decide (v2 < (↑v0 : Int)))
 (sel (decide (Int.toNat v2 < List.length v7))
 (Y3 (List.set v7 (Int.toNat v2) v8) (fun (va : List Int) =>
 rec v0 v1 (Qe .i64 v2 1) v3 v4 v5 v6 va))
 (none))
 (none))
 (none)))
 (K0 v0 v7)
def Q1u (K0 : Nat → List Int → Option R) : Nat → Nat → Int → Int → Int → Int → Int → List Int → List Int → Option R
 | 0, _, _, _, _, _, _, _, _ => none
 | N + 1, v0, v1, v2, v3, v4, v5, v6, v7 => Qn7 (Q1u K0 N) v0 v1 v2 v3 v4 v5 v6 v7 K0
def Q9G (v0 : Nat) (v1 v2 v3 v4 v5 : Int) (v6 v7 : List Int) (K0 : Nat → List Int → Option R) : Option R :=
 Q1u K0 NR v0 v1 v2 v3 v4 v5 v6 v7
def Qki:=Qa (@Q9G R)
theorem QhF : @Qki R = @Q9G R:=Q2 _
def Qn8 (v0 v1 v2 : Int) (v3 : List Int) (K0 : List Int → Option R) : Option R :=
 Q7W v0 v1 v2 v3
 (fun v4 => sel (!v4)
 (K0 [])
 (sel (decide (0 ≤ v0))
 (sel (decide (v0 ≤ v0))
 (sel (decide (v0 ≤ 281474976710656))
 (sel (decide ((↑8 : Int) * v0 ≤ 281474976710656))
 (Y3 (List.replicate (Int.toNat v0) 0) (fun (v5 : List Int) =>
 Qki (Int.toNat v0) ((↑(Int.toNat v0) : Int)) 0 v0 v1 v2 v3 v5
 (fun v6 v7 => sel (decide (v6 = List.length v7))
 (K0 v7)
 (none))))
 (none))
 (none))
 (none))
 (none)))
def QhG:=Qa (@Qn8 R)
theorem QoF : @QhG R = @Qn8 R:=Q2 _
def Q9H (v0 v1 : Int) (v2 : List (List Int)) (v3 v4 v5 : Int) (K0 : Int → Int → List (List Int) → Int → Int → Option R) : Option R :=
 sel (decide (v5 ≤ v1))
 (sel (decide (0 ≤ v4))
 (K0 (QB .i64 v0 1) (QB .u64 v1 v5) v2 (orW .u64 v3 (Qap .u64 1 v4)) v4)
 (none))
 (K0 v0 v1 v2 v3 v4)
def Q3b:=Qa (@Q9H R)
theorem Q6E : @Q3b R = @Q9H R:=Q2 _
def QhH (rec : Int → Int → List (List Int) → Int → Int → Option R) (v0 v1 : Int) (v2 : List (List Int)) (v3 v4 : Int) (K0 : Int → Option R) : Option R :=
 sel (decide (0 ≤ v4))
 (sel (decide (v0 = 0))
 (K0 v3)
 (sel (decide (v0 ≤ v4))
 (sel (decide (0 ≤ v4))
 (sel (decide (v4 < (↑(List.length v2) : Int)))
 (Y3 (List.getD v2 (Int.toNat v4) []) (fun (v5 : List Int) =>
 sel (decide (0 ≤ v0))
 (sel (decide (v0 < (↑(List.length v5) : Int)))
 (Q3b v0 v1 v2 v3 v4 (List.getD v5 (Int.toNat v0) 0)
 (fun v6 v7 v8 v9 va => rec v6 v7 v8 v9 (QB .i64 va 1)))
 (none))
 (none)))
 (none))
 (none))
 (Q3b v0 v1 v2 v3 v4 0
 (fun vb vc vd ve vf => rec vb vc vd ve (QB .i64 vf 1)))))
 (K0 v3)
def QO (K0 : Int → Option R) : Nat → Int → Int → List (List Int) → Int → Int → Option R
 | 0, _, _, _, _, _ => none
 | N + 1, v0, v1, v2, v3, v4 => QhH (QO K0 N) v0 v1 v2 v3 v4 K0
def Q1v (v0 v1 : Int) (v2 : List (List Int)) (v3 v4 : Int) (K0 : Int → Option R) : Option R :=
 QO K0 NR v0 v1 v2 v3 v4
def Qey:=Qa (@Q1v R)
theorem Q7X : @Qey R = @Q1v R:=Q2 _
def Qgs (v0 v1 v2 : Int) (K0 : Int → Bool → Option R) : Option R :=
 Q9i v0 v1
 (fun v3 => sel (decide (v3 ≤ v2))
 (K0 0 false)
 (Qeh v0
 (fun v4 => Qey v1 v2 v4 0 (QB .i64 v0 1)
 (fun v5 => K0 v5 true))))
def Qc0:=Qa (@Qgs R)
theorem Ql1 : @Qc0 R = @Qgs R:=Q2 _
def Qq8 (v0 : Bool) (v1 v2 v3 v4 : Int) (v5 : List Int) (v6 : Int) (v7 v8 v9 : List Int) (va : Int) (K0 : Bool → Int → Option R) (K1 : Int → Int → Int → Int → List Int → Int → List Int → List Int → List Int → Int → Option R) : Option R :=
 sel v0
 (K0 false 0)
 (K1 v1 v2 v3 v4 v5 v6 v7 v8 v9 va)
def Q2r:=Qa (@Qq8 R)
theorem Qez : @Q2r R = @Qq8 R:=Q2 _
def Qgt (v0 v1 v2 v3 : Int) (v4 : List Int) (v5 v6 : Int) (v7 : Bool) (v8 v9 va vb : Int) (vc : List Int) (vd : Int) (ve vf vg : List Int) (vh vi : Int) (vj : List Int) (K0 : Bool → Int → Option R) (K1 : Int → Int → Int → Int → List Int → Int → Int → Int → Int → Int → Int → List Int → Int → List Int → List Int → List Int → Int → Int → List Int → Option R) : Option R :=
 sel v7
 (K0 false 0)
 (K1 v0 v1 v2 v3 v4 v5 v6 v8 v9 va vb vc vd ve vf vg vh vi vj)
def Qc1:=Qa (@Qgt R)
theorem Q7F : @Qc1 R = @Qgt R:=Q2 _
def Qgu (v0 v1 v2 v3 : Int) (v4 : List Int) (v5 v6 v7 v8 v9 va : Int) (vb : List Int) (vc : Int) (vd ve vf : List Int) (vg vh : Int) (vi : List Int) (K0 : Int → List Int → Int → Int → Int → Int → Int → Int → List Int → Int → List Int → List Int → List Int → Int → Int → List Int → Option R) : Option R :=
 Q8e vh vi v2 v3
 (fun vj vk _ => K0 (Qe .i64 v0 v1) v4 v5 v6 v7 v8 v9 va vb vc vd ve vf vg vj vk)
def Qc2:=Qa (@Qgu R)
theorem Ql2 : @Qc2 R = @Qgu R:=Q2 _
def Qq9 (rec : Int → List Int → Int → Int → Int → Int → Int → Int → List Int → Int → List Int → List Int → List Int → Int → Int → List Int → Option R) (v0 : Int) (v1 : List Int) (v2 v3 v4 v5 v6 v7 : Int) (v8 : List Int) (v9 : Int) (va vb vc : List Int) (vd ve : Int) (vf : List Int) (K0 : Bool → Int → Option R) (K1 : Int → Int → List Int → Option R) : Option R :=
 sel (decide (v3 < v2))
 (sel (decide (0 ≤ v3))
 (sel (decide (v3 < (↑(List.length v1) : Int)))
 (sel (decide (15 < List.getD v1 (Int.toNat v3) 0))
 (K0 false 0)
 (Q8d 15 (QV .i64 (List.getD v1 (Int.toNat v3) 0))
 (fun vg => Q2l v9 va v0 vg
 (fun vh vi => Qc0 15 (QV .i64 (List.getD v1 (Int.toNat v3) 0)) vh
 (fun vj vk => sel (!decide (vi = 0))
 (Qc1 v0 vg vj (min2 15 (QB .i64 v4 ve)) v1 v2 v3 true v4 v5 v6 v7 v8 v9 va vb vc vd ve vf
 (fun vl vm => K0 vl vm)
 (fun vn vo vp vq vr vs vt vu vv vw vx vy vz v10 v11 v12 v13 v14 v15 => Qc2 vn vo vp vq vr vs vt vu vv vw vx vy vz v10 v11 v12 v13 v14 v15
 (fun v16 v17 v18 v19 v1a v1b v1c v1d v1e v1f v1g v1h v1i v1j v1k v1l => rec v16 v17 v18 (Qe .i64 v19 1) v1a v1b v1c v1d v1e v1f v1g v1h v1i v1j v1k v1l)))
 (sel (!vk)
 (Qc1 v0 vg vj (min2 15 (QB .i64 v4 ve)) v1 v2 v3 true v4 v5 v6 v7 v8 v9 va vb vc vd ve vf
 (fun v1m v1n => K0 v1m v1n)
 (fun v1o v1p v1q v1r v1s v1t v1u v1v v1w v1x v1y v1z v20 v21 v22 v23 v24 v25 v26 => Qc2 v1o v1p v1q v1r v1s v1t v1u v1v v1w v1x v1y v1z v20 v21 v22 v23 v24 v25 v26
 (fun v27 v28 v29 v2a v2b v2c v2d v2e v2f v2g v2h v2i v2j v2k v2l v2m => rec v27 v28 v29 (Qe .i64 v2a 1) v2b v2c v2d v2e v2f v2g v2h v2i v2j v2k v2l v2m)))
 (QbW vj
 (fun v2n => Qc1 v0 vg vj (min2 15 (QB .i64 v4 ve)) v1 v2 v3 (decide (min2 15 (QB .i64 v4 ve) < v2n)) v4 v5 v6 v7 v8 v9 va vb vc vd ve vf
 (fun v2o v2p => K0 v2o v2p)
 (fun v2q v2r v2s v2t v2u v2v v2w v2x v2y v2z v30 v31 v32 v33 v34 v35 v36 v37 v38 => Qc2 v2q v2r v2s v2t v2u v2v v2w v2x v2y v2z v30 v31 v32 v33 v34 v35 v36 v37 v38
 (fun v39 v3a v3b v3c v3d v3e v3f v3g v3h v3i v3j v3k v3l v3m v3n v3o => rec v39 v3a v3b (Qe .i64 v3c 1) v3d v3e v3f v3g v3h v3i v3j v3k v3l v3m v3n v3o))))))))))
 (none))
 (none))
 (K1 vd ve vf)
def Q5U (K0 : Bool → Int → Option R) (K1 : Int → Int → List Int → Option R) : Nat → Int → List Int → Int → Int → Int → Int → Int → Int → List Int → Int → List Int → List Int → List Int → Int → Int → List Int → Option R
 | 0, _, _, _, _, _, _, _, _, _, _, _, _, _, _, _, _ => none
 | N + 1, v0, v1, v2, v3, v4, v5, v6, v7, v8, v9, va, vb, vc, vd, ve, vf => Qq9 (Q5U K0 K1 N) v0 v1 v2 v3 v4 v5 v6 v7 v8 v9 va vb vc vd ve vf K0 K1
def Qd8 (v0 : Int) (v1 : List Int) (v2 v3 v4 v5 v6 v7 : Int) (v8 : List Int) (v9 : Int) (va vb vc : List Int) (vd ve : Int) (vf : List Int) (K0 : Bool → Int → Option R) (K1 : Int → Int → List Int → Option R) : Option R :=
 Q5U K0 K1 NR v0 v1 v2 v3 v4 v5 v6 v7 v8 v9 va vb vc vd ve vf
def Qpo:=Qa (@Qd8 R)
theorem Qn9 : @Qpo R = @Qd8 R:=Q2 _
def Qkj (v0 v1 v2 v3 : Int) (v4 : List Int) (v5 : Int) (v6 v7 v8 : List Int) (v9 : Int) (K0 : Bool → Int → Option R) (K1 : Bool → Int → List Int → Option R) : Option R :=
 QhG v1 v2 v3 v4
 (fun va => Qpo 0 va ((↑(List.length va) : Int)) 0 v0 v1 v2 v3 v4 v5 v6 v7 v8 v9 0 []
 (fun vb vc => K0 vb vc)
 (fun _ ve vf => K1 true ve vf))
def Q7Y:=Qa (@Qkj R)
theorem Qna : @Q7Y R = @Qkj R:=Q2 _
def Qoc (v0 v1 v2 v3 : Int) (v4 : List Int) (v5 : Int) (v6 v7 v8 : List Int) (K0 : Int → List Int → Bool → Option R) : Option R :=
 sel (decide (v0 < 0))
 (Q2r true v0 v1 v2 v3 v4 v5 v6 v7 v8 0
 (fun v9 va => K0 va [] v9)
 (fun vb vc vd ve vf vg vh vi vj vk => Q7Y vb vc vd ve vf vg vh vi vj vk
 (fun vl vm => K0 vm [] vl)
 (fun vn vo vp => K0 vo vp vn)))
 (sel (decide (1048576 < v0))
 (Q2r true v0 v1 v2 v3 v4 v5 v6 v7 v8 0
 (fun vq vr => K0 vr [] vq)
 (fun vs vt vu vv vw vx vy vz v10 v11 => Q7Y vs vt vu vv vw vx vy vz v10 v11
 (fun v12 v13 => K0 v13 [] v12)
 (fun v14 v15 v16 => K0 v15 v16 v14)))
 (Q7W v1 v2 v3 v4
 (fun v17 => sel (!v17)
 (Q2r true v0 v1 v2 v3 v4 v5 v6 v7 v8 0
 (fun v18 v19 => K0 v19 [] v18)
 (fun v1a v1b v1c v1d v1e v1f v1g v1h v1i v1j => Q7Y v1a v1b v1c v1d v1e v1f v1g v1h v1i v1j
 (fun v1k v1l => K0 v1l [] v1k)
 (fun v1m v1n v1o => K0 v1n v1o v1m)))
 (Ub v5 v6
 (fun v1p => sel (!v1p)
 (Q2r true v0 v1 v2 v3 v4 v5 v6 v7 v8 0
 (fun v1q v1r => K0 v1r [] v1q)
 (fun v1s v1t v1u v1v v1w v1x v1y v1z v20 v21 => Q7Y v1s v1t v1u v1v v1w v1x v1y v1z v20 v21
 (fun v22 v23 => K0 v23 [] v22)
 (fun v24 v25 v26 => K0 v25 v26 v24)))
 (Q2r (!decide (v1 = Qu .i64 (QB .i64 (Qe .i64 v0 15) 1) 15)) v0 v1 v2 v3 v4 v5 v6 v7 v8 0
 (fun v27 v28 => K0 v28 [] v27)
 (fun v29 v2a v2b v2c v2d v2e v2f v2g v2h v2i => Q7Y v29 v2a v2b v2c v2d v2e v2f v2g v2h v2i
 (fun v2j v2k => K0 v2k [] v2j)
 (fun v2l v2m v2n => K0 v2m v2n v2l))))))))
def QsM:=Qa (@Qoc R)
theorem Qs0 : @QsM R = @Qoc R:=Q2 _
def Q14 (rec : List Int → List Int → Int → Int → Option R) (v0 v1 : List Int) (v2 v3 : Int) (K0 : Bool → Option R) (K1 : Unit → Option R) : Option R :=
 sel (decide (v3 < v2))
 (sel (decide (0 ≤ v3))
 (sel (decide (v3 < (↑(List.length v0) : Int)))
 (sel (decide (0 ≤ v3))
 (sel (decide (v3 < (↑(List.length v1) : Int)))
 (sel (!decide (List.getD v0 (Int.toNat v3) 0 = List.getD v1 (Int.toNat v3) 0))
 (K0 false)
 (rec v0 v1 v2 (Qe .i64 v3 1)))
 (none))
 (none))
 (none))
 (none))
 (K1 ())
def QI (K0 : Bool → Option R) (K1 : Unit → Option R) : Nat → List Int → List Int → Int → Int → Option R
 | 0, _, _, _, _ => none
 | N + 1, v0, v1, v2, v3 => Q14 (QI K0 K1 N) v0 v1 v2 v3 K0 K1
def ZW (v0 v1 : List Int) (v2 v3 : Int) (K0 : Bool → Option R) (K1 : Unit → Option R) : Option R :=
 QI K0 K1 NR v0 v1 v2 v3
def Ux:=Qa (@ZW R)
theorem Q0b : @Ux R = @ZW R:=Q2 _
def J5 (v0 v1 : List Int) (K0 : Bool → Option R) : Option R :=
 sel (!decide ((↑(List.length v0) : Int) = (↑(List.length v1) : Int)))
 (K0 false)
 (Ux v0 v1 ((↑(List.length v0) : Int)) 0
 (fun v2 => K0 v2)
 (fun _ => K0 true))
def QL:=Qa (@J5 R)
theorem Q1w : @QL R = @J5 R:=Q2 _
def Qgv (v0 v1 : Bool) (v2 _v3 _v4 _v5 : Int) (_v6 : List Int) (_v7 : Int) (_v8 v9 va : List Int) (vb _vc _vd _ve : Int) (_vf : List Int) (_vg : Int) (_vh vi vj : List Int) (K0 : Bool → Option R) : Option R :=
 sel v0
 (sel v1
 (sel (decide (v2 = vb))
 (Y0 v9 vi
 (fun vk => sel vk
 (Y0 va vj
 (fun vl => K0 vl))
 (K0 false)))
 (K0 false))
 (K0 false))
 (K0 false)
def Qc3:=Qa (@Qgv R)
theorem Ql3 : @Qc3 R = @Qgv R:=Q2 _
def Qgw (v0 : Bool) (v1 v2 v3 v4 : Int) (v5 : List Int) (v6 : Int) (v7 v8 v9 : List Int) (va vb vc vd : Int) (ve : List Int) (vf : Int) (vg vh vi : List Int) (K0 : Bool → Option R) : Option R :=
 sel (decide (v6 = vf))
 (QL v7 vg
 (fun vj => Qc3 v0 vj v1 v2 v3 v4 v5 v6 v7 v8 v9 va vb vc vd ve vf vg vh vi
 (fun vk => K0 vk)))
 (Qc3 v0 false v1 v2 v3 v4 v5 v6 v7 v8 v9 va vb vc vd ve vf vg vh vi
 (fun vl => K0 vl))
def Q58:=Qa (@Qgw R)
theorem Ql4 : @Q58 R = @Qgw R:=Q2 _
def Qpp (v0 v1 v2 v3 : Int) (v4 : List Int) (v5 : Int) (v6 v7 v8 : List Int) (v9 va vb vc : Int) (vd : List Int) (ve : Int) (vf vg vh : List Int) (K0 : Bool → Option R) : Option R :=
 sel (decide (v1 = va))
 (sel (decide (v2 = vb))
 (sel (decide (v3 = vc))
 (QL v4 vd
 (fun vi => Q58 vi v0 v1 v2 v3 v4 v5 v6 v7 v8 v9 va vb vc vd ve vf vg vh
 (fun vj => K0 vj)))
 (Q58 false v0 v1 v2 v3 v4 v5 v6 v7 v8 v9 va vb vc vd ve vf vg vh
 (fun vk => K0 vk)))
 (Q58 false v0 v1 v2 v3 v4 v5 v6 v7 v8 v9 va vb vc vd ve vf vg vh
 (fun vl => K0 vl)))
 (Q58 false v0 v1 v2 v3 v4 v5 v6 v7 v8 v9 va vb vc vd ve vf vg vh
 (fun vm => K0 vm))
def Qqa:=Qa (@Qpp R)
theorem Qqb : @Qqa R = @Qpp R:=Q2 _
def Qfv (v0 v1 v2 v3 : Int) (v4 : List Int) (v5 : Int) (v6 v7 v8 : List Int) (K0 : Int → List Int → Bool → Option R) : Option R :=
 QsM v0 v1 v2 v3 v4 v5 v6 v7 v8
 (fun v9 va vb => sel (!vb)
 (K0 0 [] false)
 (Qdo v9 va
 (fun vc vd ve vf vg vh vi vj vk _ => Qqa v0 v1 v2 v3 v4 v5 v6 v7 v8 vc vd ve vf vg vh vi vj vk
 (fun vm => sel (!vm)
 (K0 0 [] false)
 (K0 v9 va true)))))
def QaX:=Qa (@Qfv R)
theorem Qgx : @QaX R = @Qfv R:=Q2 _
def Qfw (v0 v1 v2 v3 : Int) (v4 : List Int) (v5 : Int) (v6 v7 v8 : List Int) (K0 : Bool → Option R) : Option R :=
 QaX v0 v1 v2 v3 v4 v5 v6 v7 v8
 (fun _ _ vb => K0 vb)
def Q3q:=Qa (@Qfw R)
theorem Qgy : @Q3q R = @Qfw R:=Q2 _
def Q72 (v0 : Bool) (v1 v2 v3 v4 v5 : Int) (v6 : List Int) (v7 : Int) (v8 : List Int) (v9 : Int) (K0 : Bool → Int → Option R) (K1 : Int → Int → Int → Int → Int → List Int → Int → List Int → Int → Option R) : Option R :=
 sel v0
 (K0 false 0)
 (K1 v1 v2 v3 v4 v5 v6 v7 v8 v9)
def Q0u:=Qa (@Q72 R)
theorem Q7G : @Q0u R = @Q72 R:=Q2 _
def Q7H (v0 : Int) (v1 : Bool) (v2 v3 : Int) (v4 : List Int) (v5 v6 v7 v8 v9 : Int) (va : List Int) (vb : Int) (vc : List Int) (vd : Bool) (ve : Nat) (vf : List Bool) (K0 : Int → Int → Int → List Int → Int → Int → Int → Int → Int → List Int → Int → List Int → Bool → Nat → List Bool → Option R) : Option R :=
 sel v1
 (sel (decide (0 ≤ v2))
 (sel (decide (v2 < (↑(List.length v4) : Int)))
 (Q0h v3
 (fun vg => K0 (orW .i64 v0 (QV .i64 (J2 .u64 (List.getD v4 (Int.toNat v2) 0) vg))) v2 v3 v4 v5 v6 v7 v8 v9 va vb vc vd ve vf))
 (none))
 (none))
 (K0 v0 v2 v3 v4 v5 v6 v7 v8 v9 va vb vc vd ve vf)
def Qbt:=Qa (@Q7H R)
theorem Q9I : @Qbt R = @Q7H R:=Q2 _
def Q3c (v0 v1 : Int) (v2 : List Int) (v3 v4 v5 v6 v7 : Int) (v8 : List Int) (v9 : Int) (va : List Int) (vb : Bool) (vc : Nat) (vd : List Bool) (K0 : Bool → Int → Int → List Int → Int → Int → Int → Int → Int → List Int → Int → List Int → Bool → Nat → List Bool → Option R) : Option R :=
 K0 vb (Qe .i64 v0 1) v1 v2 v3 v4 v5 v6 v7 v8 v9 va vb vc vd
def Qbu:=Qa (@Q3c R)
theorem Q4q : @Qbu R = @Q3c R:=Q2 _
def Q7I (v0 v1 v2 : Int) (v3 : List Int) (v4 v5 v6 v7 v8 : Int) (v9 : List Int) (va : Int) (vb : List Int) (vc : Bool) (vd : Nat) (ve : List Bool) (K0 : Bool → Int → Int → List Int → Int → Int → Int → Int → Int → List Int → Int → List Int → Bool → Nat → List Bool → Option R) : Option R :=
 sel vc
 (sel (decide (0 ≤ v0))
 (sel (decide (v0 < (↑vd : Int)))
 (sel (decide (Int.toNat v0 < List.length ve))
 (Y3 (List.set ve (Int.toNat v0) true) (fun (vf : List Bool) =>
 Qbu v1 v2 v3 v4 v5 v6 v7 v8 v9 va vb vc vd vf
 K0))
 (none))
 (none))
 (none))
 (Qbu v1 v2 v3 v4 v5 v6 v7 v8 v9 va vb vc vd ve
 K0)
def Qbv:=Qa (@Q7I R)
theorem Q9J : @Qbv R = @Q7I R:=Q2 _
def Qcm (v0 v1 v2 : Int) (v3 : List Int) (v4 v5 v6 v7 v8 : Int) (v9 : List Int) (va : Int) (vb : List Int) (_vc : Bool) (vd : Nat) (ve : List Bool) (K0 : Bool → Int → Int → List Int → Int → Int → Int → Int → Int → List Int → Int → List Int → Bool → Nat → List Bool → Option R) : Option R :=
 sel (decide (v1 < v5))
 (Qbv v0 v1 v2 v3 v4 v5 v6 v7 v8 v9 va vb (decide (v0 < v4)) vd ve
 K0)
 (Qbv v0 v1 v2 v3 v4 v5 v6 v7 v8 v9 va vb false vd ve
 K0)
def Q73:=Qa (@Qcm R)
theorem Qfx : @Q73 R = @Qcm R:=Q2 _
def Q9K (v0 v1 v2 : Int) (v3 : List Int) (v4 v5 v6 v7 v8 : Int) (v9 : List Int) (va : Int) (vb : List Int) (vc : Bool) (vd : Nat) (ve : List Bool) (K0 : Bool → Int → Int → List Int → Int → Int → Int → Int → Int → List Int → Int → List Int → Bool → Nat → List Bool → Option R) : Option R :=
 sel (decide (0 ≤ v2))
 (sel (decide (0 < v2))
 (Qbt (Qap .i64 (QB .i64 v0 v1) v2) (decide (v1 < (↑(List.length v3) : Int))) v1 v2 v3 v4 v5 v6 v7 v8 v9 va vb vc vd ve
 (fun vf vg vh vi vj vk vl vm vn vo vp vq vr vs vt => Q73 vf vg vh vi vj vk vl vm vn vo vp vq vr vs vt
 K0))
 (Qbt (Qap .i64 (QB .i64 v0 v1) v2) false v1 v2 v3 v4 v5 v6 v7 v8 v9 va vb vc vd ve
 (fun v19 v1a v1b v1c v1d v1e v1f v1g v1h v1i v1j v1k v1l v1m v1n => Q73 v19 v1a v1b v1c v1d v1e v1f v1g v1h v1i v1j v1k v1l v1m v1n
 K0)))
 (none)
def Qd9:=Qa (@Q9K R)
theorem QhI : @Qd9 R = @Q9K R:=Q2 _
def Qaw (rec : Int → Int → List Int → Int → Int → Int → Int → List Int → Int → Int → Int → Int → Int → List Int → Int → List Int → Bool → Nat → List Bool → Int → List Int → Option R) (v0 v1 : Int) (v2 : List Int) (v3 v4 v5 v6 : Int) (v7 : List Int) (v8 v9 va vb vc : Int) (vd : List Int) (ve : Int) (vf : List Int) (vg : Bool) (vh : Nat) (vi : List Bool) (vj : Int) (vk : List Int) (K0 : Int → Int → List Int → Int → Int → Int → Int → Int → List Int → Int → List Int → Bool → Nat → List Bool → Int → List Int → Option R) (K1 : List Int → Int → Int → Int → Int → List Int → Int → Int → Int → Int → Int → List Int → Int → List Int → Bool → Nat → List Bool → Int → List Int → Option R) : Option R :=
 sel (!decide (v1 = 0))
 (Q25 v1 0
 (fun vl => Qd9 (Qe .i64 (UC .i64 v0 64) vl) v5 v6 v7 v8 v9 va vb vc vd ve vf vg vh vi
 (fun vm vn vo vp vq vr vs vt vu vv vw vx vy vz v10 => sel (!vm)
 (K0 vn vo vp vq vr vs vt vu vv vw vx vy vz v10 vj vk)
 (rec v0 (J2 .u64 v1 (QB .u64 v1 1)) v2 v3 v4 vn vo vp vq vr vs vt vu vv vw vx vy vz v10 vj vk))))
 (K1 v2 v3 v4 v5 v6 v7 v8 v9 va vb vc vd ve vf vg vh vi vj vk)
def Yi (K0 : Int → Int → List Int → Int → Int → Int → Int → Int → List Int → Int → List Int → Bool → Nat → List Bool → Int → List Int → Option R) (K1 : List Int → Int → Int → Int → Int → List Int → Int → Int → Int → Int → Int → List Int → Int → List Int → Bool → Nat → List Bool → Int → List Int → Option R) : Nat → Int → Int → List Int → Int → Int → Int → Int → List Int → Int → Int → Int → Int → Int → List Int → Int → List Int → Bool → Nat → List Bool → Int → List Int → Option R
 | 0, _, _, _, _, _, _, _, _, _, _, _, _, _, _, _, _, _, _, _, _, _ => none
 | N + 1, v0, v1, v2, v3, v4, v5, v6, v7, v8, v9, va, vb, vc, vd, ve, vf, vg, vh, vi, vj, vk => Qaw (Yi K0 K1 N) v0 v1 v2 v3 v4 v5 v6 v7 v8 v9 va vb vc vd ve vf vg vh vi vj vk K0 K1
def Q01 (v0 v1 : Int) (v2 : List Int) (v3 v4 v5 v6 : Int) (v7 : List Int) (v8 v9 va vb vc : Int) (vd : List Int) (ve : Int) (vf : List Int) (vg : Bool) (vh : Nat) (vi : List Bool) (vj : Int) (vk : List Int) (K0 : Int → Int → List Int → Int → Int → Int → Int → Int → List Int → Int → List Int → Bool → Nat → List Bool → Int → List Int → Option R) (K1 : List Int → Int → Int → Int → Int → List Int → Int → Int → Int → Int → Int → List Int → Int → List Int → Bool → Nat → List Bool → Int → List Int → Option R) : Option R :=
 Yi K0 K1 NR v0 v1 v2 v3 v4 v5 v6 v7 v8 v9 va vb vc vd ve vf vg vh vi vj vk
def Q6F:=Qa (@Q01 R)
theorem Q8f : @Q6F R = @Q01 R:=Q2 _
def Qax (rec : List Int → Int → Int → Int → Int → List Int → Int → Int → Int → Int → Int → List Int → Int → List Int → Bool → Nat → List Bool → Int → List Int → Option R) (v0 : List Int) (v1 v2 v3 v4 : Int) (v5 : List Int) (v6 v7 v8 v9 va : Int) (vb : List Int) (vc : Int) (vd : List Int) (ve : Bool) (vf : Nat) (vg : List Bool) (vh : Int) (vi : List Int) (K0 : Int → Int → List Int → Int → Int → Int → Int → Int → List Int → Int → List Int → Bool → Nat → List Bool → Int → List Int → Option R) (K1 : Int → Int → List Int → Int → Int → Int → Int → Int → List Int → Int → List Int → Bool → Nat → List Bool → Int → List Int → Option R) : Option R :=
 sel (decide (v2 < v1))
 (sel (decide (0 ≤ v2))
 (sel (decide (v2 < (↑(List.length v0) : Int)))
 (Q6F v2 (List.getD v0 (Int.toNat v2) 0) v0 v1 v2 v3 v4 v5 v6 v7 v8 v9 va vb vc vd ve vf vg vh vi
 K0
 (fun vz v10 v11 v12 v13 v14 v15 v16 v17 v18 v19 v1a v1b v1c v1d v1e v1f v1g v1h => rec vz v10 (Qe .i64 v11 1) v12 v13 v14 v15 v16 v17 v18 v19 v1a v1b v1c v1d v1e v1f v1g v1h))
 (none))
 (none))
 (K1 v3 v4 v5 v6 v7 v8 v9 va vb vc vd ve vf vg vh vi)
def Yj (K0 : Int → Int → List Int → Int → Int → Int → Int → Int → List Int → Int → List Int → Bool → Nat → List Bool → Int → List Int → Option R) (K1 : Int → Int → List Int → Int → Int → Int → Int → Int → List Int → Int → List Int → Bool → Nat → List Bool → Int → List Int → Option R) : Nat → List Int → Int → Int → Int → Int → List Int → Int → Int → Int → Int → Int → List Int → Int → List Int → Bool → Nat → List Bool → Int → List Int → Option R
 | 0, _, _, _, _, _, _, _, _, _, _, _, _, _, _, _, _, _, _, _ => none
 | N + 1, v0, v1, v2, v3, v4, v5, v6, v7, v8, v9, va, vb, vc, vd, ve, vf, vg, vh, vi => Qax (Yj K0 K1 N) v0 v1 v2 v3 v4 v5 v6 v7 v8 v9 va vb vc vd ve vf vg vh vi K0 K1
def Q02 (v0 : List Int) (v1 v2 v3 v4 : Int) (v5 : List Int) (v6 v7 v8 v9 va : Int) (vb : List Int) (vc : Int) (vd : List Int) (ve : Bool) (vf : Nat) (vg : List Bool) (vh : Int) (vi : List Int) (K0 : Int → Int → List Int → Int → Int → Int → Int → Int → List Int → Int → List Int → Bool → Nat → List Bool → Int → List Int → Option R) (K1 : Int → Int → List Int → Int → Int → Int → Int → Int → List Int → Int → List Int → Bool → Nat → List Bool → Int → List Int → Option R) : Option R :=
 Yj K0 K1 NR v0 v1 v2 v3 v4 v5 v6 v7 v8 v9 va vb vc vd ve vf vg vh vi
def Q6G:=Qa (@Q02 R)
theorem Q8g : @Q6G R = @Q02 R:=Q2 _
def Q59 (v0 v1 : Int) (v2 : List Int) (v3 v4 v5 v6 v7 : Int) (v8 : List Int) (v9 : Int) (va : List Int) (vb : Bool) (vc : Nat) (vd : List Bool) (ve : Int) (vf : List Int) (K0 : Int → Int → List Int → Int → Int → Int → Int → Int → List Int → Int → List Int → Bool → Nat → List Bool → Int → List Int → Option R) : Option R :=
 Q6G vf ((↑(List.length vf) : Int)) 0 v0 v1 v2 v3 v4 v5 v6 v7 v8 v9 va vb vc vd ve vf
 K0
 K0
def Q7Z:=Qa (@Q59 R)
theorem Q9L : @Q7Z R = @Q59 R:=Q2 _
def Q9M (v0 : Bool) (v1 v2 : Int) (v3 : List Int) (K0 : Bool → Int → Option R) (K1 : Int → Int → List Int → Option R) : Option R :=
 sel v0
 (K0 false 0)
 (K1 v1 v2 v3)
def Qda:=Qa (@Q9M R)
theorem QaY : @Qda R = @Q9M R:=Q2 _
def Q9N (v0 : Int) (v1 : Bool) (v2 v3 : Int) (v4 : List Int) (K0 : Bool → Int → Option R) (K1 : Bool → Int → List Int → Option R) : Option R :=
 sel (!decide (v0 = 0))
 (Qda true v2 v3 v4
 (fun v5 v6 => K0 v5 v6)
 (fun _ v8 v9 => K1 true v8 v9))
 (Qda (!v1) v2 v3 v4
 (fun va vb => K0 va vb)
 (fun _ vd ve => K1 true vd ve))
def Uh:=Qa (@Q9N R)
theorem QaZ : @Uh R = @Q9N R:=Q2 _
def Qbw (v0 v1 v2 v3 v4 : Int) (v5 : List Int) (v6 : Int) (v7 : List Int) (v8 v9 : Int) (va : List Int) (vb : Nat) (vc : List Bool) (K0 : Bool → Int → Option R) (K1 : Bool → Int → List Int → Option R) : Option R :=
 Q9t v6 v7
 (fun vd ve => Q7Z 0 v9 va v0 v1 v2 v3 v4 v5 v6 v7 true vb vc vd ve
 (fun _ _ _ _ vj vk vl _ vn vo vp vq vr vs _ _ => sel (!vq)
 (K0 false 0)
 (sel (decide (vr = List.length vs))
 (sel (decide (vr = List.length vs))
 (QhD vs
 (fun vv vw _ => QaV vv vw
 (fun _ vz v10 v11 _ v13 v14 v15 v16 => sel (decide (vj = vz))
 (sel (decide (vk = v10))
 (sel (decide (vl = v11))
 (QL vn v13
 (fun v17 => sel v17
 (sel (decide (vo = v14))
 (QL vp v15
 (fun v18 => Uh v16 v18 v8 vv vw
 (fun v19 v1a => K0 v19 v1a)
 (fun v1b v1c v1d => K1 v1b v1c v1d)))
 (Uh v16 false v8 vv vw
 (fun v1e v1f => K0 v1e v1f)
 (fun v1g v1h v1i => K1 v1g v1h v1i)))
 (Uh v16 false v8 vv vw
 (fun v1j v1k => K0 v1j v1k)
 (fun v1l v1m v1n => K1 v1l v1m v1n))))
 (Uh v16 false v8 vv vw
 (fun v1o v1p => K0 v1o v1p)
 (fun v1q v1r v1s => K1 v1q v1r v1s)))
 (Uh v16 false v8 vv vw
 (fun v1t v1u => K0 v1t v1u)
 (fun v1v v1w v1x => K1 v1v v1w v1x)))
 (Uh v16 false v8 vv vw
 (fun v1y v1z => K0 v1y v1z)
 (fun v20 v21 v22 => K1 v20 v21 v22)))))
 (none))
 (none))))
def Qnb:=Qa (@Qbw R)
theorem Ql5 : @Qnb R = @Qbw R:=Q2 _
def Qgz (v0 v1 v2 v3 v4 : Int) (v5 : List Int) (v6 : Int) (v7 : List Int) (v8 : Int) (K0 : Bool → Int → Option R) (K1 : Bool → Int → List Int → Option R) : Option R :=
 QaR v0 v1
 (fun v9 => QhG v2 v3 v4 v5
 (fun va => sel (decide (0 ≤ v0))
 (sel (decide (v0 ≤ v0))
 (sel (decide (v0 ≤ 281474976710656))
 (sel (decide ((↑1 : Int) * v0 ≤ 281474976710656))
 (Y3 (List.replicate (Int.toNat v0) false) (fun (vb : List Bool) =>
 Qnb v0 v1 v2 v3 v4 v5 v6 v7 v8 v9 va (Int.toNat v0) vb
 (fun vc vd => K0 vc vd)
 (fun ve vf vg => K1 ve vf vg)))
 (none))
 (none))
 (none))
 (none)))
def Q0v:=Qa (@Qgz R)
theorem Ql6 : @Q0v R = @Qgz R:=Q2 _
def QeA (v0 v1 v2 v3 v4 : Int) (v5 : List Int) (v6 : Int) (v7 : List Int) (K0 : Int → List Int → Bool → Option R) : Option R :=
 sel (decide (v0 < 0))
 (Q0u true v0 v1 v2 v3 v4 v5 v6 v7 0
 (fun v8 v9 => K0 v9 [] v8)
 (fun va vb vc vd ve vf vg vh vi => Q0v va vb vc vd ve vf vg vh vi
 (fun vj vk => K0 vk [] vj)
 (fun vl vm vn => K0 vm vn vl)))
 (sel (decide (1048576 < v0))
 (Q0u true v0 v1 v2 v3 v4 v5 v6 v7 0
 (fun vo vp => K0 vp [] vo)
 (fun vq vr vs vt vu vv vw vx vy => Q0v vq vr vs vt vu vv vw vx vy
 (fun vz v10 => K0 v10 [] vz)
 (fun v11 v12 v13 => K0 v12 v13 v11)))
 (sel (decide (v1 < 0))
 (Q0u true v0 v1 v2 v3 v4 v5 v6 v7 0
 (fun v14 v15 => K0 v15 [] v14)
 (fun v16 v17 v18 v19 v1a v1b v1c v1d v1e => Q0v v16 v17 v18 v19 v1a v1b v1c v1d v1e
 (fun v1f v1g => K0 v1g [] v1f)
 (fun v1h v1i v1j => K0 v1i v1j v1h)))
 (sel (decide (v0 < v1))
 (Q0u true v0 v1 v2 v3 v4 v5 v6 v7 0
 (fun v1k v1l => K0 v1l [] v1k)
 (fun v1m v1n v1o v1p v1q v1r v1s v1t v1u => Q0v v1m v1n v1o v1p v1q v1r v1s v1t v1u
 (fun v1v v1w => K0 v1w [] v1v)
 (fun v1x v1y v1z => K0 v1y v1z v1x)))
 (Q7W v2 v3 v4 v5
 (fun v20 => sel (!v20)
 (Q0u true v0 v1 v2 v3 v4 v5 v6 v7 0
 (fun v21 v22 => K0 v22 [] v21)
 (fun v23 v24 v25 v26 v27 v28 v29 v2a v2b => Q0v v23 v24 v25 v26 v27 v28 v29 v2a v2b
 (fun v2c v2d => K0 v2d [] v2c)
 (fun v2e v2f v2g => K0 v2f v2g v2e)))
 (Ub v6 v7
 (fun v2h => Q0u (!v2h) v0 v1 v2 v3 v4 v5 v6 v7 0
 (fun v2i v2j => K0 v2j [] v2i)
 (fun v2k v2l v2m v2n v2o v2p v2q v2r v2s => Q0v v2k v2l v2m v2n v2o v2p v2q v2r v2s
 (fun v2t v2u => K0 v2u [] v2t)
 (fun v2v v2w v2x => K0 v2w v2x v2v)))))))))
def QhJ:=Qa (@QeA R)
theorem Qkk : @QhJ R = @QeA R:=Q2 _
def Qdb (v0 v1 v2 v3 v4 : Int) (v5 : List Int) (v6 : Int) (v7 : List Int) (K0 : Bool → Option R) : Option R :=
 QhJ v0 v1 v2 v3 v4 v5 v6 v7
 (fun _ _ va => K0 va)
def Q0Q:=Qa (@Qdb R)
theorem QeB : @Q0Q R = @Qdb R:=Q2 _
def JN (v0 v1 : Int) (v2 v3 v4 : List Int) (v5 v6 v7 v8 : Int) (v9 : List Int) (va : Int) (vb vc vd : List Int) (ve vf vg vh vi : Int) (vj : List Int) (vk : Int) (vl : List Int) (K0 : Bool → Option R) : Option R :=
 Qd7 v0 v1 v2 v3 v4 v5 v6 v7 v8 v9 va vb vc vd ve vf vg vh vi vj vk vl
 (fun vm => sel (!vm)
 (K0 false)
 (sel (decide (v0 = 1))
 (Ju v1 v2 v3 v4
 (fun vn => K0 vn))
 (sel (decide (v0 = 2))
 (Q3q v5 v6 v7 v8 v9 va vb vc vd
 (fun vo => K0 vo))
 (sel (decide (v0 = 3))
 (Q0Q ve vf vg vh vi vj vk vl
 (fun vp => K0 vp))
 (K0 false)))))
def ZK:=Qa (@JN R)
theorem JC : @ZK R = @JN R:=Q2 _
def QgA (v0 _v1 : Int) (v2 : List Int) (K0 : Bool → Int → Option R) : Option R :=
 sel (decide (0 ≤ Qu .i64 v0 64))
 (sel (decide (Qu .i64 v0 64 < (↑(List.length v2) : Int)))
 (sel (decide (0 ≤ YP v0 64))
 (Y3 (decide (J2 .u64 (ZC .u64 (List.getD v2 (Int.toNat (Qu .i64 v0 64)) 0) (YP v0 64)) 1 = 1)) (fun (v3 : Bool) =>
 K0 v3 0))
 (none))
 (none))
 (none)
def Qnc:=Qa (@QgA R)
theorem Ql7 : @Qnc R = @QgA R:=Q2 _
def Qpq (v0 : Int) (v1 : List Int) (v2 : Int) (K0 : Bool → Int → Option R) : Option R :=
 Ub v0 v1
 (fun v3 => sel (!v3)
 (K0 false 2)
 (sel (decide (v2 < 0))
 (K0 false 3)
 (sel (decide (v0 ≤ v2))
 (K0 false 3)
 (Qnc v2 v0 v1
 (fun v4 v5 => K0 v4 v5)))))
def Qqc:=Qa (@Qpq R)
theorem Qqd : @Qqc R = @Qpq R:=Q2 _
def QeC (v0 : Int) (v1 v2 v3 : List Int) (v4 : Int) (K0 : Bool → Int → Option R) : Option R :=
 Ju v0 v1 v2 v3
 (fun v5 => sel (!v5)
 (K0 false 2)
 (Qqc v0 v1 v4
 (fun v6 v7 => K0 v6 v7)))
def Qdc:=Qa (@QeC R)
theorem QhK : @Qdc R = @QeC R:=Q2 _
def QgB (v0 : Bool) (K0 : Int → Option R) (K1 : Unit → Option R) : Option R :=
 sel v0
 (K0 3)
 (K1 ())
def Qc4:=Qa (@QgB R)
theorem Ql8 : @Qc4 R = @QgB R:=Q2 _
def Qpr (v0 v1 v2 : Int) (v3 : List Int) (v4 : Int) (K0 : Int → Option R) (K1 : Unit → Option R) : Option R :=
 Q7W v0 v1 v2 v3
 (fun v5 => sel (!v5)
 (K0 2)
 (sel (decide (v4 < 0))
 (Qc4 true
 (fun v6 => K0 v6)
 (fun _ => K1 ()))
 (Qc4 (decide (v0 ≤ v4))
 (fun v7 => K0 v7)
 (fun _ => K1 ()))))
def Qqe:=Qa (@Qpr R)
theorem Qqf : @Qqe R = @Qpr R:=Q2 _
def Qps (v0 v1 v2 : Int) (v3 : List Int) (v4 : Int) (K0 : Int → Int → Option R) : Option R :=
 Qqe v0 v1 v2 v3 v4
 (fun v5 => K0 0 v5)
 (fun _ => Q2l v2 v3 (UC .i64 v4 v1) v1
 (fun v6 v7 => K0 v6 v7))
def Qnd:=Qa (@Qps R)
theorem Qqg : @Qnd R = @Qps R:=Q2 _
def Qrd (_v0 v1 v2 v3 : Int) (v4 : List Int) (v5 : Int) (v6 _v7 _v8 : List Int) (v9 va : Int) (K0 : Int → Int → Option R) : Option R :=
 Qnd v1 v2 v3 v4 v9
 (fun vb _ => Q8d 15 (QV .i64 vb)
 (fun vd => Q2l v5 v6 va vd
 (fun ve _ => Qc0 15 (QV .i64 vb) ve
 (fun vg _ => K0 vg vd))))
def Qqh:=Qa (@Qrd R)
theorem Qs1 : @Qqh R = @Qrd R:=Q2 _
def QeD (v0 v1 v2 v3 _v4 : Int) (K0 : Bool → Int → Int → Option R) : Option R :=
 QaQ v1 (QB .i64 v3 (UC .i64 v0 15))
 (fun v5 => K0 (decide (UC .i64 (Qe .i64 v0 1) 15 < v3)) v3 (Qe .i64 v2 v5))
def Qkl:=Qa (@QeD R)
theorem QhL : @Qkl R = @QeD R:=Q2 _
def QoG (rec : Int → Int → Int → Int → Int → Int → Int → Int → Int → List Int → Int → List Int → List Int → List Int → Option R) (v0 v1 v2 v3 v4 v5 v6 v7 v8 : Int) (v9 : List Int) (va : Int) (vb vc vd : List Int) (K0 : Int → Int → Option R) (K1 : Int → Int → Option R) : Option R :=
 sel (decide (v2 < v6))
 (Qqh v5 v6 v7 v8 v9 va vb vc vd v2 v1
 (fun ve vf => Qkl v2 ve v0 v3 v4
 (fun vg vh vi => sel (!vg)
 (K0 vh vi)
 (Q37 ve
 (fun vj => rec (Qe .i64 v0 vj) (Qe .i64 v1 vf) (Qe .i64 v2 1) vh vi v5 v6 v7 v8 v9 va vb vc vd)))))
 (K1 v3 v4)
def Q3r (K0 : Int → Int → Option R) (K1 : Int → Int → Option R) : Nat → Int → Int → Int → Int → Int → Int → Int → Int → Int → List Int → Int → List Int → List Int → List Int → Option R
 | 0, _, _, _, _, _, _, _, _, _, _, _, _, _, _ => none
 | N + 1, v0, v1, v2, v3, v4, v5, v6, v7, v8, v9, va, vb, vc, vd => QoG (Q3r K0 K1 N) v0 v1 v2 v3 v4 v5 v6 v7 v8 v9 va vb vc vd K0 K1
def Qbx (v0 v1 v2 v3 v4 v5 v6 v7 v8 : Int) (v9 : List Int) (va : Int) (vb vc vd : List Int) (K0 : Int → Int → Option R) (K1 : Int → Int → Option R) : Option R :=
 Q3r K0 K1 NR v0 v1 v2 v3 v4 v5 v6 v7 v8 v9 va vb vc vd
def Qne:=Qa (@Qbx R)
theorem Ql9 : @Qne R = @Qbx R:=Q2 _
def Qkm (v0 v1 v2 v3 : Int) (v4 : List Int) (v5 : Int) (v6 v7 v8 : List Int) (v9 va vb : Int) (K0 : Int → Int → Option R) : Option R :=
 sel (decide (0 ≤ Qu .i64 v9 8))
 (sel (decide (Qu .i64 v9 8 < (↑(List.length v7) : Int)))
 (sel (decide (0 ≤ Qu .i64 v9 8))
 (sel (decide (Qu .i64 v9 8 < (↑(List.length v8) : Int)))
 (Qne (List.getD v7 (Int.toNat (Qu .i64 v9 8)) 0) (List.getD v8 (Int.toNat (Qu .i64 v9 8)) 0) (UC .i64 (Qu .i64 v9 8) 8) va vb v0 v1 v2 v3 v4 v5 v6 v7 v8
 (fun vc vd => K0 vc vd)
 (fun ve vf => K0 ve vf))
 (none))
 (none))
 (none))
 (none)
def Qpt:=Qa (@Qkm R)
theorem Qnf : @Qpt R = @Qkm R:=Q2 _
def Qpu (v0 v1 v2 v3 : Int) (v4 : List Int) (v5 : Int) (v6 v7 v8 : List Int) (v9 : Int) (K0 : Int → Option R) : Option R :=
 sel (decide (v9 = 0))
 (K0 0)
 (Qpt v0 v1 v2 v3 v4 v5 v6 v7 v8 (Qu .i64 (QB .i64 v9 1) 15) v9 0
 (fun _ vb => K0 vb))
def QeE:=Qa (@Qpu R)
theorem Qqi : @QeE R = @Qpu R:=Q2 _
def Qcn (v0 v1 v2 v3 v4 : Int) (v5 : List Int) (v6 : Int) (v7 v8 v9 : List Int) (K0 : Bool → Int → Option R) : Option R :=
 QeE v1 v2 v3 v4 v5 v6 v7 v8 v9 (Qe .i64 v0 1)
 (fun va => QeE v1 v2 v3 v4 v5 v6 v7 v8 v9 v0
 (fun vb => K0 (decide (vb < va)) 0))
def QgC:=Qa (@Qcn R)
theorem Qfy : @QgC R = @Qcn R:=Q2 _
def Qkn (v0 v1 v2 v3 : Int) (v4 : List Int) (v5 : Int) (v6 v7 v8 : List Int) (v9 : Int) (K0 : Bool → Int → Option R) : Option R :=
 Q3q v0 v1 v2 v3 v4 v5 v6 v7 v8
 (fun va => sel (!va)
 (K0 false 2)
 (sel (decide (v9 < 0))
 (K0 false 3)
 (sel (decide (v0 ≤ v9))
 (K0 false 3)
 (QgC v9 v0 v1 v2 v3 v4 v5 v6 v7 v8
 (fun vb vc => K0 vb vc)))))
def Qko:=Qa (@Qkn R)
theorem Qng : @Qko R = @Qkn R:=Q2 _
def Qla (rec : Int → Int → Int → Int → List Int → Int → Int → Int → Int → Int → Int → Int → List Int → Int → List Int → Option R) (v0 v1 v2 v3 : Int) (v4 : List Int) (v5 v6 v7 v8 v9 va vb : Int) (vc : List Int) (vd : Int) (ve : List Int) (K0 : Int → Int → Int → Int → Int → Int → Int → Int → List Int → Int → List Int → Option R) : Option R :=
 sel (decide (v6 < v5))
 (sel (decide (0 ≤ v6))
 (sel (decide (v6 < (↑(List.length v4) : Int)))
 (Q37 (List.getD v4 (Int.toNat v6) 0)
 (fun vf => sel (decide (vf ≤ v2))
 (rec v0 v1 (QB .i64 v2 vf) (Qe .i64 v3 64) v4 v5 (Qe .i64 v6 1) v7 v8 v9 va vb vc vd ve)
 (Q25 (List.getD v4 (Int.toNat v6) 0) v2
 (fun vg => K0 v0 v1 (Qe .i64 v3 vg) v7 v8 v9 va vb vc vd ve))))
 (none))
 (none))
 (K0 v0 v1 v3 v7 v8 v9 va vb vc vd ve)
def Q0l (K0 : Int → Int → Int → Int → Int → Int → Int → Int → List Int → Int → List Int → Option R) : Nat → Int → Int → Int → Int → List Int → Int → Int → Int → Int → Int → Int → Int → List Int → Int → List Int → Option R
 | 0, _, _, _, _, _, _, _, _, _, _, _, _, _, _, _ => none
 | N + 1, v0, v1, v2, v3, v4, v5, v6, v7, v8, v9, va, vb, vc, vd, ve => Qla (Q0l K0 N) v0 v1 v2 v3 v4 v5 v6 v7 v8 v9 va vb vc vd ve K0
def Q7J (v0 v1 v2 v3 : Int) (v4 : List Int) (v5 v6 v7 v8 v9 va vb : Int) (vc : List Int) (vd : Int) (ve : List Int) (K0 : Int → Int → Int → Int → Int → Int → Int → Int → List Int → Int → List Int → Option R) : Option R :=
 Q0l K0 NR v0 v1 v2 v3 v4 v5 v6 v7 v8 v9 va vb vc vd ve
def QgD:=Qa (@Q7J R)
theorem Qfz : @QgD R = @Q7J R:=Q2 _
def Qkp (v0 v1 v2 v3 v4 : Int) (v5 : List Int) (v6 : Int) (v7 : List Int) (v8 : Int) (K0 : Int → Option R) : Option R :=
 QaR v0 v1
 (fun v9 => QgD v8 v9 v8 0 v7 ((↑(List.length v7) : Int)) 0 v0 v1 v2 v3 v4 v5 v6 v7
 (fun va vb vc _ _ vf vg vh vi _ _ => sel (decide (0 ≤ vb))
 (sel (decide (0 < vb))
 (Qnd vf vg vh vi va
 (fun vl _ => K0 (orW .i64 (Qap .i64 (QB .i64 vc va) vb) (QV .i64 vl))))
 (K0 (Qap .i64 (QB .i64 vc va) vb)))
 (none)))
def QeF:=Qa (@Qkp R)
theorem Qnh : @QeF R = @Qkp R:=Q2 _
def Qni (rec : Int → Int → Int → Int → Int → Int → Int → Int → List Int → Int → List Int → Option R) (v0 v1 v2 v3 v4 v5 v6 v7 : Int) (v8 : List Int) (v9 : Int) (va : List Int) (K0 : Int → Option R) : Option R :=
 sel (decide (v1 < v2))
 (QeF v3 v4 v5 v6 v7 v8 v9 va (Qu .i64 (Qe .i64 v1 v2) 2)
 (fun vb => sel (decide (vb < v0))
 (rec v0 (Qe .i64 (Qu .i64 (Qe .i64 v1 v2) 2) 1) v2 v3 v4 v5 v6 v7 v8 v9 va)
 (rec v0 v1 (Qu .i64 (Qe .i64 v1 v2) 2) v3 v4 v5 v6 v7 v8 v9 va)))
 (K0 v1)
def Q1x (K0 : Int → Option R) : Nat → Int → Int → Int → Int → Int → Int → Int → Int → List Int → Int → List Int → Option R
 | 0, _, _, _, _, _, _, _, _, _, _, _ => none
 | N + 1, v0, v1, v2, v3, v4, v5, v6, v7, v8, v9, va => Qni (Q1x K0 N) v0 v1 v2 v3 v4 v5 v6 v7 v8 v9 va K0
def Q9O (v0 v1 v2 v3 v4 v5 v6 v7 : Int) (v8 : List Int) (v9 : Int) (va : List Int) (K0 : Int → Option R) : Option R :=
 Q1x K0 NR v0 v1 v2 v3 v4 v5 v6 v7 v8 v9 va
def Qkq:=Qa (@Q9O R)
theorem QhM : @Qkq R = @Q9O R:=Q2 _
def Qnj (v0 v1 v2 v3 v4 : Int) (v5 : List Int) (v6 : Int) (v7 : List Int) (v8 : Int) (K0 : Int → Option R) : Option R :=
 Qkq v8 0 v1 v0 v1 v2 v3 v4 v5 v6 v7
 (fun v9 => K0 v9)
def Qb0:=Qa (@Qnj R)
theorem QoH : @Qb0 R = @Qnj R:=Q2 _
def Qb1 (v0 v1 v2 v3 v4 v5 : Int) (v6 : List Int) (v7 : Int) (v8 : List Int) (K0 : Bool → Int → Option R) : Option R :=
 Qb0 v1 v2 v3 v4 v5 v6 v7 v8 (Qe .i64 v0 1)
 (fun v9 => Qb0 v1 v2 v3 v4 v5 v6 v7 v8 v0
 (fun va => K0 (decide (va < v9)) 0))
def QeG:=Qa (@Qb1 R)
theorem QeH : @QeG R = @Qb1 R:=Q2 _
def QgE (v0 v1 v2 v3 v4 : Int) (v5 : List Int) (v6 : Int) (v7 : List Int) (v8 : Int) (K0 : Bool → Int → Option R) : Option R :=
 Q0Q v0 v1 v2 v3 v4 v5 v6 v7
 (fun v9 => sel (!v9)
 (K0 false 2)
 (sel (decide (v8 < 0))
 (K0 false 3)
 (sel (decide (v0 ≤ v8))
 (K0 false 3)
 (QeG v8 v0 v1 v2 v3 v4 v5 v6 v7
 (fun va vb => K0 va vb)))))
def QfA:=Qa (@QgE R)
theorem Qlb : @QfA R = @QgE R:=Q2 _
def Q7K (v0 v1 : Int) (v2 v3 v4 : List Int) (v5 v6 v7 v8 : Int) (v9 : List Int) (va : Int) (vb vc vd : List Int) (ve vf vg vh vi : Int) (vj : List Int) (vk : Int) (vl : List Int) (vm : Int) (K0 : Bool → Int → Option R) : Option R :=
 ZK v0 v1 v2 v3 v4 v5 v6 v7 v8 v9 va vb vc vd ve vf vg vh vi vj vk vl
 (fun vn => sel (!vn)
 (K0 false 2)
 (sel (decide (v0 = 1))
 (Qdc v1 v2 v3 v4 vm
 (fun vo vp => K0 vo vp))
 (sel (decide (v0 = 2))
 (Qko v5 v6 v7 v8 v9 va vb vc vd vm
 (fun vq vr => K0 vq vr))
 (QfA ve vf vg vh vi vj vk vl vm
 (fun vs vt => K0 vs vt)))))
def Q3s:=Qa (@Q7K R)
theorem Q9P : @Q3s R = @Q7K R:=Q2 _
def Qkr (v0 : Int) (v1 v2 v3 : List Int) (v4 : Int) (K0 : Int → Option R) : Option R :=
 sel (decide (Qu .i64 v4 64 = (↑(List.length v3) : Int)))
 (Qhz v0 v1 v4
 (fun v5 => K0 v5))
 (sel (decide (0 ≤ Qu .i64 (Qu .i64 v4 64) 8))
 (sel (decide (Qu .i64 (Qu .i64 v4 64) 8 < (↑(List.length v2) : Int)))
 (sel (decide (0 ≤ Qu .i64 v4 64))
 (sel (decide (Qu .i64 v4 64 < (↑(List.length v3) : Int)))
 (sel (decide (0 ≤ Qu .i64 v4 64))
 (sel (decide (Qu .i64 v4 64 < (↑(List.length v1) : Int)))
 (QaQ (List.getD v1 (Int.toNat (Qu .i64 v4 64)) 0) (YP v4 64)
 (fun v6 => K0 (Qe .i64 (Qe .i64 (List.getD v2 (Int.toNat (Qu .i64 (Qu .i64 v4 64) 8)) 0) (List.getD v3 (Int.toNat (Qu .i64 v4 64)) 0)) v6)))
 (none))
 (none))
 (none))
 (none))
 (none))
 (none))
def QeI:=Qa (@Qkr R)
theorem Qnk : @QeI R = @Qkr R:=Q2 _
def QgF (v0 : Int) (v1 v2 v3 : List Int) (v4 : Bool) (v5 : Int) (K0 : Int → Option R) : Option R :=
 sel v4
 (QeI v0 v1 v2 v3 v5
 (fun v6 => K0 v6))
 (QeI v0 v1 v2 v3 v5
 (fun v7 => K0 (QB .i64 v5 v7)))
def Q5a:=Qa (@QgF R)
theorem Qlc : @Q5a R = @QgF R:=Q2 _
def Qco (v0 : Bool) (v1 v2 : Int) (v3 v4 v5 : List Int) (K0 : Int → Int → Option R) : Option R :=
 Q5a v2 v3 v4 v5 v0 v1
 (fun v6 => K0 v6 0)
def QgG:=Qa (@Qco R)
theorem QfB : @QgG R = @Qco R:=Q2 _
def Qks (v0 : Int) (v1 v2 v3 : List Int) (v4 : Bool) (v5 : Int) (K0 : Int → Int → Option R) : Option R :=
 Ju v0 v1 v2 v3
 (fun v6 => sel (!v6)
 (K0 0 2)
 (sel (decide (v5 < 0))
 (K0 0 3)
 (sel (decide (v0 < v5))
 (K0 0 3)
 (QgG v4 v5 v0 v1 v2 v3
 (fun v7 v8 => K0 v7 v8)))))
def Qkt:=Qa (@Qks R)
theorem Qnl : @Qkt R = @Qks R:=Q2 _
def Qnm (v0 v1 v2 v3 : Int) (v4 : List Int) (v5 : Int) (v6 v7 v8 : List Int) (v9 : Bool) (va : Int) (K0 : Int → Option R) : Option R :=
 sel v9
 (QeE v0 v1 v2 v3 v4 v5 v6 v7 v8 va
 (fun vb => K0 vb))
 (QeE v0 v1 v2 v3 v4 v5 v6 v7 v8 va
 (fun vc => K0 (QB .i64 va vc)))
def Qdp:=Qa (@Qnm R)
theorem QoI : @Qdp R = @Qnm R:=Q2 _
def QgH (v0 : Bool) (v1 v2 v3 v4 v5 : Int) (v6 : List Int) (v7 : Int) (v8 v9 va : List Int) (K0 : Int → Int → Option R) : Option R :=
 Qdp v2 v3 v4 v5 v6 v7 v8 v9 va v0 v1
 (fun vb => K0 vb 0)
def Qnn:=Qa (@QgH R)
theorem Qld : @Qnn R = @QgH R:=Q2 _
def Qpv (v0 v1 v2 v3 : Int) (v4 : List Int) (v5 : Int) (v6 v7 v8 : List Int) (v9 : Bool) (va : Int) (K0 : Int → Int → Option R) : Option R :=
 Q3q v0 v1 v2 v3 v4 v5 v6 v7 v8
 (fun vb => sel (!vb)
 (K0 0 2)
 (sel (decide (va < 0))
 (K0 0 3)
 (sel (decide (v0 < va))
 (K0 0 3)
 (Qnn v9 va v0 v1 v2 v3 v4 v5 v6 v7 v8
 (fun vc vd => K0 vc vd)))))
def Qqj:=Qa (@Qpv R)
theorem Qqk : @Qqj R = @Qpv R:=Q2 _
def QeJ (v0 : Bool) (v1 v2 v3 v4 v5 v6 : Int) (v7 : List Int) (v8 : Int) (v9 : List Int) (K0 : Int → Int → Option R) : Option R :=
 Qb0 v2 v3 v4 v5 v6 v7 v8 v9 v1
 (fun va => sel (!v0)
 (K0 (QB .i64 v1 va) 0)
 (K0 va 0))
def Qku:=Qa (@QeJ R)
theorem QhN : @Qku R = @QeJ R:=Q2 _
def Qno (v0 v1 v2 v3 v4 : Int) (v5 : List Int) (v6 : Int) (v7 : List Int) (v8 : Bool) (v9 : Int) (K0 : Int → Int → Option R) : Option R :=
 Q0Q v0 v1 v2 v3 v4 v5 v6 v7
 (fun va => sel (!va)
 (K0 0 2)
 (sel (decide (v9 < 0))
 (K0 0 3)
 (sel (decide (v0 < v9))
 (K0 0 3)
 (Qku v8 v9 v0 v1 v2 v3 v4 v5 v6 v7
 (fun vb vc => K0 vb vc)))))
def Qod:=Qa (@Qno R)
theorem QoJ : @Qod R = @Qno R:=Q2 _
def Qby (v0 v1 : Int) (v2 v3 v4 : List Int) (v5 v6 v7 v8 : Int) (v9 : List Int) (va : Int) (vb vc vd : List Int) (ve vf vg vh vi : Int) (vj : List Int) (vk : Int) (vl : List Int) (vm : Bool) (vn : Int) (K0 : Int → Int → Option R) : Option R :=
 ZK v0 v1 v2 v3 v4 v5 v6 v7 v8 v9 va vb vc vd ve vf vg vh vi vj vk vl
 (fun vo => sel (!vo)
 (K0 0 2)
 (sel (decide (v0 = 1))
 (Qkt v1 v2 v3 v4 vm vn
 (fun vp vq => K0 vp vq))
 (sel (decide (v0 = 2))
 (Qqj v5 v6 v7 v8 v9 va vb vc vd vm vn
 (fun vr vs => K0 vr vs))
 (Qod ve vf vg vh vi vj vk vl vm vn
 (fun vt vu => K0 vt vu)))))
def Q8h:=Qa (@Qby R)
theorem Qcp : @Q8h R = @Qby R:=Q2 _
def QfC (rec : Bool → Int → Int → Int → Int → List Int → List Int → List Int → Option R) (v0 : Bool) (v1 v2 v3 v4 : Int) (v5 v6 v7 : List Int) (K0 : Bool → Int → Int → Int → List Int → List Int → List Int → Option R) : Option R :=
 sel (decide (1 < QB .i64 v3 v2))
 (Q5a v4 v5 v6 v7 v0 (UC .i64 (Qu .i64 (Qe .i64 v2 v3) 2) 64)
 (fun v8 => sel (decide (v8 ≤ v1))
 (rec v0 v1 (Qu .i64 (Qe .i64 v2 v3) 2) v3 v4 v5 v6 v7)
 (rec v0 v1 v2 (Qu .i64 (Qe .i64 v2 v3) 2) v4 v5 v6 v7)))
 (K0 v0 v1 v2 v4 v5 v6 v7)
def UN (K0 : Bool → Int → Int → Int → List Int → List Int → List Int → Option R) : Nat → Bool → Int → Int → Int → Int → List Int → List Int → List Int → Option R
 | 0, _, _, _, _, _, _, _, _ => none
 | N + 1, v0, v1, v2, v3, v4, v5, v6, v7 => QfC (UN K0 N) v0 v1 v2 v3 v4 v5 v6 v7 K0
def Q4r (v0 : Bool) (v1 v2 v3 v4 : Int) (v5 v6 v7 : List Int) (K0 : Bool → Int → Int → Int → List Int → List Int → List Int → Option R) : Option R :=
 UN K0 NR v0 v1 v2 v3 v4 v5 v6 v7
def Qcq:=Qa (@Q4r R)
theorem QcR : @Qcq R = @Q4r R:=Q2 _
def Q80 (v0 : Bool) (v1 v2 v3 v4 : Int) (v5 v6 v7 : List Int) (K0 : Int → Int → Option R) : Option R :=
 Q5a v4 v5 v6 v7 v0 (UC .i64 v2 64)
 (fun v8 => Q25 v3 (QB .i64 v1 v8)
 (fun v9 => K0 (Qe .i64 (UC .i64 v2 64) v9) 0))
def Uc:=Qa (@Q80 R)
theorem Qc5 : @Uc R = @Q80 R:=Q2 _
def Q9Q (v0 : Bool) (v1 v2 : Int) (v3 v4 v5 : List Int) (K0 : Int → Int → Option R) : Option R :=
 Qcq v0 v1 0 ((↑(List.length v5) : Int)) v2 v3 v4 v5
 (fun v6 v7 v8 v9 va vb vc => sel (decide (0 ≤ v8))
 (sel (decide (v8 < (↑(List.length va) : Int)))
 (sel (!v6)
 (Uc v6 v7 v8 (QBY .u64 (List.getD va (Int.toNat v8) 0)) v9 va vb vc
 (fun vd ve => K0 vd ve))
 (Uc v6 v7 v8 (List.getD va (Int.toNat v8) 0) v9 va vb vc
 (fun vf vg => K0 vf vg)))
 (none))
 (none))
def Qcr:=Qa (@Q9Q R)
theorem QcS : @Qcr R = @Q9Q R:=Q2 _
def QeK (v0 : Int) (v1 v2 v3 : List Int) (v4 : Bool) (v5 : Int) (K0 : Int → Int → Option R) : Option R :=
 Ju v0 v1 v2 v3
 (fun v6 => sel (!v6)
 (K0 0 2)
 (sel (decide (v5 < 0))
 (K0 0 3)
 (Q5a v0 v1 v2 v3 v4 v0
 (fun v7 => sel (decide (v7 ≤ v5))
 (K0 0 3)
 (Qcr v4 v5 v0 v1 v2 v3
 (fun v8 v9 => K0 v8 v9))))))
def Qdd:=Qa (@QeK R)
theorem QhO : @Qdd R = @QeK R:=Q2 _
def Qle (rec : Int → Int → Int → Int → Int → List Int → Int → List Int → List Int → List Int → Bool → Int → Option R) (v0 v1 v2 v3 v4 : Int) (v5 : List Int) (v6 : Int) (v7 v8 v9 : List Int) (va : Bool) (vb : Int) (K0 : Int → Int → Int → Int → Int → List Int → Int → List Int → List Int → List Int → Bool → Int → Option R) : Option R :=
 sel (decide (Qe .i64 v0 1 < (↑(List.length v8) : Int)))
 (Qdp v1 v2 v3 v4 v5 v6 v7 v8 v9 va (UC .i64 (UC .i64 (Qe .i64 v0 1) 8) 15)
 (fun vc => sel (decide (vc ≤ vb))
 (rec (Qe .i64 v0 1) v1 v2 v3 v4 v5 v6 v7 v8 v9 va vb)
 (K0 v0 v1 v2 v3 v4 v5 v6 v7 v8 v9 va vb)))
 (K0 v0 v1 v2 v3 v4 v5 v6 v7 v8 v9 va vb)
def Q0m (K0 : Int → Int → Int → Int → Int → List Int → Int → List Int → List Int → List Int → Bool → Int → Option R) : Nat → Int → Int → Int → Int → Int → List Int → Int → List Int → List Int → List Int → Bool → Int → Option R
 | 0, _, _, _, _, _, _, _, _, _, _, _, _ => none
 | N + 1, v0, v1, v2, v3, v4, v5, v6, v7, v8, v9, va, vb => Qle (Q0m K0 N) v0 v1 v2 v3 v4 v5 v6 v7 v8 v9 va vb K0
def Q7L (v0 v1 v2 v3 v4 : Int) (v5 : List Int) (v6 : Int) (v7 v8 v9 : List Int) (va : Bool) (vb : Int) (K0 : Int → Int → Int → Int → Int → List Int → Int → List Int → List Int → List Int → Bool → Int → Option R) : Option R :=
 Q0m K0 NR v0 v1 v2 v3 v4 v5 v6 v7 v8 v9 va vb
def QgI:=Qa (@Q7L R)
theorem QfD : @QgI R = @Q7L R:=Q2 _
def Q9R (v0 v1 v2 : Int) (v3 : Bool) (v4 _v5 : Int) (K0 : Bool → Bool → Int → Int → Option R) : Option R :=
 Q25 v1 (QB .i64 v4 v2)
 (fun v6 => Q37 v1
 (fun v7 => K0 (decide (Qe .i64 v2 v7 ≤ v4)) v3 v4 (Qe .i64 (UC .i64 v0 15) v6)))
def Q3d:=Qa (@Q9R R)
theorem QcT : @Q3d R = @Q9R R:=Q2 _
def Qb2 (v0 v1 v2 : Int) (v3 : Bool) (v4 v5 : Int) (K0 : Bool → Bool → Int → Int → Option R) : Option R :=
 sel (!v3)
 (Q0h 15
 (fun v6 => Q3d v0 (J2 .u64 (QBY .u64 v1) v6) (QB .i64 (UC .i64 v0 15) v2) v3 v4 v5
 (fun v7 v8 v9 va => K0 v7 v8 v9 va)))
 (Q3d v0 v1 v2 v3 v4 v5
 (fun vb vc vd ve => K0 vb vc vd ve))
def Q9S:=Qa (@Qb2 R)
theorem QeL : @Q9S R = @Qb2 R:=Q2 _
def Qlf (rec : Int → Int → Int → Bool → Int → Int → Int → Int → Int → Int → List Int → Int → List Int → List Int → List Int → Option R) (v0 v1 v2 : Int) (v3 : Bool) (v4 v5 v6 v7 v8 v9 : Int) (va : List Int) (vb : Int) (vc vd ve : List Int) (K0 : Bool → Int → Int → Option R) (K1 : Bool → Int → Int → Option R) : Option R :=
 sel (decide (v2 < v7))
 (Qqh v6 v7 v8 v9 va vb vc vd ve v2 v1
 (fun vf vg => Q9S v2 vf v0 v3 v4 v5
 (fun vh vi vj vk => sel (!vh)
 (K0 vi vj vk)
 (Q37 vf
 (fun vl => rec (Qe .i64 v0 vl) (Qe .i64 v1 vg) (Qe .i64 v2 1) vi vj vk v6 v7 v8 v9 va vb vc vd ve)))))
 (K1 v3 v4 v5)
def Q0n (K0 : Bool → Int → Int → Option R) (K1 : Bool → Int → Int → Option R) : Nat → Int → Int → Int → Bool → Int → Int → Int → Int → Int → Int → List Int → Int → List Int → List Int → List Int → Option R
 | 0, _, _, _, _, _, _, _, _, _, _, _, _, _, _, _ => none
 | N + 1, v0, v1, v2, v3, v4, v5, v6, v7, v8, v9, va, vb, vc, vd, ve => Qlf (Q0n K0 K1 N) v0 v1 v2 v3 v4 v5 v6 v7 v8 v9 va vb vc vd ve K0 K1
def Q7M (v0 v1 v2 : Int) (v3 : Bool) (v4 v5 v6 v7 v8 v9 : Int) (va : List Int) (vb : Int) (vc vd ve : List Int) (K0 : Bool → Int → Int → Option R) (K1 : Bool → Int → Int → Option R) : Option R :=
 Q0n K0 K1 NR v0 v1 v2 v3 v4 v5 v6 v7 v8 v9 va vb vc vd ve
def QgJ:=Qa (@Q7M R)
theorem QfE : @QgJ R = @Q7M R:=Q2 _
def QeM (v0 v1 v2 v3 : Int) (v4 : List Int) (v5 : Int) (v6 v7 v8 : List Int) (v9 : Int) (va : Bool) (vb vc : Int) (K0 : Bool → Int → Int → Option R) : Option R :=
 sel (decide (0 ≤ Qu .i64 v9 8))
 (sel (decide (Qu .i64 v9 8 < (↑(List.length v7) : Int)))
 (sel (decide (0 ≤ Qu .i64 v9 8))
 (sel (decide (Qu .i64 v9 8 < (↑(List.length v8) : Int)))
 (QgJ (List.getD v7 (Int.toNat (Qu .i64 v9 8)) 0) (List.getD v8 (Int.toNat (Qu .i64 v9 8)) 0) (UC .i64 (Qu .i64 v9 8) 8) va vb vc v0 v1 v2 v3 v4 v5 v6 v7 v8
 (fun vd ve vf => K0 vd ve vf)
 (fun vg vh vi => K0 vg vh vi))
 (none))
 (none))
 (none))
 (none)
def Qde:=Qa (@QeM R)
theorem QhP : @Qde R = @QeM R:=Q2 _
def Qcs (v0 v1 v2 v3 : Int) (v4 : List Int) (v5 : Int) (v6 v7 v8 : List Int) (v9 : Bool) (va : Int) (K0 : Int → Int → Option R) : Option R :=
 QgI 0 v0 v1 v2 v3 v4 v5 v6 v7 v8 v9 va
 (fun vb vc vd ve vf vg vh vi vj vk vl vm => Qde vc vd ve vf vg vh vi vj vk (UC .i64 vb 8) vl vm 0
 (fun _ _ vp => K0 vp 0))
def Qbz:=Qa (@Qcs R)
theorem QfF : @Qbz R = @Qcs R:=Q2 _
def Qkv (v0 v1 v2 v3 : Int) (v4 : List Int) (v5 : Int) (v6 v7 v8 : List Int) (v9 : Bool) (va : Int) (K0 : Int → Int → Option R) : Option R :=
 Q3q v0 v1 v2 v3 v4 v5 v6 v7 v8
 (fun vb => sel (!vb)
 (K0 0 2)
 (sel (decide (va < 0))
 (K0 0 3)
 (Qdp v0 v1 v2 v3 v4 v5 v6 v7 v8 v9 v0
 (fun vc => sel (decide (vc ≤ va))
 (K0 0 3)
 (Qbz v0 v1 v2 v3 v4 v5 v6 v7 v8 v9 va
 (fun vd ve => K0 vd ve))))))
def Qkw:=Qa (@Qkv R)
theorem Qnp : @Qkw R = @Qkv R:=Q2 _
def Q5V (v0 : Bool) (v1 : Int) (v2 : Bool) (v3 v4 v5 v6 v7 : Int) (v8 : List Int) (v9 : Int) (va : List Int) (K0 : Int → Int → Option R) (K1 : Int → Int → Int → Int → Int → Int → List Int → Int → List Int → Option R) : Option R :=
 sel v2
 (K0 0 3)
 (sel v0
 (QeF v3 v4 v5 v6 v7 v8 v9 va v1
 (fun vb => K0 vb 0))
 (K1 v1 v3 v4 v5 v6 v7 v8 v9 va))
def Q9T:=Qa (@Q5V R)
theorem Q81 : @Q9T R = @Q5V R:=Q2 _
def QfG (rec : Int → Int → Int → Int → Int → Int → Int → Int → List Int → Int → List Int → Option R) (v0 v1 v2 v3 v4 v5 v6 v7 : Int) (v8 : List Int) (v9 : Int) (va : List Int) (K0 : Int → Option R) : Option R :=
 sel (decide (v1 < v2))
 (Qb0 v3 v4 v5 v6 v7 v8 v9 va (Qe .i64 (Qu .i64 (Qe .i64 v1 v2) 2) 1)
 (fun vb => sel (decide (QB .i64 (Qe .i64 (Qu .i64 (Qe .i64 v1 v2) 2) 1) vb ≤ v0))
 (rec v0 (Qe .i64 (Qu .i64 (Qe .i64 v1 v2) 2) 1) v2 v3 v4 v5 v6 v7 v8 v9 va)
 (rec v0 v1 (Qu .i64 (Qe .i64 v1 v2) 2) v3 v4 v5 v6 v7 v8 v9 va)))
 (K0 v1)
def UO (K0 : Int → Option R) : Nat → Int → Int → Int → Int → Int → Int → Int → Int → List Int → Int → List Int → Option R
 | 0, _, _, _, _, _, _, _, _, _, _, _ => none
 | N + 1, v0, v1, v2, v3, v4, v5, v6, v7, v8, v9, va => QfG (UO K0 N) v0 v1 v2 v3 v4 v5 v6 v7 v8 v9 va K0
def Q4s (v0 v1 v2 v3 v4 v5 v6 v7 : Int) (v8 : List Int) (v9 : Int) (va : List Int) (K0 : Int → Option R) : Option R :=
 UO K0 NR v0 v1 v2 v3 v4 v5 v6 v7 v8 v9 va
def Qct:=Qa (@Q4s R)
theorem QcU : @Qct R = @Q4s R:=Q2 _
def Q9U (v0 v1 v2 v3 v4 v5 : Int) (v6 : List Int) (v7 : Int) (v8 : List Int) (K0 : Int → Int → Option R) : Option R :=
 Qct v0 0 (QB .i64 v1 1) v1 v2 v3 v4 v5 v6 v7 v8
 (fun v9 => K0 v9 0)
def Q7N:=Qa (@Q9U R)
theorem QcV : @Q7N R = @Q9U R:=Q2 _
def Qb3 (v0 : Bool) (v1 v2 v3 v4 v5 v6 v7 : Int) (v8 : List Int) (v9 : Int) (va : List Int) (K0 : Int → Int → Option R) : Option R :=
 Q0Q v3 v4 v5 v6 v7 v8 v9 va
 (fun vb => sel (!vb)
 (K0 0 2)
 (sel (decide (v1 < 0))
 (Q9T v0 v1 true v3 v4 v5 v6 v7 v8 v9 va
 (fun vc vd => K0 vc vd)
 (fun ve vf vg vh vi vj vk vl vm => Q7N ve vf vg vh vi vj vk vl vm
 (fun vn vo => K0 vn vo)))
 (Q9T v0 v1 (decide (v2 ≤ v1)) v3 v4 v5 v6 v7 v8 v9 va
 (fun vp vq => K0 vp vq)
 (fun vr vs vt vu vv vw vx vy vz => Q7N vr vs vt vu vv vw vx vy vz
 (fun v10 v11 => K0 v10 v11)))))
def Q5b:=Qa (@Qb3 R)
theorem QeN : @Q5b R = @Qb3 R:=Q2 _
def QgK (v0 v1 v2 v3 v4 : Int) (v5 : List Int) (v6 : Int) (v7 : List Int) (v8 : Bool) (v9 : Int) (K0 : Int → Int → Option R) : Option R :=
 sel (!v8)
 (Q5b v8 v9 (QB .i64 v0 v1) v0 v1 v2 v3 v4 v5 v6 v7
 (fun va vb => K0 va vb))
 (Q5b v8 v9 v1 v0 v1 v2 v3 v4 v5 v6 v7
 (fun vc vd => K0 vc vd))
def QfH:=Qa (@QgK R)
theorem Qlg : @QfH R = @QgK R:=Q2 _
def Q7O (v0 v1 : Int) (v2 v3 v4 : List Int) (v5 v6 v7 v8 : Int) (v9 : List Int) (va : Int) (vb vc vd : List Int) (ve vf vg vh vi : Int) (vj : List Int) (vk : Int) (vl : List Int) (vm : Bool) (vn : Int) (K0 : Int → Int → Option R) : Option R :=
 ZK v0 v1 v2 v3 v4 v5 v6 v7 v8 v9 va vb vc vd ve vf vg vh vi vj vk vl
 (fun vo => sel (!vo)
 (K0 0 2)
 (sel (decide (v0 = 1))
 (Qdd v1 v2 v3 v4 vm vn
 (fun vp vq => K0 vp vq))
 (sel (decide (v0 = 2))
 (Qkw v5 v6 v7 v8 v9 va vb vc vd vm vn
 (fun vr vs => K0 vr vs))
 (QfH ve vf vg vh vi vj vk vl vm vn
 (fun vt vu => K0 vt vu)))))
def Jv:=Qa (@Q7O R)
theorem Q9V : @Jv R = @Q7O R:=Q2 _
def Qkx (v0 : Int) (v1 v2 v3 : List Int) (K0 : Int → Option R) : Option R :=
 Ju v0 v1 v2 v3
 (fun v4 => sel (!v4)
 (K0 0)
 (K0 (Qe .i64 (Qe .i64 v0 (UC .i64 32 (↑(List.length v2) : Int))) (UC .i64 16 (↑(List.length v3) : Int)))))
def Qky:=Qa (@Qkx R)
theorem Qnq : @Qky R = @Qkx R:=Q2 _
def Qpw (v0 v1 v2 v3 : Int) (v4 : List Int) (v5 : Int) (v6 v7 v8 : List Int) (K0 : Int → Option R) : Option R :=
 Q3q v0 v1 v2 v3 v4 v5 v6 v7 v8
 (fun v9 => sel (!v9)
 (K0 0)
 (K0 (Qe .i64 (Qe .i64 v3 v5) (UC .i64 64 (↑(List.length v7) : Int)))))
def Qql:=Qa (@Qpw R)
theorem Qqm : @Qql R = @Qpw R:=Q2 _
def Qnr (v0 v1 v2 v3 v4 : Int) (v5 : List Int) (v6 : Int) (v7 : List Int) (K0 : Int → Option R) : Option R :=
 Q0Q v0 v1 v2 v3 v4 v5 v6 v7
 (fun v8 => sel (!v8)
 (K0 0)
 (K0 (Qe .i64 (Qe .i64 v4 v6) 64)))
def Qoe:=Qa (@Qnr R)
theorem QoK : @Qoe R = @Qnr R:=Q2 _
def Jw (v0 v1 : Int) (v2 v3 v4 : List Int) (v5 v6 v7 v8 : Int) (v9 : List Int) (va : Int) (vb vc vd : List Int) (ve vf vg vh vi : Int) (vj : List Int) (vk : Int) (vl : List Int) (K0 : Int → Option R) : Option R :=
 ZK v0 v1 v2 v3 v4 v5 v6 v7 v8 v9 va vb vc vd ve vf vg vh vi vj vk vl
 (fun vm => sel (!vm)
 (K0 0)
 (sel (decide (v0 = 1))
 (Qky v1 v2 v3 v4
 (fun vn => K0 vn))
 (sel (decide (v0 = 2))
 (Qql v5 v6 v7 v8 v9 va vb vc vd
 (fun vo => K0 vo))
 (Qoe ve vf vg vh vi vj vk vl
 (fun vp => K0 vp)))))
def Q0w:=Qa (@Jw R)
theorem J6 : @Q0w R = @Jw R:=Q2 _
def Qkz (v0 : Int) (v1 v2 v3 : List Int) (K0 : Int → List Int → Option R) : Option R :=
 Ju v0 v1 v2 v3
 (fun v4 => sel (!v4)
 (K0 0 [])
 (K0 v0 v1))
def QkA:=Qa (@Qkz R)
theorem Qns : @QkA R = @Qkz R:=Q2 _
def Qpx (v0 v1 v2 v3 : Int) (v4 : List Int) (v5 : Int) (v6 v7 v8 : List Int) (K0 : Int → List Int → Option R) : Option R :=
 QaX v0 v1 v2 v3 v4 v5 v6 v7 v8
 (fun v9 va _ => K0 v9 va)
def Qqn:=Qa (@Qpx R)
theorem Qqo : @Qqn R = @Qpx R:=Q2 _
def Qnt (v0 v1 v2 v3 v4 : Int) (v5 : List Int) (v6 : Int) (v7 : List Int) (K0 : Int → List Int → Option R) : Option R :=
 QhJ v0 v1 v2 v3 v4 v5 v6 v7
 (fun v8 v9 _ => K0 v8 v9)
def Qof:=Qa (@Qnt R)
theorem QoL : @Qof R = @Qnt R:=Q2 _
def QbA (v0 v1 : Int) (v2 v3 v4 : List Int) (v5 v6 v7 v8 : Int) (v9 : List Int) (va : Int) (vb vc vd : List Int) (ve vf vg vh vi : Int) (vj : List Int) (vk : Int) (vl : List Int) (K0 : Int → List Int → Option R) : Option R :=
 ZK v0 v1 v2 v3 v4 v5 v6 v7 v8 v9 va vb vc vd ve vf vg vh vi vj vk vl
 (fun vm => sel (!vm)
 (K0 0 [])
 (sel (decide (v0 = 1))
 (QkA v1 v2 v3 v4
 (fun vn vo => K0 vn vo))
 (sel (decide (v0 = 2))
 (Qqn v5 v6 v7 v8 v9 va vb vc vd
 (fun vp vq => K0 vp vq))
 (Qof ve vf vg vh vi vj vk vl
 (fun vr vs => K0 vr vs)))))
def Q5c:=Qa (@QbA R)
theorem Qcu : @Q5c R = @QbA R:=Q2 _
def Q8i (rec : Int → Int → List Int → Int → List Int → Option R) (v0 v1 : Int) (v2 : List Int) (v3 : Int) (v4 : List Int) (K0 : Bool → Option R) (K1 : Unit → Option R) : Option R :=
 sel (decide (v0 < (↑(List.length v2) : Int)))
 (sel (decide (0 ≤ v0))
 (sel (decide (v0 < (↑(List.length v2) : Int)))
 (sel (decide (0 ≤ v0))
 (sel (decide (v0 < (↑(List.length v4) : Int)))
 (sel (!decide (List.getD v2 (Int.toNat v0) 0 = List.getD v4 (Int.toNat v0) 0))
 (K0 false)
 (rec (Qe .i64 v0 1) v1 v2 v3 v4))
 (none))
 (none))
 (none))
 (none))
 (K1 ())
def ZN (K0 : Bool → Option R) (K1 : Unit → Option R) : Nat → Int → Int → List Int → Int → List Int → Option R
 | 0, _, _, _, _, _ => none
 | N + 1, v0, v1, v2, v3, v4 => Q8i (ZN K0 K1 N) v0 v1 v2 v3 v4 K0 K1
def UP (v0 v1 : Int) (v2 : List Int) (v3 : Int) (v4 : List Int) (K0 : Bool → Option R) (K1 : Unit → Option R) : Option R :=
 ZN K0 K1 NR v0 v1 v2 v3 v4
def Q3F:=Qa (@UP R)
theorem Q69 : @Q3F R = @UP R:=Q2 _
def Q1y (v0 : Int) (v1 : List Int) (v2 : Int) (v3 : List Int) (K0 : Bool → Option R) : Option R :=
 Q3F 0 v0 v1 v2 v3
 (fun v4 => K0 v4)
 (fun _ => K0 true)
def Q3G:=Qa (@Q1y R)
theorem Q6a : @Q3G R = @Q1y R:=Q2 _
def Q5d (v0 : Int) (v1 : List Int) (v2 : Int) (v3 : List Int) (K0 : Bool → Option R) : Option R :=
 sel (!decide (v0 = v2))
 (K0 false)
 (sel (!decide ((↑(List.length v1) : Int) = (↑(List.length v3) : Int)))
 (K0 false)
 (Q3G v0 v1 v2 v3
 (fun v4 => K0 v4)))
def QX:=Qa (@Q5d R)
theorem Q9W : @QX R = @Q5d R:=Q2 _
def Ui (v0 : Int) (v1 : Bool) (v2 v3 v4 : Int) (v5 v6 v7 : List Int) (v8 v9 va vb : Int) (vc : List Int) (vd : Int) (ve vf vg : List Int) (vh vi vj vk vl : Int) (vm : List Int) (vn : Int) (vo : List Int) (K0 : Bool → Option R) : Option R :=
 Q8h v3 v4 v5 v6 v7 v8 v9 va vb vc vd ve vf vg vh vi vj vk vl vm vn vo true 4
 (fun vp vq => Jv v3 v4 v5 v6 v7 v8 v9 va vb vc vd ve vf vg vh vi vj vk vl vm vn vo true 2
 (fun vr vs => Jv v3 v4 v5 v6 v7 v8 v9 va vb vc vd ve vf vg vh vi vj vk vl vm vn vo false 1
 (fun vt vu => Jv v3 v4 v5 v6 v7 v8 v9 va vb vc vd ve vf vg vh vi vj vk vl vm vn vo true 3
 (fun _ vw => Q0s 2 1 []
 (fun _ _ _ _ _ _ _ _ _ _ _ _ _ _ _ _ _ _ _ _ _ _ v1j => sel (decide (v0 = 0))
 (sel v1
 (sel (decide (v2 = 0))
 (sel (decide (vp = 2))
 (sel (decide (vq = 0))
 (sel (decide (vr = 4))
 (sel (decide (vs = 0))
 (sel (decide (vt = 3))
 (sel (decide (vu = 0))
 (sel (decide (vw = 3))
 (sel (decide (v1j = 2))
 (ZK v3 v4 v5 v6 v7 v8 v9 va vb vc vd ve vf vg vh vi vj vk vl vm vn vo
 (fun v1k => sel v1k
 (Q0w v3 v4 v5 v6 v7 v8 v9 va vb vc vd ve vf vg vh vi vj vk vl vm vn vo
 (fun v1l => sel (decide (0 < v1l))
 (Q5c v3 v4 v5 v6 v7 v8 v9 va vb vc vd ve vf vg vh vi vj vk vl vm vn vo
 (fun v1m v1n => QX v1m v1n 5 ([22])
 (fun v1o => K0 v1o)))
 (none)))
 (none)))
 (none))
 (none))
 (none))
 (none))
 (none))
 (none))
 (none))
 (none))
 (none))
 (none))
 (none))))))
def Q2s:=Qa (@Ui R)
theorem Q5e : @Q2s R = @Ui R:=Q2 _
def Q3H (K0 : Bool → Option R) : Option R :=
 Q0s 2 5 ([22])
 (fun v0 v1 v2 v3 v4 v5 v6 v7 v8 v9 va vb vc vd ve vf vg vh vi vj vk vl vm => Q3s v0 v1 v2 v3 v4 v5 v6 v7 v8 v9 va vb vc vd ve vf vg vh vi vj vk vl 4
 (fun vn vo => Q2s vm vn vo v0 v1 v2 v3 v4 v5 v6 v7 v8 v9 va vb vc vd ve vf vg vh vi vj vk vl
 (fun vp => K0 vp)))
def Zz:=Qa (@Q3H R)
theorem Q8j : @Zz R = @Q3H R:=Q2 _
def Q3I (v0 : Int) (K0 : Int → Option R) : Option R :=
 K0 (Qu .i64 (Qe .i64 v0 63) 64)
def J8:=Qa (@Q3I R)
theorem Q8k : @J8 R = @Q3I R:=Q2 _
def Q1z (v0 v1 v2 : Int) (K0 : Int → Int → Int → Option R) : Option R :=
 sel (decide (0 ≤ QV .u64 v2))
 (K0 v0 (orW .u64 v1 (Qap .u64 1 (QV .u64 v2))) (Qe .i64 v2 1))
 (none)
def Q3J:=Qa (@Q1z R)
theorem Q6b : @Q3J R = @Q1z R:=Q2 _
def Q8l (rec : Int → Int → Int → Option R) (v0 v1 v2 : Int) (K0 : Int → Option R) : Option R :=
 sel (decide (v2 < 64))
 (sel (decide (v2 < v0))
 (Q3J v0 v1 v2
 (fun v3 v4 v5 => rec v3 v4 v5))
 (K0 v1))
 (K0 v1)
def ZO (K0 : Int → Option R) : Nat → Int → Int → Int → Option R
 | 0, _, _, _ => none
 | N + 1, v0, v1, v2 => Q8l (ZO K0 N) v0 v1 v2 K0
def UQ (v0 v1 v2 : Int) (K0 : Int → Option R) : Option R :=
 ZO K0 NR v0 v1 v2
def Q3K:=Qa (@UQ R)
theorem Q6c : @Q3K R = @UQ R:=Q2 _
def Q5f (v0 : Int) (K0 : Int → Option R) : Option R :=
 Q3K v0 0 0
 (fun v1 => K0 v1)
def Q2t:=Qa (@Q5f R)
theorem Q9X : @Q2t R = @Q5f R:=Q2 _
def Q0R (v0 : Int) (v1 : List Int) (K0 : Bool → Option R) : Option R :=
 sel (decide (YP v0 64 = 0))
 (K0 true)
 (sel (decide (0 ≤ QB .i64 (↑(List.length v1) : Int) 1))
 (sel (decide (QB .i64 (↑(List.length v1) : Int) 1 < (↑(List.length v1) : Int)))
 (Q2t (YP v0 64)
 (fun v2 => Y3 (decide (Qj6 .u64 (List.getD v1 (Int.toNat (QB .i64 (↑(List.length v1) : Int) 1)) 0) v2 = 0)) (fun (v3 : Bool) =>
 K0 v3)))
 (none))
 (none))
def Jo:=Qa (@Q0R R)
theorem Q5g : @Jo R = @Q0R R:=Q2 _
def Q3L (v0 : Int) (v1 : List Int) (K0 : Bool → Option R) : Option R :=
 sel (decide (v0 < 0))
 (K0 false)
 (sel (decide (1048576 < v0))
 (K0 false)
 (J8 v0
 (fun v2 => sel (!decide ((↑(List.length v1) : Int) = v2))
 (K0 false)
 (Jo v0 v1
 (fun v3 => K0 v3)))))
def QD:=Qa (@Q3L R)
theorem Q8m : @QD R = @Q3L R:=Q2 _
def Q82 (_v0 : Int) (v1 : List Int) (v2 : Int) (K0 : Bool → Option R) : Option R :=
 sel (decide (0 ≤ Qu .i64 v2 64))
 (sel (decide (Qu .i64 v2 64 < (↑(List.length v1) : Int)))
 (sel (decide (0 ≤ QV .u64 (YP v2 64)))
 (Y3 (decide (YP (ZC .u64 (List.getD v1 (Int.toNat (Qu .i64 v2 64)) 0) (QV .u64 (YP v2 64))) 2 = 1)) (fun (v3 : Bool) =>
 K0 v3))
 (none))
 (none))
 (none)
def Y5:=Qa (@Q82 R)
theorem Qc6 : @Y5 R = @Q82 R:=Q2 _
def Q1A (v0 v1 v2 v3 : Int) (v4 : List Int) (K0 : Int → Int → Int → Int → List Int → Option R) : Option R :=
 Y5 v3 v4 v2
 (fun v5 => sel v5
 (K0 v0 (Qe .i64 v1 1) (Qe .i64 v2 1) v3 v4)
 (K0 v0 v1 (Qe .i64 v2 1) v3 v4))
def Q3M:=Qa (@Q1A R)
theorem Q6d : @Q3M R = @Q1A R:=Q2 _
def Q8n (rec : Int → Int → Int → Int → List Int → Option R) (v0 v1 v2 v3 : Int) (v4 : List Int) (K0 : Int → Option R) : Option R :=
 sel (decide (v2 < v0))
 (sel (decide (v2 < v3))
 (QD v3 v4
 (fun v5 => sel v5
 (Q3M v0 v1 v2 v3 v4
 (fun v6 v7 v8 v9 va => rec v6 v7 v8 v9 va))
 (K0 v1)))
 (K0 v1))
 (K0 v1)
def ZP (K0 : Int → Option R) : Nat → Int → Int → Int → Int → List Int → Option R
 | 0, _, _, _, _, _ => none
 | N + 1, v0, v1, v2, v3, v4 => Q8n (ZP K0 N) v0 v1 v2 v3 v4 K0
def UR (v0 v1 v2 v3 : Int) (v4 : List Int) (K0 : Int → Option R) : Option R :=
 ZP K0 NR v0 v1 v2 v3 v4
def Q3N:=Qa (@UR R)
theorem Q6e : @Q3N R = @UR R:=Q2 _
def Q5h (v0 : Int) (v1 : List Int) (v2 : Int) (K0 : Int → Option R) : Option R :=
 Q3N v2 0 0 v0 v1
 (fun v3 => K0 v3)
def Ud:=Qa (@Q5h R)
theorem Q9Y : @Ud R = @Q5h R:=Q2 _
def Q74 (rec : Int → Int → List Int → Int → Int → List Int → Nat → List Int → Option R) (v0 v1 : Int) (v2 : List Int) (v3 v4 : Int) (v5 : List Int) (v6 : Nat) (v7 : List Int) (K0 : Int → List Int → Int → Int → List Int → Nat → List Int → Option R) : Option R :=
 sel (decide (v0 ≤ Qu .i64 v1 512))
 (Ud v1 v2 (UC .i64 512 v0)
 (fun v8 => sel (decide (List.length v7 = v6))
 (sel (decide ((v6 + 1) * 8 ≤ 140737488355328))
 (Y3 (v7 ++ [v8]) (fun (v9 : List Int) =>
 rec (Qe .i64 v0 1) v1 v2 v3 v4 v5 (v6 + 1) v9))
 (none))
 (none)))
 (K0 v1 v2 v3 v4 v5 v6 v7)
def Zs (K0 : Int → List Int → Int → Int → List Int → Nat → List Int → Option R) : Nat → Int → Int → List Int → Int → Int → List Int → Nat → List Int → Option R
 | 0, _, _, _, _, _, _, _, _ => none
 | N + 1, v0, v1, v2, v3, v4, v5, v6, v7 => Q74 (Zs K0 N) v0 v1 v2 v3 v4 v5 v6 v7 K0
def Uj (v0 v1 : Int) (v2 : List Int) (v3 v4 : Int) (v5 : List Int) (v6 : Nat) (v7 : List Int) (K0 : Int → List Int → Int → Int → List Int → Nat → List Int → Option R) : Option R :=
 Zs K0 NR v0 v1 v2 v3 v4 v5 v6 v7
def Q2u:=Qa (@Uj R)
theorem Q5i : @Q2u R = @Uj R:=Q2 _
def Q6f (rec : Int → Int → List Int → Int → Int → List Int → Nat → Nat → List Int → List Int → Option R) (v0 v1 : Int) (v2 : List Int) (v3 v4 : Int) (v5 : List Int) (v6 v7 : Nat) (v8 v9 : List Int) (K0 : Int → Int → List Int → Nat → Nat → List Int → List Int → Option R) : Option R :=
 sel (decide (v0 < (↑(List.length v2) : Int)))
 (Ud v1 v2 (UC .i64 64 v0)
 (fun va => sel (decide (0 ≤ Qu .i64 v0 8))
 (sel (decide (Qu .i64 v0 8 < (↑v6 : Int)))
 (sel (decide (Int.toNat (Qu .i64 v0 8) < List.length v8))
 (sel (decide (List.length v9 = v7))
 (sel (decide ((v7 + 1) * 8 ≤ 140737488355328))
 (Y3 (v9 ++ [QB .i64 va (List.getD v8 (Int.toNat (Qu .i64 v0 8)) 0)]) (fun (vb : List Int) =>
 rec (Qe .i64 v0 1) v1 v2 v3 v4 v5 v6 (v7 + 1) v8 vb))
 (none))
 (none))
 (none))
 (none))
 (none)))
 (K0 v3 v4 v5 v6 v7 v8 v9)
def Zj (K0 : Int → Int → List Int → Nat → Nat → List Int → List Int → Option R) : Nat → Int → Int → List Int → Int → Int → List Int → Nat → Nat → List Int → List Int → Option R
 | 0, _, _, _, _, _, _, _, _, _, _ => none
 | N + 1, v0, v1, v2, v3, v4, v5, v6, v7, v8, v9 => Q6f (Zj K0 N) v0 v1 v2 v3 v4 v5 v6 v7 v8 v9 K0
def YW (v0 v1 : Int) (v2 : List Int) (v3 v4 : Int) (v5 : List Int) (v6 v7 : Nat) (v8 v9 : List Int) (K0 : Int → Int → List Int → Nat → Nat → List Int → List Int → Option R) : Option R :=
 Zj K0 NR v0 v1 v2 v3 v4 v5 v6 v7 v8 v9
def Q1B:=Qa (@YW R)
theorem Q4t : @Q1B R = @YW R:=Q2 _
def Q3O (v0 : Int) (v1 : List Int) (K0 : Int → List Int → List Int → List Int → Int → Option R) : Option R :=
 QD v0 v1
 (fun v2 => sel (!v2)
 (K0 0 [] [] [] 2)
 (Q2u 0 v0 v1 0 v0 v1 0 []
 (fun v3 v4 v5 v6 v7 v8 v9 => Q1B 0 v3 v4 v5 v6 v7 v8 0 v9 []
 (fun _ vb vc vd ve vf vg => sel (decide (vd = List.length vf))
 (sel (decide (ve = List.length vg))
 (K0 vb vc vf vg 0)
 (none))
 (none)))))
def J9:=Qa (@Q3O R)
theorem Q8o : @J9 R = @Q3O R:=Q2 _
def Q0S (v0 v1 v2 v3 : Int) (v4 : List Int) (K0 : Int → Int → Int → Int → List Int → Option R) : Option R :=
 Y5 v3 v4 (Qe .i64 v0 v2)
 (fun v5 => sel v5
 (sel (decide (0 ≤ QV .u64 v2))
 (K0 v0 (orW .u64 v1 (Qap .u64 1 (QV .u64 v2))) (Qe .i64 v2 1) v3 v4)
 (none))
 (K0 v0 v1 (Qe .i64 v2 1) v3 v4))
def Q2v:=Qa (@Q0S R)
theorem Q5j : @Q2v R = @Q0S R:=Q2 _
def Q75 (rec : Int → Int → Int → Int → List Int → Option R) (v0 v1 v2 v3 : Int) (v4 : List Int) (K0 : Int → Option R) : Option R :=
 sel (decide (v2 < 15))
 (sel (decide (Qe .i64 v0 v2 < v3))
 (Q2v v0 v1 v2 v3 v4
 (fun v5 v6 v7 v8 v9 => rec v5 v6 v7 v8 v9))
 (K0 v1))
 (K0 v1)
def Zt (K0 : Int → Option R) : Nat → Int → Int → Int → Int → List Int → Option R
 | 0, _, _, _, _, _ => none
 | N + 1, v0, v1, v2, v3, v4 => Q75 (Zt K0 N) v0 v1 v2 v3 v4 K0
def Uk (v0 v1 v2 v3 : Int) (v4 : List Int) (K0 : Int → Option R) : Option R :=
 Zt K0 NR v0 v1 v2 v3 v4
def Q2w:=Qa (@Uk R)
theorem Q5k : @Q2w R = @Uk R:=Q2 _
def Q3P (v0 : Int) (v1 : List Int) (v2 : Int) (K0 : Int → Option R) : Option R :=
 Q2w v2 0 0 v0 v1
 (fun v3 => K0 v3)
def Q1e:=Qa (@Q3P R)
theorem Q8p : @Q1e R = @Q3P R:=Q2 _
def Q1C (v0 v1 v2 v3 : Int) (K0 : Int → Int → Int → Int → Option R) : Option R :=
 sel (decide (0 ≤ QV .u64 v3))
 (sel (decide (YP (ZC .u64 v0 (QV .u64 v3)) 2 = 1))
 (K0 v0 v1 (Qe .i64 v2 1) (Qe .i64 v3 1))
 (K0 v0 v1 v2 (Qe .i64 v3 1)))
 (none)
def Q3Q:=Qa (@Q1C R)
theorem Q6g : @Q3Q R = @Q1C R:=Q2 _
def Q8q (rec : Int → Int → Int → Int → Option R) (v0 v1 v2 v3 : Int) (K0 : Int → Option R) : Option R :=
 sel (decide (v3 < 64))
 (sel (decide (v3 < v1))
 (Q3Q v0 v1 v2 v3
 (fun v4 v5 v6 v7 => rec v4 v5 v6 v7))
 (K0 v2))
 (K0 v2)
def ZQ (K0 : Int → Option R) : Nat → Int → Int → Int → Int → Option R
 | 0, _, _, _, _ => none
 | N + 1, v0, v1, v2, v3 => Q8q (ZQ K0 N) v0 v1 v2 v3 K0
def US (v0 v1 v2 v3 : Int) (K0 : Int → Option R) : Option R :=
 ZQ K0 NR v0 v1 v2 v3
def Q3R:=Qa (@US R)
theorem Q6h : @Q3R R = @US R:=Q2 _
def Q5l (v0 v1 : Int) (K0 : Int → Option R) : Option R :=
 Q3R v0 v1 0 0
 (fun v2 => K0 v2)
def Q2x:=Qa (@Q5l R)
theorem Q9Z : @Q2x R = @Q5l R:=Q2 _
def Q5m (rec : Int → Int → Nat → Int → Int → List Int → Option R) (v0 v1 : Int) (v2 : Nat) (v3 v4 : Int) (v5 : List Int) (K0 : Int → Int → Nat → Int → List Int → Option R) : Option R :=
 sel (decide (0 < v4))
 (sel (decide (0 ≤ v4))
 (sel (decide (v4 < (↑v2 : Int)))
 (sel (decide (Int.toNat v4 < List.length v5))
 (sel (decide (0 ≤ QB .i64 v4 1))
 (sel (decide (QB .i64 v4 1 < (↑v2 : Int)))
 (sel (decide (Int.toNat (QB .i64 v4 1) < List.length v5))
 (sel (decide (0 ≤ v4))
 (sel (decide (v4 < (↑v2 : Int)))
 (sel (decide (Int.toNat v4 < List.length v5))
 (Y3 (List.set v5 (Int.toNat v4) (Qe .u64 (List.getD v5 (Int.toNat v4) 0) (List.getD v5 (Int.toNat (QB .i64 v4 1)) 0))) (fun (v6 : List Int) =>
 rec v0 v1 v2 v3 (QB .i64 v4 1) v6))
 (none))
 (none))
 (none))
 (none))
 (none))
 (none))
 (none))
 (none))
 (none))
 (K0 v0 v1 v2 v3 v5)
def Z9 (K0 : Int → Int → Nat → Int → List Int → Option R) : Nat → Int → Int → Nat → Int → Int → List Int → Option R
 | 0, _, _, _, _, _, _ => none
 | N + 1, v0, v1, v2, v3, v4, v5 => Q5m (Z9 K0 N) v0 v1 v2 v3 v4 v5 K0
def YG (v0 v1 : Int) (v2 : Nat) (v3 v4 : Int) (v5 : List Int) (K0 : Int → Int → Nat → Int → List Int → Option R) : Option R :=
 Z9 K0 NR v0 v1 v2 v3 v4 v5
def Q0T:=Qa (@YG R)
theorem Q3e : @Q0T R = @YG R:=Q2 _
def Q6i (rec : Int → Int → Nat → Int → List Int → Option R) (v0 v1 : Int) (v2 : Nat) (v3 : Int) (v4 : List Int) (K0 : Int → Nat → List Int → Option R) : Option R :=
 sel (decide (v3 ≤ v0))
 (Q0T v0 v1 v2 v3 v3 v4
 (fun v5 v6 v7 v8 v9 => rec v5 v6 v7 (Qe .i64 v8 1) v9))
 (K0 v1 v2 v4)
def Zk (K0 : Int → Nat → List Int → Option R) : Nat → Int → Int → Nat → Int → List Int → Option R
 | 0, _, _, _, _, _ => none
 | N + 1, v0, v1, v2, v3, v4 => Q6i (Zk K0 N) v0 v1 v2 v3 v4 K0
def YX (v0 v1 : Int) (v2 : Nat) (v3 : Int) (v4 : List Int) (K0 : Int → Nat → List Int → Option R) : Option R :=
 Zk K0 NR v0 v1 v2 v3 v4
def Q1D:=Qa (@YX R)
theorem Q4u : @Q1D R = @YX R:=Q2 _
def Q0d (v0 v1 : Int) (K0 : Int → Option R) : Option R :=
 sel (decide (0 ≤ Qe .i64 v0 1))
 (sel (decide (Qe .i64 v0 1 ≤ Qe .i64 v0 1))
 (sel (decide (Qe .i64 v0 1 ≤ 281474976710656))
 (sel (decide ((↑8 : Int) * Qe .i64 v0 1 ≤ 281474976710656))
 (Y3 (List.replicate (Int.toNat (Qe .i64 v0 1)) 0) (fun (v2 : List Int) =>
 sel (decide (0 < (↑(Int.toNat (Qe .i64 v0 1)) : Int)))
 (sel (decide (0 < List.length v2))
 (Y3 (List.set v2 0 1) (fun (v3 : List Int) =>
 Q1D v0 v1 (Int.toNat (Qe .i64 v0 1)) 1 v3
 (fun v4 v5 v6 => sel (decide (0 ≤ v4))
 (sel (decide (v4 < (↑v5 : Int)))
 (sel (decide (Int.toNat v4 < List.length v6))
 (K0 (List.getD v6 (Int.toNat v4) 0))
 (none))
 (none))
 (none))))
 (none))
 (none)))
 (none))
 (none))
 (none))
 (none)
def Q1E:=Qa (@Q0d R)
theorem Q4v : @Q1E R = @Q0d R:=Q2 _
def Q2y (v0 v1 : Int) (K0 : Int → Option R) : Option R :=
 sel (decide (v0 < 0))
 (K0 0)
 (sel (decide (62 < v0))
 (K0 0)
 (sel (decide (v1 < 0))
 (K0 0)
 (sel (decide (v0 < v1))
 (K0 0)
 (Q1E v0 v1
 (fun v2 => K0 v2)))))
def Y1:=Qa (@Q2y R)
theorem Q76 : @Y1 R = @Q2y R:=Q2 _
def Q6j (rec : Int → Int → Int → Int → Int → Option R) (v0 v1 v2 v3 v4 : Int) (K0 : Int → Int → Option R) : Option R :=
 sel (decide (0 ≤ v4))
 (sel (decide (0 ≤ QV .u64 v4))
 (sel (decide (YP (ZC .u64 v0 (QV .u64 v4)) 2 = 1))
 (Y1 v4 v3
 (fun v5 => rec v0 v1 (Qe .u64 v2 v5) (QB .i64 v3 1) (QB .i64 v4 1)))
 (rec v0 v1 v2 v3 (QB .i64 v4 1)))
 (none))
 (K0 v1 v2)
def Zl (K0 : Int → Int → Option R) : Nat → Int → Int → Int → Int → Int → Option R
 | 0, _, _, _, _, _ => none
 | N + 1, v0, v1, v2, v3, v4 => Q6j (Zl K0 N) v0 v1 v2 v3 v4 K0
def YY (v0 v1 v2 v3 v4 : Int) (K0 : Int → Int → Option R) : Option R :=
 Zl K0 NR v0 v1 v2 v3 v4
def Q1F:=Qa (@YY R)
theorem Q4w : @Q1F R = @YY R:=Q2 _
def Q0e (v0 v1 : Int) (K0 : Int → Int → Option R) : Option R :=
 Q2x v0 v1
 (fun v2 => Q1F v0 v2 0 v2 (QB .i64 v1 1)
 (fun v3 v4 => K0 v3 v4))
def Q1G:=Qa (@Q0e R)
theorem Q4x : @Q1G R = @Q0e R:=Q2 _
def Q2z (v0 v1 : Int) (K0 : Int → Int → Option R) : Option R :=
 sel (decide (v1 < 0))
 (K0 0 0)
 (sel (decide (62 < v1))
 (K0 0 0)
 (Q1G v0 v1
 (fun v2 v3 => K0 v2 v3)))
def Q0x:=Qa (@Q2z R)
theorem Q77 : @Q0x R = @Q2z R:=Q2 _
def Qa0 (rec : Int → Int → Option R) (v0 v1 : Int) (K0 : Int → Option R) (K1 : Unit → Option R) : Option R :=
 sel (decide (0 < v1))
 (sel (decide (0 ≤ QV .u64 (QB .i64 v1 1)))
 (sel (decide (YP (ZC .u64 v0 (QV .u64 (QB .i64 v1 1))) 2 = 1))
 (K0 v1)
 (rec v0 (QB .i64 v1 1)))
 (none))
 (K1 ())
def Y6 (K0 : Int → Option R) (K1 : Unit → Option R) : Nat → Int → Int → Option R
 | 0, _, _ => none
 | N + 1, v0, v1 => Qa0 (Y6 K0 K1 N) v0 v1 K0 K1
def Jp (v0 v1 : Int) (K0 : Int → Option R) (K1 : Unit → Option R) : Option R :=
 Y6 K0 K1 NR v0 v1
def Q5n:=Qa (@Jp R)
theorem Q78 : @Q5n R = @Jp R:=Q2 _
def Q6H (v0 : Int) (K0 : Int → Option R) : Option R :=
 Q5n v0 64
 (fun v1 => K0 v1)
 (fun _ => K0 0)
def UT:=Qa (@Q6H R)
theorem Qay : @UT R = @Q6H R:=Q2 _
def Q3S (v0 v1 : Int) (K0 : Int → Option R) : Option R :=
 Y1 v0 v1
 (fun v2 => sel (decide (v2 = 0))
 (K0 0)
 (UT (QB .u64 v2 1)
 (fun v3 => K0 v3)))
def Ja:=Qa (@Q3S R)
theorem Q8r : @Ja R = @Q3S R:=Q2 _
def Qa1 (rec : Int → Int → Nat → Int → List Bool → Option R) (v0 v1 : Int) (v2 : Nat) (v3 : Int) (v4 : List Bool) (K0 : Nat → List Bool → Option R) : Option R :=
 sel (decide (v3 < v1))
 (sel (decide (0 ≤ QV .u64 v3))
 (sel (decide (List.length v4 = v2))
 (sel (decide ((v2 + 1) * 1 ≤ 140737488355328))
 (Y3 (v4 ++ [decide (YP (ZC .u64 v0 (QV .u64 v3)) 2 = 1)]) (fun (v5 : List Bool) =>
 rec v0 v1 (v2 + 1) (Qe .i64 v3 1) v5))
 (none))
 (none))
 (none))
 (K0 v2 v4)
def Y7 (K0 : Nat → List Bool → Option R) : Nat → Int → Int → Nat → Int → List Bool → Option R
 | 0, _, _, _, _, _ => none
 | N + 1, v0, v1, v2, v3, v4 => Qa1 (Y7 K0 N) v0 v1 v2 v3 v4 K0
def Jq (v0 v1 : Int) (v2 : Nat) (v3 : Int) (v4 : List Bool) (K0 : Nat → List Bool → Option R) : Option R :=
 Y7 K0 NR v0 v1 v2 v3 v4
def Q5o:=Qa (@Jq R)
theorem Q79 : @Q5o R = @Jq R:=Q2 _
def Q6I (v0 v1 : Int) (K0 : List Bool → Option R) : Option R :=
 Q5o v0 v1 0 0 []
 (fun v2 v3 => sel (decide (v2 = List.length v3))
 (K0 v3)
 (none))
def Q4y:=Qa (@Q6I R)
theorem Qaz : @Q4y R = @Q6I R:=Q2 _
def YZ (v0 v1 : Nat) (v2 v3 v4 : Int) (v5 : List Int) (v6 v7 v8 v9 va vb vc vd ve vf : Int) (vg vh : Nat) (vi vj vk : List Int) (vl : List Bool) (K0 : Nat → Nat → Int → Int → Int → List Int → Int → Int → Int → Int → Int → Int → Int → Int → Int → Int → Nat → Nat → List Int → List Int → List Int → List Bool → Option R) : Option R :=
 sel (decide (UC .i64 v3 15 < v4))
 (Q1e v4 v5 (UC .i64 v3 15)
 (fun vm => Q0x vm 15
 (fun vn vo => sel (decide (List.length vk = v0))
 (sel (decide ((v0 + 1) * 8 ≤ 140737488355328))
 (Y3 (vk ++ [QV .u64 vn]) (fun (vp : List Int) =>
 Ja 15 vn
 (fun vq => Q4y vo vq
 (fun vr => sel (decide (List.length vl = v1))
 (sel (decide ((v1 + List.length vr) * 1 ≤ 140737488355328))
 (Y3 (vl ++ vr) (fun (vs : List Bool) =>
 K0 (v0 + 1) (v1 + List.length vr) (Qe .i64 v2 vn) v3 v4 v5 v6 v7 v8 v9 va vb vc vd ve vf vg vh vi vj vp vs))
 (none))
 (none)))))
 (none))
 (none))))
 (K0 v0 v1 v2 v3 v4 v5 v6 v7 v8 v9 va vb vc vd ve vf vg vh vi vj vk vl)
def Yt:=Qa (@YZ R)
theorem Q4z : @Yt R = @YZ R:=Q2 _
def U0 (v0 v1 : Nat) (v2 v3 v4 : Int) (v5 : List Int) (v6 v7 v8 v9 va vb vc vd ve vf : Int) (vg vh : Nat) (vi vj vk : List Int) (vl : List Bool) (K0 : Nat → Nat → Int → Int → Int → List Int → Int → Int → Int → Int → Int → Int → Int → Int → Int → Int → Nat → Nat → List Int → List Int → List Int → List Bool → Option R) : Option R :=
 sel (decide (YP v3 8 = 0))
 (sel (decide (List.length vi = vg))
 (sel (decide ((vg + 1) * 8 ≤ 140737488355328))
 (Y3 (vi ++ [v2]) (fun (vm : List Int) =>
 sel (decide (List.length vj = vh))
 (sel (decide ((vh + 1) * 8 ≤ 140737488355328))
 (Y3 (vj ++ [(↑v1 : Int)]) (fun (vn : List Int) =>
 Yt v0 v1 v2 v3 v4 v5 v6 v7 v8 v9 va vb vc vd ve vf (vg + 1) (vh + 1) vm vn vk vl
 (fun vo vp vq vr vs vt vu vv vw vx vy vz v10 v11 v12 v13 v14 v15 v16 v17 v18 v19 => K0 vo vp vq (Qe .i64 vr 1) vs vt vu vv vw vx vy vz v10 v11 v12 v13 v14 v15 v16 v17 v18 v19)))
 (none))
 (none)))
 (none))
 (none))
 (Yt v0 v1 v2 v3 v4 v5 v6 v7 v8 v9 va vb vc vd ve vf vg vh vi vj vk vl
 (fun v1a v1b v1c v1d v1e v1f v1g v1h v1i v1j v1k v1l v1m v1n v1o v1p v1q v1r v1s v1t v1u v1v => K0 v1a v1b v1c (Qe .i64 v1d 1) v1e v1f v1g v1h v1i v1j v1k v1l v1m v1n v1o v1p v1q v1r v1s v1t v1u v1v))
def Yu:=Qa (@U0 R)
theorem Q4A : @Yu R = @U0 R:=Q2 _
def Q7a (rec : Nat → Nat → Int → Int → Int → List Int → Int → Int → Int → Int → Int → Int → Int → Int → Int → Int → Nat → Nat → List Int → List Int → List Int → List Bool → Option R) (v0 v1 : Nat) (v2 v3 v4 : Int) (v5 : List Int) (v6 v7 v8 v9 va vb vc vd ve vf : Int) (vg vh : Nat) (vi vj vk : List Int) (vl : List Bool) (K0 : Nat → Nat → Int → Int → Int → Int → Int → Int → Int → Int → Int → Int → Nat → Nat → List Int → List Int → List Int → List Bool → Option R) : Option R :=
 sel (decide (v3 = 0))
 (Yu v0 v1 v2 v3 v4 v5 v6 v7 v8 v9 va vb vc vd ve vf vg vh vi vj vk vl
 rec)
 (sel (decide (UC .i64 v3 15 < v4))
 (Yu v0 v1 v2 v3 v4 v5 v6 v7 v8 v9 va vb vc vd ve vf vg vh vi vj vk vl
 rec)
 (K0 v0 v1 v6 v7 v8 v9 va vb vc vd ve vf vg vh vi vj vk vl))
def QY (K0 : Nat → Nat → Int → Int → Int → Int → Int → Int → Int → Int → Int → Int → Nat → Nat → List Int → List Int → List Int → List Bool → Option R) : Nat → Nat → Nat → Int → Int → Int → List Int → Int → Int → Int → Int → Int → Int → Int → Int → Int → Int → Nat → Nat → List Int → List Int → List Int → List Bool → Option R
 | 0, _, _, _, _, _, _, _, _, _, _, _, _, _, _, _, _, _, _, _, _, _, _ => none
 | N + 1, v0, v1, v2, v3, v4, v5, v6, v7, v8, v9, va, vb, vc, vd, ve, vf, vg, vh, vi, vj, vk, vl => Q7a (QY K0 N) v0 v1 v2 v3 v4 v5 v6 v7 v8 v9 va vb vc vd ve vf vg vh vi vj vk vl K0
def Ul (v0 v1 : Nat) (v2 v3 v4 : Int) (v5 : List Int) (v6 v7 v8 v9 va vb vc vd ve vf : Int) (vg vh : Nat) (vi vj vk : List Int) (vl : List Bool) (K0 : Nat → Nat → Int → Int → Int → Int → Int → Int → Int → Int → Int → Int → Nat → Nat → List Int → List Int → List Int → List Bool → Option R) : Option R :=
 QY K0 NR v0 v1 v2 v3 v4 v5 v6 v7 v8 v9 va vb vc vd ve vf vg vh vi vj vk vl
def Q2A:=Qa (@Ul R)
theorem Q5p : @Q2A R = @Ul R:=Q2 _
def Q5q (v0 v1 : Int) (K0 : Bool → Option R) : Option R :=
 UT v0
 (fun v2 => K0 (decide (v2 ≤ v1)))
def Q2B:=Qa (@Q5q R)
theorem Qa2 : @Q2B R = @Q5q R:=Q2 _
def UU (v0 : Int) (v1 : List Int) (v2 : Bool) (v3 v4 v5 : Int) (K0 : Int → Int → Int → Int → Option R) (K1 : Int → List Int → Int → Int → Int → Option R) : Option R :=
 sel v2
 (K0 2 0 0 0)
 (K1 v0 v1 v3 v4 v5)
def ZE:=Qa (@UU R)
theorem Q0f : @ZE R = @UU R:=Q2 _
def Q7b (rec : Int → List Int → Nat → Int → Int → Int → Int → Int → List Bool → Option R) (v0 : Int) (v1 : List Int) (v2 : Nat) (v3 v4 v5 v6 v7 : Int) (v8 : List Bool) (K0 : Int → List Int → Nat → Int → Int → Int → Int → List Bool → Option R) : Option R :=
 sel (decide (v4 < v0))
 (sel (decide (0 ≤ v3))
 (sel (decide (v3 < (↑(List.length v1) : Int)))
 (sel (decide (0 ≤ QV .u64 v4))
 (Y3 (decide (YP (ZC .u64 (List.getD v1 (Int.toNat v3) 0) (QV .u64 v4)) 2 = 1)) (fun (v9 : Bool) =>
 sel (decide (List.length v8 = v2))
 (sel (decide ((v2 + 1) * 1 ≤ 140737488355328))
 (Y3 (v8 ++ [v9]) (fun (va : List Bool) =>
 rec v0 v1 (v2 + 1) v3 (Qe .i64 v4 1) v5 v6 v7 va))
 (none))
 (none)))
 (none))
 (none))
 (none))
 (K0 v0 v1 v2 v3 v5 v6 v7 v8)
def Zu (K0 : Int → List Int → Nat → Int → Int → Int → Int → List Bool → Option R) : Nat → Int → List Int → Nat → Int → Int → Int → Int → Int → List Bool → Option R
 | 0, _, _, _, _, _, _, _, _, _ => none
 | N + 1, v0, v1, v2, v3, v4, v5, v6, v7, v8 => Q7b (Zu K0 N) v0 v1 v2 v3 v4 v5 v6 v7 v8 K0
def Um (v0 : Int) (v1 : List Int) (v2 : Nat) (v3 v4 v5 v6 v7 : Int) (v8 : List Bool) (K0 : Int → List Int → Nat → Int → Int → Int → Int → List Bool → Option R) : Option R :=
 Zu K0 NR v0 v1 v2 v3 v4 v5 v6 v7 v8
def Q2C:=Qa (@Um R)
theorem Q5r : @Q2C R = @Um R:=Q2 _
def Q8s (rec : Int → List Int → Nat → Int → Int → Int → Int → List Bool → Option R) (v0 : Int) (v1 : List Int) (v2 : Nat) (v3 v4 v5 v6 : Int) (v7 : List Bool) (K0 : Int → Int → Int → Int → Option R) (K1 : Int → List Int → Nat → Int → Int → Int → List Bool → Option R) : Option R :=
 sel (decide (v3 < (↑(List.length v1) : Int)))
 (sel (decide (0 ≤ v3))
 (sel (decide (v3 < (↑(List.length v1) : Int)))
 (Q2B (List.getD v1 (Int.toNat v3) 0) v0
 (fun v8 => sel (!v8)
 (K0 2 0 0 0)
 (Q2C v0 v1 v2 v3 0 v4 v5 v6 v7
 (fun v9 va vb vc vd ve vf vg => rec v9 va vb (Qe .i64 vc 1) vd ve vf vg))))
 (none))
 (none))
 (K1 v0 v1 v2 v4 v5 v6 v7)
def Za (K0 : Int → Int → Int → Int → Option R) (K1 : Int → List Int → Nat → Int → Int → Int → List Bool → Option R) : Nat → Int → List Int → Nat → Int → Int → Int → Int → List Bool → Option R
 | 0, _, _, _, _, _, _, _, _ => none
 | N + 1, v0, v1, v2, v3, v4, v5, v6, v7 => Q8s (Za K0 K1 N) v0 v1 v2 v3 v4 v5 v6 v7 K0 K1
def UV (v0 : Int) (v1 : List Int) (v2 : Nat) (v3 v4 v5 v6 : Int) (v7 : List Bool) (K0 : Int → Int → Int → Int → Option R) (K1 : Int → List Int → Nat → Int → Int → Int → List Bool → Option R) : Option R :=
 Za K0 K1 NR v0 v1 v2 v3 v4 v5 v6 v7
def Q3T:=Qa (@UV R)
theorem Q6k : @Q3T R = @UV R:=Q2 _
def Q2D (v0 : Int) (v1 : Bool) (v2 : Int) (K0 : Int → Int → Option R) (K1 : Int → Int → Option R) : Option R :=
 sel v1
 (K0 2 0)
 (K1 v0 v2)
def Uy:=Qa (@Q2D R)
theorem Q7c : @Uy R = @Q2D R:=Q2 _
def Q2E (v0 _v1 : Int) (K0 : Int → Int → Nat → List Int → Option R) : Option R :=
 J8 v0
 (fun v2 => sel (decide (0 ≤ v2))
 (sel (decide (v2 ≤ v2))
 (sel (decide (v2 ≤ 281474976710656))
 (sel (decide ((↑8 : Int) * v2 ≤ 281474976710656))
 (Y3 (List.replicate (Int.toNat v2) 0) (fun (v3 : List Int) =>
 K0 0 v0 (Int.toNat v2) v3))
 (none))
 (none))
 (none))
 (none))
def Q0y:=Qa (@Q2E R)
theorem Q7d : @Q0y R = @Q2E R:=Q2 _
def Q3U (v0 : Int) (K0 : Int → Int → Option R) (K1 : Int → Nat → Int → List Int → Option R) : Option R :=
 sel (decide (v0 < 0))
 (Uy v0 true 0
 (fun v1 v2 => K0 v2 v1)
 (fun v3 v4 => Q0y v3 v4
 (fun v5 v6 v7 v8 => K1 v6 v7 v5 v8)))
 (Uy v0 (decide (1048576 < v0)) 0
 (fun v9 va => K0 va v9)
 (fun vb vc => Q0y vb vc
 (fun vd ve vf vg => K1 ve vf vd vg)))
def Q1f:=Qa (@Q3U R)
theorem Q8t : @Q1f R = @Q3U R:=Q2 _
def QcW (v0 : List Int) (v1 : Int) (_v2 : Bool) : Option R :=
 sel (decide (0 ≤ Qu .i64 v1 64))
 (sel (decide (Qu .i64 v1 64 < (↑(List.length v0) : Int)))
 (sel (decide (0 ≤ QV .u64 (YP v1 64)))
 (sel (decide (0 ≤ Qu .i64 v1 64))
 (sel (decide (Qu .i64 v1 64 < (↑(List.length v0) : Int)))
 (none)
 (none))
 (none))
 (none))
 (none))
 (none)
def Qa3:=Qa (@QcW R)
theorem Qly : @Qa3 R = @QcW R:=Q2 _
def QhQ (rec : List Bool → Int → Int → Int → Int → Option R) (v0 : List Bool) (v1 v2 v3 v4 : Int) (K0 : Int → Int → Int → Option R) : Option R :=
 sel (decide (v2 < v4))
 (sel (decide (0 ≤ v2))
 (sel (decide (v2 < (↑(List.length v0) : Int)))
 (Qa3 [] v2 (List.getD v0 (Int.toNat v2) false))
 (none))
 (none))
 (K0 v1 v3 v4)
def UW (K0 : Int → Int → Int → Option R) : Nat → List Bool → Int → Int → Int → Int → Option R
 | 0, _, _, _, _, _ => none
 | N + 1, v0, v1, v2, v3, v4 => QhQ (UW K0 N) v0 v1 v2 v3 v4 K0
def Q1H (v0 : List Bool) (v1 v2 v3 v4 : Int) (K0 : Int → Int → Int → Option R) : Option R :=
 UW K0 NR v0 v1 v2 v3 v4
def Q3V:=Qa (@Q1H R)
theorem Qf1 : @Q3V R = @Q1H R:=Q2 _
def Q03 (v0 : Nat) (v1 : Int) (v2 : Bool) (v3 : List Int) (K0 : List Int → Option R) : Option R :=
 sel (decide (0 ≤ Qu .i64 v1 64))
 (sel (decide (Qu .i64 v1 64 < (↑v0 : Int)))
 (sel (decide (Int.toNat (Qu .i64 v1 64) < List.length v3))
 (sel (decide (0 ≤ QV .u64 (YP v1 64)))
 (sel (decide (0 ≤ Qu .i64 v1 64))
 (sel (decide (Qu .i64 v1 64 < (↑v0 : Int)))
 (sel (decide (Int.toNat (Qu .i64 v1 64) < List.length v3))
 (Y3 (List.set v3 (Int.toNat (Qu .i64 v1 64)) (Qj6 .u64 (List.getD v3 (Int.toNat (Qu .i64 v1 64)) 0) (Qap .u64 1 (QV .u64 (YP v1 64))))) (fun (v4 : List Int) =>
 sel v2
 (sel (decide (0 ≤ Qu .i64 v1 64))
 (sel (decide (Qu .i64 v1 64 < (↑v0 : Int)))
 (sel (decide (Int.toNat (Qu .i64 v1 64) < List.length v4))
 (sel (decide (0 ≤ QV .u64 (YP v1 64)))
 (sel (decide (0 ≤ Qu .i64 v1 64))
 (sel (decide (Qu .i64 v1 64 < (↑v0 : Int)))
 (sel (decide (Int.toNat (Qu .i64 v1 64) < List.length v4))
 (Y3 (List.set v4 (Int.toNat (Qu .i64 v1 64)) (orW .u64 (List.getD v4 (Int.toNat (Qu .i64 v1 64)) 0) (Qap .u64 1 (QV .u64 (YP v1 64))))) (fun (v5 : List Int) =>
 K0 v5))
 (none))
 (none))
 (none))
 (none))
 (none))
 (none))
 (none))
 (K0 v4)))
 (none))
 (none))
 (none))
 (none))
 (none))
 (none))
 (none)
def Q1g:=Qa (@Q03 R)
theorem Q8u : @Q1g R = @Q03 R:=Q2 _
def Q6l (rec : List Bool → Int → Int → Int → Int → Nat → List Int → Option R) (v0 : List Bool) (v1 v2 v3 v4 : Int) (v5 : Nat) (v6 : List Int) (K0 : Int → Int → Int → Nat → List Int → Option R) : Option R :=
 sel (decide (v2 < v4))
 (sel (decide (0 ≤ v2))
 (sel (decide (v2 < (↑(List.length v0) : Int)))
 (Q1g v5 v2 (List.getD v0 (Int.toNat v2) false) v6
 (fun v7 => rec v0 v1 (Qe .i64 v2 1) v3 v4 v5 v7))
 (none))
 (none))
 (K0 v1 v3 v4 v5 v6)
def Zm (K0 : Int → Int → Int → Nat → List Int → Option R) : Nat → List Bool → Int → Int → Int → Int → Nat → List Int → Option R
 | 0, _, _, _, _, _, _, _ => none
 | N + 1, v0, v1, v2, v3, v4, v5, v6 => Q6l (Zm K0 N) v0 v1 v2 v3 v4 v5 v6 K0
def U1 (v0 : List Bool) (v1 v2 v3 v4 : Int) (v5 : Nat) (v6 : List Int) (K0 : Int → Int → Int → Nat → List Int → Option R) : Option R :=
 Zm K0 NR v0 v1 v2 v3 v4 v5 v6
def Q1I:=Qa (@U1 R)
theorem Q4B : @Q1I R = @U1 R:=Q2 _
def Q5s (v0 : List Bool) (K0 : Int → List Int → Int → Option R) : Option R :=
 Q1f ((↑(List.length v0) : Int))
 (fun v1 v2 => Q3V v0 v2 0 0 v1
 (fun v3 _ v5 => K0 v5 [] v3))
 (fun v6 v7 v8 v9 => Q1I v0 v8 0 0 v6 v7 v9
 (fun va _ vc vd ve => sel (decide (vd = List.length ve))
 (K0 vc ve va)
 (none)))
def Y2:=Qa (@Q5s R)
theorem Qa4 : @Y2 R = @Q5s R:=Q2 _
def Q1J (v0 : Int) (v1 : List Int) (v2 v3 v4 : Int) (K0 : Int → Int → Int → Int → Option R) (K1 : Int → Int → Int → Int → List Int → Option R) : Option R :=
 Q3T v0 v1 0 0 v2 v3 v4 []
 (fun v5 v6 v7 v8 => K0 v5 v6 v7 v8)
 (fun v9 va vb _ _ _ vf => sel (decide (vb = List.length vf))
 (sel (decide (vb = List.length vf))
 (Y2 vf
 (fun vg vh _ => K1 0 ((↑(List.length va) : Int)) v9 vg vh))
 (none))
 (none))
def ZF:=Qa (@Q1J R)
theorem Q6m : @ZF R = @Q1J R:=Q2 _
def Q0z (v0 : Int) (v1 : List Int) (K0 : Int → Int → Int → List Int → Int → Option R) : Option R :=
 sel (decide (v0 < 1))
 (ZE v0 v1 true 0 0 0
 (fun v2 v3 v4 v5 => K0 v3 v4 v5 [] v2)
 (fun v6 v7 v8 v9 va => ZF v6 v7 v8 v9 va
 (fun vb vc vd ve => K0 vc vd ve [] vb)
 (fun vf vg vh vi vj => K0 vg vh vi vj vf)))
 (sel (decide (64 < v0))
 (ZE v0 v1 true 0 0 0
 (fun vk vl vm vn => K0 vl vm vn [] vk)
 (fun vo vp vq vr vs => ZF vo vp vq vr vs
 (fun vt vu vv vw => K0 vu vv vw [] vt)
 (fun vx vy vz v10 v11 => K0 vy vz v10 v11 vx)))
 (sel (decide (1048576 < (↑(List.length v1) : Int)))
 (ZE v0 v1 true 0 0 0
 (fun v12 v13 v14 v15 => K0 v13 v14 v15 [] v12)
 (fun v16 v17 v18 v19 v1a => ZF v16 v17 v18 v19 v1a
 (fun v1b v1c v1d v1e => K0 v1c v1d v1e [] v1b)
 (fun v1f v1g v1h v1i v1j => K0 v1g v1h v1i v1j v1f)))
 (ZE v0 v1 (decide (1048576 < UC .i64 (↑(List.length v1) : Int) v0)) 0 0 0
 (fun v1k v1l v1m v1n => K0 v1l v1m v1n [] v1k)
 (fun v1o v1p v1q v1r v1s => ZF v1o v1p v1q v1r v1s
 (fun v1t v1u v1v v1w => K0 v1u v1v v1w [] v1t)
 (fun v1x v1y v1z v20 v21 => K0 v1y v1z v20 v21 v1x)))))
def JO:=Qa (@Q0z R)
theorem Qa5 : @JO R = @Q0z R:=Q2 _
def Un (v0 : Int) (v1 : List Int) (v2 v3 v4 v5 v6 : Int) (K0 : Int → Int → Int → Int → Int → Int → Option R) (K1 : Int → Int → Int → Int → Int → List Int → Int → List Int → Nat → Nat → List Int → List Int → Option R) : Option R :=
 QD v0 v1
 (fun v7 => sel (!v7)
 (K0 2 0 0 0 0 0)
 (Q2A 0 0 0 0 v0 v1 v2 v3 v4 v5 v6 v0 0 0 0 0 0 0 [] [] [] []
 (fun v8 v9 _ _ _ _ _ vf _ _ _ _ vk vl vm vn vo vp => sel (decide (v8 = List.length vo))
 (sel (decide (v8 = List.length vo))
 (JO 4 vo
 (fun vq vr vs vt _ => sel (decide (v9 = List.length vp))
 (sel (decide (v9 = List.length vp))
 (Y2 vp
 (fun vv vw _ => K1 0 vf vq vr vs vt vv vw vk vl vm vn))
 (none))
 (none)))
 (none))
 (none))))
def Q2F:=Qa (@Un R)
theorem JP : @Q2F R = @Un R:=Q2 _
def Q04 (v0 : Int) (v1 : List Int) (K0 : Int → Int → Int → Int → List Int → Int → List Int → List Int → List Int → Int → Option R) : Option R :=
 Q2F v0 v1 0 0 0 0 0
 (fun v2 v3 v4 v5 v6 v7 => K0 v3 v4 v5 v6 [] v7 [] [] [] v2)
 (fun v8 v9 va vb vc vd ve vf vg vh vi vj => sel (decide (vg = List.length vi))
 (sel (decide (vh = List.length vj))
 (K0 v9 va vb vc vd ve vf vi vj v8)
 (none))
 (none))
def YN:=Qa (@Q04 R)
theorem Q1K : @YN R = @Q04 R:=Q2 _
def Q6n (rec : Nat → Int → Int → List Int → List Int → Option R) (v0 : Nat) (v1 v2 : Int) (v3 v4 : List Int) (K0 : Nat → List Int → Option R) : Option R :=
 sel (decide (v1 < v2))
 (Y5 v2 v3 v1
 (fun v5 => sel v5
 (sel (decide (List.length v4 = v0))
 (sel (decide ((v0 + 1) * 8 ≤ 140737488355328))
 (Y3 (v4 ++ [v1]) (fun (v6 : List Int) =>
 rec (v0 + 1) (Qe .i64 v1 1) v2 v3 v6))
 (none))
 (none))
 (rec v0 (Qe .i64 v1 1) v2 v3 v4)))
 (K0 v0 v4)
def Zn (K0 : Nat → List Int → Option R) : Nat → Nat → Int → Int → List Int → List Int → Option R
 | 0, _, _, _, _, _ => none
 | N + 1, v0, v1, v2, v3, v4 => Q6n (Zn K0 N) v0 v1 v2 v3 v4 K0
def U2 (v0 : Nat) (v1 v2 : Int) (v3 v4 : List Int) (K0 : Nat → List Int → Option R) : Option R :=
 Zn K0 NR v0 v1 v2 v3 v4
def Q1L:=Qa (@U2 R)
theorem Q4C : @Q1L R = @U2 R:=Q2 _
def Q2G (v0 : Int) (v1 : List Int) (K0 : List Int → Option R) : Option R :=
 Q1L 0 0 v0 v1 []
 (fun v2 v3 => sel (decide (v2 = List.length v3))
 (K0 v3)
 (none))
def Uz:=Qa (@Q2G R)
theorem Q7e : @Uz R = @Q2G R:=Q2 _
def Q3W (v0 v1 : Int) (K0 : Int → Option R) : Option R :=
 sel (decide (v1 = 0))
 (K0 0)
 (sel (decide (v1 = 0))
 (none)
 (UT (QV .u64 (Qu .i64 v0 v1))
 (fun v2 => K0 (QB .i64 v2 1))))
def YO:=Qa (@Q3W R)
theorem Q8v : @YO R = @Q3W R:=Q2 _
def QaA (rec : List Int → Int → Nat → Nat → Int → Int → Int → Int → Int → Int → Int → Int → Int → Int → Int → Int → Int → List Bool → List Int → Option R) (v0 : List Int) (v1 : Int) (v2 v3 : Nat) (v4 v5 v6 v7 v8 v9 va vb vc vd ve vf vg : Int) (vh : List Bool) (vi : List Int) (K0 : Int → Nat → Nat → Int → Int → Int → Int → Int → Int → Int → Int → Int → Int → Int → Int → List Bool → List Int → Option R) : Option R :=
 sel (decide (v4 < (↑(List.length v0) : Int)))
 (sel (decide (0 ≤ v4))
 (sel (decide (v4 < (↑(List.length v0) : Int)))
 (sel (decide (0 ≤ QV .u64 v1))
 (sel (decide (0 ≤ Qe .i64 (ZC .i64 (List.getD v0 (Int.toNat v4) 0) (QV .u64 v1)) v4))
 (sel (decide (Qe .i64 (ZC .i64 (List.getD v0 (Int.toNat v4) 0) (QV .u64 v1)) v4 < (↑v2 : Int)))
 (sel (decide (Int.toNat (Qe .i64 (ZC .i64 (List.getD v0 (Int.toNat v4) 0) (QV .u64 v1)) v4) < List.length vh))
 (Y3 (List.set vh (Int.toNat (Qe .i64 (ZC .i64 (List.getD v0 (Int.toNat v4) 0) (QV .u64 v1)) v4)) true) (fun (vj : List Bool) =>
 sel (decide (0 < v1))
 (sel (decide (0 ≤ v4))
 (sel (decide (v4 < (↑(List.length v0) : Int)))
 (sel (decide (0 ≤ QV .u64 v1))
 (sel (decide (Qap .u64 1 (QV .u64 v1) = 0))
 (none)
 (sel (decide (List.length vi = v3))
 (sel (decide ((v3 + 1) * 8 ≤ 140737488355328))
 (Y3 (vi ++ [YP (QV .u64 (List.getD v0 (Int.toNat v4) 0)) (Qap .u64 1 (QV .u64 v1))]) (fun (vk : List Int) =>
 rec v0 v1 v2 (v3 + 1) (Qe .i64 v4 1) v5 v6 v7 v8 v9 va vb vc vd ve vf vg vj vk))
 (none))
 (none)))
 (none))
 (none))
 (none))
 (rec v0 v1 v2 v3 (Qe .i64 v4 1) v5 v6 v7 v8 v9 va vb vc vd ve vf vg vj vi)))
 (none))
 (none))
 (none))
 (none))
 (none))
 (none))
 (K0 v1 v2 v3 v5 v6 v7 v8 v9 va vb vc vd ve vf vg vh vi)
def Yk (K0 : Int → Nat → Nat → Int → Int → Int → Int → Int → Int → Int → Int → Int → Int → Int → Int → List Bool → List Int → Option R) : Nat → List Int → Int → Nat → Nat → Int → Int → Int → Int → Int → Int → Int → Int → Int → Int → Int → Int → Int → List Bool → List Int → Option R
 | 0, _, _, _, _, _, _, _, _, _, _, _, _, _, _, _, _, _, _, _ => none
 | N + 1, v0, v1, v2, v3, v4, v5, v6, v7, v8, v9, va, vb, vc, vd, ve, vf, vg, vh, vi => QaA (Yk K0 N) v0 v1 v2 v3 v4 v5 v6 v7 v8 v9 va vb vc vd ve vf vg vh vi K0
def Q05 (v0 : List Int) (v1 : Int) (v2 v3 : Nat) (v4 v5 v6 v7 v8 v9 va vb vc vd ve vf vg : Int) (vh : List Bool) (vi : List Int) (K0 : Int → Nat → Nat → Int → Int → Int → Int → Int → Int → Int → Int → Int → Int → Int → Int → List Bool → List Int → Option R) : Option R :=
 Yk K0 NR v0 v1 v2 v3 v4 v5 v6 v7 v8 v9 va vb vc vd ve vf vg vh vi
def Q6J:=Qa (@Q05 R)
theorem Q8w : @Q6J R = @Q05 R:=Q2 _
def Q2H (v0 : Bool) (v1 v2 v3 v4 v5 v6 v7 v8 v9 va vb vc vd ve vf : Int) (vg : List Int) (vh : Int) (vi : List Int) (K0 : Int → Int → Int → Int → Int → Int → Int → Option R) (K1 : Int → Int → Int → Int → Int → Int → Int → Int → Int → Int → Int → Int → Int → Int → Int → List Int → Int → List Int → Option R) : Option R :=
 sel v0
 (K0 2 0 0 0 0 0 0)
 (K1 v1 v2 v3 v4 v5 v6 v7 v8 v9 va vb vc vd ve vf vg vh vi)
def Q0A:=Qa (@Q2H R)
theorem Q7f : @Q0A R = @Q2H R:=Q2 _
def Q2I (_v0 _v1 _v2 _v3 _v4 _v5 v6 v7 _v8 _v9 _va _vb vc vd ve : Int) (vf : List Int) (vg : Int) (vh : List Int) (K0 : Int → Int → Int → Int → Int → Int → List Int → Int → List Int → Option R) : Option R :=
 K0 0 v6 v7 vc vd ve vf vg vh
def Q0B:=Qa (@Q2I R)
theorem Q7g : @Q0B R = @Q2I R:=Q2 _
def Q2J (v0 : Int) (v1 : List Int) (K0 : Int → Int → Int → Int → Int → List Int → Int → List Int → Int → Option R) : Option R :=
 YO v0 ((↑(List.length v1) : Int))
 (fun v2 => sel (decide (0 ≤ QV .u64 v2))
 (sel (decide (0 ≤ Qe .i64 (Qe .i64 (↑(List.length v1) : Int) (ZC .i64 v0 (QV .u64 v2))) 1))
 (sel (decide (Qe .i64 (Qe .i64 (↑(List.length v1) : Int) (ZC .i64 v0 (QV .u64 v2))) 1 ≤ Qe .i64 (Qe .i64 (↑(List.length v1) : Int) (ZC .i64 v0 (QV .u64 v2))) 1))
 (sel (decide (Qe .i64 (Qe .i64 (↑(List.length v1) : Int) (ZC .i64 v0 (QV .u64 v2))) 1 ≤ 281474976710656))
 (sel (decide ((↑1 : Int) * Qe .i64 (Qe .i64 (↑(List.length v1) : Int) (ZC .i64 v0 (QV .u64 v2))) 1 ≤ 281474976710656))
 (Y3 (List.replicate (Int.toNat (Qe .i64 (Qe .i64 (↑(List.length v1) : Int) (ZC .i64 v0 (QV .u64 v2))) 1)) false) (fun (v3 : List Bool) =>
 Q6J v1 v2 (Int.toNat (Qe .i64 (Qe .i64 (↑(List.length v1) : Int) (ZC .i64 v0 (QV .u64 v2))) 1)) 0 0 0 0 0 0 0 0 v0 ((↑(List.length v1) : Int)) 0 0 0 0 v3 []
 (fun v4 v5 v6 v7 v8 v9 va vb vc vd ve vf vg vh vi vj vk => sel (decide (v6 = List.length vk))
 (sel (decide (v6 = List.length vk))
 (JO (max2 v4 1) vk
 (fun vl vm vn vo vp => sel (decide (v5 = List.length vj))
 (sel (decide (v5 = List.length vj))
 (Y2 vj
 (fun vq vr vs => sel (!decide (vp = 0))
 (Q0A true v7 v8 v9 va vb vc vd ve vf vg vh vi vl vm vn vo vq vr
 (fun vt vu vv vw vx vy vz => K0 vu vv vw vx vy [] vz [] vt)
 (fun v10 v11 v12 v13 v14 v15 v16 v17 v18 v19 v1a v1b v1c v1d v1e v1f v1g v1h => Q0B v10 v11 v12 v13 v14 v15 v16 v17 v18 v19 v1a v1b v1c v1d v1e v1f v1g v1h
 (fun v1i v1j v1k v1l v1m v1n v1o v1p v1q => K0 v1j v1k v1l v1m v1n v1o v1p v1q v1i)))
 (Q0A (!decide (vs = 0)) v7 v8 v9 va vb vc vd ve vf vg vh vi vl vm vn vo vq vr
 (fun v1r v1s v1t v1u v1v v1w v1x => K0 v1s v1t v1u v1v v1w [] v1x [] v1r)
 (fun v1y v1z v20 v21 v22 v23 v24 v25 v26 v27 v28 v29 v2a v2b v2c v2d v2e v2f => Q0B v1y v1z v20 v21 v22 v23 v24 v25 v26 v27 v28 v29 v2a v2b v2c v2d v2e v2f
 (fun v2g v2h v2i v2j v2k v2l v2m v2n v2o => K0 v2h v2i v2j v2k v2l v2m v2n v2o v2g)))))
 (none))
 (none)))
 (none))
 (none))))
 (none))
 (none))
 (none))
 (none))
 (none))
def Q1M:=Qa (@Q2J R)
theorem Qc7 : @Q1M R = @Q2J R:=Q2 _
def Q06 (v0 : Int) (v1 : List Int) (K0 : Int → Int → Int → Int → Int → List Int → Int → List Int → Int → Option R) : Option R :=
 QD v0 v1
 (fun v2 => sel (!v2)
 (K0 0 0 0 0 0 [] 0 [] 2)
 (Uz v0 v1
 (fun v3 => Q1M v0 v3
 K0)))
def Jb:=Qa (@Q06 R)
theorem Q1N : @Jb R = @Q06 R:=Q2 _
def Qx (v0 _v1 _v2 _v3 _v4 _v5 _v6 _v7 _v8 _v9 _va _vb _vc _vd ve vf : Int) (vg vh vi : List Int) (vj vk vl vm : Int) (vn : List Int) (vo : Int) (vp vq vr : List Int) (vs vt vu vv vw : Int) (vx : List Int) (vy : Int) (vz : List Int) (K0 : Int → Int → Int → Int → Int → Int → Int → Int → Int → Int → Int → Int → Int → Int → Option R) (K1 : Int → Int → Int → List Int → List Int → List Int → Int → Int → Int → Int → List Int → Int → List Int → List Int → List Int → Int → Int → Int → Int → Int → List Int → Int → List Int → Option R) : Option R :=
 sel (!decide (v0 = 0))
 (K0 v0 0 0 0 0 0 0 0 0 0 0 0 0 0)
 (K1 0 ve vf vg vh vi vj vk vl vm vn vo vp vq vr vs vt vu vv vw vx vy vz)
def ZR:=Qa (@Qx R)
theorem Qz : @ZR R = @Qx R:=Q2 _
def Z0 (v0 v1 : Int) (v2 : List Int) (K0 : Int → Int → List Int → List Int → List Int → Int → Int → Int → Int → List Int → Int → List Int → List Int → List Int → Int → Int → Int → Int → Int → List Int → Int → List Int → Int → Option R) : Option R :=
 sel (decide (v0 = 1))
 (J9 v1 v2
 (fun v3 v4 v5 v6 v7 => ZR v7 0 0 0 0 0 0 0 0 0 0 0 0 0 v0 v3 v4 v5 v6 0 0 0 0 [] 0 [] [] [] 0 0 0 0 0 [] 0 []
 (fun v8 v9 va vb vc vd ve vf vg vh vi vj vk vl => K0 v9 va [] [] [] vb vc vd ve [] vf [] [] [] vg vh vi vj vk [] vl [] v8)
 (fun vm vn vo vp vq vr vs vt vu vv vw vx vy vz v10 v11 v12 v13 v14 v15 v16 v17 v18 => K0 vn vo vp vq vr vs vt vu vv vw vx vy vz v10 v11 v12 v13 v14 v15 v16 v17 v18 vm)))
 (sel (decide (v0 = 2))
 (YN v1 v2
 (fun v19 v1a v1b v1c v1d v1e v1f v1g v1h v1i => ZR v1i 0 0 0 0 0 0 0 0 0 0 0 0 0 v0 0 [] [] [] v19 v1a v1b v1c v1d v1e v1f v1g v1h 0 0 0 0 0 [] 0 []
 (fun v1j v1k v1l v1m v1n v1o v1p v1q v1r v1s v1t v1u v1v v1w => K0 v1k v1l [] [] [] v1m v1n v1o v1p [] v1q [] [] [] v1r v1s v1t v1u v1v [] v1w [] v1j)
 (fun v1x v1y v1z v20 v21 v22 v23 v24 v25 v26 v27 v28 v29 v2a v2b v2c v2d v2e v2f v2g v2h v2i v2j => K0 v1y v1z v20 v21 v22 v23 v24 v25 v26 v27 v28 v29 v2a v2b v2c v2d v2e v2f v2g v2h v2i v2j v1x)))
 (sel (decide (v0 = 3))
 (Jb v1 v2
 (fun v2k v2l v2m v2n v2o v2p v2q v2r v2s => ZR v2s 0 0 0 0 0 0 0 0 0 0 0 0 0 v0 0 [] [] [] 0 0 0 0 [] 0 [] [] [] v2k v2l v2m v2n v2o v2p v2q v2r
 (fun v2t v2u v2v v2w v2x v2y v2z v30 v31 v32 v33 v34 v35 v36 => K0 v2u v2v [] [] [] v2w v2x v2y v2z [] v30 [] [] [] v31 v32 v33 v34 v35 [] v36 [] v2t)
 (fun v37 v38 v39 v3a v3b v3c v3d v3e v3f v3g v3h v3i v3j v3k v3l v3m v3n v3o v3p v3q v3r v3s v3t => K0 v38 v39 v3a v3b v3c v3d v3e v3f v3g v3h v3i v3j v3k v3l v3m v3n v3o v3p v3q v3r v3s v3t v37)))
 (ZR 5 0 0 0 0 0 0 0 0 0 0 0 0 0 v0 0 [] [] [] 0 0 0 0 [] 0 [] [] [] 0 0 0 0 0 [] 0 []
 (fun v3u v3v v3w v3x v3y v3z v40 v41 v42 v43 v44 v45 v46 v47 => K0 v3v v3w [] [] [] v3x v3y v3z v40 [] v41 [] [] [] v42 v43 v44 v45 v46 [] v47 [] v3u)
 (fun v48 v49 v4a v4b v4c v4d v4e v4f v4g v4h v4i v4j v4k v4l v4m v4n v4o v4p v4q v4r v4s v4t v4u => K0 v49 v4a v4b v4c v4d v4e v4f v4g v4h v4i v4j v4k v4l v4m v4n v4o v4p v4q v4r v4s v4t v4u v48))))
def Jc:=Qa (@Z0 R)
theorem ZS : @Jc R = @Z0 R:=Q2 _
def Q5t (rec : List Int → List Int → Int → Option R) (v0 v1 : List Int) (v2 : Int) (K0 : Bool → Option R) (K1 : Unit → Option R) : Option R :=
 sel (decide (v2 < (↑(List.length v0) : Int)))
 (sel (decide (0 ≤ v2))
 (sel (decide (v2 < (↑(List.length v0) : Int)))
 (sel (decide (0 ≤ v2))
 (sel (decide (v2 < (↑(List.length v1) : Int)))
 (sel (!decide (List.getD v0 (Int.toNat v2) 0 = List.getD v1 (Int.toNat v2) 0))
 (K0 false)
 (rec v0 v1 (Qe .i64 v2 1)))
 (none))
 (none))
 (none))
 (none))
 (K1 ())
def Zb (K0 : Bool → Option R) (K1 : Unit → Option R) : Nat → List Int → List Int → Int → Option R
 | 0, _, _, _ => none
 | N + 1, v0, v1, v2 => Q5t (Zb K0 K1 N) v0 v1 v2 K0 K1
def YH (v0 v1 : List Int) (v2 : Int) (K0 : Bool → Option R) (K1 : Unit → Option R) : Option R :=
 Zb K0 K1 NR v0 v1 v2
def Q0U:=Qa (@YH R)
theorem Q3f : @Q0U R = @YH R:=Q2 _
def Q1O (v0 v1 : List Int) (K0 : Bool → Option R) : Option R :=
 sel (!decide ((↑(List.length v0) : Int) = (↑(List.length v1) : Int)))
 (K0 false)
 (Q0U v0 v1 0
 (fun v2 => K0 v2)
 (fun _ => K0 true))
def ZG:=Qa (@Q1O R)
theorem Q6o : @ZG R = @Q1O R:=Q2 _
def Q5u (v0 : Int) (v1 v2 v3 : List Int) (v4 : Int) (v5 v6 v7 : List Int) (K0 : Bool → Option R) : Option R :=
 QX v0 v1 v4 v5
 (fun v8 => sel v8
 (ZG v2 v6
 (fun v9 => sel v9
 (ZG v3 v7
 (fun va => K0 va))
 (K0 false)))
 (K0 false))
def JQ:=Qa (@Q5u R)
theorem Qa6 : @JQ R = @Q5u R:=Q2 _
def Q5v (v0 v1 v2 : Int) (v3 : List Int) (v4 v5 v6 : Int) (v7 : List Int) (K0 : Bool → Option R) : Option R :=
 sel (decide (v0 = v4))
 (sel (decide (v1 = v5))
 (QX v2 v3 v6 v7
 (fun v8 => K0 v8))
 (K0 false))
 (K0 false)
def JR:=Qa (@Q5v R)
theorem Qa7 : @JR R = @Q5v R:=Q2 _
def Q5w (v0 v1 v2 v3 : Int) (v4 : List Int) (v5 : Int) (v6 v7 v8 : List Int) (v9 va vb vc : Int) (vd : List Int) (ve : Int) (vf vg vh : List Int) (K0 : Bool → Option R) : Option R :=
 sel (decide (v0 = v9))
 (JR v1 v2 v3 v4 va vb vc vd
 (fun vi => sel vi
 (QX v5 v6 ve vf
 (fun vj => sel vj
 (ZG v7 vg
 (fun vk => sel vk
 (ZG v8 vh
 (fun vl => K0 vl))
 (K0 false)))
 (K0 false)))
 (K0 false)))
 (K0 false)
def JS:=Qa (@Q5w R)
theorem Qa8 : @JS R = @Q5w R:=Q2 _
def Q5x (v0 v1 v2 v3 v4 : Int) (v5 : List Int) (v6 : Int) (v7 : List Int) (v8 v9 va vb vc : Int) (vd : List Int) (ve : Int) (vf : List Int) (K0 : Bool → Option R) : Option R :=
 sel (decide (v0 = v8))
 (sel (decide (v1 = v9))
 (JR v2 v3 v4 v5 va vb vc vd
 (fun vg => sel vg
 (QX v6 v7 ve vf
 (fun vh => K0 vh))
 (K0 false)))
 (K0 false))
 (K0 false)
def JT:=Qa (@Q5x R)
theorem Qa9 : @JT R = @Q5x R:=Q2 _
def Q0C (v0 v1 : Int) (v2 v3 v4 : List Int) (v5 v6 v7 v8 : Int) (v9 : List Int) (va : Int) (vb vc vd : List Int) (ve vf vg vh vi : Int) (vj : List Int) (vk : Int) (vl : List Int) (vm vn : Int) (vo vp vq : List Int) (vr vs vt vu : Int) (vv : List Int) (vw : Int) (vx vy vz : List Int) (v10 v11 v12 v13 v14 : Int) (v15 : List Int) (v16 : Int) (v17 : List Int) (K0 : Bool → Option R) : Option R :=
 sel (decide (v0 = vm))
 (JQ v1 v2 v3 v4 vn vo vp vq
 (fun v18 => sel v18
 (JS v5 v6 v7 v8 v9 va vb vc vd vr vs vt vu vv vw vx vy vz
 (fun v19 => sel v19
 (JT ve vf vg vh vi vj vk vl v10 v11 v12 v13 v14 v15 v16 v17
 (fun v1a => K0 v1a))
 (K0 false)))
 (K0 false)))
 (K0 false)
def JU:=Qa (@Q0C R)
theorem Q2K : @JU R = @Q0C R:=Q2 _
def Q5y (v0 : Int) (v1 : List Int) (K0 : Bool → Option R) : Option R :=
 sel (decide (v0 = 0))
 (K0 (decide ((↑(List.length v1) : Int) = 0)))
 (K0 false)
def Yp:=Qa (@Q5y R)
theorem Qaa : @Yp R = @Q5y R:=Q2 _
def Q3X (v0 v1 v2 : Int) (v3 : List Int) (K0 : Bool → Option R) : Option R :=
 sel (decide (v0 = 0))
 (sel (decide (v1 = 0))
 (Yp v2 v3
 (fun v4 => K0 v4))
 (K0 false))
 (K0 false)
def Jd:=Qa (@Q3X R)
theorem Q8x : @Jd R = @Q3X R:=Q2 _
def Q1P (v0 v1 v2 : Bool) (v3 _v4 : Int) (_v5 _v6 _v7 : List Int) (_v8 _v9 _va _vb : Int) (_vc : List Int) (_vd : Int) (_ve _vf _vg : List Int) (_vh _vi _vj _vk _vl : Int) (_vm : List Int) (_vn : Int) (_vo : List Int) (K0 : Bool → Option R) : Option R :=
 sel v0
 (sel v1
 (sel v2
 (K0 true)
 (K0 (decide (v3 = 3))))
 (sel (decide (v3 = 2))
 (sel v2
 (K0 true)
 (K0 (decide (v3 = 3))))
 (K0 false)))
 (sel (decide (v3 = 1))
 (sel v1
 (sel v2
 (K0 true)
 (K0 (decide (v3 = 3))))
 (sel (decide (v3 = 2))
 (sel v2
 (K0 true)
 (K0 (decide (v3 = 3))))
 (K0 false)))
 (K0 false))
def ZH:=Qa (@Q1P R)
theorem Q6p : @ZH R = @Q1P R:=Q2 _
def UX (v0 v1 : Bool) (v2 v3 : Int) (v4 v5 v6 : List Int) (v7 v8 v9 va : Int) (vb : List Int) (vc : Int) (vd ve vf : List Int) (vg vh vi vj vk : Int) (vl : List Int) (vm : Int) (vn : List Int) (K0 : Bool → Option R) : Option R :=
 sel (decide (vg = 0))
 (sel (decide (vh = 0))
 (Jd vi vj vk vl
 (fun vo => sel vo
 (Yp vm vn
 (fun vp => ZH v0 v1 vp v2 v3 v4 v5 v6 v7 v8 v9 va vb vc vd ve vf vg vh vi vj vk vl vm vn
 (fun vq => K0 vq)))
 (ZH v0 v1 false v2 v3 v4 v5 v6 v7 v8 v9 va vb vc vd ve vf vg vh vi vj vk vl vm vn
 (fun vr => K0 vr))))
 (ZH v0 v1 false v2 v3 v4 v5 v6 v7 v8 v9 va vb vc vd ve vf vg vh vi vj vk vl vm vn
 (fun vs => K0 vs)))
 (ZH v0 v1 false v2 v3 v4 v5 v6 v7 v8 v9 va vb vc vd ve vf vg vh vi vj vk vl vm vn
 (fun vt => K0 vt))
def ZI:=Qa (@UX R)
theorem Q6q : @ZI R = @UX R:=Q2 _
def UY (v0 : Bool) (v1 v2 : Int) (v3 v4 v5 : List Int) (v6 v7 v8 v9 : Int) (va : List Int) (vb : Int) (vc vd ve : List Int) (vf vg vh vi vj : Int) (vk : List Int) (vl : Int) (vm : List Int) (K0 : Bool → Option R) : Option R :=
 sel (decide (v6 = 0))
 (Jd v7 v8 v9 va
 (fun vn => sel vn
 (Yp vb vc
 (fun vo => sel vo
 (Y3 (decide (Qe .i64 (↑(List.length vd) : Int) (↑(List.length ve) : Int) = 0)) (fun (vp : Bool) =>
 ZI v0 vp v1 v2 v3 v4 v5 v6 v7 v8 v9 va vb vc vd ve vf vg vh vi vj vk vl vm
 (fun vq => K0 vq)))
 (ZI v0 false v1 v2 v3 v4 v5 v6 v7 v8 v9 va vb vc vd ve vf vg vh vi vj vk vl vm
 (fun vr => K0 vr))))
 (ZI v0 false v1 v2 v3 v4 v5 v6 v7 v8 v9 va vb vc vd ve vf vg vh vi vj vk vl vm
 (fun vs => K0 vs))))
 (ZI v0 false v1 v2 v3 v4 v5 v6 v7 v8 v9 va vb vc vd ve vf vg vh vi vj vk vl vm
 (fun vt => K0 vt))
def U8:=Qa (@UY R)
theorem Q6r : @U8 R = @UY R:=Q2 _
def Q5z (v0 v1 : Int) (v2 v3 v4 : List Int) (v5 v6 v7 v8 : Int) (v9 : List Int) (va : Int) (vb vc vd : List Int) (ve vf vg vh vi : Int) (vj : List Int) (vk : Int) (vl : List Int) (K0 : Bool → Option R) : Option R :=
 Yp v1 v2
 (fun vm => sel vm
 (Y3 (decide (Qe .i64 (↑(List.length v3) : Int) (↑(List.length v4) : Int) = 0)) (fun (vn : Bool) =>
 U8 vn v0 v1 v2 v3 v4 v5 v6 v7 v8 v9 va vb vc vd ve vf vg vh vi vj vk vl
 (fun vo => K0 vo)))
 (U8 false v0 v1 v2 v3 v4 v5 v6 v7 v8 v9 va vb vc vd ve vf vg vh vi vj vk vl
 (fun vp => K0 vp)))
def Q2L:=Qa (@Q5z R)
theorem Qab : @Q2L R = @Q5z R:=Q2 _
def Q3Y (v0 : Int) (v1 v2 v3 : List Int) (K0 : Bool → Option R) : Option R :=
 J9 v0 v1
 (fun v4 v5 v6 v7 v8 => sel (decide (v8 = 0))
 (JQ v0 v1 v2 v3 v4 v5 v6 v7
 (fun v9 => K0 v9))
 (K0 false))
def Je:=Qa (@Q3Y R)
theorem Q8y : @Je R = @Q3Y R:=Q2 _
def Q3Z (v0 : Int) (v1 v2 v3 : List Int) (K0 : Int → List Int → Bool → Option R) : Option R :=
 Je v0 v1 v2 v3
 (fun v4 => sel (!v4)
 (K0 0 [] false)
 (K0 v0 v1 true))
def Jf:=Qa (@Q3Z R)
theorem Q8z : @Jf R = @Q3Z R:=Q2 _
def Q7h (v0 : Bool) (v1 v2 v3 v4 : Int) (v5 : List Int) (v6 : Int) (v7 v8 v9 : List Int) (va : Int) (K0 : Bool → Int → Option R) (K1 : Int → Int → Int → Int → List Int → Int → List Int → List Int → List Int → Int → Option R) : Option R :=
 sel v0
 (K0 false 0)
 (K1 v1 v2 v3 v4 v5 v6 v7 v8 v9 va)
def QS:=Qa (@Q7h R)
theorem JV : @QS R = @Q7h R:=Q2 _
def Q40 (v0 v1 v2 : Int) (v3 : List Int) (K0 : Bool → Option R) : Option R :=
 sel (decide (1 ≤ v1))
 (sel (decide (v1 ≤ 64))
 (sel (decide (0 ≤ v0))
 (sel (decide (v0 ≤ 1048576))
 (QD v2 v3
 (fun v4 => sel v4
 (K0 (decide (v2 = UC .i64 v0 v1)))
 (K0 false)))
 (K0 false))
 (K0 false))
 (K0 false))
 (K0 false)
def Yf:=Qa (@Q40 R)
theorem Q8A : @Yf R = @Q40 R:=Q2 _
def Q7i (rec : Int → Int → Int → Int → Int → List Int → Option R) (v0 v1 v2 v3 v4 : Int) (v5 : List Int) (K0 : Int → Option R) : Option R :=
 sel (decide (v3 < v1))
 (Y5 v4 v5 (Qe .i64 v0 v3)
 (fun v6 => sel v6
 (sel (decide (0 ≤ QV .u64 v3))
 (rec v0 v1 (orW .u64 v2 (Qap .u64 1 (QV .u64 v3))) (Qe .i64 v3 1) v4 v5)
 (none))
 (rec v0 v1 v2 (Qe .i64 v3 1) v4 v5)))
 (K0 v2)
def Zv (K0 : Int → Option R) : Nat → Int → Int → Int → Int → Int → List Int → Option R
 | 0, _, _, _, _, _, _ => none
 | N + 1, v0, v1, v2, v3, v4, v5 => Q7i (Zv K0 N) v0 v1 v2 v3 v4 v5 K0
def Uo (v0 v1 v2 v3 v4 : Int) (v5 : List Int) (K0 : Int → Option R) : Option R :=
 Zv K0 NR v0 v1 v2 v3 v4 v5
def Q2M:=Qa (@Uo R)
theorem Q5A : @Q2M R = @Uo R:=Q2 _
def Q0V (v0 v1 v2 : Int) (v3 : List Int) (K0 : Int → Int → Option R) : Option R :=
 Q2M v0 v1 0 0 v2 v3
 (fun v4 => K0 v4 0)
def Q2N:=Qa (@Q0V R)
theorem Q5B : @Q2N R = @Q0V R:=Q2 _
def Q0W (v0 v1 v2 : Int) (v3 : List Int) (K0 : Int → Int → Option R) : Option R :=
 sel (decide (v0 < 0))
 (K0 0 3)
 (sel (decide (v2 < v0))
 (K0 0 3)
 (sel (decide (QB .i64 v2 v0 < v1))
 (K0 0 3)
 (Q2N v0 v1 v2 v3
 (fun v4 v5 => K0 v4 v5))))
def Q2O:=Qa (@Q0W R)
theorem Q5C : @Q2O R = @Q0W R:=Q2 _
def Q41 (v0 : Int) (v1 : List Int) (v2 v3 : Int) (K0 : Int → Int → Option R) : Option R :=
 QD v0 v1
 (fun v4 => sel (!v4)
 (K0 0 2)
 (sel (decide (v3 < 0))
 (K0 0 2)
 (sel (decide (64 < v3))
 (K0 0 2)
 (Q2O v2 v3 v0 v1
 (fun v5 v6 => K0 v5 v6)))))
def Jg:=Qa (@Q41 R)
theorem Q8B : @Jg R = @Q41 R:=Q2 _
def Q2P (v0 _v1 v2 v3 : Int) (v4 : List Int) (K0 : Int → Int → Option R) : Option R :=
 Jg v3 v4 (UC .i64 v0 v2) v2
 (fun v5 v6 => K0 v5 v6)
def Q5D:=Qa (@Q2P R)
theorem Q7j : @Q5D R = @Q2P R:=Q2 _
def Q6K (v0 v1 v2 : Int) (v3 : List Int) (v4 : Int) (K0 : Int → Int → Option R) : Option R :=
 Yf v0 v1 v2 v3
 (fun v5 => sel (!v5)
 (K0 0 2)
 (sel (decide (v4 < 0))
 (K0 0 3)
 (sel (decide (v0 ≤ v4))
 (K0 0 3)
 (Q5D v4 v0 v1 v2 v3
 (fun v6 v7 => K0 v6 v7)))))
def Q4D:=Qa (@Q6K R)
theorem QaB : @Q4D R = @Q6K R:=Q2 _
def Q1Q (v0 : Nat) (v1 v2 v3 v4 : Int) (v5 v6 : List Int) (K0 : Nat → Int → Int → Int → Int → List Int → List Int → Option R) : Option R :=
 Q4D v2 v3 v4 v5 v1
 (fun v7 _ => sel (decide (List.length v6 = v0))
 (sel (decide ((v0 + 1) * 8 ≤ 140737488355328))
 (Y3 (v6 ++ [v7]) (fun (v9 : List Int) =>
 K0 (v0 + 1) (Qe .i64 v1 1) v2 v3 v4 v5 v9))
 (none))
 (none))
def Q42:=Qa (@Q1Q R)
theorem Q6s : @Q42 R = @Q1Q R:=Q2 _
def Q1R (rec : Nat → Int → Int → Int → Int → List Int → List Int → Option R) (v0 : Nat) (v1 v2 v3 v4 : Int) (v5 v6 : List Int) (K0 : Nat → List Int → Option R) : Option R :=
 sel (decide (v1 < v2))
 (Yf v2 v3 v4 v5
 (fun v7 => sel v7
 (Q42 v0 v1 v2 v3 v4 v5 v6
 rec)
 (K0 v0 v6)))
 (K0 v0 v6)
def Zc (K0 : Nat → List Int → Option R) : Nat → Nat → Int → Int → Int → Int → List Int → List Int → Option R
 | 0, _, _, _, _, _, _, _ => none
 | N + 1, v0, v1, v2, v3, v4, v5, v6 => Q1R (Zc K0 N) v0 v1 v2 v3 v4 v5 v6 K0
def UZ (v0 : Nat) (v1 v2 v3 v4 : Int) (v5 v6 : List Int) (K0 : Nat → List Int → Option R) : Option R :=
 Zc K0 NR v0 v1 v2 v3 v4 v5 v6
def Q43:=Qa (@UZ R)
theorem Q6t : @Q43 R = @UZ R:=Q2 _
def Q5E (v0 v1 v2 : Int) (v3 : List Int) (K0 : List Int → Option R) : Option R :=
 Q43 0 0 v0 v1 v2 v3 []
 (fun v4 v5 => sel (decide (v4 = List.length v5))
 (K0 v5)
 (none))
def JW:=Qa (@Q5E R)
theorem Qac : @JW R = @Q5E R:=Q2 _
def Q0X (v0 v1 v2 v3 : Int) (K0 : Int → Int → Int → Int → Option R) : Option R :=
 Y1 v3 v0
 (fun v4 => sel (decide (v4 ≤ v1))
 (sel (decide (0 ≤ QV .u64 v3))
 (K0 (QB .i64 v0 1) (QB .u64 v1 v4) (orW .u64 v2 (Qap .u64 1 (QV .u64 v3))) (QB .i64 v3 1))
 (none))
 (K0 v0 v1 v2 (QB .i64 v3 1)))
def Q2Q:=Qa (@Q0X R)
theorem Q5F : @Q2Q R = @Q0X R:=Q2 _
def Q7k (rec : Int → Int → Int → Int → Option R) (v0 v1 v2 v3 : Int) (K0 : Int → Option R) : Option R :=
 sel (decide (0 ≤ v3))
 (sel (decide (0 < v0))
 (Q2Q v0 v1 v2 v3
 (fun v4 v5 v6 v7 => rec v4 v5 v6 v7))
 (K0 v2))
 (K0 v2)
def Zw (K0 : Int → Option R) : Nat → Int → Int → Int → Int → Option R
 | 0, _, _, _, _ => none
 | N + 1, v0, v1, v2, v3 => Q7k (Zw K0 N) v0 v1 v2 v3 K0
def Up (v0 v1 v2 v3 : Int) (K0 : Int → Option R) : Option R :=
 Zw K0 NR v0 v1 v2 v3
def Q2R:=Qa (@Up R)
theorem Q5G : @Q2R R = @Up R:=Q2 _
def Q44 (v0 v1 v2 : Int) (K0 : Int → Bool → Option R) : Option R :=
 Y1 v0 v1
 (fun v3 => sel (decide (v3 ≤ v2))
 (K0 0 false)
 (Q2R v1 v2 0 (QB .i64 v0 1)
 (fun v4 => K0 v4 true)))
def Q1h:=Qa (@Q44 R)
theorem Q8C : @Q1h R = @Q44 R:=Q2 _
def Q1S (v0 : Nat) (v1 : Int) (v2 : List Int) (v3 v4 v5 v6 v7 v8 v9 va : Int) (vb : List Int) (vc : Int) (vd ve vf : List Int) (vg : Int) (vh : List Bool) (K0 : Nat → Int → List Int → Int → Int → Int → Int → Int → Int → Int → Int → List Int → Int → List Int → List Int → List Int → Int → List Bool → Option R) : Option R :=
 sel (decide (0 ≤ QV .u64 v6))
 (sel (decide (List.length vh = v0))
 (sel (decide ((v0 + 1) * 1 ≤ 140737488355328))
 (Y3 (vh ++ [decide (YP (ZC .u64 v5 (QV .u64 v6)) 2 = 1)]) (fun (vi : List Bool) =>
 K0 (v0 + 1) v1 v2 v3 v4 v5 (Qe .i64 v6 1) v7 v8 v9 va vb vc vd ve vf vg vi))
 (none))
 (none))
 (none)
def Q45:=Qa (@Q1S R)
theorem Q6u : @Q45 R = @Q1S R:=Q2 _
def Q8D (rec : Nat → Int → List Int → Int → Int → Int → Int → Int → Int → Int → Int → List Int → Int → List Int → List Int → List Int → Int → List Bool → Option R) (v0 : Nat) (v1 : Int) (v2 : List Int) (v3 v4 v5 v6 v7 v8 v9 va : Int) (vb : List Int) (vc : Int) (vd ve vf : List Int) (vg : Int) (vh : List Bool) (K0 : Nat → Int → List Int → Int → Int → Int → Int → Int → Int → List Int → Int → List Int → List Int → List Int → Int → List Bool → Option R) : Option R :=
 sel (decide (v6 < 15))
 (sel (decide ((↑v0 : Int) < v7))
 (Q45 v0 v1 v2 v3 v4 v5 v6 v7 v8 v9 va vb vc vd ve vf vg vh
 rec)
 (K0 v0 v1 v2 v3 v4 v7 v8 v9 va vb vc vd ve vf vg vh))
 (K0 v0 v1 v2 v3 v4 v7 v8 v9 va vb vc vd ve vf vg vh)
def ZT (K0 : Nat → Int → List Int → Int → Int → Int → Int → Int → Int → List Int → Int → List Int → List Int → List Int → Int → List Bool → Option R) : Nat → Nat → Int → List Int → Int → Int → Int → Int → Int → Int → Int → Int → List Int → Int → List Int → List Int → List Int → Int → List Bool → Option R
 | 0, _, _, _, _, _, _, _, _, _, _, _, _, _, _, _, _, _, _ => none
 | N + 1, v0, v1, v2, v3, v4, v5, v6, v7, v8, v9, va, vb, vc, vd, ve, vf, vg, vh => Q8D (ZT K0 N) v0 v1 v2 v3 v4 v5 v6 v7 v8 v9 va vb vc vd ve vf vg vh K0
def J0 (v0 : Nat) (v1 : Int) (v2 : List Int) (v3 v4 v5 v6 v7 v8 v9 va : Int) (vb : List Int) (vc : Int) (vd ve vf : List Int) (vg : Int) (vh : List Bool) (K0 : Nat → Int → List Int → Int → Int → Int → Int → Int → Int → List Int → Int → List Int → List Int → List Int → Int → List Bool → Option R) : Option R :=
 ZT K0 NR v0 v1 v2 v3 v4 v5 v6 v7 v8 v9 va vb vc vd ve vf vg vh
def Q46:=Qa (@J0 R)
theorem Q6v : @Q46 R = @J0 R:=Q2 _
def Q1T (v0 : Nat) (v1 : Int) (v2 : List Int) (v3 v4 v5 v6 v7 v8 v9 : Int) (va : List Int) (vb : Int) (vc vd ve : List Int) (vf : Int) (vg : List Bool) (K0 : Nat → Int → List Int → Int → Int → Int → Int → Int → List Int → Int → List Int → List Int → List Int → Int → List Bool → Option R) : Option R :=
 Q46 v0 v1 v2 v3 v4 v5 0 v6 v7 v8 v9 va vb vc vd ve vf vg
 (fun vh vi vj vk vl vm vn vo vp vq vr vs vt vu vv vw => K0 vh (Qe .i64 vi vl) vj vk vm vn vo vp vq vr vs vt vu vv vw)
def Q47:=Qa (@Q1T R)
theorem Q6w : @Q47 R = @Q1T R:=Q2 _
def Qad (rec : Nat → Int → List Int → Int → Int → Int → Int → Int → List Int → Int → List Int → List Int → List Int → Int → List Bool → Option R) (v0 : Nat) (v1 : Int) (v2 : List Int) (v3 v4 v5 v6 v7 : Int) (v8 : List Int) (v9 : Int) (va vb vc : List Int) (vd : Int) (ve : List Bool) (K0 : Int → Option R) (K1 : Nat → Int → List Bool → Option R) : Option R :=
 sel (decide (v3 < (↑(List.length v2) : Int)))
 (sel (decide (0 ≤ v3))
 (sel (decide (v3 < (↑(List.length v2) : Int)))
 (Ja 15 (QV .i64 (List.getD v2 (Int.toNat v3) 0))
 (fun vf => Jg v9 va v1 vf
 (fun vg vh => Q1h 15 (QV .i64 (List.getD v2 (Int.toNat v3) 0)) vg
 (fun vi vj => sel (!decide (vh = 0))
 (K0 0)
 (sel (!vj)
 (K0 0)
 (Q47 v0 v1 v2 v3 vf vi v4 v5 v6 v7 v8 v9 va vb vc vd ve
 (fun vk vl vm vn vo vp vq vr vs vt vu vv vw vx vy => rec vk vl vm (Qe .i64 vn 1) vo vp vq vr vs vt vu vv vw vx vy)))))))
 (none))
 (none))
 (K1 v0 vd ve)
def Y8 (K0 : Int → Option R) (K1 : Nat → Int → List Bool → Option R) : Nat → Nat → Int → List Int → Int → Int → Int → Int → Int → List Int → Int → List Int → List Int → List Int → Int → List Bool → Option R
 | 0, _, _, _, _, _, _, _, _, _, _, _, _, _, _, _ => none
 | N + 1, v0, v1, v2, v3, v4, v5, v6, v7, v8, v9, va, vb, vc, vd, ve => Qad (Y8 K0 K1 N) v0 v1 v2 v3 v4 v5 v6 v7 v8 v9 va vb vc vd ve K0 K1
def Jr (v0 : Nat) (v1 : Int) (v2 : List Int) (v3 v4 v5 v6 v7 : Int) (v8 : List Int) (v9 : Int) (va vb vc : List Int) (vd : Int) (ve : List Bool) (K0 : Int → Option R) (K1 : Nat → Int → List Bool → Option R) : Option R :=
 Y8 K0 K1 NR v0 v1 v2 v3 v4 v5 v6 v7 v8 v9 va vb vc vd ve
def Q5H:=Qa (@Jr R)
theorem Q7l : @Q5H R = @Jr R:=Q2 _
def Q6L (v0 v1 v2 v3 : Int) (v4 : List Int) (v5 : Int) (v6 v7 v8 : List Int) (K0 : Int → List Int → Option R) : Option R :=
 JW v1 v2 v3 v4
 (fun v9 => Q5H 0 0 v9 0 v0 v1 v2 v3 v4 v5 v6 v7 v8 0 []
 (fun va => K0 va [])
 (fun vb _ vd => sel (decide (vb = List.length vd))
 (sel (decide (vb = List.length vd))
 (Y2 vd
 (fun ve vf _ => K0 ve vf))
 (none))
 (none)))
def Q4E:=Qa (@Q6L R)
theorem QaC : @Q4E R = @Q6L R:=Q2 _
def Q0Y (v0 v1 v2 v3 : Int) (v4 : List Int) (v5 : Int) (v6 v7 v8 : List Int) (_v9 : Int) (K0 : Bool → Int → Option R) (K1 : Bool → Int → List Int → Option R) : Option R :=
 Q4E v0 v1 v2 v3 v4 v5 v6 v7 v8
 (fun va vb => YN va vb
 (fun vc vd ve vf vg vh vi vj vk _ => JS v0 v1 v2 v3 v4 v5 v6 v7 v8 vc vd ve vf vg vh vi vj vk
 (fun vm => sel (!vm)
 (K0 false 0)
 (K1 true va vb))))
def Y9:=Qa (@Q0Y R)
theorem Q5I : @Y9 R = @Q0Y R:=Q2 _
def Q07 (v0 v1 v2 v3 : Int) (v4 : List Int) (v5 : Int) (v6 v7 v8 : List Int) (K0 : Int → List Int → Bool → Option R) : Option R :=
 sel (decide (v0 < 0))
 (QS true v0 v1 v2 v3 v4 v5 v6 v7 v8 0
 (fun v9 va => K0 va [] v9)
 (fun vb vc vd ve vf vg vh vi vj vk => Y9 vb vc vd ve vf vg vh vi vj vk
 (fun vl vm => K0 vm [] vl)
 (fun vn vo vp => K0 vo vp vn)))
 (sel (decide (1048576 < v0))
 (QS true v0 v1 v2 v3 v4 v5 v6 v7 v8 0
 (fun vq vr => K0 vr [] vq)
 (fun vs vt vu vv vw vx vy vz v10 v11 => Y9 vs vt vu vv vw vx vy vz v10 v11
 (fun v12 v13 => K0 v13 [] v12)
 (fun v14 v15 v16 => K0 v15 v16 v14)))
 (Yf v1 v2 v3 v4
 (fun v17 => sel (!v17)
 (QS true v0 v1 v2 v3 v4 v5 v6 v7 v8 0
 (fun v18 v19 => K0 v19 [] v18)
 (fun v1a v1b v1c v1d v1e v1f v1g v1h v1i v1j => Y9 v1a v1b v1c v1d v1e v1f v1g v1h v1i v1j
 (fun v1k v1l => K0 v1l [] v1k)
 (fun v1m v1n v1o => K0 v1n v1o v1m)))
 (QD v5 v6
 (fun v1p => QS (!v1p) v0 v1 v2 v3 v4 v5 v6 v7 v8 0
 (fun v1q v1r => K0 v1r [] v1q)
 (fun v1s v1t v1u v1v v1w v1x v1y v1z v20 v21 => Y9 v1s v1t v1u v1v v1w v1x v1y v1z v20 v21
 (fun v22 v23 => K0 v23 [] v22)
 (fun v24 v25 v26 => K0 v25 v26 v24)))))))
def Z4:=Qa (@Q07 R)
theorem Q8E : @Z4 R = @Q07 R:=Q2 _
def J1 (v0 : Int) (v1 v2 : List Int) (v3 : Nat) (v4 v5 : Int) (v6 : Bool) (v7 v8 v9 va vb : Int) (vc : List Int) (vd : Int) (ve vf : List Int) (K0 : Int → List Int → List Int → Nat → Int → Int → Int → Int → Int → Int → Int → List Int → Int → List Int → List Int → Option R) : Option R :=
 sel v6
 (sel (decide (0 ≤ v4))
 (sel (decide (v4 < (↑(List.length v1) : Int)))
 (sel (decide (0 ≤ QV .u64 v0))
 (sel (decide (Qap .u64 1 (QV .u64 v0) = 0))
 (none)
 (K0 v0 v1 v2 v3 v4 (Qe .i64 v5 (QV .i64 (YP (List.getD v1 (Int.toNat v4) 0) (Qap .u64 1 (QV .u64 v0))))) v7 v8 v9 va vb vc vd ve vf))
 (none))
 (none))
 (none))
 (K0 v0 v1 v2 v3 v4 v5 v7 v8 v9 va vb vc vd ve vf)
def Q08:=Qa (@J1 R)
theorem Q0g : @Q08 R = @J1 R:=Q2 _
def Q1U (v0 : Int) (v1 v2 : List Int) (v3 : Nat) (v4 v5 v6 v7 v8 v9 va : Int) (vb : List Int) (vc : Int) (vd ve : List Int) (K0 : Int → List Int → List Int → Nat → Int → Int → Int → Int → Int → Int → List Int → Int → List Int → List Int → Option R) : Option R :=
 sel (decide (List.length ve = v3))
 (sel (decide ((v3 + 1) * 8 ≤ 140737488355328))
 (Y3 (ve ++ [v5]) (fun (vf : List Int) =>
 K0 v0 v1 v2 (v3 + 1) v4 v6 v7 v8 v9 va vb vc vd vf))
 (none))
 (none)
def U9:=Qa (@Q1U R)
theorem Q6x : @U9 R = @Q1U R:=Q2 _
end
end Go.Proofs.YtofblchonjfdbaaGreatDoor
