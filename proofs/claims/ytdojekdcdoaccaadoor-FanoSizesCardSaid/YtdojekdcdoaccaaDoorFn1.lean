/- The functions that this seat's laws reach, as plain functions, and that they are what the program does. Printed by a program of this repo (wip/Prt). -/
import Derived.Test.YtdojekdcdoaccaaDoorBase
import Derived.Test.YtdojekdcdoaccaaDoorEnv
import Derived.Test.YtdojekdcdoaccaaDoorEvC
import Derived.KernelRfl
namespace Go.Proofs.YtdojekdcdoaccaaDoor
open Go Go.Ev
def txt__14a5d8 : ByteArray := ByteArray.mk (List.toArray (List.append (List.append [0, 1, 2, 2, 3, 3, 3, 3, 4, 4, 4, 4, 4, 4, 4, 4, 5, 5, 5, 5, 5, 5, 5, 5, 5, 5, 5, 5, 5, 5, 5, 5, 6, 6, 6, 6, 6, 6, 6, 6, 6, 6, 6, 6, 6, 6, 6, 6, 6, 6, 6, 6, 6, 6, 6, 6, 6, 6, 6, 6, 6, 6, 6, 6] [7, 7, 7, 7, 7, 7, 7, 7, 7, 7, 7, 7, 7, 7, 7, 7, 7, 7, 7, 7, 7, 7, 7, 7, 7, 7, 7, 7, 7, 7, 7, 7, 7, 7, 7, 7, 7, 7, 7, 7, 7, 7, 7, 7, 7, 7, 7, 7, 7, 7, 7, 7, 7, 7, 7, 7, 7, 7, 7, 7, 7, 7, 7, 7]) (List.append [8, 8, 8, 8, 8, 8, 8, 8, 8, 8, 8, 8, 8, 8, 8, 8, 8, 8, 8, 8, 8, 8, 8, 8, 8, 8, 8, 8, 8, 8, 8, 8, 8, 8, 8, 8, 8, 8, 8, 8, 8, 8, 8, 8, 8, 8, 8, 8, 8, 8, 8, 8, 8, 8, 8, 8, 8, 8, 8, 8, 8, 8, 8, 8] [8, 8, 8, 8, 8, 8, 8, 8, 8, 8, 8, 8, 8, 8, 8, 8, 8, 8, 8, 8, 8, 8, 8, 8, 8, 8, 8, 8, 8, 8, 8, 8, 8, 8, 8, 8, 8, 8, 8, 8, 8, 8, 8, 8, 8, 8, 8, 8, 8, 8, 8, 8, 8, 8, 8, 8, 8, 8, 8, 8, 8, 8, 8, 8])))
set_option maxRecDepth 100000
set_option maxHeartbeats 4000000
@[match_pattern] abbrev Ai (n : Int) : AV := AV.int .i64 n
@[match_pattern] abbrev Au (n : Int) : AV := AV.int .u64 n
@[match_pattern] abbrev Ab (b : Bool) : AV := AV.bool b
@[match_pattern] abbrev Ap (a b : Nat) : AV := AV.ptr a b
@[match_pattern] abbrev Fu (xs : List Int) : AV := AV.fsl (Blk.ints .u64 xs)
@[match_pattern] abbrev HA (vs : List AV) : HB := HB.live (Blk.any vs)
@[match_pattern] abbrev HU (xs : List Int) : HB := HB.live (Blk.ints .u64 xs)
@[match_pattern] abbrev HO (bs : List Bool) : HB := HB.live (Blk.bools bs)


noncomputable def bits_words_B {R : Type} (v0 : Int) (K0 : Int → Option R) : Option R :=
 K0 (quoW .i64 (subW .i64 (addW .i64 v0 64) 1) 64)
noncomputable def bits_words {R : Type} := shut (@bits_words_B R)
theorem bits_words_unf {R : Type} : @bits_words R = @bits_words_B R := shut_eq _

noncomputable def word_Mask_B {R : Type} (v0 : Int) (K0 : Int → Option R) : Option R :=
 sel (decide (v0 ≤ 0))
 (K0 0)
 (sel (decide (0 ≤ max2 0 (subW .i64 64 v0)))
 (K0 (shrW .u64 18446744073709551615 (max2 0 (subW .i64 64 v0))))
 (none))
noncomputable def word_Mask {R : Type} := shut (@word_Mask_B R)
theorem word_Mask_unf {R : Type} : @word_Mask R = @word_Mask_B R := shut_eq _

noncomputable def bits_Check_j4_B {R : Type} (v0 : List Int) (v1 : Int) (v2 : Nat) (K0 : Bool → List Int → Option R) : Option R :=
 sel (decide (remW v1 64 = 0))
 (K0 true v0)
 (sel (decide (0 ≤ subW .i64 (↑v2 : Int) 1))
 (sel (decide (subW .i64 (↑v2 : Int) 1 < (↑v2 : Int)))
 (sel (decide (Int.toNat (subW .i64 (↑v2 : Int) 1) < List.length v0))
 (word_Mask (remW v1 64)
 (fun v3 => letV (decide (andNotW .u64 (List.getD v0 (Int.toNat (subW .i64 (↑v2 : Int) 1)) 0) v3 = 0)) (fun (v4 : Bool) =>
 K0 v4 v0)))
 (none))
 (none))
 (none))
noncomputable def bits_Check_j4 {R : Type} := shut (@bits_Check_j4_B R)
theorem bits_Check_j4_unf {R : Type} : @bits_Check_j4 R = @bits_Check_j4_B R := shut_eq _

noncomputable def bits_Check_r_B {R : Type} (v0 : Int) (v1 : Nat) (v2 : List Int) (K0 : Bool → List Int → Option R) : Option R :=
 sel (decide (v0 < 0))
 (K0 false v2)
 (sel (decide (1048576 < v0))
 (K0 false v2)
 (bits_words v0
 (fun v3 => sel (!decide ((↑v1 : Int) = v3))
 (K0 false v2)
 (bits_Check_j4 v2 v0 v1
 (fun v4 v5 => K0 v4 v5)))))
noncomputable def bits_Check_r {R : Type} := shut (@bits_Check_r_B R)
theorem bits_Check_r_unf {R : Type} : @bits_Check_r R = @bits_Check_r_B R := shut_eq _

noncomputable def math_bits_OnesCount64_B {R : Type} (v0 : Int) (K0 : Int → Option R) : Option R :=
 letV (shrW .u64 (addW .u64 (andW .u64 (shrW .u64 (addW .u64 (andW .u64 (shrW .u64 v0 1) 6148914691236517205) (andW .u64 v0 6148914691236517205)) 2) 3689348814741910323) (andW .u64 (addW .u64 (andW .u64 (shrW .u64 v0 1) 6148914691236517205) (andW .u64 v0 6148914691236517205)) 3689348814741910323)) 4) (fun (v1 : Int) =>
 letV (addW .u64 v1 (addW .u64 (andW .u64 (shrW .u64 (addW .u64 (andW .u64 (shrW .u64 v0 1) 6148914691236517205) (andW .u64 v0 6148914691236517205)) 2) 3689348814741910323) (andW .u64 (addW .u64 (andW .u64 (shrW .u64 v0 1) 6148914691236517205) (andW .u64 v0 6148914691236517205)) 3689348814741910323))) (fun (v2 : Int) =>
 letV (addW .u64 (addW .u64 (addW .u64 (andW .u64 v2 1085102592571150095) (shrW .u64 (andW .u64 v2 1085102592571150095) 8)) (shrW .u64 (addW .u64 (andW .u64 v2 1085102592571150095) (shrW .u64 (andW .u64 v2 1085102592571150095) 8)) 16)) (shrW .u64 (addW .u64 (addW .u64 (andW .u64 v2 1085102592571150095) (shrW .u64 (andW .u64 v2 1085102592571150095) 8)) (shrW .u64 (addW .u64 (andW .u64 v2 1085102592571150095) (shrW .u64 (andW .u64 v2 1085102592571150095) 8)) 16)) 32)) (fun (v3 : Int) =>
 K0 (andW .i64 (cvtW .i64 v3) 127))))
noncomputable def math_bits_OnesCount64 {R : Type} := shut (@math_bits_OnesCount64_B R)
theorem math_bits_OnesCount64_unf {R : Type} : @math_bits_OnesCount64 R = @math_bits_OnesCount64_B R := shut_eq _

noncomputable def word_Pop_B {R : Type} (v0 : Int) (K0 : Int → Option R) : Option R :=
 math_bits_OnesCount64 v0
 (fun v1 => K0 v1)
noncomputable def word_Pop {R : Type} := shut (@word_Pop_B R)
theorem word_Pop_unf {R : Type} : @word_Pop R = @word_Pop_B R := shut_eq _

noncomputable def bits_Ones_l7_T {R : Type} (rec : Int → Int → Nat → Int → Int → List Int → Int → Nat → Option R) (v0 v1 : Int) (v2 : Nat) (v3 v4 : Int) (v5 : List Int) (v6 : Int) (v7 : Nat) (K0 : Int → Int → List Int → Int → Nat → Option R) : Option R :=
 sel (decide (v4 < v3))
 (sel (decide (0 ≤ v4))
 (sel (decide (v4 < (↑v2 : Int)))
 (sel (decide (Int.toNat v4 < List.length v5))
 (word_Pop (List.getD v5 (Int.toNat v4) 0)
 (fun v8 => rec v0 (addW .i64 v1 v8) v2 v3 (addW .i64 v4 1) v5 v6 v7))
 (none))
 (none))
 (none))
 (K0 v0 v1 v5 v6 v7)
noncomputable def bits_Ones_l7_L {R : Type} (K0 : Int → Int → List Int → Int → Nat → Option R) : Nat → Int → Int → Nat → Int → Int → List Int → Int → Nat → Option R
 | 0, _, _, _, _, _, _, _, _ => none
 | N + 1, v0, v1, v2, v3, v4, v5, v6, v7 => bits_Ones_l7_T (bits_Ones_l7_L K0 N) v0 v1 v2 v3 v4 v5 v6 v7 K0
noncomputable def bits_Ones_l7_B {R : Type} (v0 v1 : Int) (v2 : Nat) (v3 v4 : Int) (v5 : List Int) (v6 : Int) (v7 : Nat) (K0 : Int → Int → List Int → Int → Nat → Option R) : Option R :=
 bits_Ones_l7_L K0 NR v0 v1 v2 v3 v4 v5 v6 v7
noncomputable def bits_Ones_l7 {R : Type} := shut (@bits_Ones_l7_B R)
theorem bits_Ones_l7_unf {R : Type} : @bits_Ones_l7 R = @bits_Ones_l7_B R := shut_eq _

noncomputable def word_Rank_B {R : Type} (v0 v1 : Int) (K0 : Int → Option R) : Option R :=
 word_Mask v1
 (fun v2 => word_Pop (andW .u64 v0 v2)
 (fun v3 => K0 v3))
noncomputable def word_Rank {R : Type} := shut (@word_Rank_B R)
theorem word_Rank_unf {R : Type} : @word_Rank R = @word_Rank_B R := shut_eq _

noncomputable def bits_Ones_r_B {R : Type} (v0 : Int) (v1 : Nat) (v2 : Int) (v3 : List Int) (K0 : Int → List Int → Option R) : Option R :=
 bits_Check_r v0 v1 v3
 (fun v4 v5 => sel (!v4)
 (K0 0 v5)
 (sel (decide (0 ≤ quoW .i64 (max2 0 (min2 v2 v0)) 64))
 (sel (decide (quoW .i64 (max2 0 (min2 v2 v0)) 64 ≤ (↑v1 : Int)))
 (bits_Ones_l7 (max2 0 (min2 v2 v0)) 0 (Int.toNat (quoW .i64 (max2 0 (min2 v2 v0)) 64) - Int.toNat 0) ((↑(Int.toNat (quoW .i64 (max2 0 (min2 v2 v0)) 64) - Int.toNat 0) : Int)) 0 v5 v0 v1
 (fun v6 v7 v8 _ va => sel (decide (0 < remW v6 64))
 (sel (decide (0 ≤ quoW .i64 v6 64))
 (sel (decide (quoW .i64 v6 64 < (↑va : Int)))
 (sel (decide (Int.toNat (quoW .i64 v6 64) < List.length v8))
 (word_Rank (List.getD v8 (Int.toNat (quoW .i64 v6 64)) 0) (remW v6 64)
 (fun vb => K0 (addW .i64 v7 vb) v8))
 (none))
 (none))
 (none))
 (K0 v7 v8)))
 (none))
 (none)))
noncomputable def bits_Ones_r {R : Type} := shut (@bits_Ones_r_B R)
theorem bits_Ones_r_unf {R : Type} : @bits_Ones_r R = @bits_Ones_r_B R := shut_eq _

noncomputable def math_bits_Len64_j11_B {R : Type} (v0 v1 : Int) (K0 : Int → Option R) : Option R :=
 sel (decide (0 ≤ cvtW .u8 v0))
 (sel (decide (cvtW .u8 v0 < (↑(ByteArray.size (txt__14a5d8)) : Int)))
 (letV ((↑(UInt8.toNat (List.getD (Array.toList (ByteArray.data (txt__14a5d8))) (Int.toNat (cvtW .u8 v0)) 0)) : Int)) (fun (v2 : Int) =>
 K0 (addW .i64 v1 (cvtW .i64 v2))))
 (none))
 (none)
noncomputable def math_bits_Len64_j11 {R : Type} := shut (@math_bits_Len64_j11_B R)
theorem math_bits_Len64_j11_unf {R : Type} : @math_bits_Len64_j11 R = @math_bits_Len64_j11_B R := shut_eq _

noncomputable def math_bits_Len64_j8_B {R : Type} (v0 v1 : Int) (K0 : Int → Option R) : Option R :=
 sel (decide (256 ≤ v0))
 (math_bits_Len64_j11 (shrW .u64 v0 8) (addW .i64 v1 8)
 (fun v2 => K0 v2))
 (math_bits_Len64_j11 v0 v1
 (fun v3 => K0 v3))
noncomputable def math_bits_Len64_j8 {R : Type} := shut (@math_bits_Len64_j8_B R)
theorem math_bits_Len64_j8_unf {R : Type} : @math_bits_Len64_j8 R = @math_bits_Len64_j8_B R := shut_eq _

noncomputable def math_bits_Len64_j5_B {R : Type} (v0 v1 : Int) (K0 : Int → Option R) : Option R :=
 sel (decide (65536 ≤ v0))
 (math_bits_Len64_j8 (shrW .u64 v0 16) (addW .i64 v1 16)
 (fun v2 => K0 v2))
 (math_bits_Len64_j8 v0 v1
 (fun v3 => K0 v3))
noncomputable def math_bits_Len64_j5 {R : Type} := shut (@math_bits_Len64_j5_B R)
theorem math_bits_Len64_j5_unf {R : Type} : @math_bits_Len64_j5 R = @math_bits_Len64_j5_B R := shut_eq _

noncomputable def math_bits_Len64_B {R : Type} (v0 : Int) (K0 : Int → Option R) : Option R :=
 sel (decide (4294967296 ≤ v0))
 (math_bits_Len64_j5 (shrW .u64 v0 32) 32
 (fun v1 => K0 v1))
 (math_bits_Len64_j5 v0 0
 (fun v2 => K0 v2))
noncomputable def math_bits_Len64 {R : Type} := shut (@math_bits_Len64_B R)
theorem math_bits_Len64_unf {R : Type} : @math_bits_Len64 R = @math_bits_Len64_B R := shut_eq _

noncomputable def word_Len_B {R : Type} (v0 : Int) (K0 : Int → Option R) : Option R :=
 math_bits_Len64 v0
 (fun v1 => K0 v1)
noncomputable def word_Len {R : Type} := shut (@word_Len_B R)
theorem word_Len_unf {R : Type} : @word_Len R = @word_Len_B R := shut_eq _

noncomputable def fano_width_B {R : Type} (v0 v1 : Int) (K0 : Int → Option R) : Option R :=
 sel (decide (v1 = 0))
 (K0 0)
 (sel (decide (v1 = 0))
 (none)
 (word_Len (cvtW .u64 (quoW .i64 v0 v1))
 (fun v2 => K0 (subW .i64 v2 1))))
noncomputable def fano_width {R : Type} := shut (@fano_width_B R)
theorem fano_width_unf {R : Type} : @fano_width R = @fano_width_B R := shut_eq _

noncomputable def fano_eachOne_r_B {R : Type} (v0 : Int) (v1 : Nat) (v2 : List Int) (K0 : List Int → Int → Nat → Option R) : Option R :=
 K0 v2 v0 v1
noncomputable def fano_eachOne_r {R : Type} := shut (@fano_eachOne_r_B R)
theorem fano_eachOne_r_unf {R : Type} : @fano_eachOne_r R = @fano_eachOne_r_B R := shut_eq _

noncomputable def word_Select_l5_T {R : Type} (rec : Int → Int → Int → Option R) (v0 v1 v2 : Int) (K0 : Int → Option R) : Option R :=
 sel (decide (v2 < v1))
 (rec (andW .u64 v0 (subW .u64 v0 1)) v1 (addW .i64 v2 1))
 (K0 v0)
noncomputable def word_Select_l5_L {R : Type} (K0 : Int → Option R) : Nat → Int → Int → Int → Option R
 | 0, _, _, _ => none
 | N + 1, v0, v1, v2 => word_Select_l5_T (word_Select_l5_L K0 N) v0 v1 v2 K0
noncomputable def word_Select_l5_B {R : Type} (v0 v1 v2 : Int) (K0 : Int → Option R) : Option R :=
 word_Select_l5_L K0 NR v0 v1 v2
noncomputable def word_Select_l5 {R : Type} := shut (@word_Select_l5_B R)
theorem word_Select_l5_unf {R : Type} : @word_Select_l5 R = @word_Select_l5_B R := shut_eq _

noncomputable def math_bits_TrailingZeros64_B {R : Type} (v0 : Int) (K0 : Int → Option R) : Option R :=
 sel (decide (v0 = 0))
 (K0 64)
 (sel (decide (0 ≤ shrW .u64 (mulW .u64 (andW .u64 v0 (negW .u64 v0)) 285870213051353865) 58))
 (sel (decide (shrW .u64 (mulW .u64 (andW .u64 v0 (negW .u64 v0)) 285870213051353865) 58 < (↑64 : Int)))
 (K0 (cvtW .i64 (List.getD tzTab (Int.toNat (shrW .u64 (mulW .u64 (andW .u64 v0 (negW .u64 v0)) 285870213051353865) 58)) 0)))
 (none))
 (none))
noncomputable def math_bits_TrailingZeros64 {R : Type} := shut (@math_bits_TrailingZeros64_B R)
theorem math_bits_TrailingZeros64_unf {R : Type} : @math_bits_TrailingZeros64 R = @math_bits_TrailingZeros64_B R := shut_eq _

noncomputable def word_Select_j4_B {R : Type} (v0 v1 : Int) (K0 : Int → Option R) : Option R :=
 word_Select_l5 v0 v1 0
 (fun v2 => math_bits_TrailingZeros64 v2
 (fun v3 => K0 v3))
noncomputable def word_Select_j4 {R : Type} := shut (@word_Select_j4_B R)
theorem word_Select_j4_unf {R : Type} : @word_Select_j4 R = @word_Select_j4_B R := shut_eq _

noncomputable def word_Select_B {R : Type} (v0 v1 : Int) (K0 : Int → Option R) : Option R :=
 sel (decide (v1 < 0))
 (K0 64)
 (word_Pop v0
 (fun v2 => sel (decide (v2 ≤ v1))
 (K0 64)
 (word_Select_j4 v0 v1
 (fun v3 => K0 v3))))
noncomputable def word_Select {R : Type} := shut (@word_Select_B R)
theorem word_Select_unf {R : Type} : @word_Select R = @word_Select_B R := shut_eq _

noncomputable def fano_Build_1_j5_B {R : Type} (v0 : Nat) (v1 : List Bool) (v2 v3 : Int) (v4 : Nat) (v5 : List Int) (K0 : Bool → Nat → List Bool → Int → Int → Nat → List Int → Option R) : Option R :=
 K0 true v0 v1 v2 (addW .i64 v3 1) v4 v5
noncomputable def fano_Build_1_j5 {R : Type} := shut (@fano_Build_1_j5_B R)
theorem fano_Build_1_j5_unf {R : Type} : @fano_Build_1_j5 R = @fano_Build_1_j5_B R := shut_eq _

noncomputable def fano_Build_1_j5_1_B {R : Type} (v0 : Nat) (v1 : List Bool) (v2 v3 : Int) (K0 : Bool → Nat → List Bool → Int → Int → Option R) : Option R :=
 K0 true v0 v1 v2 (addW .i64 v3 1)
noncomputable def fano_Build_1_j5_1 {R : Type} := shut (@fano_Build_1_j5_1_B R)
theorem fano_Build_1_j5_1_unf {R : Type} : @fano_Build_1_j5_1 R = @fano_Build_1_j5_1_B R := shut_eq _

noncomputable def fano_Build_1_r_B {R : Type} (v0 : Int) (v1 : Nat) (v2 : List Bool) (v3 v4 : Int) (K0 : Bool → Nat → List Bool → Int → Int → Nat → List Int → Option R) (K1 : Bool → Nat → List Bool → Int → Int → Option R) : Option R :=
 sel (decide (0 ≤ v3))
 (sel (decide (0 ≤ addW .i64 (shrW .i64 v0 v3) v4))
 (sel (decide (addW .i64 (shrW .i64 v0 v3) v4 < (↑v1 : Int)))
 (sel (decide (Int.toNat (addW .i64 (shrW .i64 v0 v3) v4) < List.length v2))
 (letV (List.set v2 (Int.toNat (addW .i64 (shrW .i64 v0 v3) v4)) true) (fun (v5 : List Bool) =>
 sel (decide (0 < v3))
 (word_Mask v3
 (fun v6 => letV ([andW .u64 (cvtW .u64 v0) v6]) (fun (v7 : List Int) =>
 sel (decide (1 = List.length v7))
 (fano_Build_1_j5 v1 v5 v3 v4 1 v7
 K0)
 (sel (decide (0 + 1 ≤ List.length v7))
 (letV (List.take 1 (List.drop 0 v7)) (fun (vf : List Int) =>
 fano_Build_1_j5 v1 v5 v3 v4 1 vf
 K0))
 (none)))))
 (fano_Build_1_j5_1 v1 v5 v3 v4
 (fun vn vo vp vq vr => K1 vn vo vp vq vr))))
 (none))
 (none))
 (none))
 (none)
noncomputable def fano_Build_1_r {R : Type} := shut (@fano_Build_1_r_B R)
theorem fano_Build_1_r_unf {R : Type} : @fano_Build_1_r R = @fano_Build_1_r_B R := shut_eq _

noncomputable def fano_Build_1_j5_2_B {R : Type} (v0 : Nat) (v1 : List Bool) (v2 v3 : Int) (v4 : Nat) (v5 : List Int) (K0 : Bool → Nat → List Bool → Int → Int → Nat → List Int → Option R) : Option R :=
 K0 true v0 v1 v2 (addW .i64 v3 1) v4 v5
noncomputable def fano_Build_1_j5_2 {R : Type} := shut (@fano_Build_1_j5_2_B R)
theorem fano_Build_1_j5_2_unf {R : Type} : @fano_Build_1_j5_2 R = @fano_Build_1_j5_2_B R := shut_eq _

noncomputable def fano_Build_1_j5_3_B {R : Type} (v0 : Nat) (v1 : List Bool) (v2 v3 : Int) (v4 : Nat) (v5 : List Int) (K0 : Bool → Nat → List Bool → Int → Int → Nat → List Int → Option R) : Option R :=
 K0 true v0 v1 v2 (addW .i64 v3 1) v4 v5
noncomputable def fano_Build_1_j5_3 {R : Type} := shut (@fano_Build_1_j5_3_B R)
theorem fano_Build_1_j5_3_unf {R : Type} : @fano_Build_1_j5_3 R = @fano_Build_1_j5_3_B R := shut_eq _

noncomputable def fano_Build_1_r_1_B {R : Type} (v0 : Int) (v1 : Nat) (v2 : List Bool) (v3 v4 : Int) (v5 : Nat) (v6 : List Int) (K0 : Bool → Nat → List Bool → Int → Int → Nat → List Int → Option R) (K1 : Bool → Nat → List Bool → Int → Int → Nat → List Int → Option R) : Option R :=
 sel (decide (0 ≤ v3))
 (sel (decide (0 ≤ addW .i64 (shrW .i64 v0 v3) v4))
 (sel (decide (addW .i64 (shrW .i64 v0 v3) v4 < (↑v1 : Int)))
 (sel (decide (Int.toNat (addW .i64 (shrW .i64 v0 v3) v4) < List.length v2))
 (letV (List.set v2 (Int.toNat (addW .i64 (shrW .i64 v0 v3) v4)) true) (fun (v7 : List Bool) =>
 sel (decide (0 < v3))
 (word_Mask v3
 (fun v8 => letV ([andW .u64 (cvtW .u64 v0) v8]) (fun (v9 : List Int) =>
 sel (decide (1 = List.length v9))
 (sel (decide (List.length v6 = v5))
 (sel (decide ((v5 + 1) * 8 ≤ 140737488355328))
 (letV (v6 ++ v9) (fun (va : List Int) =>
 fano_Build_1_j5_2 v1 v7 v3 v4 (v5 + 1) va
 K0))
 (none))
 (none))
 (sel (decide (0 + 1 ≤ List.length v9))
 (sel (decide (List.length v6 = v5))
 (sel (decide ((v5 + 1) * 8 ≤ 140737488355328))
 (letV (v6 ++ List.take 1 (List.drop 0 v9)) (fun (vi : List Int) =>
 fano_Build_1_j5_2 v1 v7 v3 v4 (v5 + 1) vi
 K0))
 (none))
 (none))
 (none)))))
 (fano_Build_1_j5_3 v1 v7 v3 v4 v5 v6
 K1)))
 (none))
 (none))
 (none))
 (none)
noncomputable def fano_Build_1_r_1 {R : Type} := shut (@fano_Build_1_r_1_B R)
theorem fano_Build_1_r_1_unf {R : Type} : @fano_Build_1_r_1 R = @fano_Build_1_r_1_B R := shut_eq _

noncomputable def fano_eachOne_1_l4_1_T {R : Type} (rec : Int → Int → Nat → Int → Int → Nat → List Bool → Int → Int → Nat → Int → Nat → List Int → List Int → Option R) (v0 v1 : Int) (v2 : Nat) (v3 v4 : Int) (v5 : Nat) (v6 : List Bool) (v7 v8 : Int) (v9 : Nat) (va : Int) (vb : Nat) (vc vd : List Int) (K0 : Nat → List Bool → Int → Int → Nat → Int → Nat → List Int → List Int → Option R) (K1 : Nat → Int → Int → Nat → List Bool → Int → Int → Nat → Int → Nat → List Int → List Int → Option R) : Option R :=
 sel (!decide (v1 = 0))
 (word_Select v1 0
 (fun ve => fano_Build_1_r_1 (addW .i64 (mulW .i64 v0 64) ve) v5 v6 v7 v8 v9 vd
 (fun vf vg vh vi vj vk vl => sel (!vf)
 (K0 vg vh vi vj vk va vb vc vl)
 (rec v0 (andW .u64 v1 (subW .u64 v1 1)) v2 v3 v4 vg vh vi vj vk va vb vc vl))
 (fun vm vn vo vp vq vr vs => sel (!vm)
 (K0 vn vo vp vq vr va vb vc vs)
 (rec v0 (andW .u64 v1 (subW .u64 v1 1)) v2 v3 v4 vn vo vp vq vr va vb vc vs))))
 (K1 v2 v3 v4 v5 v6 v7 v8 v9 va vb vc vd)
noncomputable def fano_eachOne_1_l4_1_L {R : Type} (K0 : Nat → List Bool → Int → Int → Nat → Int → Nat → List Int → List Int → Option R) (K1 : Nat → Int → Int → Nat → List Bool → Int → Int → Nat → Int → Nat → List Int → List Int → Option R) : Nat → Int → Int → Nat → Int → Int → Nat → List Bool → Int → Int → Nat → Int → Nat → List Int → List Int → Option R
 | 0, _, _, _, _, _, _, _, _, _, _, _, _, _, _ => none
 | N + 1, v0, v1, v2, v3, v4, v5, v6, v7, v8, v9, va, vb, vc, vd => fano_eachOne_1_l4_1_T (fano_eachOne_1_l4_1_L K0 K1 N) v0 v1 v2 v3 v4 v5 v6 v7 v8 v9 va vb vc vd K0 K1
noncomputable def fano_eachOne_1_l4_1_B {R : Type} (v0 v1 : Int) (v2 : Nat) (v3 v4 : Int) (v5 : Nat) (v6 : List Bool) (v7 v8 : Int) (v9 : Nat) (va : Int) (vb : Nat) (vc vd : List Int) (K0 : Nat → List Bool → Int → Int → Nat → Int → Nat → List Int → List Int → Option R) (K1 : Nat → Int → Int → Nat → List Bool → Int → Int → Nat → Int → Nat → List Int → List Int → Option R) : Option R :=
 fano_eachOne_1_l4_1_L K0 K1 NR v0 v1 v2 v3 v4 v5 v6 v7 v8 v9 va vb vc vd
noncomputable def fano_eachOne_1_l4_1 {R : Type} := shut (@fano_eachOne_1_l4_1_B R)
theorem fano_eachOne_1_l4_1_unf {R : Type} : @fano_eachOne_1_l4_1 R = @fano_eachOne_1_l4_1_B R := shut_eq _

noncomputable def fano_eachOne_1_l4_T {R : Type} (rec : Int → Int → Nat → Int → Int → Nat → List Bool → Int → Int → Int → Nat → List Int → Option R) (rec0 : Int → Int → Nat → Int → Int → Nat → List Bool → Int → Int → Nat → Int → Nat → List Int → List Int → Option R) (v0 v1 : Int) (v2 : Nat) (v3 v4 : Int) (v5 : Nat) (v6 : List Bool) (v7 v8 v9 : Int) (va : Nat) (vb : List Int) (K0 : Nat → List Bool → Int → Int → Nat → Int → Nat → List Int → List Int → Option R) (K1 : Nat → Int → Int → Nat → List Bool → Int → Int → Nat → Int → Nat → List Int → List Int → Option R) (K2 : Nat → List Bool → Int → Int → Int → Nat → List Int → Option R) (K3 : Nat → Int → Int → Nat → List Bool → Int → Int → Int → Nat → List Int → Option R) : Option R :=
 sel (!decide (v1 = 0))
 (word_Select v1 0
 (fun vc => fano_Build_1_r (addW .i64 (mulW .i64 v0 64) vc) v5 v6 v7 v8
 (fun vd ve vf vg vh vi vj => sel (!vd)
 (K0 ve vf vg vh vi v9 va vb vj)
 (rec0 v0 (andW .u64 v1 (subW .u64 v1 1)) v2 v3 v4 ve vf vg vh vi v9 va vb vj))
 (fun vk vl vm vn vo => sel (!vk)
 (K2 vl vm vn vo v9 va vb)
 (rec v0 (andW .u64 v1 (subW .u64 v1 1)) v2 v3 v4 vl vm vn vo v9 va vb))))
 (K3 v2 v3 v4 v5 v6 v7 v8 v9 va vb)
noncomputable def fano_eachOne_1_l4_L {R : Type} (K0 : Nat → List Bool → Int → Int → Nat → Int → Nat → List Int → List Int → Option R) (K1 : Nat → Int → Int → Nat → List Bool → Int → Int → Nat → Int → Nat → List Int → List Int → Option R) (K2 : Nat → List Bool → Int → Int → Int → Nat → List Int → Option R) (K3 : Nat → Int → Int → Nat → List Bool → Int → Int → Int → Nat → List Int → Option R) : Nat → Int → Int → Nat → Int → Int → Nat → List Bool → Int → Int → Int → Nat → List Int → Option R
 | 0, _, _, _, _, _, _, _, _, _, _, _, _ => none
 | N + 1, v0, v1, v2, v3, v4, v5, v6, v7, v8, v9, va, vb => fano_eachOne_1_l4_T (fano_eachOne_1_l4_L K0 K1 K2 K3 N) (fano_eachOne_1_l4_1_L K0 K1 N) v0 v1 v2 v3 v4 v5 v6 v7 v8 v9 va vb K0 K1 K2 K3
noncomputable def fano_eachOne_1_l4_B {R : Type} (v0 v1 : Int) (v2 : Nat) (v3 v4 : Int) (v5 : Nat) (v6 : List Bool) (v7 v8 v9 : Int) (va : Nat) (vb : List Int) (K0 : Nat → List Bool → Int → Int → Nat → Int → Nat → List Int → List Int → Option R) (K1 : Nat → Int → Int → Nat → List Bool → Int → Int → Nat → Int → Nat → List Int → List Int → Option R) (K2 : Nat → List Bool → Int → Int → Int → Nat → List Int → Option R) (K3 : Nat → Int → Int → Nat → List Bool → Int → Int → Int → Nat → List Int → Option R) : Option R :=
 fano_eachOne_1_l4_L K0 K1 K2 K3 NR v0 v1 v2 v3 v4 v5 v6 v7 v8 v9 va vb
noncomputable def fano_eachOne_1_l4 {R : Type} := shut (@fano_eachOne_1_l4_B R)
theorem fano_eachOne_1_l4_unf {R : Type} : @fano_eachOne_1_l4 R = @fano_eachOne_1_l4_B R := shut_eq _

noncomputable def fano_eachOne_1_l2_1_T {R : Type} (rec : Nat → Int → Int → Nat → List Bool → Int → Int → Nat → Int → Nat → List Int → List Int → Option R) (v0 : Nat) (v1 v2 : Int) (v3 : Nat) (v4 : List Bool) (v5 v6 : Int) (v7 : Nat) (v8 : Int) (v9 : Nat) (va vb : List Int) (K0 : Nat → List Bool → Int → Int → Nat → Int → Nat → List Int → List Int → Option R) (K1 : Nat → List Bool → Int → Int → Nat → Int → Nat → List Int → List Int → Option R) : Option R :=
 sel (decide (v2 < v1))
 (sel (decide (0 ≤ v2))
 (sel (decide (v2 < (↑v0 : Int)))
 (sel (decide (Int.toNat v2 < List.length va))
 (fano_eachOne_1_l4_1 v2 (List.getD va (Int.toNat v2) 0) v0 v1 v2 v3 v4 v5 v6 v7 v8 v9 va vb
 K0
 (fun vl vm vn vo vp vq vr vs vt vu vv vw => rec vl vm (addW .i64 vn 1) vo vp vq vr vs vt vu vv vw))
 (none))
 (none))
 (none))
 (K1 v3 v4 v5 v6 v7 v8 v9 va vb)
noncomputable def fano_eachOne_1_l2_1_L {R : Type} (K0 : Nat → List Bool → Int → Int → Nat → Int → Nat → List Int → List Int → Option R) (K1 : Nat → List Bool → Int → Int → Nat → Int → Nat → List Int → List Int → Option R) : Nat → Nat → Int → Int → Nat → List Bool → Int → Int → Nat → Int → Nat → List Int → List Int → Option R
 | 0, _, _, _, _, _, _, _, _, _, _, _, _ => none
 | N + 1, v0, v1, v2, v3, v4, v5, v6, v7, v8, v9, va, vb => fano_eachOne_1_l2_1_T (fano_eachOne_1_l2_1_L K0 K1 N) v0 v1 v2 v3 v4 v5 v6 v7 v8 v9 va vb K0 K1
noncomputable def fano_eachOne_1_l2_1_B {R : Type} (v0 : Nat) (v1 v2 : Int) (v3 : Nat) (v4 : List Bool) (v5 v6 : Int) (v7 : Nat) (v8 : Int) (v9 : Nat) (va vb : List Int) (K0 : Nat → List Bool → Int → Int → Nat → Int → Nat → List Int → List Int → Option R) (K1 : Nat → List Bool → Int → Int → Nat → Int → Nat → List Int → List Int → Option R) : Option R :=
 fano_eachOne_1_l2_1_L K0 K1 NR v0 v1 v2 v3 v4 v5 v6 v7 v8 v9 va vb
noncomputable def fano_eachOne_1_l2_1 {R : Type} := shut (@fano_eachOne_1_l2_1_B R)
theorem fano_eachOne_1_l2_1_unf {R : Type} : @fano_eachOne_1_l2_1 R = @fano_eachOne_1_l2_1_B R := shut_eq _

noncomputable def fano_eachOne_1_l2_T {R : Type} (rec : Nat → Int → Int → Nat → List Bool → Int → Int → Int → Nat → List Int → Option R) (rec0 : Nat → Int → Int → Nat → List Bool → Int → Int → Nat → Int → Nat → List Int → List Int → Option R) (v0 : Nat) (v1 v2 : Int) (v3 : Nat) (v4 : List Bool) (v5 v6 v7 : Int) (v8 : Nat) (v9 : List Int) (K0 : Nat → List Bool → Int → Int → Nat → Int → Nat → List Int → List Int → Option R) (K1 : Nat → List Bool → Int → Int → Nat → Int → Nat → List Int → List Int → Option R) (K2 : Nat → List Bool → Int → Int → Int → Nat → List Int → Option R) (K3 : Nat → List Bool → Int → Int → Int → Nat → List Int → Option R) : Option R :=
 sel (decide (v2 < v1))
 (sel (decide (0 ≤ v2))
 (sel (decide (v2 < (↑v0 : Int)))
 (sel (decide (Int.toNat v2 < List.length v9))
 (fano_eachOne_1_l4 v2 (List.getD v9 (Int.toNat v2) 0) v0 v1 v2 v3 v4 v5 v6 v7 v8 v9
 K0
 (fun vj vk vl vm vn vo vp vq vr vs vt vu => rec0 vj vk (addW .i64 vl 1) vm vn vo vp vq vr vs vt vu)
 K2
 (fun v12 v13 v14 v15 v16 v17 v18 v19 v1a v1b => rec v12 v13 (addW .i64 v14 1) v15 v16 v17 v18 v19 v1a v1b))
 (none))
 (none))
 (none))
 (K3 v3 v4 v5 v6 v7 v8 v9)
noncomputable def fano_eachOne_1_l2_L {R : Type} (K0 : Nat → List Bool → Int → Int → Nat → Int → Nat → List Int → List Int → Option R) (K1 : Nat → List Bool → Int → Int → Nat → Int → Nat → List Int → List Int → Option R) (K2 : Nat → List Bool → Int → Int → Int → Nat → List Int → Option R) (K3 : Nat → List Bool → Int → Int → Int → Nat → List Int → Option R) : Nat → Nat → Int → Int → Nat → List Bool → Int → Int → Int → Nat → List Int → Option R
 | 0, _, _, _, _, _, _, _, _, _, _ => none
 | N + 1, v0, v1, v2, v3, v4, v5, v6, v7, v8, v9 => fano_eachOne_1_l2_T (fano_eachOne_1_l2_L K0 K1 K2 K3 N) (fano_eachOne_1_l2_1_L K0 K1 N) v0 v1 v2 v3 v4 v5 v6 v7 v8 v9 K0 K1 K2 K3
noncomputable def fano_eachOne_1_l2_B {R : Type} (v0 : Nat) (v1 v2 : Int) (v3 : Nat) (v4 : List Bool) (v5 v6 v7 : Int) (v8 : Nat) (v9 : List Int) (K0 : Nat → List Bool → Int → Int → Nat → Int → Nat → List Int → List Int → Option R) (K1 : Nat → List Bool → Int → Int → Nat → Int → Nat → List Int → List Int → Option R) (K2 : Nat → List Bool → Int → Int → Int → Nat → List Int → Option R) (K3 : Nat → List Bool → Int → Int → Int → Nat → List Int → Option R) : Option R :=
 fano_eachOne_1_l2_L K0 K1 K2 K3 NR v0 v1 v2 v3 v4 v5 v6 v7 v8 v9
noncomputable def fano_eachOne_1_l2 {R : Type} := shut (@fano_eachOne_1_l2_B R)
theorem fano_eachOne_1_l2_unf {R : Type} : @fano_eachOne_1_l2 R = @fano_eachOne_1_l2_B R := shut_eq _

noncomputable def fano_eachOne_1_r_B {R : Type} (v0 : Nat) (v1 : List Bool) (v2 v3 v4 : Int) (v5 : Nat) (v6 : List Int) (K0 : Nat → List Bool → Int → Int → Nat → Int → Nat → List Int → List Int → Option R) (K1 : Nat → List Bool → Int → Int → Int → Nat → List Int → Option R) : Option R :=
 fano_eachOne_1_l2 v5 ((↑v5 : Int)) 0 v0 v1 v2 v3 v4 v5 v6
 K0
 K0
 K1
 K1
noncomputable def fano_eachOne_1_r {R : Type} := shut (@fano_eachOne_1_r_B R)
theorem fano_eachOne_1_r_unf {R : Type} : @fano_eachOne_1_r R = @fano_eachOne_1_r_B R := shut_eq _

noncomputable def ints_Make_j3_B {R : Type} (v0 : Int) (v1 : Nat) (v2 : Bool) (v3 : List Int) (v4 v5 v6 : Int) (K0 : Int → List Int → Int → Int → Int → Option R) (K1 : Int → Nat → List Int → Int → Int → Int → Option R) : Option R :=
 sel v2
 (K0 2 v3 0 0 0)
 (K1 v0 v1 v3 v4 v5 v6)
noncomputable def ints_Make_j3 {R : Type} := shut (@ints_Make_j3_B R)
theorem ints_Make_j3_unf {R : Type} : @ints_Make_j3 R = @ints_Make_j3_B R := shut_eq _

noncomputable def bits_New_j3_B {R : Type} (v0 : Int) (v1 : Bool) (v2 : Int) (K0 : Int → Int → Option R) (K1 : Int → Int → Option R) : Option R :=
 sel v1
 (K0 2 0)
 (K1 v0 v2)
noncomputable def bits_New_j3 {R : Type} := shut (@bits_New_j3_B R)
theorem bits_New_j3_unf {R : Type} : @bits_New_j3 R = @bits_New_j3_B R := shut_eq _

noncomputable def bits_New_j4_B {R : Type} (v0 _v1 : Int) (K0 : Int → Int → Nat → List Int → Option R) : Option R :=
 bits_words v0
 (fun v2 => sel (decide (0 ≤ v2))
 (sel (decide (v2 ≤ v2))
 (sel (decide (v2 ≤ 281474976710656))
 (sel (decide ((↑8 : Int) * v2 ≤ 281474976710656))
 (letV (List.replicate (Int.toNat v2) 0) (fun (v3 : List Int) =>
 K0 0 v0 (Int.toNat v2) v3))
 (none))
 (none))
 (none))
 (none))
noncomputable def bits_New_j4 {R : Type} := shut (@bits_New_j4_B R)
theorem bits_New_j4_unf {R : Type} : @bits_New_j4 R = @bits_New_j4_B R := shut_eq _

noncomputable def bits_New_B {R : Type} (v0 : Int) (K0 : Int → List Int → Int → Option R) : Option R :=
 sel (decide (v0 < 0))
 (bits_New_j3 v0 true 0
 (fun v1 v2 => K0 v2 [] v1)
 (fun v3 v4 => bits_New_j4 v3 v4
 (fun v5 v6 v7 v8 => sel (decide (v7 = List.length v8))
 (K0 v6 v8 v5)
 (sel (decide (0 + v7 ≤ List.length v8))
 (K0 v6 (List.take v7 (List.drop 0 v8)) v5)
 (none)))))
 (bits_New_j3 v0 (decide (1048576 < v0)) 0
 (fun v9 va => K0 va [] v9)
 (fun vb vc => bits_New_j4 vb vc
 (fun vd ve vf vg => sel (decide (vf = List.length vg))
 (K0 ve vg vd)
 (sel (decide (0 + vf ≤ List.length vg))
 (K0 ve (List.take vf (List.drop 0 vg)) vd)
 (none)))))
noncomputable def bits_New {R : Type} := shut (@bits_New_B R)
theorem bits_New_unf {R : Type} : @bits_New R = @bits_New_B R := shut_eq _

noncomputable def bits_Check_j4_1_B {R : Type} (v0 : Int) (v1 : List Int) (K0 : Bool → Option R) : Option R :=
 sel (decide (remW v0 64 = 0))
 (K0 true)
 (sel (decide (0 ≤ subW .i64 (↑(List.length v1) : Int) 1))
 (sel (decide (subW .i64 (↑(List.length v1) : Int) 1 < (↑(List.length v1) : Int)))
 (word_Mask (remW v0 64)
 (fun v2 => letV (decide (andNotW .u64 (List.getD v1 (Int.toNat (subW .i64 (↑(List.length v1) : Int) 1)) 0) v2 = 0)) (fun (v3 : Bool) =>
 K0 v3)))
 (none))
 (none))
noncomputable def bits_Check_j4_1 {R : Type} := shut (@bits_Check_j4_1_B R)
theorem bits_Check_j4_1_unf {R : Type} : @bits_Check_j4_1 R = @bits_Check_j4_1_B R := shut_eq _

noncomputable def bits_Check_B {R : Type} (v0 : Int) (v1 : List Int) (K0 : Bool → Option R) : Option R :=
 sel (decide (v0 < 0))
 (K0 false)
 (sel (decide (1048576 < v0))
 (K0 false)
 (bits_words v0
 (fun v2 => sel (!decide ((↑(List.length v1) : Int) = v2))
 (K0 false)
 (bits_Check_j4_1 v0 v1
 (fun v3 => K0 v3)))))
noncomputable def bits_Check {R : Type} := shut (@bits_Check_B R)
theorem bits_Check_unf {R : Type} : @bits_Check R = @bits_Check_B R := shut_eq _

noncomputable def bits_Append_j3_B {R : Type} (v0 v1 : Int) (v2 : Bool) (v3 : Int) (v4 : List Int) (v5 : Int) (K0 : Int → Int → List Int → Option R) (K1 : Int → Int → Int → List Int → Int → Option R) : Option R :=
 sel v2
 (K0 2 v3 v4)
 (K1 v0 v1 v3 v4 v5)
noncomputable def bits_Append_j3 {R : Type} := shut (@bits_Append_j3_B R)
theorem bits_Append_j3_unf {R : Type} : @bits_Append_j3 R = @bits_Append_j3_B R := shut_eq _

noncomputable def bits_own_r_B {R : Type} (_v0 : Int) (v1 : List Int) (v2 : Int) (K0 : Int → Nat → List Int → Option R) : Option R :=
 bits_words v2
 (fun v3 => sel (decide (0 ≤ v3))
 (sel (decide (v3 ≤ v3))
 (sel (decide (v3 ≤ 281474976710656))
 (sel (decide ((↑8 : Int) * v3 ≤ 281474976710656))
 (letV (List.replicate (Int.toNat v3) 0) (fun (v4 : List Int) =>
 sel (decide (0 + Int.toNat v3 ≤ List.length v4))
 (sel (decide (List.length v1 ≤ Int.toNat v3))
 (sel (decide (0 + List.length v1 ≤ List.length v4))
 (letV (List.take 0 v4 ++ (v1 ++ List.drop (0 + List.length v1) v4)) (fun (v5 : List Int) =>
 K0 v2 (Int.toNat v3) v5))
 (none))
 (sel (decide (0 + Int.toNat v3 ≤ List.length v1))
 (sel (decide (0 + List.length (List.take (Int.toNat v3) (List.drop 0 v1)) ≤ List.length v4))
 (letV (List.take 0 v4 ++ (List.take (Int.toNat v3) (List.drop 0 v1) ++ List.drop (0 + List.length (List.take (Int.toNat v3) (List.drop 0 v1))) v4)) (fun (v6 : List Int) =>
 K0 v2 (Int.toNat v3) v6))
 (none))
 (none)))
 (none)))
 (none))
 (none))
 (none))
 (none))
noncomputable def bits_own_r {R : Type} := shut (@bits_own_r_B R)
theorem bits_own_r_unf {R : Type} : @bits_own_r R = @bits_own_r_B R := shut_eq _

noncomputable def bits_fill_j6_B {R : Type} (v0 v1 v2 : Int) (v3 : Bool) (v4 : List Int) (_v5 : Int) (v6 : Nat) (K0 : List Int → Option R) : Option R :=
 sel v3
 (sel (decide (0 ≤ addW .i64 v1 1))
 (sel (decide (addW .i64 v1 1 < (↑v6 : Int)))
 (sel (decide (Int.toNat (addW .i64 v1 1) < List.length v4))
 (sel (decide (0 ≤ subW .i64 64 v2))
 (sel (decide (0 ≤ addW .i64 v1 1))
 (sel (decide (addW .i64 v1 1 < (↑v6 : Int)))
 (sel (decide (Int.toNat (addW .i64 v1 1) < List.length v4))
 (letV (List.set v4 (Int.toNat (addW .i64 v1 1)) (orW .u64 (List.getD v4 (Int.toNat (addW .i64 v1 1)) 0) (shrW .u64 v0 (subW .i64 64 v2)))) (fun (v7 : List Int) =>
 K0 v7))
 (none))
 (none))
 (none))
 (none))
 (none))
 (none))
 (none))
 (K0 v4)
noncomputable def bits_fill_j6 {R : Type} := shut (@bits_fill_j6_B R)
theorem bits_fill_j6_unf {R : Type} : @bits_fill_j6 R = @bits_fill_j6_B R := shut_eq _

noncomputable def bits_fill_j5_B {R : Type} (v0 v1 v2 : Int) (v3 : List Int) (v4 : Int) (v5 : Nat) (K0 : List Int → Option R) : Option R :=
 sel (decide (0 < v2))
 (bits_fill_j6 v0 v1 v2 (decide (addW .i64 v1 1 < (↑v5 : Int))) v3 v4 v5
 (fun v6 => K0 v6))
 (bits_fill_j6 v0 v1 v2 false v3 v4 v5
 (fun v7 => K0 v7))
noncomputable def bits_fill_j5 {R : Type} := shut (@bits_fill_j5_B R)
theorem bits_fill_j5_unf {R : Type} : @bits_fill_j5 R = @bits_fill_j5_B R := shut_eq _

noncomputable def bits_fill_r_B {R : Type} (v0 : Int) (v1 : Nat) (v2 v3 : Int) (v4 : List Int) (K0 : List Int → Option R) : Option R :=
 sel (decide (quoW .i64 v2 64 < (↑v1 : Int)))
 (sel (decide (0 ≤ quoW .i64 v2 64))
 (sel (decide (quoW .i64 v2 64 < (↑v1 : Int)))
 (sel (decide (Int.toNat (quoW .i64 v2 64) < List.length v4))
 (sel (decide (0 ≤ remW v2 64))
 (sel (decide (0 ≤ quoW .i64 v2 64))
 (sel (decide (quoW .i64 v2 64 < (↑v1 : Int)))
 (sel (decide (Int.toNat (quoW .i64 v2 64) < List.length v4))
 (letV (List.set v4 (Int.toNat (quoW .i64 v2 64)) (orW .u64 (List.getD v4 (Int.toNat (quoW .i64 v2 64)) 0) (shlW .u64 v3 (remW v2 64)))) (fun (v5 : List Int) =>
 bits_fill_j5 v3 (quoW .i64 v2 64) (remW v2 64) v5 v0 v1
 (fun v6 => K0 v6)))
 (none))
 (none))
 (none))
 (none))
 (none))
 (none))
 (none))
 (bits_fill_j5 v3 (quoW .i64 v2 64) (remW v2 64) v4 v0 v1
 (fun v7 => K0 v7))
noncomputable def bits_fill_r {R : Type} := shut (@bits_fill_r_B R)
theorem bits_fill_r_unf {R : Type} : @bits_fill_r R = @bits_fill_r_B R := shut_eq _

noncomputable def bits_Append_j4_B {R : Type} (v0 v1 v2 : Int) (v3 : List Int) (_v4 : Int) (K0 : Int → Int → Nat → List Int → Option R) : Option R :=
 bits_own_r v2 v3 (addW .i64 v2 v1)
 (fun v5 v6 v7 => word_Mask v1
 (fun v8 => bits_fill_r v5 v6 v2 (andW .u64 v0 v8) v7
 (fun v9 => K0 0 v5 v6 v9)))
noncomputable def bits_Append_j4 {R : Type} := shut (@bits_Append_j4_B R)
theorem bits_Append_j4_unf {R : Type} : @bits_Append_j4 R = @bits_Append_j4_B R := shut_eq _

noncomputable def bits_Append_B {R : Type} (v0 : Int) (v1 : List Int) (v2 v3 : Int) (K0 : Int → List Int → Int → Option R) : Option R :=
 bits_Check v0 v1
 (fun v4 => sel (!v4)
 (bits_Append_j3 v2 v3 true v0 v1 0
 (fun v5 v6 v7 => K0 v6 v7 v5)
 (fun v8 v9 va vb vc => bits_Append_j4 v8 v9 va vb vc
 (fun vd ve vf vg => sel (decide (vf = List.length vg))
 (K0 ve vg vd)
 (sel (decide (0 + vf ≤ List.length vg))
 (K0 ve (List.take vf (List.drop 0 vg)) vd)
 (none)))))
 (sel (decide (v3 < 0))
 (bits_Append_j3 v2 v3 true v0 v1 0
 (fun vh vi vj => K0 vi vj vh)
 (fun vk vl vm vn vo => bits_Append_j4 vk vl vm vn vo
 (fun vp vq vr vs => sel (decide (vr = List.length vs))
 (K0 vq vs vp)
 (sel (decide (0 + vr ≤ List.length vs))
 (K0 vq (List.take vr (List.drop 0 vs)) vp)
 (none)))))
 (sel (decide (64 < v3))
 (bits_Append_j3 v2 v3 true v0 v1 0
 (fun vt vu vv => K0 vu vv vt)
 (fun vw vx vy vz v10 => bits_Append_j4 vw vx vy vz v10
 (fun v11 v12 v13 v14 => sel (decide (v13 = List.length v14))
 (K0 v12 v14 v11)
 (sel (decide (0 + v13 ≤ List.length v14))
 (K0 v12 (List.take v13 (List.drop 0 v14)) v11)
 (none)))))
 (bits_Append_j3 v2 v3 (decide (subW .i64 1048576 v0 < v3)) v0 v1 0
 (fun v15 v16 v17 => K0 v16 v17 v15)
 (fun v18 v19 v1a v1b v1c => bits_Append_j4 v18 v19 v1a v1b v1c
 (fun v1d v1e v1f v1g => sel (decide (v1f = List.length v1g))
 (K0 v1e v1g v1d)
 (sel (decide (0 + v1f ≤ List.length v1g))
 (K0 v1e (List.take v1f (List.drop 0 v1g)) v1d)
 (none))))))))
noncomputable def bits_Append {R : Type} := shut (@bits_Append_B R)
theorem bits_Append_unf {R : Type} : @bits_Append R = @bits_Append_B R := shut_eq _

noncomputable def ints_Make_l6_T {R : Type} (rec : Int → Nat → Nat → Int → Int → List Int → Int → Int → Int → Int → List Int → Option R) (v0 : Int) (v1 v2 : Nat) (v3 v4 : Int) (v5 : List Int) (v6 v7 v8 v9 : Int) (va : List Int) (K0 : Int → Nat → List Int → Int → Int → Int → Int → List Int → Option R) : Option R :=
 sel (decide (v4 < v3))
 (sel (decide (0 ≤ v4))
 (sel (decide (v4 < (↑v2 : Int)))
 (sel (decide (Int.toNat v4 < List.length v5))
 (bits_Append v9 va (List.getD v5 (Int.toNat v4) 0) v0
 (fun vb vc _ => rec v0 v1 v2 v3 (addW .i64 v4 1) v5 v6 v7 v8 vb vc))
 (none))
 (none))
 (none))
 (K0 v0 v1 v5 v6 v7 v8 v9 va)
noncomputable def ints_Make_l6_L {R : Type} (K0 : Int → Nat → List Int → Int → Int → Int → Int → List Int → Option R) : Nat → Int → Nat → Nat → Int → Int → List Int → Int → Int → Int → Int → List Int → Option R
 | 0, _, _, _, _, _, _, _, _, _, _, _ => none
 | N + 1, v0, v1, v2, v3, v4, v5, v6, v7, v8, v9, va => ints_Make_l6_T (ints_Make_l6_L K0 N) v0 v1 v2 v3 v4 v5 v6 v7 v8 v9 va K0
noncomputable def ints_Make_l6_B {R : Type} (v0 : Int) (v1 v2 : Nat) (v3 v4 : Int) (v5 : List Int) (v6 v7 v8 v9 : Int) (va : List Int) (K0 : Int → Nat → List Int → Int → Int → Int → Int → List Int → Option R) : Option R :=
 ints_Make_l6_L K0 NR v0 v1 v2 v3 v4 v5 v6 v7 v8 v9 va
noncomputable def ints_Make_l6 {R : Type} := shut (@ints_Make_l6_B R)
theorem ints_Make_l6_unf {R : Type} : @ints_Make_l6 R = @ints_Make_l6_B R := shut_eq _

noncomputable def ints_Make_j4_B {R : Type} (v0 : Int) (v1 : Nat) (v2 : List Int) (v3 v4 v5 : Int) (K0 : Int → List Int → Int → Int → Int → List Int → Option R) : Option R :=
 bits_New 0
 (fun v6 v7 _ => ints_Make_l6 v0 v1 v1 ((↑v1 : Int)) 0 v2 v3 v4 v5 v6 v7
 (fun v9 va vb _ _ _ vf vg => K0 0 vb ((↑va : Int)) v9 vf vg))
noncomputable def ints_Make_j4 {R : Type} := shut (@ints_Make_j4_B R)
theorem ints_Make_j4_unf {R : Type} : @ints_Make_j4 R = @ints_Make_j4_B R := shut_eq _

noncomputable def ints_width_l4_T {R : Type} (rec : Int → Nat → Int → Int → List Int → Option R) (v0 : Int) (v1 : Nat) (v2 v3 : Int) (v4 : List Int) (K0 : Int → List Int → Option R) : Option R :=
 sel (decide (v3 < v2))
 (sel (decide (0 ≤ v3))
 (sel (decide (v3 < (↑v1 : Int)))
 (sel (decide (Int.toNat v3 < List.length v4))
 (word_Len (List.getD v4 (Int.toNat v3) 0)
 (fun v5 => rec (max2 v0 v5) v1 v2 (addW .i64 v3 1) v4))
 (none))
 (none))
 (none))
 (K0 v0 v4)
noncomputable def ints_width_l4_L {R : Type} (K0 : Int → List Int → Option R) : Nat → Int → Nat → Int → Int → List Int → Option R
 | 0, _, _, _, _, _ => none
 | N + 1, v0, v1, v2, v3, v4 => ints_width_l4_T (ints_width_l4_L K0 N) v0 v1 v2 v3 v4 K0
noncomputable def ints_width_l4_B {R : Type} (v0 : Int) (v1 : Nat) (v2 v3 : Int) (v4 : List Int) (K0 : Int → List Int → Option R) : Option R :=
 ints_width_l4_L K0 NR v0 v1 v2 v3 v4
noncomputable def ints_width_l4 {R : Type} := shut (@ints_width_l4_B R)
theorem ints_width_l4_unf {R : Type} : @ints_width_l4 R = @ints_width_l4_B R := shut_eq _

noncomputable def ints_width_r_B {R : Type} (v0 : Nat) (v1 : List Int) (K0 : Int → List Int → Option R) : Option R :=
 ints_width_l4 1 v0 ((↑v0 : Int)) 0 v1
 (fun v2 v3 => K0 v2 v3)
noncomputable def ints_width_r {R : Type} := shut (@ints_width_r_B R)
theorem ints_width_r_unf {R : Type} : @ints_width_r R = @ints_width_r_B R := shut_eq _

noncomputable def ints_Make_r_B {R : Type} (v0 : Int) (v1 : Nat) (v2 : List Int) (K0 : Int → Int → Int → Int → List Int → Option R) (K1 : Int → Int → Int → List Int → Int → List Int → Option R) : Option R :=
 sel (decide (v0 < 1))
 (ints_Make_j3 v0 v1 true v2 0 0 0
 (fun v3 v4 v5 v6 v7 => K0 v5 v6 v7 v3 v4)
 (fun v8 v9 va vb vc vd => ints_Make_j4 v8 v9 va vb vc vd
 (fun ve vf vg vh vi vj => K1 vg vh vi vj ve vf)))
 (sel (decide (64 < v0))
 (ints_Make_j3 v0 v1 true v2 0 0 0
 (fun vk vl vm vn vo => K0 vm vn vo vk vl)
 (fun vp vq vr vs vt vu => ints_Make_j4 vp vq vr vs vt vu
 (fun vv vw vx vy vz v10 => K1 vx vy vz v10 vv vw)))
 (sel (decide (v0 = 0))
 (none)
 (sel (decide (quoW .i64 1048576 v0 < (↑v1 : Int)))
 (ints_Make_j3 v0 v1 true v2 0 0 0
 (fun v11 v12 v13 v14 v15 => K0 v13 v14 v15 v11 v12)
 (fun v16 v17 v18 v19 v1a v1b => ints_Make_j4 v16 v17 v18 v19 v1a v1b
 (fun v1c v1d v1e v1f v1g v1h => K1 v1e v1f v1g v1h v1c v1d)))
 (ints_width_r v1 v2
 (fun v1i v1j => ints_Make_j3 v0 v1 (decide (v0 < v1i)) v1j 0 0 0
 (fun v1k v1l v1m v1n v1o => K0 v1m v1n v1o v1k v1l)
 (fun v1p v1q v1r v1s v1t v1u => ints_Make_j4 v1p v1q v1r v1s v1t v1u
 (fun v1v v1w v1x v1y v1z v20 => K1 v1x v1y v1z v20 v1v v1w)))))))
noncomputable def ints_Make_r {R : Type} := shut (@ints_Make_r_B R)
theorem ints_Make_r_unf {R : Type} : @ints_Make_r R = @ints_Make_r_B R := shut_eq _

noncomputable def bits_New_r_B {R : Type} (v0 : Int) (K0 : Int → Int → Option R) (K1 : Int → Nat → Int → List Int → Option R) : Option R :=
 sel (decide (v0 < 0))
 (bits_New_j3 v0 true 0
 (fun v1 v2 => K0 v2 v1)
 (fun v3 v4 => bits_New_j4 v3 v4
 (fun v5 v6 v7 v8 => K1 v6 v7 v5 v8)))
 (bits_New_j3 v0 (decide (1048576 < v0)) 0
 (fun v9 va => K0 va v9)
 (fun vb vc => bits_New_j4 vb vc
 (fun vd ve vf vg => K1 ve vf vd vg)))
noncomputable def bits_New_r {R : Type} := shut (@bits_New_r_B R)
theorem bits_New_r_unf {R : Type} : @bits_New_r R = @bits_New_r_B R := shut_eq _

noncomputable def bits_From_l6_T {R : Type} (rec : Nat → Int → Int → List Bool → Int → Int → Option R) (v0 : Nat) (v1 v2 : Int) (v3 : List Bool) (v4 v5 : Int) (K0 : List Bool → Int → Int → Option R) : Option R :=
 sel (decide (v2 < v1))
 (sel (decide (0 ≤ v2))
 (sel (decide (v2 < (↑v0 : Int)))
 (sel (decide (Int.toNat v2 < List.length v3))
 (sel (List.getD v3 (Int.toNat v2) false)
 (none)
 (rec v0 v1 (addW .i64 v2 1) v3 v4 v5))
 (none))
 (none))
 (none))
 (K0 v3 v4 v5)
noncomputable def bits_From_l6_L {R : Type} (K0 : List Bool → Int → Int → Option R) : Nat → Nat → Int → Int → List Bool → Int → Int → Option R
 | 0, _, _, _, _, _, _ => none
 | N + 1, v0, v1, v2, v3, v4, v5 => bits_From_l6_T (bits_From_l6_L K0 N) v0 v1 v2 v3 v4 v5 K0
noncomputable def bits_From_l6_B {R : Type} (v0 : Nat) (v1 v2 : Int) (v3 : List Bool) (v4 v5 : Int) (K0 : List Bool → Int → Int → Option R) : Option R :=
 bits_From_l6_L K0 NR v0 v1 v2 v3 v4 v5
noncomputable def bits_From_l6 {R : Type} := shut (@bits_From_l6_B R)
theorem bits_From_l6_unf {R : Type} : @bits_From_l6 R = @bits_From_l6_B R := shut_eq _

noncomputable def bits_From_l6_1_T {R : Type} (rec : Nat → Int → Int → List Bool → Int → Int → Nat → List Int → Option R) (v0 : Nat) (v1 v2 : Int) (v3 : List Bool) (v4 v5 : Int) (v6 : Nat) (v7 : List Int) (K0 : List Bool → Int → Int → Nat → List Int → Option R) : Option R :=
 sel (decide (v2 < v1))
 (sel (decide (0 ≤ v2))
 (sel (decide (v2 < (↑v0 : Int)))
 (sel (decide (Int.toNat v2 < List.length v3))
 (sel (List.getD v3 (Int.toNat v2) false)
 (sel (decide (0 ≤ quoW .i64 v2 64))
 (sel (decide (quoW .i64 v2 64 < (↑v6 : Int)))
 (sel (decide (Int.toNat (quoW .i64 v2 64) < List.length v7))
 (sel (decide (0 ≤ remW v2 64))
 (sel (decide (0 ≤ quoW .i64 v2 64))
 (sel (decide (quoW .i64 v2 64 < (↑v6 : Int)))
 (sel (decide (Int.toNat (quoW .i64 v2 64) < List.length v7))
 (letV (List.set v7 (Int.toNat (quoW .i64 v2 64)) (orW .u64 (List.getD v7 (Int.toNat (quoW .i64 v2 64)) 0) (shlW .u64 1 (remW v2 64)))) (fun (v8 : List Int) =>
 rec v0 v1 (addW .i64 v2 1) v3 v4 v5 v6 v8))
 (none))
 (none))
 (none))
 (none))
 (none))
 (none))
 (none))
 (rec v0 v1 (addW .i64 v2 1) v3 v4 v5 v6 v7))
 (none))
 (none))
 (none))
 (K0 v3 v4 v5 v6 v7)
noncomputable def bits_From_l6_1_L {R : Type} (K0 : List Bool → Int → Int → Nat → List Int → Option R) : Nat → Nat → Int → Int → List Bool → Int → Int → Nat → List Int → Option R
 | 0, _, _, _, _, _, _, _, _ => none
 | N + 1, v0, v1, v2, v3, v4, v5, v6, v7 => bits_From_l6_1_T (bits_From_l6_1_L K0 N) v0 v1 v2 v3 v4 v5 v6 v7 K0
noncomputable def bits_From_l6_1_B {R : Type} (v0 : Nat) (v1 v2 : Int) (v3 : List Bool) (v4 v5 : Int) (v6 : Nat) (v7 : List Int) (K0 : List Bool → Int → Int → Nat → List Int → Option R) : Option R :=
 bits_From_l6_1_L K0 NR v0 v1 v2 v3 v4 v5 v6 v7
noncomputable def bits_From_l6_1 {R : Type} := shut (@bits_From_l6_1_B R)
theorem bits_From_l6_1_unf {R : Type} : @bits_From_l6_1 R = @bits_From_l6_1_B R := shut_eq _

noncomputable def bits_From_r_B {R : Type} (v0 : Nat) (v1 : List Bool) (K0 : Int → Int → List Bool → Option R) (K1 : Int → Nat → Int → List Bool → List Int → Option R) : Option R :=
 bits_New_r ((↑v0 : Int))
 (fun v2 v3 => sel (!decide (v3 = 0))
 (K0 v2 v3 v1)
 (bits_From_l6 v0 ((↑v0 : Int)) 0 v1 0 v2
 (fun v4 _ v6 => K0 v6 0 v4)))
 (fun v7 v8 v9 va => sel (!decide (v9 = 0))
 (K1 v7 v8 v9 v1 va)
 (bits_From_l6_1 v0 ((↑v0 : Int)) 0 v1 0 v7 v8 va
 (fun vb _ vd ve vf => K1 vd ve 0 vb vf)))
noncomputable def bits_From_r {R : Type} := shut (@bits_From_r_B R)
theorem bits_From_r_unf {R : Type} : @bits_From_r R = @bits_From_r_B R := shut_eq _

noncomputable def fano_Build_j14_B {R : Type} (v0 : Bool) (v1 : List Int) (v2 v3 v4 v5 v6 v7 v8 v9 va vb vc vd : Int) (K0 : Int → List Int → Int → Int → Int → Int → Int → Int → Option R) (K1 : List Int → Int → Int → Int → Int → Int → Int → Int → Int → Int → Int → Int → Int → Option R) : Option R :=
 sel v0
 (K0 2 v1 0 0 0 0 0 0)
 (K1 v1 v2 v3 v4 v5 v6 v7 v8 v9 va vb vc vd)
noncomputable def fano_Build_j14 {R : Type} := shut (@fano_Build_j14_B R)
theorem fano_Build_j14_unf {R : Type} : @fano_Build_j14 R = @fano_Build_j14_B R := shut_eq _

noncomputable def fano_Build_j14_1_B {R : Type} (v0 : Bool) (v1 : List Int) (v2 v3 v4 v5 v6 v7 v8 v9 va vb vc vd : Int) (ve : Nat) (vf : List Int) (K0 : Int → List Int → Int → Int → Int → Int → Int → Int → Option R) (K1 : List Int → Int → Int → Int → Int → Int → Int → Int → Int → Int → Int → Int → Int → Nat → List Int → Option R) : Option R :=
 sel v0
 (K0 2 v1 0 0 0 0 0 0)
 (K1 v1 v2 v3 v4 v5 v6 v7 v8 v9 va vb vc vd ve vf)
noncomputable def fano_Build_j14_1 {R : Type} := shut (@fano_Build_j14_1_B R)
theorem fano_Build_j14_1_unf {R : Type} : @fano_Build_j14_1 R = @fano_Build_j14_1_B R := shut_eq _

noncomputable def fano_Build_j14_2_B {R : Type} (v0 : Bool) (v1 : List Int) (v2 v3 v4 v5 v6 v7 v8 v9 va vb vc : Int) (vd : List Int) (ve : Int) (K0 : Int → List Int → Int → Int → Int → Int → Int → Int → Option R) (K1 : List Int → Int → Int → Int → Int → Int → Int → Int → Int → Int → Int → Int → List Int → Int → Option R) : Option R :=
 sel v0
 (K0 2 v1 0 0 0 0 0 0)
 (K1 v1 v2 v3 v4 v5 v6 v7 v8 v9 va vb vc vd ve)
noncomputable def fano_Build_j14_2 {R : Type} := shut (@fano_Build_j14_2_B R)
theorem fano_Build_j14_2_unf {R : Type} : @fano_Build_j14_2 R = @fano_Build_j14_2_B R := shut_eq _

noncomputable def fano_Build_j14_3_B {R : Type} (v0 : Bool) (v1 : List Int) (v2 v3 v4 v5 v6 v7 v8 v9 va vb vc : Int) (vd : List Int) (ve : Int) (vf : Nat) (vg : List Int) (K0 : Int → List Int → Int → Int → Int → Int → Int → Int → Option R) (K1 : List Int → Int → Int → Int → Int → Int → Int → Int → Int → Int → Int → Int → List Int → Int → Nat → List Int → Option R) : Option R :=
 sel v0
 (K0 2 v1 0 0 0 0 0 0)
 (K1 v1 v2 v3 v4 v5 v6 v7 v8 v9 va vb vc vd ve vf vg)
noncomputable def fano_Build_j14_3 {R : Type} := shut (@fano_Build_j14_3_B R)
theorem fano_Build_j14_3_unf {R : Type} : @fano_Build_j14_3 R = @fano_Build_j14_3_B R := shut_eq _

noncomputable def ints_Make_j3_1_B {R : Type} (v0 : Int) (v1 : List Int) (v2 : Bool) (v3 v4 v5 : Int) (K0 : Int → Int → Int → Int → Option R) (K1 : Int → List Int → Int → Int → Int → Option R) : Option R :=
 sel v2
 (K0 2 0 0 0)
 (K1 v0 v1 v3 v4 v5)
noncomputable def ints_Make_j3_1 {R : Type} := shut (@ints_Make_j3_1_B R)
theorem ints_Make_j3_1_unf {R : Type} : @ints_Make_j3_1 R = @ints_Make_j3_1_B R := shut_eq _

noncomputable def ints_Make_l6_1_T {R : Type} (rec : Int → List Int → List Int → Int → Int → Int → Int → Int → Int → List Int → Option R) (v0 : Int) (v1 v2 : List Int) (v3 v4 v5 v6 v7 v8 : Int) (v9 : List Int) (K0 : Int → List Int → Int → Int → Int → Int → List Int → Option R) : Option R :=
 sel (decide (v4 < v3))
 (sel (decide (0 ≤ v4))
 (sel (decide (v4 < (↑(List.length v2) : Int)))
 (bits_Append v8 v9 (List.getD v2 (Int.toNat v4) 0) v0
 (fun va vb _ => rec v0 v1 v2 v3 (addW .i64 v4 1) v5 v6 v7 va vb))
 (none))
 (none))
 (K0 v0 v1 v5 v6 v7 v8 v9)
noncomputable def ints_Make_l6_1_L {R : Type} (K0 : Int → List Int → Int → Int → Int → Int → List Int → Option R) : Nat → Int → List Int → List Int → Int → Int → Int → Int → Int → Int → List Int → Option R
 | 0, _, _, _, _, _, _, _, _, _, _ => none
 | N + 1, v0, v1, v2, v3, v4, v5, v6, v7, v8, v9 => ints_Make_l6_1_T (ints_Make_l6_1_L K0 N) v0 v1 v2 v3 v4 v5 v6 v7 v8 v9 K0
noncomputable def ints_Make_l6_1_B {R : Type} (v0 : Int) (v1 v2 : List Int) (v3 v4 v5 v6 v7 v8 : Int) (v9 : List Int) (K0 : Int → List Int → Int → Int → Int → Int → List Int → Option R) : Option R :=
 ints_Make_l6_1_L K0 NR v0 v1 v2 v3 v4 v5 v6 v7 v8 v9
noncomputable def ints_Make_l6_1 {R : Type} := shut (@ints_Make_l6_1_B R)
theorem ints_Make_l6_1_unf {R : Type} : @ints_Make_l6_1 R = @ints_Make_l6_1_B R := shut_eq _

noncomputable def ints_Make_j4_1_B {R : Type} (v0 : Int) (v1 : List Int) (v2 v3 v4 : Int) (K0 : Int → Int → Int → Int → List Int → Option R) : Option R :=
 bits_New 0
 (fun v5 v6 _ => ints_Make_l6_1 v0 v1 v1 ((↑(List.length v1) : Int)) 0 v2 v3 v4 v5 v6
 (fun v8 v9 _ _ _ vd ve => K0 0 ((↑(List.length v9) : Int)) v8 vd ve))
noncomputable def ints_Make_j4_1 {R : Type} := shut (@ints_Make_j4_1_B R)
theorem ints_Make_j4_1_unf {R : Type} : @ints_Make_j4_1 R = @ints_Make_j4_1_B R := shut_eq _

noncomputable def ints_width_l4_1_T {R : Type} (rec : Int → List Int → Int → Int → Option R) (v0 : Int) (v1 : List Int) (v2 v3 : Int) (K0 : Int → Option R) : Option R :=
 sel (decide (v3 < v2))
 (sel (decide (0 ≤ v3))
 (sel (decide (v3 < (↑(List.length v1) : Int)))
 (word_Len (List.getD v1 (Int.toNat v3) 0)
 (fun v4 => rec (max2 v0 v4) v1 v2 (addW .i64 v3 1)))
 (none))
 (none))
 (K0 v0)
noncomputable def ints_width_l4_1_L {R : Type} (K0 : Int → Option R) : Nat → Int → List Int → Int → Int → Option R
 | 0, _, _, _, _ => none
 | N + 1, v0, v1, v2, v3 => ints_width_l4_1_T (ints_width_l4_1_L K0 N) v0 v1 v2 v3 K0
noncomputable def ints_width_l4_1_B {R : Type} (v0 : Int) (v1 : List Int) (v2 v3 : Int) (K0 : Int → Option R) : Option R :=
 ints_width_l4_1_L K0 NR v0 v1 v2 v3
noncomputable def ints_width_l4_1 {R : Type} := shut (@ints_width_l4_1_B R)
theorem ints_width_l4_1_unf {R : Type} : @ints_width_l4_1 R = @ints_width_l4_1_B R := shut_eq _

noncomputable def ints_width_B {R : Type} (v0 : List Int) (K0 : Int → Option R) : Option R :=
 ints_width_l4_1 1 v0 ((↑(List.length v0) : Int)) 0
 (fun v1 => K0 v1)
noncomputable def ints_width {R : Type} := shut (@ints_width_B R)
theorem ints_width_unf {R : Type} : @ints_width R = @ints_width_B R := shut_eq _

noncomputable def ints_Make_B {R : Type} (v0 : Int) (v1 : List Int) (K0 : Int → Int → Int → List Int → Int → Option R) : Option R :=
 sel (decide (v0 < 1))
 (ints_Make_j3_1 v0 v1 true 0 0 0
 (fun v2 v3 v4 v5 => K0 v3 v4 v5 [] v2)
 (fun v6 v7 v8 v9 va => ints_Make_j4_1 v6 v7 v8 v9 va
 (fun vb vc vd ve vf => K0 vc vd ve vf vb)))
 (sel (decide (64 < v0))
 (ints_Make_j3_1 v0 v1 true 0 0 0
 (fun vg vh vi vj => K0 vh vi vj [] vg)
 (fun vk vl vm vn vo => ints_Make_j4_1 vk vl vm vn vo
 (fun vp vq vr vs vt => K0 vq vr vs vt vp)))
 (sel (decide (v0 = 0))
 (none)
 (sel (decide (quoW .i64 1048576 v0 < (↑(List.length v1) : Int)))
 (ints_Make_j3_1 v0 v1 true 0 0 0
 (fun vu vv vw vx => K0 vv vw vx [] vu)
 (fun vy vz v10 v11 v12 => ints_Make_j4_1 vy vz v10 v11 v12
 (fun v13 v14 v15 v16 v17 => K0 v14 v15 v16 v17 v13)))
 (ints_width v1
 (fun v18 => ints_Make_j3_1 v0 v1 (decide (v0 < v18)) 0 0 0
 (fun v19 v1a v1b v1c => K0 v1a v1b v1c [] v19)
 (fun v1d v1e v1f v1g v1h => ints_Make_j4_1 v1d v1e v1f v1g v1h
 (fun v1i v1j v1k v1l v1m => K0 v1j v1k v1l v1m v1i)))))))
noncomputable def ints_Make {R : Type} := shut (@ints_Make_B R)
theorem ints_Make_unf {R : Type} : @ints_Make R = @ints_Make_B R := shut_eq _

noncomputable def fano_Build_r_B {R : Type} (v0 : Int) (v1 : Nat) (v2 : List Int) (K0 : Int → Int → Int → Int → Int → Int → Int → List Int → Option R) (K1 : Int → Int → Int → Int → Int → Int → Nat → Int → List Int → List Int → Option R) (K2 : Int → Int → Int → Int → Int → List Int → Int → Int → List Int → Option R) (K3 : Int → Int → Int → Int → Int → List Int → Int → Nat → Int → List Int → List Int → Option R) : Option R :=
 bits_Check_r v0 v1 v2
 (fun v3 v4 => sel (!v3)
 (K0 0 0 0 0 0 0 2 v4)
 (bits_Ones_r v0 v1 v0 v4
 (fun v5 v6 => fano_width v0 v5
 (fun v7 => sel (decide (0 ≤ v7))
 (sel (decide (0 ≤ addW .i64 (addW .i64 v5 (shrW .i64 v0 v7)) 1))
 (sel (decide (addW .i64 (addW .i64 v5 (shrW .i64 v0 v7)) 1 ≤ addW .i64 (addW .i64 v5 (shrW .i64 v0 v7)) 1))
 (sel (decide (addW .i64 (addW .i64 v5 (shrW .i64 v0 v7)) 1 ≤ 281474976710656))
 (sel (decide ((↑1 : Int) * addW .i64 (addW .i64 v5 (shrW .i64 v0 v7)) 1 ≤ 281474976710656))
 (letV (List.replicate (Int.toNat (addW .i64 (addW .i64 v5 (shrW .i64 v0 v7)) 1)) false) (fun (v8 : List Bool) =>
 fano_eachOne_r v0 v1 v6
 (fun v9 va vb => fano_eachOne_1_r (Int.toNat (addW .i64 (addW .i64 v5 (shrW .i64 v0 v7)) 1)) v8 v7 0 va vb v9
 (fun vc vd ve _ vg _ _ vj vk => ints_Make_r (max2 1 ve) vg vk
 (fun vl vm vn vo _ => bits_From_r vc vd
 (fun vq vr _ => sel (!decide (vo = 0))
 (fano_Build_j14 true vj 0 0 0 0 0 0 v0 v5 vl vm vn vq
 (fun vt vu vv vw vx vy vz v10 => K0 vv vw vx vy vz v10 vt vu)
 (fun v11 _ _ _ _ _ _ v18 v19 v1a v1b v1c v1d => K0 v18 v19 v1a v1b v1c v1d 0 v11))
 (fano_Build_j14 (!decide (vr = 0)) vj 0 0 0 0 0 0 v0 v5 vl vm vn vq
 (fun v1e v1f v1g v1h v1i v1j v1k v1l => K0 v1g v1h v1i v1j v1k v1l v1e v1f)
 (fun v1m _ _ _ _ _ _ v1t v1u v1v v1w v1x v1y => K0 v1t v1u v1v v1w v1x v1y 0 v1m)))
 (fun v1z v20 v21 _ v23 => sel (!decide (vo = 0))
 (fano_Build_j14_1 true vj 0 0 0 0 0 0 v0 v5 vl vm vn v1z v20 v23
 (fun v24 v25 v26 v27 v28 v29 v2a v2b => K0 v26 v27 v28 v29 v2a v2b v24 v25)
 (fun v2c _ _ _ _ _ _ v2j v2k v2l v2m v2n v2o v2p v2q => K1 v2j v2k v2l v2m v2n v2o v2p 0 v2c v2q))
 (fano_Build_j14_1 (!decide (v21 = 0)) vj 0 0 0 0 0 0 v0 v5 vl vm vn v1z v20 v23
 (fun v2r v2s v2t v2u v2v v2w v2x v2y => K0 v2t v2u v2v v2w v2x v2y v2r v2s)
 (fun v2z _ _ _ _ _ _ v36 v37 v38 v39 v3a v3b v3c v3d => K1 v36 v37 v38 v39 v3a v3b v3c 0 v2z v3d))))
 (fun v3e v3f v3g v3h v3i _ => bits_From_r vc vd
 (fun v3k v3l _ => sel (!decide (v3i = 0))
 (fano_Build_j14_2 true vj 0 0 0 0 0 0 v0 v5 v3e v3f v3g v3h v3k
 (fun v3n v3o v3p v3q v3r v3s v3t v3u => K0 v3p v3q v3r v3s v3t v3u v3n v3o)
 (fun v3v _ _ _ _ _ _ v42 v43 v44 v45 v46 v47 v48 => K2 v42 v43 v44 v45 v46 v47 v48 0 v3v))
 (fano_Build_j14_2 (!decide (v3l = 0)) vj 0 0 0 0 0 0 v0 v5 v3e v3f v3g v3h v3k
 (fun v49 v4a v4b v4c v4d v4e v4f v4g => K0 v4b v4c v4d v4e v4f v4g v49 v4a)
 (fun v4h _ _ _ _ _ _ v4o v4p v4q v4r v4s v4t v4u => K2 v4o v4p v4q v4r v4s v4t v4u 0 v4h)))
 (fun v4v v4w v4x _ v4z => sel (!decide (v3i = 0))
 (fano_Build_j14_3 true vj 0 0 0 0 0 0 v0 v5 v3e v3f v3g v3h v4v v4w v4z
 (fun v50 v51 v52 v53 v54 v55 v56 v57 => K0 v52 v53 v54 v55 v56 v57 v50 v51)
 (fun v58 _ _ _ _ _ _ v5f v5g v5h v5i v5j v5k v5l v5m v5n => K3 v5f v5g v5h v5i v5j v5k v5l v5m 0 v58 v5n))
 (fano_Build_j14_3 (!decide (v4x = 0)) vj 0 0 0 0 0 0 v0 v5 v3e v3f v3g v3h v4v v4w v4z
 (fun v5o v5p v5q v5r v5s v5t v5u v5v => K0 v5q v5r v5s v5t v5u v5v v5o v5p)
 (fun v5w _ _ _ _ _ _ v63 v64 v65 v66 v67 v68 v69 v6a v6b => K3 v63 v64 v65 v66 v67 v68 v69 v6a 0 v5w v6b)))))
 (fun v6c v6d v6e _ _ _ v6i => ints_Make (max2 1 v6e) []
 (fun v6j v6k v6l v6m v6n => bits_From_r v6c v6d
 (fun v6o v6p _ => sel (!decide (v6n = 0))
 (fano_Build_j14_2 true v6i 0 0 0 0 0 0 v0 v5 v6j v6k v6l v6m v6o
 (fun v6r v6s v6t v6u v6v v6w v6x v6y => K0 v6t v6u v6v v6w v6x v6y v6r v6s)
 (fun v6z _ _ _ _ _ _ v76 v77 v78 v79 v7a v7b v7c => K2 v76 v77 v78 v79 v7a v7b v7c 0 v6z))
 (fano_Build_j14_2 (!decide (v6p = 0)) v6i 0 0 0 0 0 0 v0 v5 v6j v6k v6l v6m v6o
 (fun v7d v7e v7f v7g v7h v7i v7j v7k => K0 v7f v7g v7h v7i v7j v7k v7d v7e)
 (fun v7l _ _ _ _ _ _ v7s v7t v7u v7v v7w v7x v7y => K2 v7s v7t v7u v7v v7w v7x v7y 0 v7l)))
 (fun v7z v80 v81 _ v83 => sel (!decide (v6n = 0))
 (fano_Build_j14_3 true v6i 0 0 0 0 0 0 v0 v5 v6j v6k v6l v6m v7z v80 v83
 (fun v84 v85 v86 v87 v88 v89 v8a v8b => K0 v86 v87 v88 v89 v8a v8b v84 v85)
 (fun v8c _ _ _ _ _ _ v8j v8k v8l v8m v8n v8o v8p v8q v8r => K3 v8j v8k v8l v8m v8n v8o v8p v8q 0 v8c v8r))
 (fano_Build_j14_3 (!decide (v81 = 0)) v6i 0 0 0 0 0 0 v0 v5 v6j v6k v6l v6m v7z v80 v83
 (fun v8s v8t v8u v8v v8w v8x v8y v8z => K0 v8u v8v v8w v8x v8y v8z v8s v8t)
 (fun v90 _ _ _ _ _ _ v97 v98 v99 v9a v9b v9c v9d v9e v9f => K3 v97 v98 v99 v9a v9b v9c v9d v9e 0 v90 v9f))))))))
 (none))
 (none))
 (none))
 (none))
 (none)))))
noncomputable def fano_Build_r {R : Type} := shut (@fano_Build_r_B R)
theorem fano_Build_r_unf {R : Type} : @fano_Build_r R = @fano_Build_r_B R := shut_eq _

noncomputable def fano_row_j3_B {R : Type} (v0 : Bool) (v1 v2 v3 v4 v5 : Int) (v6 : List Int) (v7 : Int) (v8 : List Int) (v9 : Int) (K0 : Bool → Int → Option R) (K1 : Int → Int → Int → Int → Int → List Int → Int → List Int → Int → Option R) : Option R :=
 sel v0
 (K0 false 0)
 (K1 v1 v2 v3 v4 v5 v6 v7 v8 v9)
noncomputable def fano_row_j3 {R : Type} := shut (@fano_row_j3_B R)
theorem fano_row_j3_unf {R : Type} : @fano_row_j3 R = @fano_row_j3_B R := shut_eq _

noncomputable def ints_Check_B {R : Type} (v0 v1 v2 : Int) (v3 : List Int) (K0 : Bool → Option R) : Option R :=
 sel (decide (1 ≤ v1))
 (sel (decide (v1 ≤ 64))
 (sel (decide (0 ≤ v0))
 (sel (decide (v0 ≤ 1048576))
 (bits_Check v2 v3
 (fun v4 => sel v4
 (K0 (decide (v2 = mulW .i64 v0 v1)))
 (K0 false)))
 (K0 false))
 (K0 false))
 (K0 false))
 (K0 false)
noncomputable def ints_Check {R : Type} := shut (@ints_Check_B R)
theorem ints_Check_unf {R : Type} : @ints_Check R = @ints_Check_B R := shut_eq _

noncomputable def bits_Slice_j5_B {R : Type} (v0 v1 : Int) (v2 : Bool) (v3 : Int) (v4 : List Int) (K0 : Int → Int → Option R) (K1 : Int → Int → Int → List Int → Option R) : Option R :=
 sel v2
 (K0 0 3)
 (sel (decide (v1 = 0))
 (K0 0 0)
 (K1 v0 v1 v3 v4))
noncomputable def bits_Slice_j5 {R : Type} := shut (@bits_Slice_j5_B R)
theorem bits_Slice_j5_unf {R : Type} : @bits_Slice_j5 R = @bits_Slice_j5_B R := shut_eq _

noncomputable def bits_Slice_j3_B {R : Type} (v0 v1 : Int) (v2 : Bool) (v3 : Int) (v4 : List Int) (K0 : Int → Int → Option R) (K1 : Int → Int → Int → List Int → Option R) : Option R :=
 sel v2
 (K0 0 2)
 (sel (decide (v0 < 0))
 (bits_Slice_j5 v0 v1 true v3 v4
 (fun v5 v6 => K0 v5 v6)
 (fun v7 v8 v9 va => K1 v7 v8 v9 va))
 (sel (decide (v3 < v0))
 (bits_Slice_j5 v0 v1 true v3 v4
 (fun vb vc => K0 vb vc)
 (fun vd ve vf vg => K1 vd ve vf vg))
 (bits_Slice_j5 v0 v1 (decide (subW .i64 v3 v0 < v1)) v3 v4
 (fun vh vi => K0 vh vi)
 (fun vj vk vl vm => K1 vj vk vl vm))))
noncomputable def bits_Slice_j3 {R : Type} := shut (@bits_Slice_j3_B R)
theorem bits_Slice_j3_unf {R : Type} : @bits_Slice_j3 R = @bits_Slice_j3_B R := shut_eq _

noncomputable def bits_Slice_j12_B {R : Type} (v0 v1 : Int) (K0 : Int → Int → Option R) : Option R :=
 word_Mask v0
 (fun v2 => K0 (andW .u64 v1 v2) 0)
noncomputable def bits_Slice_j12 {R : Type} := shut (@bits_Slice_j12_B R)
theorem bits_Slice_j12_unf {R : Type} : @bits_Slice_j12 R = @bits_Slice_j12_B R := shut_eq _

noncomputable def bits_Slice_j8_B {R : Type} (v0 v1 _v2 : Int) (v3 : List Int) (K0 : Int → Int → Option R) : Option R :=
 sel (decide (0 ≤ quoW .i64 v0 64))
 (sel (decide (quoW .i64 v0 64 < (↑(List.length v3) : Int)))
 (sel (decide (0 ≤ remW v0 64))
 (sel (decide (64 < addW .i64 (remW v0 64) v1))
 (sel (decide (0 ≤ addW .i64 (quoW .i64 v0 64) 1))
 (sel (decide (addW .i64 (quoW .i64 v0 64) 1 < (↑(List.length v3) : Int)))
 (sel (decide (0 ≤ subW .i64 64 (remW v0 64)))
 (letV (orW .u64 (shrW .u64 (List.getD v3 (Int.toNat (quoW .i64 v0 64)) 0) (remW v0 64)) (shlW .u64 (List.getD v3 (Int.toNat (addW .i64 (quoW .i64 v0 64) 1)) 0) (subW .i64 64 (remW v0 64)))) (fun (v4 : Int) =>
 bits_Slice_j12 v1 v4
 (fun v5 v6 => K0 v5 v6)))
 (none))
 (none))
 (none))
 (bits_Slice_j12 v1 (shrW .u64 (List.getD v3 (Int.toNat (quoW .i64 v0 64)) 0) (remW v0 64))
 (fun v7 v8 => K0 v7 v8)))
 (none))
 (none))
 (none)
noncomputable def bits_Slice_j8 {R : Type} := shut (@bits_Slice_j8_B R)
theorem bits_Slice_j8_unf {R : Type} : @bits_Slice_j8 R = @bits_Slice_j8_B R := shut_eq _

noncomputable def bits_Slice_B {R : Type} (v0 : Int) (v1 : List Int) (v2 v3 : Int) (K0 : Int → Int → Option R) : Option R :=
 bits_Check v0 v1
 (fun v4 => sel (!v4)
 (bits_Slice_j3 v2 v3 true v0 v1
 (fun v5 v6 => K0 v5 v6)
 (fun v7 v8 v9 va => bits_Slice_j8 v7 v8 v9 va
 (fun vb vc => K0 vb vc)))
 (sel (decide (v3 < 0))
 (bits_Slice_j3 v2 v3 true v0 v1
 (fun vd ve => K0 vd ve)
 (fun vf vg vh vi => bits_Slice_j8 vf vg vh vi
 (fun vj vk => K0 vj vk)))
 (bits_Slice_j3 v2 v3 (decide (64 < v3)) v0 v1
 (fun vl vm => K0 vl vm)
 (fun vn vo vp vq => bits_Slice_j8 vn vo vp vq
 (fun vr vs => K0 vr vs)))))
noncomputable def bits_Slice {R : Type} := shut (@bits_Slice_B R)
theorem bits_Slice_unf {R : Type} : @bits_Slice R = @bits_Slice_B R := shut_eq _

noncomputable def ints_List_l6_T {R : Type} (rec : Nat → Int → Int → Int → Int → Int → List Int → List Int → Option R) (v0 : Nat) (v1 v2 v3 v4 v5 : Int) (v6 v7 : List Int) (K0 : Nat → List Int → Option R) : Option R :=
 sel (decide (v2 < v1))
 (bits_Slice v5 v6 (mulW .i64 v2 v4) v4
 (fun v8 _ => sel (decide (0 ≤ v2))
 (sel (decide (v2 < (↑v0 : Int)))
 (sel (decide (Int.toNat v2 < List.length v7))
 (letV (List.set v7 (Int.toNat v2) v8) (fun (va : List Int) =>
 rec v0 v1 (addW .i64 v2 1) v3 v4 v5 v6 va))
 (none))
 (none))
 (none)))
 (K0 v0 v7)
noncomputable def ints_List_l6_L {R : Type} (K0 : Nat → List Int → Option R) : Nat → Nat → Int → Int → Int → Int → Int → List Int → List Int → Option R
 | 0, _, _, _, _, _, _, _, _ => none
 | N + 1, v0, v1, v2, v3, v4, v5, v6, v7 => ints_List_l6_T (ints_List_l6_L K0 N) v0 v1 v2 v3 v4 v5 v6 v7 K0
noncomputable def ints_List_l6_B {R : Type} (v0 : Nat) (v1 v2 v3 v4 v5 : Int) (v6 v7 : List Int) (K0 : Nat → List Int → Option R) : Option R :=
 ints_List_l6_L K0 NR v0 v1 v2 v3 v4 v5 v6 v7
noncomputable def ints_List_l6 {R : Type} := shut (@ints_List_l6_B R)
theorem ints_List_l6_unf {R : Type} : @ints_List_l6 R = @ints_List_l6_B R := shut_eq _

noncomputable def ints_List_B {R : Type} (v0 v1 v2 : Int) (v3 : List Int) (K0 : List Int → Option R) : Option R :=
 ints_Check v0 v1 v2 v3
 (fun v4 => sel (!v4)
 (K0 [])
 (sel (decide (0 ≤ v0))
 (sel (decide (v0 ≤ v0))
 (sel (decide (v0 ≤ 281474976710656))
 (sel (decide ((↑8 : Int) * v0 ≤ 281474976710656))
 (letV (List.replicate (Int.toNat v0) 0) (fun (v5 : List Int) =>
 ints_List_l6 (Int.toNat v0) ((↑(Int.toNat v0) : Int)) 0 v0 v1 v2 v3 v5
 (fun v6 v7 => sel (decide (v6 = List.length v7))
 (K0 v7)
 (sel (decide (0 + v6 ≤ List.length v7))
 (K0 (List.take v6 (List.drop 0 v7)))
 (none)))))
 (none))
 (none))
 (none))
 (none)))
noncomputable def ints_List {R : Type} := shut (@ints_List_B R)
theorem ints_List_unf {R : Type} : @ints_List R = @ints_List_B R := shut_eq _

noncomputable def fano_eachOne_r_1_B {R : Type} (v0 : Int) (v1 : List Int) (K0 : Int → List Int → Option R) : Option R :=
 K0 v0 v1
noncomputable def fano_eachOne_r_1 {R : Type} := shut (@fano_eachOne_r_1_B R)
theorem fano_eachOne_r_1_unf {R : Type} : @fano_eachOne_r_1 R = @fano_eachOne_r_1_B R := shut_eq _

noncomputable def fano_row_1_j4_B {R : Type} (v0 : Int) (v1 : Bool) (v2 v3 : Int) (v4 : List Int) (v5 v6 v7 v8 v9 : Int) (va : List Int) (vb : Int) (vc : List Int) (vd : Bool) (ve : Nat) (vf : List Bool) (K0 : Int → Int → Int → List Int → Int → Int → Int → Int → Int → List Int → Int → List Int → Bool → Nat → List Bool → Option R) : Option R :=
 sel v1
 (sel (decide (0 ≤ v2))
 (sel (decide (v2 < (↑(List.length v4) : Int)))
 (word_Mask v3
 (fun vg => K0 (orW .i64 v0 (cvtW .i64 (andW .u64 (List.getD v4 (Int.toNat v2) 0) vg))) v2 v3 v4 v5 v6 v7 v8 v9 va vb vc vd ve vf))
 (none))
 (none))
 (K0 v0 v2 v3 v4 v5 v6 v7 v8 v9 va vb vc vd ve vf)
noncomputable def fano_row_1_j4 {R : Type} := shut (@fano_row_1_j4_B R)
theorem fano_row_1_j4_unf {R : Type} : @fano_row_1_j4 R = @fano_row_1_j4_B R := shut_eq _

noncomputable def fano_row_1_j8_B {R : Type} (v0 v1 : Int) (v2 : List Int) (v3 v4 v5 v6 v7 : Int) (v8 : List Int) (v9 : Int) (va : List Int) (vb : Bool) (vc : Nat) (vd : List Bool) (K0 : Bool → Int → Int → List Int → Int → Int → Int → Int → Int → List Int → Int → List Int → Bool → Nat → List Bool → Option R) : Option R :=
 K0 vb (addW .i64 v0 1) v1 v2 v3 v4 v5 v6 v7 v8 v9 va vb vc vd
noncomputable def fano_row_1_j8 {R : Type} := shut (@fano_row_1_j8_B R)
theorem fano_row_1_j8_unf {R : Type} : @fano_row_1_j8 R = @fano_row_1_j8_B R := shut_eq _

noncomputable def fano_row_1_j6_B {R : Type} (v0 v1 v2 : Int) (v3 : List Int) (v4 v5 v6 v7 v8 : Int) (v9 : List Int) (va : Int) (vb : List Int) (vc : Bool) (vd : Nat) (ve : List Bool) (K0 : Bool → Int → Int → List Int → Int → Int → Int → Int → Int → List Int → Int → List Int → Bool → Nat → List Bool → Option R) : Option R :=
 sel vc
 (sel (decide (0 ≤ v0))
 (sel (decide (v0 < (↑vd : Int)))
 (sel (decide (Int.toNat v0 < List.length ve))
 (letV (List.set ve (Int.toNat v0) true) (fun (vf : List Bool) =>
 fano_row_1_j8 v1 v2 v3 v4 v5 v6 v7 v8 v9 va vb vc vd vf
 K0))
 (none))
 (none))
 (none))
 (fano_row_1_j8 v1 v2 v3 v4 v5 v6 v7 v8 v9 va vb vc vd ve
 K0)
noncomputable def fano_row_1_j6 {R : Type} := shut (@fano_row_1_j6_B R)
theorem fano_row_1_j6_unf {R : Type} : @fano_row_1_j6 R = @fano_row_1_j6_B R := shut_eq _

noncomputable def fano_row_1_j5_B {R : Type} (v0 v1 v2 : Int) (v3 : List Int) (v4 v5 v6 v7 v8 : Int) (v9 : List Int) (va : Int) (vb : List Int) (_vc : Bool) (vd : Nat) (ve : List Bool) (K0 : Bool → Int → Int → List Int → Int → Int → Int → Int → Int → List Int → Int → List Int → Bool → Nat → List Bool → Option R) : Option R :=
 sel (decide (v1 < v5))
 (fano_row_1_j6 v0 v1 v2 v3 v4 v5 v6 v7 v8 v9 va vb (decide (v0 < v4)) vd ve
 K0)
 (fano_row_1_j6 v0 v1 v2 v3 v4 v5 v6 v7 v8 v9 va vb false vd ve
 K0)
noncomputable def fano_row_1_j5 {R : Type} := shut (@fano_row_1_j5_B R)
theorem fano_row_1_j5_unf {R : Type} : @fano_row_1_j5 R = @fano_row_1_j5_B R := shut_eq _

noncomputable def fano_row_1_r_B {R : Type} (v0 v1 v2 : Int) (v3 : List Int) (v4 v5 v6 v7 v8 : Int) (v9 : List Int) (va : Int) (vb : List Int) (vc : Bool) (vd : Nat) (ve : List Bool) (K0 : Bool → Int → Int → List Int → Int → Int → Int → Int → Int → List Int → Int → List Int → Bool → Nat → List Bool → Option R) : Option R :=
 sel (decide (0 ≤ v2))
 (sel (decide (0 < v2))
 (fano_row_1_j4 (shlW .i64 (subW .i64 v0 v1) v2) (decide (v1 < (↑(List.length v3) : Int))) v1 v2 v3 v4 v5 v6 v7 v8 v9 va vb vc vd ve
 (fun vf vg vh vi vj vk vl vm vn vo vp vq vr vs vt => fano_row_1_j5 vf vg vh vi vj vk vl vm vn vo vp vq vr vs vt
 K0))
 (fano_row_1_j4 (shlW .i64 (subW .i64 v0 v1) v2) false v1 v2 v3 v4 v5 v6 v7 v8 v9 va vb vc vd ve
 (fun v19 v1a v1b v1c v1d v1e v1f v1g v1h v1i v1j v1k v1l v1m v1n => fano_row_1_j5 v19 v1a v1b v1c v1d v1e v1f v1g v1h v1i v1j v1k v1l v1m v1n
 K0)))
 (none)
noncomputable def fano_row_1_r {R : Type} := shut (@fano_row_1_r_B R)
theorem fano_row_1_r_unf {R : Type} : @fano_row_1_r R = @fano_row_1_r_B R := shut_eq _

noncomputable def fano_eachOne_1_l4_2_T {R : Type} (rec : Int → Int → List Int → Int → Int → Int → Int → List Int → Int → Int → Int → Int → Int → List Int → Int → List Int → Bool → Nat → List Bool → Int → List Int → Option R) (v0 v1 : Int) (v2 : List Int) (v3 v4 v5 v6 : Int) (v7 : List Int) (v8 v9 va vb vc : Int) (vd : List Int) (ve : Int) (vf : List Int) (vg : Bool) (vh : Nat) (vi : List Bool) (vj : Int) (vk : List Int) (K0 : Int → Int → List Int → Int → Int → Int → Int → Int → List Int → Int → List Int → Bool → Nat → List Bool → Int → List Int → Option R) (K1 : List Int → Int → Int → Int → Int → List Int → Int → Int → Int → Int → Int → List Int → Int → List Int → Bool → Nat → List Bool → Int → List Int → Option R) : Option R :=
 sel (!decide (v1 = 0))
 (word_Select v1 0
 (fun vl => fano_row_1_r (addW .i64 (mulW .i64 v0 64) vl) v5 v6 v7 v8 v9 va vb vc vd ve vf vg vh vi
 (fun vm vn vo vp vq vr vs vt vu vv vw vx vy vz v10 => sel (!vm)
 (K0 vn vo vp vq vr vs vt vu vv vw vx vy vz v10 vj vk)
 (rec v0 (andW .u64 v1 (subW .u64 v1 1)) v2 v3 v4 vn vo vp vq vr vs vt vu vv vw vx vy vz v10 vj vk))))
 (K1 v2 v3 v4 v5 v6 v7 v8 v9 va vb vc vd ve vf vg vh vi vj vk)
noncomputable def fano_eachOne_1_l4_2_L {R : Type} (K0 : Int → Int → List Int → Int → Int → Int → Int → Int → List Int → Int → List Int → Bool → Nat → List Bool → Int → List Int → Option R) (K1 : List Int → Int → Int → Int → Int → List Int → Int → Int → Int → Int → Int → List Int → Int → List Int → Bool → Nat → List Bool → Int → List Int → Option R) : Nat → Int → Int → List Int → Int → Int → Int → Int → List Int → Int → Int → Int → Int → Int → List Int → Int → List Int → Bool → Nat → List Bool → Int → List Int → Option R
 | 0, _, _, _, _, _, _, _, _, _, _, _, _, _, _, _, _, _, _, _, _, _ => none
 | N + 1, v0, v1, v2, v3, v4, v5, v6, v7, v8, v9, va, vb, vc, vd, ve, vf, vg, vh, vi, vj, vk => fano_eachOne_1_l4_2_T (fano_eachOne_1_l4_2_L K0 K1 N) v0 v1 v2 v3 v4 v5 v6 v7 v8 v9 va vb vc vd ve vf vg vh vi vj vk K0 K1
noncomputable def fano_eachOne_1_l4_2_B {R : Type} (v0 v1 : Int) (v2 : List Int) (v3 v4 v5 v6 : Int) (v7 : List Int) (v8 v9 va vb vc : Int) (vd : List Int) (ve : Int) (vf : List Int) (vg : Bool) (vh : Nat) (vi : List Bool) (vj : Int) (vk : List Int) (K0 : Int → Int → List Int → Int → Int → Int → Int → Int → List Int → Int → List Int → Bool → Nat → List Bool → Int → List Int → Option R) (K1 : List Int → Int → Int → Int → Int → List Int → Int → Int → Int → Int → Int → List Int → Int → List Int → Bool → Nat → List Bool → Int → List Int → Option R) : Option R :=
 fano_eachOne_1_l4_2_L K0 K1 NR v0 v1 v2 v3 v4 v5 v6 v7 v8 v9 va vb vc vd ve vf vg vh vi vj vk
noncomputable def fano_eachOne_1_l4_2 {R : Type} := shut (@fano_eachOne_1_l4_2_B R)
theorem fano_eachOne_1_l4_2_unf {R : Type} : @fano_eachOne_1_l4_2 R = @fano_eachOne_1_l4_2_B R := shut_eq _

noncomputable def fano_eachOne_1_l2_2_T {R : Type} (rec : List Int → Int → Int → Int → Int → List Int → Int → Int → Int → Int → Int → List Int → Int → List Int → Bool → Nat → List Bool → Int → List Int → Option R) (v0 : List Int) (v1 v2 v3 v4 : Int) (v5 : List Int) (v6 v7 v8 v9 va : Int) (vb : List Int) (vc : Int) (vd : List Int) (ve : Bool) (vf : Nat) (vg : List Bool) (vh : Int) (vi : List Int) (K0 : Int → Int → List Int → Int → Int → Int → Int → Int → List Int → Int → List Int → Bool → Nat → List Bool → Int → List Int → Option R) (K1 : Int → Int → List Int → Int → Int → Int → Int → Int → List Int → Int → List Int → Bool → Nat → List Bool → Int → List Int → Option R) : Option R :=
 sel (decide (v2 < v1))
 (sel (decide (0 ≤ v2))
 (sel (decide (v2 < (↑(List.length v0) : Int)))
 (fano_eachOne_1_l4_2 v2 (List.getD v0 (Int.toNat v2) 0) v0 v1 v2 v3 v4 v5 v6 v7 v8 v9 va vb vc vd ve vf vg vh vi
 K0
 (fun vz v10 v11 v12 v13 v14 v15 v16 v17 v18 v19 v1a v1b v1c v1d v1e v1f v1g v1h => rec vz v10 (addW .i64 v11 1) v12 v13 v14 v15 v16 v17 v18 v19 v1a v1b v1c v1d v1e v1f v1g v1h))
 (none))
 (none))
 (K1 v3 v4 v5 v6 v7 v8 v9 va vb vc vd ve vf vg vh vi)
noncomputable def fano_eachOne_1_l2_2_L {R : Type} (K0 : Int → Int → List Int → Int → Int → Int → Int → Int → List Int → Int → List Int → Bool → Nat → List Bool → Int → List Int → Option R) (K1 : Int → Int → List Int → Int → Int → Int → Int → Int → List Int → Int → List Int → Bool → Nat → List Bool → Int → List Int → Option R) : Nat → List Int → Int → Int → Int → Int → List Int → Int → Int → Int → Int → Int → List Int → Int → List Int → Bool → Nat → List Bool → Int → List Int → Option R
 | 0, _, _, _, _, _, _, _, _, _, _, _, _, _, _, _, _, _, _, _ => none
 | N + 1, v0, v1, v2, v3, v4, v5, v6, v7, v8, v9, va, vb, vc, vd, ve, vf, vg, vh, vi => fano_eachOne_1_l2_2_T (fano_eachOne_1_l2_2_L K0 K1 N) v0 v1 v2 v3 v4 v5 v6 v7 v8 v9 va vb vc vd ve vf vg vh vi K0 K1
noncomputable def fano_eachOne_1_l2_2_B {R : Type} (v0 : List Int) (v1 v2 v3 v4 : Int) (v5 : List Int) (v6 v7 v8 v9 va : Int) (vb : List Int) (vc : Int) (vd : List Int) (ve : Bool) (vf : Nat) (vg : List Bool) (vh : Int) (vi : List Int) (K0 : Int → Int → List Int → Int → Int → Int → Int → Int → List Int → Int → List Int → Bool → Nat → List Bool → Int → List Int → Option R) (K1 : Int → Int → List Int → Int → Int → Int → Int → Int → List Int → Int → List Int → Bool → Nat → List Bool → Int → List Int → Option R) : Option R :=
 fano_eachOne_1_l2_2_L K0 K1 NR v0 v1 v2 v3 v4 v5 v6 v7 v8 v9 va vb vc vd ve vf vg vh vi
noncomputable def fano_eachOne_1_l2_2 {R : Type} := shut (@fano_eachOne_1_l2_2_B R)
theorem fano_eachOne_1_l2_2_unf {R : Type} : @fano_eachOne_1_l2_2 R = @fano_eachOne_1_l2_2_B R := shut_eq _

noncomputable def fano_eachOne_1_r_1_B {R : Type} (v0 v1 : Int) (v2 : List Int) (v3 v4 v5 v6 v7 : Int) (v8 : List Int) (v9 : Int) (va : List Int) (vb : Bool) (vc : Nat) (vd : List Bool) (ve : Int) (vf : List Int) (K0 : Int → Int → List Int → Int → Int → Int → Int → Int → List Int → Int → List Int → Bool → Nat → List Bool → Int → List Int → Option R) : Option R :=
 fano_eachOne_1_l2_2 vf ((↑(List.length vf) : Int)) 0 v0 v1 v2 v3 v4 v5 v6 v7 v8 v9 va vb vc vd ve vf
 K0
 K0
noncomputable def fano_eachOne_1_r_1 {R : Type} := shut (@fano_eachOne_1_r_1_B R)
theorem fano_eachOne_1_r_1_unf {R : Type} : @fano_eachOne_1_r_1 R = @fano_eachOne_1_r_1_B R := shut_eq _

noncomputable def bits_Ones_l7_1_T {R : Type} (rec : Int → Int → List Int → Int → Int → Int → List Int → Option R) (v0 v1 : Int) (v2 : List Int) (v3 v4 v5 : Int) (v6 : List Int) (K0 : Int → Int → Int → List Int → Option R) : Option R :=
 sel (decide (v4 < v3))
 (sel (decide (0 ≤ v4))
 (sel (decide (v4 < (↑(List.length v2) : Int)))
 (word_Pop (List.getD v2 (Int.toNat v4) 0)
 (fun v7 => rec v0 (addW .i64 v1 v7) v2 v3 (addW .i64 v4 1) v5 v6))
 (none))
 (none))
 (K0 v0 v1 v5 v6)
noncomputable def bits_Ones_l7_1_L {R : Type} (K0 : Int → Int → Int → List Int → Option R) : Nat → Int → Int → List Int → Int → Int → Int → List Int → Option R
 | 0, _, _, _, _, _, _, _ => none
 | N + 1, v0, v1, v2, v3, v4, v5, v6 => bits_Ones_l7_1_T (bits_Ones_l7_1_L K0 N) v0 v1 v2 v3 v4 v5 v6 K0
noncomputable def bits_Ones_l7_1_B {R : Type} (v0 v1 : Int) (v2 : List Int) (v3 v4 v5 : Int) (v6 : List Int) (K0 : Int → Int → Int → List Int → Option R) : Option R :=
 bits_Ones_l7_1_L K0 NR v0 v1 v2 v3 v4 v5 v6
noncomputable def bits_Ones_l7_1 {R : Type} := shut (@bits_Ones_l7_1_B R)
theorem bits_Ones_l7_1_unf {R : Type} : @bits_Ones_l7_1 R = @bits_Ones_l7_1_B R := shut_eq _

noncomputable def bits_Ones_B {R : Type} (v0 : Int) (v1 : List Int) (v2 : Int) (K0 : Int → Option R) : Option R :=
 bits_Check v0 v1
 (fun v3 => sel (!v3)
 (K0 0)
 (sel (decide (0 ≤ quoW .i64 (max2 0 (min2 v2 v0)) 64))
 (sel (decide (quoW .i64 (max2 0 (min2 v2 v0)) 64 ≤ (↑(List.length v1) : Int)))
 (letV (List.drop (Int.toNat 0) (List.take (Int.toNat (quoW .i64 (max2 0 (min2 v2 v0)) 64)) v1)) (fun (v4 : List Int) =>
 bits_Ones_l7_1 (max2 0 (min2 v2 v0)) 0 v4 ((↑(List.length v4) : Int)) 0 v0 v1
 (fun v5 v6 _ v8 => sel (decide (0 < remW v5 64))
 (sel (decide (0 ≤ quoW .i64 v5 64))
 (sel (decide (quoW .i64 v5 64 < (↑(List.length v8) : Int)))
 (word_Rank (List.getD v8 (Int.toNat (quoW .i64 v5 64)) 0) (remW v5 64)
 (fun v9 => K0 (addW .i64 v6 v9)))
 (none))
 (none))
 (K0 v6))))
 (none))
 (none)))
noncomputable def bits_Ones {R : Type} := shut (@bits_Ones_B R)
theorem bits_Ones_unf {R : Type} : @bits_Ones R = @bits_Ones_B R := shut_eq _

noncomputable def fano_eachOne_1_l4_4_T {R : Type} (rec : Int → Int → List Int → Int → Int → Nat → List Bool → Int → Int → Nat → Int → List Int → List Int → Option R) (v0 v1 : Int) (v2 : List Int) (v3 v4 : Int) (v5 : Nat) (v6 : List Bool) (v7 v8 : Int) (v9 : Nat) (va : Int) (vb vc : List Int) (K0 : Nat → List Bool → Int → Int → Nat → Int → List Int → List Int → Option R) (K1 : List Int → Int → Int → Nat → List Bool → Int → Int → Nat → Int → List Int → List Int → Option R) : Option R :=
 sel (!decide (v1 = 0))
 (word_Select v1 0
 (fun vd => fano_Build_1_r_1 (addW .i64 (mulW .i64 v0 64) vd) v5 v6 v7 v8 v9 vc
 (fun ve vf vg vh vi vj vk => sel (!ve)
 (K0 vf vg vh vi vj va vb vk)
 (rec v0 (andW .u64 v1 (subW .u64 v1 1)) v2 v3 v4 vf vg vh vi vj va vb vk))
 (fun vl vm vn vo vp vq vr => sel (!vl)
 (K0 vm vn vo vp vq va vb vr)
 (rec v0 (andW .u64 v1 (subW .u64 v1 1)) v2 v3 v4 vm vn vo vp vq va vb vr))))
 (K1 v2 v3 v4 v5 v6 v7 v8 v9 va vb vc)
noncomputable def fano_eachOne_1_l4_4_L {R : Type} (K0 : Nat → List Bool → Int → Int → Nat → Int → List Int → List Int → Option R) (K1 : List Int → Int → Int → Nat → List Bool → Int → Int → Nat → Int → List Int → List Int → Option R) : Nat → Int → Int → List Int → Int → Int → Nat → List Bool → Int → Int → Nat → Int → List Int → List Int → Option R
 | 0, _, _, _, _, _, _, _, _, _, _, _, _, _ => none
 | N + 1, v0, v1, v2, v3, v4, v5, v6, v7, v8, v9, va, vb, vc => fano_eachOne_1_l4_4_T (fano_eachOne_1_l4_4_L K0 K1 N) v0 v1 v2 v3 v4 v5 v6 v7 v8 v9 va vb vc K0 K1
noncomputable def fano_eachOne_1_l4_4_B {R : Type} (v0 v1 : Int) (v2 : List Int) (v3 v4 : Int) (v5 : Nat) (v6 : List Bool) (v7 v8 : Int) (v9 : Nat) (va : Int) (vb vc : List Int) (K0 : Nat → List Bool → Int → Int → Nat → Int → List Int → List Int → Option R) (K1 : List Int → Int → Int → Nat → List Bool → Int → Int → Nat → Int → List Int → List Int → Option R) : Option R :=
 fano_eachOne_1_l4_4_L K0 K1 NR v0 v1 v2 v3 v4 v5 v6 v7 v8 v9 va vb vc
noncomputable def fano_eachOne_1_l4_4 {R : Type} := shut (@fano_eachOne_1_l4_4_B R)
theorem fano_eachOne_1_l4_4_unf {R : Type} : @fano_eachOne_1_l4_4 R = @fano_eachOne_1_l4_4_B R := shut_eq _

noncomputable def fano_eachOne_1_l4_3_T {R : Type} (rec : Int → Int → List Int → Int → Int → Nat → List Bool → Int → Int → Int → List Int → Option R) (rec0 : Int → Int → List Int → Int → Int → Nat → List Bool → Int → Int → Nat → Int → List Int → List Int → Option R) (v0 v1 : Int) (v2 : List Int) (v3 v4 : Int) (v5 : Nat) (v6 : List Bool) (v7 v8 v9 : Int) (va : List Int) (K0 : Nat → List Bool → Int → Int → Nat → Int → List Int → List Int → Option R) (K1 : List Int → Int → Int → Nat → List Bool → Int → Int → Nat → Int → List Int → List Int → Option R) (K2 : Nat → List Bool → Int → Int → Int → List Int → Option R) (K3 : List Int → Int → Int → Nat → List Bool → Int → Int → Int → List Int → Option R) : Option R :=
 sel (!decide (v1 = 0))
 (word_Select v1 0
 (fun vb => fano_Build_1_r (addW .i64 (mulW .i64 v0 64) vb) v5 v6 v7 v8
 (fun vc vd ve vf vg vh vi => sel (!vc)
 (K0 vd ve vf vg vh v9 va vi)
 (rec0 v0 (andW .u64 v1 (subW .u64 v1 1)) v2 v3 v4 vd ve vf vg vh v9 va vi))
 (fun vj vk vl vm vn => sel (!vj)
 (K2 vk vl vm vn v9 va)
 (rec v0 (andW .u64 v1 (subW .u64 v1 1)) v2 v3 v4 vk vl vm vn v9 va))))
 (K3 v2 v3 v4 v5 v6 v7 v8 v9 va)
noncomputable def fano_eachOne_1_l4_3_L {R : Type} (K0 : Nat → List Bool → Int → Int → Nat → Int → List Int → List Int → Option R) (K1 : List Int → Int → Int → Nat → List Bool → Int → Int → Nat → Int → List Int → List Int → Option R) (K2 : Nat → List Bool → Int → Int → Int → List Int → Option R) (K3 : List Int → Int → Int → Nat → List Bool → Int → Int → Int → List Int → Option R) : Nat → Int → Int → List Int → Int → Int → Nat → List Bool → Int → Int → Int → List Int → Option R
 | 0, _, _, _, _, _, _, _, _, _, _, _ => none
 | N + 1, v0, v1, v2, v3, v4, v5, v6, v7, v8, v9, va => fano_eachOne_1_l4_3_T (fano_eachOne_1_l4_3_L K0 K1 K2 K3 N) (fano_eachOne_1_l4_4_L K0 K1 N) v0 v1 v2 v3 v4 v5 v6 v7 v8 v9 va K0 K1 K2 K3
noncomputable def fano_eachOne_1_l4_3_B {R : Type} (v0 v1 : Int) (v2 : List Int) (v3 v4 : Int) (v5 : Nat) (v6 : List Bool) (v7 v8 v9 : Int) (va : List Int) (K0 : Nat → List Bool → Int → Int → Nat → Int → List Int → List Int → Option R) (K1 : List Int → Int → Int → Nat → List Bool → Int → Int → Nat → Int → List Int → List Int → Option R) (K2 : Nat → List Bool → Int → Int → Int → List Int → Option R) (K3 : List Int → Int → Int → Nat → List Bool → Int → Int → Int → List Int → Option R) : Option R :=
 fano_eachOne_1_l4_3_L K0 K1 K2 K3 NR v0 v1 v2 v3 v4 v5 v6 v7 v8 v9 va
noncomputable def fano_eachOne_1_l4_3 {R : Type} := shut (@fano_eachOne_1_l4_3_B R)
theorem fano_eachOne_1_l4_3_unf {R : Type} : @fano_eachOne_1_l4_3 R = @fano_eachOne_1_l4_3_B R := shut_eq _

noncomputable def fano_eachOne_1_l2_4_T {R : Type} (rec : List Int → Int → Int → Nat → List Bool → Int → Int → Nat → Int → List Int → List Int → Option R) (v0 : List Int) (v1 v2 : Int) (v3 : Nat) (v4 : List Bool) (v5 v6 : Int) (v7 : Nat) (v8 : Int) (v9 va : List Int) (K0 : Nat → List Bool → Int → Int → Nat → Int → List Int → List Int → Option R) (K1 : Nat → List Bool → Int → Int → Nat → Int → List Int → List Int → Option R) : Option R :=
 sel (decide (v2 < v1))
 (sel (decide (0 ≤ v2))
 (sel (decide (v2 < (↑(List.length v0) : Int)))
 (fano_eachOne_1_l4_4 v2 (List.getD v0 (Int.toNat v2) 0) v0 v1 v2 v3 v4 v5 v6 v7 v8 v9 va
 K0
 (fun vj vk vl vm vn vo vp vq vr vs vt => rec vj vk (addW .i64 vl 1) vm vn vo vp vq vr vs vt))
 (none))
 (none))
 (K1 v3 v4 v5 v6 v7 v8 v9 va)
noncomputable def fano_eachOne_1_l2_4_L {R : Type} (K0 : Nat → List Bool → Int → Int → Nat → Int → List Int → List Int → Option R) (K1 : Nat → List Bool → Int → Int → Nat → Int → List Int → List Int → Option R) : Nat → List Int → Int → Int → Nat → List Bool → Int → Int → Nat → Int → List Int → List Int → Option R
 | 0, _, _, _, _, _, _, _, _, _, _, _ => none
 | N + 1, v0, v1, v2, v3, v4, v5, v6, v7, v8, v9, va => fano_eachOne_1_l2_4_T (fano_eachOne_1_l2_4_L K0 K1 N) v0 v1 v2 v3 v4 v5 v6 v7 v8 v9 va K0 K1
noncomputable def fano_eachOne_1_l2_4_B {R : Type} (v0 : List Int) (v1 v2 : Int) (v3 : Nat) (v4 : List Bool) (v5 v6 : Int) (v7 : Nat) (v8 : Int) (v9 va : List Int) (K0 : Nat → List Bool → Int → Int → Nat → Int → List Int → List Int → Option R) (K1 : Nat → List Bool → Int → Int → Nat → Int → List Int → List Int → Option R) : Option R :=
 fano_eachOne_1_l2_4_L K0 K1 NR v0 v1 v2 v3 v4 v5 v6 v7 v8 v9 va
noncomputable def fano_eachOne_1_l2_4 {R : Type} := shut (@fano_eachOne_1_l2_4_B R)
theorem fano_eachOne_1_l2_4_unf {R : Type} : @fano_eachOne_1_l2_4 R = @fano_eachOne_1_l2_4_B R := shut_eq _

noncomputable def fano_eachOne_1_l2_3_T {R : Type} (rec : List Int → Int → Int → Nat → List Bool → Int → Int → Int → List Int → Option R) (rec0 : List Int → Int → Int → Nat → List Bool → Int → Int → Nat → Int → List Int → List Int → Option R) (v0 : List Int) (v1 v2 : Int) (v3 : Nat) (v4 : List Bool) (v5 v6 v7 : Int) (v8 : List Int) (K0 : Nat → List Bool → Int → Int → Nat → Int → List Int → List Int → Option R) (K1 : Nat → List Bool → Int → Int → Nat → Int → List Int → List Int → Option R) (K2 : Nat → List Bool → Int → Int → Int → List Int → Option R) (K3 : Nat → List Bool → Int → Int → Int → List Int → Option R) : Option R :=
 sel (decide (v2 < v1))
 (sel (decide (0 ≤ v2))
 (sel (decide (v2 < (↑(List.length v0) : Int)))
 (fano_eachOne_1_l4_3 v2 (List.getD v0 (Int.toNat v2) 0) v0 v1 v2 v3 v4 v5 v6 v7 v8
 K0
 (fun vh vi vj vk vl vm vn vo vp vq vr => rec0 vh vi (addW .i64 vj 1) vk vl vm vn vo vp vq vr)
 (fun vs vt vu vv vw vx => K2 vs vt vu vv vw vx)
 (fun vy vz v10 v11 v12 v13 v14 v15 v16 => rec vy vz (addW .i64 v10 1) v11 v12 v13 v14 v15 v16))
 (none))
 (none))
 (K3 v3 v4 v5 v6 v7 v8)
noncomputable def fano_eachOne_1_l2_3_L {R : Type} (K0 : Nat → List Bool → Int → Int → Nat → Int → List Int → List Int → Option R) (K1 : Nat → List Bool → Int → Int → Nat → Int → List Int → List Int → Option R) (K2 : Nat → List Bool → Int → Int → Int → List Int → Option R) (K3 : Nat → List Bool → Int → Int → Int → List Int → Option R) : Nat → List Int → Int → Int → Nat → List Bool → Int → Int → Int → List Int → Option R
 | 0, _, _, _, _, _, _, _, _, _ => none
 | N + 1, v0, v1, v2, v3, v4, v5, v6, v7, v8 => fano_eachOne_1_l2_3_T (fano_eachOne_1_l2_3_L K0 K1 K2 K3 N) (fano_eachOne_1_l2_4_L K0 K1 N) v0 v1 v2 v3 v4 v5 v6 v7 v8 K0 K1 K2 K3
noncomputable def fano_eachOne_1_l2_3_B {R : Type} (v0 : List Int) (v1 v2 : Int) (v3 : Nat) (v4 : List Bool) (v5 v6 v7 : Int) (v8 : List Int) (K0 : Nat → List Bool → Int → Int → Nat → Int → List Int → List Int → Option R) (K1 : Nat → List Bool → Int → Int → Nat → Int → List Int → List Int → Option R) (K2 : Nat → List Bool → Int → Int → Int → List Int → Option R) (K3 : Nat → List Bool → Int → Int → Int → List Int → Option R) : Option R :=
 fano_eachOne_1_l2_3_L K0 K1 K2 K3 NR v0 v1 v2 v3 v4 v5 v6 v7 v8
noncomputable def fano_eachOne_1_l2_3 {R : Type} := shut (@fano_eachOne_1_l2_3_B R)
theorem fano_eachOne_1_l2_3_unf {R : Type} : @fano_eachOne_1_l2_3 R = @fano_eachOne_1_l2_3_B R := shut_eq _

noncomputable def fano_eachOne_1_r_2_B {R : Type} (v0 : Nat) (v1 : List Bool) (v2 v3 v4 : Int) (v5 : List Int) (K0 : Nat → List Bool → Int → Int → Nat → Int → List Int → List Int → Option R) (K1 : Nat → List Bool → Int → Int → Int → List Int → Option R) : Option R :=
 fano_eachOne_1_l2_3 v5 ((↑(List.length v5) : Int)) 0 v0 v1 v2 v3 v4 v5
 K0
 K0
 (fun vm vn vo vp vq vr => K1 vm vn vo vp vq vr)
 (fun vs vt vu vv vw vx => K1 vs vt vu vv vw vx)
noncomputable def fano_eachOne_1_r_2 {R : Type} := shut (@fano_eachOne_1_r_2_B R)
theorem fano_eachOne_1_r_2_unf {R : Type} : @fano_eachOne_1_r_2 R = @fano_eachOne_1_r_2_B R := shut_eq _

noncomputable def fano_Build_j14_4_B {R : Type} (v0 : Bool) (v1 v2 v3 v4 v5 v6 v7 v8 v9 va vb vc : Int) (K0 : Int → Int → Int → Int → Int → Int → Int → Option R) (K1 : Int → Int → Int → Int → Int → Int → Int → Int → Int → Int → Int → Int → Option R) : Option R :=
 sel v0
 (K0 2 0 0 0 0 0 0)
 (K1 v1 v2 v3 v4 v5 v6 v7 v8 v9 va vb vc)
noncomputable def fano_Build_j14_4 {R : Type} := shut (@fano_Build_j14_4_B R)
theorem fano_Build_j14_4_unf {R : Type} : @fano_Build_j14_4 R = @fano_Build_j14_4_B R := shut_eq _

noncomputable def fano_Build_j14_5_B {R : Type} (v0 : Bool) (v1 v2 v3 v4 v5 v6 v7 v8 v9 va vb vc : Int) (vd : Nat) (ve : List Int) (K0 : Int → Int → Int → Int → Int → Int → Int → Option R) (K1 : Int → Int → Int → Int → Int → Int → Int → Int → Int → Int → Int → Int → Nat → List Int → Option R) : Option R :=
 sel v0
 (K0 2 0 0 0 0 0 0)
 (K1 v1 v2 v3 v4 v5 v6 v7 v8 v9 va vb vc vd ve)
noncomputable def fano_Build_j14_5 {R : Type} := shut (@fano_Build_j14_5_B R)
theorem fano_Build_j14_5_unf {R : Type} : @fano_Build_j14_5 R = @fano_Build_j14_5_B R := shut_eq _

noncomputable def fano_Build_j14_6_B {R : Type} (v0 : Bool) (v1 v2 v3 v4 v5 v6 v7 v8 v9 va vb : Int) (vc : List Int) (vd : Int) (K0 : Int → Int → Int → Int → Int → Int → Int → Option R) (K1 : Int → Int → Int → Int → Int → Int → Int → Int → Int → Int → Int → List Int → Int → Option R) : Option R :=
 sel v0
 (K0 2 0 0 0 0 0 0)
 (K1 v1 v2 v3 v4 v5 v6 v7 v8 v9 va vb vc vd)
noncomputable def fano_Build_j14_6 {R : Type} := shut (@fano_Build_j14_6_B R)
theorem fano_Build_j14_6_unf {R : Type} : @fano_Build_j14_6 R = @fano_Build_j14_6_B R := shut_eq _

noncomputable def fano_Build_j14_7_B {R : Type} (v0 : Bool) (v1 v2 v3 v4 v5 v6 v7 v8 v9 va vb : Int) (vc : List Int) (vd : Int) (ve : Nat) (vf : List Int) (K0 : Int → Int → Int → Int → Int → Int → Int → Option R) (K1 : Int → Int → Int → Int → Int → Int → Int → Int → Int → Int → Int → List Int → Int → Nat → List Int → Option R) : Option R :=
 sel v0
 (K0 2 0 0 0 0 0 0)
 (K1 v1 v2 v3 v4 v5 v6 v7 v8 v9 va vb vc vd ve vf)
noncomputable def fano_Build_j14_7 {R : Type} := shut (@fano_Build_j14_7_B R)
theorem fano_Build_j14_7_unf {R : Type} : @fano_Build_j14_7 R = @fano_Build_j14_7_B R := shut_eq _

noncomputable def fano_Build_B {R : Type} (v0 : Int) (v1 : List Int) (K0 : Int → Int → Int → Int → Int → List Int → Int → List Int → Int → Option R) : Option R :=
 bits_Check v0 v1
 (fun v2 => sel (!v2)
 (K0 0 0 0 0 0 [] 0 [] 2)
 (bits_Ones v0 v1 v0
 (fun v3 => fano_width v0 v3
 (fun v4 => sel (decide (0 ≤ v4))
 (sel (decide (0 ≤ addW .i64 (addW .i64 v3 (shrW .i64 v0 v4)) 1))
 (sel (decide (addW .i64 (addW .i64 v3 (shrW .i64 v0 v4)) 1 ≤ addW .i64 (addW .i64 v3 (shrW .i64 v0 v4)) 1))
 (sel (decide (addW .i64 (addW .i64 v3 (shrW .i64 v0 v4)) 1 ≤ 281474976710656))
 (sel (decide ((↑1 : Int) * addW .i64 (addW .i64 v3 (shrW .i64 v0 v4)) 1 ≤ 281474976710656))
 (letV (List.replicate (Int.toNat (addW .i64 (addW .i64 v3 (shrW .i64 v0 v4)) 1)) false) (fun (v5 : List Bool) =>
 fano_eachOne_r_1 v0 v1
 (fun v6 v7 => fano_eachOne_1_r_2 (Int.toNat (addW .i64 (addW .i64 v3 (shrW .i64 v0 v4)) 1)) v5 v4 0 v6 v7
 (fun v8 v9 va _ vc _ _ vf => ints_Make_r (max2 1 va) vc vf
 (fun vg vh vi vj _ => bits_From_r v8 v9
 (fun vl vm _ => sel (!decide (vj = 0))
 (fano_Build_j14_4 true 0 0 0 0 0 0 v0 v3 vg vh vi vl
 (fun vo vp vq vr vs vt vu => K0 vp vq vr vs vt [] vu [] vo)
 (fun _ _ _ _ _ _ v11 v12 v13 v14 v15 v16 => K0 v11 v12 v13 v14 v15 [] v16 [] 0))
 (fano_Build_j14_4 (!decide (vm = 0)) 0 0 0 0 0 0 v0 v3 vg vh vi vl
 (fun v17 v18 v19 v1a v1b v1c v1d => K0 v18 v19 v1a v1b v1c [] v1d [] v17)
 (fun _ _ _ _ _ _ v1k v1l v1m v1n v1o v1p => K0 v1k v1l v1m v1n v1o [] v1p [] 0)))
 (fun v1q v1r v1s _ v1u => sel (!decide (vj = 0))
 (fano_Build_j14_5 true 0 0 0 0 0 0 v0 v3 vg vh vi v1q v1r v1u
 (fun v1v v1w v1x v1y v1z v20 v21 => K0 v1w v1x v1y v1z v20 [] v21 [] v1v)
 (fun _ _ _ _ _ _ v28 v29 v2a v2b v2c v2d v2e v2f => sel (decide (v2e = List.length v2f))
 (K0 v28 v29 v2a v2b v2c [] v2d v2f 0)
 (sel (decide (0 + v2e ≤ List.length v2f))
 (K0 v28 v29 v2a v2b v2c [] v2d (List.take v2e (List.drop 0 v2f)) 0)
 (none))))
 (fano_Build_j14_5 (!decide (v1s = 0)) 0 0 0 0 0 0 v0 v3 vg vh vi v1q v1r v1u
 (fun v2g v2h v2i v2j v2k v2l v2m => K0 v2h v2i v2j v2k v2l [] v2m [] v2g)
 (fun _ _ _ _ _ _ v2t v2u v2v v2w v2x v2y v2z v30 => sel (decide (v2z = List.length v30))
 (K0 v2t v2u v2v v2w v2x [] v2y v30 0)
 (sel (decide (0 + v2z ≤ List.length v30))
 (K0 v2t v2u v2v v2w v2x [] v2y (List.take v2z (List.drop 0 v30)) 0)
 (none))))))
 (fun v31 v32 v33 v34 v35 _ => bits_From_r v8 v9
 (fun v37 v38 _ => sel (!decide (v35 = 0))
 (fano_Build_j14_6 true 0 0 0 0 0 0 v0 v3 v31 v32 v33 v34 v37
 (fun v3a v3b v3c v3d v3e v3f v3g => K0 v3b v3c v3d v3e v3f [] v3g [] v3a)
 (fun _ _ _ _ _ _ v3n v3o v3p v3q v3r v3s v3t => K0 v3n v3o v3p v3q v3r v3s v3t [] 0))
 (fano_Build_j14_6 (!decide (v38 = 0)) 0 0 0 0 0 0 v0 v3 v31 v32 v33 v34 v37
 (fun v3u v3v v3w v3x v3y v3z v40 => K0 v3v v3w v3x v3y v3z [] v40 [] v3u)
 (fun _ _ _ _ _ _ v47 v48 v49 v4a v4b v4c v4d => K0 v47 v48 v49 v4a v4b v4c v4d [] 0)))
 (fun v4e v4f v4g _ v4i => sel (!decide (v35 = 0))
 (fano_Build_j14_7 true 0 0 0 0 0 0 v0 v3 v31 v32 v33 v34 v4e v4f v4i
 (fun v4j v4k v4l v4m v4n v4o v4p => K0 v4k v4l v4m v4n v4o [] v4p [] v4j)
 (fun _ _ _ _ _ _ v4w v4x v4y v4z v50 v51 v52 v53 v54 => sel (decide (v53 = List.length v54))
 (K0 v4w v4x v4y v4z v50 v51 v52 v54 0)
 (sel (decide (0 + v53 ≤ List.length v54))
 (K0 v4w v4x v4y v4z v50 v51 v52 (List.take v53 (List.drop 0 v54)) 0)
 (none))))
 (fano_Build_j14_7 (!decide (v4g = 0)) 0 0 0 0 0 0 v0 v3 v31 v32 v33 v34 v4e v4f v4i
 (fun v55 v56 v57 v58 v59 v5a v5b => K0 v56 v57 v58 v59 v5a [] v5b [] v55)
 (fun _ _ _ _ _ _ v5i v5j v5k v5l v5m v5n v5o v5p v5q => sel (decide (v5p = List.length v5q))
 (K0 v5i v5j v5k v5l v5m v5n v5o v5q 0)
 (sel (decide (0 + v5p ≤ List.length v5q))
 (K0 v5i v5j v5k v5l v5m v5n v5o (List.take v5p (List.drop 0 v5q)) 0)
 (none)))))))
 (fun v5r v5s v5t _ _ _ => ints_Make (max2 1 v5t) []
 (fun v5x v5y v5z v60 v61 => bits_From_r v5r v5s
 (fun v62 v63 _ => sel (!decide (v61 = 0))
 (fano_Build_j14_6 true 0 0 0 0 0 0 v0 v3 v5x v5y v5z v60 v62
 (fun v65 v66 v67 v68 v69 v6a v6b => K0 v66 v67 v68 v69 v6a [] v6b [] v65)
 (fun _ _ _ _ _ _ v6i v6j v6k v6l v6m v6n v6o => K0 v6i v6j v6k v6l v6m v6n v6o [] 0))
 (fano_Build_j14_6 (!decide (v63 = 0)) 0 0 0 0 0 0 v0 v3 v5x v5y v5z v60 v62
 (fun v6p v6q v6r v6s v6t v6u v6v => K0 v6q v6r v6s v6t v6u [] v6v [] v6p)
 (fun _ _ _ _ _ _ v72 v73 v74 v75 v76 v77 v78 => K0 v72 v73 v74 v75 v76 v77 v78 [] 0)))
 (fun v79 v7a v7b _ v7d => sel (!decide (v61 = 0))
 (fano_Build_j14_7 true 0 0 0 0 0 0 v0 v3 v5x v5y v5z v60 v79 v7a v7d
 (fun v7e v7f v7g v7h v7i v7j v7k => K0 v7f v7g v7h v7i v7j [] v7k [] v7e)
 (fun _ _ _ _ _ _ v7r v7s v7t v7u v7v v7w v7x v7y v7z => sel (decide (v7y = List.length v7z))
 (K0 v7r v7s v7t v7u v7v v7w v7x v7z 0)
 (sel (decide (0 + v7y ≤ List.length v7z))
 (K0 v7r v7s v7t v7u v7v v7w v7x (List.take v7y (List.drop 0 v7z)) 0)
 (none))))
 (fano_Build_j14_7 (!decide (v7b = 0)) 0 0 0 0 0 0 v0 v3 v5x v5y v5z v60 v79 v7a v7d
 (fun v80 v81 v82 v83 v84 v85 v86 => K0 v81 v82 v83 v84 v85 [] v86 [] v80)
 (fun _ _ _ _ _ _ v8d v8e v8f v8g v8h v8i v8j v8k v8l => sel (decide (v8k = List.length v8l))
 (K0 v8d v8e v8f v8g v8h v8i v8j v8l 0)
 (sel (decide (0 + v8k ≤ List.length v8l))
 (K0 v8d v8e v8f v8g v8h v8i v8j (List.take v8k (List.drop 0 v8l)) 0)
 (none))))))))))
 (none))
 (none))
 (none))
 (none))
 (none)))))
noncomputable def fano_Build {R : Type} := shut (@fano_Build_B R)
theorem fano_Build_unf {R : Type} : @fano_Build R = @fano_Build_B R := shut_eq _

noncomputable def slices_Equal_uint64_uint64_l5_T {R : Type} (rec : List Int → List Int → Int → Int → Option R) (v0 v1 : List Int) (v2 v3 : Int) (K0 : Bool → Option R) (K1 : Unit → Option R) : Option R :=
 sel (decide (v3 < v2))
 (sel (decide (0 ≤ v3))
 (sel (decide (v3 < (↑(List.length v0) : Int)))
 (sel (decide (0 ≤ v3))
 (sel (decide (v3 < (↑(List.length v1) : Int)))
 (sel (!decide (List.getD v0 (Int.toNat v3) 0 = List.getD v1 (Int.toNat v3) 0))
 (K0 false)
 (rec v0 v1 v2 (addW .i64 v3 1)))
 (none))
 (none))
 (none))
 (none))
 (K1 ())
noncomputable def slices_Equal_uint64_uint64_l5_L {R : Type} (K0 : Bool → Option R) (K1 : Unit → Option R) : Nat → List Int → List Int → Int → Int → Option R
 | 0, _, _, _, _ => none
 | N + 1, v0, v1, v2, v3 => slices_Equal_uint64_uint64_l5_T (slices_Equal_uint64_uint64_l5_L K0 K1 N) v0 v1 v2 v3 K0 K1
noncomputable def slices_Equal_uint64_uint64_l5_B {R : Type} (v0 v1 : List Int) (v2 v3 : Int) (K0 : Bool → Option R) (K1 : Unit → Option R) : Option R :=
 slices_Equal_uint64_uint64_l5_L K0 K1 NR v0 v1 v2 v3
noncomputable def slices_Equal_uint64_uint64_l5 {R : Type} := shut (@slices_Equal_uint64_uint64_l5_B R)
theorem slices_Equal_uint64_uint64_l5_unf {R : Type} : @slices_Equal_uint64_uint64_l5 R = @slices_Equal_uint64_uint64_l5_B R := shut_eq _

noncomputable def slices_Equal_uint64_uint64_B {R : Type} (v0 v1 : List Int) (K0 : Bool → Option R) : Option R :=
 sel (!decide ((↑(List.length v0) : Int) = (↑(List.length v1) : Int)))
 (K0 false)
 (slices_Equal_uint64_uint64_l5 v0 v1 ((↑(List.length v0) : Int)) 0
 (fun v2 => K0 v2)
 (fun _ => K0 true))
noncomputable def slices_Equal_uint64_uint64 {R : Type} := shut (@slices_Equal_uint64_uint64_B R)
theorem slices_Equal_uint64_uint64_unf {R : Type} : @slices_Equal_uint64_uint64 R = @slices_Equal_uint64_uint64_B R := shut_eq _

noncomputable def fano_row_j16_B {R : Type} (v0 : Bool) (v1 v2 : Int) (K0 : Bool → Int → Option R) (K1 : Int → Int → Option R) : Option R :=
 sel v0
 (K0 false 0)
 (K1 v1 v2)
noncomputable def fano_row_j16 {R : Type} := shut (@fano_row_j16_B R)
theorem fano_row_j16_unf {R : Type} : @fano_row_j16 R = @fano_row_j16_B R := shut_eq _

noncomputable def fano_row_j15_B {R : Type} (v0 : Int) (v1 : Bool) (v2 v3 : Int) (K0 : Bool → Int → Option R) : Option R :=
 sel (!decide (v0 = 0))
 (fano_row_j16 true v2 v3
 (fun v4 v5 => K0 v4 v5)
 (fun _ v7 => K0 true v7))
 (fano_row_j16 (!v1) v2 v3
 (fun v8 v9 => K0 v8 v9)
 (fun _ vb => K0 true vb))
noncomputable def fano_row_j15 {R : Type} := shut (@fano_row_j15_B R)
theorem fano_row_j15_unf {R : Type} : @fano_row_j15 R = @fano_row_j15_B R := shut_eq _

noncomputable def fano_row_j16_1_B {R : Type} (v0 : Bool) (v1 v2 : Int) (v3 : Nat) (v4 : List Int) (K0 : Bool → Int → Option R) (K1 : Int → Int → Nat → List Int → Option R) : Option R :=
 sel v0
 (K0 false 0)
 (K1 v1 v2 v3 v4)
noncomputable def fano_row_j16_1 {R : Type} := shut (@fano_row_j16_1_B R)
theorem fano_row_j16_1_unf {R : Type} : @fano_row_j16_1 R = @fano_row_j16_1_B R := shut_eq _

noncomputable def fano_row_j15_1_B {R : Type} (v0 : Int) (v1 : Bool) (v2 v3 : Int) (v4 : Nat) (v5 : List Int) (K0 : Bool → Int → Option R) (K1 : Bool → Int → Nat → List Int → Option R) : Option R :=
 sel (!decide (v0 = 0))
 (fano_row_j16_1 true v2 v3 v4 v5
 (fun v6 v7 => K0 v6 v7)
 (fun _ v9 va vb => K1 true v9 va vb))
 (fano_row_j16_1 (!v1) v2 v3 v4 v5
 (fun vc vd => K0 vc vd)
 (fun _ vf vg vh => K1 true vf vg vh))
noncomputable def fano_row_j15_1 {R : Type} := shut (@fano_row_j15_1_B R)
theorem fano_row_j15_1_unf {R : Type} : @fano_row_j15_1 R = @fano_row_j15_1_B R := shut_eq _

noncomputable def slices_Equal_uint64_uint64_l5_1_T {R : Type} (rec : List Int → Nat → Int → Int → List Int → Option R) (v0 : List Int) (v1 : Nat) (v2 v3 : Int) (v4 : List Int) (K0 : Bool → List Int → Option R) (K1 : List Int → Option R) : Option R :=
 sel (decide (v3 < v2))
 (sel (decide (0 ≤ v3))
 (sel (decide (v3 < (↑(List.length v0) : Int)))
 (sel (decide (0 ≤ v3))
 (sel (decide (v3 < (↑v1 : Int)))
 (sel (decide (Int.toNat v3 < List.length v4))
 (sel (!decide (List.getD v0 (Int.toNat v3) 0 = List.getD v4 (Int.toNat v3) 0))
 (K0 false v4)
 (rec v0 v1 v2 (addW .i64 v3 1) v4))
 (none))
 (none))
 (none))
 (none))
 (none))
 (K1 v4)
noncomputable def slices_Equal_uint64_uint64_l5_1_L {R : Type} (K0 : Bool → List Int → Option R) (K1 : List Int → Option R) : Nat → List Int → Nat → Int → Int → List Int → Option R
 | 0, _, _, _, _, _ => none
 | N + 1, v0, v1, v2, v3, v4 => slices_Equal_uint64_uint64_l5_1_T (slices_Equal_uint64_uint64_l5_1_L K0 K1 N) v0 v1 v2 v3 v4 K0 K1
noncomputable def slices_Equal_uint64_uint64_l5_1_B {R : Type} (v0 : List Int) (v1 : Nat) (v2 v3 : Int) (v4 : List Int) (K0 : Bool → List Int → Option R) (K1 : List Int → Option R) : Option R :=
 slices_Equal_uint64_uint64_l5_1_L K0 K1 NR v0 v1 v2 v3 v4
noncomputable def slices_Equal_uint64_uint64_l5_1 {R : Type} := shut (@slices_Equal_uint64_uint64_l5_1_B R)
theorem slices_Equal_uint64_uint64_l5_1_unf {R : Type} : @slices_Equal_uint64_uint64_l5_1 R = @slices_Equal_uint64_uint64_l5_1_B R := shut_eq _

noncomputable def slices_Equal_uint64_uint64_r_B {R : Type} (v0 : List Int) (v1 : Nat) (v2 : List Int) (K0 : Bool → List Int → Option R) : Option R :=
 sel (!decide ((↑(List.length v0) : Int) = (↑v1 : Int)))
 (K0 false v2)
 (slices_Equal_uint64_uint64_l5_1 v0 v1 ((↑(List.length v0) : Int)) 0 v2
 (fun v3 v4 => K0 v3 v4)
 (fun v5 => K0 true v5))
noncomputable def slices_Equal_uint64_uint64_r {R : Type} := shut (@slices_Equal_uint64_uint64_r_B R)
theorem slices_Equal_uint64_uint64_r_unf {R : Type} : @slices_Equal_uint64_uint64_r R = @slices_Equal_uint64_uint64_r_B R := shut_eq _

noncomputable def fano_row_j7_B {R : Type} (v0 v1 v2 v3 v4 : Int) (v5 : List Int) (v6 : Int) (v7 : List Int) (v8 v9 : Int) (va : List Int) (vb : Nat) (vc : List Bool) (K0 : Bool → Int → Option R) (K1 : Bool → Int → Nat → List Int → Option R) : Option R :=
 fano_eachOne_r_1 v6 v7
 (fun vd ve => fano_eachOne_1_r_1 0 v9 va v0 v1 v2 v3 v4 v5 v6 v7 true vb vc vd ve
 (fun _ _ _ _ vj vk vl _ vn vo vp vq vr vs _ _ => sel (!vq)
 (K0 false 0)
 (bits_From_r vr vs
 (fun vv _ _ => fano_Build vv []
 (fun _ vz v10 v11 _ v13 v14 v15 v16 => sel (decide (vj = vz))
 (sel (decide (vk = v10))
 (sel (decide (vl = v11))
 (slices_Equal_uint64_uint64 vn v13
 (fun v17 => sel v17
 (sel (decide (vo = v14))
 (slices_Equal_uint64_uint64 vp v15
 (fun v18 => fano_row_j15 v16 v18 v8 vv
 (fun v19 v1a => K0 v19 v1a)))
 (fano_row_j15 v16 false v8 vv
 (fun v1b v1c => K0 v1b v1c)))
 (fano_row_j15 v16 false v8 vv
 (fun v1d v1e => K0 v1d v1e))))
 (fano_row_j15 v16 false v8 vv
 (fun v1f v1g => K0 v1f v1g)))
 (fano_row_j15 v16 false v8 vv
 (fun v1h v1i => K0 v1h v1i)))
 (fano_row_j15 v16 false v8 vv
 (fun v1j v1k => K0 v1j v1k))))
 (fun v1l v1m _ _ v1p => fano_Build_r v1l v1m v1p
 (fun _ v1r v1s v1t _ v1v v1w v1x => sel (decide (vj = v1r))
 (sel (decide (vk = v1s))
 (sel (decide (vl = v1t))
 (slices_Equal_uint64_uint64 vn []
 (fun v1y => sel v1y
 (sel (decide (vo = v1v))
 (slices_Equal_uint64_uint64 vp []
 (fun v1z => fano_row_j15_1 v1w v1z v8 v1l v1m v1x
 (fun v20 v21 => K0 v20 v21)
 (fun v22 v23 v24 v25 => K1 v22 v23 v24 v25)))
 (fano_row_j15_1 v1w false v8 v1l v1m v1x
 (fun v26 v27 => K0 v26 v27)
 (fun v28 v29 v2a v2b => K1 v28 v29 v2a v2b)))
 (fano_row_j15_1 v1w false v8 v1l v1m v1x
 (fun v2c v2d => K0 v2c v2d)
 (fun v2e v2f v2g v2h => K1 v2e v2f v2g v2h))))
 (fano_row_j15_1 v1w false v8 v1l v1m v1x
 (fun v2i v2j => K0 v2i v2j)
 (fun v2k v2l v2m v2n => K1 v2k v2l v2m v2n)))
 (fano_row_j15_1 v1w false v8 v1l v1m v1x
 (fun v2o v2p => K0 v2o v2p)
 (fun v2q v2r v2s v2t => K1 v2q v2r v2s v2t)))
 (fano_row_j15_1 v1w false v8 v1l v1m v1x
 (fun v2u v2v => K0 v2u v2v)
 (fun v2w v2x v2y v2z => K1 v2w v2x v2y v2z)))
 (fun _ v31 v32 v33 _ v35 v36 v37 v38 v39 => sel (decide (vj = v31))
 (sel (decide (vk = v32))
 (sel (decide (vl = v33))
 (slices_Equal_uint64_uint64 vn []
 (fun v3a => sel v3a
 (sel (decide (vo = v35))
 (slices_Equal_uint64_uint64_r vp v36 v39
 (fun v3b _ => fano_row_j15_1 v37 v3b v8 v1l v1m v38
 (fun v3d v3e => K0 v3d v3e)
 (fun v3f v3g v3h v3i => K1 v3f v3g v3h v3i)))
 (fano_row_j15_1 v37 false v8 v1l v1m v38
 (fun v3j v3k => K0 v3j v3k)
 (fun v3l v3m v3n v3o => K1 v3l v3m v3n v3o)))
 (fano_row_j15_1 v37 false v8 v1l v1m v38
 (fun v3p v3q => K0 v3p v3q)
 (fun v3r v3s v3t v3u => K1 v3r v3s v3t v3u))))
 (fano_row_j15_1 v37 false v8 v1l v1m v38
 (fun v3v v3w => K0 v3v v3w)
 (fun v3x v3y v3z v40 => K1 v3x v3y v3z v40)))
 (fano_row_j15_1 v37 false v8 v1l v1m v38
 (fun v41 v42 => K0 v41 v42)
 (fun v43 v44 v45 v46 => K1 v43 v44 v45 v46)))
 (fano_row_j15_1 v37 false v8 v1l v1m v38
 (fun v47 v48 => K0 v47 v48)
 (fun v49 v4a v4b v4c => K1 v49 v4a v4b v4c)))
 (fun _ v4e v4f v4g _ v4i v4j v4k v4l => sel (decide (vj = v4e))
 (sel (decide (vk = v4f))
 (sel (decide (vl = v4g))
 (slices_Equal_uint64_uint64 vn v4i
 (fun v4m => sel v4m
 (sel (decide (vo = v4j))
 (slices_Equal_uint64_uint64 vp []
 (fun v4n => fano_row_j15_1 v4k v4n v8 v1l v1m v4l
 (fun v4o v4p => K0 v4o v4p)
 (fun v4q v4r v4s v4t => K1 v4q v4r v4s v4t)))
 (fano_row_j15_1 v4k false v8 v1l v1m v4l
 (fun v4u v4v => K0 v4u v4v)
 (fun v4w v4x v4y v4z => K1 v4w v4x v4y v4z)))
 (fano_row_j15_1 v4k false v8 v1l v1m v4l
 (fun v50 v51 => K0 v50 v51)
 (fun v52 v53 v54 v55 => K1 v52 v53 v54 v55))))
 (fano_row_j15_1 v4k false v8 v1l v1m v4l
 (fun v56 v57 => K0 v56 v57)
 (fun v58 v59 v5a v5b => K1 v58 v59 v5a v5b)))
 (fano_row_j15_1 v4k false v8 v1l v1m v4l
 (fun v5c v5d => K0 v5c v5d)
 (fun v5e v5f v5g v5h => K1 v5e v5f v5g v5h)))
 (fano_row_j15_1 v4k false v8 v1l v1m v4l
 (fun v5i v5j => K0 v5i v5j)
 (fun v5k v5l v5m v5n => K1 v5k v5l v5m v5n)))
 (fun _ v5p v5q v5r _ v5t v5u v5v v5w v5x v5y => sel (decide (vj = v5p))
 (sel (decide (vk = v5q))
 (sel (decide (vl = v5r))
 (slices_Equal_uint64_uint64 vn v5t
 (fun v5z => sel v5z
 (sel (decide (vo = v5u))
 (slices_Equal_uint64_uint64_r vp v5v v5y
 (fun v60 _ => fano_row_j15_1 v5w v60 v8 v1l v1m v5x
 (fun v62 v63 => K0 v62 v63)
 (fun v64 v65 v66 v67 => K1 v64 v65 v66 v67)))
 (fano_row_j15_1 v5w false v8 v1l v1m v5x
 (fun v68 v69 => K0 v68 v69)
 (fun v6a v6b v6c v6d => K1 v6a v6b v6c v6d)))
 (fano_row_j15_1 v5w false v8 v1l v1m v5x
 (fun v6e v6f => K0 v6e v6f)
 (fun v6g v6h v6i v6j => K1 v6g v6h v6i v6j))))
 (fano_row_j15_1 v5w false v8 v1l v1m v5x
 (fun v6k v6l => K0 v6k v6l)
 (fun v6m v6n v6o v6p => K1 v6m v6n v6o v6p)))
 (fano_row_j15_1 v5w false v8 v1l v1m v5x
 (fun v6q v6r => K0 v6q v6r)
 (fun v6s v6t v6u v6v => K1 v6s v6t v6u v6v)))
 (fano_row_j15_1 v5w false v8 v1l v1m v5x
 (fun v6w v6x => K0 v6w v6x)
 (fun v6y v6z v70 v71 => K1 v6y v6z v70 v71)))))))
noncomputable def fano_row_j7 {R : Type} := shut (@fano_row_j7_B R)
theorem fano_row_j7_unf {R : Type} : @fano_row_j7 R = @fano_row_j7_B R := shut_eq _

noncomputable def fano_row_j4_B {R : Type} (v0 v1 v2 v3 v4 : Int) (v5 : List Int) (v6 : Int) (v7 : List Int) (v8 : Int) (K0 : Bool → Int → Option R) (K1 : Bool → Int → Nat → List Int → Option R) : Option R :=
 fano_width v0 v1
 (fun v9 => ints_List v2 v3 v4 v5
 (fun va => sel (decide (0 ≤ v0))
 (sel (decide (v0 ≤ v0))
 (sel (decide (v0 ≤ 281474976710656))
 (sel (decide ((↑1 : Int) * v0 ≤ 281474976710656))
 (letV (List.replicate (Int.toNat v0) false) (fun (vb : List Bool) =>
 fano_row_j7 v0 v1 v2 v3 v4 v5 v6 v7 v8 v9 va (Int.toNat v0) vb
 (fun vc vd => K0 vc vd)
 (fun ve vf vg vh => K1 ve vf vg vh)))
 (none))
 (none))
 (none))
 (none)))
noncomputable def fano_row_j4 {R : Type} := shut (@fano_row_j4_B R)
theorem fano_row_j4_unf {R : Type} : @fano_row_j4 R = @fano_row_j4_B R := shut_eq _

noncomputable def fano_row_B {R : Type} (v0 v1 v2 v3 v4 : Int) (v5 : List Int) (v6 : Int) (v7 : List Int) (K0 : Int → List Int → Bool → Option R) : Option R :=
 sel (decide (v0 < 0))
 (fano_row_j3 true v0 v1 v2 v3 v4 v5 v6 v7 0
 (fun v8 v9 => K0 v9 [] v8)
 (fun va vb vc vd ve vf vg vh vi => fano_row_j4 va vb vc vd ve vf vg vh vi
 (fun vj vk => K0 vk [] vj)
 (fun vl vm vn vo => sel (decide (vn = List.length vo))
 (K0 vm vo vl)
 (sel (decide (0 + vn ≤ List.length vo))
 (K0 vm (List.take vn (List.drop 0 vo)) vl)
 (none)))))
 (sel (decide (1048576 < v0))
 (fano_row_j3 true v0 v1 v2 v3 v4 v5 v6 v7 0
 (fun vp vq => K0 vq [] vp)
 (fun vr vs vt vu vv vw vx vy vz => fano_row_j4 vr vs vt vu vv vw vx vy vz
 (fun v10 v11 => K0 v11 [] v10)
 (fun v12 v13 v14 v15 => sel (decide (v14 = List.length v15))
 (K0 v13 v15 v12)
 (sel (decide (0 + v14 ≤ List.length v15))
 (K0 v13 (List.take v14 (List.drop 0 v15)) v12)
 (none)))))
 (sel (decide (v1 < 0))
 (fano_row_j3 true v0 v1 v2 v3 v4 v5 v6 v7 0
 (fun v16 v17 => K0 v17 [] v16)
 (fun v18 v19 v1a v1b v1c v1d v1e v1f v1g => fano_row_j4 v18 v19 v1a v1b v1c v1d v1e v1f v1g
 (fun v1h v1i => K0 v1i [] v1h)
 (fun v1j v1k v1l v1m => sel (decide (v1l = List.length v1m))
 (K0 v1k v1m v1j)
 (sel (decide (0 + v1l ≤ List.length v1m))
 (K0 v1k (List.take v1l (List.drop 0 v1m)) v1j)
 (none)))))
 (sel (decide (v0 < v1))
 (fano_row_j3 true v0 v1 v2 v3 v4 v5 v6 v7 0
 (fun v1n v1o => K0 v1o [] v1n)
 (fun v1p v1q v1r v1s v1t v1u v1v v1w v1x => fano_row_j4 v1p v1q v1r v1s v1t v1u v1v v1w v1x
 (fun v1y v1z => K0 v1z [] v1y)
 (fun v20 v21 v22 v23 => sel (decide (v22 = List.length v23))
 (K0 v21 v23 v20)
 (sel (decide (0 + v22 ≤ List.length v23))
 (K0 v21 (List.take v22 (List.drop 0 v23)) v20)
 (none)))))
 (ints_Check v2 v3 v4 v5
 (fun v24 => sel (!v24)
 (fano_row_j3 true v0 v1 v2 v3 v4 v5 v6 v7 0
 (fun v25 v26 => K0 v26 [] v25)
 (fun v27 v28 v29 v2a v2b v2c v2d v2e v2f => fano_row_j4 v27 v28 v29 v2a v2b v2c v2d v2e v2f
 (fun v2g v2h => K0 v2h [] v2g)
 (fun v2i v2j v2k v2l => sel (decide (v2k = List.length v2l))
 (K0 v2j v2l v2i)
 (sel (decide (0 + v2k ≤ List.length v2l))
 (K0 v2j (List.take v2k (List.drop 0 v2l)) v2i)
 (none)))))
 (bits_Check v6 v7
 (fun v2m => fano_row_j3 (!v2m) v0 v1 v2 v3 v4 v5 v6 v7 0
 (fun v2n v2o => K0 v2o [] v2n)
 (fun v2p v2q v2r v2s v2t v2u v2v v2w v2x => fano_row_j4 v2p v2q v2r v2s v2t v2u v2v v2w v2x
 (fun v2y v2z => K0 v2z [] v2y)
 (fun v30 v31 v32 v33 => sel (decide (v32 = List.length v33))
 (K0 v31 v33 v30)
 (sel (decide (0 + v32 ≤ List.length v33))
 (K0 v31 (List.take v32 (List.drop 0 v33)) v30)
 (none)))))))))))
noncomputable def fano_row {R : Type} := shut (@fano_row_B R)
theorem fano_row_unf {R : Type} : @fano_row R = @fano_row_B R := shut_eq _

noncomputable def fano_Check_B {R : Type} (v0 v1 v2 v3 v4 : Int) (v5 : List Int) (v6 : Int) (v7 : List Int) (K0 : Bool → Option R) : Option R :=
 fano_row v0 v1 v2 v3 v4 v5 v6 v7
 (fun _ _ va => K0 va)
noncomputable def fano_Check {R : Type} := shut (@fano_Check_B R)
theorem fano_Check_unf {R : Type} : @fano_Check R = @fano_Check_B R := shut_eq _

noncomputable def fano_place_l5_T {R : Type} (rec : Int → Int → Int → Int → List Int → Int → Int → Int → Int → Int → Int → Int → List Int → Int → List Int → Option R) (v0 v1 v2 v3 : Int) (v4 : List Int) (v5 v6 v7 v8 v9 va vb : Int) (vc : List Int) (vd : Int) (ve : List Int) (K0 : Int → Int → Int → Int → Int → Int → Int → Int → List Int → Int → List Int → Option R) : Option R :=
 sel (decide (v6 < v5))
 (sel (decide (0 ≤ v6))
 (sel (decide (v6 < (↑(List.length v4) : Int)))
 (word_Pop (List.getD v4 (Int.toNat v6) 0)
 (fun vf => sel (decide (vf ≤ v2))
 (rec v0 v1 (subW .i64 v2 vf) (addW .i64 v3 64) v4 v5 (addW .i64 v6 1) v7 v8 v9 va vb vc vd ve)
 (word_Select (List.getD v4 (Int.toNat v6) 0) v2
 (fun vg => K0 v0 v1 (addW .i64 v3 vg) v7 v8 v9 va vb vc vd ve))))
 (none))
 (none))
 (K0 v0 v1 v3 v7 v8 v9 va vb vc vd ve)
noncomputable def fano_place_l5_L {R : Type} (K0 : Int → Int → Int → Int → Int → Int → Int → Int → List Int → Int → List Int → Option R) : Nat → Int → Int → Int → Int → List Int → Int → Int → Int → Int → Int → Int → Int → List Int → Int → List Int → Option R
 | 0, _, _, _, _, _, _, _, _, _, _, _, _, _, _, _ => none
 | N + 1, v0, v1, v2, v3, v4, v5, v6, v7, v8, v9, va, vb, vc, vd, ve => fano_place_l5_T (fano_place_l5_L K0 N) v0 v1 v2 v3 v4 v5 v6 v7 v8 v9 va vb vc vd ve K0
noncomputable def fano_place_l5_B {R : Type} (v0 v1 v2 v3 : Int) (v4 : List Int) (v5 v6 v7 v8 v9 va vb : Int) (vc : List Int) (vd : Int) (ve : List Int) (K0 : Int → Int → Int → Int → Int → Int → Int → Int → List Int → Int → List Int → Option R) : Option R :=
 fano_place_l5_L K0 NR v0 v1 v2 v3 v4 v5 v6 v7 v8 v9 va vb vc vd ve
noncomputable def fano_place_l5 {R : Type} := shut (@fano_place_l5_B R)
theorem fano_place_l5_unf {R : Type} : @fano_place_l5 R = @fano_place_l5_B R := shut_eq _

noncomputable def ints_has_j5_B {R : Type} (v0 : Bool) (K0 : Int → Option R) (K1 : Unit → Option R) : Option R :=
 sel v0
 (K0 3)
 (K1 ())
noncomputable def ints_has_j5 {R : Type} := shut (@ints_has_j5_B R)
theorem ints_has_j5_unf {R : Type} : @ints_has_j5 R = @ints_has_j5_B R := shut_eq _

noncomputable def ints_has_B {R : Type} (v0 v1 v2 : Int) (v3 : List Int) (v4 : Int) (K0 : Int → Option R) (K1 : Unit → Option R) : Option R :=
 ints_Check v0 v1 v2 v3
 (fun v5 => sel (!v5)
 (K0 2)
 (sel (decide (v4 < 0))
 (ints_has_j5 true
 (fun v6 => K0 v6)
 (fun _ => K1 ()))
 (ints_has_j5 (decide (v0 ≤ v4))
 (fun v7 => K0 v7)
 (fun _ => K1 ()))))
noncomputable def ints_has {R : Type} := shut (@ints_has_B R)
theorem ints_has_unf {R : Type} : @ints_has R = @ints_has_B R := shut_eq _

noncomputable def ints_Get_B {R : Type} (v0 v1 v2 : Int) (v3 : List Int) (v4 : Int) (K0 : Int → Int → Option R) : Option R :=
 ints_has v0 v1 v2 v3 v4
 (fun v5 => K0 0 v5)
 (fun _ => bits_Slice v2 v3 (mulW .i64 v4 v1) v1
 (fun v6 v7 => K0 v6 v7))
noncomputable def ints_Get {R : Type} := shut (@ints_Get_B R)
theorem ints_Get_unf {R : Type} : @ints_Get R = @ints_Get_B R := shut_eq _

noncomputable def fano_place_B {R : Type} (v0 v1 v2 v3 v4 : Int) (v5 : List Int) (v6 : Int) (v7 : List Int) (v8 : Int) (K0 : Int → Option R) : Option R :=
 fano_width v0 v1
 (fun v9 => fano_place_l5 v8 v9 v8 0 v7 ((↑(List.length v7) : Int)) 0 v0 v1 v2 v3 v4 v5 v6 v7
 (fun va vb vc _ _ vf vg vh vi _ _ => sel (decide (0 ≤ vb))
 (sel (decide (0 < vb))
 (ints_Get vf vg vh vi va
 (fun vl _ => K0 (orW .i64 (shlW .i64 (subW .i64 vc va) vb) (cvtW .i64 vl))))
 (K0 (shlW .i64 (subW .i64 vc va) vb)))
 (none)))
noncomputable def fano_place {R : Type} := shut (@fano_place_B R)
theorem fano_place_unf {R : Type} : @fano_place R = @fano_place_B R := shut_eq _

noncomputable def fano_ones_l3_T {R : Type} (rec : Int → Int → Int → Int → Int → Int → Int → Int → List Int → Int → List Int → Option R) (v0 v1 v2 v3 v4 v5 v6 v7 : Int) (v8 : List Int) (v9 : Int) (va : List Int) (K0 : Int → Option R) : Option R :=
 sel (decide (v1 < v2))
 (fano_place v3 v4 v5 v6 v7 v8 v9 va (quoW .i64 (addW .i64 v1 v2) 2)
 (fun vb => sel (decide (vb < v0))
 (rec v0 (addW .i64 (quoW .i64 (addW .i64 v1 v2) 2) 1) v2 v3 v4 v5 v6 v7 v8 v9 va)
 (rec v0 v1 (quoW .i64 (addW .i64 v1 v2) 2) v3 v4 v5 v6 v7 v8 v9 va)))
 (K0 v1)
noncomputable def fano_ones_l3_L {R : Type} (K0 : Int → Option R) : Nat → Int → Int → Int → Int → Int → Int → Int → Int → List Int → Int → List Int → Option R
 | 0, _, _, _, _, _, _, _, _, _, _, _ => none
 | N + 1, v0, v1, v2, v3, v4, v5, v6, v7, v8, v9, va => fano_ones_l3_T (fano_ones_l3_L K0 N) v0 v1 v2 v3 v4 v5 v6 v7 v8 v9 va K0
noncomputable def fano_ones_l3_B {R : Type} (v0 v1 v2 v3 v4 v5 v6 v7 : Int) (v8 : List Int) (v9 : Int) (va : List Int) (K0 : Int → Option R) : Option R :=
 fano_ones_l3_L K0 NR v0 v1 v2 v3 v4 v5 v6 v7 v8 v9 va
noncomputable def fano_ones_l3 {R : Type} := shut (@fano_ones_l3_B R)
theorem fano_ones_l3_unf {R : Type} : @fano_ones_l3 R = @fano_ones_l3_B R := shut_eq _

noncomputable def fano_ones_B {R : Type} (v0 v1 v2 v3 v4 : Int) (v5 : List Int) (v6 : Int) (v7 : List Int) (v8 : Int) (K0 : Int → Option R) : Option R :=
 fano_ones_l3 v8 0 v1 v0 v1 v2 v3 v4 v5 v6 v7
 (fun v9 => K0 v9)
noncomputable def fano_ones {R : Type} := shut (@fano_ones_B R)
theorem fano_ones_unf {R : Type} : @fano_ones R = @fano_ones_B R := shut_eq _

noncomputable def fano_Access_j6_B {R : Type} (v0 v1 v2 v3 v4 v5 : Int) (v6 : List Int) (v7 : Int) (v8 : List Int) (K0 : Bool → Int → Option R) : Option R :=
 fano_ones v1 v2 v3 v4 v5 v6 v7 v8 (addW .i64 v0 1)
 (fun v9 => fano_ones v1 v2 v3 v4 v5 v6 v7 v8 v0
 (fun va => K0 (decide (va < v9)) 0))
noncomputable def fano_Access_j6 {R : Type} := shut (@fano_Access_j6_B R)
theorem fano_Access_j6_unf {R : Type} : @fano_Access_j6 R = @fano_Access_j6_B R := shut_eq _

noncomputable def fano_Access_B {R : Type} (v0 v1 v2 v3 v4 : Int) (v5 : List Int) (v6 : Int) (v7 : List Int) (v8 : Int) (K0 : Bool → Int → Option R) : Option R :=
 fano_Check v0 v1 v2 v3 v4 v5 v6 v7
 (fun v9 => sel (!v9)
 (K0 false 2)
 (sel (decide (v8 < 0))
 (K0 false 3)
 (sel (decide (v0 ≤ v8))
 (K0 false 3)
 (fano_Access_j6 v8 v0 v1 v2 v3 v4 v5 v6 v7
 (fun va vb => K0 va vb)))))
noncomputable def fano_Access {R : Type} := shut (@fano_Access_B R)
theorem fano_Access_unf {R : Type} : @fano_Access R = @fano_Access_B R := shut_eq _

noncomputable def fano_Rank_j6_B {R : Type} (v0 : Bool) (v1 v2 v3 v4 v5 v6 : Int) (v7 : List Int) (v8 : Int) (v9 : List Int) (K0 : Int → Int → Option R) : Option R :=
 fano_ones v2 v3 v4 v5 v6 v7 v8 v9 v1
 (fun va => sel (!v0)
 (K0 (subW .i64 v1 va) 0)
 (K0 va 0))
noncomputable def fano_Rank_j6 {R : Type} := shut (@fano_Rank_j6_B R)
theorem fano_Rank_j6_unf {R : Type} : @fano_Rank_j6 R = @fano_Rank_j6_B R := shut_eq _

noncomputable def fano_Rank_B {R : Type} (v0 v1 v2 v3 v4 : Int) (v5 : List Int) (v6 : Int) (v7 : List Int) (v8 : Bool) (v9 : Int) (K0 : Int → Int → Option R) : Option R :=
 fano_Check v0 v1 v2 v3 v4 v5 v6 v7
 (fun va => sel (!va)
 (K0 0 2)
 (sel (decide (v9 < 0))
 (K0 0 3)
 (sel (decide (v0 < v9))
 (K0 0 3)
 (fano_Rank_j6 v8 v9 v0 v1 v2 v3 v4 v5 v6 v7
 (fun vb vc => K0 vb vc)))))
noncomputable def fano_Rank {R : Type} := shut (@fano_Rank_B R)
theorem fano_Rank_unf {R : Type} : @fano_Rank R = @fano_Rank_B R := shut_eq _

noncomputable def fano_Select_j8_B {R : Type} (v0 : Bool) (v1 : Int) (v2 : Bool) (v3 v4 v5 v6 v7 : Int) (v8 : List Int) (v9 : Int) (va : List Int) (K0 : Int → Int → Option R) (K1 : Int → Int → Int → Int → Int → Int → List Int → Int → List Int → Option R) : Option R :=
 sel v2
 (K0 0 3)
 (sel v0
 (fano_place v3 v4 v5 v6 v7 v8 v9 va v1
 (fun vb => K0 vb 0))
 (K1 v1 v3 v4 v5 v6 v7 v8 v9 va))
noncomputable def fano_Select_j8 {R : Type} := shut (@fano_Select_j8_B R)
theorem fano_Select_j8_unf {R : Type} : @fano_Select_j8 R = @fano_Select_j8_B R := shut_eq _

noncomputable def fano_Select_l12_T {R : Type} (rec : Int → Int → Int → Int → Int → Int → Int → Int → List Int → Int → List Int → Option R) (v0 v1 v2 v3 v4 v5 v6 v7 : Int) (v8 : List Int) (v9 : Int) (va : List Int) (K0 : Int → Option R) : Option R :=
 sel (decide (v1 < v2))
 (fano_ones v3 v4 v5 v6 v7 v8 v9 va (addW .i64 (quoW .i64 (addW .i64 v1 v2) 2) 1)
 (fun vb => sel (decide (subW .i64 (addW .i64 (quoW .i64 (addW .i64 v1 v2) 2) 1) vb ≤ v0))
 (rec v0 (addW .i64 (quoW .i64 (addW .i64 v1 v2) 2) 1) v2 v3 v4 v5 v6 v7 v8 v9 va)
 (rec v0 v1 (quoW .i64 (addW .i64 v1 v2) 2) v3 v4 v5 v6 v7 v8 v9 va)))
 (K0 v1)
noncomputable def fano_Select_l12_L {R : Type} (K0 : Int → Option R) : Nat → Int → Int → Int → Int → Int → Int → Int → Int → List Int → Int → List Int → Option R
 | 0, _, _, _, _, _, _, _, _, _, _, _ => none
 | N + 1, v0, v1, v2, v3, v4, v5, v6, v7, v8, v9, va => fano_Select_l12_T (fano_Select_l12_L K0 N) v0 v1 v2 v3 v4 v5 v6 v7 v8 v9 va K0
noncomputable def fano_Select_l12_B {R : Type} (v0 v1 v2 v3 v4 v5 v6 v7 : Int) (v8 : List Int) (v9 : Int) (va : List Int) (K0 : Int → Option R) : Option R :=
 fano_Select_l12_L K0 NR v0 v1 v2 v3 v4 v5 v6 v7 v8 v9 va
noncomputable def fano_Select_l12 {R : Type} := shut (@fano_Select_l12_B R)
theorem fano_Select_l12_unf {R : Type} : @fano_Select_l12 R = @fano_Select_l12_B R := shut_eq _

noncomputable def fano_Select_j11_B {R : Type} (v0 v1 v2 v3 v4 v5 : Int) (v6 : List Int) (v7 : Int) (v8 : List Int) (K0 : Int → Int → Option R) : Option R :=
 fano_Select_l12 v0 0 (subW .i64 v1 1) v1 v2 v3 v4 v5 v6 v7 v8
 (fun v9 => K0 v9 0)
noncomputable def fano_Select_j11 {R : Type} := shut (@fano_Select_j11_B R)
theorem fano_Select_j11_unf {R : Type} : @fano_Select_j11 R = @fano_Select_j11_B R := shut_eq _

noncomputable def fano_Select_j5_B {R : Type} (v0 : Bool) (v1 v2 v3 v4 v5 v6 v7 : Int) (v8 : List Int) (v9 : Int) (va : List Int) (K0 : Int → Int → Option R) : Option R :=
 fano_Check v3 v4 v5 v6 v7 v8 v9 va
 (fun vb => sel (!vb)
 (K0 0 2)
 (sel (decide (v1 < 0))
 (fano_Select_j8 v0 v1 true v3 v4 v5 v6 v7 v8 v9 va
 (fun vc vd => K0 vc vd)
 (fun ve vf vg vh vi vj vk vl vm => fano_Select_j11 ve vf vg vh vi vj vk vl vm
 (fun vn vo => K0 vn vo)))
 (fano_Select_j8 v0 v1 (decide (v2 ≤ v1)) v3 v4 v5 v6 v7 v8 v9 va
 (fun vp vq => K0 vp vq)
 (fun vr vs vt vu vv vw vx vy vz => fano_Select_j11 vr vs vt vu vv vw vx vy vz
 (fun v10 v11 => K0 v10 v11)))))
noncomputable def fano_Select_j5 {R : Type} := shut (@fano_Select_j5_B R)
theorem fano_Select_j5_unf {R : Type} : @fano_Select_j5 R = @fano_Select_j5_B R := shut_eq _

noncomputable def fano_Select_B {R : Type} (v0 v1 v2 v3 v4 : Int) (v5 : List Int) (v6 : Int) (v7 : List Int) (v8 : Bool) (v9 : Int) (K0 : Int → Int → Option R) : Option R :=
 sel (!v8)
 (fano_Select_j5 v8 v9 (subW .i64 v0 v1) v0 v1 v2 v3 v4 v5 v6 v7
 (fun va vb => K0 va vb))
 (fano_Select_j5 v8 v9 v1 v0 v1 v2 v3 v4 v5 v6 v7
 (fun vc vd => K0 vc vd))
noncomputable def fano_Select {R : Type} := shut (@fano_Select_B R)
theorem fano_Select_unf {R : Type} : @fano_Select R = @fano_Select_B R := shut_eq _

noncomputable def fano_Size_B {R : Type} (v0 v1 v2 v3 v4 : Int) (v5 : List Int) (v6 : Int) (v7 : List Int) (K0 : Int → Option R) : Option R :=
 fano_Check v0 v1 v2 v3 v4 v5 v6 v7
 (fun v8 => sel (!v8)
 (K0 0)
 (K0 (addW .i64 (addW .i64 v4 v6) 64)))
noncomputable def fano_Size {R : Type} := shut (@fano_Size_B R)
theorem fano_Size_unf {R : Type} : @fano_Size R = @fano_Size_B R := shut_eq _

noncomputable def fano_Bits_B {R : Type} (v0 v1 v2 v3 v4 : Int) (v5 : List Int) (v6 : Int) (v7 : List Int) (K0 : Int → List Int → Option R) : Option R :=
 fano_row v0 v1 v2 v3 v4 v5 v6 v7
 (fun v8 v9 _ => K0 v8 v9)
noncomputable def fano_Bits {R : Type} := shut (@fano_Bits_B R)
theorem fano_Bits_unf {R : Type} : @fano_Bits R = @fano_Bits_B R := shut_eq _

noncomputable def haystackref02_Same_l5_T {R : Type} (rec : Int → List Int → Int → List Int → Int → Nat → Option R) (v0 : Int) (v1 : List Int) (v2 : Int) (v3 : List Int) (v4 : Int) (v5 : Nat) (K0 : Bool → List Int → Option R) (K1 : List Int → Option R) : Option R :=
 sel (decide (v0 < (↑(List.length v3) : Int)))
 (sel (decide (0 ≤ v0))
 (sel (decide (v0 < (↑(List.length v3) : Int)))
 (sel (decide (0 ≤ v0))
 (sel (decide (v0 < (↑v5 : Int)))
 (sel (decide (Int.toNat v0 < List.length v1))
 (sel (!decide (List.getD v3 (Int.toNat v0) 0 = List.getD v1 (Int.toNat v0) 0))
 (K0 false v1)
 (rec (addW .i64 v0 1) v1 v2 v3 v4 v5))
 (none))
 (none))
 (none))
 (none))
 (none))
 (K1 v1)
noncomputable def haystackref02_Same_l5_L {R : Type} (K0 : Bool → List Int → Option R) (K1 : List Int → Option R) : Nat → Int → List Int → Int → List Int → Int → Nat → Option R
 | 0, _, _, _, _, _, _ => none
 | N + 1, v0, v1, v2, v3, v4, v5 => haystackref02_Same_l5_T (haystackref02_Same_l5_L K0 K1 N) v0 v1 v2 v3 v4 v5 K0 K1
noncomputable def haystackref02_Same_l5_B {R : Type} (v0 : Int) (v1 : List Int) (v2 : Int) (v3 : List Int) (v4 : Int) (v5 : Nat) (K0 : Bool → List Int → Option R) (K1 : List Int → Option R) : Option R :=
 haystackref02_Same_l5_L K0 K1 NR v0 v1 v2 v3 v4 v5
noncomputable def haystackref02_Same_l5 {R : Type} := shut (@haystackref02_Same_l5_B R)
theorem haystackref02_Same_l5_unf {R : Type} : @haystackref02_Same_l5 R = @haystackref02_Same_l5_B R := shut_eq _

noncomputable def haystackref02_Same_j4_B {R : Type} (v0 : List Int) (v1 : Int) (v2 : List Int) (v3 : Int) (v4 : Nat) (K0 : Bool → List Int → Option R) : Option R :=
 haystackref02_Same_l5 0 v0 v1 v2 v3 v4
 (fun v5 v6 => K0 v5 v6)
 (fun v7 => K0 true v7)
noncomputable def haystackref02_Same_j4 {R : Type} := shut (@haystackref02_Same_j4_B R)
theorem haystackref02_Same_j4_unf {R : Type} : @haystackref02_Same_j4 R = @haystackref02_Same_j4_B R := shut_eq _

noncomputable def haystackref02_Same_r_B {R : Type} (v0 : Int) (v1 : List Int) (v2 : Int) (v3 : Nat) (v4 : List Int) (K0 : Bool → List Int → Option R) : Option R :=
 sel (!decide (v0 = v2))
 (K0 false v4)
 (sel (!decide ((↑(List.length v1) : Int) = (↑v3 : Int)))
 (K0 false v4)
 (haystackref02_Same_j4 v4 v0 v1 v2 v3
 (fun v5 v6 => K0 v5 v6)))
noncomputable def haystackref02_Same_r {R : Type} := shut (@haystackref02_Same_r_B R)
theorem haystackref02_Same_r_unf {R : Type} : @haystackref02_Same_r R = @haystackref02_Same_r_B R := shut_eq _

noncomputable def haystacklaw09_heads_j4_B {R : Type} (v0 : Int) (v1 : Bool) (v2 v3 v4 v5 v6 v7 v8 : Int) (K0 : Bool → Option R) : Option R :=
 fano_Rank v3 v4 v5 v6 v7 [] v8 [] true 4
 (fun v9 va => fano_Select v3 v4 v5 v6 v7 [] v8 [] true 2
 (fun vb vc => fano_Select v3 v4 v5 v6 v7 [] v8 [] false 1
 (fun vd ve => fano_Select v3 v4 v5 v6 v7 [] v8 [] true 3
 (fun _ vg => fano_Build 1 []
 (fun _ _ _ _ _ _ _ _ vp => sel (decide (v0 = 0))
 (sel v1
 (sel (decide (v2 = 0))
 (sel (decide (v9 = 2))
 (sel (decide (va = 0))
 (sel (decide (vb = 4))
 (sel (decide (vc = 0))
 (sel (decide (vd = 3))
 (sel (decide (ve = 0))
 (sel (decide (vg = 3))
 (sel (decide (vp = 2))
 (fano_Check v3 v4 v5 v6 v7 [] v8 []
 (fun vq => sel vq
 (fano_Size v3 v4 v5 v6 v7 [] v8 []
 (fun vr => sel (decide (0 < vr))
 (fano_Bits v3 v4 v5 v6 v7 [] v8 []
 (fun vs vt => haystackref02_Same_r vs vt 5 1 ([22])
 (fun vu _ => K0 vu)))
 (none)))
 (none)))
 (none))
 (none))
 (none))
 (none))
 (none))
 (none))
 (none))
 (none))
 (none))
 (none))
 (none))))))
noncomputable def haystacklaw09_heads_j4 {R : Type} := shut (@haystacklaw09_heads_j4_B R)
theorem haystacklaw09_heads_j4_unf {R : Type} : @haystacklaw09_heads_j4 R = @haystacklaw09_heads_j4_B R := shut_eq _

noncomputable def haystacklaw09_heads_j4_1_B {R : Type} (v0 : Int) (v1 : Bool) (v2 v3 v4 v5 v6 v7 v8 : Int) (v9 : List Int) (K0 : Bool → Option R) : Option R :=
 fano_Rank v3 v4 v5 v6 v7 [] v8 v9 true 4
 (fun va vb => fano_Select v3 v4 v5 v6 v7 [] v8 v9 true 2
 (fun vc vd => fano_Select v3 v4 v5 v6 v7 [] v8 v9 false 1
 (fun ve vf => fano_Select v3 v4 v5 v6 v7 [] v8 v9 true 3
 (fun _ vh => fano_Build 1 []
 (fun _ _ _ _ _ _ _ _ vq => sel (decide (v0 = 0))
 (sel v1
 (sel (decide (v2 = 0))
 (sel (decide (va = 2))
 (sel (decide (vb = 0))
 (sel (decide (vc = 4))
 (sel (decide (vd = 0))
 (sel (decide (ve = 3))
 (sel (decide (vf = 0))
 (sel (decide (vh = 3))
 (sel (decide (vq = 2))
 (fano_Check v3 v4 v5 v6 v7 [] v8 v9
 (fun vr => sel vr
 (fano_Size v3 v4 v5 v6 v7 [] v8 v9
 (fun vs => sel (decide (0 < vs))
 (fano_Bits v3 v4 v5 v6 v7 [] v8 v9
 (fun vt vu => haystackref02_Same_r vt vu 5 1 ([22])
 (fun vv _ => K0 vv)))
 (none)))
 (none)))
 (none))
 (none))
 (none))
 (none))
 (none))
 (none))
 (none))
 (none))
 (none))
 (none))
 (none))))))
noncomputable def haystacklaw09_heads_j4_1 {R : Type} := shut (@haystacklaw09_heads_j4_1_B R)
theorem haystacklaw09_heads_j4_1_unf {R : Type} : @haystacklaw09_heads_j4_1 R = @haystacklaw09_heads_j4_1_B R := shut_eq _

noncomputable def haystacklaw09_heads_j4_2_B {R : Type} (v0 : Int) (v1 : Bool) (v2 v3 v4 v5 v6 v7 : Int) (v8 : List Int) (v9 : Int) (K0 : Bool → Option R) : Option R :=
 fano_Rank v3 v4 v5 v6 v7 v8 v9 [] true 4
 (fun va vb => fano_Select v3 v4 v5 v6 v7 v8 v9 [] true 2
 (fun vc vd => fano_Select v3 v4 v5 v6 v7 v8 v9 [] false 1
 (fun ve vf => fano_Select v3 v4 v5 v6 v7 v8 v9 [] true 3
 (fun _ vh => fano_Build 1 []
 (fun _ _ _ _ _ _ _ _ vq => sel (decide (v0 = 0))
 (sel v1
 (sel (decide (v2 = 0))
 (sel (decide (va = 2))
 (sel (decide (vb = 0))
 (sel (decide (vc = 4))
 (sel (decide (vd = 0))
 (sel (decide (ve = 3))
 (sel (decide (vf = 0))
 (sel (decide (vh = 3))
 (sel (decide (vq = 2))
 (fano_Check v3 v4 v5 v6 v7 v8 v9 []
 (fun vr => sel vr
 (fano_Size v3 v4 v5 v6 v7 v8 v9 []
 (fun vs => sel (decide (0 < vs))
 (fano_Bits v3 v4 v5 v6 v7 v8 v9 []
 (fun vt vu => haystackref02_Same_r vt vu 5 1 ([22])
 (fun vv _ => K0 vv)))
 (none)))
 (none)))
 (none))
 (none))
 (none))
 (none))
 (none))
 (none))
 (none))
 (none))
 (none))
 (none))
 (none))))))
noncomputable def haystacklaw09_heads_j4_2 {R : Type} := shut (@haystacklaw09_heads_j4_2_B R)
theorem haystacklaw09_heads_j4_2_unf {R : Type} : @haystacklaw09_heads_j4_2 R = @haystacklaw09_heads_j4_2_B R := shut_eq _

noncomputable def haystacklaw09_heads_j4_3_B {R : Type} (v0 : Int) (v1 : Bool) (v2 v3 v4 v5 v6 v7 : Int) (v8 : List Int) (v9 : Int) (va : List Int) (K0 : Bool → Option R) : Option R :=
 fano_Rank v3 v4 v5 v6 v7 v8 v9 va true 4
 (fun vb vc => fano_Select v3 v4 v5 v6 v7 v8 v9 va true 2
 (fun vd ve => fano_Select v3 v4 v5 v6 v7 v8 v9 va false 1
 (fun vf vg => fano_Select v3 v4 v5 v6 v7 v8 v9 va true 3
 (fun _ vi => fano_Build 1 []
 (fun _ _ _ _ _ _ _ _ vr => sel (decide (v0 = 0))
 (sel v1
 (sel (decide (v2 = 0))
 (sel (decide (vb = 2))
 (sel (decide (vc = 0))
 (sel (decide (vd = 4))
 (sel (decide (ve = 0))
 (sel (decide (vf = 3))
 (sel (decide (vg = 0))
 (sel (decide (vi = 3))
 (sel (decide (vr = 2))
 (fano_Check v3 v4 v5 v6 v7 v8 v9 va
 (fun vs => sel vs
 (fano_Size v3 v4 v5 v6 v7 v8 v9 va
 (fun vt => sel (decide (0 < vt))
 (fano_Bits v3 v4 v5 v6 v7 v8 v9 va
 (fun vu vv => haystackref02_Same_r vu vv 5 1 ([22])
 (fun vw _ => K0 vw)))
 (none)))
 (none)))
 (none))
 (none))
 (none))
 (none))
 (none))
 (none))
 (none))
 (none))
 (none))
 (none))
 (none))))))
noncomputable def haystacklaw09_heads_j4_3 {R : Type} := shut (@haystacklaw09_heads_j4_3_B R)
theorem haystacklaw09_heads_j4_3_unf {R : Type} : @haystacklaw09_heads_j4_3 R = @haystacklaw09_heads_j4_3_B R := shut_eq _

noncomputable def haystacklaw09_heads_B {R : Type} (K0 : Bool → Option R) : Option R :=
 fano_Build_r 5 1 ([22])
 (fun v0 v1 v2 v3 v4 v5 v6 _ => fano_Access v0 v1 v2 v3 v4 [] v5 [] 4
 (fun v8 v9 => haystacklaw09_heads_j4 v6 v8 v9 v0 v1 v2 v3 v4 v5
 (fun va => K0 va)))
 (fun vb vc vd ve vf vg vh vi _ vk => sel (decide (vh = List.length vk))
 (fano_Access vb vc vd ve vf [] vg vk 4
 (fun vl vm => haystacklaw09_heads_j4_1 vi vl vm vb vc vd ve vf vg vk
 (fun vn => K0 vn)))
 (none))
 (fun vo vp vq vr vs vt vu vv _ => fano_Access vo vp vq vr vs vt vu [] 4
 (fun vx vy => haystacklaw09_heads_j4_2 vv vx vy vo vp vq vr vs vt vu
 (fun vz => K0 vz)))
 (fun v10 v11 v12 v13 v14 v15 v16 v17 v18 _ v1a => sel (decide (v17 = List.length v1a))
 (fano_Access v10 v11 v12 v13 v14 v15 v16 v1a 4
 (fun v1b v1c => haystacklaw09_heads_j4_3 v18 v1b v1c v10 v11 v12 v13 v14 v15 v16 v1a
 (fun v1d => K0 v1d)))
 (none))
noncomputable def haystacklaw09_heads {R : Type} := shut (@haystacklaw09_heads_B R)
theorem haystacklaw09_heads_unf {R : Type} : @haystacklaw09_heads R = @haystacklaw09_heads_B R := shut_eq _

noncomputable def haystackref02_Words_B {R : Type} (v0 : Int) (K0 : Int → Option R) : Option R :=
 K0 (quoW .i64 (addW .i64 v0 63) 64)
noncomputable def haystackref02_Words {R : Type} := shut (@haystackref02_Words_B R)
theorem haystackref02_Words_unf {R : Type} : @haystackref02_Words R = @haystackref02_Words_B R := shut_eq _

noncomputable def haystackref01_Mask_j6_B {R : Type} (v0 v1 v2 : Int) (K0 : Int → Int → Int → Option R) : Option R :=
 sel (decide (0 ≤ cvtW .u64 v2))
 (K0 v0 (orW .u64 v1 (shlW .u64 1 (cvtW .u64 v2))) (addW .i64 v2 1))
 (none)
noncomputable def haystackref01_Mask_j6 {R : Type} := shut (@haystackref01_Mask_j6_B R)
theorem haystackref01_Mask_j6_unf {R : Type} : @haystackref01_Mask_j6 R = @haystackref01_Mask_j6_B R := shut_eq _

noncomputable def haystackref01_Mask_l4_T {R : Type} (rec : Int → Int → Int → Option R) (v0 v1 v2 : Int) (K0 : Int → Option R) : Option R :=
 sel (decide (v2 < 64))
 (sel (decide (v2 < v0))
 (haystackref01_Mask_j6 v0 v1 v2
 (fun v3 v4 v5 => rec v3 v4 v5))
 (K0 v1))
 (K0 v1)
noncomputable def haystackref01_Mask_l4_L {R : Type} (K0 : Int → Option R) : Nat → Int → Int → Int → Option R
 | 0, _, _, _ => none
 | N + 1, v0, v1, v2 => haystackref01_Mask_l4_T (haystackref01_Mask_l4_L K0 N) v0 v1 v2 K0
noncomputable def haystackref01_Mask_l4_B {R : Type} (v0 v1 v2 : Int) (K0 : Int → Option R) : Option R :=
 haystackref01_Mask_l4_L K0 NR v0 v1 v2
noncomputable def haystackref01_Mask_l4 {R : Type} := shut (@haystackref01_Mask_l4_B R)
theorem haystackref01_Mask_l4_unf {R : Type} : @haystackref01_Mask_l4 R = @haystackref01_Mask_l4_B R := shut_eq _

noncomputable def haystackref01_Mask_B {R : Type} (v0 : Int) (K0 : Int → Option R) : Option R :=
 haystackref01_Mask_l4 v0 0 0
 (fun v1 => K0 v1)
noncomputable def haystackref01_Mask {R : Type} := shut (@haystackref01_Mask_B R)
theorem haystackref01_Mask_unf {R : Type} : @haystackref01_Mask R = @haystackref01_Mask_B R := shut_eq _

noncomputable def haystackref02_Check_j4_B {R : Type} (v0 : Int) (v1 : List Int) (K0 : Bool → Option R) : Option R :=
 sel (decide (remW v0 64 = 0))
 (K0 true)
 (sel (decide (0 ≤ subW .i64 (↑(List.length v1) : Int) 1))
 (sel (decide (subW .i64 (↑(List.length v1) : Int) 1 < (↑(List.length v1) : Int)))
 (haystackref01_Mask (remW v0 64)
 (fun v2 => letV (decide (andNotW .u64 (List.getD v1 (Int.toNat (subW .i64 (↑(List.length v1) : Int) 1)) 0) v2 = 0)) (fun (v3 : Bool) =>
 K0 v3)))
 (none))
 (none))
noncomputable def haystackref02_Check_j4 {R : Type} := shut (@haystackref02_Check_j4_B R)
theorem haystackref02_Check_j4_unf {R : Type} : @haystackref02_Check_j4 R = @haystackref02_Check_j4_B R := shut_eq _

noncomputable def haystackref02_Check_B {R : Type} (v0 : Int) (v1 : List Int) (K0 : Bool → Option R) : Option R :=
 sel (decide (v0 < 0))
 (K0 false)
 (sel (decide (1048576 < v0))
 (K0 false)
 (haystackref02_Words v0
 (fun v2 => sel (!decide ((↑(List.length v1) : Int) = v2))
 (K0 false)
 (haystackref02_Check_j4 v0 v1
 (fun v3 => K0 v3)))))
noncomputable def haystackref02_Check {R : Type} := shut (@haystackref02_Check_B R)
theorem haystackref02_Check_unf {R : Type} : @haystackref02_Check R = @haystackref02_Check_B R := shut_eq _

noncomputable def haystacklaw09_FanoCounts_j4_B {R : Type} (v0 v1 : Int) (v2 : List Int) (K0 : Bool → Option R) : Option R :=
 fano_Build v1 v2
 (fun v3 v4 v5 v6 v7 v8 v9 va vb => fano_Rank v3 v4 v5 v6 v7 v8 v9 va true v0
 (fun vc vd => fano_Rank v3 v4 v5 v6 v7 v8 v9 va false v0
 (fun ve vf => fano_Rank v3 v4 v5 v6 v7 v8 v9 va true (addW .i64 v0 1)
 (fun vg vh => fano_Access v3 v4 v5 v6 v7 v8 v9 va v0
 (fun vi vj => sel (decide (vb = 0))
 (sel (decide (vd = 0))
 (sel (decide (vf = 0))
 (sel (decide (vh = 0))
 (sel (decide (vj = 0))
 (sel (decide (addW .i64 vc ve = v0))
 (sel (decide (vg = addW .i64 vc 1) == vi)
 (sel (decide (vg = vc) == !vi)
 (haystacklaw09_heads 
 (fun vk => K0 vk))
 (K0 false))
 (K0 false))
 (K0 false))
 (K0 false))
 (K0 false))
 (K0 false))
 (K0 false))
 (K0 false))))))
noncomputable def haystacklaw09_FanoCounts_j4 {R : Type} := shut (@haystacklaw09_FanoCounts_j4_B R)
theorem haystacklaw09_FanoCounts_j4_unf {R : Type} : @haystacklaw09_FanoCounts_j4 R = @haystacklaw09_FanoCounts_j4_B R := shut_eq _

noncomputable def haystacklaw09_FanoCounts_B {R : Type} (v0 : Int) (v1 : List Int) (v2 : Int) (K0 : Bool → Option R) : Option R :=
 sel (decide (3000 < v0))
 (haystacklaw09_heads 
 (fun v3 => K0 v3))
 (sel (decide (3000 < (↑(List.length v1) : Int)))
 (haystacklaw09_heads 
 (fun v4 => K0 v4))
 (haystackref02_Check v0 v1
 (fun v5 => sel (!v5)
 (haystacklaw09_heads 
 (fun v6 => K0 v6))
 (sel (decide (v2 < 0))
 (haystacklaw09_heads 
 (fun v7 => K0 v7))
 (sel (decide (v0 ≤ v2))
 (haystacklaw09_heads 
 (fun v8 => K0 v8))
 (haystacklaw09_FanoCounts_j4 v2 v0 v1
 (fun v9 => K0 v9)))))))
noncomputable def haystacklaw09_FanoCounts {R : Type} := shut (@haystacklaw09_FanoCounts_B R)
theorem haystacklaw09_FanoCounts_unf {R : Type} : @haystacklaw09_FanoCounts R = @haystacklaw09_FanoCounts_B R := shut_eq _

noncomputable def haystackref02_At_B {R : Type} (_v0 : Int) (v1 : List Int) (v2 : Int) (K0 : Bool → Option R) : Option R :=
 sel (decide (0 ≤ quoW .i64 v2 64))
 (sel (decide (quoW .i64 v2 64 < (↑(List.length v1) : Int)))
 (sel (decide (0 ≤ cvtW .u64 (remW v2 64)))
 (letV (decide (remW (shrW .u64 (List.getD v1 (Int.toNat (quoW .i64 v2 64)) 0) (cvtW .u64 (remW v2 64))) 2 = 1)) (fun (v3 : Bool) =>
 K0 v3))
 (none))
 (none))
 (none)
noncomputable def haystackref02_At {R : Type} := shut (@haystackref02_At_B R)
theorem haystackref02_At_unf {R : Type} : @haystackref02_At R = @haystackref02_At_B R := shut_eq _

noncomputable def haystackref02_Ones_j6_B {R : Type} (v0 v1 v2 v3 : Int) (v4 : List Int) (K0 : Int → Int → Int → Int → List Int → Option R) : Option R :=
 haystackref02_At v3 v4 v2
 (fun v5 => sel v5
 (K0 v0 (addW .i64 v1 1) (addW .i64 v2 1) v3 v4)
 (K0 v0 v1 (addW .i64 v2 1) v3 v4))
noncomputable def haystackref02_Ones_j6 {R : Type} := shut (@haystackref02_Ones_j6_B R)
theorem haystackref02_Ones_j6_unf {R : Type} : @haystackref02_Ones_j6 R = @haystackref02_Ones_j6_B R := shut_eq _

noncomputable def haystackref02_Ones_l4_T {R : Type} (rec : Int → Int → Int → Int → List Int → Option R) (v0 v1 v2 v3 : Int) (v4 : List Int) (K0 : Int → Option R) : Option R :=
 sel (decide (v2 < v0))
 (sel (decide (v2 < v3))
 (haystackref02_Check v3 v4
 (fun v5 => sel v5
 (haystackref02_Ones_j6 v0 v1 v2 v3 v4
 (fun v6 v7 v8 v9 va => rec v6 v7 v8 v9 va))
 (K0 v1)))
 (K0 v1))
 (K0 v1)
noncomputable def haystackref02_Ones_l4_L {R : Type} (K0 : Int → Option R) : Nat → Int → Int → Int → Int → List Int → Option R
 | 0, _, _, _, _, _ => none
 | N + 1, v0, v1, v2, v3, v4 => haystackref02_Ones_l4_T (haystackref02_Ones_l4_L K0 N) v0 v1 v2 v3 v4 K0
noncomputable def haystackref02_Ones_l4_B {R : Type} (v0 v1 v2 v3 : Int) (v4 : List Int) (K0 : Int → Option R) : Option R :=
 haystackref02_Ones_l4_L K0 NR v0 v1 v2 v3 v4
noncomputable def haystackref02_Ones_l4 {R : Type} := shut (@haystackref02_Ones_l4_B R)
theorem haystackref02_Ones_l4_unf {R : Type} : @haystackref02_Ones_l4 R = @haystackref02_Ones_l4_B R := shut_eq _

noncomputable def haystackref02_Ones_B {R : Type} (v0 : Int) (v1 : List Int) (v2 : Int) (K0 : Int → Option R) : Option R :=
 haystackref02_Ones_l4 v2 0 0 v0 v1
 (fun v3 => K0 v3)
noncomputable def haystackref02_Ones {R : Type} := shut (@haystackref02_Ones_B R)
theorem haystackref02_Ones_unf {R : Type} : @haystackref02_Ones R = @haystackref02_Ones_B R := shut_eq _

noncomputable def haystacklaw09_FanoSizes_j4_B {R : Type} (v0 : Int) (v1 : List Int) (K0 : Bool → Option R) : Option R :=
 fano_Build v0 v1
 (fun v2 v3 v4 v5 v6 v7 v8 v9 va => sel (decide (va = 0))
 (haystackref02_Ones v0 v1 v0
 (fun vb => sel (decide (v3 = vb))
 (sel (decide (v2 = v0))
 (fano_Size v2 v3 v4 v5 v6 v7 v8 v9
 (fun vc => sel (decide (vc ≤ addW .i64 (mulW .i64 2 v0) 65))
 (sel (decide (addW .i64 v3 1 ≤ v8))
 (haystacklaw09_heads 
 (fun vd => K0 vd))
 (K0 false))
 (K0 false)))
 (K0 false))
 (K0 false)))
 (K0 false))
noncomputable def haystacklaw09_FanoSizes_j4 {R : Type} := shut (@haystacklaw09_FanoSizes_j4_B R)
theorem haystacklaw09_FanoSizes_j4_unf {R : Type} : @haystacklaw09_FanoSizes_j4 R = @haystacklaw09_FanoSizes_j4_B R := shut_eq _

noncomputable def haystacklaw09_FanoSizes_B {R : Type} (v0 : Int) (v1 : List Int) (K0 : Bool → Option R) : Option R :=
 sel (decide (3000 < v0))
 (haystacklaw09_heads 
 (fun v2 => K0 v2))
 (sel (decide (3000 < (↑(List.length v1) : Int)))
 (haystacklaw09_heads 
 (fun v3 => K0 v3))
 (haystackref02_Check v0 v1
 (fun v4 => sel (!v4)
 (haystacklaw09_heads 
 (fun v5 => K0 v5))
 (haystacklaw09_FanoSizes_j4 v0 v1
 (fun v6 => K0 v6)))))
noncomputable def haystacklaw09_FanoSizes {R : Type} := shut (@haystacklaw09_FanoSizes_B R)
theorem haystacklaw09_FanoSizes_unf {R : Type} : @haystacklaw09_FanoSizes R = @haystacklaw09_FanoSizes_B R := shut_eq _

noncomputable def haystackref02_Same_l5_1_T {R : Type} (rec : Int → Int → List Int → Int → List Int → Option R) (v0 v1 : Int) (v2 : List Int) (v3 : Int) (v4 : List Int) (K0 : Bool → Option R) (K1 : Unit → Option R) : Option R :=
 sel (decide (v0 < (↑(List.length v2) : Int)))
 (sel (decide (0 ≤ v0))
 (sel (decide (v0 < (↑(List.length v2) : Int)))
 (sel (decide (0 ≤ v0))
 (sel (decide (v0 < (↑(List.length v4) : Int)))
 (sel (!decide (List.getD v2 (Int.toNat v0) 0 = List.getD v4 (Int.toNat v0) 0))
 (K0 false)
 (rec (addW .i64 v0 1) v1 v2 v3 v4))
 (none))
 (none))
 (none))
 (none))
 (K1 ())
noncomputable def haystackref02_Same_l5_1_L {R : Type} (K0 : Bool → Option R) (K1 : Unit → Option R) : Nat → Int → Int → List Int → Int → List Int → Option R
 | 0, _, _, _, _, _ => none
 | N + 1, v0, v1, v2, v3, v4 => haystackref02_Same_l5_1_T (haystackref02_Same_l5_1_L K0 K1 N) v0 v1 v2 v3 v4 K0 K1
noncomputable def haystackref02_Same_l5_1_B {R : Type} (v0 v1 : Int) (v2 : List Int) (v3 : Int) (v4 : List Int) (K0 : Bool → Option R) (K1 : Unit → Option R) : Option R :=
 haystackref02_Same_l5_1_L K0 K1 NR v0 v1 v2 v3 v4
noncomputable def haystackref02_Same_l5_1 {R : Type} := shut (@haystackref02_Same_l5_1_B R)
theorem haystackref02_Same_l5_1_unf {R : Type} : @haystackref02_Same_l5_1 R = @haystackref02_Same_l5_1_B R := shut_eq _

noncomputable def haystackref02_Same_j4_1_B {R : Type} (v0 : Int) (v1 : List Int) (v2 : Int) (v3 : List Int) (K0 : Bool → Option R) : Option R :=
 haystackref02_Same_l5_1 0 v0 v1 v2 v3
 (fun v4 => K0 v4)
 (fun _ => K0 true)
noncomputable def haystackref02_Same_j4_1 {R : Type} := shut (@haystackref02_Same_j4_1_B R)
theorem haystackref02_Same_j4_1_unf {R : Type} : @haystackref02_Same_j4_1 R = @haystackref02_Same_j4_1_B R := shut_eq _

noncomputable def haystackref02_Same_B {R : Type} (v0 : Int) (v1 : List Int) (v2 : Int) (v3 : List Int) (K0 : Bool → Option R) : Option R :=
 sel (!decide (v0 = v2))
 (K0 false)
 (sel (!decide ((↑(List.length v1) : Int) = (↑(List.length v3) : Int)))
 (K0 false)
 (haystackref02_Same_j4_1 v0 v1 v2 v3
 (fun v4 => K0 v4)))
noncomputable def haystackref02_Same {R : Type} := shut (@haystackref02_Same_B R)
theorem haystackref02_Same_unf {R : Type} : @haystackref02_Same R = @haystackref02_Same_B R := shut_eq _

noncomputable def haystacklaw09_FanoBack_j11_B {R : Type} (v0 : Bool) (v1 v2 v3 v4 v5 v6 v7 v8 : Int) (v9 : List Int) (va : Int) (vb : List Int) (K0 : Bool → Option R) : Option R :=
 sel (!decide (v3 = 0))
 (sel (decide (v3 = 3))
 (haystacklaw09_heads 
 (fun vc => K0 vc))
 (K0 false))
 (fano_Rank v4 v5 v6 v7 v8 v9 va vb v0 v2
 (fun vd ve => fano_Access v4 v5 v6 v7 v8 v9 va vb v2
 (fun vf vg => sel (decide (ve = 0))
 (sel (decide (vd = v1))
 (sel (decide (vg = 0))
 (sel (vf == v0)
 (haystacklaw09_heads 
 (fun vh => K0 vh))
 (K0 false))
 (K0 false))
 (K0 false))
 (K0 false))))
noncomputable def haystacklaw09_FanoBack_j11 {R : Type} := shut (@haystacklaw09_FanoBack_j11_B R)
theorem haystacklaw09_FanoBack_j11_unf {R : Type} : @haystacklaw09_FanoBack_j11 R = @haystacklaw09_FanoBack_j11_B R := shut_eq _

noncomputable def haystacklaw09_FanoBack_j7_B {R : Type} (v0 : Bool) (v1 v2 : Int) (_v3 : List Int) (v4 v5 v6 v7 v8 : Int) (v9 : List Int) (va : Int) (vb : List Int) (K0 : Bool → Option R) : Option R :=
 fano_Rank v4 v5 v6 v7 v8 v9 va vb v0 v2
 (fun vc vd => fano_Select v4 v5 v6 v7 v8 v9 va vb v0 v1
 (fun ve vf => sel (!decide (vd = 0))
 (K0 false)
 (sel (decide (0 ≤ v1))
 (sel (!decide (vf = 0) == decide (v1 < vc))
 (K0 false)
 (haystacklaw09_FanoBack_j11 v0 v1 ve vf v4 v5 v6 v7 v8 v9 va vb
 (fun vg => K0 vg)))
 (sel (!decide (vf = 0) == false)
 (K0 false)
 (haystacklaw09_FanoBack_j11 v0 v1 ve vf v4 v5 v6 v7 v8 v9 va vb
 (fun vh => K0 vh))))))
noncomputable def haystacklaw09_FanoBack_j7 {R : Type} := shut (@haystacklaw09_FanoBack_j7_B R)
theorem haystacklaw09_FanoBack_j7_unf {R : Type} : @haystacklaw09_FanoBack_j7 R = @haystacklaw09_FanoBack_j7_B R := shut_eq _

noncomputable def haystacklaw09_FanoBack_j5_B {R : Type} (v0 : Bool) (v1 v2 v3 : Int) (v4 : List Int) (v5 v6 v7 v8 v9 : Int) (va : List Int) (vb : Int) (vc : List Int) (K0 : Bool → Option R) : Option R :=
 sel (!decide (v2 = 0))
 (K0 false)
 (fano_Check v5 v6 v7 v8 v9 va vb vc
 (fun vd => sel (!vd)
 (K0 false)
 (fano_Bits v5 v6 v7 v8 v9 va vb vc
 (fun ve vf => haystackref02_Same ve vf v3 v4
 (fun vg => sel (!vg)
 (K0 false)
 (haystacklaw09_FanoBack_j7 v0 v1 v3 v4 v5 v6 v7 v8 v9 va vb vc
 (fun vh => K0 vh)))))))
noncomputable def haystacklaw09_FanoBack_j5 {R : Type} := shut (@haystacklaw09_FanoBack_j5_B R)
theorem haystacklaw09_FanoBack_j5_unf {R : Type} : @haystacklaw09_FanoBack_j5 R = @haystacklaw09_FanoBack_j5_B R := shut_eq _

noncomputable def haystacklaw09_FanoBack_j4_B {R : Type} (v0 : Bool) (v1 v2 : Int) (v3 : List Int) (K0 : Bool → Option R) : Option R :=
 fano_Build v2 v3
 (fun v4 v5 v6 v7 v8 v9 va vb vc => haystacklaw09_FanoBack_j5 v0 v1 vc v2 v3 v4 v5 v6 v7 v8 v9 va vb
 (fun vd => K0 vd))
noncomputable def haystacklaw09_FanoBack_j4 {R : Type} := shut (@haystacklaw09_FanoBack_j4_B R)
theorem haystacklaw09_FanoBack_j4_unf {R : Type} : @haystacklaw09_FanoBack_j4 R = @haystacklaw09_FanoBack_j4_B R := shut_eq _

noncomputable def haystacklaw09_FanoBack_B {R : Type} (v0 : Int) (v1 : List Int) (v2 : Bool) (v3 : Int) (K0 : Bool → Option R) : Option R :=
 sel (decide (3000 < v0))
 (haystacklaw09_heads 
 (fun v4 => K0 v4))
 (sel (decide (3000 < (↑(List.length v1) : Int)))
 (haystacklaw09_heads 
 (fun v5 => K0 v5))
 (haystackref02_Check v0 v1
 (fun v6 => sel (!v6)
 (haystacklaw09_heads 
 (fun v7 => K0 v7))
 (haystacklaw09_FanoBack_j4 v2 v3 v0 v1
 (fun v8 => K0 v8)))))
noncomputable def haystacklaw09_FanoBack {R : Type} := shut (@haystacklaw09_FanoBack_B R)
theorem haystacklaw09_FanoBack_unf {R : Type} : @haystacklaw09_FanoBack R = @haystacklaw09_FanoBack_B R := shut_eq _

/-- what is kept where -/
def kpt : List (Nat × List (Nat × List Nat)) := [(3, [(4002, [4]), (4001, [4]), (4000, [1, 2])]), (4, [(4002, [2]), (4001, [2]), (4000, [1])]), (7, [(11002, [6]), (11001, [6]), (11000, [1, 2, 7, 11, 12]), (7002, [6]), (7001, [6]), (7000, [1, 2, 3, 7]), (5002, [6]), (5001, [6]), (5000, [1, 2, 3, 7, 8]), (4002, [6]), (4001, [6]), (4000, [1, 2, 3])]), (11, [(4002, [2]), (4001, [2]), (4000, [1])]), (12, [(999999999, []), (9000, [1, 2, 3, 4, 5, 6, 7, 8, 9, 10, 12, 14, 999999]), (8000, [1, 2, 3, 4, 5, 6, 7, 8, 9, 10, 12, 999999]), (7000, [1, 2, 3, 4, 5, 6, 7, 8, 9, 10, 999999]), (6000, [1, 2, 3, 4, 5, 6, 7, 8, 999999]), (5000, [1, 2, 3, 4, 5, 6, 999999]), (4002, [0]), (4001, [0]), (4000, [1, 2, 3, 4, 999999]), (3000, [1, 2, 999999]), (2000, [999999])]), (13, [(14002, [2, 3]), (14001, [2, 4]), (14000, [2, 4, 59])]), (14, [(6002, [6, 7]), (6001, [6, 7]), (6000, [1, 2, 3])]), (15, [(6002, [4, 5]), (6001, [4, 5]), (6000, [1, 2])]), (16, [(6003, [5]), (6002, [4]), (6001, [1, 2, 5, 6]), (6000, [1, 2, 5, 6]), (4403, [5]), (4402, [4]), (4401, []), (4400, [1, 2, 5, 6])]), (24, [(12404, [9]), (12402, [6, 7]), (12401, []), (12400, [2, 3, 9, 10]), (11002, [6, 7]), (11001, [6, 7]), (11000, [2, 3]), (8003, [2, 3]), (8002, [6, 7]), (8001, [2, 3]), (8000, [1, 2, 3, 25]), (5002, [6, 7]), (5001, [6, 7]), (5000, [1, 2, 3, 8])]), (28, [(5403, []), (5402, [4]), (5401, []), (5400, [2, 3, 5]), (4002, [4]), (4001, [4]), (4000, [2, 3])]), (40, [(6003, [3]), (6002, [2]), (6001, [0, 3, 4]), (6000, [0, 3, 4]), (4403, [3]), (4402, [2]), (4401, []), (4400, [0, 3, 4])]), (41, [(4002, [2]), (4001, [2]), (4000, [1])]), (42, [(7403, [1, 2, 5]), (7402, [4]), (7401, []), (7400, [1, 2, 5, 20, 21, 22])]), (45, [(5002, [6]), (5001, [6]), (5000, [3])]), (47, [(6403, [0, 1, 4, 6]), (6402, [4, 5]), (6401, []), (6400, [0, 1, 4, 6, 34, 35, 36]), (4002, [4, 5]), (4001, [4, 5]), (4000, [0, 1, 4]), (3002, [4, 5]), (3001, [0, 1, 4]), (3000, [0, 1, 4, 28])]), (48, [(6403, [2, 4]), (6402, [2, 3]), (6401, []), (6400, [2, 4, 18, 19, 20])]), (49, [(3403, [5]), (3402, [4]), (3401, []), (3400, [1, 2, 5, 6])]), (56, [(5403, [1, 2, 5, 7]), (5402, [4]), (5401, []), (5400, [1, 2, 5, 6, 7, 22, 23, 24])]), (57, [(16002, [2, 3]), (16001, [2, 9]), (16000, [2, 9, 133]), (15002, [2, 3]), (15001, [2, 3]), (15000, [2, 9, 12, 13]), (7002, [2, 3]), (7001, [2, 3]), (7000, [1, 2, 4, 5, 6]), (4002, [2, 3]), (4001, [2, 3]), (4000, [1, 2]), (3002, [2, 3]), (3001, [1, 2]), (3000, [1, 2, 45])]), (58, [(12002, [6, 7]), (12001, [6, 7]), (12000, [2, 10]), (8002, [6, 7]), (8001, [6, 7]), (8000, [1, 2, 3]), (5003, [1, 2, 3]), (5002, [6, 7]), (5001, [1, 2, 3]), (5000, [1, 2, 3, 23]), (3003, [1, 2, 3]), (3002, [6, 7]), (3001, [1, 2, 3]), (3000, [1, 2, 3, 11])]), (61, [(4002, [6, 7]), (4001, [6, 7]), (4000, [1, 2, 3, 6]), (3002, [6, 7]), (3001, [1, 2, 3, 6]), (3000, [1, 2, 3, 6, 26])]), (68, [(5403, [0]), (5402, [4]), (5401, []), (5400, [0, 13, 14]), (4002, [4]), (4001, [4]), (4000, [0, 1])]), (73, [(4403, []), (4404, [0, 6, 7, 8]), (4405, [0, 6, 7, 8]), (4402, []), (4401, []), (4400, [0, 3, 4, 6, 7, 8]), (2403, []), (2402, []), (2401, []), (2400, [0, 6, 7, 8])]), (74, [(4403, [3]), (4402, [2]), (4401, []), (4400, [3, 6, 7, 8])]), (75, [(4002, [2, 3]), (4001, [2, 3]), (4000, [0, 2]), (3002, [2, 3]), (3001, [0, 2]), (3000, [0, 2, 9])]), (82, [(6403, [3]), (6402, [2]), (6401, []), (6400, [1, 3, 12, 13])]), (83, [(8002, [8]), (8001, [8]), (8000, [1, 5]), (6002, [8]), (6001, [8]), (6000, [1, 5, 6, 9]), (5002, [8]), (5001, [8]), (5000, [1, 4, 5, 6, 9]), (4002, [8]), (4001, [1, 4, 5, 6, 9]), (4000, [1, 2, 3, 4, 5, 6, 9, 22])]), (84, [(5403, []), (5402, [4]), (5401, []), (5400, [0, 1, 12, 13])]), (87, [(6002, []), (6001, []), (6000, [2, 3, 6, 7, 36]), (5002, []), (5001, []), (5000, [2, 3, 6, 7])]), (95, [(11002, [2]), (11001, [2]), (11000, [0, 2]), (8002, [2]), (8001, [2]), (8000, [0, 2]), (5002, [2]), (5001, [2]), (5000, [0, 2])]), (102, [(5003, []), (5002, [4]), (5001, []), (5000, [12])])]
/-- what is handed back open -/
def lvt : List (Nat × List Nat) := [(61, [86]), (48, [75]), (13, [44]), (57, [44])]
noncomputable def V (f : FuncId) : Env := env (keepOf kpt) (vsOf (match lkN lvt f with | some l => l | none => []))
theorem D0 : Dom B0 V B0 T0 0 := Dom.nil base_nat

noncomputable def sp70 : Ev.Spec := fun args _ K => match args with
 | ([Ai v0]) => bits_words v0 (fun v1 => K (Ai v1))
 | _ => none
noncomputable def S70 := addS 70 sp70 B0
theorem D1 : Dom B0 V S70 T0 1 := Dom.s (m := 0) (n := 0) D0 D0 (O := (fun _ => none)) (fun _ _ _ _ => OrcOk.none _ _) fun args R K r h => by
 unfold sp70 at h; split at h
 · rw [bits_words_unf] at h; exact Eq.trans (by kernel_rfl) h
 · cases h

noncomputable def sp46 : Ev.Spec := fun args _ K => match args with
 | ([Ai v0]) => word_Mask v0 (fun v1 => K (Au v1))
 | _ => none
noncomputable def S46 := addS 46 sp46 S70
theorem D2 : Dom B0 V S46 T0 2 := Dom.s (m := 1) (n := 0) D1 D1 (O := (fun _ => none)) (fun _ _ _ _ => OrcOk.none _ _) fun args R K r h => by
 unfold sp46 at h; split at h
 · rw [word_Mask_unf] at h; exact Eq.trans (by kernel_rfl) h
 · cases h

noncomputable def o41r1_4000_in {R : Type} (K : Ex → St → Option R) (vs : List AV) (hh : H) : Option R := match vs, hh with
 | [Ap 1 0], [HU v0, HA [Ai v1, AV.sl 0 0 v2 1]] => bits_Check_j4 v0 v1 v2 (fun v3 v4 => K (Ex.ret) (St.mk (spread 40 0 [2] [Ab v3]) [HU v4]))
 | _, _ => none

noncomputable def o41r1 : Nat → Option PSpec := lkN [(4000, fun st _ K => pickM 40 [1] st (o41r1_4000_in K))]
noncomputable def q41r1 : CallF := evFun (V 41) S46 T0 10

noncomputable def c41r1_4000 : Code := subC [1, 1] (bodyOf Tryd.f41)

theorem p41r1_4000 : PieceOk (V 41) q41r1 o41r1 41 1 (3998, 0, c41r1_4000) := .s (size := 40) (ss := [1]) (F := @o41r1_4000_in) (by kernel_rfl) fun R r K vs hh h => by
  unfold o41r1_4000_in at h; split at h
  · rw [bits_Check_j4_unf] at h; exact Eq.trans (by kernel_rfl) h
  · cases h

theorem pc41r1 : ∀ x ∈ [(3998, 0, c41r1_4000)], PieceOk (V 41) q41r1 o41r1 41 1 x := List.forall_mem_cons.2 ⟨p41r1_4000, fun _ h => nomatch h⟩

noncomputable def hs41 : HSpec := fun args h _ K => match args, h with
 | [AV.agg (Blk.any [Ai v0, AV.sl 0 0 v1 1])], [HU v2] => bits_Check_r v0 v1 v2 (fun v3 v4 => K (Ab v3) ([HU v4]))
 | _, _ => none
noncomputable def T41 := addT 41 hs41 T0
theorem D3 : Dom B0 V S46 T41 3 := Dom.t D2 fun args hh R K r h => by
 unfold hs41 at h; split at h
 · rw [bits_Check_r_unf] at h; exact ⟨o41r1, (OrcOk.fn (fn0 := Tryd.f41) (by kernel_rfl) (by kernel_rfl) pc41r1), Eq.trans (by kernel_rfl) h⟩
 · cases h

theorem math_bits_OnesCount64_eq {R : Type} (K : AV → Option R) (v0 : Int) : evSpec (V 94) S46 T41 (fun _ => none) 10 94 ([Au v0]) R K = math_bits_OnesCount64_B v0 (fun v1 => K (Ai v1)) := by kernel_rfl

noncomputable def sp94 : Ev.Spec := fun args _ K => match args with
 | ([Au v0]) => math_bits_OnesCount64 v0 (fun v1 => K (Ai v1))
 | _ => none
noncomputable def S94 := addS 94 sp94 S46
theorem D4 : Dom B0 V S94 T41 4 := Dom.s (m := 3) (n := 0) D3 D3 (O := (fun _ => none)) (fun _ _ _ _ => OrcOk.none _ _) fun args R K r h => by
 unfold sp94 at h; split at h
 · rw [math_bits_OnesCount64_unf] at h; exact (math_bits_OnesCount64_eq K _).trans h
 · cases h

noncomputable def sp69 : Ev.Spec := fun args _ K => match args with
 | ([Au v0]) => word_Pop v0 (fun v1 => K (Ai v1))
 | _ => none
noncomputable def S69 := addS 69 sp69 S94
theorem D5 : Dom B0 V S69 T41 5 := Dom.s (m := 4) (n := 0) D4 D4 (O := (fun _ => none)) (fun _ _ _ _ => OrcOk.none _ _) fun args R K r h => by
 unfold sp69 at h; split at h
 · rw [word_Pop_unf] at h; exact Eq.trans (by kernel_rfl) h
 · cases h

noncomputable def sp71 : Ev.Spec := fun args _ K => match args with
 | ([Au v0, Ai v1]) => word_Rank v0 v1 (fun v2 => K (Ai v2))
 | _ => none
noncomputable def S71 := addS 71 sp71 S69
theorem D6 : Dom B0 V S71 T41 6 := Dom.s (m := 5) (n := 0) D5 D5 (O := (fun _ => none)) (fun _ _ _ _ => OrcOk.none _ _) fun args R K r h => by
 unfold sp71 at h; split at h
 · rw [word_Rank_unf] at h; exact Eq.trans (by kernel_rfl) h
 · cases h

noncomputable def o42r1_7400_in {R : Type} (K : Ex → St → Option R) (vs : List AV) (hh : H) : Option R := match vs, hh with
 | [Ai v0, Ap 1 0, Ai v1, AV.sl 0 0 v2 1, Ai v3, Ai v4], [HU v5, HA [Ai v6, AV.sl 0 0 v7 1]] => bits_Ones_l7 v0 v1 v2 v3 v4 v5 v6 v7 (fun v8 v9 va vb vc => K (Ex.exit 0) (St.mk (spread 46 0 [1, 2, 5] [Ai v8, Ap 1 0, Ai v9]) [HU va, HA [Ai vb, AV.sl 0 0 vc 1]]))
 | _, _ => none

noncomputable def o42r1 : Nat → Option PSpec := lkN [(7400, fun st _ K => pickM 46 [1, 2, 5, 20, 21, 22] st (o42r1_7400_in K))]
noncomputable def q42r1 : CallF := evFun (V 42) S71 T41 10

noncomputable def c42r1_7400 : Code := subC [1, 1, 1, 1, 0, 1, 0, 0] (bodyOf Tryd.f42)

noncomputable def lp42r1_7400 {R : Type} (N : Nat) (st : St) (K : Ex → St → Option R) : Option R := evLoop (norm ((V 42).keep 42 (Ev.keyOf c42r1_7400 * 1000 + 400)) 1) (evCode (V 42) q42r1 o42r1 42 1 3992 c42r1_7400) N st (kOut (V 42) 42 1 (Ev.keyOf c42r1_7400 * 1000 + 401) K)

theorem bits_Ones_l7_L_eq {R : Type} (K : Ex → St → Option R) : ∀ N : Nat, (fun (v0 v1 : Int) (v2 : Nat) (v3 v4 : Int) (v5 : List Int) (v6 : Int) (v7 : Nat) => lp42r1_7400 N (St.mk (spread 46 0 [1, 2, 5, 20, 21, 22] [Ai v0, Ap 1 0, Ai v1, AV.sl 0 0 v2 1, Ai v3, Ai v4]) [HU v5, HA [Ai v6, AV.sl 0 0 v7 1]]) K) = bits_Ones_l7_L (fun v8 v9 va vb vc => K (Ex.exit 0) (St.mk (spread 46 0 [1, 2, 5] [Ai v8, Ap 1 0, Ai v9]) [HU va, HA [Ai vb, AV.sl 0 0 vc 1]])) N
  | 0 => by funext v0 v1 v2 v3 v4 v5 v6 v7; rfl
  | N + 1 => by
    funext v0 v1 v2 v3 v4 v5 v6 v7
    simp only [bits_Ones_l7_L]
    rw [← bits_Ones_l7_L_eq K N]
    kernel_rfl

theorem p42r1_7400 : PieceOk (V 42) q42r1 o42r1 42 1 (3992, 1, c42r1_7400) := .l (size := 46) (ss := [1, 2, 5, 20, 21, 22]) (F := @o42r1_7400_in) (by kernel_rfl) (by kernel_rfl) fun R r K vs hh h => by
  unfold o42r1_7400_in at h; split at h
  · rw [bits_Ones_l7_unf] at h; unfold bits_Ones_l7_B at h; rw [← bits_Ones_l7_L_eq K NR] at h; exact h
  · cases h

theorem pc42r1 : ∀ x ∈ [(3992, 1, c42r1_7400)], PieceOk (V 42) q42r1 o42r1 42 1 x := List.forall_mem_cons.2 ⟨p42r1_7400, fun _ h => nomatch h⟩

theorem bits_Ones_r_eq {R : Type} (K : AV → H → Option R) (v0 : Int) (v1 : Nat) (v2 : Int) (v3 : List Int) : evH (V 42) S71 T41 o42r1 10 42 [AV.agg (Blk.any [Ai v0, AV.sl 0 0 v1 1]), Ai v2] [HU v3] R K = bits_Ones_r_B v0 v1 v2 v3 (fun v4 v5 => K (Ai v4) ([HU v5])) := by kernel_rfl

noncomputable def hs42 : HSpec := fun args h _ K => match args, h with
 | [AV.agg (Blk.any [Ai v0, AV.sl 0 0 v1 1]), Ai v2], [HU v3] => bits_Ones_r v0 v1 v2 v3 (fun v4 v5 => K (Ai v4) ([HU v5]))
 | _, _ => none
noncomputable def T42 := addT 42 hs42 T41
theorem D7 : Dom B0 V S71 T42 7 := Dom.t D6 fun args hh R K r h => by
 unfold hs42 at h; split at h
 · rw [bits_Ones_r_unf] at h; exact ⟨o42r1, (OrcOk.fn (fn0 := Tryd.f42) (by kernel_rfl) (by kernel_rfl) pc42r1), (bits_Ones_r_eq K _ _ _ _).trans h⟩
 · cases h

noncomputable def o95_5000_in {R : Type} (K : Ex → St → Option R) (vs : List AV) (hh : H) : Option R := match vs, hh with
 | [Au v0, Ai v1], [] => math_bits_Len64_j5 v0 v1 (fun v2 => K (Ex.ret) (St.mk (spread 25 0 [2] [Ai v2]) []))
 | _, _ => none

noncomputable def o95_8000_in {R : Type} (K : Ex → St → Option R) (vs : List AV) (hh : H) : Option R := match vs, hh with
 | [Au v0, Ai v1], [] => math_bits_Len64_j8 v0 v1 (fun v2 => K (Ex.ret) (St.mk (spread 25 0 [2] [Ai v2]) []))
 | _, _ => none

noncomputable def o95_11000_in {R : Type} (K : Ex → St → Option R) (vs : List AV) (hh : H) : Option R := match vs, hh with
 | [Au v0, Ai v1], [] => math_bits_Len64_j11 v0 v1 (fun v2 => K (Ex.ret) (St.mk (spread 25 0 [2] [Ai v2]) []))
 | _, _ => none

noncomputable def o95 : Nat → Option PSpec := lkN [(5000, fun st _ K => pickM 25 [0, 2] st (o95_5000_in K)), (8000, fun st _ K => pickM 25 [0, 2] st (o95_8000_in K)), (11000, fun st _ K => pickM 25 [0, 2] st (o95_11000_in K))]
noncomputable def q95 : CallF := evFun (V 95) S71 T42 10

noncomputable def c95_5000 : Code := subC [1, 1] (bodyOf Tryd.f95)

noncomputable def c95_8000 : Code := subC [1, 1, 1] (bodyOf Tryd.f95)

noncomputable def c95_11000 : Code := subC [1, 1, 1, 1] (bodyOf Tryd.f95)

theorem math_bits_Len64_j11_eq {R : Type} (K : Ex → St → Option R) (v0 v1 : Int) : evCode (V 95) q95 o95 95 0 3996 c95_11000 (St.mk (spread 25 0 [0, 2] [Au v0, Ai v1]) []) (kOut (V 95) 95 0 (Ev.keyOf c95_11000 * 1000 + 1) K) = math_bits_Len64_j11_B v0 v1 (fun v2 => K (Ex.ret) (St.mk (spread 25 0 [2] [Ai v2]) [])) := by kernel_rfl

theorem p95_5000 : PieceOk (V 95) q95 o95 95 0 (3998, 0, c95_5000) := .s (size := 25) (ss := [0, 2]) (F := @o95_5000_in) (by kernel_rfl) fun R r K vs hh h => by
  unfold o95_5000_in at h; split at h
  · rw [math_bits_Len64_j5_unf] at h; exact Eq.trans (by kernel_rfl) h
  · cases h

theorem p95_8000 : PieceOk (V 95) q95 o95 95 0 (3997, 0, c95_8000) := .s (size := 25) (ss := [0, 2]) (F := @o95_8000_in) (by kernel_rfl) fun R r K vs hh h => by
  unfold o95_8000_in at h; split at h
  · rw [math_bits_Len64_j8_unf] at h; exact Eq.trans (by kernel_rfl) h
  · cases h

theorem p95_11000 : PieceOk (V 95) q95 o95 95 0 (3996, 0, c95_11000) := .s (size := 25) (ss := [0, 2]) (F := @o95_11000_in) (by kernel_rfl) fun R r K vs hh h => by
  unfold o95_11000_in at h; split at h
  · rw [math_bits_Len64_j11_unf] at h; exact (math_bits_Len64_j11_eq K _ _).trans h
  · cases h

theorem pc95 : ∀ x ∈ [(3998, 0, c95_5000), (3997, 0, c95_8000), (3996, 0, c95_11000)], PieceOk (V 95) q95 o95 95 0 x := List.forall_mem_cons.2 ⟨p95_5000, List.forall_mem_cons.2 ⟨p95_8000, List.forall_mem_cons.2 ⟨p95_11000, fun _ h => nomatch h⟩⟩⟩

noncomputable def sp95 : Ev.Spec := fun args _ K => match args with
 | ([Au v0]) => math_bits_Len64 v0 (fun v1 => K (Ai v1))
 | _ => none
noncomputable def S95 := addS 95 sp95 S71
theorem D8 : Dom B0 V S95 T42 8 := Dom.s (m := 7) (n := 0) D7 D7 (O := o95) (OrcOk.fn (fn0 := Tryd.f95) (by kernel_rfl) (by kernel_rfl) pc95) fun args R K r h => by
 unfold sp95 at h; split at h
 · rw [math_bits_Len64_unf] at h; exact Eq.trans (by kernel_rfl) h
 · cases h

noncomputable def sp72 : Ev.Spec := fun args _ K => match args with
 | ([Au v0]) => word_Len v0 (fun v1 => K (Ai v1))
 | _ => none
noncomputable def S72 := addS 72 sp72 S95
theorem D9 : Dom B0 V S72 T42 9 := Dom.s (m := 8) (n := 0) D8 D8 (O := (fun _ => none)) (fun _ _ _ _ => OrcOk.none _ _) fun args R K r h => by
 unfold sp72 at h; split at h
 · rw [word_Len_unf] at h; exact Eq.trans (by kernel_rfl) h
 · cases h

noncomputable def sp43 : Ev.Spec := fun args _ K => match args with
 | ([Ai v0, Ai v1]) => fano_width v0 v1 (fun v2 => K (Ai v2))
 | _ => none
noncomputable def S43 := addS 43 sp43 S72
theorem D10 : Dom B0 V S43 T42 10 := Dom.s (m := 9) (n := 0) D9 D9 (O := (fun _ => none)) (fun _ _ _ _ => OrcOk.none _ _) fun args R K r h => by
 unfold sp43 at h; split at h
 · rw [fano_width_unf] at h; exact Eq.trans (by kernel_rfl) h
 · cases h

noncomputable def hs44 : HSpec := fun args h _ K => match args, h with
 | [AV.agg (Blk.any [Ai v0, AV.sl 0 0 v1 1])], [HU v2] => fano_eachOne_r v0 v1 v2 (fun v3 v4 v5 => K (AV.fn 73 [Ap 1 0]) ([HU v3, HA [Ai v4, AV.sl 0 0 v5 1]]))
 | [AV.agg (Blk.any [Ai v6, Fu v7])], [] => fano_eachOne_r_1 v6 v7 (fun v3 v4 => K (AV.fn 73 [Ap 0 0]) ([HA [Ai v3, Fu v4]]))
 | _, _ => none
noncomputable def T44 := addT 44 hs44 T42
theorem D11 : Dom B0 V S43 T44 11 := Dom.t D10 fun args hh R K r h => by
 unfold hs44 at h; split at h
 · rw [fano_eachOne_r_unf] at h; exact ⟨(fun _ => none), (fun _ _ _ _ => OrcOk.none _ _), Eq.trans (by kernel_rfl) h⟩
 · rw [fano_eachOne_r_1_unf] at h; exact ⟨(fun _ => none), (fun _ _ _ _ => OrcOk.none _ _), Eq.trans (by kernel_rfl) h⟩
 · cases h

noncomputable def sp93 : Ev.Spec := fun args _ K => match args with
 | ([Au v0]) => math_bits_TrailingZeros64 v0 (fun v1 => K (Ai v1))
 | _ => none
noncomputable def S93 := addS 93 sp93 S43
theorem D12 : Dom B0 V S93 T44 12 := Dom.s (m := 11) (n := 0) D11 D11 (O := (fun _ => none)) (fun _ _ _ _ => OrcOk.none _ _) fun args R K r h => by
 unfold sp93 at h; split at h
 · rw [math_bits_TrailingZeros64_unf] at h; exact Eq.trans (by kernel_rfl) h
 · cases h

noncomputable def o68_4000_in {R : Type} (K : Ex → St → Option R) (vs : List AV) (hh : H) : Option R := match vs, hh with
 | [Au v0, Ai v1], [] => word_Select_j4 v0 v1 (fun v2 => K (Ex.ret) (St.mk (spread 23 0 [4] [Ai v2]) []))
 | _, _ => none

noncomputable def o68_5400_in {R : Type} (K : Ex → St → Option R) (vs : List AV) (hh : H) : Option R := match vs, hh with
 | [Au v0, Ai v1, Ai v2], [] => word_Select_l5 v0 v1 v2 (fun v3 => K (Ex.exit 0) (St.mk (spread 23 0 [0] [Au v3]) []))
 | _, _ => none

noncomputable def o68 : Nat → Option PSpec := lkN [(4000, fun st _ K => pickM 23 [0, 1] st (o68_4000_in K)), (5400, fun st _ K => pickM 23 [0, 13, 14] st (o68_5400_in K))]
noncomputable def q68 : CallF := evFun (V 68) S93 T44 10

noncomputable def c68_4000 : Code := subC [1, 1] (bodyOf Tryd.f68)

noncomputable def c68_5400 : Code := subC [1, 1, 0, 1, 0, 0] (bodyOf Tryd.f68)

noncomputable def lp68_5400 {R : Type} (N : Nat) (st : St) (K : Ex → St → Option R) : Option R := evLoop (norm ((V 68).keep 68 (Ev.keyOf c68_5400 * 1000 + 400)) 0) (evCode (V 68) q68 o68 68 0 3994 c68_5400) N st (kOut (V 68) 68 0 (Ev.keyOf c68_5400 * 1000 + 401) K)

theorem word_Select_l5_L_eq {R : Type} (K : Ex → St → Option R) : ∀ N : Nat, (fun (v0 v1 v2 : Int) => lp68_5400 N (St.mk (spread 23 0 [0, 13, 14] [Au v0, Ai v1, Ai v2]) []) K) = word_Select_l5_L (fun v3 => K (Ex.exit 0) (St.mk (spread 23 0 [0] [Au v3]) [])) N
  | 0 => by funext v0 v1 v2; rfl
  | N + 1 => by
    funext v0 v1 v2
    simp only [word_Select_l5_L]
    rw [← word_Select_l5_L_eq K N]
    kernel_rfl

theorem p68_4000 : PieceOk (V 68) q68 o68 68 0 (3998, 0, c68_4000) := .s (size := 23) (ss := [0, 1]) (F := @o68_4000_in) (by kernel_rfl) fun R r K vs hh h => by
  unfold o68_4000_in at h; split at h
  · rw [word_Select_j4_unf] at h; exact Eq.trans (by kernel_rfl) h
  · cases h

theorem p68_5400 : PieceOk (V 68) q68 o68 68 0 (3994, 1, c68_5400) := .l (size := 23) (ss := [0, 13, 14]) (F := @o68_5400_in) (by kernel_rfl) (by kernel_rfl) fun R r K vs hh h => by
  unfold o68_5400_in at h; split at h
  · rw [word_Select_l5_unf] at h; unfold word_Select_l5_B at h; rw [← word_Select_l5_L_eq K NR] at h; exact h
  · cases h

theorem pc68 : ∀ x ∈ [(3998, 0, c68_4000), (3994, 1, c68_5400)], PieceOk (V 68) q68 o68 68 0 x := List.forall_mem_cons.2 ⟨p68_4000, List.forall_mem_cons.2 ⟨p68_5400, fun _ h => nomatch h⟩⟩

noncomputable def sp68 : Ev.Spec := fun args _ K => match args with
 | ([Au v0, Ai v1]) => word_Select v0 v1 (fun v2 => K (Ai v2))
 | _ => none
noncomputable def S68 := addS 68 sp68 S93
theorem D13 : Dom B0 V S68 T44 13 := Dom.s (m := 12) (n := 0) D12 D12 (O := o68) (OrcOk.fn (fn0 := Tryd.f68) (by kernel_rfl) (by kernel_rfl) pc68) fun args R K r h => by
 unfold sp68 at h; split at h
 · rw [word_Select_unf] at h; exact Eq.trans (by kernel_rfl) h
 · cases h

noncomputable def o45r5_5000_in {R : Type} (K : Ex → St → Option R) (vs : List AV) (hh : H) : Option R := match vs, hh with
 | [Ap 3 0], [HA [AV.sl 1 0 v0 1], HO v1, HA [Ai v2], HA [Ai v3], HA [AV.sl 5 0 v4 1], HU v5] => fano_Build_1_j5 v0 v1 v2 v3 v4 v5 (fun v6 v7 v8 v9 va vb vc => K (Ex.ret) (St.mk (spread 26 0 [6] [Ab v6]) [HA [AV.sl 1 0 v7 1], HO v8, HA [Ai v9], HA [Ai va], HA [AV.sl 5 0 vb 1], HU vc]))
 | [Ap 3 0], [HA [AV.sl 1 0 vd 1], HO ve, HA [Ai vf], HA [Ai vg], HA [AV.esl]] => fano_Build_1_j5_1 vd ve vf vg (fun v6 v7 v8 v9 va => K (Ex.ret) (St.mk (spread 26 0 [6] [Ab v6]) [HA [AV.sl 1 0 v7 1], HO v8, HA [Ai v9], HA [Ai va], HA [AV.esl]]))
 | _, _ => none

noncomputable def o45r5 : Nat → Option PSpec := lkN [(5000, fun st _ K => pickM 26 [3] st (o45r5_5000_in K))]
noncomputable def q45r5 : CallF := evFun (V 45) S68 T44 10

noncomputable def c45r5_5000 : Code := subC [1, 1, 1] (bodyOf Tryd.f45)

theorem p45r5_5000 : PieceOk (V 45) q45r5 o45r5 45 5 (3997, 0, c45r5_5000) := .s (size := 26) (ss := [3]) (F := @o45r5_5000_in) (by kernel_rfl) fun R r K vs hh h => by
  unfold o45r5_5000_in at h; split at h
  · rw [fano_Build_1_j5_unf] at h; exact Eq.trans (by kernel_rfl) h
  · rw [fano_Build_1_j5_1_unf] at h; exact Eq.trans (by kernel_rfl) h
  · cases h

theorem pc45r5 : ∀ x ∈ [(3997, 0, c45r5_5000)], PieceOk (V 45) q45r5 o45r5 45 5 x := List.forall_mem_cons.2 ⟨p45r5_5000, fun _ h => nomatch h⟩

noncomputable def o45r6_5000_in {R : Type} (K : Ex → St → Option R) (vs : List AV) (hh : H) : Option R := match vs, hh with
 | [Ap 3 0], [HA [AV.sl 1 0 v0 1], HO v1, HA [Ai v2], HA [Ai v3], HA [AV.sl 6 0 v4 1], HB.dead, HU v5] => fano_Build_1_j5_2 v0 v1 v2 v3 v4 v5 (fun v6 v7 v8 v9 va vb vc => K (Ex.ret) (St.mk (spread 26 0 [6] [Ab v6]) [HA [AV.sl 1 0 v7 1], HO v8, HA [Ai v9], HA [Ai va], HA [AV.sl 6 0 vb 1], HB.dead, HU vc]))
 | [Ap 3 0], [HA [AV.sl 1 0 vd 1], HO ve, HA [Ai vf], HA [Ai vg], HA [AV.sl 5 0 vh 1], HU vi] => fano_Build_1_j5_3 vd ve vf vg vh vi (fun v6 v7 v8 v9 va vb vc => K (Ex.ret) (St.mk (spread 26 0 [6] [Ab v6]) [HA [AV.sl 1 0 v7 1], HO v8, HA [Ai v9], HA [Ai va], HA [AV.sl 5 0 vb 1], HU vc]))
 | _, _ => none

noncomputable def o45r6 : Nat → Option PSpec := lkN [(5000, fun st _ K => pickM 26 [3] st (o45r6_5000_in K))]
noncomputable def q45r6 : CallF := evFun (V 45) S68 T44 10

noncomputable def c45r6_5000 : Code := subC [1, 1, 1] (bodyOf Tryd.f45)

theorem p45r6_5000 : PieceOk (V 45) q45r6 o45r6 45 6 (3997, 0, c45r6_5000) := .s (size := 26) (ss := [3]) (F := @o45r6_5000_in) (by kernel_rfl) fun R r K vs hh h => by
  unfold o45r6_5000_in at h; split at h
  · rw [fano_Build_1_j5_2_unf] at h; exact Eq.trans (by kernel_rfl) h
  · rw [fano_Build_1_j5_3_unf] at h; exact Eq.trans (by kernel_rfl) h
  · cases h

theorem pc45r6 : ∀ x ∈ [(3997, 0, c45r6_5000)], PieceOk (V 45) q45r6 o45r6 45 6 x := List.forall_mem_cons.2 ⟨p45r6_5000, fun _ h => nomatch h⟩

theorem fano_Build_1_r_eq {R : Type} (K : AV → H → Option R) (v0 : Int) (v1 : Nat) (v2 : List Bool) (v3 v4 : Int) : evH (V 45) S68 T44 o45r5 10 45 [Ai v0, Ap 0 0, Ap 2 0, Ap 3 0, Ap 4 0] [HA [AV.sl 1 0 v1 1], HO v2, HA [Ai v3], HA [Ai v4], HA [AV.esl]] R K = fano_Build_1_r_B v0 v1 v2 v3 v4 (fun v5 v6 v7 v8 v9 va vb => K (Ab v5) ([HA [AV.sl 1 0 v6 1], HO v7, HA [Ai v8], HA [Ai v9], HA [AV.sl 5 0 va 1], HU vb])) (fun v5 v6 v7 v8 v9 => K (Ab v5) ([HA [AV.sl 1 0 v6 1], HO v7, HA [Ai v8], HA [Ai v9], HA [AV.esl]])) := by kernel_rfl

theorem fano_Build_1_r_1_eq {R : Type} (K : AV → H → Option R) (v0 : Int) (v1 : Nat) (v2 : List Bool) (v3 v4 : Int) (v5 : Nat) (v6 : List Int) : evH (V 45) S68 T44 o45r6 10 45 [Ai v0, Ap 0 0, Ap 2 0, Ap 3 0, Ap 4 0] [HA [AV.sl 1 0 v1 1], HO v2, HA [Ai v3], HA [Ai v4], HA [AV.sl 5 0 v5 1], HU v6] R K = fano_Build_1_r_1_B v0 v1 v2 v3 v4 v5 v6 (fun v7 v8 v9 va vb vc vd => K (Ab v7) ([HA [AV.sl 1 0 v8 1], HO v9, HA [Ai va], HA [Ai vb], HA [AV.sl 6 0 vc 1], HB.dead, HU vd])) (fun v7 v8 v9 va vb vc vd => K (Ab v7) ([HA [AV.sl 1 0 v8 1], HO v9, HA [Ai va], HA [Ai vb], HA [AV.sl 5 0 vc 1], HU vd])) := by kernel_rfl

noncomputable def hs45 : HSpec := fun args h _ K => match args, h with
 | [Ai v0, Ap 0 0, Ap 2 0, Ap 3 0, Ap 4 0], [HA [AV.sl 1 0 v1 1], HO v2, HA [Ai v3], HA [Ai v4], HA [AV.esl]] => fano_Build_1_r v0 v1 v2 v3 v4 (fun v5 v6 v7 v8 v9 va vb => K (Ab v5) ([HA [AV.sl 1 0 v6 1], HO v7, HA [Ai v8], HA [Ai v9], HA [AV.sl 5 0 va 1], HU vb])) (fun v5 v6 v7 v8 v9 => K (Ab v5) ([HA [AV.sl 1 0 v6 1], HO v7, HA [Ai v8], HA [Ai v9], HA [AV.esl]]))
 | [Ai vc, Ap 0 0, Ap 2 0, Ap 3 0, Ap 4 0], [HA [AV.sl 1 0 vd 1], HO ve, HA [Ai vf], HA [Ai vg], HA [AV.sl 5 0 vh 1], HU vi] => fano_Build_1_r_1 vc vd ve vf vg vh vi (fun v5 v6 v7 v8 v9 va vb => K (Ab v5) ([HA [AV.sl 1 0 v6 1], HO v7, HA [Ai v8], HA [Ai v9], HA [AV.sl 6 0 va 1], HB.dead, HU vb])) (fun v5 v6 v7 v8 v9 va vb => K (Ab v5) ([HA [AV.sl 1 0 v6 1], HO v7, HA [Ai v8], HA [Ai v9], HA [AV.sl 5 0 va 1], HU vb]))
 | _, _ => none
noncomputable def T45 := addT 45 hs45 T44
theorem D14 : Dom B0 V S68 T45 14 := Dom.t D13 fun args hh R K r h => by
 unfold hs45 at h; split at h
 · rw [fano_Build_1_r_unf] at h; exact ⟨o45r5, (OrcOk.fn (fn0 := Tryd.f45) (by kernel_rfl) (by kernel_rfl) pc45r5), (fano_Build_1_r_eq K _ _ _ _ _).trans h⟩
 · rw [fano_Build_1_r_1_unf] at h; exact ⟨o45r6, (OrcOk.fn (fn0 := Tryd.f45) (by kernel_rfl) (by kernel_rfl) pc45r6), (fano_Build_1_r_1_eq K _ _ _ _ _ _ _).trans h⟩
 · cases h

noncomputable def o83r7_4000_in {R : Type} (K : Ex → St → Option R) (vs : List AV) (hh : H) : Option R := match vs, hh with
 | [Ap 0 0, Ap 1 0, Ap 2 0, Ap 3 0, Ap 4 0, Ap 5 0, Ai v0, Ab v1], [HA [Ai v2], HA [Ai v3], HA [Fu v4], HA [Ai v5, Ai v6, Ai v7, Ai v8, Ai v9, Fu va, Ai vb, Fu vc], HA [Ab vd], HA [AV.sl 6 0 ve 1], HO vf] => fano_row_1_j4 v0 v1 v2 v3 v4 v5 v6 v7 v8 v9 va vb vc vd ve vf (fun vg vh vi vj vk vl vm vn vo vp vq vr vs vt vu => K (Ex.normal) (St.mk (spread 50 0 [1, 4, 5, 6, 9] [Ap 0 0, Ap 3 0, Ap 4 0, Ap 5 0, Ai vg]) [HA [Ai vh], HA [Ai vi], HA [Fu vj], HA [Ai vk, Ai vl, Ai vm, Ai vn, Ai vo, Fu vp, Ai vq, Fu vr], HA [Ab vs], HA [AV.sl 6 0 vt 1], HO vu]))
 | _, _ => none

noncomputable def o83r7_5000_in {R : Type} (K : Ex → St → Option R) (vs : List AV) (hh : H) : Option R := match vs, hh with
 | [Ap 0 0, Ap 3 0, Ap 4 0, Ap 5 0, Ai v0], [HA [Ai v1], HA [Ai v2], HA [Fu v3], HA [Ai v4, Ai v5, Ai v6, Ai v7, Ai v8, Fu v9, Ai va, Fu vb], HA [Ab vc], HA [AV.sl 6 0 vd 1], HO ve] => fano_row_1_j5 v0 v1 v2 v3 v4 v5 v6 v7 v8 v9 va vb vc vd ve (fun vf vg vh vi vj vk vl vm vn vo vp vq vr vs vt => K (Ex.ret) (St.mk (spread 50 0 [8] [Ab vf]) [HA [Ai vg], HA [Ai vh], HA [Fu vi], HA [Ai vj, Ai vk, Ai vl, Ai vm, Ai vn, Fu vo, Ai vp, Fu vq], HA [Ab vr], HA [AV.sl 6 0 vs 1], HO vt]))
 | _, _ => none

noncomputable def o83r7_6000_in {R : Type} (K : Ex → St → Option R) (vs : List AV) (hh : H) : Option R := match vs, hh with
 | [Ap 0 0, Ap 4 0, Ap 5 0, Ai v0], [HA [Ai v1], HA [Ai v2], HA [Fu v3], HA [Ai v4, Ai v5, Ai v6, Ai v7, Ai v8, Fu v9, Ai va, Fu vb], HA [Ab vc], HA [AV.sl 6 0 vd 1], HO ve] => fano_row_1_j6 v0 v1 v2 v3 v4 v5 v6 v7 v8 v9 va vb vc vd ve (fun vf vg vh vi vj vk vl vm vn vo vp vq vr vs vt => K (Ex.ret) (St.mk (spread 50 0 [8] [Ab vf]) [HA [Ai vg], HA [Ai vh], HA [Fu vi], HA [Ai vj, Ai vk, Ai vl, Ai vm, Ai vn, Fu vo, Ai vp, Fu vq], HA [Ab vr], HA [AV.sl 6 0 vs 1], HO vt]))
 | _, _ => none

noncomputable def o83r7_8000_in {R : Type} (K : Ex → St → Option R) (vs : List AV) (hh : H) : Option R := match vs, hh with
 | [Ap 0 0, Ap 4 0], [HA [Ai v0], HA [Ai v1], HA [Fu v2], HA [Ai v3, Ai v4, Ai v5, Ai v6, Ai v7, Fu v8, Ai v9, Fu va], HA [Ab vb], HA [AV.sl 6 0 vc 1], HO vd] => fano_row_1_j8 v0 v1 v2 v3 v4 v5 v6 v7 v8 v9 va vb vc vd (fun ve vf vg vh vi vj vk vl vm vn vo vp vq vr vs => K (Ex.ret) (St.mk (spread 50 0 [8] [Ab ve]) [HA [Ai vf], HA [Ai vg], HA [Fu vh], HA [Ai vi, Ai vj, Ai vk, Ai vl, Ai vm, Fu vn, Ai vo, Fu vp], HA [Ab vq], HA [AV.sl 6 0 vr 1], HO vs]))
 | _, _ => none

noncomputable def o83r7 : Nat → Option PSpec := lkN [(4000, fun st _ K => pickM 50 [1, 2, 3, 4, 5, 6, 9, 22] st (o83r7_4000_in K)), (5000, fun st _ K => pickM 50 [1, 4, 5, 6, 9] st (o83r7_5000_in K)), (6000, fun st _ K => pickM 50 [1, 5, 6, 9] st (o83r7_6000_in K)), (8000, fun st _ K => pickM 50 [1, 5] st (o83r7_8000_in K))]
noncomputable def q83r7 : CallF := evFun (V 83) S68 T45 10

noncomputable def c83r7_5000 : Code := subC [1, 1, 1] (bodyOf Tryd.f83)

noncomputable def c83r7_4000 : Code := subC [1, 1, 0, 1] (bodyOf Tryd.f83)

noncomputable def c83r7_6000 : Code := subC [1, 1, 1, 1] (bodyOf Tryd.f83)

noncomputable def c83r7_8000 : Code := subC [1, 1, 1, 1, 1] (bodyOf Tryd.f83)

theorem p83r7_5000 : PieceOk (V 83) q83r7 o83r7 83 7 (3997, 0, c83r7_5000) := .s (size := 50) (ss := [1, 4, 5, 6, 9]) (F := @o83r7_5000_in) (by kernel_rfl) fun R r K vs hh h => by
  unfold o83r7_5000_in at h; split at h
  · rw [fano_row_1_j5_unf] at h; exact Eq.trans (by kernel_rfl) h
  · cases h

theorem p83r7_4000 : PieceOk (V 83) q83r7 o83r7 83 7 (3996, 0, c83r7_4000) := .s (size := 50) (ss := [1, 2, 3, 4, 5, 6, 9, 22]) (F := @o83r7_4000_in) (by kernel_rfl) fun R r K vs hh h => by
  unfold o83r7_4000_in at h; split at h
  · rw [fano_row_1_j4_unf] at h; exact Eq.trans (by kernel_rfl) h
  · cases h

theorem p83r7_6000 : PieceOk (V 83) q83r7 o83r7 83 7 (3996, 0, c83r7_6000) := .s (size := 50) (ss := [1, 5, 6, 9]) (F := @o83r7_6000_in) (by kernel_rfl) fun R r K vs hh h => by
  unfold o83r7_6000_in at h; split at h
  · rw [fano_row_1_j6_unf] at h; exact Eq.trans (by kernel_rfl) h
  · cases h

theorem p83r7_8000 : PieceOk (V 83) q83r7 o83r7 83 7 (3995, 0, c83r7_8000) := .s (size := 50) (ss := [1, 5]) (F := @o83r7_8000_in) (by kernel_rfl) fun R r K vs hh h => by
  unfold o83r7_8000_in at h; split at h
  · rw [fano_row_1_j8_unf] at h; exact Eq.trans (by kernel_rfl) h
  · cases h

theorem pc83r7 : ∀ x ∈ [(3997, 0, c83r7_5000), (3996, 0, c83r7_4000), (3996, 0, c83r7_6000), (3995, 0, c83r7_8000)], PieceOk (V 83) q83r7 o83r7 83 7 x := List.forall_mem_cons.2 ⟨p83r7_5000, List.forall_mem_cons.2 ⟨p83r7_4000, List.forall_mem_cons.2 ⟨p83r7_6000, List.forall_mem_cons.2 ⟨p83r7_8000, fun _ h => nomatch h⟩⟩⟩⟩

theorem fano_row_1_r_eq {R : Type} (K : AV → H → Option R) (v0 v1 v2 : Int) (v3 : List Int) (v4 v5 v6 v7 v8 : Int) (v9 : List Int) (va : Int) (vb : List Int) (vc : Bool) (vd : Nat) (ve : List Bool) : evH (V 83) S68 T45 o83r7 10 83 [Ai v0, Ap 0 0, Ap 1 0, Ap 2 0, Ap 3 0, Ap 4 0, Ap 5 0] [HA [Ai v1], HA [Ai v2], HA [Fu v3], HA [Ai v4, Ai v5, Ai v6, Ai v7, Ai v8, Fu v9, Ai va, Fu vb], HA [Ab vc], HA [AV.sl 6 0 vd 1], HO ve] R K = fano_row_1_r_B v0 v1 v2 v3 v4 v5 v6 v7 v8 v9 va vb vc vd ve (fun vf vg vh vi vj vk vl vm vn vo vp vq vr vs vt => K (Ab vf) ([HA [Ai vg], HA [Ai vh], HA [Fu vi], HA [Ai vj, Ai vk, Ai vl, Ai vm, Ai vn, Fu vo, Ai vp, Fu vq], HA [Ab vr], HA [AV.sl 6 0 vs 1], HO vt])) := by kernel_rfl

noncomputable def hs83 : HSpec := fun args h _ K => match args, h with
 | [Ai v0, Ap 0 0, Ap 1 0, Ap 2 0, Ap 3 0, Ap 4 0, Ap 5 0], [HA [Ai v1], HA [Ai v2], HA [Fu v3], HA [Ai v4, Ai v5, Ai v6, Ai v7, Ai v8, Fu v9, Ai va, Fu vb], HA [Ab vc], HA [AV.sl 6 0 vd 1], HO ve] => fano_row_1_r v0 v1 v2 v3 v4 v5 v6 v7 v8 v9 va vb vc vd ve (fun vf vg vh vi vj vk vl vm vn vo vp vq vr vs vt => K (Ab vf) ([HA [Ai vg], HA [Ai vh], HA [Fu vi], HA [Ai vj, Ai vk, Ai vl, Ai vm, Ai vn, Fu vo, Ai vp, Fu vq], HA [Ab vr], HA [AV.sl 6 0 vs 1], HO vt]))
 | _, _ => none
noncomputable def T83 := addT 83 hs83 T45
theorem D15 : Dom B0 V S68 T83 15 := Dom.t D14 fun args hh R K r h => by
 unfold hs83 at h; split at h
 · rw [fano_row_1_r_unf] at h; exact ⟨o83r7, (OrcOk.fn (fn0 := Tryd.f83) (by kernel_rfl) (by kernel_rfl) pc83r7), (fano_row_1_r_eq K _ _ _ _ _ _ _ _ _ _ _ _ _ _ _).trans h⟩
 · cases h

noncomputable def o73r7_2400_in {R : Type} (K : Ex → St → Option R) (vs : List AV) (hh : H) : Option R := match vs, hh with
 | [AV.fn 45 [Ap 0 0, Ap 2 0, Ap 3 0, Ap 4 0], AV.sl 6 0 v0 1, Ai v1, Ai v2], [HA [AV.sl 1 0 v3 1], HO v4, HA [Ai v5], HA [Ai v6], HA [AV.esl], HA [Ai v7, AV.sl 6 0 v8 1], HU v9] => fano_eachOne_1_l2 v0 v1 v2 v3 v4 v5 v6 v7 v8 v9 (fun va vb vc vd ve vf vg vh vi => K (Ex.ret) (St.mk (spread 28 0 [] []) [HA [AV.sl 1 0 va 1], HO vb, HA [Ai vc], HA [Ai vd], HA [AV.sl 7 0 ve 1], HA [Ai vf, AV.sl 6 0 vg 1], HU vh, HU vi])) (fun va vb vc vd ve vf vg vh vi => K (Ex.exit 0) (St.mk (spread 28 0 [] []) [HA [AV.sl 1 0 va 1], HO vb, HA [Ai vc], HA [Ai vd], HA [AV.sl 7 0 ve 1], HA [Ai vf, AV.sl 6 0 vg 1], HU vh, HU vi])) (fun va vb vc vd ve vf vg => K (Ex.ret) (St.mk (spread 28 0 [] []) [HA [AV.sl 1 0 va 1], HO vb, HA [Ai vc], HA [Ai vd], HA [AV.esl], HA [Ai ve, AV.sl 6 0 vf 1], HU vg])) (fun va vb vc vd ve vf vg => K (Ex.exit 0) (St.mk (spread 28 0 [] []) [HA [AV.sl 1 0 va 1], HO vb, HA [Ai vc], HA [Ai vd], HA [AV.esl], HA [Ai ve, AV.sl 6 0 vf 1], HU vg]))
 | [AV.fn 45 [Ap 0 0, Ap 2 0, Ap 3 0, Ap 4 0], AV.sl 6 0 vj 1, Ai vk, Ai vl], [HA [AV.sl 1 0 vm 1], HO vn, HA [Ai vo], HA [Ai vp], HA [AV.sl 7 0 vq 1], HA [Ai vr, AV.sl 6 0 vs 1], HU vt, HU vu] => fano_eachOne_1_l2_1 vj vk vl vm vn vo vp vq vr vs vt vu (fun va vb vc vd ve vf vg vh vi => K (Ex.ret) (St.mk (spread 28 0 [] []) [HA [AV.sl 1 0 va 1], HO vb, HA [Ai vc], HA [Ai vd], HA [AV.sl 7 0 ve 1], HA [Ai vf, AV.sl 6 0 vg 1], HU vh, HU vi])) (fun va vb vc vd ve vf vg vh vi => K (Ex.exit 0) (St.mk (spread 28 0 [] []) [HA [AV.sl 1 0 va 1], HO vb, HA [Ai vc], HA [Ai vd], HA [AV.sl 7 0 ve 1], HA [Ai vf, AV.sl 6 0 vg 1], HU vh, HU vi]))
 | _, _ => none

noncomputable def o73r7_4400_in {R : Type} (K : Ex → St → Option R) (vs : List AV) (hh : H) : Option R := match vs, hh with
 | [AV.fn 45 [Ap 0 0, Ap 2 0, Ap 3 0, Ap 4 0], Ai v0, Au v1, AV.sl 6 0 v2 1, Ai v3, Ai v4], [HA [AV.sl 1 0 v5 1], HO v6, HA [Ai v7], HA [Ai v8], HA [AV.esl], HA [Ai v9, AV.sl 6 0 va 1], HU vb] => fano_eachOne_1_l4 v0 v1 v2 v3 v4 v5 v6 v7 v8 v9 va vb (fun vc vd ve vf vg vh vi vj vk => K (Ex.ret) (St.mk (spread 28 0 [] []) [HA [AV.sl 1 0 vc 1], HO vd, HA [Ai ve], HA [Ai vf], HA [AV.sl 7 0 vg 1], HA [Ai vh, AV.sl 6 0 vi 1], HU vj, HU vk])) (fun vc vd ve vf vg vh vi vj vk vl vm vn => K (Ex.exit 2) (St.mk (spread 28 0 [0, 6, 7, 8] [AV.fn 45 [Ap 0 0, Ap 2 0, Ap 3 0, Ap 4 0], AV.sl 6 0 vc 1, Ai vd, Ai ve]) [HA [AV.sl 1 0 vf 1], HO vg, HA [Ai vh], HA [Ai vi], HA [AV.sl 7 0 vj 1], HA [Ai vk, AV.sl 6 0 vl 1], HU vm, HU vn])) (fun vc vd ve vf vg vh vi => K (Ex.ret) (St.mk (spread 28 0 [] []) [HA [AV.sl 1 0 vc 1], HO vd, HA [Ai ve], HA [Ai vf], HA [AV.esl], HA [Ai vg, AV.sl 6 0 vh 1], HU vi])) (fun vc vd ve vf vg vh vi vj vk vl => K (Ex.exit 2) (St.mk (spread 28 0 [0, 6, 7, 8] [AV.fn 45 [Ap 0 0, Ap 2 0, Ap 3 0, Ap 4 0], AV.sl 6 0 vc 1, Ai vd, Ai ve]) [HA [AV.sl 1 0 vf 1], HO vg, HA [Ai vh], HA [Ai vi], HA [AV.esl], HA [Ai vj, AV.sl 6 0 vk 1], HU vl]))
 | [AV.fn 45 [Ap 0 0, Ap 2 0, Ap 3 0, Ap 4 0], Ai vo, Au vp, AV.sl 6 0 vq 1, Ai vr, Ai vs], [HA [AV.sl 1 0 vt 1], HO vu, HA [Ai vv], HA [Ai vw], HA [AV.sl 7 0 vx 1], HA [Ai vy, AV.sl 6 0 vz 1], HU v10, HU v11] => fano_eachOne_1_l4_1 vo vp vq vr vs vt vu vv vw vx vy vz v10 v11 (fun vc vd ve vf vg vh vi vj vk => K (Ex.ret) (St.mk (spread 28 0 [] []) [HA [AV.sl 1 0 vc 1], HO vd, HA [Ai ve], HA [Ai vf], HA [AV.sl 7 0 vg 1], HA [Ai vh, AV.sl 6 0 vi 1], HU vj, HU vk])) (fun vc vd ve vf vg vh vi vj vk vl vm vn => K (Ex.exit 2) (St.mk (spread 28 0 [0, 6, 7, 8] [AV.fn 45 [Ap 0 0, Ap 2 0, Ap 3 0, Ap 4 0], AV.sl 6 0 vc 1, Ai vd, Ai ve]) [HA [AV.sl 1 0 vf 1], HO vg, HA [Ai vh], HA [Ai vi], HA [AV.sl 7 0 vj 1], HA [Ai vk, AV.sl 6 0 vl 1], HU vm, HU vn]))
 | _, _ => none

noncomputable def o73r7 : Nat → Option PSpec := lkN [(2400, fun st _ K => pickM 28 [0, 6, 7, 8] st (o73r7_2400_in K)), (4400, fun st _ K => pickM 28 [0, 3, 4, 6, 7, 8] st (o73r7_4400_in K))]
noncomputable def q73r7 : CallF := evFun (V 73) S68 T83 10

noncomputable def c73r7_2400 : Code := subC [1, 0, 0] (bodyOf Tryd.f73)

noncomputable def lp73r7_2400 {R : Type} (N : Nat) (st : St) (K : Ex → St → Option R) : Option R := evLoop (norm ((V 73).keep 73 (Ev.keyOf c73r7_2400 * 1000 + 400)) 7) (evCode (V 73) q73r7 o73r7 73 7 3997 c73r7_2400) N st (kOut (V 73) 73 7 (Ev.keyOf c73r7_2400 * 1000 + 401) K)

noncomputable def c73r7_4400 : Code := subC [1, 0, 0, 1, 1, 0, 0, 1, 0, 0] (bodyOf Tryd.f73)

noncomputable def lp73r7_4400 {R : Type} (N : Nat) (st : St) (K : Ex → St → Option R) : Option R := evLoop (norm ((V 73).keep 73 (Ev.keyOf c73r7_4400 * 1000 + 400)) 7) (evCode (V 73) q73r7 o73r7 73 7 3990 c73r7_4400) N st (kOut (V 73) 73 7 (Ev.keyOf c73r7_4400 * 1000 + 401) K)

theorem fano_eachOne_1_l4_1_L_eq {R : Type} (K : Ex → St → Option R) : ∀ N : Nat, (fun (v0 v1 : Int) (v2 : Nat) (v3 v4 : Int) (v5 : Nat) (v6 : List Bool) (v7 v8 : Int) (v9 : Nat) (va : Int) (vb : Nat) (vc vd : List Int) => lp73r7_4400 N (St.mk (spread 28 0 [0, 3, 4, 6, 7, 8] [AV.fn 45 [Ap 0 0, Ap 2 0, Ap 3 0, Ap 4 0], Ai v0, Au v1, AV.sl 6 0 v2 1, Ai v3, Ai v4]) [HA [AV.sl 1 0 v5 1], HO v6, HA [Ai v7], HA [Ai v8], HA [AV.sl 7 0 v9 1], HA [Ai va, AV.sl 6 0 vb 1], HU vc, HU vd]) K) = fano_eachOne_1_l4_1_L (fun ve vf vg vh vi vj vk vl vm => K (Ex.ret) (St.mk (spread 28 0 [] []) [HA [AV.sl 1 0 ve 1], HO vf, HA [Ai vg], HA [Ai vh], HA [AV.sl 7 0 vi 1], HA [Ai vj, AV.sl 6 0 vk 1], HU vl, HU vm])) (fun ve vf vg vh vi vj vk vl vm vn vo vp => K (Ex.exit 2) (St.mk (spread 28 0 [0, 6, 7, 8] [AV.fn 45 [Ap 0 0, Ap 2 0, Ap 3 0, Ap 4 0], AV.sl 6 0 ve 1, Ai vf, Ai vg]) [HA [AV.sl 1 0 vh 1], HO vi, HA [Ai vj], HA [Ai vk], HA [AV.sl 7 0 vl 1], HA [Ai vm, AV.sl 6 0 vn 1], HU vo, HU vp])) N
  | 0 => by funext v0 v1 v2 v3 v4 v5 v6 v7 v8 v9 va vb vc vd; rfl
  | N + 1 => by
    funext v0 v1 v2 v3 v4 v5 v6 v7 v8 v9 va vb vc vd
    simp only [fano_eachOne_1_l4_1_L]
    rw [← fano_eachOne_1_l4_1_L_eq K N]
    kernel_rfl

theorem fano_eachOne_1_l4_L_eq {R : Type} (K : Ex → St → Option R) : ∀ N : Nat, (fun (v0 v1 : Int) (v2 : Nat) (v3 v4 : Int) (v5 : Nat) (v6 : List Bool) (v7 v8 v9 : Int) (va : Nat) (vb : List Int) => lp73r7_4400 N (St.mk (spread 28 0 [0, 3, 4, 6, 7, 8] [AV.fn 45 [Ap 0 0, Ap 2 0, Ap 3 0, Ap 4 0], Ai v0, Au v1, AV.sl 6 0 v2 1, Ai v3, Ai v4]) [HA [AV.sl 1 0 v5 1], HO v6, HA [Ai v7], HA [Ai v8], HA [AV.esl], HA [Ai v9, AV.sl 6 0 va 1], HU vb]) K) = fano_eachOne_1_l4_L (fun vc vd ve vf vg vh vi vj vk => K (Ex.ret) (St.mk (spread 28 0 [] []) [HA [AV.sl 1 0 vc 1], HO vd, HA [Ai ve], HA [Ai vf], HA [AV.sl 7 0 vg 1], HA [Ai vh, AV.sl 6 0 vi 1], HU vj, HU vk])) (fun vc vd ve vf vg vh vi vj vk vl vm vn => K (Ex.exit 2) (St.mk (spread 28 0 [0, 6, 7, 8] [AV.fn 45 [Ap 0 0, Ap 2 0, Ap 3 0, Ap 4 0], AV.sl 6 0 vc 1, Ai vd, Ai ve]) [HA [AV.sl 1 0 vf 1], HO vg, HA [Ai vh], HA [Ai vi], HA [AV.sl 7 0 vj 1], HA [Ai vk, AV.sl 6 0 vl 1], HU vm, HU vn])) (fun vc vd ve vf vg vh vi => K (Ex.ret) (St.mk (spread 28 0 [] []) [HA [AV.sl 1 0 vc 1], HO vd, HA [Ai ve], HA [Ai vf], HA [AV.esl], HA [Ai vg, AV.sl 6 0 vh 1], HU vi])) (fun vc vd ve vf vg vh vi vj vk vl => K (Ex.exit 2) (St.mk (spread 28 0 [0, 6, 7, 8] [AV.fn 45 [Ap 0 0, Ap 2 0, Ap 3 0, Ap 4 0], AV.sl 6 0 vc 1, Ai vd, Ai ve]) [HA [AV.sl 1 0 vf 1], HO vg, HA [Ai vh], HA [Ai vi], HA [AV.esl], HA [Ai vj, AV.sl 6 0 vk 1], HU vl])) N
  | 0 => by funext v0 v1 v2 v3 v4 v5 v6 v7 v8 v9 va vb; rfl
  | N + 1 => by
    funext v0 v1 v2 v3 v4 v5 v6 v7 v8 v9 va vb
    simp only [fano_eachOne_1_l4_L]
    rw [← fano_eachOne_1_l4_L_eq K N, ← fano_eachOne_1_l4_1_L_eq K N]
    kernel_rfl

theorem fano_eachOne_1_l2_1_L_eq {R : Type} (K : Ex → St → Option R) : ∀ N : Nat, (fun (v0 : Nat) (v1 v2 : Int) (v3 : Nat) (v4 : List Bool) (v5 v6 : Int) (v7 : Nat) (v8 : Int) (v9 : Nat) (va vb : List Int) => lp73r7_2400 N (St.mk (spread 28 0 [0, 6, 7, 8] [AV.fn 45 [Ap 0 0, Ap 2 0, Ap 3 0, Ap 4 0], AV.sl 6 0 v0 1, Ai v1, Ai v2]) [HA [AV.sl 1 0 v3 1], HO v4, HA [Ai v5], HA [Ai v6], HA [AV.sl 7 0 v7 1], HA [Ai v8, AV.sl 6 0 v9 1], HU va, HU vb]) K) = fano_eachOne_1_l2_1_L (fun vc vd ve vf vg vh vi vj vk => K (Ex.ret) (St.mk (spread 28 0 [] []) [HA [AV.sl 1 0 vc 1], HO vd, HA [Ai ve], HA [Ai vf], HA [AV.sl 7 0 vg 1], HA [Ai vh, AV.sl 6 0 vi 1], HU vj, HU vk])) (fun vc vd ve vf vg vh vi vj vk => K (Ex.exit 0) (St.mk (spread 28 0 [] []) [HA [AV.sl 1 0 vc 1], HO vd, HA [Ai ve], HA [Ai vf], HA [AV.sl 7 0 vg 1], HA [Ai vh, AV.sl 6 0 vi 1], HU vj, HU vk])) N
  | 0 => by funext v0 v1 v2 v3 v4 v5 v6 v7 v8 v9 va vb; rfl
  | N + 1 => by
    funext v0 v1 v2 v3 v4 v5 v6 v7 v8 v9 va vb
    simp only [fano_eachOne_1_l2_1_L]
    rw [← fano_eachOne_1_l2_1_L_eq K N]
    kernel_rfl

theorem fano_eachOne_1_l2_L_eq {R : Type} (K : Ex → St → Option R) : ∀ N : Nat, (fun (v0 : Nat) (v1 v2 : Int) (v3 : Nat) (v4 : List Bool) (v5 v6 v7 : Int) (v8 : Nat) (v9 : List Int) => lp73r7_2400 N (St.mk (spread 28 0 [0, 6, 7, 8] [AV.fn 45 [Ap 0 0, Ap 2 0, Ap 3 0, Ap 4 0], AV.sl 6 0 v0 1, Ai v1, Ai v2]) [HA [AV.sl 1 0 v3 1], HO v4, HA [Ai v5], HA [Ai v6], HA [AV.esl], HA [Ai v7, AV.sl 6 0 v8 1], HU v9]) K) = fano_eachOne_1_l2_L (fun va vb vc vd ve vf vg vh vi => K (Ex.ret) (St.mk (spread 28 0 [] []) [HA [AV.sl 1 0 va 1], HO vb, HA [Ai vc], HA [Ai vd], HA [AV.sl 7 0 ve 1], HA [Ai vf, AV.sl 6 0 vg 1], HU vh, HU vi])) (fun va vb vc vd ve vf vg vh vi => K (Ex.exit 0) (St.mk (spread 28 0 [] []) [HA [AV.sl 1 0 va 1], HO vb, HA [Ai vc], HA [Ai vd], HA [AV.sl 7 0 ve 1], HA [Ai vf, AV.sl 6 0 vg 1], HU vh, HU vi])) (fun va vb vc vd ve vf vg => K (Ex.ret) (St.mk (spread 28 0 [] []) [HA [AV.sl 1 0 va 1], HO vb, HA [Ai vc], HA [Ai vd], HA [AV.esl], HA [Ai ve, AV.sl 6 0 vf 1], HU vg])) (fun va vb vc vd ve vf vg => K (Ex.exit 0) (St.mk (spread 28 0 [] []) [HA [AV.sl 1 0 va 1], HO vb, HA [Ai vc], HA [Ai vd], HA [AV.esl], HA [Ai ve, AV.sl 6 0 vf 1], HU vg])) N
  | 0 => by funext v0 v1 v2 v3 v4 v5 v6 v7 v8 v9; rfl
  | N + 1 => by
    funext v0 v1 v2 v3 v4 v5 v6 v7 v8 v9
    simp only [fano_eachOne_1_l2_L]
    rw [← fano_eachOne_1_l2_L_eq K N, ← fano_eachOne_1_l2_1_L_eq K N]
    kernel_rfl

theorem p73r7_2400 : PieceOk (V 73) q73r7 o73r7 73 7 (3997, 1, c73r7_2400) := .l (size := 28) (ss := [0, 6, 7, 8]) (F := @o73r7_2400_in) (by kernel_rfl) (by kernel_rfl) fun R r K vs hh h => by
  unfold o73r7_2400_in at h; split at h
  · rw [fano_eachOne_1_l2_unf] at h; unfold fano_eachOne_1_l2_B at h; rw [← fano_eachOne_1_l2_L_eq K NR] at h; exact h
  · rw [fano_eachOne_1_l2_1_unf] at h; unfold fano_eachOne_1_l2_1_B at h; rw [← fano_eachOne_1_l2_1_L_eq K NR] at h; exact h
  · cases h

theorem p73r7_4400 : PieceOk (V 73) q73r7 o73r7 73 7 (3990, 1, c73r7_4400) := .l (size := 28) (ss := [0, 3, 4, 6, 7, 8]) (F := @o73r7_4400_in) (by kernel_rfl) (by kernel_rfl) fun R r K vs hh h => by
  unfold o73r7_4400_in at h; split at h
  · rw [fano_eachOne_1_l4_unf] at h; unfold fano_eachOne_1_l4_B at h; rw [← fano_eachOne_1_l4_L_eq K NR] at h; exact h
  · rw [fano_eachOne_1_l4_1_unf] at h; unfold fano_eachOne_1_l4_1_B at h; rw [← fano_eachOne_1_l4_1_L_eq K NR] at h; exact h
  · cases h

theorem pc73r7 : ∀ x ∈ [(3997, 1, c73r7_2400), (3990, 1, c73r7_4400)], PieceOk (V 73) q73r7 o73r7 73 7 x := List.forall_mem_cons.2 ⟨p73r7_2400, List.forall_mem_cons.2 ⟨p73r7_4400, fun _ h => nomatch h⟩⟩

noncomputable def o73r8_2400_in {R : Type} (K : Ex → St → Option R) (vs : List AV) (hh : H) : Option R := match vs, hh with
 | [AV.fn 83 [Ap 0 0, Ap 1 0, Ap 2 0, Ap 3 0, Ap 4 0, Ap 5 0], Fu v0, Ai v1, Ai v2], [HA [Ai v3], HA [Ai v4], HA [Fu v5], HA [Ai v6, Ai v7, Ai v8, Ai v9, Ai va, Fu vb, Ai vc, Fu vd], HA [Ab ve], HA [AV.sl 6 0 vf 1], HO vg, HA [Ai vh, Fu vi]] => fano_eachOne_1_l2_2 v0 v1 v2 v3 v4 v5 v6 v7 v8 v9 va vb vc vd ve vf vg vh vi (fun vj vk vl vm vn vo vp vq vr vs vt vu vv vw vx vy => K (Ex.ret) (St.mk (spread 28 0 [] []) [HA [Ai vj], HA [Ai vk], HA [Fu vl], HA [Ai vm, Ai vn, Ai vo, Ai vp, Ai vq, Fu vr, Ai vs, Fu vt], HA [Ab vu], HA [AV.sl 6 0 vv 1], HO vw, HA [Ai vx, Fu vy]])) (fun vj vk vl vm vn vo vp vq vr vs vt vu vv vw vx vy => K (Ex.exit 0) (St.mk (spread 28 0 [] []) [HA [Ai vj], HA [Ai vk], HA [Fu vl], HA [Ai vm, Ai vn, Ai vo, Ai vp, Ai vq, Fu vr, Ai vs, Fu vt], HA [Ab vu], HA [AV.sl 6 0 vv 1], HO vw, HA [Ai vx, Fu vy]]))
 | _, _ => none

noncomputable def o73r8_4400_in {R : Type} (K : Ex → St → Option R) (vs : List AV) (hh : H) : Option R := match vs, hh with
 | [AV.fn 83 [Ap 0 0, Ap 1 0, Ap 2 0, Ap 3 0, Ap 4 0, Ap 5 0], Ai v0, Au v1, Fu v2, Ai v3, Ai v4], [HA [Ai v5], HA [Ai v6], HA [Fu v7], HA [Ai v8, Ai v9, Ai va, Ai vb, Ai vc, Fu vd, Ai ve, Fu vf], HA [Ab vg], HA [AV.sl 6 0 vh 1], HO vi, HA [Ai vj, Fu vk]] => fano_eachOne_1_l4_2 v0 v1 v2 v3 v4 v5 v6 v7 v8 v9 va vb vc vd ve vf vg vh vi vj vk (fun vl vm vn vo vp vq vr vs vt vu vv vw vx vy vz v10 => K (Ex.ret) (St.mk (spread 28 0 [] []) [HA [Ai vl], HA [Ai vm], HA [Fu vn], HA [Ai vo, Ai vp, Ai vq, Ai vr, Ai vs, Fu vt, Ai vu, Fu vv], HA [Ab vw], HA [AV.sl 6 0 vx 1], HO vy, HA [Ai vz, Fu v10]])) (fun vl vm vn vo vp vq vr vs vt vu vv vw vx vy vz v10 v11 v12 v13 => K (Ex.exit 2) (St.mk (spread 28 0 [0, 6, 7, 8] [AV.fn 83 [Ap 0 0, Ap 1 0, Ap 2 0, Ap 3 0, Ap 4 0, Ap 5 0], Fu vl, Ai vm, Ai vn]) [HA [Ai vo], HA [Ai vp], HA [Fu vq], HA [Ai vr, Ai vs, Ai vt, Ai vu, Ai vv, Fu vw, Ai vx, Fu vy], HA [Ab vz], HA [AV.sl 6 0 v10 1], HO v11, HA [Ai v12, Fu v13]]))
 | _, _ => none

noncomputable def o73r8 : Nat → Option PSpec := lkN [(2400, fun st _ K => pickM 28 [0, 6, 7, 8] st (o73r8_2400_in K)), (4400, fun st _ K => pickM 28 [0, 3, 4, 6, 7, 8] st (o73r8_4400_in K))]
noncomputable def q73r8 : CallF := evFun (V 73) S68 T83 10

noncomputable def c73r8_2400 : Code := subC [1, 0, 0] (bodyOf Tryd.f73)

noncomputable def lp73r8_2400 {R : Type} (N : Nat) (st : St) (K : Ex → St → Option R) : Option R := evLoop (norm ((V 73).keep 73 (Ev.keyOf c73r8_2400 * 1000 + 400)) 8) (evCode (V 73) q73r8 o73r8 73 8 3997 c73r8_2400) N st (kOut (V 73) 73 8 (Ev.keyOf c73r8_2400 * 1000 + 401) K)

noncomputable def c73r8_4400 : Code := subC [1, 0, 0, 1, 1, 0, 0, 1, 0, 0] (bodyOf Tryd.f73)

noncomputable def lp73r8_4400 {R : Type} (N : Nat) (st : St) (K : Ex → St → Option R) : Option R := evLoop (norm ((V 73).keep 73 (Ev.keyOf c73r8_4400 * 1000 + 400)) 8) (evCode (V 73) q73r8 o73r8 73 8 3990 c73r8_4400) N st (kOut (V 73) 73 8 (Ev.keyOf c73r8_4400 * 1000 + 401) K)

theorem fano_eachOne_1_l4_2_L_eq {R : Type} (K : Ex → St → Option R) : ∀ N : Nat, (fun (v0 v1 : Int) (v2 : List Int) (v3 v4 v5 v6 : Int) (v7 : List Int) (v8 v9 va vb vc : Int) (vd : List Int) (ve : Int) (vf : List Int) (vg : Bool) (vh : Nat) (vi : List Bool) (vj : Int) (vk : List Int) => lp73r8_4400 N (St.mk (spread 28 0 [0, 3, 4, 6, 7, 8] [AV.fn 83 [Ap 0 0, Ap 1 0, Ap 2 0, Ap 3 0, Ap 4 0, Ap 5 0], Ai v0, Au v1, Fu v2, Ai v3, Ai v4]) [HA [Ai v5], HA [Ai v6], HA [Fu v7], HA [Ai v8, Ai v9, Ai va, Ai vb, Ai vc, Fu vd, Ai ve, Fu vf], HA [Ab vg], HA [AV.sl 6 0 vh 1], HO vi, HA [Ai vj, Fu vk]]) K) = fano_eachOne_1_l4_2_L (fun vl vm vn vo vp vq vr vs vt vu vv vw vx vy vz v10 => K (Ex.ret) (St.mk (spread 28 0 [] []) [HA [Ai vl], HA [Ai vm], HA [Fu vn], HA [Ai vo, Ai vp, Ai vq, Ai vr, Ai vs, Fu vt, Ai vu, Fu vv], HA [Ab vw], HA [AV.sl 6 0 vx 1], HO vy, HA [Ai vz, Fu v10]])) (fun vl vm vn vo vp vq vr vs vt vu vv vw vx vy vz v10 v11 v12 v13 => K (Ex.exit 2) (St.mk (spread 28 0 [0, 6, 7, 8] [AV.fn 83 [Ap 0 0, Ap 1 0, Ap 2 0, Ap 3 0, Ap 4 0, Ap 5 0], Fu vl, Ai vm, Ai vn]) [HA [Ai vo], HA [Ai vp], HA [Fu vq], HA [Ai vr, Ai vs, Ai vt, Ai vu, Ai vv, Fu vw, Ai vx, Fu vy], HA [Ab vz], HA [AV.sl 6 0 v10 1], HO v11, HA [Ai v12, Fu v13]])) N
  | 0 => by funext v0 v1 v2 v3 v4 v5 v6 v7 v8 v9 va vb vc vd ve vf vg vh vi vj vk; rfl
  | N + 1 => by
    funext v0 v1 v2 v3 v4 v5 v6 v7 v8 v9 va vb vc vd ve vf vg vh vi vj vk
    simp only [fano_eachOne_1_l4_2_L]
    rw [← fano_eachOne_1_l4_2_L_eq K N]
    kernel_rfl

theorem fano_eachOne_1_l2_2_L_eq {R : Type} (K : Ex → St → Option R) : ∀ N : Nat, (fun (v0 : List Int) (v1 v2 v3 v4 : Int) (v5 : List Int) (v6 v7 v8 v9 va : Int) (vb : List Int) (vc : Int) (vd : List Int) (ve : Bool) (vf : Nat) (vg : List Bool) (vh : Int) (vi : List Int) => lp73r8_2400 N (St.mk (spread 28 0 [0, 6, 7, 8] [AV.fn 83 [Ap 0 0, Ap 1 0, Ap 2 0, Ap 3 0, Ap 4 0, Ap 5 0], Fu v0, Ai v1, Ai v2]) [HA [Ai v3], HA [Ai v4], HA [Fu v5], HA [Ai v6, Ai v7, Ai v8, Ai v9, Ai va, Fu vb, Ai vc, Fu vd], HA [Ab ve], HA [AV.sl 6 0 vf 1], HO vg, HA [Ai vh, Fu vi]]) K) = fano_eachOne_1_l2_2_L (fun vj vk vl vm vn vo vp vq vr vs vt vu vv vw vx vy => K (Ex.ret) (St.mk (spread 28 0 [] []) [HA [Ai vj], HA [Ai vk], HA [Fu vl], HA [Ai vm, Ai vn, Ai vo, Ai vp, Ai vq, Fu vr, Ai vs, Fu vt], HA [Ab vu], HA [AV.sl 6 0 vv 1], HO vw, HA [Ai vx, Fu vy]])) (fun vj vk vl vm vn vo vp vq vr vs vt vu vv vw vx vy => K (Ex.exit 0) (St.mk (spread 28 0 [] []) [HA [Ai vj], HA [Ai vk], HA [Fu vl], HA [Ai vm, Ai vn, Ai vo, Ai vp, Ai vq, Fu vr, Ai vs, Fu vt], HA [Ab vu], HA [AV.sl 6 0 vv 1], HO vw, HA [Ai vx, Fu vy]])) N
  | 0 => by funext v0 v1 v2 v3 v4 v5 v6 v7 v8 v9 va vb vc vd ve vf vg vh vi; rfl
  | N + 1 => by
    funext v0 v1 v2 v3 v4 v5 v6 v7 v8 v9 va vb vc vd ve vf vg vh vi
    simp only [fano_eachOne_1_l2_2_L]
    rw [← fano_eachOne_1_l2_2_L_eq K N]
    kernel_rfl

theorem p73r8_2400 : PieceOk (V 73) q73r8 o73r8 73 8 (3997, 1, c73r8_2400) := .l (size := 28) (ss := [0, 6, 7, 8]) (F := @o73r8_2400_in) (by kernel_rfl) (by kernel_rfl) fun R r K vs hh h => by
  unfold o73r8_2400_in at h; split at h
  · rw [fano_eachOne_1_l2_2_unf] at h; unfold fano_eachOne_1_l2_2_B at h; rw [← fano_eachOne_1_l2_2_L_eq K NR] at h; exact h
  · cases h

theorem p73r8_4400 : PieceOk (V 73) q73r8 o73r8 73 8 (3990, 1, c73r8_4400) := .l (size := 28) (ss := [0, 3, 4, 6, 7, 8]) (F := @o73r8_4400_in) (by kernel_rfl) (by kernel_rfl) fun R r K vs hh h => by
  unfold o73r8_4400_in at h; split at h
  · rw [fano_eachOne_1_l4_2_unf] at h; unfold fano_eachOne_1_l4_2_B at h; rw [← fano_eachOne_1_l4_2_L_eq K NR] at h; exact h
  · cases h

theorem pc73r8 : ∀ x ∈ [(3997, 1, c73r8_2400), (3990, 1, c73r8_4400)], PieceOk (V 73) q73r8 o73r8 73 8 x := List.forall_mem_cons.2 ⟨p73r8_2400, List.forall_mem_cons.2 ⟨p73r8_4400, fun _ h => nomatch h⟩⟩

noncomputable def o73r6_2400_in {R : Type} (K : Ex → St → Option R) (vs : List AV) (hh : H) : Option R := match vs, hh with
 | [AV.fn 45 [Ap 0 0, Ap 2 0, Ap 3 0, Ap 4 0], Fu v0, Ai v1, Ai v2], [HA [AV.sl 1 0 v3 1], HO v4, HA [Ai v5], HA [Ai v6], HA [AV.esl], HA [Ai v7, Fu v8]] => fano_eachOne_1_l2_3 v0 v1 v2 v3 v4 v5 v6 v7 v8 (fun v9 va vb vc vd ve vf vg => K (Ex.ret) (St.mk (spread 28 0 [] []) [HA [AV.sl 1 0 v9 1], HO va, HA [Ai vb], HA [Ai vc], HA [AV.sl 6 0 vd 1], HA [Ai ve, Fu vf], HU vg])) (fun v9 va vb vc vd ve vf vg => K (Ex.exit 0) (St.mk (spread 28 0 [] []) [HA [AV.sl 1 0 v9 1], HO va, HA [Ai vb], HA [Ai vc], HA [AV.sl 6 0 vd 1], HA [Ai ve, Fu vf], HU vg])) (fun v9 va vb vc vd ve => K (Ex.ret) (St.mk (spread 28 0 [] []) [HA [AV.sl 1 0 v9 1], HO va, HA [Ai vb], HA [Ai vc], HA [AV.esl], HA [Ai vd, Fu ve]])) (fun v9 va vb vc vd ve => K (Ex.exit 0) (St.mk (spread 28 0 [] []) [HA [AV.sl 1 0 v9 1], HO va, HA [Ai vb], HA [Ai vc], HA [AV.esl], HA [Ai vd, Fu ve]]))
 | [AV.fn 45 [Ap 0 0, Ap 2 0, Ap 3 0, Ap 4 0], Fu vh, Ai vi, Ai vj], [HA [AV.sl 1 0 vk 1], HO vl, HA [Ai vm], HA [Ai vn], HA [AV.sl 6 0 vo 1], HA [Ai vp, Fu vq], HU vr] => fano_eachOne_1_l2_4 vh vi vj vk vl vm vn vo vp vq vr (fun v9 va vb vc vd ve vf vg => K (Ex.ret) (St.mk (spread 28 0 [] []) [HA [AV.sl 1 0 v9 1], HO va, HA [Ai vb], HA [Ai vc], HA [AV.sl 6 0 vd 1], HA [Ai ve, Fu vf], HU vg])) (fun v9 va vb vc vd ve vf vg => K (Ex.exit 0) (St.mk (spread 28 0 [] []) [HA [AV.sl 1 0 v9 1], HO va, HA [Ai vb], HA [Ai vc], HA [AV.sl 6 0 vd 1], HA [Ai ve, Fu vf], HU vg]))
 | _, _ => none

noncomputable def o73r6_4400_in {R : Type} (K : Ex → St → Option R) (vs : List AV) (hh : H) : Option R := match vs, hh with
 | [AV.fn 45 [Ap 0 0, Ap 2 0, Ap 3 0, Ap 4 0], Ai v0, Au v1, Fu v2, Ai v3, Ai v4], [HA [AV.sl 1 0 v5 1], HO v6, HA [Ai v7], HA [Ai v8], HA [AV.esl], HA [Ai v9, Fu va]] => fano_eachOne_1_l4_3 v0 v1 v2 v3 v4 v5 v6 v7 v8 v9 va (fun vb vc vd ve vf vg vh vi => K (Ex.ret) (St.mk (spread 28 0 [] []) [HA [AV.sl 1 0 vb 1], HO vc, HA [Ai vd], HA [Ai ve], HA [AV.sl 6 0 vf 1], HA [Ai vg, Fu vh], HU vi])) (fun vb vc vd ve vf vg vh vi vj vk vl => K (Ex.exit 2) (St.mk (spread 28 0 [0, 6, 7, 8] [AV.fn 45 [Ap 0 0, Ap 2 0, Ap 3 0, Ap 4 0], Fu vb, Ai vc, Ai vd]) [HA [AV.sl 1 0 ve 1], HO vf, HA [Ai vg], HA [Ai vh], HA [AV.sl 6 0 vi 1], HA [Ai vj, Fu vk], HU vl])) (fun vb vc vd ve vf vg => K (Ex.ret) (St.mk (spread 28 0 [] []) [HA [AV.sl 1 0 vb 1], HO vc, HA [Ai vd], HA [Ai ve], HA [AV.esl], HA [Ai vf, Fu vg]])) (fun vb vc vd ve vf vg vh vi vj => K (Ex.exit 2) (St.mk (spread 28 0 [0, 6, 7, 8] [AV.fn 45 [Ap 0 0, Ap 2 0, Ap 3 0, Ap 4 0], Fu vb, Ai vc, Ai vd]) [HA [AV.sl 1 0 ve 1], HO vf, HA [Ai vg], HA [Ai vh], HA [AV.esl], HA [Ai vi, Fu vj]]))
 | [AV.fn 45 [Ap 0 0, Ap 2 0, Ap 3 0, Ap 4 0], Ai vm, Au vn, Fu vo, Ai vp, Ai vq], [HA [AV.sl 1 0 vr 1], HO vs, HA [Ai vt], HA [Ai vu], HA [AV.sl 6 0 vv 1], HA [Ai vw, Fu vx], HU vy] => fano_eachOne_1_l4_4 vm vn vo vp vq vr vs vt vu vv vw vx vy (fun vb vc vd ve vf vg vh vi => K (Ex.ret) (St.mk (spread 28 0 [] []) [HA [AV.sl 1 0 vb 1], HO vc, HA [Ai vd], HA [Ai ve], HA [AV.sl 6 0 vf 1], HA [Ai vg, Fu vh], HU vi])) (fun vb vc vd ve vf vg vh vi vj vk vl => K (Ex.exit 2) (St.mk (spread 28 0 [0, 6, 7, 8] [AV.fn 45 [Ap 0 0, Ap 2 0, Ap 3 0, Ap 4 0], Fu vb, Ai vc, Ai vd]) [HA [AV.sl 1 0 ve 1], HO vf, HA [Ai vg], HA [Ai vh], HA [AV.sl 6 0 vi 1], HA [Ai vj, Fu vk], HU vl]))
 | _, _ => none

noncomputable def o73r6 : Nat → Option PSpec := lkN [(2400, fun st _ K => pickM 28 [0, 6, 7, 8] st (o73r6_2400_in K)), (4400, fun st _ K => pickM 28 [0, 3, 4, 6, 7, 8] st (o73r6_4400_in K))]
noncomputable def q73r6 : CallF := evFun (V 73) S68 T83 10

noncomputable def c73r6_2400 : Code := subC [1, 0, 0] (bodyOf Tryd.f73)

noncomputable def lp73r6_2400 {R : Type} (N : Nat) (st : St) (K : Ex → St → Option R) : Option R := evLoop (norm ((V 73).keep 73 (Ev.keyOf c73r6_2400 * 1000 + 400)) 6) (evCode (V 73) q73r6 o73r6 73 6 3997 c73r6_2400) N st (kOut (V 73) 73 6 (Ev.keyOf c73r6_2400 * 1000 + 401) K)

noncomputable def c73r6_4400 : Code := subC [1, 0, 0, 1, 1, 0, 0, 1, 0, 0] (bodyOf Tryd.f73)

noncomputable def lp73r6_4400 {R : Type} (N : Nat) (st : St) (K : Ex → St → Option R) : Option R := evLoop (norm ((V 73).keep 73 (Ev.keyOf c73r6_4400 * 1000 + 400)) 6) (evCode (V 73) q73r6 o73r6 73 6 3990 c73r6_4400) N st (kOut (V 73) 73 6 (Ev.keyOf c73r6_4400 * 1000 + 401) K)

theorem fano_eachOne_1_l4_4_L_eq {R : Type} (K : Ex → St → Option R) : ∀ N : Nat, (fun (v0 v1 : Int) (v2 : List Int) (v3 v4 : Int) (v5 : Nat) (v6 : List Bool) (v7 v8 : Int) (v9 : Nat) (va : Int) (vb vc : List Int) => lp73r6_4400 N (St.mk (spread 28 0 [0, 3, 4, 6, 7, 8] [AV.fn 45 [Ap 0 0, Ap 2 0, Ap 3 0, Ap 4 0], Ai v0, Au v1, Fu v2, Ai v3, Ai v4]) [HA [AV.sl 1 0 v5 1], HO v6, HA [Ai v7], HA [Ai v8], HA [AV.sl 6 0 v9 1], HA [Ai va, Fu vb], HU vc]) K) = fano_eachOne_1_l4_4_L (fun vd ve vf vg vh vi vj vk => K (Ex.ret) (St.mk (spread 28 0 [] []) [HA [AV.sl 1 0 vd 1], HO ve, HA [Ai vf], HA [Ai vg], HA [AV.sl 6 0 vh 1], HA [Ai vi, Fu vj], HU vk])) (fun vd ve vf vg vh vi vj vk vl vm vn => K (Ex.exit 2) (St.mk (spread 28 0 [0, 6, 7, 8] [AV.fn 45 [Ap 0 0, Ap 2 0, Ap 3 0, Ap 4 0], Fu vd, Ai ve, Ai vf]) [HA [AV.sl 1 0 vg 1], HO vh, HA [Ai vi], HA [Ai vj], HA [AV.sl 6 0 vk 1], HA [Ai vl, Fu vm], HU vn])) N
  | 0 => by funext v0 v1 v2 v3 v4 v5 v6 v7 v8 v9 va vb vc; rfl
  | N + 1 => by
    funext v0 v1 v2 v3 v4 v5 v6 v7 v8 v9 va vb vc
    simp only [fano_eachOne_1_l4_4_L]
    rw [← fano_eachOne_1_l4_4_L_eq K N]
    kernel_rfl

theorem fano_eachOne_1_l4_3_L_eq {R : Type} (K : Ex → St → Option R) : ∀ N : Nat, (fun (v0 v1 : Int) (v2 : List Int) (v3 v4 : Int) (v5 : Nat) (v6 : List Bool) (v7 v8 v9 : Int) (va : List Int) => lp73r6_4400 N (St.mk (spread 28 0 [0, 3, 4, 6, 7, 8] [AV.fn 45 [Ap 0 0, Ap 2 0, Ap 3 0, Ap 4 0], Ai v0, Au v1, Fu v2, Ai v3, Ai v4]) [HA [AV.sl 1 0 v5 1], HO v6, HA [Ai v7], HA [Ai v8], HA [AV.esl], HA [Ai v9, Fu va]]) K) = fano_eachOne_1_l4_3_L (fun vb vc vd ve vf vg vh vi => K (Ex.ret) (St.mk (spread 28 0 [] []) [HA [AV.sl 1 0 vb 1], HO vc, HA [Ai vd], HA [Ai ve], HA [AV.sl 6 0 vf 1], HA [Ai vg, Fu vh], HU vi])) (fun vb vc vd ve vf vg vh vi vj vk vl => K (Ex.exit 2) (St.mk (spread 28 0 [0, 6, 7, 8] [AV.fn 45 [Ap 0 0, Ap 2 0, Ap 3 0, Ap 4 0], Fu vb, Ai vc, Ai vd]) [HA [AV.sl 1 0 ve 1], HO vf, HA [Ai vg], HA [Ai vh], HA [AV.sl 6 0 vi 1], HA [Ai vj, Fu vk], HU vl])) (fun vb vc vd ve vf vg => K (Ex.ret) (St.mk (spread 28 0 [] []) [HA [AV.sl 1 0 vb 1], HO vc, HA [Ai vd], HA [Ai ve], HA [AV.esl], HA [Ai vf, Fu vg]])) (fun vb vc vd ve vf vg vh vi vj => K (Ex.exit 2) (St.mk (spread 28 0 [0, 6, 7, 8] [AV.fn 45 [Ap 0 0, Ap 2 0, Ap 3 0, Ap 4 0], Fu vb, Ai vc, Ai vd]) [HA [AV.sl 1 0 ve 1], HO vf, HA [Ai vg], HA [Ai vh], HA [AV.esl], HA [Ai vi, Fu vj]])) N
  | 0 => by funext v0 v1 v2 v3 v4 v5 v6 v7 v8 v9 va; rfl
  | N + 1 => by
    funext v0 v1 v2 v3 v4 v5 v6 v7 v8 v9 va
    simp only [fano_eachOne_1_l4_3_L]
    rw [← fano_eachOne_1_l4_3_L_eq K N, ← fano_eachOne_1_l4_4_L_eq K N]
    kernel_rfl

theorem fano_eachOne_1_l2_4_L_eq {R : Type} (K : Ex → St → Option R) : ∀ N : Nat, (fun (v0 : List Int) (v1 v2 : Int) (v3 : Nat) (v4 : List Bool) (v5 v6 : Int) (v7 : Nat) (v8 : Int) (v9 va : List Int) => lp73r6_2400 N (St.mk (spread 28 0 [0, 6, 7, 8] [AV.fn 45 [Ap 0 0, Ap 2 0, Ap 3 0, Ap 4 0], Fu v0, Ai v1, Ai v2]) [HA [AV.sl 1 0 v3 1], HO v4, HA [Ai v5], HA [Ai v6], HA [AV.sl 6 0 v7 1], HA [Ai v8, Fu v9], HU va]) K) = fano_eachOne_1_l2_4_L (fun vb vc vd ve vf vg vh vi => K (Ex.ret) (St.mk (spread 28 0 [] []) [HA [AV.sl 1 0 vb 1], HO vc, HA [Ai vd], HA [Ai ve], HA [AV.sl 6 0 vf 1], HA [Ai vg, Fu vh], HU vi])) (fun vb vc vd ve vf vg vh vi => K (Ex.exit 0) (St.mk (spread 28 0 [] []) [HA [AV.sl 1 0 vb 1], HO vc, HA [Ai vd], HA [Ai ve], HA [AV.sl 6 0 vf 1], HA [Ai vg, Fu vh], HU vi])) N
  | 0 => by funext v0 v1 v2 v3 v4 v5 v6 v7 v8 v9 va; rfl
  | N + 1 => by
    funext v0 v1 v2 v3 v4 v5 v6 v7 v8 v9 va
    simp only [fano_eachOne_1_l2_4_L]
    rw [← fano_eachOne_1_l2_4_L_eq K N]
    kernel_rfl

theorem fano_eachOne_1_l2_3_L_eq {R : Type} (K : Ex → St → Option R) : ∀ N : Nat, (fun (v0 : List Int) (v1 v2 : Int) (v3 : Nat) (v4 : List Bool) (v5 v6 v7 : Int) (v8 : List Int) => lp73r6_2400 N (St.mk (spread 28 0 [0, 6, 7, 8] [AV.fn 45 [Ap 0 0, Ap 2 0, Ap 3 0, Ap 4 0], Fu v0, Ai v1, Ai v2]) [HA [AV.sl 1 0 v3 1], HO v4, HA [Ai v5], HA [Ai v6], HA [AV.esl], HA [Ai v7, Fu v8]]) K) = fano_eachOne_1_l2_3_L (fun v9 va vb vc vd ve vf vg => K (Ex.ret) (St.mk (spread 28 0 [] []) [HA [AV.sl 1 0 v9 1], HO va, HA [Ai vb], HA [Ai vc], HA [AV.sl 6 0 vd 1], HA [Ai ve, Fu vf], HU vg])) (fun v9 va vb vc vd ve vf vg => K (Ex.exit 0) (St.mk (spread 28 0 [] []) [HA [AV.sl 1 0 v9 1], HO va, HA [Ai vb], HA [Ai vc], HA [AV.sl 6 0 vd 1], HA [Ai ve, Fu vf], HU vg])) (fun v9 va vb vc vd ve => K (Ex.ret) (St.mk (spread 28 0 [] []) [HA [AV.sl 1 0 v9 1], HO va, HA [Ai vb], HA [Ai vc], HA [AV.esl], HA [Ai vd, Fu ve]])) (fun v9 va vb vc vd ve => K (Ex.exit 0) (St.mk (spread 28 0 [] []) [HA [AV.sl 1 0 v9 1], HO va, HA [Ai vb], HA [Ai vc], HA [AV.esl], HA [Ai vd, Fu ve]])) N
  | 0 => by funext v0 v1 v2 v3 v4 v5 v6 v7 v8; rfl
  | N + 1 => by
    funext v0 v1 v2 v3 v4 v5 v6 v7 v8
    simp only [fano_eachOne_1_l2_3_L]
    rw [← fano_eachOne_1_l2_3_L_eq K N, ← fano_eachOne_1_l2_4_L_eq K N]
    kernel_rfl

theorem p73r6_2400 : PieceOk (V 73) q73r6 o73r6 73 6 (3997, 1, c73r6_2400) := .l (size := 28) (ss := [0, 6, 7, 8]) (F := @o73r6_2400_in) (by kernel_rfl) (by kernel_rfl) fun R r K vs hh h => by
  unfold o73r6_2400_in at h; split at h
  · rw [fano_eachOne_1_l2_3_unf] at h; unfold fano_eachOne_1_l2_3_B at h; rw [← fano_eachOne_1_l2_3_L_eq K NR] at h; exact h
  · rw [fano_eachOne_1_l2_4_unf] at h; unfold fano_eachOne_1_l2_4_B at h; rw [← fano_eachOne_1_l2_4_L_eq K NR] at h; exact h
  · cases h

theorem p73r6_4400 : PieceOk (V 73) q73r6 o73r6 73 6 (3990, 1, c73r6_4400) := .l (size := 28) (ss := [0, 3, 4, 6, 7, 8]) (F := @o73r6_4400_in) (by kernel_rfl) (by kernel_rfl) fun R r K vs hh h => by
  unfold o73r6_4400_in at h; split at h
  · rw [fano_eachOne_1_l4_3_unf] at h; unfold fano_eachOne_1_l4_3_B at h; rw [← fano_eachOne_1_l4_3_L_eq K NR] at h; exact h
  · rw [fano_eachOne_1_l4_4_unf] at h; unfold fano_eachOne_1_l4_4_B at h; rw [← fano_eachOne_1_l4_4_L_eq K NR] at h; exact h
  · cases h

theorem pc73r6 : ∀ x ∈ [(3997, 1, c73r6_2400), (3990, 1, c73r6_4400)], PieceOk (V 73) q73r6 o73r6 73 6 x := List.forall_mem_cons.2 ⟨p73r6_2400, List.forall_mem_cons.2 ⟨p73r6_4400, fun _ h => nomatch h⟩⟩

noncomputable def hs73 : HSpec := fun args h _ K => match args, h with
 | [AV.fn 45 [Ap 0 0, Ap 2 0, Ap 3 0, Ap 4 0], Ap 5 0], [HA [AV.sl 1 0 v0 1], HO v1, HA [Ai v2], HA [Ai v3], HA [AV.esl], HA [Ai v4, AV.sl 6 0 v5 1], HU v6] => fano_eachOne_1_r v0 v1 v2 v3 v4 v5 v6 (fun v7 v8 v9 va vb vc vd ve vf => K (AV.tup []) ([HA [AV.sl 1 0 v7 1], HO v8, HA [Ai v9], HA [Ai va], HA [AV.sl 7 0 vb 1], HA [Ai vc, AV.sl 6 0 vd 1], HU ve, HU vf])) (fun v7 v8 v9 va vb vc vd => K (AV.tup []) ([HA [AV.sl 1 0 v7 1], HO v8, HA [Ai v9], HA [Ai va], HA [AV.esl], HA [Ai vb, AV.sl 6 0 vc 1], HU vd]))
 | [AV.fn 83 [Ap 0 0, Ap 1 0, Ap 2 0, Ap 3 0, Ap 4 0, Ap 5 0], Ap 7 0], [HA [Ai vg], HA [Ai vh], HA [Fu vi], HA [Ai vj, Ai vk, Ai vl, Ai vm, Ai vn, Fu vo, Ai vp, Fu vq], HA [Ab vr], HA [AV.sl 6 0 vs 1], HO vt, HA [Ai vu, Fu vv]] => fano_eachOne_1_r_1 vg vh vi vj vk vl vm vn vo vp vq vr vs vt vu vv (fun v7 v8 v9 va vb vc vd ve vf vw vx vy vz v10 v11 v12 => K (AV.tup []) ([HA [Ai v7], HA [Ai v8], HA [Fu v9], HA [Ai va, Ai vb, Ai vc, Ai vd, Ai ve, Fu vf, Ai vw, Fu vx], HA [Ab vy], HA [AV.sl 6 0 vz 1], HO v10, HA [Ai v11, Fu v12]]))
 | [AV.fn 45 [Ap 0 0, Ap 2 0, Ap 3 0, Ap 4 0], Ap 5 0], [HA [AV.sl 1 0 v13 1], HO v14, HA [Ai v15], HA [Ai v16], HA [AV.esl], HA [Ai v17, Fu v18]] => fano_eachOne_1_r_2 v13 v14 v15 v16 v17 v18 (fun v7 v8 v9 va vb vc vd ve => K (AV.tup []) ([HA [AV.sl 1 0 v7 1], HO v8, HA [Ai v9], HA [Ai va], HA [AV.sl 6 0 vb 1], HA [Ai vc, Fu vd], HU ve])) (fun v7 v8 v9 va vb vc => K (AV.tup []) ([HA [AV.sl 1 0 v7 1], HO v8, HA [Ai v9], HA [Ai va], HA [AV.esl], HA [Ai vb, Fu vc]]))
 | _, _ => none
noncomputable def T73 := addT 73 hs73 T83
theorem D16 : Dom B0 V S68 T73 16 := Dom.t D15 fun args hh R K r h => by
 unfold hs73 at h; split at h
 · rw [fano_eachOne_1_r_unf] at h; exact ⟨o73r7, (OrcOk.fn (fn0 := Tryd.f73) (by kernel_rfl) (by kernel_rfl) pc73r7), Eq.trans (by kernel_rfl) h⟩
 · rw [fano_eachOne_1_r_1_unf] at h; exact ⟨o73r8, (OrcOk.fn (fn0 := Tryd.f73) (by kernel_rfl) (by kernel_rfl) pc73r8), Eq.trans (by kernel_rfl) h⟩
 · rw [fano_eachOne_1_r_2_unf] at h; exact ⟨o73r6, (OrcOk.fn (fn0 := Tryd.f73) (by kernel_rfl) (by kernel_rfl) pc73r6), Eq.trans (by kernel_rfl) h⟩
 · cases h

noncomputable def o74r1_4400_in {R : Type} (K : Ex → St → Option R) (vs : List AV) (hh : H) : Option R := match vs, hh with
 | [Ai v0, AV.sl 0 0 v1 1, Ai v2, Ai v3], [HU v4] => ints_width_l4 v0 v1 v2 v3 v4 (fun v5 v6 => K (Ex.exit 0) (St.mk (spread 18 0 [3] [Ai v5]) [HU v6]))
 | _, _ => none

noncomputable def o74r1 : Nat → Option PSpec := lkN [(4400, fun st _ K => pickM 18 [3, 6, 7, 8] st (o74r1_4400_in K))]
noncomputable def q74r1 : CallF := evFun (V 74) S68 T73 10

noncomputable def c74r1_4400 : Code := subC [1, 1, 0, 1, 0, 0] (bodyOf Tryd.f74)

noncomputable def lp74r1_4400 {R : Type} (N : Nat) (st : St) (K : Ex → St → Option R) : Option R := evLoop (norm ((V 74).keep 74 (Ev.keyOf c74r1_4400 * 1000 + 400)) 1) (evCode (V 74) q74r1 o74r1 74 1 3994 c74r1_4400) N st (kOut (V 74) 74 1 (Ev.keyOf c74r1_4400 * 1000 + 401) K)

theorem ints_width_l4_L_eq {R : Type} (K : Ex → St → Option R) : ∀ N : Nat, (fun (v0 : Int) (v1 : Nat) (v2 v3 : Int) (v4 : List Int) => lp74r1_4400 N (St.mk (spread 18 0 [3, 6, 7, 8] [Ai v0, AV.sl 0 0 v1 1, Ai v2, Ai v3]) [HU v4]) K) = ints_width_l4_L (fun v5 v6 => K (Ex.exit 0) (St.mk (spread 18 0 [3] [Ai v5]) [HU v6])) N
  | 0 => by funext v0 v1 v2 v3 v4; rfl
  | N + 1 => by
    funext v0 v1 v2 v3 v4
    simp only [ints_width_l4_L]
    rw [← ints_width_l4_L_eq K N]
    kernel_rfl

theorem p74r1_4400 : PieceOk (V 74) q74r1 o74r1 74 1 (3994, 1, c74r1_4400) := .l (size := 18) (ss := [3, 6, 7, 8]) (F := @o74r1_4400_in) (by kernel_rfl) (by kernel_rfl) fun R r K vs hh h => by
  unfold o74r1_4400_in at h; split at h
  · rw [ints_width_l4_unf] at h; unfold ints_width_l4_B at h; rw [← ints_width_l4_L_eq K NR] at h; exact h
  · cases h

theorem pc74r1 : ∀ x ∈ [(3994, 1, c74r1_4400)], PieceOk (V 74) q74r1 o74r1 74 1 x := List.forall_mem_cons.2 ⟨p74r1_4400, fun _ h => nomatch h⟩

noncomputable def hs74 : HSpec := fun args h _ K => match args, h with
 | [AV.sl 0 0 v0 1], [HU v1] => ints_width_r v0 v1 (fun v2 v3 => K (Ai v2) ([HU v3]))
 | _, _ => none
noncomputable def T74 := addT 74 hs74 T73
theorem D17 : Dom B0 V S68 T74 17 := Dom.t D16 fun args hh R K r h => by
 unfold hs74 at h; split at h
 · rw [ints_width_r_unf] at h; exact ⟨o74r1, (OrcOk.fn (fn0 := Tryd.f74) (by kernel_rfl) (by kernel_rfl) pc74r1), Eq.trans (by kernel_rfl) h⟩
 · cases h

noncomputable def o75r0_3000_in {R : Type} (K : Ex → St → Option R) (vs : List AV) (hh : H) : Option R := match vs, hh with
 | [Ai v0, Ap 0 0, Ab v1], [HA [Ai v2, AV.esl]] => bits_New_j3 v0 v1 v2 (fun v3 v4 => K (Ex.ret) (St.mk (spread 16 0 [2, 3] [Ap 0 0, Ai v3]) [HA [Ai v4, AV.esl]])) (fun v3 v4 => K (Ex.normal) (St.mk (spread 16 0 [0, 2] [Ai v3, Ap 0 0]) [HA [Ai v4, AV.esl]]))
 | _, _ => none

noncomputable def o75r0_4000_in {R : Type} (K : Ex → St → Option R) (vs : List AV) (hh : H) : Option R := match vs, hh with
 | [Ai v0, Ap 0 0], [HA [Ai v1, AV.esl]] => bits_New_j4 v0 v1 (fun v2 v3 v4 v5 => K (Ex.ret) (St.mk (spread 16 0 [2, 3] [Ap 0 0, Ai v2]) [HA [Ai v3, AV.sl 1 0 v4 1], HU v5]))
 | _, _ => none

noncomputable def o75r0 : Nat → Option PSpec := lkN [(3000, fun st _ K => pickM 16 [0, 2, 9] st (o75r0_3000_in K)), (4000, fun st _ K => pickM 16 [0, 2] st (o75r0_4000_in K))]
noncomputable def q75r0 : CallF := evFun (V 75) S68 T74 10

noncomputable def c75r0_4000 : Code := subC [1, 1] (bodyOf Tryd.f75)

noncomputable def c75r0_3000 : Code := subC [1, 0, 1] (bodyOf Tryd.f75)

theorem p75r0_4000 : PieceOk (V 75) q75r0 o75r0 75 0 (3998, 0, c75r0_4000) := .s (size := 16) (ss := [0, 2]) (F := @o75r0_4000_in) (by kernel_rfl) fun R r K vs hh h => by
  unfold o75r0_4000_in at h; split at h
  · rw [bits_New_j4_unf] at h; exact Eq.trans (by kernel_rfl) h
  · cases h

theorem p75r0_3000 : PieceOk (V 75) q75r0 o75r0 75 0 (3997, 0, c75r0_3000) := .s (size := 16) (ss := [0, 2, 9]) (F := @o75r0_3000_in) (by kernel_rfl) fun R r K vs hh h => by
  unfold o75r0_3000_in at h; split at h
  · rw [bits_New_j3_unf] at h; exact Eq.trans (by kernel_rfl) h
  · cases h

theorem pc75r0 : ∀ x ∈ [(3998, 0, c75r0_4000), (3997, 0, c75r0_3000)], PieceOk (V 75) q75r0 o75r0 75 0 x := List.forall_mem_cons.2 ⟨p75r0_4000, List.forall_mem_cons.2 ⟨p75r0_3000, fun _ h => nomatch h⟩⟩

noncomputable def hs75 : HSpec := fun args h _ K => match args, h with
 | [Ai v0], [] => bits_New_r v0 (fun v1 v2 => K (AV.tup [AV.agg (Blk.any [Ai v1, AV.esl]), Ai v2]) []) (fun v1 v2 v3 v4 => K (AV.tup [AV.agg (Blk.any [Ai v1, AV.sl 0 0 v2 1]), Ai v3]) ([HU v4]))
 | _, _ => none
noncomputable def T75 := addT 75 hs75 T74
theorem D18 : Dom B0 V S68 T75 18 := Dom.t D17 fun args hh R K r h => by
 unfold hs75 at h; split at h
 · rw [bits_New_r_unf] at h; exact ⟨o75r0, (OrcOk.fn (fn0 := Tryd.f75) (by kernel_rfl) (by kernel_rfl) pc75r0), Eq.trans (by kernel_rfl) h⟩
 · cases h

noncomputable def sp75 : Ev.Spec := fun args _ K => match args with
 | ([Ai v0]) => bits_New v0 (fun v1 v2 v3 => K (AV.tup [AV.agg (Blk.any [Ai v1, Fu v2]), Ai v3]))
 | _ => none
noncomputable def S75 := addS 75 sp75 S68
theorem D19 : Dom B0 V S75 T75 19 := Dom.s (m := 17) (n := 1) D18 D17 (O := o75r0) (OrcOk.fn (fn0 := Tryd.f75) (by kernel_rfl) (by kernel_rfl) pc75r0) fun args R K r h => by
 unfold sp75 at h; split at h
 · rw [bits_New_unf] at h; exact Eq.trans (by kernel_rfl) h
 · cases h

noncomputable def o41_4000_in {R : Type} (K : Ex → St → Option R) (vs : List AV) (hh : H) : Option R := match vs, hh with
 | [Ap 0 0], [HA [Ai v0, Fu v1]] => bits_Check_j4_1 v0 v1 (fun v2 => K (Ex.ret) (St.mk (spread 40 0 [2] [Ab v2]) []))
 | _, _ => none

noncomputable def o41 : Nat → Option PSpec := lkN [(4000, fun st _ K => pickM 40 [1] st (o41_4000_in K))]
noncomputable def q41 : CallF := evFun (V 41) S75 T75 10

noncomputable def c41_4000 : Code := subC [1, 1] (bodyOf Tryd.f41)

theorem p41_4000 : PieceOk (V 41) q41 o41 41 0 (3998, 0, c41_4000) := .s (size := 40) (ss := [1]) (F := @o41_4000_in) (by kernel_rfl) fun R r K vs hh h => by
  unfold o41_4000_in at h; split at h
  · rw [bits_Check_j4_1_unf] at h; exact Eq.trans (by kernel_rfl) h
  · cases h

theorem pc41 : ∀ x ∈ [(3998, 0, c41_4000)], PieceOk (V 41) q41 o41 41 0 x := List.forall_mem_cons.2 ⟨p41_4000, fun _ h => nomatch h⟩

noncomputable def sp41 : Ev.Spec := fun args _ K => match args with
 | ([AV.agg (Blk.any [Ai v0, Fu v1])]) => bits_Check v0 v1 (fun v2 => K (Ab v2))
 | _ => none
noncomputable def S41 := addS 41 sp41 S75
theorem D20 : Dom B0 V S41 T75 20 := Dom.s (m := 19) (n := 0) D19 D19 (O := o41) (OrcOk.fn (fn0 := Tryd.f41) (by kernel_rfl) (by kernel_rfl) pc41) fun args R K r h => by
 unfold sp41 at h; split at h
 · rw [bits_Check_unf] at h; exact Eq.trans (by kernel_rfl) h
 · cases h

theorem bits_own_r_eq {R : Type} (K : AV → H → Option R) (v0 : Int) (v1 : List Int) (v2 : Int) : evH (V 86) S41 T75 (fun _ => none) 10 86 [AV.agg (Blk.any [Ai v0, Fu v1]), Ai v2] [] R K = bits_own_r_B v0 v1 v2 (fun v3 v4 v5 => K (AV.agg (Blk.any [Ai v3, AV.sl 0 0 v4 1])) ([HU v5])) := by kernel_rfl

noncomputable def hs86 : HSpec := fun args h _ K => match args, h with
 | [AV.agg (Blk.any [Ai v0, Fu v1]), Ai v2], [] => bits_own_r v0 v1 v2 (fun v3 v4 v5 => K (AV.agg (Blk.any [Ai v3, AV.sl 0 0 v4 1])) ([HU v5]))
 | _, _ => none
noncomputable def T86 := addT 86 hs86 T75
theorem D21 : Dom B0 V S41 T86 21 := Dom.t D20 fun args hh R K r h => by
 unfold hs86 at h; split at h
 · rw [bits_own_r_unf] at h; exact ⟨(fun _ => none), (fun _ _ _ _ => OrcOk.none _ _), (bits_own_r_eq K _ _ _).trans h⟩
 · cases h

noncomputable def o87r1_5000_in {R : Type} (K : Ex → St → Option R) (vs : List AV) (hh : H) : Option R := match vs, hh with
 | [Au v0, Ap 1 0, Ai v1, Ai v2], [HU v3, HA [Ai v4, AV.sl 0 0 v5 1]] => bits_fill_j5 v0 v1 v2 v3 v4 v5 (fun v6 => K (Ex.normal) (St.mk (spread 49 0 [] []) [HU v6]))
 | _, _ => none

noncomputable def o87r1_6000_in {R : Type} (K : Ex → St → Option R) (vs : List AV) (hh : H) : Option R := match vs, hh with
 | [Au v0, Ap 1 0, Ai v1, Ai v2, Ab v3], [HU v4, HA [Ai v5, AV.sl 0 0 v6 1]] => bits_fill_j6 v0 v1 v2 v3 v4 v5 v6 (fun v7 => K (Ex.normal) (St.mk (spread 49 0 [] []) [HU v7]))
 | _, _ => none

noncomputable def o87r1 : Nat → Option PSpec := lkN [(5000, fun st _ K => pickM 49 [2, 3, 6, 7] st (o87r1_5000_in K)), (6000, fun st _ K => pickM 49 [2, 3, 6, 7, 36] st (o87r1_6000_in K))]
noncomputable def q87r1 : CallF := evFun (V 87) S41 T86 10

noncomputable def c87r1_5000 : Code := subC [1, 1, 1] (bodyOf Tryd.f87)

noncomputable def c87r1_6000 : Code := subC [1, 1, 1, 1] (bodyOf Tryd.f87)

theorem p87r1_5000 : PieceOk (V 87) q87r1 o87r1 87 1 (3997, 0, c87r1_5000) := .s (size := 49) (ss := [2, 3, 6, 7]) (F := @o87r1_5000_in) (by kernel_rfl) fun R r K vs hh h => by
  unfold o87r1_5000_in at h; split at h
  · rw [bits_fill_j5_unf] at h; exact Eq.trans (by kernel_rfl) h
  · cases h

theorem p87r1_6000 : PieceOk (V 87) q87r1 o87r1 87 1 (3996, 0, c87r1_6000) := .s (size := 49) (ss := [2, 3, 6, 7, 36]) (F := @o87r1_6000_in) (by kernel_rfl) fun R r K vs hh h => by
  unfold o87r1_6000_in at h; split at h
  · rw [bits_fill_j6_unf] at h; exact Eq.trans (by kernel_rfl) h
  · cases h

theorem pc87r1 : ∀ x ∈ [(3997, 0, c87r1_5000), (3996, 0, c87r1_6000)], PieceOk (V 87) q87r1 o87r1 87 1 x := List.forall_mem_cons.2 ⟨p87r1_5000, List.forall_mem_cons.2 ⟨p87r1_6000, fun _ h => nomatch h⟩⟩

theorem bits_fill_r_eq {R : Type} (K : AV → H → Option R) (v0 : Int) (v1 : Nat) (v2 v3 : Int) (v4 : List Int) : evH (V 87) S41 T86 o87r1 10 87 [AV.agg (Blk.any [Ai v0, AV.sl 0 0 v1 1]), Ai v2, Au v3] [HU v4] R K = bits_fill_r_B v0 v1 v2 v3 v4 (fun v5 => K (AV.tup []) ([HU v5])) := by kernel_rfl

noncomputable def hs87 : HSpec := fun args h _ K => match args, h with
 | [AV.agg (Blk.any [Ai v0, AV.sl 0 0 v1 1]), Ai v2, Au v3], [HU v4] => bits_fill_r v0 v1 v2 v3 v4 (fun v5 => K (AV.tup []) ([HU v5]))
 | _, _ => none
noncomputable def T87 := addT 87 hs87 T86
theorem D22 : Dom B0 V S41 T87 22 := Dom.t D21 fun args hh R K r h => by
 unfold hs87 at h; split at h
 · rw [bits_fill_r_unf] at h; exact ⟨o87r1, (OrcOk.fn (fn0 := Tryd.f87) (by kernel_rfl) (by kernel_rfl) pc87r1), (bits_fill_r_eq K _ _ _ _ _).trans h⟩
 · cases h

noncomputable def o61_3000_in {R : Type} (K : Ex → St → Option R) (vs : List AV) (hh : H) : Option R := match vs, hh with
 | [Au v0, Ai v1, Ap 0 0, Ap 1 0, Ab v2], [HA [Ai v3, Fu v4], HA [Ai v5, AV.esl]] => bits_Append_j3 v0 v1 v2 v3 v4 v5 (fun v6 v7 v8 => K (Ex.ret) (St.mk (spread 43 0 [6, 7] [Ap 0 0, Ai v6]) [HA [Ai v7, Fu v8]])) (fun v6 v7 v8 v9 va => K (Ex.normal) (St.mk (spread 43 0 [1, 2, 3, 6] [Au v6, Ai v7, Ap 0 0, Ap 1 0]) [HA [Ai v8, Fu v9], HA [Ai va, AV.esl]]))
 | _, _ => none

noncomputable def o61_4000_in {R : Type} (K : Ex → St → Option R) (vs : List AV) (hh : H) : Option R := match vs, hh with
 | [Au v0, Ai v1, Ap 0 0, Ap 1 0], [HA [Ai v2, Fu v3], HA [Ai v4, AV.esl]] => bits_Append_j4 v0 v1 v2 v3 v4 (fun v5 v6 v7 v8 => K (Ex.ret) (St.mk (spread 43 0 [6, 7] [Ap 0 0, Ai v5]) [HA [Ai v6, AV.sl 1 0 v7 1], HU v8]))
 | _, _ => none

noncomputable def o61 : Nat → Option PSpec := lkN [(3000, fun st _ K => pickM 43 [1, 2, 3, 6, 26] st (o61_3000_in K)), (4000, fun st _ K => pickM 43 [1, 2, 3, 6] st (o61_4000_in K))]
noncomputable def q61 : CallF := evFun (V 61) S41 T87 10

noncomputable def c61_4000 : Code := subC [1, 1] (bodyOf Tryd.f61)

noncomputable def c61_3000 : Code := subC [1, 0, 1] (bodyOf Tryd.f61)

theorem p61_4000 : PieceOk (V 61) q61 o61 61 0 (3998, 0, c61_4000) := .s (size := 43) (ss := [1, 2, 3, 6]) (F := @o61_4000_in) (by kernel_rfl) fun R r K vs hh h => by
  unfold o61_4000_in at h; split at h
  · rw [bits_Append_j4_unf] at h; exact Eq.trans (by kernel_rfl) h
  · cases h

theorem p61_3000 : PieceOk (V 61) q61 o61 61 0 (3997, 0, c61_3000) := .s (size := 43) (ss := [1, 2, 3, 6, 26]) (F := @o61_3000_in) (by kernel_rfl) fun R r K vs hh h => by
  unfold o61_3000_in at h; split at h
  · rw [bits_Append_j3_unf] at h; exact Eq.trans (by kernel_rfl) h
  · cases h

theorem pc61 : ∀ x ∈ [(3998, 0, c61_4000), (3997, 0, c61_3000)], PieceOk (V 61) q61 o61 61 0 x := List.forall_mem_cons.2 ⟨p61_4000, List.forall_mem_cons.2 ⟨p61_3000, fun _ h => nomatch h⟩⟩

theorem bits_Append_eq {R : Type} (K : AV → Option R) (v0 : Int) (v1 : List Int) (v2 v3 : Int) : evSpec (V 61) S41 T87 o61 10 61 ([AV.agg (Blk.any [Ai v0, Fu v1]), Au v2, Ai v3]) R K = bits_Append_B v0 v1 v2 v3 (fun v4 v5 v6 => K (AV.tup [AV.agg (Blk.any [Ai v4, Fu v5]), Ai v6])) := by kernel_rfl

noncomputable def sp61 : Ev.Spec := fun args _ K => match args with
 | ([AV.agg (Blk.any [Ai v0, Fu v1]), Au v2, Ai v3]) => bits_Append v0 v1 v2 v3 (fun v4 v5 v6 => K (AV.tup [AV.agg (Blk.any [Ai v4, Fu v5]), Ai v6]))
 | _ => none
noncomputable def S61 := addS 61 sp61 S41
theorem D23 : Dom B0 V S61 T87 23 := Dom.s (m := 22) (n := 0) D22 D22 (O := o61) (OrcOk.fn (fn0 := Tryd.f61) (by kernel_rfl) (by kernel_rfl) pc61) fun args R K r h => by
 unfold sp61 at h; split at h
 · rw [bits_Append_unf] at h; exact (bits_Append_eq K _ _ _ _).trans h
 · cases h

noncomputable def o47r1_3000_in {R : Type} (K : Ex → St → Option R) (vs : List AV) (hh : H) : Option R := match vs, hh with
 | [Ai v0, AV.sl 0 0 v1 1, Ap 1 0, Ab v2], [HU v3, HA [Ai v4, Ai v5, Ai v6, AV.esl]] => ints_Make_j3 v0 v1 v2 v3 v4 v5 v6 (fun v7 v8 v9 va vb => K (Ex.ret) (St.mk (spread 53 0 [4, 5] [Ap 1 0, Ai v7]) [HU v8, HA [Ai v9, Ai va, Ai vb, AV.esl]])) (fun v7 v8 v9 va vb vc => K (Ex.normal) (St.mk (spread 53 0 [0, 1, 4] [Ai v7, AV.sl 0 0 v8 1, Ap 1 0]) [HU v9, HA [Ai va, Ai vb, Ai vc, AV.esl]]))
 | _, _ => none

noncomputable def o47r1_4000_in {R : Type} (K : Ex → St → Option R) (vs : List AV) (hh : H) : Option R := match vs, hh with
 | [Ai v0, AV.sl 0 0 v1 1, Ap 1 0], [HU v2, HA [Ai v3, Ai v4, Ai v5, AV.esl]] => ints_Make_j4 v0 v1 v2 v3 v4 v5 (fun v6 v7 v8 v9 va vb => K (Ex.ret) (St.mk (spread 53 0 [4, 5] [Ap 1 0, Ai v6]) [HU v7, HA [Ai v8, Ai v9, Ai va, Fu vb]]))
 | _, _ => none

noncomputable def o47r1_6400_in {R : Type} (K : Ex → St → Option R) (vs : List AV) (hh : H) : Option R := match vs, hh with
 | [Ai v0, AV.sl 0 0 v1 1, Ap 1 0, Ap 2 0, AV.sl 0 0 v2 1, Ai v3, Ai v4], [HU v5, HA [Ai v6, Ai v7, Ai v8, AV.esl], HA [Ai v9, Fu va]] => ints_Make_l6 v0 v1 v2 v3 v4 v5 v6 v7 v8 v9 va (fun vb vc vd ve vf vg vh vi => K (Ex.exit 0) (St.mk (spread 53 0 [0, 1, 4, 6] [Ai vb, AV.sl 0 0 vc 1, Ap 1 0, Ap 2 0]) [HU vd, HA [Ai ve, Ai vf, Ai vg, AV.esl], HA [Ai vh, Fu vi]]))
 | _, _ => none

noncomputable def o47r1 : Nat → Option PSpec := lkN [(3000, fun st _ K => pickM 53 [0, 1, 4, 28] st (o47r1_3000_in K)), (4000, fun st _ K => pickM 53 [0, 1, 4] st (o47r1_4000_in K)), (6400, fun st _ K => pickM 53 [0, 1, 4, 6, 34, 35, 36] st (o47r1_6400_in K))]
noncomputable def q47r1 : CallF := evFun (V 47) S61 T87 10

noncomputable def c47r1_4000 : Code := subC [1, 1] (bodyOf Tryd.f47)

noncomputable def c47r1_3000 : Code := subC [1, 0, 1] (bodyOf Tryd.f47)

noncomputable def c47r1_6400 : Code := subC [1, 1, 1, 0, 1, 0, 0] (bodyOf Tryd.f47)

noncomputable def lp47r1_6400 {R : Type} (N : Nat) (st : St) (K : Ex → St → Option R) : Option R := evLoop (norm ((V 47).keep 47 (Ev.keyOf c47r1_6400 * 1000 + 400)) 1) (evCode (V 47) q47r1 o47r1 47 1 3993 c47r1_6400) N st (kOut (V 47) 47 1 (Ev.keyOf c47r1_6400 * 1000 + 401) K)

theorem ints_Make_l6_L_eq {R : Type} (K : Ex → St → Option R) : ∀ N : Nat, (fun (v0 : Int) (v1 v2 : Nat) (v3 v4 : Int) (v5 : List Int) (v6 v7 v8 v9 : Int) (va : List Int) => lp47r1_6400 N (St.mk (spread 53 0 [0, 1, 4, 6, 34, 35, 36] [Ai v0, AV.sl 0 0 v1 1, Ap 1 0, Ap 2 0, AV.sl 0 0 v2 1, Ai v3, Ai v4]) [HU v5, HA [Ai v6, Ai v7, Ai v8, AV.esl], HA [Ai v9, Fu va]]) K) = ints_Make_l6_L (fun vb vc vd ve vf vg vh vi => K (Ex.exit 0) (St.mk (spread 53 0 [0, 1, 4, 6] [Ai vb, AV.sl 0 0 vc 1, Ap 1 0, Ap 2 0]) [HU vd, HA [Ai ve, Ai vf, Ai vg, AV.esl], HA [Ai vh, Fu vi]])) N
  | 0 => by funext v0 v1 v2 v3 v4 v5 v6 v7 v8 v9 va; rfl
  | N + 1 => by
    funext v0 v1 v2 v3 v4 v5 v6 v7 v8 v9 va
    simp only [ints_Make_l6_L]
    rw [← ints_Make_l6_L_eq K N]
    kernel_rfl

theorem p47r1_4000 : PieceOk (V 47) q47r1 o47r1 47 1 (3998, 0, c47r1_4000) := .s (size := 53) (ss := [0, 1, 4]) (F := @o47r1_4000_in) (by kernel_rfl) fun R r K vs hh h => by
  unfold o47r1_4000_in at h; split at h
  · rw [ints_Make_j4_unf] at h; exact Eq.trans (by kernel_rfl) h
  · cases h

theorem p47r1_3000 : PieceOk (V 47) q47r1 o47r1 47 1 (3997, 0, c47r1_3000) := .s (size := 53) (ss := [0, 1, 4, 28]) (F := @o47r1_3000_in) (by kernel_rfl) fun R r K vs hh h => by
  unfold o47r1_3000_in at h; split at h
  · rw [ints_Make_j3_unf] at h; exact Eq.trans (by kernel_rfl) h
  · cases h

theorem p47r1_6400 : PieceOk (V 47) q47r1 o47r1 47 1 (3993, 1, c47r1_6400) := .l (size := 53) (ss := [0, 1, 4, 6, 34, 35, 36]) (F := @o47r1_6400_in) (by kernel_rfl) (by kernel_rfl) fun R r K vs hh h => by
  unfold o47r1_6400_in at h; split at h
  · rw [ints_Make_l6_unf] at h; unfold ints_Make_l6_B at h; rw [← ints_Make_l6_L_eq K NR] at h; exact h
  · cases h

theorem pc47r1 : ∀ x ∈ [(3998, 0, c47r1_4000), (3997, 0, c47r1_3000), (3993, 1, c47r1_6400)], PieceOk (V 47) q47r1 o47r1 47 1 x := List.forall_mem_cons.2 ⟨p47r1_4000, List.forall_mem_cons.2 ⟨p47r1_3000, List.forall_mem_cons.2 ⟨p47r1_6400, fun _ h => nomatch h⟩⟩⟩

theorem ints_Make_r_eq {R : Type} (K : AV → H → Option R) (v0 : Int) (v1 : Nat) (v2 : List Int) : evH (V 47) S61 T87 o47r1 10 47 [Ai v0, AV.sl 0 0 v1 1] [HU v2] R K = ints_Make_r_B v0 v1 v2 (fun v3 v4 v5 v6 v7 => K (AV.tup [AV.agg (Blk.any [Ai v3, Ai v4, Ai v5, AV.esl]), Ai v6]) ([HU v7])) (fun v3 v4 v5 v6 v7 v8 => K (AV.tup [AV.agg (Blk.any [Ai v3, Ai v4, Ai v5, Fu v6]), Ai v7]) ([HU v8])) := by kernel_rfl

noncomputable def hs47 : HSpec := fun args h _ K => match args, h with
 | [Ai v0, AV.sl 0 0 v1 1], [HU v2] => ints_Make_r v0 v1 v2 (fun v3 v4 v5 v6 v7 => K (AV.tup [AV.agg (Blk.any [Ai v3, Ai v4, Ai v5, AV.esl]), Ai v6]) ([HU v7])) (fun v3 v4 v5 v6 v7 v8 => K (AV.tup [AV.agg (Blk.any [Ai v3, Ai v4, Ai v5, Fu v6]), Ai v7]) ([HU v8]))
 | _, _ => none
noncomputable def T47 := addT 47 hs47 T87
theorem D24 : Dom B0 V S61 T47 24 := Dom.t D23 fun args hh R K r h => by
 unfold hs47 at h; split at h
 · rw [ints_Make_r_unf] at h; exact ⟨o47r1, (OrcOk.fn (fn0 := Tryd.f47) (by kernel_rfl) (by kernel_rfl) pc47r1), (ints_Make_r_eq K _ _ _).trans h⟩
 · cases h

noncomputable def o48r1_6400_in {R : Type} (K : Ex → St → Option R) (vs : List AV) (hh : H) : Option R := match vs, hh with
 | [Ap 1 0, Ap 2 0, AV.sl 0 0 v0 1, Ai v1, Ai v2], [HO v3, HA [Ai v4, AV.esl], HA [Ai v5, AV.esl]] => bits_From_l6 v0 v1 v2 v3 v4 v5 (fun v6 v7 v8 => K (Ex.exit 0) (St.mk (spread 39 0 [2, 4] [Ap 1 0, Ap 2 0]) [HO v6, HA [Ai v7, AV.esl], HA [Ai v8, AV.esl]]))
 | [Ap 1 0, Ap 2 0, AV.sl 0 0 v9 1, Ai va, Ai vb], [HO vc, HA [Ai vd, AV.esl], HA [Ai ve, AV.sl 3 0 vf 1], HU vg] => bits_From_l6_1 v9 va vb vc vd ve vf vg (fun v6 v7 v8 vh vi => K (Ex.exit 0) (St.mk (spread 39 0 [2, 4] [Ap 1 0, Ap 2 0]) [HO v6, HA [Ai v7, AV.esl], HA [Ai v8, AV.sl 3 0 vh 1], HU vi]))
 | _, _ => none

noncomputable def o48r1 : Nat → Option PSpec := lkN [(6400, fun st _ K => pickM 39 [2, 4, 18, 19, 20] st (o48r1_6400_in K))]
noncomputable def q48r1 : CallF := evFun (V 48) S61 T47 10

noncomputable def c48r1_6400 : Code := subC [1, 1, 1, 0, 1, 0, 0] (bodyOf Tryd.f48)

noncomputable def lp48r1_6400 {R : Type} (N : Nat) (st : St) (K : Ex → St → Option R) : Option R := evLoop (norm ((V 48).keep 48 (Ev.keyOf c48r1_6400 * 1000 + 400)) 1) (evCode (V 48) q48r1 o48r1 48 1 3993 c48r1_6400) N st (kOut (V 48) 48 1 (Ev.keyOf c48r1_6400 * 1000 + 401) K)

theorem bits_From_l6_L_eq {R : Type} (K : Ex → St → Option R) : ∀ N : Nat, (fun (v0 : Nat) (v1 v2 : Int) (v3 : List Bool) (v4 v5 : Int) => lp48r1_6400 N (St.mk (spread 39 0 [2, 4, 18, 19, 20] [Ap 1 0, Ap 2 0, AV.sl 0 0 v0 1, Ai v1, Ai v2]) [HO v3, HA [Ai v4, AV.esl], HA [Ai v5, AV.esl]]) K) = bits_From_l6_L (fun v6 v7 v8 => K (Ex.exit 0) (St.mk (spread 39 0 [2, 4] [Ap 1 0, Ap 2 0]) [HO v6, HA [Ai v7, AV.esl], HA [Ai v8, AV.esl]])) N
  | 0 => by funext v0 v1 v2 v3 v4 v5; rfl
  | N + 1 => by
    funext v0 v1 v2 v3 v4 v5
    simp only [bits_From_l6_L]
    rw [← bits_From_l6_L_eq K N]
    kernel_rfl

theorem bits_From_l6_1_L_eq {R : Type} (K : Ex → St → Option R) : ∀ N : Nat, (fun (v0 : Nat) (v1 v2 : Int) (v3 : List Bool) (v4 v5 : Int) (v6 : Nat) (v7 : List Int) => lp48r1_6400 N (St.mk (spread 39 0 [2, 4, 18, 19, 20] [Ap 1 0, Ap 2 0, AV.sl 0 0 v0 1, Ai v1, Ai v2]) [HO v3, HA [Ai v4, AV.esl], HA [Ai v5, AV.sl 3 0 v6 1], HU v7]) K) = bits_From_l6_1_L (fun v8 v9 va vb vc => K (Ex.exit 0) (St.mk (spread 39 0 [2, 4] [Ap 1 0, Ap 2 0]) [HO v8, HA [Ai v9, AV.esl], HA [Ai va, AV.sl 3 0 vb 1], HU vc])) N
  | 0 => by funext v0 v1 v2 v3 v4 v5 v6 v7; rfl
  | N + 1 => by
    funext v0 v1 v2 v3 v4 v5 v6 v7
    simp only [bits_From_l6_1_L]
    rw [← bits_From_l6_1_L_eq K N]
    kernel_rfl

theorem p48r1_6400 : PieceOk (V 48) q48r1 o48r1 48 1 (3993, 1, c48r1_6400) := .l (size := 39) (ss := [2, 4, 18, 19, 20]) (F := @o48r1_6400_in) (by kernel_rfl) (by kernel_rfl) fun R r K vs hh h => by
  unfold o48r1_6400_in at h; split at h
  · rw [bits_From_l6_unf] at h; unfold bits_From_l6_B at h; rw [← bits_From_l6_L_eq K NR] at h; exact h
  · rw [bits_From_l6_1_unf] at h; unfold bits_From_l6_1_B at h; rw [← bits_From_l6_1_L_eq K NR] at h; exact h
  · cases h

theorem pc48r1 : ∀ x ∈ [(3993, 1, c48r1_6400)], PieceOk (V 48) q48r1 o48r1 48 1 x := List.forall_mem_cons.2 ⟨p48r1_6400, fun _ h => nomatch h⟩

noncomputable def hs48 : HSpec := fun args h _ K => match args, h with
 | [AV.sl 0 0 v0 1], [HO v1] => bits_From_r v0 v1 (fun v2 v3 v4 => K (AV.tup [AV.agg (Blk.any [Ai v2, AV.esl]), Ai v3]) ([HO v4])) (fun v2 v3 v4 v5 v6 => K (AV.tup [AV.agg (Blk.any [Ai v2, AV.sl 1 0 v3 1]), Ai v4]) ([HO v5, HU v6]))
 | _, _ => none
noncomputable def T48 := addT 48 hs48 T47
theorem D25 : Dom B0 V S61 T48 25 := Dom.t D24 fun args hh R K r h => by
 unfold hs48 at h; split at h
 · rw [bits_From_r_unf] at h; exact ⟨o48r1, (OrcOk.fn (fn0 := Tryd.f48) (by kernel_rfl) (by kernel_rfl) pc48r1), Eq.trans (by kernel_rfl) h⟩
 · cases h

noncomputable def o74_4400_in {R : Type} (K : Ex → St → Option R) (vs : List AV) (hh : H) : Option R := match vs, hh with
 | [Ai v0, Fu v1, Ai v2, Ai v3], [] => ints_width_l4_1 v0 v1 v2 v3 (fun v4 => K (Ex.exit 0) (St.mk (spread 18 0 [3] [Ai v4]) []))
 | _, _ => none

noncomputable def o74 : Nat → Option PSpec := lkN [(4400, fun st _ K => pickM 18 [3, 6, 7, 8] st (o74_4400_in K))]
noncomputable def q74 : CallF := evFun (V 74) S61 T48 10

noncomputable def c74_4400 : Code := subC [1, 1, 0, 1, 0, 0] (bodyOf Tryd.f74)

noncomputable def lp74_4400 {R : Type} (N : Nat) (st : St) (K : Ex → St → Option R) : Option R := evLoop (norm ((V 74).keep 74 (Ev.keyOf c74_4400 * 1000 + 400)) 0) (evCode (V 74) q74 o74 74 0 3994 c74_4400) N st (kOut (V 74) 74 0 (Ev.keyOf c74_4400 * 1000 + 401) K)

theorem ints_width_l4_1_L_eq {R : Type} (K : Ex → St → Option R) : ∀ N : Nat, (fun (v0 : Int) (v1 : List Int) (v2 v3 : Int) => lp74_4400 N (St.mk (spread 18 0 [3, 6, 7, 8] [Ai v0, Fu v1, Ai v2, Ai v3]) []) K) = ints_width_l4_1_L (fun v4 => K (Ex.exit 0) (St.mk (spread 18 0 [3] [Ai v4]) [])) N
  | 0 => by funext v0 v1 v2 v3; rfl
  | N + 1 => by
    funext v0 v1 v2 v3
    simp only [ints_width_l4_1_L]
    rw [← ints_width_l4_1_L_eq K N]
    kernel_rfl

theorem p74_4400 : PieceOk (V 74) q74 o74 74 0 (3994, 1, c74_4400) := .l (size := 18) (ss := [3, 6, 7, 8]) (F := @o74_4400_in) (by kernel_rfl) (by kernel_rfl) fun R r K vs hh h => by
  unfold o74_4400_in at h; split at h
  · rw [ints_width_l4_1_unf] at h; unfold ints_width_l4_1_B at h; rw [← ints_width_l4_1_L_eq K NR] at h; exact h
  · cases h

theorem pc74 : ∀ x ∈ [(3994, 1, c74_4400)], PieceOk (V 74) q74 o74 74 0 x := List.forall_mem_cons.2 ⟨p74_4400, fun _ h => nomatch h⟩

noncomputable def sp74 : Ev.Spec := fun args _ K => match args with
 | ([Fu v0]) => ints_width v0 (fun v1 => K (Ai v1))
 | _ => none
noncomputable def S74 := addS 74 sp74 S61
theorem D26 : Dom B0 V S74 T48 26 := Dom.s (m := 25) (n := 0) D25 D25 (O := o74) (OrcOk.fn (fn0 := Tryd.f74) (by kernel_rfl) (by kernel_rfl) pc74) fun args R K r h => by
 unfold sp74 at h; split at h
 · rw [ints_width_unf] at h; exact Eq.trans (by kernel_rfl) h
 · cases h

noncomputable def o47_3000_in {R : Type} (K : Ex → St → Option R) (vs : List AV) (hh : H) : Option R := match vs, hh with
 | [Ai v0, Fu v1, Ap 0 0, Ab v2], [HA [Ai v3, Ai v4, Ai v5, AV.esl]] => ints_Make_j3_1 v0 v1 v2 v3 v4 v5 (fun v6 v7 v8 v9 => K (Ex.ret) (St.mk (spread 53 0 [4, 5] [Ap 0 0, Ai v6]) [HA [Ai v7, Ai v8, Ai v9, AV.esl]])) (fun v6 v7 v8 v9 va => K (Ex.normal) (St.mk (spread 53 0 [0, 1, 4] [Ai v6, Fu v7, Ap 0 0]) [HA [Ai v8, Ai v9, Ai va, AV.esl]]))
 | _, _ => none

noncomputable def o47_4000_in {R : Type} (K : Ex → St → Option R) (vs : List AV) (hh : H) : Option R := match vs, hh with
 | [Ai v0, Fu v1, Ap 0 0], [HA [Ai v2, Ai v3, Ai v4, AV.esl]] => ints_Make_j4_1 v0 v1 v2 v3 v4 (fun v5 v6 v7 v8 v9 => K (Ex.ret) (St.mk (spread 53 0 [4, 5] [Ap 0 0, Ai v5]) [HA [Ai v6, Ai v7, Ai v8, Fu v9]]))
 | _, _ => none

noncomputable def o47_6400_in {R : Type} (K : Ex → St → Option R) (vs : List AV) (hh : H) : Option R := match vs, hh with
 | [Ai v0, Fu v1, Ap 0 0, Ap 1 0, Fu v2, Ai v3, Ai v4], [HA [Ai v5, Ai v6, Ai v7, AV.esl], HA [Ai v8, Fu v9]] => ints_Make_l6_1 v0 v1 v2 v3 v4 v5 v6 v7 v8 v9 (fun va vb vc vd ve vf vg => K (Ex.exit 0) (St.mk (spread 53 0 [0, 1, 4, 6] [Ai va, Fu vb, Ap 0 0, Ap 1 0]) [HA [Ai vc, Ai vd, Ai ve, AV.esl], HA [Ai vf, Fu vg]]))
 | _, _ => none

noncomputable def o47 : Nat → Option PSpec := lkN [(3000, fun st _ K => pickM 53 [0, 1, 4, 28] st (o47_3000_in K)), (4000, fun st _ K => pickM 53 [0, 1, 4] st (o47_4000_in K)), (6400, fun st _ K => pickM 53 [0, 1, 4, 6, 34, 35, 36] st (o47_6400_in K))]
noncomputable def q47 : CallF := evFun (V 47) S74 T48 10

noncomputable def c47_4000 : Code := subC [1, 1] (bodyOf Tryd.f47)

noncomputable def c47_3000 : Code := subC [1, 0, 1] (bodyOf Tryd.f47)

noncomputable def c47_6400 : Code := subC [1, 1, 1, 0, 1, 0, 0] (bodyOf Tryd.f47)

noncomputable def lp47_6400 {R : Type} (N : Nat) (st : St) (K : Ex → St → Option R) : Option R := evLoop (norm ((V 47).keep 47 (Ev.keyOf c47_6400 * 1000 + 400)) 0) (evCode (V 47) q47 o47 47 0 3993 c47_6400) N st (kOut (V 47) 47 0 (Ev.keyOf c47_6400 * 1000 + 401) K)

theorem ints_Make_l6_1_L_eq {R : Type} (K : Ex → St → Option R) : ∀ N : Nat, (fun (v0 : Int) (v1 v2 : List Int) (v3 v4 v5 v6 v7 v8 : Int) (v9 : List Int) => lp47_6400 N (St.mk (spread 53 0 [0, 1, 4, 6, 34, 35, 36] [Ai v0, Fu v1, Ap 0 0, Ap 1 0, Fu v2, Ai v3, Ai v4]) [HA [Ai v5, Ai v6, Ai v7, AV.esl], HA [Ai v8, Fu v9]]) K) = ints_Make_l6_1_L (fun va vb vc vd ve vf vg => K (Ex.exit 0) (St.mk (spread 53 0 [0, 1, 4, 6] [Ai va, Fu vb, Ap 0 0, Ap 1 0]) [HA [Ai vc, Ai vd, Ai ve, AV.esl], HA [Ai vf, Fu vg]])) N
  | 0 => by funext v0 v1 v2 v3 v4 v5 v6 v7 v8 v9; rfl
  | N + 1 => by
    funext v0 v1 v2 v3 v4 v5 v6 v7 v8 v9
    simp only [ints_Make_l6_1_L]
    rw [← ints_Make_l6_1_L_eq K N]
    kernel_rfl

theorem p47_4000 : PieceOk (V 47) q47 o47 47 0 (3998, 0, c47_4000) := .s (size := 53) (ss := [0, 1, 4]) (F := @o47_4000_in) (by kernel_rfl) fun R r K vs hh h => by
  unfold o47_4000_in at h; split at h
  · rw [ints_Make_j4_1_unf] at h; exact Eq.trans (by kernel_rfl) h
  · cases h

theorem p47_3000 : PieceOk (V 47) q47 o47 47 0 (3997, 0, c47_3000) := .s (size := 53) (ss := [0, 1, 4, 28]) (F := @o47_3000_in) (by kernel_rfl) fun R r K vs hh h => by
  unfold o47_3000_in at h; split at h
  · rw [ints_Make_j3_1_unf] at h; exact Eq.trans (by kernel_rfl) h
  · cases h

theorem p47_6400 : PieceOk (V 47) q47 o47 47 0 (3993, 1, c47_6400) := .l (size := 53) (ss := [0, 1, 4, 6, 34, 35, 36]) (F := @o47_6400_in) (by kernel_rfl) (by kernel_rfl) fun R r K vs hh h => by
  unfold o47_6400_in at h; split at h
  · rw [ints_Make_l6_1_unf] at h; unfold ints_Make_l6_1_B at h; rw [← ints_Make_l6_1_L_eq K NR] at h; exact h
  · cases h

theorem pc47 : ∀ x ∈ [(3998, 0, c47_4000), (3997, 0, c47_3000), (3993, 1, c47_6400)], PieceOk (V 47) q47 o47 47 0 x := List.forall_mem_cons.2 ⟨p47_4000, List.forall_mem_cons.2 ⟨p47_3000, List.forall_mem_cons.2 ⟨p47_6400, fun _ h => nomatch h⟩⟩⟩

theorem ints_Make_eq {R : Type} (K : AV → Option R) (v0 : Int) (v1 : List Int) : evSpec (V 47) S74 T48 o47 10 47 ([Ai v0, Fu v1]) R K = ints_Make_B v0 v1 (fun v2 v3 v4 v5 v6 => K (AV.tup [AV.agg (Blk.any [Ai v2, Ai v3, Ai v4, Fu v5]), Ai v6])) := by kernel_rfl

noncomputable def sp47 : Ev.Spec := fun args _ K => match args with
 | ([Ai v0, Fu v1]) => ints_Make v0 v1 (fun v2 v3 v4 v5 v6 => K (AV.tup [AV.agg (Blk.any [Ai v2, Ai v3, Ai v4, Fu v5]), Ai v6]))
 | _ => none
noncomputable def S47 := addS 47 sp47 S74
theorem D27 : Dom B0 V S47 T48 27 := Dom.s (m := 26) (n := 0) D26 D26 (O := o47) (OrcOk.fn (fn0 := Tryd.f47) (by kernel_rfl) (by kernel_rfl) pc47) fun args R K r h => by
 unfold sp47 at h; split at h
 · rw [ints_Make_unf] at h; exact (ints_Make_eq K _ _).trans h
 · cases h
end Go.Proofs.YtdojekdcdoaccaaDoor
