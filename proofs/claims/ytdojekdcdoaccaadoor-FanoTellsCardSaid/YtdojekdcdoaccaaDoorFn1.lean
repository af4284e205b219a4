/- The functions that this seat's laws reach, as plain functions, and that they are what the program does. Printed by a program of this repo (wip/Prt). -/
import Derived.Test.YtdojekdcdoaccaaDoorBase
import Derived.Test.YtdojekdcdoaccaaDoorEnv
import Derived.Test.YtdojekdcdoaccaaDoorEvC
import Derived.KernelRfl
namespace Go.Proofs.YtdojekdcdoaccaaDoor
open Go Go.Ev
def txt__14a5d8 : ByteArray := ByteArray.mk (List.toArray (List.append (List.append [0, 1, 2, 2, 3, 3, 3, 3, 4, 4, 4, 4, 4, 4, 4, 4, 5, 5, 5, 5, 5, 5, 5, 5, 5, 5, 5, 5, 5, 5, 5, 5, 6, 6, 6, 6, 6, 6, 6, 6, 6, 6, 6, 6, 6, 6, 6, 6, 6, 6, 6, 6, 6, 6, 6, 6, 6, 6, 6, 6, 6, 6, 6, 6] [7, 7, 7, 7, 7, 7, 7, 7, 7, 7, 7, 7, 7, 7, 7, 7, 7, 7, 7, 7, 7, 7, 7, 7, 7, 7, 7, 7, 7, 7, 7, 7, 7, 7, 7, 7, 7, 7, 7, 7, 7, 7, 7, 7, 7, 7, 7, 7, 7, 7, 7, 7, 7, 7, 7, 7, 7, 7, 7, 7, 7, 7, 7, 7]) (List.append [8, 8, 8, 8, 8, 8, 8, 8, 8, 8, 8, 8, 8, 8, 8, 8, 8, 8, 8, 8, 8, 8, 8, 8, 8, 8, 8, 8, 8, 8, 8, 8, 8, 8, 8, 8, 8, 8, 8, 8, 8, 8, 8, 8, 8, 8, 8, 8, 8, 8, 8, 8, 8, 8, 8, 8, 8, 8, 8, 8, 8, 8, 8, 8] [8, 8, 8, 8, 8, 8, 8, 8, 8, 8, 8, 8, 8, 8, 8, 8, 8, 8, 8, 8, 8, 8, 8, 8, 8, 8, 8, 8, 8, 8, 8, 8, 8, 8, 8, 8, 8, 8, 8, 8, 8, 8, 8, 8, 8, 8, 8, 8, 8, 8, 8, 8, 8, 8, 8, 8, 8, 8, 8, 8, 8, 8, 8, 8])))
set_option maxRecDepth 100000
set_option maxHeartbeats 4000000
@[match_pattern] abbrev Ai (n : Int) : AV := AV.int .i64 n
@[match_pattern] abbrev Au (n : Int) : AV := AV.int .u64 n
@[match_pattern] abbrev Ab (b : Bool) : AV := AV.bool b
@[match_pattern] abbrev Ap (a b : Nat) : AV := AV.ptr a b
@[match_pattern] abbrev Fu (xs : List Int) : AV := AV.fsl (Blk.ints .u64 xs)
@[match_pattern] abbrev HA (vs : List AV) : HB := HB.live (Blk.any vs)
@[match_pattern] abbrev HU (xs : List Int) : HB := HB.live (Blk.ints .u64 xs)
@[match_pattern] abbrev HO (bs : List Bool) : HB := HB.live (Blk.bools bs)


noncomputable def bits_words_B {R : Type} (v0 : Int) (K0 : Int → Option R) : Option R :=
 K0 (quoW .i64 (subW .i64 (addW .i64 v0 64) 1) 64)
noncomputable def bits_words {R : Type} := shut (@bits_words_B R)
theorem bits_words_unf {R : Type} : @bits_words R = @bits_words_B R := shut_eq _

noncomputable def word_Mask_B {R : Type} (v0 : Int) (K0 : Int → Option R) : Option R :=
 sel (decide (v0 ≤ 0))
 (K0 0)
 (sel (decide (0 ≤ max2 0 (subW .i64 64 v0)))
 (K0 (shrW .u64 18446744073709551615 (max2 0 (subW .i64 64 v0))))
 (none))
noncomputable def word_Mask {R : Type} := shut (@word_Mask_B R)
theorem word_Mask_unf {R : Type} : @word_Mask R = @word_Mask_B R := shut_eq _

noncomputable def bits_Check_j4_B {R : Type} (v0 : Int) (v1 : List Int) (K0 : Bool → Option R) : Option R :=
 sel (decide (remW v0 64 = 0))
 (K0 true)
 (sel (decide (0 ≤ subW .i64 (↑(List.length v1) : Int) 1))
 (sel (decide (subW .i64 (↑(List.length v1) : Int) 1 < (↑(List.length v1) : Int)))
 (word_Mask (remW v0 64)
 (fun v2 => letV (decide (andNotW .u64 (List.getD v1 (Int.toNat (subW .i64 (↑(List.length v1) : Int) 1)) 0) v2 = 0)) (fun (v3 : Bool) =>
 K0 v3)))
 (none))
 (none))
noncomputable def bits_Check_j4 {R : Type} := shut (@bits_Check_j4_B R)
theorem bits_Check_j4_unf {R : Type} : @bits_Check_j4 R = @bits_Check_j4_B R := shut_eq _

noncomputable def bits_Check_B {R : Type} (v0 : Int) (v1 : List Int) (K0 : Bool → Option R) : Option R :=
 sel (decide (v0 < 0))
 (K0 false)
 (sel (decide (1048576 < v0))
 (K0 false)
 (bits_words v0
 (fun v2 => sel (!decide ((↑(List.length v1) : Int) = v2))
 (K0 false)
 (bits_Check_j4 v0 v1
 (fun v3 => K0 v3)))))
noncomputable def bits_Check {R : Type} := shut (@bits_Check_B R)
theorem bits_Check_unf {R : Type} : @bits_Check R = @bits_Check_B R := shut_eq _

noncomputable def math_bits_OnesCount64_B {R : Type} (v0 : Int) (K0 : Int → Option R) : Option R :=
 letV (shrW .u64 (addW .u64 (andW .u64 (shrW .u64 (addW .u64 (andW .u64 (shrW .u64 v0 1) 6148914691236517205) (andW .u64 v0 6148914691236517205)) 2) 3689348814741910323) (andW .u64 (addW .u64 (andW .u64 (shrW .u64 v0 1) 6148914691236517205) (andW .u64 v0 6148914691236517205)) 3689348814741910323)) 4) (fun (v1 : Int) =>
 letV (addW .u64 v1 (addW .u64 (andW .u64 (shrW .u64 (addW .u64 (andW .u64 (shrW .u64 v0 1) 6148914691236517205) (andW .u64 v0 6148914691236517205)) 2) 3689348814741910323) (andW .u64 (addW .u64 (andW .u64 (shrW .u64 v0 1) 6148914691236517205) (andW .u64 v0 6148914691236517205)) 3689348814741910323))) (fun (v2 : Int) =>
 letV (addW .u64 (addW .u64 (addW .u64 (andW .u64 v2 1085102592571150095) (shrW .u64 (andW .u64 v2 1085102592571150095) 8)) (shrW .u64 (addW .u64 (andW .u64 v2 1085102592571150095) (shrW .u64 (andW .u64 v2 1085102592571150095) 8)) 16)) (shrW .u64 (addW .u64 (addW .u64 (andW .u64 v2 1085102592571150095) (shrW .u64 (andW .u64 v2 1085102592571150095) 8)) (shrW .u64 (addW .u64 (andW .u64 v2 1085102592571150095) (shrW .u64 (andW .u64 v2 1085102592571150095) 8)) 16)) 32)) (fun (v3 : Int) =>
 K0 (andW .i64 (cvtW .i64 v3) 127))))
noncomputable def math_bits_OnesCount64 {R : Type} := shut (@math_bits_OnesCount64_B R)
theorem math_bits_OnesCount64_unf {R : Type} : @math_bits_OnesCount64 R = @math_bits_OnesCount64_B R := shut_eq _

noncomputable def word_Pop_B {R : Type} (v0 : Int) (K0 : Int → Option R) : Option R :=
 math_bits_OnesCount64 v0
 (fun v1 => K0 v1)
noncomputable def word_Pop {R : Type} := shut (@word_Pop_B R)
theorem word_Pop_unf {R : Type} : @word_Pop R = @word_Pop_B R := shut_eq _

noncomputable def bits_Ones_l7_T {R : Type} (rec : Int → Int → List Int → Int → Int → Int → List Int → Option R) (v0 v1 : Int) (v2 : List Int) (v3 v4 v5 : Int) (v6 : List Int) (K0 : Int → Int → Int → List Int → Option R) : Option R :=
 sel (decide (v4 < v3))
 (sel (decide (0 ≤ v4))
 (sel (decide (v4 < (↑(List.length v2) : Int)))
 (word_Pop (List.getD v2 (Int.toNat v4) 0)
 (fun v7 => rec v0 (addW .i64 v1 v7) v2 v3 (addW .i64 v4 1) v5 v6))
 (none))
 (none))
 (K0 v0 v1 v5 v6)
noncomputable def bits_Ones_l7_L {R : Type} (K0 : Int → Int → Int → List Int → Option R) : Nat → Int → Int → List Int → Int → Int → Int → List Int → Option R
 | 0, _, _, _, _, _, _, _ => none
 | N + 1, v0, v1, v2, v3, v4, v5, v6 => bits_Ones_l7_T (bits_Ones_l7_L K0 N) v0 v1 v2 v3 v4 v5 v6 K0
noncomputable def bits_Ones_l7_B {R : Type} (v0 v1 : Int) (v2 : List Int) (v3 v4 v5 : Int) (v6 : List Int) (K0 : Int → Int → Int → List Int → Option R) : Option R :=
 bits_Ones_l7_L K0 NR v0 v1 v2 v3 v4 v5 v6
noncomputable def bits_Ones_l7 {R : Type} := shut (@bits_Ones_l7_B R)
theorem bits_Ones_l7_unf {R : Type} : @bits_Ones_l7 R = @bits_Ones_l7_B R := shut_eq _

noncomputable def word_Rank_B {R : Type} (v0 v1 : Int) (K0 : Int → Option R) : Option R :=
 word_Mask v1
 (fun v2 => word_Pop (andW .u64 v0 v2)
 (fun v3 => K0 v3))
noncomputable def word_Rank {R : Type} := shut (@word_Rank_B R)
theorem word_Rank_unf {R : Type} : @word_Rank R = @word_Rank_B R := shut_eq _

noncomputable def bits_Ones_B {R : Type} (v0 : Int) (v1 : List Int) (v2 : Int) (K0 : Int → Option R) : Option R :=
 bits_Check v0 v1
 (fun v3 => sel (!v3)
 (K0 0)
 (sel (decide (0 ≤ quoW .i64 (max2 0 (min2 v2 v0)) 64))
 (sel (decide (quoW .i64 (max2 0 (min2 v2 v0)) 64 ≤ (↑(List.length v1) : Int)))
 (letV (List.drop (Int.toNat 0) (List.take (Int.toNat (quoW .i64 (max2 0 (min2 v2 v0)) 64)) v1)) (fun (v4 : List Int) =>
 bits_Ones_l7 (max2 0 (min2 v2 v0)) 0 v4 ((↑(List.length v4) : Int)) 0 v0 v1
 (fun v5 v6 _ v8 => sel (decide (0 < remW v5 64))
 (sel (decide (0 ≤ quoW .i64 v5 64))
 (sel (decide (quoW .i64 v5 64 < (↑(List.length v8) : Int)))
 (word_Rank (List.getD v8 (Int.toNat (quoW .i64 v5 64)) 0) (remW v5 64)
 (fun v9 => K0 (addW .i64 v6 v9)))
 (none))
 (none))
 (K0 v6))))
 (none))
 (none)))
noncomputable def bits_Ones {R : Type} := shut (@bits_Ones_B R)
theorem bits_Ones_unf {R : Type} : @bits_Ones R = @bits_Ones_B R := shut_eq _

noncomputable def math_bits_Len64_j11_B {R : Type} (v0 v1 : Int) (K0 : Int → Option R) : Option R :=
 sel (decide (0 ≤ cvtW .u8 v0))
 (sel (decide (cvtW .u8 v0 < (↑(ByteArray.size (txt__14a5d8)) : Int)))
 (letV ((↑(UInt8.toNat (List.getD (Array.toList (ByteArray.data (txt__14a5d8))) (Int.toNat (cvtW .u8 v0)) 0)) : Int)) (fun (v2 : Int) =>
 K0 (addW .i64 v1 (cvtW .i64 v2))))
 (none))
 (none)
noncomputable def math_bits_Len64_j11 {R : Type} := shut (@math_bits_Len64_j11_B R)
theorem math_bits_Len64_j11_unf {R : Type} : @math_bits_Len64_j11 R = @math_bits_Len64_j11_B R := shut_eq _

noncomputable def math_bits_Len64_j8_B {R : Type} (v0 v1 : Int) (K0 : Int → Option R) : Option R :=
 sel (decide (256 ≤ v0))
 (math_bits_Len64_j11 (shrW .u64 v0 8) (addW .i64 v1 8)
 (fun v2 => K0 v2))
 (math_bits_Len64_j11 v0 v1
 (fun v3 => K0 v3))
noncomputable def math_bits_Len64_j8 {R : Type} := shut (@math_bits_Len64_j8_B R)
theorem math_bits_Len64_j8_unf {R : Type} : @math_bits_Len64_j8 R = @math_bits_Len64_j8_B R := shut_eq _

noncomputable def math_bits_Len64_j5_B {R : Type} (v0 v1 : Int) (K0 : Int → Option R) : Option R :=
 sel (decide (65536 ≤ v0))
 (math_bits_Len64_j8 (shrW .u64 v0 16) (addW .i64 v1 16)
 (fun v2 => K0 v2))
 (math_bits_Len64_j8 v0 v1
 (fun v3 => K0 v3))
noncomputable def math_bits_Len64_j5 {R : Type} := shut (@math_bits_Len64_j5_B R)
theorem math_bits_Len64_j5_unf {R : Type} : @math_bits_Len64_j5 R = @math_bits_Len64_j5_B R := shut_eq _

noncomputable def math_bits_Len64_B {R : Type} (v0 : Int) (K0 : Int → Option R) : Option R :=
 sel (decide (4294967296 ≤ v0))
 (math_bits_Len64_j5 (shrW .u64 v0 32) 32
 (fun v1 => K0 v1))
 (math_bits_Len64_j5 v0 0
 (fun v2 => K0 v2))
noncomputable def math_bits_Len64 {R : Type} := shut (@math_bits_Len64_B R)
theorem math_bits_Len64_unf {R : Type} : @math_bits_Len64 R = @math_bits_Len64_B R := shut_eq _

noncomputable def word_Len_B {R : Type} (v0 : Int) (K0 : Int → Option R) : Option R :=
 math_bits_Len64 v0
 (fun v1 => K0 v1)
noncomputable def word_Len {R : Type} := shut (@word_Len_B R)
theorem word_Len_unf {R : Type} : @word_Len R = @word_Len_B R := shut_eq _

noncomputable def fano_width_B {R : Type} (v0 v1 : Int) (K0 : Int → Option R) : Option R :=
 sel (decide (v1 = 0))
 (K0 0)
 (sel (decide (v1 = 0))
 (none)
 (word_Len (cvtW .u64 (quoW .i64 v0 v1))
 (fun v2 => K0 (subW .i64 v2 1))))
noncomputable def fano_width {R : Type} := shut (@fano_width_B R)
theorem fano_width_unf {R : Type} : @fano_width R = @fano_width_B R := shut_eq _

noncomputable def fano_eachOne_r_B {R : Type} (v0 : Int) (v1 : List Int) (K0 : Int → List Int → Option R) : Option R :=
 K0 v0 v1
noncomputable def fano_eachOne_r {R : Type} := shut (@fano_eachOne_r_B R)
theorem fano_eachOne_r_unf {R : Type} : @fano_eachOne_r R = @fano_eachOne_r_B R := shut_eq _

noncomputable def word_Select_l5_T {R : Type} (rec : Int → Int → Int → Option R) (v0 v1 v2 : Int) (K0 : Int → Option R) : Option R :=
 sel (decide (v2 < v1))
 (rec (andW .u64 v0 (subW .u64 v0 1)) v1 (addW .i64 v2 1))
 (K0 v0)
noncomputable def word_Select_l5_L {R : Type} (K0 : Int → Option R) : Nat → Int → Int → Int → Option R
 | 0, _, _, _ => none
 | N + 1, v0, v1, v2 => word_Select_l5_T (word_Select_l5_L K0 N) v0 v1 v2 K0
noncomputable def word_Select_l5_B {R : Type} (v0 v1 v2 : Int) (K0 : Int → Option R) : Option R :=
 word_Select_l5_L K0 NR v0 v1 v2
noncomputable def word_Select_l5 {R : Type} := shut (@word_Select_l5_B R)
theorem word_Select_l5_unf {R : Type} : @word_Select_l5 R = @word_Select_l5_B R := shut_eq _

noncomputable def math_bits_TrailingZeros64_B {R : Type} (v0 : Int) (K0 : Int → Option R) : Option R :=
 sel (decide (v0 = 0))
 (K0 64)
 (sel (decide (0 ≤ shrW .u64 (mulW .u64 (andW .u64 v0 (negW .u64 v0)) 285870213051353865) 58))
 (sel (decide (shrW .u64 (mulW .u64 (andW .u64 v0 (negW .u64 v0)) 285870213051353865) 58 < (↑64 : Int)))
 (K0 (cvtW .i64 (List.getD tzTab (Int.toNat (shrW .u64 (mulW .u64 (andW .u64 v0 (negW .u64 v0)) 285870213051353865) 58)) 0)))
 (none))
 (none))
noncomputable def math_bits_TrailingZeros64 {R : Type} := shut (@math_bits_TrailingZeros64_B R)
theorem math_bits_TrailingZeros64_unf {R : Type} : @math_bits_TrailingZeros64 R = @math_bits_TrailingZeros64_B R := shut_eq _

noncomputable def word_Select_j4_B {R : Type} (v0 v1 : Int) (K0 : Int → Option R) : Option R :=
 word_Select_l5 v0 v1 0
 (fun v2 => math_bits_TrailingZeros64 v2
 (fun v3 => K0 v3))
noncomputable def word_Select_j4 {R : Type} := shut (@word_Select_j4_B R)
theorem word_Select_j4_unf {R : Type} : @word_Select_j4 R = @word_Select_j4_B R := shut_eq _

noncomputable def word_Select_B {R : Type} (v0 v1 : Int) (K0 : Int → Option R) : Option R :=
 sel (decide (v1 < 0))
 (K0 64)
 (word_Pop v0
 (fun v2 => sel (decide (v2 ≤ v1))
 (K0 64)
 (word_Select_j4 v0 v1
 (fun v3 => K0 v3))))
noncomputable def word_Select {R : Type} := shut (@word_Select_B R)
theorem word_Select_unf {R : Type} : @word_Select R = @word_Select_B R := shut_eq _

noncomputable def fano_Build_1_j5_B {R : Type} (v0 : Nat) (v1 : List Bool) (v2 v3 : Int) (v4 : Nat) (v5 : List Int) (K0 : Bool → Nat → List Bool → Int → Int → Nat → List Int → Option R) : Option R :=
 K0 true v0 v1 v2 (addW .i64 v3 1) v4 v5
noncomputable def fano_Build_1_j5 {R : Type} := shut (@fano_Build_1_j5_B R)
theorem fano_Build_1_j5_unf {R : Type} : @fano_Build_1_j5 R = @fano_Build_1_j5_B R := shut_eq _

noncomputable def fano_Build_1_j5_1_B {R : Type} (v0 : Nat) (v1 : List Bool) (v2 v3 : Int) (K0 : Bool → Nat → List Bool → Int → Int → Option R) : Option R :=
 K0 true v0 v1 v2 (addW .i64 v3 1)
noncomputable def fano_Build_1_j5_1 {R : Type} := shut (@fano_Build_1_j5_1_B R)
theorem fano_Build_1_j5_1_unf {R : Type} : @fano_Build_1_j5_1 R = @fano_Build_1_j5_1_B R := shut_eq _

noncomputable def fano_Build_1_r_B {R : Type} (v0 : Int) (v1 : Nat) (v2 : List Bool) (v3 v4 : Int) (K0 : Bool → Nat → List Bool → Int → Int → Nat → List Int → Option R) (K1 : Bool → Nat → List Bool → Int → Int → Option R) : Option R :=
 sel (decide (0 ≤ v3))
 (sel (decide (0 ≤ addW .i64 (shrW .i64 v0 v3) v4))
 (sel (decide (addW .i64 (shrW .i64 v0 v3) v4 < (↑v1 : Int)))
 (sel (decide (Int.toNat (addW .i64 (shrW .i64 v0 v3) v4) < List.length v2))
 (letV (List.set v2 (Int.toNat (addW .i64 (shrW .i64 v0 v3) v4)) true) (fun (v5 : List Bool) =>
 sel (decide (0 < v3))
 (word_Mask v3
 (fun v6 => fano_Build_1_j5 v1 v5 v3 v4 1 ([andW .u64 (cvtW .u64 v0) v6])
 K0))
 (fano_Build_1_j5_1 v1 v5 v3 v4
 (fun ve vf vg vh vi => K1 ve vf vg vh vi))))
 (none))
 (none))
 (none))
 (none)
noncomputable def fano_Build_1_r {R : Type} := shut (@fano_Build_1_r_B R)
theorem fano_Build_1_r_unf {R : Type} : @fano_Build_1_r R = @fano_Build_1_r_B R := shut_eq _

noncomputable def fano_Build_1_j5_2_B {R : Type} (v0 : Nat) (v1 : List Bool) (v2 v3 : Int) (v4 : Nat) (v5 : List Int) (K0 : Bool → Nat → List Bool → Int → Int → Nat → List Int → Option R) : Option R :=
 K0 true v0 v1 v2 (addW .i64 v3 1) v4 v5
noncomputable def fano_Build_1_j5_2 {R : Type} := shut (@fano_Build_1_j5_2_B R)
theorem fano_Build_1_j5_2_unf {R : Type} : @fano_Build_1_j5_2 R = @fano_Build_1_j5_2_B R := shut_eq _

noncomputable def fano_Build_1_j5_3_B {R : Type} (v0 : Nat) (v1 : List Bool) (v2 v3 : Int) (v4 : Nat) (v5 : List Int) (K0 : Bool → Nat → List Bool → Int → Int → Nat → List Int → Option R) : Option R :=
 K0 true v0 v1 v2 (addW .i64 v3 1) v4 v5
noncomputable def fano_Build_1_j5_3 {R : Type} := shut (@fano_Build_1_j5_3_B R)
theorem fano_Build_1_j5_3_unf {R : Type} : @fano_Build_1_j5_3 R = @fano_Build_1_j5_3_B R := shut_eq _

noncomputable def fano_Build_1_r_1_B {R : Type} (v0 : Int) (v1 : Nat) (v2 : List Bool) (v3 v4 : Int) (v5 : Nat) (v6 : List Int) (K0 : Bool → Nat → List Bool → Int → Int → Nat → List Int → Option R) (K1 : Bool → Nat → List Bool → Int → Int → Nat → List Int → Option R) : Option R :=
 sel (decide (0 ≤ v3))
 (sel (decide (0 ≤ addW .i64 (shrW .i64 v0 v3) v4))
 (sel (decide (addW .i64 (shrW .i64 v0 v3) v4 < (↑v1 : Int)))
 (sel (decide (Int.toNat (addW .i64 (shrW .i64 v0 v3) v4) < List.length v2))
 (letV (List.set v2 (Int.toNat (addW .i64 (shrW .i64 v0 v3) v4)) true) (fun (v7 : List Bool) =>
 sel (decide (0 < v3))
 (word_Mask v3
 (fun v8 => sel (decide (List.length v6 = v5))
 (sel (decide ((v5 + 1) * 8 ≤ 140737488355328))
 (letV (v6 ++ [andW .u64 (cvtW .u64 v0) v8]) (fun (v9 : List Int) =>
 fano_Build_1_j5_2 v1 v7 v3 v4 (v5 + 1) v9
 K0))
 (none))
 (none)))
 (fano_Build_1_j5_3 v1 v7 v3 v4 v5 v6
 K1)))
 (none))
 (none))
 (none))
 (none)
noncomputable def fano_Build_1_r_1 {R : Type} := shut (@fano_Build_1_r_1_B R)
theorem fano_Build_1_r_1_unf {R : Type} : @fano_Build_1_r_1 R = @fano_Build_1_r_1_B R := shut_eq _

noncomputable def fano_eachOne_1_l4_T {R : Type} (rec : Int → Int → List Int → Int → Int → Nat → List Bool → Int → Int → Nat → Int → List Int → List Int → Option R) (v0 v1 : Int) (v2 : List Int) (v3 v4 : Int) (v5 : Nat) (v6 : List Bool) (v7 v8 : Int) (v9 : Nat) (va : Int) (vb vc : List Int) (K0 : Nat → List Bool → Int → Int → Nat → Int → List Int → List Int → Option R) (K1 : List Int → Int → Int → Nat → List Bool → Int → Int → Nat → Int → List Int → List Int → Option R) : Option R :=
 sel (!decide (v1 = 0))
 (word_Select v1 0
 (fun vd => fano_Build_1_r_1 (addW .i64 (mulW .i64 v0 64) vd) v5 v6 v7 v8 v9 vc
 (fun ve vf vg vh vi vj vk => sel (!ve)
 (K0 vf vg vh vi vj va vb vk)
 (rec v0 (andW .u64 v1 (subW .u64 v1 1)) v2 v3 v4 vf vg vh vi vj va vb vk))
 (fun vl vm vn vo vp vq vr => sel (!vl)
 (K0 vm vn vo vp vq va vb vr)
 (rec v0 (andW .u64 v1 (subW .u64 v1 1)) v2 v3 v4 vm vn vo vp vq va vb vr))))
 (K1 v2 v3 v4 v5 v6 v7 v8 v9 va vb vc)
noncomputable def fano_eachOne_1_l4_L {R : Type} (K0 : Nat → List Bool → Int → Int → Nat → Int → List Int → List Int → Option R) (K1 : List Int → Int → Int → Nat → List Bool → Int → Int → Nat → Int → List Int → List Int → Option R) : Nat → Int → Int → List Int → Int → Int → Nat → List Bool → Int → Int → Nat → Int → List Int → List Int → Option R
 | 0, _, _, _, _, _, _, _, _, _, _, _, _, _ => none
 | N + 1, v0, v1, v2, v3, v4, v5, v6, v7, v8, v9, va, vb, vc => fano_eachOne_1_l4_T (fano_eachOne_1_l4_L K0 K1 N) v0 v1 v2 v3 v4 v5 v6 v7 v8 v9 va vb vc K0 K1
noncomputable def fano_eachOne_1_l4_B {R : Type} (v0 v1 : Int) (v2 : List Int) (v3 v4 : Int) (v5 : Nat) (v6 : List Bool) (v7 v8 : Int) (v9 : Nat) (va : Int) (vb vc : List Int) (K0 : Nat → List Bool → Int → Int → Nat → Int → List Int → List Int → Option R) (K1 : List Int → Int → Int → Nat → List Bool → Int → Int → Nat → Int → List Int → List Int → Option R) : Option R :=
 fano_eachOne_1_l4_L K0 K1 NR v0 v1 v2 v3 v4 v5 v6 v7 v8 v9 va vb vc
noncomputable def fano_eachOne_1_l4 {R : Type} := shut (@fano_eachOne_1_l4_B R)
theorem fano_eachOne_1_l4_unf {R : Type} : @fano_eachOne_1_l4 R = @fano_eachOne_1_l4_B R := shut_eq _

noncomputable def fano_eachOne_1_l2_T {R : Type} (rec : List Int → Int → Int → Nat → List Bool → Int → Int → Nat → Int → List Int → List Int → Option R) (v0 : List Int) (v1 v2 : Int) (v3 : Nat) (v4 : List Bool) (v5 v6 : Int) (v7 : Nat) (v8 : Int) (v9 va : List Int) (K0 : Nat → List Bool → Int → Int → Nat → Int → List Int → List Int → Option R) (K1 : Nat → List Bool → Int → Int → Nat → Int → List Int → List Int → Option R) : Option R :=
 sel (decide (v2 < v1))
 (sel (decide (0 ≤ v2))
 (sel (decide (v2 < (↑(List.length v0) : Int)))
 (fano_eachOne_1_l4 v2 (List.getD v0 (Int.toNat v2) 0) v0 v1 v2 v3 v4 v5 v6 v7 v8 v9 va
 K0
 (fun vj vk vl vm vn vo vp vq vr vs vt => rec vj vk (addW .i64 vl 1) vm vn vo vp vq vr vs vt))
 (none))
 (none))
 (K1 v3 v4 v5 v6 v7 v8 v9 va)
noncomputable def fano_eachOne_1_l2_L {R : Type} (K0 : Nat → List Bool → Int → Int → Nat → Int → List Int → List Int → Option R) (K1 : Nat → List Bool → Int → Int → Nat → Int → List Int → List Int → Option R) : Nat → List Int → Int → Int → Nat → List Bool → Int → Int → Nat → Int → List Int → List Int → Option R
 | 0, _, _, _, _, _, _, _, _, _, _, _ => none
 | N + 1, v0, v1, v2, v3, v4, v5, v6, v7, v8, v9, va => fano_eachOne_1_l2_T (fano_eachOne_1_l2_L K0 K1 N) v0 v1 v2 v3 v4 v5 v6 v7 v8 v9 va K0 K1
noncomputable def fano_eachOne_1_l2_B {R : Type} (v0 : List Int) (v1 v2 : Int) (v3 : Nat) (v4 : List Bool) (v5 v6 : Int) (v7 : Nat) (v8 : Int) (v9 va : List Int) (K0 : Nat → List Bool → Int → Int → Nat → Int → List Int → List Int → Option R) (K1 : Nat → List Bool → Int → Int → Nat → Int → List Int → List Int → Option R) : Option R :=
 fano_eachOne_1_l2_L K0 K1 NR v0 v1 v2 v3 v4 v5 v6 v7 v8 v9 va
noncomputable def fano_eachOne_1_l2 {R : Type} := shut (@fano_eachOne_1_l2_B R)
theorem fano_eachOne_1_l2_unf {R : Type} : @fano_eachOne_1_l2 R = @fano_eachOne_1_l2_B R := shut_eq _

noncomputable def fano_eachOne_1_r_B {R : Type} (v0 : Nat) (v1 : List Bool) (v2 v3 v4 : Int) (v5 : List Int) (K0 : Nat → List Bool → Int → Int → Nat → Int → List Int → List Int → Option R) : Option R :=
 fano_eachOne_1_l2 v5 ((↑(List.length v5) : Int)) 0 v0 v1 v2 v3 0 v4 v5 []
 K0
 K0
noncomputable def fano_eachOne_1_r {R : Type} := shut (@fano_eachOne_1_r_B R)
theorem fano_eachOne_1_r_unf {R : Type} : @fano_eachOne_1_r R = @fano_eachOne_1_r_B R := shut_eq _

noncomputable def ints_Make_j3_B {R : Type} (v0 : Int) (v1 : List Int) (v2 : Bool) (v3 v4 v5 : Int) (K0 : Int → Int → Int → Int → Option R) (K1 : Int → List Int → Int → Int → Int → Option R) : Option R :=
 sel v2
 (K0 2 0 0 0)
 (K1 v0 v1 v3 v4 v5)
noncomputable def ints_Make_j3 {R : Type} := shut (@ints_Make_j3_B R)
theorem ints_Make_j3_unf {R : Type} : @ints_Make_j3 R = @ints_Make_j3_B R := shut_eq _

noncomputable def bits_New_j3_B {R : Type} (v0 : Int) (v1 : Bool) (v2 : Int) (K0 : Int → Int → Option R) (K1 : Int → Int → Option R) : Option R :=
 sel v1
 (K0 2 0)
 (K1 v0 v2)
noncomputable def bits_New_j3 {R : Type} := shut (@bits_New_j3_B R)
theorem bits_New_j3_unf {R : Type} : @bits_New_j3 R = @bits_New_j3_B R := shut_eq _

noncomputable def bits_New_j4_B {R : Type} (v0 _v1 : Int) (K0 : Int → Int → Nat → List Int → Option R) : Option R :=
 bits_words v0
 (fun v2 => sel (decide (0 ≤ v2))
 (sel (decide (v2 ≤ v2))
 (sel (decide (v2 ≤ 281474976710656))
 (sel (decide ((↑8 : Int) * v2 ≤ 281474976710656))
 (letV (List.replicate (Int.toNat v2) 0) (fun (v3 : List Int) =>
 K0 0 v0 (Int.toNat v2) v3))
 (none))
 (none))
 (none))
 (none))
noncomputable def bits_New_j4 {R : Type} := shut (@bits_New_j4_B R)
theorem bits_New_j4_unf {R : Type} : @bits_New_j4 R = @bits_New_j4_B R := shut_eq _

noncomputable def bits_New_B {R : Type} (v0 : Int) (K0 : Int → List Int → Int → Option R) : Option R :=
 sel (decide (v0 < 0))
 (bits_New_j3 v0 true 0
 (fun v1 v2 => K0 v2 [] v1)
 (fun v3 v4 => bits_New_j4 v3 v4
 (fun v5 v6 v7 v8 => sel (decide (v7 = List.length v8))
 (K0 v6 v8 v5)
 (none))))
 (bits_New_j3 v0 (decide (1048576 < v0)) 0
 (fun v9 va => K0 va [] v9)
 (fun vb vc => bits_New_j4 vb vc
 (fun vd ve vf vg => sel (decide (vf = List.length vg))
 (K0 ve vg vd)
 (none))))
noncomputable def bits_New {R : Type} := shut (@bits_New_B R)
theorem bits_New_unf {R : Type} : @bits_New R = @bits_New_B R := shut_eq _

noncomputable def bits_Append_j3_B {R : Type} (v0 v1 : Int) (v2 : Bool) (v3 : Int) (v4 : List Int) (v5 : Int) (K0 : Int → Int → List Int → Option R) (K1 : Int → Int → Int → List Int → Int → Option R) : Option R :=
 sel v2
 (K0 2 v3 v4)
 (K1 v0 v1 v3 v4 v5)
noncomputable def bits_Append_j3 {R : Type} := shut (@bits_Append_j3_B R)
theorem bits_Append_j3_unf {R : Type} : @bits_Append_j3 R = @bits_Append_j3_B R := shut_eq _

noncomputable def bits_own_r_B {R : Type} (_v0 : Int) (v1 : List Int) (v2 : Int) (K0 : Int → Nat → List Int → Option R) : Option R :=
 bits_words v2
 (fun v3 => sel (decide (0 ≤ v3))
 (sel (decide (v3 ≤ v3))
 (sel (decide (v3 ≤ 281474976710656))
 (sel (decide ((↑8 : Int) * v3 ≤ 281474976710656))
 (letV (List.replicate (Int.toNat v3) 0) (fun (v4 : List Int) =>
 sel (decide (0 + Int.toNat v3 ≤ List.length v4))
 (sel (decide (List.length v1 ≤ Int.toNat v3))
 (sel (decide (0 + List.length v1 ≤ List.length v4))
 (letV (List.take 0 v4 ++ (v1 ++ List.drop (0 + List.length v1) v4)) (fun (v5 : List Int) =>
 K0 v2 (Int.toNat v3) v5))
 (none))
 (sel (decide (0 + Int.toNat v3 ≤ List.length v1))
 (sel (decide (0 + List.length (List.take (Int.toNat v3) (List.drop 0 v1)) ≤ List.length v4))
 (letV (List.take 0 v4 ++ (List.take (Int.toNat v3) (List.drop 0 v1) ++ List.drop (0 + List.length (List.take (Int.toNat v3) (List.drop 0 v1))) v4)) (fun (v6 : List Int) =>
 K0 v2 (Int.toNat v3) v6))
 (none))
 (none)))
 (none)))
 (none))
 (none))
 (none))
 (none))
noncomputable def bits_own_r {R : Type} := shut (@bits_own_r_B R)
theorem bits_own_r_unf {R : Type} : @bits_own_r R = @bits_own_r_B R := shut_eq _

noncomputable def bits_fill_j6_B {R : Type} (v0 v1 v2 : Int) (v3 : Bool) (v4 : List Int) (_v5 : Int) (v6 : Nat) (K0 : List Int → Option R) : Option R :=
 sel v3
 (sel (decide (0 ≤ addW .i64 v1 1))
 (sel (decide (addW .i64 v1 1 < (↑v6 : Int)))
 (sel (decide (Int.toNat (addW .i64 v1 1) < List.length v4))
 (sel (decide (0 ≤ subW .i64 64 v2))
 (sel (decide (0 ≤ addW .i64 v1 1))
 (sel (decide (addW .i64 v1 1 < (↑v6 : Int)))
 (sel (decide (Int.toNat (addW .i64 v1 1) < List.length v4))
 (letV (List.set v4 (Int.toNat (addW .i64 v1 1)) (orW .u64 (List.getD v4 (Int.toNat (addW .i64 v1 1)) 0) (shrW .u64 v0 (subW .i64 64 v2)))) (fun (v7 : List Int) =>
 K0 v7))
 (none))
 (none))
 (none))
 (none))
 (none))
 (none))
 (none))
 (K0 v4)
noncomputable def bits_fill_j6 {R : Type} := shut (@bits_fill_j6_B R)
theorem bits_fill_j6_unf {R : Type} : @bits_fill_j6 R = @bits_fill_j6_B R := shut_eq _

noncomputable def bits_fill_j5_B {R : Type} (v0 v1 v2 : Int) (v3 : List Int) (v4 : Int) (v5 : Nat) (K0 : List Int → Option R) : Option R :=
 sel (decide (0 < v2))
 (bits_fill_j6 v0 v1 v2 (decide (addW .i64 v1 1 < (↑v5 : Int))) v3 v4 v5
 (fun v6 => K0 v6))
 (bits_fill_j6 v0 v1 v2 false v3 v4 v5
 (fun v7 => K0 v7))
noncomputable def bits_fill_j5 {R : Type} := shut (@bits_fill_j5_B R)
theorem bits_fill_j5_unf {R : Type} : @bits_fill_j5 R = @bits_fill_j5_B R := shut_eq _

noncomputable def bits_fill_r_B {R : Type} (v0 : Int) (v1 : Nat) (v2 v3 : Int) (v4 : List Int) (K0 : List Int → Option R) : Option R :=
 sel (decide (quoW .i64 v2 64 < (↑v1 : Int)))
 (sel (decide (0 ≤ quoW .i64 v2 64))
 (sel (decide (quoW .i64 v2 64 < (↑v1 : Int)))
 (sel (decide (Int.toNat (quoW .i64 v2 64) < List.length v4))
 (sel (decide (0 ≤ remW v2 64))
 (sel (decide (0 ≤ quoW .i64 v2 64))
 (sel (decide (quoW .i64 v2 64 < (↑v1 : Int)))
 (sel (decide (Int.toNat (quoW .i64 v2 64) < List.length v4))
 (letV (List.set v4 (Int.toNat (quoW .i64 v2 64)) (orW .u64 (List.getD v4 (Int.toNat (quoW .i64 v2 64)) 0) (shlW .u64 v3 (remW v2 64)))) (fun (v5 : List Int) =>
 bits_fill_j5 v3 (quoW .i64 v2 64) (remW v2 64) v5 v0 v1
 (fun v6 => K0 v6)))
 (none))
 (none))
 (none))
 (none))
 (none))
 (none))
 (none))
 (bits_fill_j5 v3 (quoW .i64 v2 64) (remW v2 64) v4 v0 v1
 (fun v7 => K0 v7))
noncomputable def bits_fill_r {R : Type} := shut (@bits_fill_r_B R)
theorem bits_fill_r_unf {R : Type} : @bits_fill_r R = @bits_fill_r_B R := shut_eq _

noncomputable def bits_Append_j4_B {R : Type} (v0 v1 v2 : Int) (v3 : List Int) (_v4 : Int) (K0 : Int → Int → Nat → List Int → Option R) : Option R :=
 bits_own_r v2 v3 (addW .i64 v2 v1)
 (fun v5 v6 v7 => word_Mask v1
 (fun v8 => bits_fill_r v5 v6 v2 (andW .u64 v0 v8) v7
 (fun v9 => K0 0 v5 v6 v9)))
noncomputable def bits_Append_j4 {R : Type} := shut (@bits_Append_j4_B R)
theorem bits_Append_j4_unf {R : Type} : @bits_Append_j4 R = @bits_Append_j4_B R := shut_eq _

noncomputable def bits_Append_B {R : Type} (v0 : Int) (v1 : List Int) (v2 v3 : Int) (K0 : Int → List Int → Int → Option R) : Option R :=
 bits_Check v0 v1
 (fun v4 => sel (!v4)
 (bits_Append_j3 v2 v3 true v0 v1 0
 (fun v5 v6 v7 => K0 v6 v7 v5)
 (fun v8 v9 va vb vc => bits_Append_j4 v8 v9 va vb vc
 (fun vd ve vf vg => sel (decide (vf = List.length vg))
 (K0 ve vg vd)
 (none))))
 (sel (decide (v3 < 0))
 (bits_Append_j3 v2 v3 true v0 v1 0
 (fun vh vi vj => K0 vi vj vh)
 (fun vk vl vm vn vo => bits_Append_j4 vk vl vm vn vo
 (fun vp vq vr vs => sel (decide (vr = List.length vs))
 (K0 vq vs vp)
 (none))))
 (sel (decide (64 < v3))
 (bits_Append_j3 v2 v3 true v0 v1 0
 (fun vt vu vv => K0 vu vv vt)
 (fun vw vx vy vz v10 => bits_Append_j4 vw vx vy vz v10
 (fun v11 v12 v13 v14 => sel (decide (v13 = List.length v14))
 (K0 v12 v14 v11)
 (none))))
 (bits_Append_j3 v2 v3 (decide (subW .i64 1048576 v0 < v3)) v0 v1 0
 (fun v15 v16 v17 => K0 v16 v17 v15)
 (fun v18 v19 v1a v1b v1c => bits_Append_j4 v18 v19 v1a v1b v1c
 (fun v1d v1e v1f v1g => sel (decide (v1f = List.length v1g))
 (K0 v1e v1g v1d)
 (none)))))))
noncomputable def bits_Append {R : Type} := shut (@bits_Append_B R)
theorem bits_Append_unf {R : Type} : @bits_Append R = @bits_Append_B R := shut_eq _

noncomputable def ints_Make_l6_T {R : Type} (rec : Int → List Int → List Int → Int → Int → Int → Int → Int → Int → List Int → Option R) (v0 : Int) (v1 v2 : List Int) (v3 v4 v5 v6 v7 v8 : Int) (v9 : List Int) (K0 : Int → List Int → Int → Int → Int → Int → List Int → Option R) : Option R :=
 sel (decide (v4 < v3))
 (sel (decide (0 ≤ v4))
 (sel (decide (v4 < (↑(List.length v2) : Int)))
 (bits_Append v8 v9 (List.getD v2 (Int.toNat v4) 0) v0
 (fun va vb _ => rec v0 v1 v2 v3 (addW .i64 v4 1) v5 v6 v7 va vb))
 (none))
 (none))
 (K0 v0 v1 v5 v6 v7 v8 v9)
noncomputable def ints_Make_l6_L {R : Type} (K0 : Int → List Int → Int → Int → Int → Int → List Int → Option R) : Nat → Int → List Int → List Int → Int → Int → Int → Int → Int → Int → List Int → Option R
 | 0, _, _, _, _, _, _, _, _, _, _ => none
 | N + 1, v0, v1, v2, v3, v4, v5, v6, v7, v8, v9 => ints_Make_l6_T (ints_Make_l6_L K0 N) v0 v1 v2 v3 v4 v5 v6 v7 v8 v9 K0
noncomputable def ints_Make_l6_B {R : Type} (v0 : Int) (v1 v2 : List Int) (v3 v4 v5 v6 v7 v8 : Int) (v9 : List Int) (K0 : Int → List Int → Int → Int → Int → Int → List Int → Option R) : Option R :=
 ints_Make_l6_L K0 NR v0 v1 v2 v3 v4 v5 v6 v7 v8 v9
noncomputable def ints_Make_l6 {R : Type} := shut (@ints_Make_l6_B R)
theorem ints_Make_l6_unf {R : Type} : @ints_Make_l6 R = @ints_Make_l6_B R := shut_eq _

noncomputable def ints_Make_j4_B {R : Type} (v0 : Int) (v1 : List Int) (v2 v3 v4 : Int) (K0 : Int → Int → Int → Int → List Int → Option R) : Option R :=
 bits_New 0
 (fun v5 v6 _ => ints_Make_l6 v0 v1 v1 ((↑(List.length v1) : Int)) 0 v2 v3 v4 v5 v6
 (fun v8 v9 _ _ _ vd ve => K0 0 ((↑(List.length v9) : Int)) v8 vd ve))
noncomputable def ints_Make_j4 {R : Type} := shut (@ints_Make_j4_B R)
theorem ints_Make_j4_unf {R : Type} : @ints_Make_j4 R = @ints_Make_j4_B R := shut_eq _

noncomputable def ints_width_l4_T {R : Type} (rec : Int → List Int → Int → Int → Option R) (v0 : Int) (v1 : List Int) (v2 v3 : Int) (K0 : Int → Option R) : Option R :=
 sel (decide (v3 < v2))
 (sel (decide (0 ≤ v3))
 (sel (decide (v3 < (↑(List.length v1) : Int)))
 (word_Len (List.getD v1 (Int.toNat v3) 0)
 (fun v4 => rec (max2 v0 v4) v1 v2 (addW .i64 v3 1)))
 (none))
 (none))
 (K0 v0)
noncomputable def ints_width_l4_L {R : Type} (K0 : Int → Option R) : Nat → Int → List Int → Int → Int → Option R
 | 0, _, _, _, _ => none
 | N + 1, v0, v1, v2, v3 => ints_width_l4_T (ints_width_l4_L K0 N) v0 v1 v2 v3 K0
noncomputable def ints_width_l4_B {R : Type} (v0 : Int) (v1 : List Int) (v2 v3 : Int) (K0 : Int → Option R) : Option R :=
 ints_width_l4_L K0 NR v0 v1 v2 v3
noncomputable def ints_width_l4 {R : Type} := shut (@ints_width_l4_B R)
theorem ints_width_l4_unf {R : Type} : @ints_width_l4 R = @ints_width_l4_B R := shut_eq _

noncomputable def ints_width_B {R : Type} (v0 : List Int) (K0 : Int → Option R) : Option R :=
 ints_width_l4 1 v0 ((↑(List.length v0) : Int)) 0
 (fun v1 => K0 v1)
noncomputable def ints_width {R : Type} := shut (@ints_width_B R)
theorem ints_width_unf {R : Type} : @ints_width R = @ints_width_B R := shut_eq _

noncomputable def ints_Make_B {R : Type} (v0 : Int) (v1 : List Int) (K0 : Int → Int → Int → List Int → Int → Option R) : Option R :=
 sel (decide (v0 < 1))
 (ints_Make_j3 v0 v1 true 0 0 0
 (fun v2 v3 v4 v5 => K0 v3 v4 v5 [] v2)
 (fun v6 v7 v8 v9 va => ints_Make_j4 v6 v7 v8 v9 va
 (fun vb vc vd ve vf => K0 vc vd ve vf vb)))
 (sel (decide (64 < v0))
 (ints_Make_j3 v0 v1 true 0 0 0
 (fun vg vh vi vj => K0 vh vi vj [] vg)
 (fun vk vl vm vn vo => ints_Make_j4 vk vl vm vn vo
 (fun vp vq vr vs vt => K0 vq vr vs vt vp)))
 (sel (decide (v0 = 0))
 (none)
 (sel (decide (quoW .i64 1048576 v0 < (↑(List.length v1) : Int)))
 (ints_Make_j3 v0 v1 true 0 0 0
 (fun vu vv vw vx => K0 vv vw vx [] vu)
 (fun vy vz v10 v11 v12 => ints_Make_j4 vy vz v10 v11 v12
 (fun v13 v14 v15 v16 v17 => K0 v14 v15 v16 v17 v13)))
 (ints_width v1
 (fun v18 => ints_Make_j3 v0 v1 (decide (v0 < v18)) 0 0 0
 (fun v19 v1a v1b v1c => K0 v1a v1b v1c [] v19)
 (fun v1d v1e v1f v1g v1h => ints_Make_j4 v1d v1e v1f v1g v1h
 (fun v1i v1j v1k v1l v1m => K0 v1j v1k v1l v1m v1i)))))))
noncomputable def ints_Make {R : Type} := shut (@ints_Make_B R)
theorem ints_Make_unf {R : Type} : @ints_Make R = @ints_Make_B R := shut_eq _

noncomputable def bits_New_r_B {R : Type} (v0 : Int) (K0 : Int → Int → Option R) (K1 : Int → Nat → Int → List Int → Option R) : Option R :=
 sel (decide (v0 < 0))
 (bits_New_j3 v0 true 0
 (fun v1 v2 => K0 v2 v1)
 (fun v3 v4 => bits_New_j4 v3 v4
 (fun v5 v6 v7 v8 => K1 v6 v7 v5 v8)))
 (bits_New_j3 v0 (decide (1048576 < v0)) 0
 (fun v9 va => K0 va v9)
 (fun vb vc => bits_New_j4 vb vc
 (fun vd ve vf vg => K1 ve vf vd vg)))
noncomputable def bits_New_r {R : Type} := shut (@bits_New_r_B R)
theorem bits_New_r_unf {R : Type} : @bits_New_r R = @bits_New_r_B R := shut_eq _

noncomputable def bits_From_l6_T {R : Type} (rec : List Bool → Int → Int → Int → Int → Option R) (v0 : List Bool) (v1 v2 v3 v4 : Int) (K0 : Int → Int → Option R) : Option R :=
 sel (decide (v2 < v1))
 (sel (decide (0 ≤ v2))
 (sel (decide (v2 < (↑(List.length v0) : Int)))
 (sel (List.getD v0 (Int.toNat v2) false)
 (none)
 (rec v0 v1 (addW .i64 v2 1) v3 v4))
 (none))
 (none))
 (K0 v3 v4)
noncomputable def bits_From_l6_L {R : Type} (K0 : Int → Int → Option R) : Nat → List Bool → Int → Int → Int → Int → Option R
 | 0, _, _, _, _, _ => none
 | N + 1, v0, v1, v2, v3, v4 => bits_From_l6_T (bits_From_l6_L K0 N) v0 v1 v2 v3 v4 K0
noncomputable def bits_From_l6_B {R : Type} (v0 : List Bool) (v1 v2 v3 v4 : Int) (K0 : Int → Int → Option R) : Option R :=
 bits_From_l6_L K0 NR v0 v1 v2 v3 v4
noncomputable def bits_From_l6 {R : Type} := shut (@bits_From_l6_B R)
theorem bits_From_l6_unf {R : Type} : @bits_From_l6 R = @bits_From_l6_B R := shut_eq _

noncomputable def bits_From_l6_1_T {R : Type} (rec : List Bool → Int → Int → Int → Int → Nat → List Int → Option R) (v0 : List Bool) (v1 v2 v3 v4 : Int) (v5 : Nat) (v6 : List Int) (K0 : Int → Int → Nat → List Int → Option R) : Option R :=
 sel (decide (v2 < v1))
 (sel (decide (0 ≤ v2))
 (sel (decide (v2 < (↑(List.length v0) : Int)))
 (sel (List.getD v0 (Int.toNat v2) false)
 (sel (decide (0 ≤ quoW .i64 v2 64))
 (sel (decide (quoW .i64 v2 64 < (↑v5 : Int)))
 (sel (decide (Int.toNat (quoW .i64 v2 64) < List.length v6))
 (sel (decide (0 ≤ remW v2 64))
 (sel (decide (0 ≤ quoW .i64 v2 64))
 (sel (decide (quoW .i64 v2 64 < (↑v5 : Int)))
 (sel (decide (Int.toNat (quoW .i64 v2 64) < List.length v6))
 (letV (List.set v6 (Int.toNat (quoW .i64 v2 64)) (orW .u64 (List.getD v6 (Int.toNat (quoW .i64 v2 64)) 0) (shlW .u64 1 (remW v2 64)))) (fun (v7 : List Int) =>
 rec v0 v1 (addW .i64 v2 1) v3 v4 v5 v7))
 (none))
 (none))
 (none))
 (none))
 (none))
 (none))
 (none))
 (rec v0 v1 (addW .i64 v2 1) v3 v4 v5 v6))
 (none))
 (none))
 (K0 v3 v4 v5 v6)
noncomputable def bits_From_l6_1_L {R : Type} (K0 : Int → Int → Nat → List Int → Option R) : Nat → List Bool → Int → Int → Int → Int → Nat → List Int → Option R
 | 0, _, _, _, _, _, _, _ => none
 | N + 1, v0, v1, v2, v3, v4, v5, v6 => bits_From_l6_1_T (bits_From_l6_1_L K0 N) v0 v1 v2 v3 v4 v5 v6 K0
noncomputable def bits_From_l6_1_B {R : Type} (v0 : List Bool) (v1 v2 v3 v4 : Int) (v5 : Nat) (v6 : List Int) (K0 : Int → Int → Nat → List Int → Option R) : Option R :=
 bits_From_l6_1_L K0 NR v0 v1 v2 v3 v4 v5 v6
noncomputable def bits_From_l6_1 {R : Type} := shut (@bits_From_l6_1_B R)
theorem bits_From_l6_1_unf {R : Type} : @bits_From_l6_1 R = @bits_From_l6_1_B R := shut_eq _

noncomputable def bits_From_B {R : Type} (v0 : List Bool) (K0 : Int → List Int → Int → Option R) : Option R :=
 bits_New_r ((↑(List.length v0) : Int))
 (fun v1 v2 => sel (!decide (v2 = 0))
 (K0 v1 [] v2)
 (bits_From_l6 v0 ((↑(List.length v0) : Int)) 0 0 v1
 (fun _ v4 => K0 v4 [] 0)))
 (fun v5 v6 v7 v8 => sel (!decide (v7 = 0))
 (sel (decide (v6 = List.length v8))
 (K0 v5 v8 v7)
 (none))
 (bits_From_l6_1 v0 ((↑(List.length v0) : Int)) 0 0 v5 v6 v8
 (fun _ va vb vc => sel (decide (vb = List.length vc))
 (K0 va vc 0)
 (none))))
noncomputable def bits_From {R : Type} := shut (@bits_From_B R)
theorem bits_From_unf {R : Type} : @bits_From R = @bits_From_B R := shut_eq _

noncomputable def fano_Build_j14_B {R : Type} (v0 : Bool) (v1 v2 v3 v4 v5 v6 v7 v8 v9 va vb : Int) (vc : List Int) (vd : Int) (ve : List Int) (K0 : Int → Int → Int → Int → Int → Int → Int → Option R) (K1 : Int → Int → Int → Int → Int → Int → Int → Int → Int → Int → Int → List Int → Int → List Int → Option R) : Option R :=
 sel v0
 (K0 2 0 0 0 0 0 0)
 (K1 v1 v2 v3 v4 v5 v6 v7 v8 v9 va vb vc vd ve)
noncomputable def fano_Build_j14 {R : Type} := shut (@fano_Build_j14_B R)
theorem fano_Build_j14_unf {R : Type} : @fano_Build_j14 R = @fano_Build_j14_B R := shut_eq _

noncomputable def fano_Build_B {R : Type} (v0 : Int) (v1 : List Int) (K0 : Int → Int → Int → Int → Int → List Int → Int → List Int → Int → Option R) : Option R :=
 bits_Check v0 v1
 (fun v2 => sel (!v2)
 (K0 0 0 0 0 0 [] 0 [] 2)
 (bits_Ones v0 v1 v0
 (fun v3 => fano_width v0 v3
 (fun v4 => sel (decide (0 ≤ v4))
 (sel (decide (0 ≤ addW .i64 (addW .i64 v3 (shrW .i64 v0 v4)) 1))
 (sel (decide (addW .i64 (addW .i64 v3 (shrW .i64 v0 v4)) 1 ≤ addW .i64 (addW .i64 v3 (shrW .i64 v0 v4)) 1))
 (sel (decide (addW .i64 (addW .i64 v3 (shrW .i64 v0 v4)) 1 ≤ 281474976710656))
 (sel (decide ((↑1 : Int) * addW .i64 (addW .i64 v3 (shrW .i64 v0 v4)) 1 ≤ 281474976710656))
 (letV (List.replicate (Int.toNat (addW .i64 (addW .i64 v3 (shrW .i64 v0 v4)) 1)) false) (fun (v5 : List Bool) =>
 fano_eachOne_r v0 v1
 (fun v6 v7 => fano_eachOne_1_r (Int.toNat (addW .i64 (addW .i64 v3 (shrW .i64 v0 v4)) 1)) v5 v4 0 v6 v7
 (fun v8 v9 va _ vc _ _ vf => sel (decide (vc = List.length vf))
 (sel (decide (vc = List.length vf))
 (ints_Make (max2 1 va) vf
 (fun vg vh vi vj vk => sel (decide (Int.toNat (addW .i64 (addW .i64 v3 (shrW .i64 v0 v4)) 1) = List.length v9))
 (sel (decide (v8 = List.length v9))
 (sel (decide (v8 = List.length v9))
 (bits_From v9
 (fun vl vm vn => sel (!decide (vk = 0))
 (fano_Build_j14 true 0 0 0 0 0 0 v0 v3 vg vh vi vj vl vm
 (fun vo vp vq vr vs vt vu => K0 vp vq vr vs vt [] vu [] vo)
 (fun _ _ _ _ _ _ v11 v12 v13 v14 v15 v16 v17 v18 => K0 v11 v12 v13 v14 v15 v16 v17 v18 0))
 (fano_Build_j14 (!decide (vn = 0)) 0 0 0 0 0 0 v0 v3 vg vh vi vj vl vm
 (fun v19 v1a v1b v1c v1d v1e v1f => K0 v1a v1b v1c v1d v1e [] v1f [] v19)
 (fun _ _ _ _ _ _ v1m v1n v1o v1p v1q v1r v1s v1t => K0 v1m v1n v1o v1p v1q v1r v1s v1t 0))))
 (none))
 (none))
 (none)))
 (none))
 (none)))))
 (none))
 (none))
 (none))
 (none))
 (none)))))
noncomputable def fano_Build {R : Type} := shut (@fano_Build_B R)
theorem fano_Build_unf {R : Type} : @fano_Build R = @fano_Build_B R := shut_eq _

noncomputable def fano_row_j3_B {R : Type} (v0 : Bool) (v1 v2 v3 v4 v5 : Int) (v6 : List Int) (v7 : Int) (v8 : List Int) (v9 : Int) (K0 : Bool → Int → Option R) (K1 : Int → Int → Int → Int → Int → List Int → Int → List Int → Int → Option R) : Option R :=
 sel v0
 (K0 false 0)
 (K1 v1 v2 v3 v4 v5 v6 v7 v8 v9)
noncomputable def fano_row_j3 {R : Type} := shut (@fano_row_j3_B R)
theorem fano_row_j3_unf {R : Type} : @fano_row_j3 R = @fano_row_j3_B R := shut_eq _

noncomputable def ints_Check_B {R : Type} (v0 v1 v2 : Int) (v3 : List Int) (K0 : Bool → Option R) : Option R :=
 sel (decide (1 ≤ v1))
 (sel (decide (v1 ≤ 64))
 (sel (decide (0 ≤ v0))
 (sel (decide (v0 ≤ 1048576))
 (bits_Check v2 v3
 (fun v4 => sel v4
 (K0 (decide (v2 = mulW .i64 v0 v1)))
 (K0 false)))
 (K0 false))
 (K0 false))
 (K0 false))
 (K0 false)
noncomputable def ints_Check {R : Type} := shut (@ints_Check_B R)
theorem ints_Check_unf {R : Type} : @ints_Check R = @ints_Check_B R := shut_eq _

noncomputable def bits_Slice_j5_B {R : Type} (v0 v1 : Int) (v2 : Bool) (v3 : Int) (v4 : List Int) (K0 : Int → Int → Option R) (K1 : Int → Int → Int → List Int → Option R) : Option R :=
 sel v2
 (K0 0 3)
 (sel (decide (v1 = 0))
 (K0 0 0)
 (K1 v0 v1 v3 v4))
noncomputable def bits_Slice_j5 {R : Type} := shut (@bits_Slice_j5_B R)
theorem bits_Slice_j5_unf {R : Type} : @bits_Slice_j5 R = @bits_Slice_j5_B R := shut_eq _

noncomputable def bits_Slice_j3_B {R : Type} (v0 v1 : Int) (v2 : Bool) (v3 : Int) (v4 : List Int) (K0 : Int → Int → Option R) (K1 : Int → Int → Int → List Int → Option R) : Option R :=
 sel v2
 (K0 0 2)
 (sel (decide (v0 < 0))
 (bits_Slice_j5 v0 v1 true v3 v4
 (fun v5 v6 => K0 v5 v6)
 (fun v7 v8 v9 va => K1 v7 v8 v9 va))
 (sel (decide (v3 < v0))
 (bits_Slice_j5 v0 v1 true v3 v4
 (fun vb vc => K0 vb vc)
 (fun vd ve vf vg => K1 vd ve vf vg))
 (bits_Slice_j5 v0 v1 (decide (subW .i64 v3 v0 < v1)) v3 v4
 (fun vh vi => K0 vh vi)
 (fun vj vk vl vm => K1 vj vk vl vm))))
noncomputable def bits_Slice_j3 {R : Type} := shut (@bits_Slice_j3_B R)
theorem bits_Slice_j3_unf {R : Type} : @bits_Slice_j3 R = @bits_Slice_j3_B R := shut_eq _

noncomputable def bits_Slice_j12_B {R : Type} (v0 v1 : Int) (K0 : Int → Int → Option R) : Option R :=
 word_Mask v0
 (fun v2 => K0 (andW .u64 v1 v2) 0)
noncomputable def bits_Slice_j12 {R : Type} := shut (@bits_Slice_j12_B R)
theorem bits_Slice_j12_unf {R : Type} : @bits_Slice_j12 R = @bits_Slice_j12_B R := shut_eq _

noncomputable def bits_Slice_j8_B {R : Type} (v0 v1 _v2 : Int) (v3 : List Int) (K0 : Int → Int → Option R) : Option R :=
 sel (decide (0 ≤ quoW .i64 v0 64))
 (sel (decide (quoW .i64 v0 64 < (↑(List.length v3) : Int)))
 (sel (decide (0 ≤ remW v0 64))
 (sel (decide (64 < addW .i64 (remW v0 64) v1))
 (sel (decide (0 ≤ addW .i64 (quoW .i64 v0 64) 1))
 (sel (decide (addW .i64 (quoW .i64 v0 64) 1 < (↑(List.length v3) : Int)))
 (sel (decide (0 ≤ subW .i64 64 (remW v0 64)))
 (letV (orW .u64 (shrW .u64 (List.getD v3 (Int.toNat (quoW .i64 v0 64)) 0) (remW v0 64)) (shlW .u64 (List.getD v3 (Int.toNat (addW .i64 (quoW .i64 v0 64) 1)) 0) (subW .i64 64 (remW v0 64)))) (fun (v4 : Int) =>
 bits_Slice_j12 v1 v4
 (fun v5 v6 => K0 v5 v6)))
 (none))
 (none))
 (none))
 (bits_Slice_j12 v1 (shrW .u64 (List.getD v3 (Int.toNat (quoW .i64 v0 64)) 0) (remW v0 64))
 (fun v7 v8 => K0 v7 v8)))
 (none))
 (none))
 (none)
noncomputable def bits_Slice_j8 {R : Type} := shut (@bits_Slice_j8_B R)
theorem bits_Slice_j8_unf {R : Type} : @bits_Slice_j8 R = @bits_Slice_j8_B R := shut_eq _

noncomputable def bits_Slice_B {R : Type} (v0 : Int) (v1 : List Int) (v2 v3 : Int) (K0 : Int → Int → Option R) : Option R :=
 bits_Check v0 v1
 (fun v4 => sel (!v4)
 (bits_Slice_j3 v2 v3 true v0 v1
 (fun v5 v6 => K0 v5 v6)
 (fun v7 v8 v9 va => bits_Slice_j8 v7 v8 v9 va
 (fun vb vc => K0 vb vc)))
 (sel (decide (v3 < 0))
 (bits_Slice_j3 v2 v3 true v0 v1
 (fun vd ve => K0 vd ve)
 (fun vf vg vh vi => bits_Slice_j8 vf vg vh vi
 (fun vj vk => K0 vj vk)))
 (bits_Slice_j3 v2 v3 (decide (64 < v3)) v0 v1
 (fun vl vm => K0 vl vm)
 (fun vn vo vp vq => bits_Slice_j8 vn vo vp vq
 (fun vr vs => K0 vr vs)))))
noncomputable def bits_Slice {R : Type} := shut (@bits_Slice_B R)
theorem bits_Slice_unf {R : Type} : @bits_Slice R = @bits_Slice_B R := shut_eq _

noncomputable def ints_List_l6_T {R : Type} (rec : Nat → Int → Int → Int → Int → Int → List Int → List Int → Option R) (v0 : Nat) (v1 v2 v3 v4 v5 : Int) (v6 v7 : List Int) (K0 : Nat → List Int → Option R) : Option R :=
 sel (decide (v2 < v1))
 (bits_Slice v5 v6 (mulW .i64 v2 v4) v4
 (fun v8 _ => sel (decide (0 ≤ v2))
 (sel (decide (v2 < (↑v0 : Int)))
 (sel (decide (Int.toNat v2 < List.length v7))
 (letV (List.set v7 (Int.toNat v2) v8) (fun (va : List Int) =>
 rec v0 v1 (addW .i64 v2 1) v3 v4 v5 v6 va))
 (none))
 (none))
 (none)))
 (K0 v0 v7)
noncomputable def ints_List_l6_L {R : Type} (K0 : Nat → List Int → Option R) : Nat → Nat → Int → Int → Int → Int → Int → List Int → List Int → Option R
 | 0, _, _, _, _, _, _, _, _ => none
 | N + 1, v0, v1, v2, v3, v4, v5, v6, v7 => ints_List_l6_T (ints_List_l6_L K0 N) v0 v1 v2 v3 v4 v5 v6 v7 K0
noncomputable def ints_List_l6_B {R : Type} (v0 : Nat) (v1 v2 v3 v4 v5 : Int) (v6 v7 : List Int) (K0 : Nat → List Int → Option R) : Option R :=
 ints_List_l6_L K0 NR v0 v1 v2 v3 v4 v5 v6 v7
noncomputable def ints_List_l6 {R : Type} := shut (@ints_List_l6_B R)
theorem ints_List_l6_unf {R : Type} : @ints_List_l6 R = @ints_List_l6_B R := shut_eq _

noncomputable def ints_List_B {R : Type} (v0 v1 v2 : Int) (v3 : List Int) (K0 : List Int → Option R) : Option R :=
 ints_Check v0 v1 v2 v3
 (fun v4 => sel (!v4)
 (K0 [])
 (sel (decide (0 ≤ v0))
 (sel (decide (v0 ≤ v0))
 (sel (decide (v0 ≤ 281474976710656))
 (sel (decide ((↑8 : Int) * v0 ≤ 281474976710656))
 (letV (List.replicate (Int.toNat v0) 0) (fun (v5 : List Int) =>
 ints_List_l6 (Int.toNat v0) ((↑(Int.toNat v0) : Int)) 0 v0 v1 v2 v3 v5
 (fun v6 v7 => sel (decide (v6 = List.length v7))
 (K0 v7)
 (none))))
 (none))
 (none))
 (none))
 (none)))
noncomputable def ints_List {R : Type} := shut (@ints_List_B R)
theorem ints_List_unf {R : Type} : @ints_List R = @ints_List_B R := shut_eq _

noncomputable def fano_row_1_j4_B {R : Type} (v0 : Int) (v1 : Bool) (v2 v3 : Int) (v4 : List Int) (v5 v6 v7 v8 v9 : Int) (va : List Int) (vb : Int) (vc : List Int) (vd : Bool) (ve : Nat) (vf : List Bool) (K0 : Int → Int → Int → List Int → Int → Int → Int → Int → Int → List Int → Int → List Int → Bool → Nat → List Bool → Option R) : Option R :=
 sel v1
 (sel (decide (0 ≤ v2))
 (sel (decide (v2 < (↑(List.length v4) : Int)))
 (word_Mask v3
 (fun vg => K0 (orW .i64 v0 (cvtW .i64 (andW .u64 (List.getD v4 (Int.toNat v2) 0) vg))) v2 v3 v4 v5 v6 v7 v8 v9 va vb vc vd ve vf))
 (none))
 (none))
 (K0 v0 v2 v3 v4 v5 v6 v7 v8 v9 va vb vc vd ve vf)
noncomputable def fano_row_1_j4 {R : Type} := shut (@fano_row_1_j4_B R)
theorem fano_row_1_j4_unf {R : Type} : @fano_row_1_j4 R = @fano_row_1_j4_B R := shut_eq _

noncomputable def fano_row_1_j8_B {R : Type} (v0 v1 : Int) (v2 : List Int) (v3 v4 v5 v6 v7 : Int) (v8 : List Int) (v9 : Int) (va : List Int) (vb : Bool) (vc : Nat) (vd : List Bool) (K0 : Bool → Int → Int → List Int → Int → Int → Int → Int → Int → List Int → Int → List Int → Bool → Nat → List Bool → Option R) : Option R :=
 K0 vb (addW .i64 v0 1) v1 v2 v3 v4 v5 v6 v7 v8 v9 va vb vc vd
noncomputable def fano_row_1_j8 {R : Type} := shut (@fano_row_1_j8_B R)
theorem fano_row_1_j8_unf {R : Type} : @fano_row_1_j8 R = @fano_row_1_j8_B R := shut_eq _

noncomputable def fano_row_1_j6_B {R : Type} (v0 v1 v2 : Int) (v3 : List Int) (v4 v5 v6 v7 v8 : Int) (v9 : List Int) (va : Int) (vb : List Int) (vc : Bool) (vd : Nat) (ve : List Bool) (K0 : Bool → Int → Int → List Int → Int → Int → Int → Int → Int → List Int → Int → List Int → Bool → Nat → List Bool → Option R) : Option R :=
 sel vc
 (sel (decide (0 ≤ v0))
 (sel (decide (v0 < (↑vd : Int)))
 (sel (decide (Int.toNat v0 < List.length ve))
 (letV (List.set ve (Int.toNat v0) true) (fun (vf : List Bool) =>
 fano_row_1_j8 v1 v2 v3 v4 v5 v6 v7 v8 v9 va vb vc vd vf
 K0))
 (none))
 (none))
 (none))
 (fano_row_1_j8 v1 v2 v3 v4 v5 v6 v7 v8 v9 va vb vc vd ve
 K0)
noncomputable def fano_row_1_j6 {R : Type} := shut (@fano_row_1_j6_B R)
theorem fano_row_1_j6_unf {R : Type} : @fano_row_1_j6 R = @fano_row_1_j6_B R := shut_eq _

noncomputable def fano_row_1_j5_B {R : Type} (v0 v1 v2 : Int) (v3 : List Int) (v4 v5 v6 v7 v8 : Int) (v9 : List Int) (va : Int) (vb : List Int) (_vc : Bool) (vd : Nat) (ve : List Bool) (K0 : Bool → Int → Int → List Int → Int → Int → Int → Int → Int → List Int → Int → List Int → Bool → Nat → List Bool → Option R) : Option R :=
 sel (decide (v1 < v5))
 (fano_row_1_j6 v0 v1 v2 v3 v4 v5 v6 v7 v8 v9 va vb (decide (v0 < v4)) vd ve
 K0)
 (fano_row_1_j6 v0 v1 v2 v3 v4 v5 v6 v7 v8 v9 va vb false vd ve
 K0)
noncomputable def fano_row_1_j5 {R : Type} := shut (@fano_row_1_j5_B R)
theorem fano_row_1_j5_unf {R : Type} : @fano_row_1_j5 R = @fano_row_1_j5_B R := shut_eq _

noncomputable def fano_row_1_r_B {R : Type} (v0 v1 v2 : Int) (v3 : List Int) (v4 v5 v6 v7 v8 : Int) (v9 : List Int) (va : Int) (vb : List Int) (vc : Bool) (vd : Nat) (ve : List Bool) (K0 : Bool → Int → Int → List Int → Int → Int → Int → Int → Int → List Int → Int → List Int → Bool → Nat → List Bool → Option R) : Option R :=
 sel (decide (0 ≤ v2))
 (sel (decide (0 < v2))
 (fano_row_1_j4 (shlW .i64 (subW .i64 v0 v1) v2) (decide (v1 < (↑(List.length v3) : Int))) v1 v2 v3 v4 v5 v6 v7 v8 v9 va vb vc vd ve
 (fun vf vg vh vi vj vk vl vm vn vo vp vq vr vs vt => fano_row_1_j5 vf vg vh vi vj vk vl vm vn vo vp vq vr vs vt
 K0))
 (fano_row_1_j4 (shlW .i64 (subW .i64 v0 v1) v2) false v1 v2 v3 v4 v5 v6 v7 v8 v9 va vb vc vd ve
 (fun v19 v1a v1b v1c v1d v1e v1f v1g v1h v1i v1j v1k v1l v1m v1n => fano_row_1_j5 v19 v1a v1b v1c v1d v1e v1f v1g v1h v1i v1j v1k v1l v1m v1n
 K0)))
 (none)
noncomputable def fano_row_1_r {R : Type} := shut (@fano_row_1_r_B R)
theorem fano_row_1_r_unf {R : Type} : @fano_row_1_r R = @fano_row_1_r_B R := shut_eq _

noncomputable def fano_eachOne_1_l4_1_T {R : Type} (rec : Int → Int → List Int → Int → Int → Int → Int → List Int → Int → Int → Int → Int → Int → List Int → Int → List Int → Bool → Nat → List Bool → Int → List Int → Option R) (v0 v1 : Int) (v2 : List Int) (v3 v4 v5 v6 : Int) (v7 : List Int) (v8 v9 va vb vc : Int) (vd : List Int) (ve : Int) (vf : List Int) (vg : Bool) (vh : Nat) (vi : List Bool) (vj : Int) (vk : List Int) (K0 : Int → Int → List Int → Int → Int → Int → Int → Int → List Int → Int → List Int → Bool → Nat → List Bool → Int → List Int → Option R) (K1 : List Int → Int → Int → Int → Int → List Int → Int → Int → Int → Int → Int → List Int → Int → List Int → Bool → Nat → List Bool → Int → List Int → Option R) : Option R :=
 sel (!decide (v1 = 0))
 (word_Select v1 0
 (fun vl => fano_row_1_r (addW .i64 (mulW .i64 v0 64) vl) v5 v6 v7 v8 v9 va vb vc vd ve vf vg vh vi
 (fun vm vn vo vp vq vr vs vt vu vv vw vx vy vz v10 => sel (!vm)
 (K0 vn vo vp vq vr vs vt vu vv vw vx vy vz v10 vj vk)
 (rec v0 (andW .u64 v1 (subW .u64 v1 1)) v2 v3 v4 vn vo vp vq vr vs vt vu vv vw vx vy vz v10 vj vk))))
 (K1 v2 v3 v4 v5 v6 v7 v8 v9 va vb vc vd ve vf vg vh vi vj vk)
noncomputable def fano_eachOne_1_l4_1_L {R : Type} (K0 : Int → Int → List Int → Int → Int → Int → Int → Int → List Int → Int → List Int → Bool → Nat → List Bool → Int → List Int → Option R) (K1 : List Int → Int → Int → Int → Int → List Int → Int → Int → Int → Int → Int → List Int → Int → List Int → Bool → Nat → List Bool → Int → List Int → Option R) : Nat → Int → Int → List Int → Int → Int → Int → Int → List Int → Int → Int → Int → Int → Int → List Int → Int → List Int → Bool → Nat → List Bool → Int → List Int → Option R
 | 0, _, _, _, _, _, _, _, _, _, _, _, _, _, _, _, _, _, _, _, _, _ => none
 | N + 1, v0, v1, v2, v3, v4, v5, v6, v7, v8, v9, va, vb, vc, vd, ve, vf, vg, vh, vi, vj, vk => fano_eachOne_1_l4_1_T (fano_eachOne_1_l4_1_L K0 K1 N) v0 v1 v2 v3 v4 v5 v6 v7 v8 v9 va vb vc vd ve vf vg vh vi vj vk K0 K1
noncomputable def fano_eachOne_1_l4_1_B {R : Type} (v0 v1 : Int) (v2 : List Int) (v3 v4 v5 v6 : Int) (v7 : List Int) (v8 v9 va vb vc : Int) (vd : List Int) (ve : Int) (vf : List Int) (vg : Bool) (vh : Nat) (vi : List Bool) (vj : Int) (vk : List Int) (K0 : Int → Int → List Int → Int → Int → Int → Int → Int → List Int → Int → List Int → Bool → Nat → List Bool → Int → List Int → Option R) (K1 : List Int → Int → Int → Int → Int → List Int → Int → Int → Int → Int → Int → List Int → Int → List Int → Bool → Nat → List Bool → Int → List Int → Option R) : Option R :=
 fano_eachOne_1_l4_1_L K0 K1 NR v0 v1 v2 v3 v4 v5 v6 v7 v8 v9 va vb vc vd ve vf vg vh vi vj vk
noncomputable def fano_eachOne_1_l4_1 {R : Type} := shut (@fano_eachOne_1_l4_1_B R)
theorem fano_eachOne_1_l4_1_unf {R : Type} : @fano_eachOne_1_l4_1 R = @fano_eachOne_1_l4_1_B R := shut_eq _

noncomputable def fano_eachOne_1_l2_1_T {R : Type} (rec : List Int → Int → Int → Int → Int → List Int → Int → Int → Int → Int → Int → List Int → Int → List Int → Bool → Nat → List Bool → Int → List Int → Option R) (v0 : List Int) (v1 v2 v3 v4 : Int) (v5 : List Int) (v6 v7 v8 v9 va : Int) (vb : List Int) (vc : Int) (vd : List Int) (ve : Bool) (vf : Nat) (vg : List Bool) (vh : Int) (vi : List Int) (K0 : Int → Int → List Int → Int → Int → Int → Int → Int → List Int → Int → List Int → Bool → Nat → List Bool → Int → List Int → Option R) (K1 : Int → Int → List Int → Int → Int → Int → Int → Int → List Int → Int → List Int → Bool → Nat → List Bool → Int → List Int → Option R) : Option R :=
 sel (decide (v2 < v1))
 (sel (decide (0 ≤ v2))
 (sel (decide (v2 < (↑(List.length v0) : Int)))
 (fano_eachOne_1_l4_1 v2 (List.getD v0 (Int.toNat v2) 0) v0 v1 v2 v3 v4 v5 v6 v7 v8 v9 va vb vc vd ve vf vg vh vi
 K0
 (fun vz v10 v11 v12 v13 v14 v15 v16 v17 v18 v19 v1a v1b v1c v1d v1e v1f v1g v1h => rec vz v10 (addW .i64 v11 1) v12 v13 v14 v15 v16 v17 v18 v19 v1a v1b v1c v1d v1e v1f v1g v1h))
 (none))
 (none))
 (K1 v3 v4 v5 v6 v7 v8 v9 va vb vc vd ve vf vg vh vi)
noncomputable def fano_eachOne_1_l2_1_L {R : Type} (K0 : Int → Int → List Int → Int → Int → Int → Int → Int → List Int → Int → List Int → Bool → Nat → List Bool → Int → List Int → Option R) (K1 : Int → Int → List Int → Int → Int → Int → Int → Int → List Int → Int → List Int → Bool → Nat → List Bool → Int → List Int → Option R) : Nat → List Int → Int → Int → Int → Int → List Int → Int → Int → Int → Int → Int → List Int → Int → List Int → Bool → Nat → List Bool → Int → List Int → Option R
 | 0, _, _, _, _, _, _, _, _, _, _, _, _, _, _, _, _, _, _, _ => none
 | N + 1, v0, v1, v2, v3, v4, v5, v6, v7, v8, v9, va, vb, vc, vd, ve, vf, vg, vh, vi => fano_eachOne_1_l2_1_T (fano_eachOne_1_l2_1_L K0 K1 N) v0 v1 v2 v3 v4 v5 v6 v7 v8 v9 va vb vc vd ve vf vg vh vi K0 K1
noncomputable def fano_eachOne_1_l2_1_B {R : Type} (v0 : List Int) (v1 v2 v3 v4 : Int) (v5 : List Int) (v6 v7 v8 v9 va : Int) (vb : List Int) (vc : Int) (vd : List Int) (ve : Bool) (vf : Nat) (vg : List Bool) (vh : Int) (vi : List Int) (K0 : Int → Int → List Int → Int → Int → Int → Int → Int → List Int → Int → List Int → Bool → Nat → List Bool → Int → List Int → Option R) (K1 : Int → Int → List Int → Int → Int → Int → Int → Int → List Int → Int → List Int → Bool → Nat → List Bool → Int → List Int → Option R) : Option R :=
 fano_eachOne_1_l2_1_L K0 K1 NR v0 v1 v2 v3 v4 v5 v6 v7 v8 v9 va vb vc vd ve vf vg vh vi
noncomputable def fano_eachOne_1_l2_1 {R : Type} := shut (@fano_eachOne_1_l2_1_B R)
theorem fano_eachOne_1_l2_1_unf {R : Type} : @fano_eachOne_1_l2_1 R = @fano_eachOne_1_l2_1_B R := shut_eq _

noncomputable def fano_eachOne_1_r_1_B {R : Type} (v0 v1 : Int) (v2 : List Int) (v3 v4 v5 v6 v7 : Int) (v8 : List Int) (v9 : Int) (va : List Int) (vb : Bool) (vc : Nat) (vd : List Bool) (ve : Int) (vf : List Int) (K0 : Int → Int → List Int → Int → Int → Int → Int → Int → List Int → Int → List Int → Bool → Nat → List Bool → Int → List Int → Option R) : Option R :=
 fano_eachOne_1_l2_1 vf ((↑(List.length vf) : Int)) 0 v0 v1 v2 v3 v4 v5 v6 v7 v8 v9 va vb vc vd ve vf
 K0
 K0
noncomputable def fano_eachOne_1_r_1 {R : Type} := shut (@fano_eachOne_1_r_1_B R)
theorem fano_eachOne_1_r_1_unf {R : Type} : @fano_eachOne_1_r_1 R = @fano_eachOne_1_r_1_B R := shut_eq _

noncomputable def slices_Equal_uint64_uint64_l5_T {R : Type} (rec : List Int → List Int → Int → Int → Option R) (v0 v1 : List Int) (v2 v3 : Int) (K0 : Bool → Option R) (K1 : Unit → Option R) : Option R :=
 sel (decide (v3 < v2))
 (sel (decide (0 ≤ v3))
 (sel (decide (v3 < (↑(List.length v0) : Int)))
 (sel (decide (0 ≤ v3))
 (sel (decide (v3 < (↑(List.length v1) : Int)))
 (sel (!decide (List.getD v0 (Int.toNat v3) 0 = List.getD v1 (Int.toNat v3) 0))
 (K0 false)
 (rec v0 v1 v2 (addW .i64 v3 1)))
 (none))
 (none))
 (none))
 (none))
 (K1 ())
noncomputable def slices_Equal_uint64_uint64_l5_L {R : Type} (K0 : Bool → Option R) (K1 : Unit → Option R) : Nat → List Int → List Int → Int → Int → Option R
 | 0, _, _, _, _ => none
 | N + 1, v0, v1, v2, v3 => slices_Equal_uint64_uint64_l5_T (slices_Equal_uint64_uint64_l5_L K0 K1 N) v0 v1 v2 v3 K0 K1
noncomputable def slices_Equal_uint64_uint64_l5_B {R : Type} (v0 v1 : List Int) (v2 v3 : Int) (K0 : Bool → Option R) (K1 : Unit → Option R) : Option R :=
 slices_Equal_uint64_uint64_l5_L K0 K1 NR v0 v1 v2 v3
noncomputable def slices_Equal_uint64_uint64_l5 {R : Type} := shut (@slices_Equal_uint64_uint64_l5_B R)
theorem slices_Equal_uint64_uint64_l5_unf {R : Type} : @slices_Equal_uint64_uint64_l5 R = @slices_Equal_uint64_uint64_l5_B R := shut_eq _

noncomputable def slices_Equal_uint64_uint64_B {R : Type} (v0 v1 : List Int) (K0 : Bool → Option R) : Option R :=
 sel (!decide ((↑(List.length v0) : Int) = (↑(List.length v1) : Int)))
 (K0 false)
 (slices_Equal_uint64_uint64_l5 v0 v1 ((↑(List.length v0) : Int)) 0
 (fun v2 => K0 v2)
 (fun _ => K0 true))
noncomputable def slices_Equal_uint64_uint64 {R : Type} := shut (@slices_Equal_uint64_uint64_B R)
theorem slices_Equal_uint64_uint64_unf {R : Type} : @slices_Equal_uint64_uint64 R = @slices_Equal_uint64_uint64_B R := shut_eq _

noncomputable def fano_row_j16_B {R : Type} (v0 : Bool) (v1 v2 : Int) (v3 : List Int) (K0 : Bool → Int → Option R) (K1 : Int → Int → List Int → Option R) : Option R :=
 sel v0
 (K0 false 0)
 (K1 v1 v2 v3)
noncomputable def fano_row_j16 {R : Type} := shut (@fano_row_j16_B R)
theorem fano_row_j16_unf {R : Type} : @fano_row_j16 R = @fano_row_j16_B R := shut_eq _

noncomputable def fano_row_j15_B {R : Type} (v0 : Int) (v1 : Bool) (v2 v3 : Int) (v4 : List Int) (K0 : Bool → Int → Option R) (K1 : Bool → Int → List Int → Option R) : Option R :=
 sel (!decide (v0 = 0))
 (fano_row_j16 true v2 v3 v4
 (fun v5 v6 => K0 v5 v6)
 (fun _ v8 v9 => K1 true v8 v9))
 (fano_row_j16 (!v1) v2 v3 v4
 (fun va vb => K0 va vb)
 (fun _ vd ve => K1 true vd ve))
noncomputable def fano_row_j15 {R : Type} := shut (@fano_row_j15_B R)
theorem fano_row_j15_unf {R : Type} : @fano_row_j15 R = @fano_row_j15_B R := shut_eq _

noncomputable def fano_row_j7_B {R : Type} (v0 v1 v2 v3 v4 : Int) (v5 : List Int) (v6 : Int) (v7 : List Int) (v8 v9 : Int) (va : List Int) (vb : Nat) (vc : List Bool) (K0 : Bool → Int → Option R) (K1 : Bool → Int → List Int → Option R) : Option R :=
 fano_eachOne_r v6 v7
 (fun vd ve => fano_eachOne_1_r_1 0 v9 va v0 v1 v2 v3 v4 v5 v6 v7 true vb vc vd ve
 (fun _ _ _ _ vj vk vl _ vn vo vp vq vr vs _ _ => sel (!vq)
 (K0 false 0)
 (sel (decide (vr = List.length vs))
 (sel (decide (vr = List.length vs))
 (bits_From vs
 (fun vv vw _ => fano_Build vv vw
 (fun _ vz v10 v11 _ v13 v14 v15 v16 => sel (decide (vj = vz))
 (sel (decide (vk = v10))
 (sel (decide (vl = v11))
 (slices_Equal_uint64_uint64 vn v13
 (fun v17 => sel v17
 (sel (decide (vo = v14))
 (slices_Equal_uint64_uint64 vp v15
 (fun v18 => fano_row_j15 v16 v18 v8 vv vw
 (fun v19 v1a => K0 v19 v1a)
 (fun v1b v1c v1d => K1 v1b v1c v1d)))
 (fano_row_j15 v16 false v8 vv vw
 (fun v1e v1f => K0 v1e v1f)
 (fun v1g v1h v1i => K1 v1g v1h v1i)))
 (fano_row_j15 v16 false v8 vv vw
 (fun v1j v1k => K0 v1j v1k)
 (fun v1l v1m v1n => K1 v1l v1m v1n))))
 (fano_row_j15 v16 false v8 vv vw
 (fun v1o v1p => K0 v1o v1p)
 (fun v1q v1r v1s => K1 v1q v1r v1s)))
 (fano_row_j15 v16 false v8 vv vw
 (fun v1t v1u => K0 v1t v1u)
 (fun v1v v1w v1x => K1 v1v v1w v1x)))
 (fano_row_j15 v16 false v8 vv vw
 (fun v1y v1z => K0 v1y v1z)
 (fun v20 v21 v22 => K1 v20 v21 v22)))))
 (none))
 (none))))
noncomputable def fano_row_j7 {R : Type} := shut (@fano_row_j7_B R)
theorem fano_row_j7_unf {R : Type} : @fano_row_j7 R = @fano_row_j7_B R := shut_eq _

noncomputable def fano_row_j4_B {R : Type} (v0 v1 v2 v3 v4 : Int) (v5 : List Int) (v6 : Int) (v7 : List Int) (v8 : Int) (K0 : Bool → Int → Option R) (K1 : Bool → Int → List Int → Option R) : Option R :=
 fano_width v0 v1
 (fun v9 => ints_List v2 v3 v4 v5
 (fun va => sel (decide (0 ≤ v0))
 (sel (decide (v0 ≤ v0))
 (sel (decide (v0 ≤ 281474976710656))
 (sel (decide ((↑1 : Int) * v0 ≤ 281474976710656))
 (letV (List.replicate (Int.toNat v0) false) (fun (vb : List Bool) =>
 fano_row_j7 v0 v1 v2 v3 v4 v5 v6 v7 v8 v9 va (Int.toNat v0) vb
 (fun vc vd => K0 vc vd)
 (fun ve vf vg => K1 ve vf vg)))
 (none))
 (none))
 (none))
 (none)))
noncomputable def fano_row_j4 {R : Type} := shut (@fano_row_j4_B R)
theorem fano_row_j4_unf {R : Type} : @fano_row_j4 R = @fano_row_j4_B R := shut_eq _

noncomputable def fano_row_B {R : Type} (v0 v1 v2 v3 v4 : Int) (v5 : List Int) (v6 : Int) (v7 : List Int) (K0 : Int → List Int → Bool → Option R) : Option R :=
 sel (decide (v0 < 0))
 (fano_row_j3 true v0 v1 v2 v3 v4 v5 v6 v7 0
 (fun v8 v9 => K0 v9 [] v8)
 (fun va vb vc vd ve vf vg vh vi => fano_row_j4 va vb vc vd ve vf vg vh vi
 (fun vj vk => K0 vk [] vj)
 (fun vl vm vn => K0 vm vn vl)))
 (sel (decide (1048576 < v0))
 (fano_row_j3 true v0 v1 v2 v3 v4 v5 v6 v7 0
 (fun vo vp => K0 vp [] vo)
 (fun vq vr vs vt vu vv vw vx vy => fano_row_j4 vq vr vs vt vu vv vw vx vy
 (fun vz v10 => K0 v10 [] vz)
 (fun v11 v12 v13 => K0 v12 v13 v11)))
 (sel (decide (v1 < 0))
 (fano_row_j3 true v0 v1 v2 v3 v4 v5 v6 v7 0
 (fun v14 v15 => K0 v15 [] v14)
 (fun v16 v17 v18 v19 v1a v1b v1c v1d v1e => fano_row_j4 v16 v17 v18 v19 v1a v1b v1c v1d v1e
 (fun v1f v1g => K0 v1g [] v1f)
 (fun v1h v1i v1j => K0 v1i v1j v1h)))
 (sel (decide (v0 < v1))
 (fano_row_j3 true v0 v1 v2 v3 v4 v5 v6 v7 0
 (fun v1k v1l => K0 v1l [] v1k)
 (fun v1m v1n v1o v1p v1q v1r v1s v1t v1u => fano_row_j4 v1m v1n v1o v1p v1q v1r v1s v1t v1u
 (fun v1v v1w => K0 v1w [] v1v)
 (fun v1x v1y v1z => K0 v1y v1z v1x)))
 (ints_Check v2 v3 v4 v5
 (fun v20 => sel (!v20)
 (fano_row_j3 true v0 v1 v2 v3 v4 v5 v6 v7 0
 (fun v21 v22 => K0 v22 [] v21)
 (fun v23 v24 v25 v26 v27 v28 v29 v2a v2b => fano_row_j4 v23 v24 v25 v26 v27 v28 v29 v2a v2b
 (fun v2c v2d => K0 v2d [] v2c)
 (fun v2e v2f v2g => K0 v2f v2g v2e)))
 (bits_Check v6 v7
 (fun v2h => fano_row_j3 (!v2h) v0 v1 v2 v3 v4 v5 v6 v7 0
 (fun v2i v2j => K0 v2j [] v2i)
 (fun v2k v2l v2m v2n v2o v2p v2q v2r v2s => fano_row_j4 v2k v2l v2m v2n v2o v2p v2q v2r v2s
 (fun v2t v2u => K0 v2u [] v2t)
 (fun v2v v2w v2x => K0 v2w v2x v2v)))))))))
noncomputable def fano_row {R : Type} := shut (@fano_row_B R)
theorem fano_row_unf {R : Type} : @fano_row R = @fano_row_B R := shut_eq _

noncomputable def fano_Check_B {R : Type} (v0 v1 v2 v3 v4 : Int) (v5 : List Int) (v6 : Int) (v7 : List Int) (K0 : Bool → Option R) : Option R :=
 fano_row v0 v1 v2 v3 v4 v5 v6 v7
 (fun _ _ va => K0 va)
noncomputable def fano_Check {R : Type} := shut (@fano_Check_B R)
theorem fano_Check_unf {R : Type} : @fano_Check R = @fano_Check_B R := shut_eq _

noncomputable def fano_place_l5_T {R : Type} (rec : Int → Int → Int → Int → List Int → Int → Int → Int → Int → Int → Int → Int → List Int → Int → List Int → Option R) (v0 v1 v2 v3 : Int) (v4 : List Int) (v5 v6 v7 v8 v9 va vb : Int) (vc : List Int) (vd : Int) (ve : List Int) (K0 : Int → Int → Int → Int → Int → Int → Int → Int → List Int → Int → List Int → Option R) : Option R :=
 sel (decide (v6 < v5))
 (sel (decide (0 ≤ v6))
 (sel (decide (v6 < (↑(List.length v4) : Int)))
 (word_Pop (List.getD v4 (Int.toNat v6) 0)
 (fun vf => sel (decide (vf ≤ v2))
 (rec v0 v1 (subW .i64 v2 vf) (addW .i64 v3 64) v4 v5 (addW .i64 v6 1) v7 v8 v9 va vb vc vd ve)
 (word_Select (List.getD v4 (Int.toNat v6) 0) v2
 (fun vg => K0 v0 v1 (addW .i64 v3 vg) v7 v8 v9 va vb vc vd ve))))
 (none))
 (none))
 (K0 v0 v1 v3 v7 v8 v9 va vb vc vd ve)
noncomputable def fano_place_l5_L {R : Type} (K0 : Int → Int → Int → Int → Int → Int → Int → Int → List Int → Int → List Int → Option R) : Nat → Int → Int → Int → Int → List Int → Int → Int → Int → Int → Int → Int → Int → List Int → Int → List Int → Option R
 | 0, _, _, _, _, _, _, _, _, _, _, _, _, _, _, _ => none
 | N + 1, v0, v1, v2, v3, v4, v5, v6, v7, v8, v9, va, vb, vc, vd, ve => fano_place_l5_T (fano_place_l5_L K0 N) v0 v1 v2 v3 v4 v5 v6 v7 v8 v9 va vb vc vd ve K0
noncomputable def fano_place_l5_B {R : Type} (v0 v1 v2 v3 : Int) (v4 : List Int) (v5 v6 v7 v8 v9 va vb : Int) (vc : List Int) (vd : Int) (ve : List Int) (K0 : Int → Int → Int → Int → Int → Int → Int → Int → List Int → Int → List Int → Option R) : Option R :=
 fano_place_l5_L K0 NR v0 v1 v2 v3 v4 v5 v6 v7 v8 v9 va vb vc vd ve
noncomputable def fano_place_l5 {R : Type} := shut (@fano_place_l5_B R)
theorem fano_place_l5_unf {R : Type} : @fano_place_l5 R = @fano_place_l5_B R := shut_eq _

noncomputable def ints_has_j5_B {R : Type} (v0 : Bool) (K0 : Int → Option R) (K1 : Unit → Option R) : Option R :=
 sel v0
 (K0 3)
 (K1 ())
noncomputable def ints_has_j5 {R : Type} := shut (@ints_has_j5_B R)
theorem ints_has_j5_unf {R : Type} : @ints_has_j5 R = @ints_has_j5_B R := shut_eq _

noncomputable def ints_has_B {R : Type} (v0 v1 v2 : Int) (v3 : List Int) (v4 : Int) (K0 : Int → Option R) (K1 : Unit → Option R) : Option R :=
 ints_Check v0 v1 v2 v3
 (fun v5 => sel (!v5)
 (K0 2)
 (sel (decide (v4 < 0))
 (ints_has_j5 true
 (fun v6 => K0 v6)
 (fun _ => K1 ()))
 (ints_has_j5 (decide (v0 ≤ v4))
 (fun v7 => K0 v7)
 (fun _ => K1 ()))))
noncomputable def ints_has {R : Type} := shut (@ints_has_B R)
theorem ints_has_unf {R : Type} : @ints_has R = @ints_has_B R := shut_eq _

noncomputable def ints_Get_B {R : Type} (v0 v1 v2 : Int) (v3 : List Int) (v4 : Int) (K0 : Int → Int → Option R) : Option R :=
 ints_has v0 v1 v2 v3 v4
 (fun v5 => K0 0 v5)
 (fun _ => bits_Slice v2 v3 (mulW .i64 v4 v1) v1
 (fun v6 v7 => K0 v6 v7))
noncomputable def ints_Get {R : Type} := shut (@ints_Get_B R)
theorem ints_Get_unf {R : Type} : @ints_Get R = @ints_Get_B R := shut_eq _

noncomputable def fano_place_B {R : Type} (v0 v1 v2 v3 v4 : Int) (v5 : List Int) (v6 : Int) (v7 : List Int) (v8 : Int) (K0 : Int → Option R) : Option R :=
 fano_width v0 v1
 (fun v9 => fano_place_l5 v8 v9 v8 0 v7 ((↑(List.length v7) : Int)) 0 v0 v1 v2 v3 v4 v5 v6 v7
 (fun va vb vc _ _ vf vg vh vi _ _ => sel (decide (0 ≤ vb))
 (sel (decide (0 < vb))
 (ints_Get vf vg vh vi va
 (fun vl _ => K0 (orW .i64 (shlW .i64 (subW .i64 vc va) vb) (cvtW .i64 vl))))
 (K0 (shlW .i64 (subW .i64 vc va) vb)))
 (none)))
noncomputable def fano_place {R : Type} := shut (@fano_place_B R)
theorem fano_place_unf {R : Type} : @fano_place R = @fano_place_B R := shut_eq _

noncomputable def fano_ones_l3_T {R : Type} (rec : Int → Int → Int → Int → Int → Int → Int → Int → List Int → Int → List Int → Option R) (v0 v1 v2 v3 v4 v5 v6 v7 : Int) (v8 : List Int) (v9 : Int) (va : List Int) (K0 : Int → Option R) : Option R :=
 sel (decide (v1 < v2))
 (fano_place v3 v4 v5 v6 v7 v8 v9 va (quoW .i64 (addW .i64 v1 v2) 2)
 (fun vb => sel (decide (vb < v0))
 (rec v0 (addW .i64 (quoW .i64 (addW .i64 v1 v2) 2) 1) v2 v3 v4 v5 v6 v7 v8 v9 va)
 (rec v0 v1 (quoW .i64 (addW .i64 v1 v2) 2) v3 v4 v5 v6 v7 v8 v9 va)))
 (K0 v1)
noncomputable def fano_ones_l3_L {R : Type} (K0 : Int → Option R) : Nat → Int → Int → Int → Int → Int → Int → Int → Int → List Int → Int → List Int → Option R
 | 0, _, _, _, _, _, _, _, _, _, _, _ => none
 | N + 1, v0, v1, v2, v3, v4, v5, v6, v7, v8, v9, va => fano_ones_l3_T (fano_ones_l3_L K0 N) v0 v1 v2 v3 v4 v5 v6 v7 v8 v9 va K0
noncomputable def fano_ones_l3_B {R : Type} (v0 v1 v2 v3 v4 v5 v6 v7 : Int) (v8 : List Int) (v9 : Int) (va : List Int) (K0 : Int → Option R) : Option R :=
 fano_ones_l3_L K0 NR v0 v1 v2 v3 v4 v5 v6 v7 v8 v9 va
noncomputable def fano_ones_l3 {R : Type} := shut (@fano_ones_l3_B R)
theorem fano_ones_l3_unf {R : Type} : @fano_ones_l3 R = @fano_ones_l3_B R := shut_eq _

noncomputable def fano_ones_B {R : Type} (v0 v1 v2 v3 v4 : Int) (v5 : List Int) (v6 : Int) (v7 : List Int) (v8 : Int) (K0 : Int → Option R) : Option R :=
 fano_ones_l3 v8 0 v1 v0 v1 v2 v3 v4 v5 v6 v7
 (fun v9 => K0 v9)
noncomputable def fano_ones {R : Type} := shut (@fano_ones_B R)
theorem fano_ones_unf {R : Type} : @fano_ones R = @fano_ones_B R := shut_eq _

noncomputable def fano_Access_j6_B {R : Type} (v0 v1 v2 v3 v4 v5 : Int) (v6 : List Int) (v7 : Int) (v8 : List Int) (K0 : Bool → Int → Option R) : Option R :=
 fano_ones v1 v2 v3 v4 v5 v6 v7 v8 (addW .i64 v0 1)
 (fun v9 => fano_ones v1 v2 v3 v4 v5 v6 v7 v8 v0
 (fun va => K0 (decide (va < v9)) 0))
noncomputable def fano_Access_j6 {R : Type} := shut (@fano_Access_j6_B R)
theorem fano_Access_j6_unf {R : Type} : @fano_Access_j6 R = @fano_Access_j6_B R := shut_eq _

noncomputable def fano_Access_B {R : Type} (v0 v1 v2 v3 v4 : Int) (v5 : List Int) (v6 : Int) (v7 : List Int) (v8 : Int) (K0 : Bool → Int → Option R) : Option R :=
 fano_Check v0 v1 v2 v3 v4 v5 v6 v7
 (fun v9 => sel (!v9)
 (K0 false 2)
 (sel (decide (v8 < 0))
 (K0 false 3)
 (sel (decide (v0 ≤ v8))
 (K0 false 3)
 (fano_Access_j6 v8 v0 v1 v2 v3 v4 v5 v6 v7
 (fun va vb => K0 va vb)))))
noncomputable def fano_Access {R : Type} := shut (@fano_Access_B R)
theorem fano_Access_unf {R : Type} : @fano_Access R = @fano_Access_B R := shut_eq _

noncomputable def fano_Rank_j6_B {R : Type} (v0 : Bool) (v1 v2 v3 v4 v5 v6 : Int) (v7 : List Int) (v8 : Int) (v9 : List Int) (K0 : Int → Int → Option R) : Option R :=
 fano_ones v2 v3 v4 v5 v6 v7 v8 v9 v1
 (fun va => sel (!v0)
 (K0 (subW .i64 v1 va) 0)
 (K0 va 0))
noncomputable def fano_Rank_j6 {R : Type} := shut (@fano_Rank_j6_B R)
theorem fano_Rank_j6_unf {R : Type} : @fano_Rank_j6 R = @fano_Rank_j6_B R := shut_eq _

noncomputable def fano_Rank_B {R : Type} (v0 v1 v2 v3 v4 : Int) (v5 : List Int) (v6 : Int) (v7 : List Int) (v8 : Bool) (v9 : Int) (K0 : Int → Int → Option R) : Option R :=
 fano_Check v0 v1 v2 v3 v4 v5 v6 v7
 (fun va => sel (!va)
 (K0 0 2)
 (sel (decide (v9 < 0))
 (K0 0 3)
 (sel (decide (v0 < v9))
 (K0 0 3)
 (fano_Rank_j6 v8 v9 v0 v1 v2 v3 v4 v5 v6 v7
 (fun vb vc => K0 vb vc)))))
noncomputable def fano_Rank {R : Type} := shut (@fano_Rank_B R)
theorem fano_Rank_unf {R : Type} : @fano_Rank R = @fano_Rank_B R := shut_eq _

noncomputable def fano_Select_j8_B {R : Type} (v0 : Bool) (v1 : Int) (v2 : Bool) (v3 v4 v5 v6 v7 : Int) (v8 : List Int) (v9 : Int) (va : List Int) (K0 : Int → Int → Option R) (K1 : Int → Int → Int → Int → Int → Int → List Int → Int → List Int → Option R) : Option R :=
 sel v2
 (K0 0 3)
 (sel v0
 (fano_place v3 v4 v5 v6 v7 v8 v9 va v1
 (fun vb => K0 vb 0))
 (K1 v1 v3 v4 v5 v6 v7 v8 v9 va))
noncomputable def fano_Select_j8 {R : Type} := shut (@fano_Select_j8_B R)
theorem fano_Select_j8_unf {R : Type} : @fano_Select_j8 R = @fano_Select_j8_B R := shut_eq _

noncomputable def fano_Select_l12_T {R : Type} (rec : Int → Int → Int → Int → Int → Int → Int → Int → List Int → Int → List Int → Option R) (v0 v1 v2 v3 v4 v5 v6 v7 : Int) (v8 : List Int) (v9 : Int) (va : List Int) (K0 : Int → Option R) : Option R :=
 sel (decide (v1 < v2))
 (fano_ones v3 v4 v5 v6 v7 v8 v9 va (addW .i64 (quoW .i64 (addW .i64 v1 v2) 2) 1)
 (fun vb => sel (decide (subW .i64 (addW .i64 (quoW .i64 (addW .i64 v1 v2) 2) 1) vb ≤ v0))
 (rec v0 (addW .i64 (quoW .i64 (addW .i64 v1 v2) 2) 1) v2 v3 v4 v5 v6 v7 v8 v9 va)
 (rec v0 v1 (quoW .i64 (addW .i64 v1 v2) 2) v3 v4 v5 v6 v7 v8 v9 va)))
 (K0 v1)
noncomputable def fano_Select_l12_L {R : Type} (K0 : Int → Option R) : Nat → Int → Int → Int → Int → Int → Int → Int → Int → List Int → Int → List Int → Option R
 | 0, _, _, _, _, _, _, _, _, _, _, _ => none
 | N + 1, v0, v1, v2, v3, v4, v5, v6, v7, v8, v9, va => fano_Select_l12_T (fano_Select_l12_L K0 N) v0 v1 v2 v3 v4 v5 v6 v7 v8 v9 va K0
noncomputable def fano_Select_l12_B {R : Type} (v0 v1 v2 v3 v4 v5 v6 v7 : Int) (v8 : List Int) (v9 : Int) (va : List Int) (K0 : Int → Option R) : Option R :=
 fano_Select_l12_L K0 NR v0 v1 v2 v3 v4 v5 v6 v7 v8 v9 va
noncomputable def fano_Select_l12 {R : Type} := shut (@fano_Select_l12_B R)
theorem fano_Select_l12_unf {R : Type} : @fano_Select_l12 R = @fano_Select_l12_B R := shut_eq _

noncomputable def fano_Select_j11_B {R : Type} (v0 v1 v2 v3 v4 v5 : Int) (v6 : List Int) (v7 : Int) (v8 : List Int) (K0 : Int → Int → Option R) : Option R :=
 fano_Select_l12 v0 0 (subW .i64 v1 1) v1 v2 v3 v4 v5 v6 v7 v8
 (fun v9 => K0 v9 0)
noncomputable def fano_Select_j11 {R : Type} := shut (@fano_Select_j11_B R)
theorem fano_Select_j11_unf {R : Type} : @fano_Select_j11 R = @fano_Select_j11_B R := shut_eq _

noncomputable def fano_Select_j5_B {R : Type} (v0 : Bool) (v1 v2 v3 v4 v5 v6 v7 : Int) (v8 : List Int) (v9 : Int) (va : List Int) (K0 : Int → Int → Option R) : Option R :=
 fano_Check v3 v4 v5 v6 v7 v8 v9 va
 (fun vb => sel (!vb)
 (K0 0 2)
 (sel (decide (v1 < 0))
 (fano_Select_j8 v0 v1 true v3 v4 v5 v6 v7 v8 v9 va
 (fun vc vd => K0 vc vd)
 (fun ve vf vg vh vi vj vk vl vm => fano_Select_j11 ve vf vg vh vi vj vk vl vm
 (fun vn vo => K0 vn vo)))
 (fano_Select_j8 v0 v1 (decide (v2 ≤ v1)) v3 v4 v5 v6 v7 v8 v9 va
 (fun vp vq => K0 vp vq)
 (fun vr vs vt vu vv vw vx vy vz => fano_Select_j11 vr vs vt vu vv vw vx vy vz
 (fun v10 v11 => K0 v10 v11)))))
noncomputable def fano_Select_j5 {R : Type} := shut (@fano_Select_j5_B R)
theorem fano_Select_j5_unf {R : Type} : @fano_Select_j5 R = @fano_Select_j5_B R := shut_eq _

noncomputable def fano_Select_B {R : Type} (v0 v1 v2 v3 v4 : Int) (v5 : List Int) (v6 : Int) (v7 : List Int) (v8 : Bool) (v9 : Int) (K0 : Int → Int → Option R) : Option R :=
 sel (!v8)
 (fano_Select_j5 v8 v9 (subW .i64 v0 v1) v0 v1 v2 v3 v4 v5 v6 v7
 (fun va vb => K0 va vb))
 (fano_Select_j5 v8 v9 v1 v0 v1 v2 v3 v4 v5 v6 v7
 (fun vc vd => K0 vc vd))
noncomputable def fano_Select {R : Type} := shut (@fano_Select_B R)
theorem fano_Select_unf {R : Type} : @fano_Select R = @fano_Select_B R := shut_eq _

noncomputable def fano_Size_B {R : Type} (v0 v1 v2 v3 v4 : Int) (v5 : List Int) (v6 : Int) (v7 : List Int) (K0 : Int → Option R) : Option R :=
 fano_Check v0 v1 v2 v3 v4 v5 v6 v7
 (fun v8 => sel (!v8)
 (K0 0)
 (K0 (addW .i64 (addW .i64 v4 v6) 64)))
noncomputable def fano_Size {R : Type} := shut (@fano_Size_B R)
theorem fano_Size_unf {R : Type} : @fano_Size R = @fano_Size_B R := shut_eq _

noncomputable def fano_Bits_B {R : Type} (v0 v1 v2 v3 v4 : Int) (v5 : List Int) (v6 : Int) (v7 : List Int) (K0 : Int → List Int → Option R) : Option R :=
 fano_row v0 v1 v2 v3 v4 v5 v6 v7
 (fun v8 v9 _ => K0 v8 v9)
noncomputable def fano_Bits {R : Type} := shut (@fano_Bits_B R)
theorem fano_Bits_unf {R : Type} : @fano_Bits R = @fano_Bits_B R := shut_eq _

noncomputable def haystackref02_Same_l5_T {R : Type} (rec : Int → Int → List Int → Int → List Int → Option R) (v0 v1 : Int) (v2 : List Int) (v3 : Int) (v4 : List Int) (K0 : Bool → Option R) (K1 : Unit → Option R) : Option R :=
 sel (decide (v0 < (↑(List.length v2) : Int)))
 (sel (decide (0 ≤ v0))
 (sel (decide (v0 < (↑(List.length v2) : Int)))
 (sel (decide (0 ≤ v0))
 (sel (decide (v0 < (↑(List.length v4) : Int)))
 (sel (!decide (List.getD v2 (Int.toNat v0) 0 = List.getD v4 (Int.toNat v0) 0))
 (K0 false)
 (rec (addW .i64 v0 1) v1 v2 v3 v4))
 (none))
 (none))
 (none))
 (none))
 (K1 ())
noncomputable def haystackref02_Same_l5_L {R : Type} (K0 : Bool → Option R) (K1 : Unit → Option R) : Nat → Int → Int → List Int → Int → List Int → Option R
 | 0, _, _, _, _, _ => none
 | N + 1, v0, v1, v2, v3, v4 => haystackref02_Same_l5_T (haystackref02_Same_l5_L K0 K1 N) v0 v1 v2 v3 v4 K0 K1
noncomputable def haystackref02_Same_l5_B {R : Type} (v0 v1 : Int) (v2 : List Int) (v3 : Int) (v4 : List Int) (K0 : Bool → Option R) (K1 : Unit → Option R) : Option R :=
 haystackref02_Same_l5_L K0 K1 NR v0 v1 v2 v3 v4
noncomputable def haystackref02_Same_l5 {R : Type} := shut (@haystackref02_Same_l5_B R)
theorem haystackref02_Same_l5_unf {R : Type} : @haystackref02_Same_l5 R = @haystackref02_Same_l5_B R := shut_eq _

noncomputable def haystackref02_Same_j4_B {R : Type} (v0 : Int) (v1 : List Int) (v2 : Int) (v3 : List Int) (K0 : Bool → Option R) : Option R :=
 haystackref02_Same_l5 0 v0 v1 v2 v3
 (fun v4 => K0 v4)
 (fun _ => K0 true)
noncomputable def haystackref02_Same_j4 {R : Type} := shut (@haystackref02_Same_j4_B R)
theorem haystackref02_Same_j4_unf {R : Type} : @haystackref02_Same_j4 R = @haystackref02_Same_j4_B R := shut_eq _

noncomputable def haystackref02_Same_B {R : Type} (v0 : Int) (v1 : List Int) (v2 : Int) (v3 : List Int) (K0 : Bool → Option R) : Option R :=
 sel (!decide (v0 = v2))
 (K0 false)
 (sel (!decide ((↑(List.length v1) : Int) = (↑(List.length v3) : Int)))
 (K0 false)
 (haystackref02_Same_j4 v0 v1 v2 v3
 (fun v4 => K0 v4)))
noncomputable def haystackref02_Same {R : Type} := shut (@haystackref02_Same_B R)
theorem haystackref02_Same_unf {R : Type} : @haystackref02_Same R = @haystackref02_Same_B R := shut_eq _

noncomputable def haystacklaw09_heads_j4_B {R : Type} (v0 : Int) (v1 : Bool) (v2 v3 v4 v5 v6 v7 : Int) (v8 : List Int) (v9 : Int) (va : List Int) (K0 : Bool → Option R) : Option R :=
 fano_Rank v3 v4 v5 v6 v7 v8 v9 va true 4
 (fun vb vc => fano_Select v3 v4 v5 v6 v7 v8 v9 va true 2
 (fun vd ve => fano_Select v3 v4 v5 v6 v7 v8 v9 va false 1
 (fun vf vg => fano_Select v3 v4 v5 v6 v7 v8 v9 va true 3
 (fun _ vi => fano_Build 1 []
 (fun _ _ _ _ _ _ _ _ vr => sel (decide (v0 = 0))
 (sel v1
 (sel (decide (v2 = 0))
 (sel (decide (vb = 2))
 (sel (decide (vc = 0))
 (sel (decide (vd = 4))
 (sel (decide (ve = 0))
 (sel (decide (vf = 3))
 (sel (decide (vg = 0))
 (sel (decide (vi = 3))
 (sel (decide (vr = 2))
 (fano_Check v3 v4 v5 v6 v7 v8 v9 va
 (fun vs => sel vs
 (fano_Size v3 v4 v5 v6 v7 v8 v9 va
 (fun vt => sel (decide (0 < vt))
 (fano_Bits v3 v4 v5 v6 v7 v8 v9 va
 (fun vu vv => haystackref02_Same vu vv 5 ([22])
 (fun vw => K0 vw)))
 (none)))
 (none)))
 (none))
 (none))
 (none))
 (none))
 (none))
 (none))
 (none))
 (none))
 (none))
 (none))
 (none))))))
noncomputable def haystacklaw09_heads_j4 {R : Type} := shut (@haystacklaw09_heads_j4_B R)
theorem haystacklaw09_heads_j4_unf {R : Type} : @haystacklaw09_heads_j4 R = @haystacklaw09_heads_j4_B R := shut_eq _

noncomputable def haystacklaw09_heads_B {R : Type} (K0 : Bool → Option R) : Option R :=
 fano_Build 5 ([22])
 (fun v0 v1 v2 v3 v4 v5 v6 v7 v8 => fano_Access v0 v1 v2 v3 v4 v5 v6 v7 4
 (fun v9 va => haystacklaw09_heads_j4 v8 v9 va v0 v1 v2 v3 v4 v5 v6 v7
 (fun vb => K0 vb)))
noncomputable def haystacklaw09_heads {R : Type} := shut (@haystacklaw09_heads_B R)
theorem haystacklaw09_heads_unf {R : Type} : @haystacklaw09_heads R = @haystacklaw09_heads_B R := shut_eq _

noncomputable def haystackref02_Words_B {R : Type} (v0 : Int) (K0 : Int → Option R) : Option R :=
 K0 (quoW .i64 (addW .i64 v0 63) 64)
noncomputable def haystackref02_Words {R : Type} := shut (@haystackref02_Words_B R)
theorem haystackref02_Words_unf {R : Type} : @haystackref02_Words R = @haystackref02_Words_B R := shut_eq _

noncomputable def haystackref01_Mask_j6_B {R : Type} (v0 v1 v2 : Int) (K0 : Int → Int → Int → Option R) : Option R :=
 sel (decide (0 ≤ cvtW .u64 v2))
 (K0 v0 (orW .u64 v1 (shlW .u64 1 (cvtW .u64 v2))) (addW .i64 v2 1))
 (none)
noncomputable def haystackref01_Mask_j6 {R : Type} := shut (@haystackref01_Mask_j6_B R)
theorem haystackref01_Mask_j6_unf {R : Type} : @haystackref01_Mask_j6 R = @haystackref01_Mask_j6_B R := shut_eq _

noncomputable def haystackref01_Mask_l4_T {R : Type} (rec : Int → Int → Int → Option R) (v0 v1 v2 : Int) (K0 : Int → Option R) : Option R :=
 sel (decide (v2 < 64))
 (sel (decide (v2 < v0))
 (haystackref01_Mask_j6 v0 v1 v2
 (fun v3 v4 v5 => rec v3 v4 v5))
 (K0 v1))
 (K0 v1)
noncomputable def haystackref01_Mask_l4_L {R : Type} (K0 : Int → Option R) : Nat → Int → Int → Int → Option R
 | 0, _, _, _ => none
 | N + 1, v0, v1, v2 => haystackref01_Mask_l4_T (haystackref01_Mask_l4_L K0 N) v0 v1 v2 K0
noncomputable def haystackref01_Mask_l4_B {R : Type} (v0 v1 v2 : Int) (K0 : Int → Option R) : Option R :=
 haystackref01_Mask_l4_L K0 NR v0 v1 v2
noncomputable def haystackref01_Mask_l4 {R : Type} := shut (@haystackref01_Mask_l4_B R)
theorem haystackref01_Mask_l4_unf {R : Type} : @haystackref01_Mask_l4 R = @haystackref01_Mask_l4_B R := shut_eq _

noncomputable def haystackref01_Mask_B {R : Type} (v0 : Int) (K0 : Int → Option R) : Option R :=
 haystackref01_Mask_l4 v0 0 0
 (fun v1 => K0 v1)
noncomputable def haystackref01_Mask {R : Type} := shut (@haystackref01_Mask_B R)
theorem haystackref01_Mask_unf {R : Type} : @haystackref01_Mask R = @haystackref01_Mask_B R := shut_eq _

noncomputable def haystackref02_Check_j4_B {R : Type} (v0 : Int) (v1 : List Int) (K0 : Bool → Option R) : Option R :=
 sel (decide (remW v0 64 = 0))
 (K0 true)
 (sel (decide (0 ≤ subW .i64 (↑(List.length v1) : Int) 1))
 (sel (decide (subW .i64 (↑(List.length v1) : Int) 1 < (↑(List.length v1) : Int)))
 (haystackref01_Mask (remW v0 64)
 (fun v2 => letV (decide (andNotW .u64 (List.getD v1 (Int.toNat (subW .i64 (↑(List.length v1) : Int) 1)) 0) v2 = 0)) (fun (v3 : Bool) =>
 K0 v3)))
 (none))
 (none))
noncomputable def haystackref02_Check_j4 {R : Type} := shut (@haystackref02_Check_j4_B R)
theorem haystackref02_Check_j4_unf {R : Type} : @haystackref02_Check_j4 R = @haystackref02_Check_j4_B R := shut_eq _

noncomputable def haystackref02_Check_B {R : Type} (v0 : Int) (v1 : List Int) (K0 : Bool → Option R) : Option R :=
 sel (decide (v0 < 0))
 (K0 false)
 (sel (decide (1048576 < v0))
 (K0 false)
 (haystackref02_Words v0
 (fun v2 => sel (!decide ((↑(List.length v1) : Int) = v2))
 (K0 false)
 (haystackref02_Check_j4 v0 v1
 (fun v3 => K0 v3)))))
noncomputable def haystackref02_Check {R : Type} := shut (@haystackref02_Check_B R)
theorem haystackref02_Check_unf {R : Type} : @haystackref02_Check R = @haystackref02_Check_B R := shut_eq _

noncomputable def haystackref02_At_B {R : Type} (_v0 : Int) (v1 : List Int) (v2 : Int) (K0 : Bool → Option R) : Option R :=
 sel (decide (0 ≤ quoW .i64 v2 64))
 (sel (decide (quoW .i64 v2 64 < (↑(List.length v1) : Int)))
 (sel (decide (0 ≤ cvtW .u64 (remW v2 64)))
 (letV (decide (remW (shrW .u64 (List.getD v1 (Int.toNat (quoW .i64 v2 64)) 0) (cvtW .u64 (remW v2 64))) 2 = 1)) (fun (v3 : Bool) =>
 K0 v3))
 (none))
 (none))
 (none)
noncomputable def haystackref02_At {R : Type} := shut (@haystackref02_At_B R)
theorem haystackref02_At_unf {R : Type} : @haystackref02_At R = @haystackref02_At_B R := shut_eq _

noncomputable def haystackref09_places_l4_T {R : Type} (rec : Nat → Int → Int → List Int → List Int → Option R) (v0 : Nat) (v1 v2 : Int) (v3 v4 : List Int) (K0 : Nat → List Int → Option R) : Option R :=
 sel (decide (v1 < v2))
 (haystackref02_At v2 v3 v1
 (fun v5 => sel v5
 (sel (decide (List.length v4 = v0))
 (sel (decide ((v0 + 1) * 8 ≤ 140737488355328))
 (letV (v4 ++ [v1]) (fun (v6 : List Int) =>
 rec (v0 + 1) (addW .i64 v1 1) v2 v3 v6))
 (none))
 (none))
 (rec v0 (addW .i64 v1 1) v2 v3 v4)))
 (K0 v0 v4)
noncomputable def haystackref09_places_l4_L {R : Type} (K0 : Nat → List Int → Option R) : Nat → Nat → Int → Int → List Int → List Int → Option R
 | 0, _, _, _, _, _ => none
 | N + 1, v0, v1, v2, v3, v4 => haystackref09_places_l4_T (haystackref09_places_l4_L K0 N) v0 v1 v2 v3 v4 K0
noncomputable def haystackref09_places_l4_B {R : Type} (v0 : Nat) (v1 v2 : Int) (v3 v4 : List Int) (K0 : Nat → List Int → Option R) : Option R :=
 haystackref09_places_l4_L K0 NR v0 v1 v2 v3 v4
noncomputable def haystackref09_places_l4 {R : Type} := shut (@haystackref09_places_l4_B R)
theorem haystackref09_places_l4_unf {R : Type} : @haystackref09_places_l4 R = @haystackref09_places_l4_B R := shut_eq _

noncomputable def haystackref09_places_B {R : Type} (v0 : Int) (v1 : List Int) (K0 : List Int → Option R) : Option R :=
 haystackref09_places_l4 0 0 v0 v1 []
 (fun v2 v3 => sel (decide (v2 = List.length v3))
 (K0 v3)
 (none))
noncomputable def haystackref09_places {R : Type} := shut (@haystackref09_places_B R)
theorem haystackref09_places_unf {R : Type} : @haystackref09_places R = @haystackref09_places_B R := shut_eq _

noncomputable def haystackref01_Len_l3_T {R : Type} (rec : Int → Int → Option R) (v0 v1 : Int) (K0 : Int → Option R) (K1 : Unit → Option R) : Option R :=
 sel (decide (0 < v1))
 (sel (decide (0 ≤ cvtW .u64 (subW .i64 v1 1)))
 (sel (decide (remW (shrW .u64 v0 (cvtW .u64 (subW .i64 v1 1))) 2 = 1))
 (K0 v1)
 (rec v0 (subW .i64 v1 1)))
 (none))
 (K1 ())
noncomputable def haystackref01_Len_l3_L {R : Type} (K0 : Int → Option R) (K1 : Unit → Option R) : Nat → Int → Int → Option R
 | 0, _, _ => none
 | N + 1, v0, v1 => haystackref01_Len_l3_T (haystackref01_Len_l3_L K0 K1 N) v0 v1 K0 K1
noncomputable def haystackref01_Len_l3_B {R : Type} (v0 v1 : Int) (K0 : Int → Option R) (K1 : Unit → Option R) : Option R :=
 haystackref01_Len_l3_L K0 K1 NR v0 v1
noncomputable def haystackref01_Len_l3 {R : Type} := shut (@haystackref01_Len_l3_B R)
theorem haystackref01_Len_l3_unf {R : Type} : @haystackref01_Len_l3 R = @haystackref01_Len_l3_B R := shut_eq _

noncomputable def haystackref01_Len_B {R : Type} (v0 : Int) (K0 : Int → Option R) : Option R :=
 haystackref01_Len_l3 v0 64
 (fun v1 => K0 v1)
 (fun _ => K0 0)
noncomputable def haystackref01_Len {R : Type} := shut (@haystackref01_Len_B R)
theorem haystackref01_Len_unf {R : Type} : @haystackref01_Len R = @haystackref01_Len_B R := shut_eq _

noncomputable def haystackref09_width_B {R : Type} (v0 v1 : Int) (K0 : Int → Option R) : Option R :=
 sel (decide (v1 = 0))
 (K0 0)
 (sel (decide (v1 = 0))
 (none)
 (haystackref01_Len (cvtW .u64 (quoW .i64 v0 v1))
 (fun v2 => K0 (subW .i64 v2 1))))
noncomputable def haystackref09_width {R : Type} := shut (@haystackref09_width_B R)
theorem haystackref09_width_unf {R : Type} : @haystackref09_width R = @haystackref09_width_B R := shut_eq _

noncomputable def haystackref09_of_l7_T {R : Type} (rec : List Int → Int → Nat → Nat → Int → Int → Int → Int → Int → Int → Int → Int → Int → Int → Int → Int → Int → List Bool → List Int → Option R) (v0 : List Int) (v1 : Int) (v2 v3 : Nat) (v4 v5 v6 v7 v8 v9 va vb vc vd ve vf vg : Int) (vh : List Bool) (vi : List Int) (K0 : Int → Nat → Nat → Int → Int → Int → Int → Int → Int → Int → Int → Int → Int → Int → Int → List Bool → List Int → Option R) : Option R :=
 sel (decide (v4 < (↑(List.length v0) : Int)))
 (sel (decide (0 ≤ v4))
 (sel (decide (v4 < (↑(List.length v0) : Int)))
 (sel (decide (0 ≤ cvtW .u64 v1))
 (sel (decide (0 ≤ addW .i64 (shrW .i64 (List.getD v0 (Int.toNat v4) 0) (cvtW .u64 v1)) v4))
 (sel (decide (addW .i64 (shrW .i64 (List.getD v0 (Int.toNat v4) 0) (cvtW .u64 v1)) v4 < (↑v2 : Int)))
 (sel (decide (Int.toNat (addW .i64 (shrW .i64 (List.getD v0 (Int.toNat v4) 0) (cvtW .u64 v1)) v4) < List.length vh))
 (letV (List.set vh (Int.toNat (addW .i64 (shrW .i64 (List.getD v0 (Int.toNat v4) 0) (cvtW .u64 v1)) v4)) true) (fun (vj : List Bool) =>
 sel (decide (0 < v1))
 (sel (decide (0 ≤ v4))
 (sel (decide (v4 < (↑(List.length v0) : Int)))
 (sel (decide (0 ≤ cvtW .u64 v1))
 (sel (decide (shlW .u64 1 (cvtW .u64 v1) = 0))
 (none)
 (sel (decide (List.length vi = v3))
 (sel (decide ((v3 + 1) * 8 ≤ 140737488355328))
 (letV (vi ++ [remW (cvtW .u64 (List.getD v0 (Int.toNat v4) 0)) (shlW .u64 1 (cvtW .u64 v1))]) (fun (vk : List Int) =>
 rec v0 v1 v2 (v3 + 1) (addW .i64 v4 1) v5 v6 v7 v8 v9 va vb vc vd ve vf vg vj vk))
 (none))
 (none)))
 (none))
 (none))
 (none))
 (rec v0 v1 v2 v3 (addW .i64 v4 1) v5 v6 v7 v8 v9 va vb vc vd ve vf vg vj vi)))
 (none))
 (none))
 (none))
 (none))
 (none))
 (none))
 (K0 v1 v2 v3 v5 v6 v7 v8 v9 va vb vc vd ve vf vg vh vi)
noncomputable def haystackref09_of_l7_L {R : Type} (K0 : Int → Nat → Nat → Int → Int → Int → Int → Int → Int → Int → Int → Int → Int → Int → Int → List Bool → List Int → Option R) : Nat → List Int → Int → Nat → Nat → Int → Int → Int → Int → Int → Int → Int → Int → Int → Int → Int → Int → Int → List Bool → List Int → Option R
 | 0, _, _, _, _, _, _, _, _, _, _, _, _, _, _, _, _, _, _, _ => none
 | N + 1, v0, v1, v2, v3, v4, v5, v6, v7, v8, v9, va, vb, vc, vd, ve, vf, vg, vh, vi => haystackref09_of_l7_T (haystackref09_of_l7_L K0 N) v0 v1 v2 v3 v4 v5 v6 v7 v8 v9 va vb vc vd ve vf vg vh vi K0
noncomputable def haystackref09_of_l7_B {R : Type} (v0 : List Int) (v1 : Int) (v2 v3 : Nat) (v4 v5 v6 v7 v8 v9 va vb vc vd ve vf vg : Int) (vh : List Bool) (vi : List Int) (K0 : Int → Nat → Nat → Int → Int → Int → Int → Int → Int → Int → Int → Int → Int → Int → Int → List Bool → List Int → Option R) : Option R :=
 haystackref09_of_l7_L K0 NR v0 v1 v2 v3 v4 v5 v6 v7 v8 v9 va vb vc vd ve vf vg vh vi
noncomputable def haystackref09_of_l7 {R : Type} := shut (@haystackref09_of_l7_B R)
theorem haystackref09_of_l7_unf {R : Type} : @haystackref09_of_l7 R = @haystackref09_of_l7_B R := shut_eq _

noncomputable def haystackref03_fits_B {R : Type} (v0 v1 : Int) (K0 : Bool → Option R) : Option R :=
 haystackref01_Len v0
 (fun v2 => K0 (decide (v2 ≤ v1)))
noncomputable def haystackref03_fits {R : Type} := shut (@haystackref03_fits_B R)
theorem haystackref03_fits_unf {R : Type} : @haystackref03_fits R = @haystackref03_fits_B R := shut_eq _

noncomputable def haystackref03_Make_j3_B {R : Type} (v0 : Int) (v1 : List Int) (v2 : Bool) (v3 v4 v5 : Int) (K0 : Int → Int → Int → Int → Option R) (K1 : Int → List Int → Int → Int → Int → Option R) : Option R :=
 sel v2
 (K0 2 0 0 0)
 (K1 v0 v1 v3 v4 v5)
noncomputable def haystackref03_Make_j3 {R : Type} := shut (@haystackref03_Make_j3_B R)
theorem haystackref03_Make_j3_unf {R : Type} : @haystackref03_Make_j3 R = @haystackref03_Make_j3_B R := shut_eq _

noncomputable def haystackref03_Make_l11_T {R : Type} (rec : Int → List Int → Nat → Int → Int → Int → Int → Int → List Bool → Option R) (v0 : Int) (v1 : List Int) (v2 : Nat) (v3 v4 v5 v6 v7 : Int) (v8 : List Bool) (K0 : Int → List Int → Nat → Int → Int → Int → Int → List Bool → Option R) : Option R :=
 sel (decide (v4 < v0))
 (sel (decide (0 ≤ v3))
 (sel (decide (v3 < (↑(List.length v1) : Int)))
 (sel (decide (0 ≤ cvtW .u64 v4))
 (letV (decide (remW (shrW .u64 (List.getD v1 (Int.toNat v3) 0) (cvtW .u64 v4)) 2 = 1)) (fun (v9 : Bool) =>
 sel (decide (List.length v8 = v2))
 (sel (decide ((v2 + 1) * 1 ≤ 140737488355328))
 (letV (v8 ++ [v9]) (fun (va : List Bool) =>
 rec v0 v1 (v2 + 1) v3 (addW .i64 v4 1) v5 v6 v7 va))
 (none))
 (none)))
 (none))
 (none))
 (none))
 (K0 v0 v1 v2 v3 v5 v6 v7 v8)
noncomputable def haystackref03_Make_l11_L {R : Type} (K0 : Int → List Int → Nat → Int → Int → Int → Int → List Bool → Option R) : Nat → Int → List Int → Nat → Int → Int → Int → Int → Int → List Bool → Option R
 | 0, _, _, _, _, _, _, _, _, _ => none
 | N + 1, v0, v1, v2, v3, v4, v5, v6, v7, v8 => haystackref03_Make_l11_T (haystackref03_Make_l11_L K0 N) v0 v1 v2 v3 v4 v5 v6 v7 v8 K0
noncomputable def haystackref03_Make_l11_B {R : Type} (v0 : Int) (v1 : List Int) (v2 : Nat) (v3 v4 v5 v6 v7 : Int) (v8 : List Bool) (K0 : Int → List Int → Nat → Int → Int → Int → Int → List Bool → Option R) : Option R :=
 haystackref03_Make_l11_L K0 NR v0 v1 v2 v3 v4 v5 v6 v7 v8
noncomputable def haystackref03_Make_l11 {R : Type} := shut (@haystackref03_Make_l11_B R)
theorem haystackref03_Make_l11_unf {R : Type} : @haystackref03_Make_l11 R = @haystackref03_Make_l11_B R := shut_eq _

noncomputable def haystackref03_Make_l6_T {R : Type} (rec : Int → List Int → Nat → Int → Int → Int → Int → List Bool → Option R) (v0 : Int) (v1 : List Int) (v2 : Nat) (v3 v4 v5 v6 : Int) (v7 : List Bool) (K0 : Int → Int → Int → Int → Option R) (K1 : Int → List Int → Nat → Int → Int → Int → List Bool → Option R) : Option R :=
 sel (decide (v3 < (↑(List.length v1) : Int)))
 (sel (decide (0 ≤ v3))
 (sel (decide (v3 < (↑(List.length v1) : Int)))
 (haystackref03_fits (List.getD v1 (Int.toNat v3) 0) v0
 (fun v8 => sel (!v8)
 (K0 2 0 0 0)
 (haystackref03_Make_l11 v0 v1 v2 v3 0 v4 v5 v6 v7
 (fun v9 va vb vc vd ve vf vg => rec v9 va vb (addW .i64 vc 1) vd ve vf vg))))
 (none))
 (none))
 (K1 v0 v1 v2 v4 v5 v6 v7)
noncomputable def haystackref03_Make_l6_L {R : Type} (K0 : Int → Int → Int → Int → Option R) (K1 : Int → List Int → Nat → Int → Int → Int → List Bool → Option R) : Nat → Int → List Int → Nat → Int → Int → Int → Int → List Bool → Option R
 | 0, _, _, _, _, _, _, _, _ => none
 | N + 1, v0, v1, v2, v3, v4, v5, v6, v7 => haystackref03_Make_l6_T (haystackref03_Make_l6_L K0 K1 N) v0 v1 v2 v3 v4 v5 v6 v7 K0 K1
noncomputable def haystackref03_Make_l6_B {R : Type} (v0 : Int) (v1 : List Int) (v2 : Nat) (v3 v4 v5 v6 : Int) (v7 : List Bool) (K0 : Int → Int → Int → Int → Option R) (K1 : Int → List Int → Nat → Int → Int → Int → List Bool → Option R) : Option R :=
 haystackref03_Make_l6_L K0 K1 NR v0 v1 v2 v3 v4 v5 v6 v7
noncomputable def haystackref03_Make_l6 {R : Type} := shut (@haystackref03_Make_l6_B R)
theorem haystackref03_Make_l6_unf {R : Type} : @haystackref03_Make_l6 R = @haystackref03_Make_l6_B R := shut_eq _

noncomputable def haystackref02_New_j3_B {R : Type} (v0 : Int) (v1 : Bool) (v2 : Int) (K0 : Int → Int → Option R) (K1 : Int → Int → Option R) : Option R :=
 sel v1
 (K0 2 0)
 (K1 v0 v2)
noncomputable def haystackref02_New_j3 {R : Type} := shut (@haystackref02_New_j3_B R)
theorem haystackref02_New_j3_unf {R : Type} : @haystackref02_New_j3 R = @haystackref02_New_j3_B R := shut_eq _

noncomputable def haystackref02_New_j4_B {R : Type} (v0 _v1 : Int) (K0 : Int → Int → Nat → List Int → Option R) : Option R :=
 haystackref02_Words v0
 (fun v2 => sel (decide (0 ≤ v2))
 (sel (decide (v2 ≤ v2))
 (sel (decide (v2 ≤ 281474976710656))
 (sel (decide ((↑8 : Int) * v2 ≤ 281474976710656))
 (letV (List.replicate (Int.toNat v2) 0) (fun (v3 : List Int) =>
 K0 0 v0 (Int.toNat v2) v3))
 (none))
 (none))
 (none))
 (none))
noncomputable def haystackref02_New_j4 {R : Type} := shut (@haystackref02_New_j4_B R)
theorem haystackref02_New_j4_unf {R : Type} : @haystackref02_New_j4 R = @haystackref02_New_j4_B R := shut_eq _

noncomputable def haystackref02_New_r_B {R : Type} (v0 : Int) (K0 : Int → Int → Option R) (K1 : Int → Nat → Int → List Int → Option R) : Option R :=
 sel (decide (v0 < 0))
 (haystackref02_New_j3 v0 true 0
 (fun v1 v2 => K0 v2 v1)
 (fun v3 v4 => haystackref02_New_j4 v3 v4
 (fun v5 v6 v7 v8 => K1 v6 v7 v5 v8)))
 (haystackref02_New_j3 v0 (decide (1048576 < v0)) 0
 (fun v9 va => K0 va v9)
 (fun vb vc => haystackref02_New_j4 vb vc
 (fun vd ve vf vg => K1 ve vf vd vg)))
noncomputable def haystackref02_New_r {R : Type} := shut (@haystackref02_New_r_B R)
theorem haystackref02_New_r_unf {R : Type} : @haystackref02_New_r R = @haystackref02_New_r_B R := shut_eq _

noncomputable def haystackref02_put_B {R : Type} (v0 : List Int) (v1 : Int) (_v2 : Bool) : Option R :=
 sel (decide (0 ≤ quoW .i64 v1 64))
 (sel (decide (quoW .i64 v1 64 < (↑(List.length v0) : Int)))
 (sel (decide (0 ≤ cvtW .u64 (remW v1 64)))
 (sel (decide (0 ≤ quoW .i64 v1 64))
 (sel (decide (quoW .i64 v1 64 < (↑(List.length v0) : Int)))
 (none)
 (none))
 (none))
 (none))
 (none))
 (none)
noncomputable def haystackref02_put {R : Type} := shut (@haystackref02_put_B R)
theorem haystackref02_put_unf {R : Type} : @haystackref02_put R = @haystackref02_put_B R := shut_eq _

noncomputable def haystackref02_From_l4_T {R : Type} (rec : List Bool → Int → Int → Int → Int → Option R) (v0 : List Bool) (v1 v2 v3 v4 : Int) (K0 : Int → Int → Int → Option R) : Option R :=
 sel (decide (v2 < v4))
 (sel (decide (0 ≤ v2))
 (sel (decide (v2 < (↑(List.length v0) : Int)))
 (haystackref02_put [] v2 (List.getD v0 (Int.toNat v2) false))
 (none))
 (none))
 (K0 v1 v3 v4)
noncomputable def haystackref02_From_l4_L {R : Type} (K0 : Int → Int → Int → Option R) : Nat → List Bool → Int → Int → Int → Int → Option R
 | 0, _, _, _, _, _ => none
 | N + 1, v0, v1, v2, v3, v4 => haystackref02_From_l4_T (haystackref02_From_l4_L K0 N) v0 v1 v2 v3 v4 K0
noncomputable def haystackref02_From_l4_B {R : Type} (v0 : List Bool) (v1 v2 v3 v4 : Int) (K0 : Int → Int → Int → Option R) : Option R :=
 haystackref02_From_l4_L K0 NR v0 v1 v2 v3 v4
noncomputable def haystackref02_From_l4 {R : Type} := shut (@haystackref02_From_l4_B R)
theorem haystackref02_From_l4_unf {R : Type} : @haystackref02_From_l4 R = @haystackref02_From_l4_B R := shut_eq _

noncomputable def haystackref02_put_r_B {R : Type} (v0 : Nat) (v1 : Int) (v2 : Bool) (v3 : List Int) (K0 : List Int → Option R) : Option R :=
 sel (decide (0 ≤ quoW .i64 v1 64))
 (sel (decide (quoW .i64 v1 64 < (↑v0 : Int)))
 (sel (decide (Int.toNat (quoW .i64 v1 64) < List.length v3))
 (sel (decide (0 ≤ cvtW .u64 (remW v1 64)))
 (sel (decide (0 ≤ quoW .i64 v1 64))
 (sel (decide (quoW .i64 v1 64 < (↑v0 : Int)))
 (sel (decide (Int.toNat (quoW .i64 v1 64) < List.length v3))
 (letV (List.set v3 (Int.toNat (quoW .i64 v1 64)) (andNotW .u64 (List.getD v3 (Int.toNat (quoW .i64 v1 64)) 0) (shlW .u64 1 (cvtW .u64 (remW v1 64))))) (fun (v4 : List Int) =>
 sel v2
 (sel (decide (0 ≤ quoW .i64 v1 64))
 (sel (decide (quoW .i64 v1 64 < (↑v0 : Int)))
 (sel (decide (Int.toNat (quoW .i64 v1 64) < List.length v4))
 (sel (decide (0 ≤ cvtW .u64 (remW v1 64)))
 (sel (decide (0 ≤ quoW .i64 v1 64))
 (sel (decide (quoW .i64 v1 64 < (↑v0 : Int)))
 (sel (decide (Int.toNat (quoW .i64 v1 64) < List.length v4))
 (letV (List.set v4 (Int.toNat (quoW .i64 v1 64)) (orW .u64 (List.getD v4 (Int.toNat (quoW .i64 v1 64)) 0) (shlW .u64 1 (cvtW .u64 (remW v1 64))))) (fun (v5 : List Int) =>
 K0 v5))
 (none))
 (none))
 (none))
 (none))
 (none))
 (none))
 (none))
 (K0 v4)))
 (none))
 (none))
 (none))
 (none))
 (none))
 (none))
 (none)
noncomputable def haystackref02_put_r {R : Type} := shut (@haystackref02_put_r_B R)
theorem haystackref02_put_r_unf {R : Type} : @haystackref02_put_r R = @haystackref02_put_r_B R := shut_eq _

noncomputable def haystackref02_From_l4_1_T {R : Type} (rec : List Bool → Int → Int → Int → Int → Nat → List Int → Option R) (v0 : List Bool) (v1 v2 v3 v4 : Int) (v5 : Nat) (v6 : List Int) (K0 : Int → Int → Int → Nat → List Int → Option R) : Option R :=
 sel (decide (v2 < v4))
 (sel (decide (0 ≤ v2))
 (sel (decide (v2 < (↑(List.length v0) : Int)))
 (haystackref02_put_r v5 v2 (List.getD v0 (Int.toNat v2) false) v6
 (fun v7 => rec v0 v1 (addW .i64 v2 1) v3 v4 v5 v7))
 (none))
 (none))
 (K0 v1 v3 v4 v5 v6)
noncomputable def haystackref02_From_l4_1_L {R : Type} (K0 : Int → Int → Int → Nat → List Int → Option R) : Nat → List Bool → Int → Int → Int → Int → Nat → List Int → Option R
 | 0, _, _, _, _, _, _, _ => none
 | N + 1, v0, v1, v2, v3, v4, v5, v6 => haystackref02_From_l4_1_T (haystackref02_From_l4_1_L K0 N) v0 v1 v2 v3 v4 v5 v6 K0
noncomputable def haystackref02_From_l4_1_B {R : Type} (v0 : List Bool) (v1 v2 v3 v4 : Int) (v5 : Nat) (v6 : List Int) (K0 : Int → Int → Int → Nat → List Int → Option R) : Option R :=
 haystackref02_From_l4_1_L K0 NR v0 v1 v2 v3 v4 v5 v6
noncomputable def haystackref02_From_l4_1 {R : Type} := shut (@haystackref02_From_l4_1_B R)
theorem haystackref02_From_l4_1_unf {R : Type} : @haystackref02_From_l4_1 R = @haystackref02_From_l4_1_B R := shut_eq _

noncomputable def haystackref02_From_B {R : Type} (v0 : List Bool) (K0 : Int → List Int → Int → Option R) : Option R :=
 haystackref02_New_r ((↑(List.length v0) : Int))
 (fun v1 v2 => haystackref02_From_l4 v0 v2 0 0 v1
 (fun v3 _ v5 => K0 v5 [] v3))
 (fun v6 v7 v8 v9 => haystackref02_From_l4_1 v0 v8 0 0 v6 v7 v9
 (fun va _ vc vd ve => sel (decide (vd = List.length ve))
 (K0 vc ve va)
 (none)))
noncomputable def haystackref02_From {R : Type} := shut (@haystackref02_From_B R)
theorem haystackref02_From_unf {R : Type} : @haystackref02_From R = @haystackref02_From_B R := shut_eq _

noncomputable def haystackref03_Make_j4_B {R : Type} (v0 : Int) (v1 : List Int) (v2 v3 v4 : Int) (K0 : Int → Int → Int → Int → Option R) (K1 : Int → Int → Int → Int → List Int → Option R) : Option R :=
 haystackref03_Make_l6 v0 v1 0 0 v2 v3 v4 []
 (fun v5 v6 v7 v8 => K0 v5 v6 v7 v8)
 (fun v9 va vb _ _ _ vf => sel (decide (vb = List.length vf))
 (sel (decide (vb = List.length vf))
 (haystackref02_From vf
 (fun vg vh _ => K1 0 ((↑(List.length va) : Int)) v9 vg vh))
 (none))
 (none))
noncomputable def haystackref03_Make_j4 {R : Type} := shut (@haystackref03_Make_j4_B R)
theorem haystackref03_Make_j4_unf {R : Type} : @haystackref03_Make_j4 R = @haystackref03_Make_j4_B R := shut_eq _

noncomputable def haystackref03_Make_B {R : Type} (v0 : Int) (v1 : List Int) (K0 : Int → Int → Int → List Int → Int → Option R) : Option R :=
 sel (decide (v0 < 1))
 (haystackref03_Make_j3 v0 v1 true 0 0 0
 (fun v2 v3 v4 v5 => K0 v3 v4 v5 [] v2)
 (fun v6 v7 v8 v9 va => haystackref03_Make_j4 v6 v7 v8 v9 va
 (fun vb vc vd ve => K0 vc vd ve [] vb)
 (fun vf vg vh vi vj => K0 vg vh vi vj vf)))
 (sel (decide (64 < v0))
 (haystackref03_Make_j3 v0 v1 true 0 0 0
 (fun vk vl vm vn => K0 vl vm vn [] vk)
 (fun vo vp vq vr vs => haystackref03_Make_j4 vo vp vq vr vs
 (fun vt vu vv vw => K0 vu vv vw [] vt)
 (fun vx vy vz v10 v11 => K0 vy vz v10 v11 vx)))
 (sel (decide (1048576 < (↑(List.length v1) : Int)))
 (haystackref03_Make_j3 v0 v1 true 0 0 0
 (fun v12 v13 v14 v15 => K0 v13 v14 v15 [] v12)
 (fun v16 v17 v18 v19 v1a => haystackref03_Make_j4 v16 v17 v18 v19 v1a
 (fun v1b v1c v1d v1e => K0 v1c v1d v1e [] v1b)
 (fun v1f v1g v1h v1i v1j => K0 v1g v1h v1i v1j v1f)))
 (haystackref03_Make_j3 v0 v1 (decide (1048576 < mulW .i64 (↑(List.length v1) : Int) v0)) 0 0 0
 (fun v1k v1l v1m v1n => K0 v1l v1m v1n [] v1k)
 (fun v1o v1p v1q v1r v1s => haystackref03_Make_j4 v1o v1p v1q v1r v1s
 (fun v1t v1u v1v v1w => K0 v1u v1v v1w [] v1t)
 (fun v1x v1y v1z v20 v21 => K0 v1y v1z v20 v21 v1x)))))
noncomputable def haystackref03_Make {R : Type} := shut (@haystackref03_Make_B R)
theorem haystackref03_Make_unf {R : Type} : @haystackref03_Make R = @haystackref03_Make_B R := shut_eq _

noncomputable def haystackref09_of_j15_B {R : Type} (v0 : Bool) (v1 v2 v3 v4 v5 v6 v7 v8 v9 va vb vc vd ve vf : Int) (vg : List Int) (vh : Int) (vi : List Int) (K0 : Int → Int → Int → Int → Int → Int → Int → Option R) (K1 : Int → Int → Int → Int → Int → Int → Int → Int → Int → Int → Int → Int → Int → Int → Int → List Int → Int → List Int → Option R) : Option R :=
 sel v0
 (K0 2 0 0 0 0 0 0)
 (K1 v1 v2 v3 v4 v5 v6 v7 v8 v9 va vb vc vd ve vf vg vh vi)
noncomputable def haystackref09_of_j15 {R : Type} := shut (@haystackref09_of_j15_B R)
theorem haystackref09_of_j15_unf {R : Type} : @haystackref09_of_j15 R = @haystackref09_of_j15_B R := shut_eq _

noncomputable def haystackref09_of_j16_B {R : Type} (_v0 _v1 _v2 _v3 _v4 _v5 v6 v7 _v8 _v9 _va _vb vc vd ve : Int) (vf : List Int) (vg : Int) (vh : List Int) (K0 : Int → Int → Int → Int → Int → Int → List Int → Int → List Int → Option R) : Option R :=
 K0 0 v6 v7 vc vd ve vf vg vh
noncomputable def haystackref09_of_j16 {R : Type} := shut (@haystackref09_of_j16_B R)
theorem haystackref09_of_j16_unf {R : Type} : @haystackref09_of_j16 R = @haystackref09_of_j16_B R := shut_eq _

noncomputable def haystackref09_of_B {R : Type} (v0 : Int) (v1 : List Int) (K0 : Int → Int → Int → Int → Int → List Int → Int → List Int → Int → Option R) : Option R :=
 haystackref09_width v0 ((↑(List.length v1) : Int))
 (fun v2 => sel (decide (0 ≤ cvtW .u64 v2))
 (sel (decide (0 ≤ addW .i64 (addW .i64 (↑(List.length v1) : Int) (shrW .i64 v0 (cvtW .u64 v2))) 1))
 (sel (decide (addW .i64 (addW .i64 (↑(List.length v1) : Int) (shrW .i64 v0 (cvtW .u64 v2))) 1 ≤ addW .i64 (addW .i64 (↑(List.length v1) : Int) (shrW .i64 v0 (cvtW .u64 v2))) 1))
 (sel (decide (addW .i64 (addW .i64 (↑(List.length v1) : Int) (shrW .i64 v0 (cvtW .u64 v2))) 1 ≤ 281474976710656))
 (sel (decide ((↑1 : Int) * addW .i64 (addW .i64 (↑(List.length v1) : Int) (shrW .i64 v0 (cvtW .u64 v2))) 1 ≤ 281474976710656))
 (letV (List.replicate (Int.toNat (addW .i64 (addW .i64 (↑(List.length v1) : Int) (shrW .i64 v0 (cvtW .u64 v2))) 1)) false) (fun (v3 : List Bool) =>
 haystackref09_of_l7 v1 v2 (Int.toNat (addW .i64 (addW .i64 (↑(List.length v1) : Int) (shrW .i64 v0 (cvtW .u64 v2))) 1)) 0 0 0 0 0 0 0 0 v0 ((↑(List.length v1) : Int)) 0 0 0 0 v3 []
 (fun v4 v5 v6 v7 v8 v9 va vb vc vd ve vf vg vh vi vj vk => sel (decide (v6 = List.length vk))
 (sel (decide (v6 = List.length vk))
 (haystackref03_Make (max2 v4 1) vk
 (fun vl vm vn vo vp => sel (decide (v5 = List.length vj))
 (sel (decide (v5 = List.length vj))
 (haystackref02_From vj
 (fun vq vr vs => sel (!decide (vp = 0))
 (haystackref09_of_j15 true v7 v8 v9 va vb vc vd ve vf vg vh vi vl vm vn vo vq vr
 (fun vt vu vv vw vx vy vz => K0 vu vv vw vx vy [] vz [] vt)
 (fun v10 v11 v12 v13 v14 v15 v16 v17 v18 v19 v1a v1b v1c v1d v1e v1f v1g v1h => haystackref09_of_j16 v10 v11 v12 v13 v14 v15 v16 v17 v18 v19 v1a v1b v1c v1d v1e v1f v1g v1h
 (fun v1i v1j v1k v1l v1m v1n v1o v1p v1q => K0 v1j v1k v1l v1m v1n v1o v1p v1q v1i)))
 (haystackref09_of_j15 (!decide (vs = 0)) v7 v8 v9 va vb vc vd ve vf vg vh vi vl vm vn vo vq vr
 (fun v1r v1s v1t v1u v1v v1w v1x => K0 v1s v1t v1u v1v v1w [] v1x [] v1r)
 (fun v1y v1z v20 v21 v22 v23 v24 v25 v26 v27 v28 v29 v2a v2b v2c v2d v2e v2f => haystackref09_of_j16 v1y v1z v20 v21 v22 v23 v24 v25 v26 v27 v28 v29 v2a v2b v2c v2d v2e v2f
 (fun v2g v2h v2i v2j v2k v2l v2m v2n v2o => K0 v2h v2i v2j v2k v2l v2m v2n v2o v2g)))))
 (none))
 (none)))
 (none))
 (none))))
 (none))
 (none))
 (none))
 (none))
 (none))
noncomputable def haystackref09_of {R : Type} := shut (@haystackref09_of_B R)
theorem haystackref09_of_unf {R : Type} : @haystackref09_of R = @haystackref09_of_B R := shut_eq _

noncomputable def haystackref09_Build_B {R : Type} (v0 : Int) (v1 : List Int) (K0 : Int → Int → Int → Int → Int → List Int → Int → List Int → Int → Option R) : Option R :=
 haystackref02_Check v0 v1
 (fun v2 => sel (!v2)
 (K0 0 0 0 0 0 [] 0 [] 2)
 (haystackref09_places v0 v1
 (fun v3 => haystackref09_of v0 v3
 K0)))
noncomputable def haystackref09_Build {R : Type} := shut (@haystackref09_Build_B R)
theorem haystackref09_Build_unf {R : Type} : @haystackref09_Build R = @haystackref09_Build_B R := shut_eq _

noncomputable def haystackref03_Same_B {R : Type} (v0 v1 v2 : Int) (v3 : List Int) (v4 v5 v6 : Int) (v7 : List Int) (K0 : Bool → Option R) : Option R :=
 sel (decide (v0 = v4))
 (sel (decide (v1 = v5))
 (haystackref02_Same v2 v3 v6 v7
 (fun v8 => K0 v8))
 (K0 false))
 (K0 false)
noncomputable def haystackref03_Same {R : Type} := shut (@haystackref03_Same_B R)
theorem haystackref03_Same_unf {R : Type} : @haystackref03_Same R = @haystackref03_Same_B R := shut_eq _

noncomputable def haystackref09_Same_B {R : Type} (v0 v1 v2 v3 v4 : Int) (v5 : List Int) (v6 : Int) (v7 : List Int) (v8 v9 va vb vc : Int) (vd : List Int) (ve : Int) (vf : List Int) (K0 : Bool → Option R) : Option R :=
 sel (decide (v0 = v8))
 (sel (decide (v1 = v9))
 (haystackref03_Same v2 v3 v4 v5 va vb vc vd
 (fun vg => sel vg
 (haystackref02_Same v6 v7 ve vf
 (fun vh => K0 vh))
 (K0 false)))
 (K0 false))
 (K0 false)
noncomputable def haystackref09_Same {R : Type} := shut (@haystackref09_Same_B R)
theorem haystackref09_Same_unf {R : Type} : @haystackref09_Same R = @haystackref09_Same_B R := shut_eq _

noncomputable def haystackref03_Check_B {R : Type} (v0 v1 v2 : Int) (v3 : List Int) (K0 : Bool → Option R) : Option R :=
 sel (decide (1 ≤ v1))
 (sel (decide (v1 ≤ 64))
 (sel (decide (0 ≤ v0))
 (sel (decide (v0 ≤ 1048576))
 (haystackref02_Check v2 v3
 (fun v4 => sel v4
 (K0 (decide (v2 = mulW .i64 v0 v1)))
 (K0 false)))
 (K0 false))
 (K0 false))
 (K0 false))
 (K0 false)
noncomputable def haystackref03_Check {R : Type} := shut (@haystackref03_Check_B R)
theorem haystackref03_Check_unf {R : Type} : @haystackref03_Check R = @haystackref03_Check_B R := shut_eq _

noncomputable def haystackref02_Slice_l8_T {R : Type} (rec : Int → Int → Int → Int → Int → List Int → Option R) (v0 v1 v2 v3 v4 : Int) (v5 : List Int) (K0 : Int → Option R) : Option R :=
 sel (decide (v3 < v1))
 (haystackref02_At v4 v5 (addW .i64 v0 v3)
 (fun v6 => sel v6
 (sel (decide (0 ≤ cvtW .u64 v3))
 (rec v0 v1 (orW .u64 v2 (shlW .u64 1 (cvtW .u64 v3))) (addW .i64 v3 1) v4 v5)
 (none))
 (rec v0 v1 v2 (addW .i64 v3 1) v4 v5)))
 (K0 v2)
noncomputable def haystackref02_Slice_l8_L {R : Type} (K0 : Int → Option R) : Nat → Int → Int → Int → Int → Int → List Int → Option R
 | 0, _, _, _, _, _, _ => none
 | N + 1, v0, v1, v2, v3, v4, v5 => haystackref02_Slice_l8_T (haystackref02_Slice_l8_L K0 N) v0 v1 v2 v3 v4 v5 K0
noncomputable def haystackref02_Slice_l8_B {R : Type} (v0 v1 v2 v3 v4 : Int) (v5 : List Int) (K0 : Int → Option R) : Option R :=
 haystackref02_Slice_l8_L K0 NR v0 v1 v2 v3 v4 v5
noncomputable def haystackref02_Slice_l8 {R : Type} := shut (@haystackref02_Slice_l8_B R)
theorem haystackref02_Slice_l8_unf {R : Type} : @haystackref02_Slice_l8 R = @haystackref02_Slice_l8_B R := shut_eq _

noncomputable def haystackref02_Slice_j6_B {R : Type} (v0 v1 v2 : Int) (v3 : List Int) (K0 : Int → Int → Option R) : Option R :=
 haystackref02_Slice_l8 v0 v1 0 0 v2 v3
 (fun v4 => K0 v4 0)
noncomputable def haystackref02_Slice_j6 {R : Type} := shut (@haystackref02_Slice_j6_B R)
theorem haystackref02_Slice_j6_unf {R : Type} : @haystackref02_Slice_j6 R = @haystackref02_Slice_j6_B R := shut_eq _

noncomputable def haystackref02_Slice_j4_B {R : Type} (v0 v1 v2 : Int) (v3 : List Int) (K0 : Int → Int → Option R) : Option R :=
 sel (decide (v0 < 0))
 (K0 0 3)
 (sel (decide (v2 < v0))
 (K0 0 3)
 (sel (decide (subW .i64 v2 v0 < v1))
 (K0 0 3)
 (haystackref02_Slice_j6 v0 v1 v2 v3
 (fun v4 v5 => K0 v4 v5))))
noncomputable def haystackref02_Slice_j4 {R : Type} := shut (@haystackref02_Slice_j4_B R)
theorem haystackref02_Slice_j4_unf {R : Type} : @haystackref02_Slice_j4 R = @haystackref02_Slice_j4_B R := shut_eq _

noncomputable def haystackref02_Slice_B {R : Type} (v0 : Int) (v1 : List Int) (v2 v3 : Int) (K0 : Int → Int → Option R) : Option R :=
 haystackref02_Check v0 v1
 (fun v4 => sel (!v4)
 (K0 0 2)
 (sel (decide (v3 < 0))
 (K0 0 2)
 (sel (decide (64 < v3))
 (K0 0 2)
 (haystackref02_Slice_j4 v2 v3 v0 v1
 (fun v5 v6 => K0 v5 v6)))))
noncomputable def haystackref02_Slice {R : Type} := shut (@haystackref02_Slice_B R)
theorem haystackref02_Slice_unf {R : Type} : @haystackref02_Slice R = @haystackref02_Slice_B R := shut_eq _

noncomputable def haystackref03_Get_j6_B {R : Type} (v0 _v1 v2 v3 : Int) (v4 : List Int) (K0 : Int → Int → Option R) : Option R :=
 haystackref02_Slice v3 v4 (mulW .i64 v0 v2) v2
 (fun v5 v6 => K0 v5 v6)
noncomputable def haystackref03_Get_j6 {R : Type} := shut (@haystackref03_Get_j6_B R)
theorem haystackref03_Get_j6_unf {R : Type} : @haystackref03_Get_j6 R = @haystackref03_Get_j6_B R := shut_eq _

noncomputable def haystackref03_Get_B {R : Type} (v0 v1 v2 : Int) (v3 : List Int) (v4 : Int) (K0 : Int → Int → Option R) : Option R :=
 haystackref03_Check v0 v1 v2 v3
 (fun v5 => sel (!v5)
 (K0 0 2)
 (sel (decide (v4 < 0))
 (K0 0 3)
 (sel (decide (v0 ≤ v4))
 (K0 0 3)
 (haystackref03_Get_j6 v4 v0 v1 v2 v3
 (fun v6 v7 => K0 v6 v7)))))
noncomputable def haystackref03_Get {R : Type} := shut (@haystackref03_Get_B R)
theorem haystackref03_Get_unf {R : Type} : @haystackref03_Get R = @haystackref03_Get_B R := shut_eq _

noncomputable def haystackref03_List_j6_B {R : Type} (v0 : Nat) (v1 v2 v3 v4 : Int) (v5 v6 : List Int) (K0 : Nat → Int → Int → Int → Int → List Int → List Int → Option R) : Option R :=
 haystackref03_Get v2 v3 v4 v5 v1
 (fun v7 _ => sel (decide (List.length v6 = v0))
 (sel (decide ((v0 + 1) * 8 ≤ 140737488355328))
 (letV (v6 ++ [v7]) (fun (v9 : List Int) =>
 K0 (v0 + 1) (addW .i64 v1 1) v2 v3 v4 v5 v9))
 (none))
 (none))
noncomputable def haystackref03_List_j6 {R : Type} := shut (@haystackref03_List_j6_B R)
theorem haystackref03_List_j6_unf {R : Type} : @haystackref03_List_j6 R = @haystackref03_List_j6_B R := shut_eq _

noncomputable def haystackref03_List_l4_T {R : Type} (rec : Nat → Int → Int → Int → Int → List Int → List Int → Option R) (v0 : Nat) (v1 v2 v3 v4 : Int) (v5 v6 : List Int) (K0 : Nat → List Int → Option R) : Option R :=
 sel (decide (v1 < v2))
 (haystackref03_Check v2 v3 v4 v5
 (fun v7 => sel v7
 (haystackref03_List_j6 v0 v1 v2 v3 v4 v5 v6
 rec)
 (K0 v0 v6)))
 (K0 v0 v6)
noncomputable def haystackref03_List_l4_L {R : Type} (K0 : Nat → List Int → Option R) : Nat → Nat → Int → Int → Int → Int → List Int → List Int → Option R
 | 0, _, _, _, _, _, _, _ => none
 | N + 1, v0, v1, v2, v3, v4, v5, v6 => haystackref03_List_l4_T (haystackref03_List_l4_L K0 N) v0 v1 v2 v3 v4 v5 v6 K0
noncomputable def haystackref03_List_l4_B {R : Type} (v0 : Nat) (v1 v2 v3 v4 : Int) (v5 v6 : List Int) (K0 : Nat → List Int → Option R) : Option R :=
 haystackref03_List_l4_L K0 NR v0 v1 v2 v3 v4 v5 v6
noncomputable def haystackref03_List_l4 {R : Type} := shut (@haystackref03_List_l4_B R)
theorem haystackref03_List_l4_unf {R : Type} : @haystackref03_List_l4 R = @haystackref03_List_l4_B R := shut_eq _

noncomputable def haystackref03_List_B {R : Type} (v0 v1 v2 : Int) (v3 : List Int) (K0 : List Int → Option R) : Option R :=
 haystackref03_List_l4 0 0 v0 v1 v2 v3 []
 (fun v4 v5 => sel (decide (v4 = List.length v5))
 (K0 v5)
 (none))
noncomputable def haystackref03_List {R : Type} := shut (@haystackref03_List_B R)
theorem haystackref03_List_unf {R : Type} : @haystackref03_List R = @haystackref03_List_B R := shut_eq _

noncomputable def haystackref09_row_j15_B {R : Type} (v0 : Int) (v1 v2 : List Int) (v3 : Nat) (v4 v5 : Int) (v6 : Bool) (v7 v8 v9 va vb : Int) (vc : List Int) (vd : Int) (ve vf : List Int) (K0 : Int → List Int → List Int → Nat → Int → Int → Int → Int → Int → Int → Int → List Int → Int → List Int → List Int → Option R) : Option R :=
 sel v6
 (sel (decide (0 ≤ v4))
 (sel (decide (v4 < (↑(List.length v1) : Int)))
 (sel (decide (0 ≤ cvtW .u64 v0))
 (sel (decide (shlW .u64 1 (cvtW .u64 v0) = 0))
 (none)
 (K0 v0 v1 v2 v3 v4 (addW .i64 v5 (cvtW .i64 (remW (List.getD v1 (Int.toNat v4) 0) (shlW .u64 1 (cvtW .u64 v0))))) v7 v8 v9 va vb vc vd ve vf))
 (none))
 (none))
 (none))
 (K0 v0 v1 v2 v3 v4 v5 v7 v8 v9 va vb vc vd ve vf)
noncomputable def haystackref09_row_j15 {R : Type} := shut (@haystackref09_row_j15_B R)
theorem haystackref09_row_j15_unf {R : Type} : @haystackref09_row_j15 R = @haystackref09_row_j15_B R := shut_eq _

noncomputable def haystackref09_row_j18_B {R : Type} (v0 : Int) (v1 v2 : List Int) (v3 : Nat) (v4 v5 v6 v7 v8 v9 va : Int) (vb : List Int) (vc : Int) (vd ve : List Int) (K0 : Int → List Int → List Int → Nat → Int → Int → Int → Int → Int → Int → List Int → Int → List Int → List Int → Option R) : Option R :=
 sel (decide (List.length ve = v3))
 (sel (decide ((v3 + 1) * 8 ≤ 140737488355328))
 (letV (ve ++ [v5]) (fun (vf : List Int) =>
 K0 v0 v1 v2 (v3 + 1) v4 v6 v7 v8 v9 va vb vc vd vf))
 (none))
 (none)
noncomputable def haystackref09_row_j18 {R : Type} := shut (@haystackref09_row_j18_B R)
theorem haystackref09_row_j18_unf {R : Type} : @haystackref09_row_j18 R = @haystackref09_row_j18_B R := shut_eq _

noncomputable def haystackref09_row_j16_B {R : Type} (v0 : Int) (v1 v2 : List Int) (v3 : Nat) (v4 v5 v6 v7 v8 v9 va : Int) (vb : List Int) (vc : Int) (vd ve : List Int) (K0 : Bool → Option R) (K1 : Int → List Int → List Int → Nat → Int → Int → Int → Int → Int → Int → List Int → Int → List Int → List Int → Option R) : Option R :=
 sel (decide (v6 ≤ v5))
 (K0 false)
 (sel (decide (0 < v4))
 (sel (decide (0 ≤ subW .i64 v4 1))
 (sel (decide (subW .i64 v4 1 < (↑v3 : Int)))
 (sel (decide (Int.toNat (subW .i64 v4 1) < List.length ve))
 (sel (decide (v5 ≤ List.getD ve (Int.toNat (subW .i64 v4 1)) 0))
 (K0 false)
 (haystackref09_row_j18 v0 v1 v2 v3 v4 v5 v6 v7 v8 v9 va vb vc vd ve
 K1))
 (none))
 (none))
 (none))
 (haystackref09_row_j18 v0 v1 v2 v3 v4 v5 v6 v7 v8 v9 va vb vc vd ve
 K1))
noncomputable def haystackref09_row_j16 {R : Type} := shut (@haystackref09_row_j16_B R)
theorem haystackref09_row_j16_unf {R : Type} : @haystackref09_row_j16 R = @haystackref09_row_j16_B R := shut_eq _

noncomputable def haystackref09_row_l11_T {R : Type} (rec : Int → List Int → List Int → Nat → Int → Int → Int → Int → Int → Int → List Int → Int → List Int → List Int → Option R) (v0 : Int) (v1 v2 : List Int) (v3 : Nat) (v4 v5 v6 v7 v8 v9 : Int) (va : List Int) (vb : Int) (vc vd : List Int) (K0 : Bool → Option R) (K1 : Nat → List Int → Option R) : Option R :=
 sel (decide (v4 < (↑(List.length v2) : Int)))
 (sel (decide (0 ≤ v4))
 (sel (decide (v4 < (↑(List.length v2) : Int)))
 (sel (decide (0 ≤ cvtW .u64 v0))
 (sel (decide (0 < v0))
 (haystackref09_row_j15 v0 v1 v2 v3 v4 (shlW .i64 (subW .i64 (List.getD v2 (Int.toNat v4) 0) v4) (cvtW .u64 v0)) (decide (v4 < (↑(List.length v1) : Int))) v5 v6 v7 v8 v9 va vb vc vd
 (fun ve vf vg vh vi vj vk vl vm vn vo vp vq vr vs => haystackref09_row_j16 ve vf vg vh vi vj vk vl vm vn vo vp vq vr vs
 (fun vt => K0 vt)
 (fun vu vv vw vx vy vz v10 v11 v12 v13 v14 v15 v16 v17 => rec vu vv vw vx (addW .i64 vy 1) vz v10 v11 v12 v13 v14 v15 v16 v17)))
 (haystackref09_row_j15 v0 v1 v2 v3 v4 (shlW .i64 (subW .i64 (List.getD v2 (Int.toNat v4) 0) v4) (cvtW .u64 v0)) false v5 v6 v7 v8 v9 va vb vc vd
 (fun v18 v19 v1a v1b v1c v1d v1e v1f v1g v1h v1i v1j v1k v1l v1m => haystackref09_row_j16 v18 v19 v1a v1b v1c v1d v1e v1f v1g v1h v1i v1j v1k v1l v1m
 (fun v1n => K0 v1n)
 (fun v1o v1p v1q v1r v1s v1t v1u v1v v1w v1x v1y v1z v20 v21 => rec v1o v1p v1q v1r (addW .i64 v1s 1) v1t v1u v1v v1w v1x v1y v1z v20 v21))))
 (none))
 (none))
 (none))
 (K1 v3 vd)
noncomputable def haystackref09_row_l11_L {R : Type} (K0 : Bool → Option R) (K1 : Nat → List Int → Option R) : Nat → Int → List Int → List Int → Nat → Int → Int → Int → Int → Int → Int → List Int → Int → List Int → List Int → Option R
 | 0, _, _, _, _, _, _, _, _, _, _, _, _, _, _ => none
 | N + 1, v0, v1, v2, v3, v4, v5, v6, v7, v8, v9, va, vb, vc, vd => haystackref09_row_l11_T (haystackref09_row_l11_L K0 K1 N) v0 v1 v2 v3 v4 v5 v6 v7 v8 v9 va vb vc vd K0 K1
noncomputable def haystackref09_row_l11_B {R : Type} (v0 : Int) (v1 v2 : List Int) (v3 : Nat) (v4 v5 v6 v7 v8 v9 : Int) (va : List Int) (vb : Int) (vc vd : List Int) (K0 : Bool → Option R) (K1 : Nat → List Int → Option R) : Option R :=
 haystackref09_row_l11_L K0 K1 NR v0 v1 v2 v3 v4 v5 v6 v7 v8 v9 va vb vc vd
noncomputable def haystackref09_row_l11 {R : Type} := shut (@haystackref09_row_l11_B R)
theorem haystackref09_row_l11_unf {R : Type} : @haystackref09_row_l11 R = @haystackref09_row_l11_B R := shut_eq _

noncomputable def haystackref09_row_j9_B {R : Type} (v0 : Int) (v1 v2 : List Int) (v3 v4 v5 v6 v7 : Int) (v8 : List Int) (v9 : Int) (va : List Int) (K0 : Bool → Option R) (K1 : Nat → Bool → List Int → Option R) : Option R :=
 haystackref09_row_l11 v0 v1 v2 0 0 v3 v4 v5 v6 v7 v8 v9 va []
 (fun vb => K0 vb)
 (fun vc vd => K1 vc true vd)
noncomputable def haystackref09_row_j9 {R : Type} := shut (@haystackref09_row_j9_B R)
theorem haystackref09_row_j9_unf {R : Type} : @haystackref09_row_j9 R = @haystackref09_row_j9_B R := shut_eq _

noncomputable def haystackref09_row_j5_B {R : Type} (v0 v1 v2 v3 v4 v5 : Int) (v6 : List Int) (v7 : Int) (v8 : List Int) (K0 : Bool → Option R) (K1 : Nat → Bool → List Int → Option R) : Option R :=
 haystackref03_List v3 v4 v5 v6
 (fun v9 => haystackref09_places v7 v8
 (fun va => sel (!decide ((↑(List.length va) : Int) = v2))
 (K0 false)
 (sel (decide (0 < v0))
 (sel (!decide ((↑(List.length v9) : Int) = v2))
 (K0 false)
 (haystackref09_row_j9 v0 v9 va v1 v2 v3 v4 v5 v6 v7 v8
 (fun vb => K0 vb)
 (fun vc vd ve => K1 vc vd ve)))
 (haystackref09_row_j9 v0 v9 va v1 v2 v3 v4 v5 v6 v7 v8
 (fun vf => K0 vf)
 (fun vg vh vi => K1 vg vh vi)))))
noncomputable def haystackref09_row_j5 {R : Type} := shut (@haystackref09_row_j5_B R)
theorem haystackref09_row_j5_unf {R : Type} : @haystackref09_row_j5 R = @haystackref09_row_j5_B R := shut_eq _

noncomputable def haystackref09_row_j4_B {R : Type} (v0 v1 v2 v3 v4 : Int) (v5 : List Int) (v6 : Int) (v7 : List Int) (K0 : Bool → Option R) (K1 : Nat → Bool → List Int → Option R) : Option R :=
 haystackref09_width v0 v1
 (fun v8 => haystackref09_row_j5 v8 v0 v1 v2 v3 v4 v5 v6 v7
 (fun v9 => K0 v9)
 (fun va vb vc => K1 va vb vc))
noncomputable def haystackref09_row_j4 {R : Type} := shut (@haystackref09_row_j4_B R)
theorem haystackref09_row_j4_unf {R : Type} : @haystackref09_row_j4 R = @haystackref09_row_j4_B R := shut_eq _

noncomputable def haystackref09_row_B {R : Type} (v0 v1 v2 v3 v4 : Int) (v5 : List Int) (v6 : Int) (v7 : List Int) (K0 : List Int → Bool → Option R) : Option R :=
 sel (decide (v0 < 0))
 (K0 [] false)
 (sel (decide (1048576 < v0))
 (K0 [] false)
 (sel (decide (v1 < 0))
 (K0 [] false)
 (sel (decide (v0 < v1))
 (K0 [] false)
 (haystackref03_Check v2 v3 v4 v5
 (fun v8 => sel (!v8)
 (K0 [] false)
 (haystackref02_Check v6 v7
 (fun v9 => sel (!v9)
 (K0 [] false)
 (haystackref09_row_j4 v0 v1 v2 v3 v4 v5 v6 v7
 (fun va => K0 [] va)
 (fun vb vc vd => sel (decide (vb = List.length vd))
 (K0 vd vc)
 (none))))))))))
noncomputable def haystackref09_row {R : Type} := shut (@haystackref09_row_B R)
theorem haystackref09_row_unf {R : Type} : @haystackref09_row R = @haystackref09_row_B R := shut_eq _

noncomputable def haystackref09_Whole_j7_B {R : Type} (v0 : List Int) (v1 : Bool) (v2 v3 v4 v5 v6 : Int) (v7 : List Int) (v8 : Int) (v9 : List Int) (va : Int) (K0 : Bool → Int → Option R) (K1 : List Int → Int → Int → Int → Int → Int → List Int → Int → List Int → Int → Option R) : Option R :=
 sel v1
 (K0 false 0)
 (K1 v0 v2 v3 v4 v5 v6 v7 v8 v9 va)
noncomputable def haystackref09_Whole_j7 {R : Type} := shut (@haystackref09_Whole_j7_B R)
theorem haystackref09_Whole_j7_unf {R : Type} : @haystackref09_Whole_j7 R = @haystackref09_Whole_j7_B R := shut_eq _

noncomputable def haystackref09_Whole_l10_T {R : Type} (rec : List Int → Nat → Int → Int → List Bool → Option R) (v0 : List Int) (v1 : Nat) (v2 v3 : Int) (v4 : List Bool) (K0 : Nat → Int → List Bool → Option R) : Option R :=
 sel (decide (v2 < (↑(List.length v0) : Int)))
 (sel (decide (0 ≤ v2))
 (sel (decide (v2 < (↑(List.length v0) : Int)))
 (sel (decide (0 ≤ List.getD v0 (Int.toNat v2) 0))
 (sel (decide (List.getD v0 (Int.toNat v2) 0 < (↑v1 : Int)))
 (sel (decide (Int.toNat (List.getD v0 (Int.toNat v2) 0) < List.length v4))
 (letV (List.set v4 (Int.toNat (List.getD v0 (Int.toNat v2) 0)) true) (fun (v5 : List Bool) =>
 rec v0 v1 (addW .i64 v2 1) v3 v5))
 (none))
 (none))
 (none))
 (none))
 (none))
 (K0 v1 v3 v4)
noncomputable def haystackref09_Whole_l10_L {R : Type} (K0 : Nat → Int → List Bool → Option R) : Nat → List Int → Nat → Int → Int → List Bool → Option R
 | 0, _, _, _, _, _ => none
 | N + 1, v0, v1, v2, v3, v4 => haystackref09_Whole_l10_T (haystackref09_Whole_l10_L K0 N) v0 v1 v2 v3 v4 K0
noncomputable def haystackref09_Whole_l10_B {R : Type} (v0 : List Int) (v1 : Nat) (v2 v3 : Int) (v4 : List Bool) (K0 : Nat → Int → List Bool → Option R) : Option R :=
 haystackref09_Whole_l10_L K0 NR v0 v1 v2 v3 v4
noncomputable def haystackref09_Whole_l10 {R : Type} := shut (@haystackref09_Whole_l10_B R)
theorem haystackref09_Whole_l10_unf {R : Type} : @haystackref09_Whole_l10 R = @haystackref09_Whole_l10_B R := shut_eq _

noncomputable def haystackref09_Whole_j8_B {R : Type} (v0 : List Int) (v1 _v2 _v3 _v4 _v5 : Int) (_v6 : List Int) (_v7 : Int) (_v8 : List Int) (v9 : Int) (K0 : Bool → Int → List Int → Option R) : Option R :=
 sel (decide (0 ≤ v1))
 (sel (decide (v1 ≤ v1))
 (sel (decide (v1 ≤ 281474976710656))
 (sel (decide ((↑1 : Int) * v1 ≤ 281474976710656))
 (letV (List.replicate (Int.toNat v1) false) (fun (va : List Bool) =>
 haystackref09_Whole_l10 v0 (Int.toNat v1) 0 v9 va
 (fun vb _ vd => sel (decide (vb = List.length vd))
 (sel (decide (vb = List.length vd))
 (haystackref02_From vd
 (fun ve vf _ => K0 true ve vf))
 (none))
 (none))))
 (none))
 (none))
 (none))
 (none)
noncomputable def haystackref09_Whole_j8 {R : Type} := shut (@haystackref09_Whole_j8_B R)
theorem haystackref09_Whole_j8_unf {R : Type} : @haystackref09_Whole_j8 R = @haystackref09_Whole_j8_B R := shut_eq _

noncomputable def haystackref09_Whole_B {R : Type} (v0 v1 v2 v3 v4 : Int) (v5 : List Int) (v6 : Int) (v7 : List Int) (K0 : Int → List Int → Bool → Option R) : Option R :=
 haystackref09_row v0 v1 v2 v3 v4 v5 v6 v7
 (fun v8 v9 => sel (!v9)
 (K0 0 [] false)
 (haystackref09_of v0 v8
 (fun va vb vc vd ve vf vg vh vi => sel (!decide (vi = 0))
 (haystackref09_Whole_j7 v8 true v0 v1 v2 v3 v4 v5 v6 v7 0
 (fun vj vk => K0 vk [] vj)
 (fun vl vm vn vo vp vq vr vs vt vu => haystackref09_Whole_j8 vl vm vn vo vp vq vr vs vt vu
 (fun vv vw vx => K0 vw vx vv)))
 (haystackref09_Same v0 v1 v2 v3 v4 v5 v6 v7 va vb vc vd ve vf vg vh
 (fun vy => haystackref09_Whole_j7 v8 (!vy) v0 v1 v2 v3 v4 v5 v6 v7 0
 (fun vz v10 => K0 v10 [] vz)
 (fun v11 v12 v13 v14 v15 v16 v17 v18 v19 v1a => haystackref09_Whole_j8 v11 v12 v13 v14 v15 v16 v17 v18 v19 v1a
 (fun v1b v1c v1d => K0 v1c v1d v1b)))))))
noncomputable def haystackref09_Whole {R : Type} := shut (@haystackref09_Whole_B R)
theorem haystackref09_Whole_unf {R : Type} : @haystackref09_Whole R = @haystackref09_Whole_B R := shut_eq _

noncomputable def haystackref09_Check_B {R : Type} (v0 v1 v2 v3 v4 : Int) (v5 : List Int) (v6 : Int) (v7 : List Int) (K0 : Bool → Option R) : Option R :=
 haystackref09_Whole v0 v1 v2 v3 v4 v5 v6 v7
 (fun _ _ va => K0 va)
noncomputable def haystackref09_Check {R : Type} := shut (@haystackref09_Check_B R)
theorem haystackref09_Check_unf {R : Type} : @haystackref09_Check R = @haystackref09_Check_B R := shut_eq _

noncomputable def haystackref09_Size_B {R : Type} (v0 v1 v2 v3 v4 : Int) (v5 : List Int) (v6 : Int) (v7 : List Int) (K0 : Int → Option R) : Option R :=
 haystackref09_Check v0 v1 v2 v3 v4 v5 v6 v7
 (fun v8 => sel (!v8)
 (K0 0)
 (K0 (addW .i64 (addW .i64 v4 v6) 64)))
noncomputable def haystackref09_Size {R : Type} := shut (@haystackref09_Size_B R)
theorem haystackref09_Size_unf {R : Type} : @haystackref09_Size R = @haystackref09_Size_B R := shut_eq _

noncomputable def haystacklaw09_FanoBuilds_j4_B {R : Type} (v0 : Int) (v1 : List Int) (K0 : Bool → Option R) : Option R :=
 fano_Build v0 v1
 (fun v2 v3 v4 v5 v6 v7 v8 v9 va => haystackref09_Build v0 v1
 (fun vb vc vd ve vf vg vh vi vj => haystackref09_Same v2 v3 v4 v5 v6 v7 v8 v9 vb vc vd ve vf vg vh vi
 (fun vk => sel vk
 (sel (decide (va = vj))
 (fano_Size v2 v3 v4 v5 v6 v7 v8 v9
 (fun vl => haystackref09_Size vb vc vd ve vf vg vh vi
 (fun vm => sel (decide (vl = vm))
 (haystacklaw09_heads 
 (fun vn => K0 vn))
 (K0 false))))
 (K0 false))
 (K0 false))))
noncomputable def haystacklaw09_FanoBuilds_j4 {R : Type} := shut (@haystacklaw09_FanoBuilds_j4_B R)
theorem haystacklaw09_FanoBuilds_j4_unf {R : Type} : @haystacklaw09_FanoBuilds_j4 R = @haystacklaw09_FanoBuilds_j4_B R := shut_eq _

noncomputable def haystacklaw09_FanoBuilds_B {R : Type} (v0 : Int) (v1 : List Int) (K0 : Bool → Option R) : Option R :=
 sel (decide (3000 < v0))
 (haystacklaw09_heads 
 (fun v2 => K0 v2))
 (sel (decide (3000 < (↑(List.length v1) : Int)))
 (haystacklaw09_heads 
 (fun v3 => K0 v3))
 (haystacklaw09_FanoBuilds_j4 v0 v1
 (fun v4 => K0 v4)))
noncomputable def haystacklaw09_FanoBuilds {R : Type} := shut (@haystacklaw09_FanoBuilds_B R)
theorem haystacklaw09_FanoBuilds_unf {R : Type} : @haystacklaw09_FanoBuilds R = @haystacklaw09_FanoBuilds_B R := shut_eq _

noncomputable def haystacklaw09_small_B {R : Type} (v0 v1 v2 _v3 _v4 : Int) (v5 : List Int) (_v6 : Int) (v7 : List Int) (K0 : Bool → Option R) : Option R :=
 sel (decide (v0 ≤ 3000))
 (sel (decide (v1 ≤ 3000))
 (sel (decide (v2 ≤ 3000))
 (sel (decide ((↑(List.length v5) : Int) ≤ 3000))
 (K0 (decide ((↑(List.length v7) : Int) ≤ 3000)))
 (K0 false))
 (K0 false))
 (K0 false))
 (K0 false)
noncomputable def haystacklaw09_small {R : Type} := shut (@haystacklaw09_small_B R)
theorem haystacklaw09_small_unf {R : Type} : @haystacklaw09_small R = @haystacklaw09_small_B R := shut_eq _

noncomputable def haystackref02_Get_j6_B {R : Type} (v0 v1 : Int) (v2 : List Int) (K0 : Bool → Int → Option R) : Option R :=
 haystackref02_At v1 v2 v0
 (fun v3 => K0 v3 0)
noncomputable def haystackref02_Get_j6 {R : Type} := shut (@haystackref02_Get_j6_B R)
theorem haystackref02_Get_j6_unf {R : Type} : @haystackref02_Get_j6 R = @haystackref02_Get_j6_B R := shut_eq _

noncomputable def haystackref02_Get_B {R : Type} (v0 : Int) (v1 : List Int) (v2 : Int) (K0 : Bool → Int → Option R) : Option R :=
 haystackref02_Check v0 v1
 (fun v3 => sel (!v3)
 (K0 false 2)
 (sel (decide (v2 < 0))
 (K0 false 3)
 (sel (decide (v0 ≤ v2))
 (K0 false 3)
 (haystackref02_Get_j6 v2 v0 v1
 (fun v4 v5 => K0 v4 v5)))))
noncomputable def haystackref02_Get {R : Type} := shut (@haystackref02_Get_B R)
theorem haystackref02_Get_unf {R : Type} : @haystackref02_Get R = @haystackref02_Get_B R := shut_eq _

noncomputable def haystackref09_Access_B {R : Type} (v0 v1 v2 v3 v4 : Int) (v5 : List Int) (v6 : Int) (v7 : List Int) (v8 : Int) (K0 : Bool → Int → Option R) : Option R :=
 haystackref09_Whole v0 v1 v2 v3 v4 v5 v6 v7
 (fun v9 va vb => sel (!vb)
 (K0 false 2)
 (haystackref02_Get v9 va v8
 (fun vc vd => K0 vc vd)))
noncomputable def haystackref09_Access {R : Type} := shut (@haystackref09_Access_B R)
theorem haystackref09_Access_unf {R : Type} : @haystackref09_Access R = @haystackref09_Access_B R := shut_eq _

noncomputable def haystackref02_Ones_j6_B {R : Type} (v0 v1 v2 v3 : Int) (v4 : List Int) (K0 : Int → Int → Int → Int → List Int → Option R) : Option R :=
 haystackref02_At v3 v4 v2
 (fun v5 => sel v5
 (K0 v0 (addW .i64 v1 1) (addW .i64 v2 1) v3 v4)
 (K0 v0 v1 (addW .i64 v2 1) v3 v4))
noncomputable def haystackref02_Ones_j6 {R : Type} := shut (@haystackref02_Ones_j6_B R)
theorem haystackref02_Ones_j6_unf {R : Type} : @haystackref02_Ones_j6 R = @haystackref02_Ones_j6_B R := shut_eq _

noncomputable def haystackref02_Ones_l4_T {R : Type} (rec : Int → Int → Int → Int → List Int → Option R) (v0 v1 v2 v3 : Int) (v4 : List Int) (K0 : Int → Option R) : Option R :=
 sel (decide (v2 < v0))
 (sel (decide (v2 < v3))
 (haystackref02_Check v3 v4
 (fun v5 => sel v5
 (haystackref02_Ones_j6 v0 v1 v2 v3 v4
 (fun v6 v7 v8 v9 va => rec v6 v7 v8 v9 va))
 (K0 v1)))
 (K0 v1))
 (K0 v1)
noncomputable def haystackref02_Ones_l4_L {R : Type} (K0 : Int → Option R) : Nat → Int → Int → Int → Int → List Int → Option R
 | 0, _, _, _, _, _ => none
 | N + 1, v0, v1, v2, v3, v4 => haystackref02_Ones_l4_T (haystackref02_Ones_l4_L K0 N) v0 v1 v2 v3 v4 K0
noncomputable def haystackref02_Ones_l4_B {R : Type} (v0 v1 v2 v3 : Int) (v4 : List Int) (K0 : Int → Option R) : Option R :=
 haystackref02_Ones_l4_L K0 NR v0 v1 v2 v3 v4
noncomputable def haystackref02_Ones_l4 {R : Type} := shut (@haystackref02_Ones_l4_B R)
theorem haystackref02_Ones_l4_unf {R : Type} : @haystackref02_Ones_l4 R = @haystackref02_Ones_l4_B R := shut_eq _

noncomputable def haystackref02_Ones_B {R : Type} (v0 : Int) (v1 : List Int) (v2 : Int) (K0 : Int → Option R) : Option R :=
 haystackref02_Ones_l4 v2 0 0 v0 v1
 (fun v3 => K0 v3)
noncomputable def haystackref02_Ones {R : Type} := shut (@haystackref02_Ones_B R)
theorem haystackref02_Ones_unf {R : Type} : @haystackref02_Ones R = @haystackref02_Ones_B R := shut_eq _

noncomputable def haystackref09_Rank_j7_B {R : Type} (v0 : Bool) (v1 v2 : Int) (v3 : List Int) (K0 : Int → Int → Option R) : Option R :=
 haystackref02_Ones v2 v3 v1
 (fun v4 => sel (!v0)
 (K0 (subW .i64 v1 v4) 0)
 (K0 v4 0))
noncomputable def haystackref09_Rank_j7 {R : Type} := shut (@haystackref09_Rank_j7_B R)
theorem haystackref09_Rank_j7_unf {R : Type} : @haystackref09_Rank_j7 R = @haystackref09_Rank_j7_B R := shut_eq _

noncomputable def haystackref09_Rank_B {R : Type} (v0 v1 v2 v3 v4 : Int) (v5 : List Int) (v6 : Int) (v7 : List Int) (v8 : Bool) (v9 : Int) (K0 : Int → Int → Option R) : Option R :=
 haystackref09_Whole v0 v1 v2 v3 v4 v5 v6 v7
 (fun va vb vc => sel (!vc)
 (K0 0 2)
 (sel (decide (v9 < 0))
 (K0 0 3)
 (sel (decide (va < v9))
 (K0 0 3)
 (haystackref09_Rank_j7 v8 v9 va vb
 (fun vd ve => K0 vd ve)))))
noncomputable def haystackref09_Rank {R : Type} := shut (@haystackref09_Rank_B R)
theorem haystackref09_Rank_unf {R : Type} : @haystackref09_Rank R = @haystackref09_Rank_B R := shut_eq _

noncomputable def haystackref09_Select_l7_T {R : Type} (rec : Bool → Int → Int → Int → Int → List Int → Option R) (v0 : Bool) (v1 v2 v3 v4 : Int) (v5 : List Int) (K0 : Int → Int → Option R) (K1 : Unit → Option R) : Option R :=
 sel (decide (v3 < v4))
 (haystackref02_At v4 v5 v3
 (fun v6 => sel (!v6 == v0)
 (rec v0 v1 v2 (addW .i64 v3 1) v4 v5)
 (sel (decide (v2 = v1))
 (K0 v3 0)
 (rec v0 v1 (addW .i64 v2 1) (addW .i64 v3 1) v4 v5))))
 (K1 ())
noncomputable def haystackref09_Select_l7_L {R : Type} (K0 : Int → Int → Option R) (K1 : Unit → Option R) : Nat → Bool → Int → Int → Int → Int → List Int → Option R
 | 0, _, _, _, _, _, _ => none
 | N + 1, v0, v1, v2, v3, v4, v5 => haystackref09_Select_l7_T (haystackref09_Select_l7_L K0 K1 N) v0 v1 v2 v3 v4 v5 K0 K1
noncomputable def haystackref09_Select_l7_B {R : Type} (v0 : Bool) (v1 v2 v3 v4 : Int) (v5 : List Int) (K0 : Int → Int → Option R) (K1 : Unit → Option R) : Option R :=
 haystackref09_Select_l7_L K0 K1 NR v0 v1 v2 v3 v4 v5
noncomputable def haystackref09_Select_l7 {R : Type} := shut (@haystackref09_Select_l7_B R)
theorem haystackref09_Select_l7_unf {R : Type} : @haystackref09_Select_l7 R = @haystackref09_Select_l7_B R := shut_eq _

noncomputable def haystackref09_Select_B {R : Type} (v0 v1 v2 v3 v4 : Int) (v5 : List Int) (v6 : Int) (v7 : List Int) (v8 : Bool) (v9 : Int) (K0 : Int → Int → Option R) : Option R :=
 haystackref09_Whole v0 v1 v2 v3 v4 v5 v6 v7
 (fun va vb vc => sel (!vc)
 (K0 0 2)
 (haystackref09_Select_l7 v8 v9 0 0 va vb
 (fun vd ve => K0 vd ve)
 (fun _ => K0 0 3)))
noncomputable def haystackref09_Select {R : Type} := shut (@haystackref09_Select_B R)
theorem haystackref09_Select_unf {R : Type} : @haystackref09_Select R = @haystackref09_Select_B R := shut_eq _

noncomputable def haystackref09_Bits_B {R : Type} (v0 v1 v2 v3 v4 : Int) (v5 : List Int) (v6 : Int) (v7 : List Int) (K0 : Int → List Int → Option R) : Option R :=
 haystackref09_Whole v0 v1 v2 v3 v4 v5 v6 v7
 (fun v8 v9 _ => K0 v8 v9)
noncomputable def haystackref09_Bits {R : Type} := shut (@haystackref09_Bits_B R)
theorem haystackref09_Bits_unf {R : Type} : @haystackref09_Bits R = @haystackref09_Bits_B R := shut_eq _

noncomputable def haystacklaw09_FanoTells_j12_B {R : Type} (v0 v1 v2 v3 v4 : Int) (v5 : List Int) (v6 : Int) (v7 : List Int) (K0 : Bool → Option R) : Option R :=
 fano_Check v0 v1 v2 v3 v4 v5 v6 v7
 (fun v8 => haystackref09_Check v0 v1 v2 v3 v4 v5 v6 v7
 (fun v9 => sel (v8 == v9)
 (fano_Size v0 v1 v2 v3 v4 v5 v6 v7
 (fun va => haystackref09_Size v0 v1 v2 v3 v4 v5 v6 v7
 (fun vb => sel (decide (va = vb))
 (fano_Bits v0 v1 v2 v3 v4 v5 v6 v7
 (fun vc vd => haystackref09_Bits v0 v1 v2 v3 v4 v5 v6 v7
 (fun ve vf => haystackref02_Same vc vd ve vf
 (fun vg => sel vg
 (haystacklaw09_heads 
 (fun vh => K0 vh))
 (K0 false)))))
 (K0 false))))
 (K0 false)))
noncomputable def haystacklaw09_FanoTells_j12 {R : Type} := shut (@haystacklaw09_FanoTells_j12_B R)
theorem haystacklaw09_FanoTells_j12_unf {R : Type} : @haystacklaw09_FanoTells_j12 R = @haystacklaw09_FanoTells_j12_B R := shut_eq _

noncomputable def haystacklaw09_FanoTells_j5_B {R : Type} (v0 : Bool) (v1 : Int) (v2 : Bool) (v3 v4 v5 v6 v7 v8 : Int) (v9 : List Int) (va : Int) (vb : List Int) (K0 : Bool → Option R) : Option R :=
 haystackref09_Access v4 v5 v6 v7 v8 v9 va vb v1
 (fun vc vd => fano_Rank v4 v5 v6 v7 v8 v9 va vb v0 v1
 (fun ve vf => haystackref09_Rank v4 v5 v6 v7 v8 v9 va vb v0 v1
 (fun vg vh => fano_Select v4 v5 v6 v7 v8 v9 va vb v0 v1
 (fun vi vj => haystackref09_Select v4 v5 v6 v7 v8 v9 va vb v0 v1
 (fun vk vl => sel (!v2 == vc)
 (K0 false)
 (sel (!decide (v3 = vd))
 (K0 false)
 (sel (!decide (ve = vg))
 (K0 false)
 (sel (!decide (vf = vh))
 (K0 false)
 (sel (!decide (vi = vk))
 (K0 false)
 (sel (!decide (vj = vl))
 (K0 false)
 (haystacklaw09_FanoTells_j12 v4 v5 v6 v7 v8 v9 va vb
 (fun vm => K0 vm))))))))))))
noncomputable def haystacklaw09_FanoTells_j5 {R : Type} := shut (@haystacklaw09_FanoTells_j5_B R)
theorem haystacklaw09_FanoTells_j5_unf {R : Type} : @haystacklaw09_FanoTells_j5 R = @haystacklaw09_FanoTells_j5_B R := shut_eq _

noncomputable def haystacklaw09_FanoTells_B {R : Type} (v0 v1 v2 v3 v4 : Int) (v5 : List Int) (v6 : Int) (v7 : List Int) (v8 : Bool) (v9 : Int) (K0 : Bool → Option R) : Option R :=
 haystacklaw09_small v0 v1 v2 v3 v4 v5 v6 v7
 (fun va => sel (!va)
 (haystacklaw09_heads 
 (fun vb => K0 vb))
 (fano_Access v0 v1 v2 v3 v4 v5 v6 v7 v9
 (fun vc vd => haystacklaw09_FanoTells_j5 v8 v9 vc vd v0 v1 v2 v3 v4 v5 v6 v7
 (fun ve => K0 ve))))
noncomputable def haystacklaw09_FanoTells {R : Type} := shut (@haystacklaw09_FanoTells_B R)
theorem haystacklaw09_FanoTells_unf {R : Type} : @haystacklaw09_FanoTells R = @haystacklaw09_FanoTells_B R := shut_eq _

/-- what is kept where -/
def kpt : List (Nat × List (Nat × List Nat)) := [(5, [(4002, [2]), (4001, [2]), (4000, [1])]), (6, [(12002, [6]), (12001, [6]), (12000, [3]), (5002, [6]), (5001, [6]), (5000, [1, 2, 3, 7, 8])]), (11, [(4002, [2]), (4001, [2]), (4000, [1])]), (12, [(999999999, []), (999999998, []), (9000, [1, 2, 3, 4, 5, 6, 7, 8, 9, 10, 12, 14, 999999]), (8000, [1, 2, 3, 4, 5, 6, 7, 8, 9, 10, 12, 999999]), (7000, [1, 2, 3, 4, 5, 6, 7, 8, 9, 10, 999999]), (6000, [1, 2, 3, 4, 5, 6, 7, 8, 999999]), (5000, [1, 2, 3, 4, 5, 6, 999999]), (4002, [0]), (4001, [0]), (4000, [1, 2, 3, 4, 999999]), (3000, [1, 2, 999999]), (2000, [999999])]), (13, [(999999998, []), (14002, [2, 3]), (14001, [2, 4]), (14000, [2, 4, 59])]), (14, [(999999998, []), (6002, [6, 7]), (6001, [6, 7]), (6000, [1, 2, 3])]), (15, [(999999998, []), (6002, [4, 5]), (6001, [4, 5]), (6000, [1, 2])]), (16, [(6003, [5]), (6002, [4]), (6001, [1, 2, 5, 6]), (6000, [1, 2, 5, 6]), (4403, [5]), (4402, [4]), (4401, []), (4400, [1, 2, 5, 6])]), (17, [(999999998, [])]), (18, [(999999998, [])]), (19, [(999999998, [])]), (20, [(999999998, [])]), (21, [(2000, [1, 999999])]), (22, [(999999998, [])]), (23, [(999999998, []), (7002, [6, 7]), (7001, [6, 7]), (7000, [1, 2, 8])]), (24, [(999999998, []), (12404, [9]), (12402, [6, 7]), (12401, []), (12400, [2, 3, 9, 10]), (11002, [6, 7]), (11001, [6, 7]), (11000, [2, 3]), (8003, [2, 3]), (8002, [6, 7]), (8001, [2, 3]), (8000, [1, 2, 3, 25]), (5002, [6, 7]), (5001, [6, 7]), (5000, [1, 2, 3, 8])]), (25, [(999999998, []), (7403, []), (7402, [6, 7]), (7401, []), (7400, [1, 2, 8, 10, 11])]), (26, [(999999998, [])]), (27, [(999999998, [])]), (28, [(5403, []), (5402, [4]), (5401, []), (5400, [2, 3, 5]), (4002, [4]), (4001, [4]), (4000, [2, 3])]), (29, [(999999998, [])]), (30, [(999999998, [])]), (40, [(6003, [3]), (6002, [2]), (6001, [0, 3, 4]), (6000, [0, 3, 4]), (4403, [3]), (4402, [2]), (4401, []), (4400, [0, 3, 4])]), (41, [(4002, [2]), (4001, [2]), (4000, [1])]), (42, [(7403, [1, 2, 5]), (7402, [4]), (7401, []), (7400, [1, 2, 5, 20, 21, 22])]), (43, [(999999998, [])]), (44, [(999999998, [])]), (45, [(999999998, []), (5002, [6]), (5001, [6]), (5000, [3])]), (47, [(6403, [0, 1, 4, 6]), (6402, [4, 5]), (6401, []), (6400, [0, 1, 4, 6, 34, 35, 36]), (4002, [4, 5]), (4001, [4, 5]), (4000, [0, 1, 4]), (3002, [4, 5]), (3001, [0, 1, 4]), (3000, [0, 1, 4, 28])]), (48, [(6403, [2, 4]), (6402, [2, 3]), (6401, []), (6400, [2, 4, 18, 19, 20])]), (49, [(999999998, []), (3403, [5]), (3402, [4]), (3401, []), (3400, [1, 2, 5, 6])]), (51, [(999999998, []), (16002, [4, 5]), (16001, [4, 5]), (16000, [4, 7, 11, 13]), (15002, [4, 5]), (15001, [4, 7, 11, 13]), (15000, [4, 7, 11, 13, 80]), (7403, [4, 6, 7, 8, 9]), (7402, [4, 5]), (7401, []), (7400, [1, 4, 6, 7, 8, 9, 10, 5000009000])]), (52, [(999999998, []), (4403, [3]), (4402, [2]), (4401, []), (4400, [1, 3, 4, 3000003000])]), (54, [(999999998, []), (10403, [2, 8]), (10402, [2, 3]), (10401, []), (10400, [2, 4, 8, 9]), (8002, [2, 3]), (8001, [2, 3]), (8000, [1, 2, 4]), (7002, [2, 3]), (7001, [1, 2, 4]), (7000, [1, 2, 4, 34])]), (55, [(6002, [4, 5]), (6001, [4, 5]), (6000, [1, 2])]), (56, [(999999998, []), (5403, [1, 2, 5, 7]), (5402, [4]), (5401, []), (5400, [1, 2, 5, 6, 7, 22, 23, 24])]), (57, [(999999998, []), (16002, [2, 3]), (16001, [2, 9]), (16000, [2, 9, 133]), (15002, [2, 3]), (15001, [2, 3]), (15000, [2, 9, 12, 13]), (7002, [2, 3]), (7001, [2, 3]), (7000, [1, 2, 4, 5, 6]), (4002, [2, 3]), (4001, [2, 3]), (4000, [1, 2]), (3002, [2, 3]), (3001, [1, 2]), (3000, [1, 2, 45])]), (58, [(12002, [6, 7]), (12001, [6, 7]), (12000, [2, 10]), (8002, [6, 7]), (8001, [6, 7]), (8000, [1, 2, 3]), (5003, [1, 2, 3]), (5002, [6, 7]), (5001, [1, 2, 3]), (5000, [1, 2, 3, 23]), (3003, [1, 2, 3]), (3002, [6, 7]), (3001, [1, 2, 3]), (3000, [1, 2, 3, 11])]), (61, [(4002, [6, 7]), (4001, [6, 7]), (4000, [1, 2, 3, 6]), (3002, [6, 7]), (3001, [1, 2, 3, 6]), (3000, [1, 2, 3, 6, 26])]), (68, [(5403, [0]), (5402, [4]), (5401, []), (5400, [0, 13, 14]), (4002, [4]), (4001, [4]), (4000, [0, 1])]), (73, [(999999998, []), (4403, []), (4404, [0, 6, 7, 8]), (4405, [0, 6, 7, 8]), (4402, []), (4401, []), (4400, [0, 3, 4, 6, 7, 8, 5000000401]), (2403, []), (2402, []), (2401, []), (2400, [0, 6, 7, 8, 5000000401])]), (74, [(4403, [3]), (4402, [2]), (4401, []), (4400, [3, 6, 7, 8])]), (75, [(4002, [2, 3]), (4001, [2, 3]), (4000, [0, 2]), (3002, [2, 3]), (3001, [0, 2]), (3000, [0, 2, 9])]), (76, [(999999998, [])]), (77, [(999999998, []), (11403, [0, 1, 4, 6]), (11404, [0, 1, 4, 6, 7]), (11405, [0, 1, 4, 6, 7]), (11402, [4, 5]), (11401, []), (11400, [0, 1, 4, 6, 7, 8, 9000006000]), (6403, [0, 1, 4, 6]), (6402, [4, 5]), (6401, []), (6400, [0, 1, 4, 6, 7, 9000006000]), (4002, [4, 5]), (4001, [4, 5]), (4000, [0, 1, 4]), (3002, [4, 5]), (3001, [0, 1, 4]), (3000, [0, 1, 4, 28])]), (78, [(4403, [2, 4, 5]), (4402, [2, 3]), (4401, []), (4400, [0, 2, 4, 5, 6])]), (79, [(999999998, []), (18003, [7]), (18004, [1, 4, 5, 6, 7, 8]), (18002, [2, 3]), (18001, [1, 4, 5, 6, 7, 8]), (18000, [1, 4, 5, 6, 7, 8, 9]), (16003, [7]), (16004, [1, 4, 5, 6, 7, 8]), (16002, [2, 3]), (16001, [1, 4, 5, 6, 7, 8]), (16000, [1, 4, 5, 6, 7, 8, 9]), (15003, [7]), (15004, [1, 4, 5, 6, 7, 8]), (15002, [2, 3]), (15001, [1, 4, 5, 6, 7, 8, 9]), (15000, [1, 4, 5, 6, 7, 8, 9, 91]), (11403, [7]), (11402, [2, 3]), (11401, []), (11400, [1, 4, 5, 6, 7, 8, 3000007000]), (9002, [2, 3]), (9001, [2, 3]), (9000, [1, 4, 5, 6]), (5002, [2, 3]), (5001, [2, 3]), (5000, [1, 4]), (4002, [2, 3]), (4001, [2, 3]), (4000, [1])]), (82, [(6403, [3]), (6402, [2]), (6401, []), (6400, [1, 3, 12, 13])]), (83, [(999999998, []), (8002, [8]), (8001, [8]), (8000, [1, 5]), (6002, [8]), (6001, [8]), (6000, [1, 5, 6, 9]), (5002, [8]), (5001, [8]), (5000, [1, 4, 5, 6, 9]), (4002, [8]), (4001, [1, 4, 5, 6, 9]), (4000, [1, 2, 3, 4, 5, 6, 9, 22])]), (84, [(5403, []), (5402, [4]), (5401, []), (5400, [0, 1, 12, 13])]), (87, [(6002, []), (6001, []), (6000, [2, 3, 6, 7, 36]), (5002, []), (5001, []), (5000, [2, 3, 6, 7])]), (95, [(11002, [2]), (11001, [2]), (11000, [0, 2]), (8002, [2]), (8001, [2]), (8000, [0, 2]), (5002, [2]), (5001, [2]), (5000, [0, 2])]), (96, [(3403, []), (3402, [2]), (3401, []), (3400, [0, 3])]), (98, [(4002, [2, 3]), (4001, [2, 3]), (4000, [0, 2]), (3002, [2, 3]), (3001, [0, 2]), (3000, [0, 2, 9])]), (101, [(6003, [3]), (6002, [2]), (6001, [1, 3, 4]), (6000, [1, 3, 4]), (4403, [3]), (4402, [2]), (4401, []), (4400, [1, 3, 4, 5000003000])]), (102, [(5003, []), (5002, [4]), (5001, []), (5000, [12])]), (108, [(6002, [4, 5]), (6001, [4, 5]), (6000, [1, 2])]), (110, [(8403, [8]), (8402, [6, 7]), (8401, []), (8400, [1, 2, 3, 8, 9]), (6002, [6, 7]), (6001, [6, 7]), (6000, [1, 2, 3]), (4002, [6, 7]), (4001, [6, 7]), (4000, [1, 2, 3])])]
/-- what is handed back open -/
def lvt : List (Nat × List Nat) := [(61, [86]), (48, [75]), (13, [44]), (57, [44]), (78, [98])]
noncomputable def V (f : FuncId) : Env := env (keepOf kpt) (vsOf (match lkN lvt f with | some l => l | none => []))
theorem D0 : Dom B0 V B0 T0 0 := Dom.nil base_nat

noncomputable def sp70 : Ev.Spec := fun args _ K => match args with
 | ([Ai v0]) => bits_words v0 (fun v1 => K (Ai v1))
 | _ => none
noncomputable def S70 := addS 70 sp70 B0
theorem D1 : Dom B0 V S70 T0 1 := Dom.s (m := 0) (n := 0) D0 D0 (O := (fun _ => none)) (fun _ _ _ _ => OrcOk.none _ _) fun args R K r h => by
 unfold sp70 at h; split at h
 · rw [bits_words_unf] at h; exact Eq.trans (by kernel_rfl) h
 · cases h

noncomputable def sp46 : Ev.Spec := fun args _ K => match args with
 | ([Ai v0]) => word_Mask v0 (fun v1 => K (Au v1))
 | _ => none
noncomputable def S46 := addS 46 sp46 S70
theorem D2 : Dom B0 V S46 T0 2 := Dom.s (m := 1) (n := 0) D1 D1 (O := (fun _ => none)) (fun _ _ _ _ => OrcOk.none _ _) fun args R K r h => by
 unfold sp46 at h; split at h
 · rw [word_Mask_unf] at h; exact Eq.trans (by kernel_rfl) h
 · cases h

noncomputable def o41_4000_in {R : Type} (K : Ex → St → Option R) (vs : List AV) (hh : H) : Option R := match vs, hh with
 | [Ap 0 0], [HA [Ai v0, Fu v1]] => bits_Check_j4 v0 v1 (fun v2 => K (Ex.ret) (St.mk (spread 40 0 [2] [Ab v2]) []))
 | _, _ => none

noncomputable def o41 : Nat → Option PSpec := lkN [(4000, fun st _ K => pickM 40 [1] st (o41_4000_in K))]
noncomputable def q41 : CallF := evFun (V 41) S46 T0 10

noncomputable def c41_4000 : Code := subC [1, 1] (bodyOf Tryd.f41)

theorem p41_4000 : PieceOk (V 41) q41 o41 41 0 (3998, 0, c41_4000) := .s (size := 40) (ss := [1]) (F := @o41_4000_in) (by kernel_rfl) fun R r K vs hh h => by
  unfold o41_4000_in at h; split at h
  · rw [bits_Check_j4_unf] at h; exact Eq.trans (by kernel_rfl) h
  · cases h

theorem pc41 : ∀ x ∈ [(3998, 0, c41_4000)], PieceOk (V 41) q41 o41 41 0 x := List.forall_mem_cons.2 ⟨p41_4000, fun _ h => nomatch h⟩

noncomputable def sp41 : Ev.Spec := fun args _ K => match args with
 | ([AV.agg (Blk.any [Ai v0, Fu v1])]) => bits_Check v0 v1 (fun v2 => K (Ab v2))
 | _ => none
noncomputable def S41 := addS 41 sp41 S46
theorem D3 : Dom B0 V S41 T0 3 := Dom.s (m := 2) (n := 0) D2 D2 (O := o41) (OrcOk.fn (fn0 := Tryd.f41) (by kernel_rfl) (by kernel_rfl) pc41) fun args R K r h => by
 unfold sp41 at h; split at h
 · rw [bits_Check_unf] at h; exact Eq.trans (by kernel_rfl) h
 · cases h

theorem math_bits_OnesCount64_eq {R : Type} (K : AV → Option R) (v0 : Int) : evSpec (V 94) S41 T0 (fun _ => none) 10 94 ([Au v0]) R K = math_bits_OnesCount64_B v0 (fun v1 => K (Ai v1)) := by kernel_rfl

noncomputable def sp94 : Ev.Spec := fun args _ K => match args with
 | ([Au v0]) => math_bits_OnesCount64 v0 (fun v1 => K (Ai v1))
 | _ => none
noncomputable def S94 := addS 94 sp94 S41
theorem D4 : Dom B0 V S94 T0 4 := Dom.s (m := 3) (n := 0) D3 D3 (O := (fun _ => none)) (fun _ _ _ _ => OrcOk.none _ _) fun args R K r h => by
 unfold sp94 at h; split at h
 · rw [math_bits_OnesCount64_unf] at h; exact (math_bits_OnesCount64_eq K _).trans h
 · cases h

noncomputable def sp69 : Ev.Spec := fun args _ K => match args with
 | ([Au v0]) => word_Pop v0 (fun v1 => K (Ai v1))
 | _ => none
noncomputable def S69 := addS 69 sp69 S94
theorem D5 : Dom B0 V S69 T0 5 := Dom.s (m := 4) (n := 0) D4 D4 (O := (fun _ => none)) (fun _ _ _ _ => OrcOk.none _ _) fun args R K r h => by
 unfold sp69 at h; split at h
 · rw [word_Pop_unf] at h; exact Eq.trans (by kernel_rfl) h
 · cases h

noncomputable def sp71 : Ev.Spec := fun args _ K => match args with
 | ([Au v0, Ai v1]) => word_Rank v0 v1 (fun v2 => K (Ai v2))
 | _ => none
noncomputable def S71 := addS 71 sp71 S69
theorem D6 : Dom B0 V S71 T0 6 := Dom.s (m := 5) (n := 0) D5 D5 (O := (fun _ => none)) (fun _ _ _ _ => OrcOk.none _ _) fun args R K r h => by
 unfold sp71 at h; split at h
 · rw [word_Rank_unf] at h; exact Eq.trans (by kernel_rfl) h
 · cases h

noncomputable def o42_7400_in {R : Type} (K : Ex → St → Option R) (vs : List AV) (hh : H) : Option R := match vs, hh with
 | [Ai v0, Ap 0 0, Ai v1, Fu v2, Ai v3, Ai v4], [HA [Ai v5, Fu v6]] => bits_Ones_l7 v0 v1 v2 v3 v4 v5 v6 (fun v7 v8 v9 va => K (Ex.exit 0) (St.mk (spread 46 0 [1, 2, 5] [Ai v7, Ap 0 0, Ai v8]) [HA [Ai v9, Fu va]]))
 | _, _ => none

noncomputable def o42 : Nat → Option PSpec := lkN [(7400, fun st _ K => pickM 46 [1, 2, 5, 20, 21, 22] st (o42_7400_in K))]
noncomputable def q42 : CallF := evFun (V 42) S71 T0 10

noncomputable def c42_7400 : Code := subC [1, 1, 1, 1, 0, 1, 0, 0] (bodyOf Tryd.f42)

noncomputable def lp42_7400 {R : Type} (N : Nat) (st : St) (K : Ex → St → Option R) : Option R := evLoop (norm ((V 42).keep 42 (Ev.keyOf c42_7400 * 1000 + 400)) 0) (evCode (V 42) q42 o42 42 0 3992 c42_7400) N st (kOut (V 42) 42 0 (Ev.keyOf c42_7400 * 1000 + 401) K)

theorem bits_Ones_l7_L_eq {R : Type} (K : Ex → St → Option R) : ∀ N : Nat, (fun (v0 v1 : Int) (v2 : List Int) (v3 v4 v5 : Int) (v6 : List Int) => lp42_7400 N (St.mk (spread 46 0 [1, 2, 5, 20, 21, 22] [Ai v0, Ap 0 0, Ai v1, Fu v2, Ai v3, Ai v4]) [HA [Ai v5, Fu v6]]) K) = bits_Ones_l7_L (fun v7 v8 v9 va => K (Ex.exit 0) (St.mk (spread 46 0 [1, 2, 5] [Ai v7, Ap 0 0, Ai v8]) [HA [Ai v9, Fu va]])) N
  | 0 => by funext v0 v1 v2 v3 v4 v5 v6; rfl
  | N + 1 => by
    funext v0 v1 v2 v3 v4 v5 v6
    simp only [bits_Ones_l7_L]
    rw [← bits_Ones_l7_L_eq K N]
    kernel_rfl

theorem p42_7400 : PieceOk (V 42) q42 o42 42 0 (3992, 1, c42_7400) := .l (size := 46) (ss := [1, 2, 5, 20, 21, 22]) (F := @o42_7400_in) (by kernel_rfl) (by kernel_rfl) fun R r K vs hh h => by
  unfold o42_7400_in at h; split at h
  · rw [bits_Ones_l7_unf] at h; unfold bits_Ones_l7_B at h; rw [← bits_Ones_l7_L_eq K NR] at h; exact h
  · cases h

theorem pc42 : ∀ x ∈ [(3992, 1, c42_7400)], PieceOk (V 42) q42 o42 42 0 x := List.forall_mem_cons.2 ⟨p42_7400, fun _ h => nomatch h⟩

noncomputable def sp42 : Ev.Spec := fun args _ K => match args with
 | ([AV.agg (Blk.any [Ai v0, Fu v1]), Ai v2]) => bits_Ones v0 v1 v2 (fun v3 => K (Ai v3))
 | _ => none
noncomputable def S42 := addS 42 sp42 S71
theorem D7 : Dom B0 V S42 T0 7 := Dom.s (m := 6) (n := 0) D6 D6 (O := o42) (OrcOk.fn (fn0 := Tryd.f42) (by kernel_rfl) (by kernel_rfl) pc42) fun args R K r h => by
 unfold sp42 at h; split at h
 · rw [bits_Ones_unf] at h; exact Eq.trans (by kernel_rfl) h
 · cases h

noncomputable def o95_5000_in {R : Type} (K : Ex → St → Option R) (vs : List AV) (hh : H) : Option R := match vs, hh with
 | [Au v0, Ai v1], [] => math_bits_Len64_j5 v0 v1 (fun v2 => K (Ex.ret) (St.mk (spread 25 0 [2] [Ai v2]) []))
 | _, _ => none

noncomputable def o95_8000_in {R : Type} (K : Ex → St → Option R) (vs : List AV) (hh : H) : Option R := match vs, hh with
 | [Au v0, Ai v1], [] => math_bits_Len64_j8 v0 v1 (fun v2 => K (Ex.ret) (St.mk (spread 25 0 [2] [Ai v2]) []))
 | _, _ => none

noncomputable def o95_11000_in {R : Type} (K : Ex → St → Option R) (vs : List AV) (hh : H) : Option R := match vs, hh with
 | [Au v0, Ai v1], [] => math_bits_Len64_j11 v0 v1 (fun v2 => K (Ex.ret) (St.mk (spread 25 0 [2] [Ai v2]) []))
 | _, _ => none

noncomputable def o95 : Nat → Option PSpec := lkN [(5000, fun st _ K => pickM 25 [0, 2] st (o95_5000_in K)), (8000, fun st _ K => pickM 25 [0, 2] st (o95_8000_in K)), (11000, fun st _ K => pickM 25 [0, 2] st (o95_11000_in K))]
noncomputable def q95 : CallF := evFun (V 95) S42 T0 10

noncomputable def c95_5000 : Code := subC [1, 1] (bodyOf Tryd.f95)

noncomputable def c95_8000 : Code := subC [1, 1, 1] (bodyOf Tryd.f95)

noncomputable def c95_11000 : Code := subC [1, 1, 1, 1] (bodyOf Tryd.f95)

theorem math_bits_Len64_j11_eq {R : Type} (K : Ex → St → Option R) (v0 v1 : Int) : evCode (V 95) q95 o95 95 0 3996 c95_11000 (St.mk (spread 25 0 [0, 2] [Au v0, Ai v1]) []) (kOut (V 95) 95 0 (Ev.keyOf c95_11000 * 1000 + 1) K) = math_bits_Len64_j11_B v0 v1 (fun v2 => K (Ex.ret) (St.mk (spread 25 0 [2] [Ai v2]) [])) := by kernel_rfl

theorem p95_5000 : PieceOk (V 95) q95 o95 95 0 (3998, 0, c95_5000) := .s (size := 25) (ss := [0, 2]) (F := @o95_5000_in) (by kernel_rfl) fun R r K vs hh h => by
  unfold o95_5000_in at h; split at h
  · rw [math_bits_Len64_j5_unf] at h; exact Eq.trans (by kernel_rfl) h
  · cases h

theorem p95_8000 : PieceOk (V 95) q95 o95 95 0 (3997, 0, c95_8000) := .s (size := 25) (ss := [0, 2]) (F := @o95_8000_in) (by kernel_rfl) fun R r K vs hh h => by
  unfold o95_8000_in at h; split at h
  · rw [math_bits_Len64_j8_unf] at h; exact Eq.trans (by kernel_rfl) h
  · cases h

theorem p95_11000 : PieceOk (V 95) q95 o95 95 0 (3996, 0, c95_11000) := .s (size := 25) (ss := [0, 2]) (F := @o95_11000_in) (by kernel_rfl) fun R r K vs hh h => by
  unfold o95_11000_in at h; split at h
  · rw [math_bits_Len64_j11_unf] at h; exact (math_bits_Len64_j11_eq K _ _).trans h
  · cases h

theorem pc95 : ∀ x ∈ [(3998, 0, c95_5000), (3997, 0, c95_8000), (3996, 0, c95_11000)], PieceOk (V 95) q95 o95 95 0 x := List.forall_mem_cons.2 ⟨p95_5000, List.forall_mem_cons.2 ⟨p95_8000, List.forall_mem_cons.2 ⟨p95_11000, fun _ h => nomatch h⟩⟩⟩

noncomputable def sp95 : Ev.Spec := fun args _ K => match args with
 | ([Au v0]) => math_bits_Len64 v0 (fun v1 => K (Ai v1))
 | _ => none
noncomputable def S95 := addS 95 sp95 S42
theorem D8 : Dom B0 V S95 T0 8 := Dom.s (m := 7) (n := 0) D7 D7 (O := o95) (OrcOk.fn (fn0 := Tryd.f95) (by kernel_rfl) (by kernel_rfl) pc95) fun args R K r h => by
 unfold sp95 at h; split at h
 · rw [math_bits_Len64_unf] at h; exact Eq.trans (by kernel_rfl) h
 · cases h

noncomputable def sp72 : Ev.Spec := fun args _ K => match args with
 | ([Au v0]) => word_Len v0 (fun v1 => K (Ai v1))
 | _ => none
noncomputable def S72 := addS 72 sp72 S95
theorem D9 : Dom B0 V S72 T0 9 := Dom.s (m := 8) (n := 0) D8 D8 (O := (fun _ => none)) (fun _ _ _ _ => OrcOk.none _ _) fun args R K r h => by
 unfold sp72 at h; split at h
 · rw [word_Len_unf] at h; exact Eq.trans (by kernel_rfl) h
 · cases h

noncomputable def sp43 : Ev.Spec := fun args _ K => match args with
 | ([Ai v0, Ai v1]) => fano_width v0 v1 (fun v2 => K (Ai v2))
 | _ => none
noncomputable def S43 := addS 43 sp43 S72
theorem D10 : Dom B0 V S43 T0 10 := Dom.s (m := 9) (n := 0) D9 D9 (O := (fun _ => none)) (fun _ _ _ _ => OrcOk.none _ _) fun args R K r h => by
 unfold sp43 at h; split at h
 · rw [fano_width_unf] at h; exact Eq.trans (by kernel_rfl) h
 · cases h

noncomputable def hs44 : HSpec := fun args h _ K => match args, h with
 | [AV.agg (Blk.any [Ai v0, Fu v1])], [] => fano_eachOne_r v0 v1 (fun v2 v3 => K (AV.fn 73 [Ap 0 0]) ([HA [Ai v2, Fu v3]]))
 | _, _ => none
noncomputable def T44 := addT 44 hs44 T0
theorem D11 : Dom B0 V S43 T44 11 := Dom.t D10 fun args hh R K r h => by
 unfold hs44 at h; split at h
 · rw [fano_eachOne_r_unf] at h; exact ⟨(fun _ => none), (fun _ _ _ _ => OrcOk.none _ _), Eq.trans (by kernel_rfl) h⟩
 · cases h

noncomputable def sp93 : Ev.Spec := fun args _ K => match args with
 | ([Au v0]) => math_bits_TrailingZeros64 v0 (fun v1 => K (Ai v1))
 | _ => none
noncomputable def S93 := addS 93 sp93 S43
theorem D12 : Dom B0 V S93 T44 12 := Dom.s (m := 11) (n := 0) D11 D11 (O := (fun _ => none)) (fun _ _ _ _ => OrcOk.none _ _) fun args R K r h => by
 unfold sp93 at h; split at h
 · rw [math_bits_TrailingZeros64_unf] at h; exact Eq.trans (by kernel_rfl) h
 · cases h

noncomputable def o68_4000_in {R : Type} (K : Ex → St → Option R) (vs : List AV) (hh : H) : Option R := match vs, hh with
 | [Au v0, Ai v1], [] => word_Select_j4 v0 v1 (fun v2 => K (Ex.ret) (St.mk (spread 23 0 [4] [Ai v2]) []))
 | _, _ => none

noncomputable def o68_5400_in {R : Type} (K : Ex → St → Option R) (vs : List AV) (hh : H) : Option R := match vs, hh with
 | [Au v0, Ai v1, Ai v2], [] => word_Select_l5 v0 v1 v2 (fun v3 => K (Ex.exit 0) (St.mk (spread 23 0 [0] [Au v3]) []))
 | _, _ => none

noncomputable def o68 : Nat → Option PSpec := lkN [(4000, fun st _ K => pickM 23 [0, 1] st (o68_4000_in K)), (5400, fun st _ K => pickM 23 [0, 13, 14] st (o68_5400_in K))]
noncomputable def q68 : CallF := evFun (V 68) S93 T44 10

noncomputable def c68_4000 : Code := subC [1, 1] (bodyOf Tryd.f68)

noncomputable def c68_5400 : Code := subC [1, 1, 0, 1, 0, 0] (bodyOf Tryd.f68)

noncomputable def lp68_5400 {R : Type} (N : Nat) (st : St) (K : Ex → St → Option R) : Option R := evLoop (norm ((V 68).keep 68 (Ev.keyOf c68_5400 * 1000 + 400)) 0) (evCode (V 68) q68 o68 68 0 3994 c68_5400) N st (kOut (V 68) 68 0 (Ev.keyOf c68_5400 * 1000 + 401) K)

theorem word_Select_l5_L_eq {R : Type} (K : Ex → St → Option R) : ∀ N : Nat, (fun (v0 v1 v2 : Int) => lp68_5400 N (St.mk (spread 23 0 [0, 13, 14] [Au v0, Ai v1, Ai v2]) []) K) = word_Select_l5_L (fun v3 => K (Ex.exit 0) (St.mk (spread 23 0 [0] [Au v3]) [])) N
  | 0 => by funext v0 v1 v2; rfl
  | N + 1 => by
    funext v0 v1 v2
    simp only [word_Select_l5_L]
    rw [← word_Select_l5_L_eq K N]
    kernel_rfl

theorem p68_4000 : PieceOk (V 68) q68 o68 68 0 (3998, 0, c68_4000) := .s (size := 23) (ss := [0, 1]) (F := @o68_4000_in) (by kernel_rfl) fun R r K vs hh h => by
  unfold o68_4000_in at h; split at h
  · rw [word_Select_j4_unf] at h; exact Eq.trans (by kernel_rfl) h
  · cases h

theorem p68_5400 : PieceOk (V 68) q68 o68 68 0 (3994, 1, c68_5400) := .l (size := 23) (ss := [0, 13, 14]) (F := @o68_5400_in) (by kernel_rfl) (by kernel_rfl) fun R r K vs hh h => by
  unfold o68_5400_in at h; split at h
  · rw [word_Select_l5_unf] at h; unfold word_Select_l5_B at h; rw [← word_Select_l5_L_eq K NR] at h; exact h
  · cases h

theorem pc68 : ∀ x ∈ [(3998, 0, c68_4000), (3994, 1, c68_5400)], PieceOk (V 68) q68 o68 68 0 x := List.forall_mem_cons.2 ⟨p68_4000, List.forall_mem_cons.2 ⟨p68_5400, fun _ h => nomatch h⟩⟩

noncomputable def sp68 : Ev.Spec := fun args _ K => match args with
 | ([Au v0, Ai v1]) => word_Select v0 v1 (fun v2 => K (Ai v2))
 | _ => none
noncomputable def S68 := addS 68 sp68 S93
theorem D13 : Dom B0 V S68 T44 13 := Dom.s (m := 12) (n := 0) D12 D12 (O := o68) (OrcOk.fn (fn0 := Tryd.f68) (by kernel_rfl) (by kernel_rfl) pc68) fun args R K r h => by
 unfold sp68 at h; split at h
 · rw [word_Select_unf] at h; exact Eq.trans (by kernel_rfl) h
 · cases h

noncomputable def o45r5_5000_in {R : Type} (K : Ex → St → Option R) (vs : List AV) (hh : H) : Option R := match vs, hh with
 | [Ap 3 0], [HA [AV.sl 1 0 v0 1], HO v1, HA [Ai v2], HA [Ai v3], HA [AV.sl 5 0 v4 1], HU v5] => fano_Build_1_j5 v0 v1 v2 v3 v4 v5 (fun v6 v7 v8 v9 va vb vc => K (Ex.ret) (St.mk (spread 26 0 [6] [Ab v6]) [HA [AV.sl 1 0 v7 1], HO v8, HA [Ai v9], HA [Ai va], HA [AV.sl 5 0 vb 1], HU vc]))
 | [Ap 3 0], [HA [AV.sl 1 0 vd 1], HO ve, HA [Ai vf], HA [Ai vg], HA [AV.esl]] => fano_Build_1_j5_1 vd ve vf vg (fun v6 v7 v8 v9 va => K (Ex.ret) (St.mk (spread 26 0 [6] [Ab v6]) [HA [AV.sl 1 0 v7 1], HO v8, HA [Ai v9], HA [Ai va], HA [AV.esl]]))
 | _, _ => none

noncomputable def o45r5 : Nat → Option PSpec := lkN [(5000, fun st _ K => pickM 26 [3] st (o45r5_5000_in K))]
noncomputable def q45r5 : CallF := evFun (V 45) S68 T44 10

noncomputable def c45r5_5000 : Code := subC [1, 1, 1] (bodyOf Tryd.f45)

theorem p45r5_5000 : PieceOk (V 45) q45r5 o45r5 45 5 (3997, 0, c45r5_5000) := .s (size := 26) (ss := [3]) (F := @o45r5_5000_in) (by kernel_rfl) fun R r K vs hh h => by
  unfold o45r5_5000_in at h; split at h
  · rw [fano_Build_1_j5_unf] at h; exact Eq.trans (by kernel_rfl) h
  · rw [fano_Build_1_j5_1_unf] at h; exact Eq.trans (by kernel_rfl) h
  · cases h

theorem pc45r5 : ∀ x ∈ [(3997, 0, c45r5_5000)], PieceOk (V 45) q45r5 o45r5 45 5 x := List.forall_mem_cons.2 ⟨p45r5_5000, fun _ h => nomatch h⟩

noncomputable def o45r6_5000_in {R : Type} (K : Ex → St → Option R) (vs : List AV) (hh : H) : Option R := match vs, hh with
 | [Ap 3 0], [HA [AV.sl 1 0 v0 1], HO v1, HA [Ai v2], HA [Ai v3], HA [AV.sl 6 0 v4 1], HB.dead, HU v5] => fano_Build_1_j5_2 v0 v1 v2 v3 v4 v5 (fun v6 v7 v8 v9 va vb vc => K (Ex.ret) (St.mk (spread 26 0 [6] [Ab v6]) [HA [AV.sl 1 0 v7 1], HO v8, HA [Ai v9], HA [Ai va], HA [AV.sl 6 0 vb 1], HB.dead, HU vc]))
 | [Ap 3 0], [HA [AV.sl 1 0 vd 1], HO ve, HA [Ai vf], HA [Ai vg], HA [AV.sl 5 0 vh 1], HU vi] => fano_Build_1_j5_3 vd ve vf vg vh vi (fun v6 v7 v8 v9 va vb vc => K (Ex.ret) (St.mk (spread 26 0 [6] [Ab v6]) [HA [AV.sl 1 0 v7 1], HO v8, HA [Ai v9], HA [Ai va], HA [AV.sl 5 0 vb 1], HU vc]))
 | _, _ => none

noncomputable def o45r6 : Nat → Option PSpec := lkN [(5000, fun st _ K => pickM 26 [3] st (o45r6_5000_in K))]
noncomputable def q45r6 : CallF := evFun (V 45) S68 T44 10

noncomputable def c45r6_5000 : Code := subC [1, 1, 1] (bodyOf Tryd.f45)

theorem p45r6_5000 : PieceOk (V 45) q45r6 o45r6 45 6 (3997, 0, c45r6_5000) := .s (size := 26) (ss := [3]) (F := @o45r6_5000_in) (by kernel_rfl) fun R r K vs hh h => by
  unfold o45r6_5000_in at h; split at h
  · rw [fano_Build_1_j5_2_unf] at h; exact Eq.trans (by kernel_rfl) h
  · rw [fano_Build_1_j5_3_unf] at h; exact Eq.trans (by kernel_rfl) h
  · cases h

theorem pc45r6 : ∀ x ∈ [(3997, 0, c45r6_5000)], PieceOk (V 45) q45r6 o45r6 45 6 x := List.forall_mem_cons.2 ⟨p45r6_5000, fun _ h => nomatch h⟩

theorem fano_Build_1_r_1_eq {R : Type} (K : AV → H → Option R) (v0 : Int) (v1 : Nat) (v2 : List Bool) (v3 v4 : Int) (v5 : Nat) (v6 : List Int) : evH (V 45) S68 T44 o45r6 10 45 [Ai v0, Ap 0 0, Ap 2 0, Ap 3 0, Ap 4 0] [HA [AV.sl 1 0 v1 1], HO v2, HA [Ai v3], HA [Ai v4], HA [AV.sl 5 0 v5 1], HU v6] R K = fano_Build_1_r_1_B v0 v1 v2 v3 v4 v5 v6 (fun v7 v8 v9 va vb vc vd => K (Ab v7) ([HA [AV.sl 1 0 v8 1], HO v9, HA [Ai va], HA [Ai vb], HA [AV.sl 6 0 vc 1], HB.dead, HU vd])) (fun v7 v8 v9 va vb vc vd => K (Ab v7) ([HA [AV.sl 1 0 v8 1], HO v9, HA [Ai va], HA [Ai vb], HA [AV.sl 5 0 vc 1], HU vd])) := by kernel_rfl

noncomputable def hs45 : HSpec := fun args h _ K => match args, h with
 | [Ai v0, Ap 0 0, Ap 2 0, Ap 3 0, Ap 4 0], [HA [AV.sl 1 0 v1 1], HO v2, HA [Ai v3], HA [Ai v4], HA [AV.esl]] => fano_Build_1_r v0 v1 v2 v3 v4 (fun v5 v6 v7 v8 v9 va vb => K (Ab v5) ([HA [AV.sl 1 0 v6 1], HO v7, HA [Ai v8], HA [Ai v9], HA [AV.sl 5 0 va 1], HU vb])) (fun v5 v6 v7 v8 v9 => K (Ab v5) ([HA [AV.sl 1 0 v6 1], HO v7, HA [Ai v8], HA [Ai v9], HA [AV.esl]]))
 | [Ai vc, Ap 0 0, Ap 2 0, Ap 3 0, Ap 4 0], [HA [AV.sl 1 0 vd 1], HO ve, HA [Ai vf], HA [Ai vg], HA [AV.sl 5 0 vh 1], HU vi] => fano_Build_1_r_1 vc vd ve vf vg vh vi (fun v5 v6 v7 v8 v9 va vb => K (Ab v5) ([HA [AV.sl 1 0 v6 1], HO v7, HA [Ai v8], HA [Ai v9], HA [AV.sl 6 0 va 1], HB.dead, HU vb])) (fun v5 v6 v7 v8 v9 va vb => K (Ab v5) ([HA [AV.sl 1 0 v6 1], HO v7, HA [Ai v8], HA [Ai v9], HA [AV.sl 5 0 va 1], HU vb]))
 | _, _ => none
noncomputable def T45 := addT 45 hs45 T44
theorem D14 : Dom B0 V S68 T45 14 := Dom.t D13 fun args hh R K r h => by
 unfold hs45 at h; split at h
 · rw [fano_Build_1_r_unf] at h; exact ⟨o45r5, (OrcOk.fn (fn0 := Tryd.f45) (by kernel_rfl) (by kernel_rfl) pc45r5), Eq.trans (by kernel_rfl) h⟩
 · rw [fano_Build_1_r_1_unf] at h; exact ⟨o45r6, (OrcOk.fn (fn0 := Tryd.f45) (by kernel_rfl) (by kernel_rfl) pc45r6), (fano_Build_1_r_1_eq K _ _ _ _ _ _ _).trans h⟩
 · cases h

noncomputable def o83r7_4000_in {R : Type} (K : Ex → St → Option R) (vs : List AV) (hh : H) : Option R := match vs, hh with
 | [Ap 0 0, Ap 1 0, Ap 2 0, Ap 3 0, Ap 4 0, Ap 5 0, Ai v0, Ab v1], [HA [Ai v2], HA [Ai v3], HA [Fu v4], HA [Ai v5, Ai v6, Ai v7, Ai v8, Ai v9, Fu va, Ai vb, Fu vc], HA [Ab vd], HA [AV.sl 6 0 ve 1], HO vf] => fano_row_1_j4 v0 v1 v2 v3 v4 v5 v6 v7 v8 v9 va vb vc vd ve vf (fun vg vh vi vj vk vl vm vn vo vp vq vr vs vt vu => K (Ex.normal) (St.mk (spread 50 0 [1, 4, 5, 6, 9] [Ap 0 0, Ap 3 0, Ap 4 0, Ap 5 0, Ai vg]) [HA [Ai vh], HA [Ai vi], HA [Fu vj], HA [Ai vk, Ai vl, Ai vm, Ai vn, Ai vo, Fu vp, Ai vq, Fu vr], HA [Ab vs], HA [AV.sl 6 0 vt 1], HO vu]))
 | _, _ => none

noncomputable def o83r7_5000_in {R : Type} (K : Ex → St → Option R) (vs : List AV) (hh : H) : Option R := match vs, hh with
 | [Ap 0 0, Ap 3 0, Ap 4 0, Ap 5 0, Ai v0], [HA [Ai v1], HA [Ai v2], HA [Fu v3], HA [Ai v4, Ai v5, Ai v6, Ai v7, Ai v8, Fu v9, Ai va, Fu vb], HA [Ab vc], HA [AV.sl 6 0 vd 1], HO ve] => fano_row_1_j5 v0 v1 v2 v3 v4 v5 v6 v7 v8 v9 va vb vc vd ve (fun vf vg vh vi vj vk vl vm vn vo vp vq vr vs vt => K (Ex.ret) (St.mk (spread 50 0 [8] [Ab vf]) [HA [Ai vg], HA [Ai vh], HA [Fu vi], HA [Ai vj, Ai vk, Ai vl, Ai vm, Ai vn, Fu vo, Ai vp, Fu vq], HA [Ab vr], HA [AV.sl 6 0 vs 1], HO vt]))
 | _, _ => none

noncomputable def o83r7_6000_in {R : Type} (K : Ex → St → Option R) (vs : List AV) (hh : H) : Option R := match vs, hh with
 | [Ap 0 0, Ap 4 0, Ap 5 0, Ai v0], [HA [Ai v1], HA [Ai v2], HA [Fu v3], HA [Ai v4, Ai v5, Ai v6, Ai v7, Ai v8, Fu v9, Ai va, Fu vb], HA [Ab vc], HA [AV.sl 6 0 vd 1], HO ve] => fano_row_1_j6 v0 v1 v2 v3 v4 v5 v6 v7 v8 v9 va vb vc vd ve (fun vf vg vh vi vj vk vl vm vn vo vp vq vr vs vt => K (Ex.ret) (St.mk (spread 50 0 [8] [Ab vf]) [HA [Ai vg], HA [Ai vh], HA [Fu vi], HA [Ai vj, Ai vk, Ai vl, Ai vm, Ai vn, Fu vo, Ai vp, Fu vq], HA [Ab vr], HA [AV.sl 6 0 vs 1], HO vt]))
 | _, _ => none

noncomputable def o83r7_8000_in {R : Type} (K : Ex → St → Option R) (vs : List AV) (hh : H) : Option R := match vs, hh with
 | [Ap 0 0, Ap 4 0], [HA [Ai v0], HA [Ai v1], HA [Fu v2], HA [Ai v3, Ai v4, Ai v5, Ai v6, Ai v7, Fu v8, Ai v9, Fu va], HA [Ab vb], HA [AV.sl 6 0 vc 1], HO vd] => fano_row_1_j8 v0 v1 v2 v3 v4 v5 v6 v7 v8 v9 va vb vc vd (fun ve vf vg vh vi vj vk vl vm vn vo vp vq vr vs => K (Ex.ret) (St.mk (spread 50 0 [8] [Ab ve]) [HA [Ai vf], HA [Ai vg], HA [Fu vh], HA [Ai vi, Ai vj, Ai vk, Ai vl, Ai vm, Fu vn, Ai vo, Fu vp], HA [Ab vq], HA [AV.sl 6 0 vr 1], HO vs]))
 | _, _ => none

noncomputable def o83r7 : Nat → Option PSpec := lkN [(4000, fun st _ K => pickM 50 [1, 2, 3, 4, 5, 6, 9, 22] st (o83r7_4000_in K)), (5000, fun st _ K => pickM 50 [1, 4, 5, 6, 9] st (o83r7_5000_in K)), (6000, fun st _ K => pickM 50 [1, 5, 6, 9] st (o83r7_6000_in K)), (8000, fun st _ K => pickM 50 [1, 5] st (o83r7_8000_in K))]
noncomputable def q83r7 : CallF := evFun (V 83) S68 T45 10

noncomputable def c83r7_5000 : Code := subC [1, 1, 1] (bodyOf Tryd.f83)

noncomputable def c83r7_4000 : Code := subC [1, 1, 0, 1] (bodyOf Tryd.f83)

noncomputable def c83r7_6000 : Code := subC [1, 1, 1, 1] (bodyOf Tryd.f83)

noncomputable def c83r7_8000 : Code := subC [1, 1, 1, 1, 1] (bodyOf Tryd.f83)

theorem p83r7_5000 : PieceOk (V 83) q83r7 o83r7 83 7 (3997, 0, c83r7_5000) := .s (size := 50) (ss := [1, 4, 5, 6, 9]) (F := @o83r7_5000_in) (by kernel_rfl) fun R r K vs hh h => by
  unfold o83r7_5000_in at h; split at h
  · rw [fano_row_1_j5_unf] at h; exact Eq.trans (by kernel_rfl) h
  · cases h

theorem p83r7_4000 : PieceOk (V 83) q83r7 o83r7 83 7 (3996, 0, c83r7_4000) := .s (size := 50) (ss := [1, 2, 3, 4, 5, 6, 9, 22]) (F := @o83r7_4000_in) (by kernel_rfl) fun R r K vs hh h => by
  unfold o83r7_4000_in at h; split at h
  · rw [fano_row_1_j4_unf] at h; exact Eq.trans (by kernel_rfl) h
  · cases h

theorem p83r7_6000 : PieceOk (V 83) q83r7 o83r7 83 7 (3996, 0, c83r7_6000) := .s (size := 50) (ss := [1, 5, 6, 9]) (F := @o83r7_6000_in) (by kernel_rfl) fun R r K vs hh h => by
  unfold o83r7_6000_in at h; split at h
  · rw [fano_row_1_j6_unf] at h; exact Eq.trans (by kernel_rfl) h
  · cases h

theorem p83r7_8000 : PieceOk (V 83) q83r7 o83r7 83 7 (3995, 0, c83r7_8000) := .s (size := 50) (ss := [1, 5]) (F := @o83r7_8000_in) (by kernel_rfl) fun R r K vs hh h => by
  unfold o83r7_8000_in at h; split at h
  · rw [fano_row_1_j8_unf] at h; exact Eq.trans (by kernel_rfl) h
  · cases h

theorem pc83r7 : ∀ x ∈ [(3997, 0, c83r7_5000), (3996, 0, c83r7_4000), (3996, 0, c83r7_6000), (3995, 0, c83r7_8000)], PieceOk (V 83) q83r7 o83r7 83 7 x := List.forall_mem_cons.2 ⟨p83r7_5000, List.forall_mem_cons.2 ⟨p83r7_4000, List.forall_mem_cons.2 ⟨p83r7_6000, List.forall_mem_cons.2 ⟨p83r7_8000, fun _ h => nomatch h⟩⟩⟩⟩

theorem fano_row_1_r_eq {R : Type} (K : AV → H → Option R) (v0 v1 v2 : Int) (v3 : List Int) (v4 v5 v6 v7 v8 : Int) (v9 : List Int) (va : Int) (vb : List Int) (vc : Bool) (vd : Nat) (ve : List Bool) : evH (V 83) S68 T45 o83r7 10 83 [Ai v0, Ap 0 0, Ap 1 0, Ap 2 0, Ap 3 0, Ap 4 0, Ap 5 0] [HA [Ai v1], HA [Ai v2], HA [Fu v3], HA [Ai v4, Ai v5, Ai v6, Ai v7, Ai v8, Fu v9, Ai va, Fu vb], HA [Ab vc], HA [AV.sl 6 0 vd 1], HO ve] R K = fano_row_1_r_B v0 v1 v2 v3 v4 v5 v6 v7 v8 v9 va vb vc vd ve (fun vf vg vh vi vj vk vl vm vn vo vp vq vr vs vt => K (Ab vf) ([HA [Ai vg], HA [Ai vh], HA [Fu vi], HA [Ai vj, Ai vk, Ai vl, Ai vm, Ai vn, Fu vo, Ai vp, Fu vq], HA [Ab vr], HA [AV.sl 6 0 vs 1], HO vt])) := by kernel_rfl

noncomputable def hs83 : HSpec := fun args h _ K => match args, h with
 | [Ai v0, Ap 0 0, Ap 1 0, Ap 2 0, Ap 3 0, Ap 4 0, Ap 5 0], [HA [Ai v1], HA [Ai v2], HA [Fu v3], HA [Ai v4, Ai v5, Ai v6, Ai v7, Ai v8, Fu v9, Ai va, Fu vb], HA [Ab vc], HA [AV.sl 6 0 vd 1], HO ve] => fano_row_1_r v0 v1 v2 v3 v4 v5 v6 v7 v8 v9 va vb vc vd ve (fun vf vg vh vi vj vk vl vm vn vo vp vq vr vs vt => K (Ab vf) ([HA [Ai vg], HA [Ai vh], HA [Fu vi], HA [Ai vj, Ai vk, Ai vl, Ai vm, Ai vn, Fu vo, Ai vp, Fu vq], HA [Ab vr], HA [AV.sl 6 0 vs 1], HO vt]))
 | _, _ => none
noncomputable def T83 := addT 83 hs83 T45
theorem D15 : Dom B0 V S68 T83 15 := Dom.t D14 fun args hh R K r h => by
 unfold hs83 at h; split at h
 · rw [fano_row_1_r_unf] at h; exact ⟨o83r7, (OrcOk.fn (fn0 := Tryd.f83) (by kernel_rfl) (by kernel_rfl) pc83r7), (fano_row_1_r_eq K _ _ _ _ _ _ _ _ _ _ _ _ _ _ _).trans h⟩
 · cases h

noncomputable def o73r6_2400_in {R : Type} (K : Ex → St → Option R) (vs : List AV) (hh : H) : Option R := match vs, hh with
 | [AV.fn 45 [Ap 0 0, Ap 2 0, Ap 3 0, Ap 4 0], Fu v0, Ai v1, Ai v2], [HA [AV.sl 1 0 v3 1], HO v4, HA [Ai v5], HA [Ai v6], HA [AV.sl 6 0 v7 1], HA [Ai v8, Fu v9], HU va] => fano_eachOne_1_l2 v0 v1 v2 v3 v4 v5 v6 v7 v8 v9 va (fun vb vc vd ve vf vg vh vi => K (Ex.ret) (St.mk (spread 28 0 [] []) [HA [AV.sl 1 0 vb 1], HO vc, HA [Ai vd], HA [Ai ve], HA [AV.sl 6 0 vf 1], HA [Ai vg, Fu vh], HU vi])) (fun vb vc vd ve vf vg vh vi => K (Ex.exit 0) (St.mk (spread 28 0 [] []) [HA [AV.sl 1 0 vb 1], HO vc, HA [Ai vd], HA [Ai ve], HA [AV.sl 6 0 vf 1], HA [Ai vg, Fu vh], HU vi]))
 | _, _ => none

noncomputable def o73r6_4400_in {R : Type} (K : Ex → St → Option R) (vs : List AV) (hh : H) : Option R := match vs, hh with
 | [AV.fn 45 [Ap 0 0, Ap 2 0, Ap 3 0, Ap 4 0], Ai v0, Au v1, Fu v2, Ai v3, Ai v4], [HA [AV.sl 1 0 v5 1], HO v6, HA [Ai v7], HA [Ai v8], HA [AV.sl 6 0 v9 1], HA [Ai va, Fu vb], HU vc] => fano_eachOne_1_l4 v0 v1 v2 v3 v4 v5 v6 v7 v8 v9 va vb vc (fun vd ve vf vg vh vi vj vk => K (Ex.ret) (St.mk (spread 28 0 [] []) [HA [AV.sl 1 0 vd 1], HO ve, HA [Ai vf], HA [Ai vg], HA [AV.sl 6 0 vh 1], HA [Ai vi, Fu vj], HU vk])) (fun vd ve vf vg vh vi vj vk vl vm vn => K (Ex.exit 2) (St.mk (spread 28 0 [0, 6, 7, 8] [AV.fn 45 [Ap 0 0, Ap 2 0, Ap 3 0, Ap 4 0], Fu vd, Ai ve, Ai vf]) [HA [AV.sl 1 0 vg 1], HO vh, HA [Ai vi], HA [Ai vj], HA [AV.sl 6 0 vk 1], HA [Ai vl, Fu vm], HU vn]))
 | _, _ => none

noncomputable def o73r6 : Nat → Option PSpec := lkN [(2400, fun st _ K => pickM 28 [0, 6, 7, 8] st (o73r6_2400_in K)), (4400, fun st _ K => pickM 28 [0, 3, 4, 6, 7, 8] st (o73r6_4400_in K))]
noncomputable def q73r6 : CallF := evFun (V 73) S68 T83 10

noncomputable def c73r6_2400 : Code := subC [1, 0, 0] (bodyOf Tryd.f73)

noncomputable def lp73r6_2400 {R : Type} (N : Nat) (st : St) (K : Ex → St → Option R) : Option R := evLoop (norm ((V 73).keep 73 (Ev.keyOf c73r6_2400 * 1000 + 400)) 6) (evCode (V 73) q73r6 o73r6 73 6 3997 c73r6_2400) N st (kOut (V 73) 73 6 (Ev.keyOf c73r6_2400 * 1000 + 401) K)

noncomputable def c73r6_4400 : Code := subC [1, 0, 0, 1, 1, 0, 0, 1, 0, 0] (bodyOf Tryd.f73)

noncomputable def lp73r6_4400 {R : Type} (N : Nat) (st : St) (K : Ex → St → Option R) : Option R := evLoop (norm ((V 73).keep 73 (Ev.keyOf c73r6_4400 * 1000 + 400)) 6) (evCode (V 73) q73r6 o73r6 73 6 3990 c73r6_4400) N st (kOut (V 73) 73 6 (Ev.keyOf c73r6_4400 * 1000 + 401) K)

theorem fano_eachOne_1_l4_L_eq {R : Type} (K : Ex → St → Option R) : ∀ N : Nat, (fun (v0 v1 : Int) (v2 : List Int) (v3 v4 : Int) (v5 : Nat) (v6 : List Bool) (v7 v8 : Int) (v9 : Nat) (va : Int) (vb vc : List Int) => lp73r6_4400 N (St.mk (spread 28 0 [0, 3, 4, 6, 7, 8] [AV.fn 45 [Ap 0 0, Ap 2 0, Ap 3 0, Ap 4 0], Ai v0, Au v1, Fu v2, Ai v3, Ai v4]) [HA [AV.sl 1 0 v5 1], HO v6, HA [Ai v7], HA [Ai v8], HA [AV.sl 6 0 v9 1], HA [Ai va, Fu vb], HU vc]) K) = fano_eachOne_1_l4_L (fun vd ve vf vg vh vi vj vk => K (Ex.ret) (St.mk (spread 28 0 [] []) [HA [AV.sl 1 0 vd 1], HO ve, HA [Ai vf], HA [Ai vg], HA [AV.sl 6 0 vh 1], HA [Ai vi, Fu vj], HU vk])) (fun vd ve vf vg vh vi vj vk vl vm vn => K (Ex.exit 2) (St.mk (spread 28 0 [0, 6, 7, 8] [AV.fn 45 [Ap 0 0, Ap 2 0, Ap 3 0, Ap 4 0], Fu vd, Ai ve, Ai vf]) [HA [AV.sl 1 0 vg 1], HO vh, HA [Ai vi], HA [Ai vj], HA [AV.sl 6 0 vk 1], HA [Ai vl, Fu vm], HU vn])) N
  | 0 => by funext v0 v1 v2 v3 v4 v5 v6 v7 v8 v9 va vb vc; rfl
  | N + 1 => by
    funext v0 v1 v2 v3 v4 v5 v6 v7 v8 v9 va vb vc
    simp only [fano_eachOne_1_l4_L]
    rw [← fano_eachOne_1_l4_L_eq K N]
    kernel_rfl

theorem fano_eachOne_1_l2_L_eq {R : Type} (K : Ex → St → Option R) : ∀ N : Nat, (fun (v0 : List Int) (v1 v2 : Int) (v3 : Nat) (v4 : List Bool) (v5 v6 : Int) (v7 : Nat) (v8 : Int) (v9 va : List Int) => lp73r6_2400 N (St.mk (spread 28 0 [0, 6, 7, 8] [AV.fn 45 [Ap 0 0, Ap 2 0, Ap 3 0, Ap 4 0], Fu v0, Ai v1, Ai v2]) [HA [AV.sl 1 0 v3 1], HO v4, HA [Ai v5], HA [Ai v6], HA [AV.sl 6 0 v7 1], HA [Ai v8, Fu v9], HU va]) K) = fano_eachOne_1_l2_L (fun vb vc vd ve vf vg vh vi => K (Ex.ret) (St.mk (spread 28 0 [] []) [HA [AV.sl 1 0 vb 1], HO vc, HA [Ai vd], HA [Ai ve], HA [AV.sl 6 0 vf 1], HA [Ai vg, Fu vh], HU vi])) (fun vb vc vd ve vf vg vh vi => K (Ex.exit 0) (St.mk (spread 28 0 [] []) [HA [AV.sl 1 0 vb 1], HO vc, HA [Ai vd], HA [Ai ve], HA [AV.sl 6 0 vf 1], HA [Ai vg, Fu vh], HU vi])) N
  | 0 => by funext v0 v1 v2 v3 v4 v5 v6 v7 v8 v9 va; rfl
  | N + 1 => by
    funext v0 v1 v2 v3 v4 v5 v6 v7 v8 v9 va
    simp only [fano_eachOne_1_l2_L]
    rw [← fano_eachOne_1_l2_L_eq K N]
    kernel_rfl

theorem p73r6_2400 : PieceOk (V 73) q73r6 o73r6 73 6 (3997, 1, c73r6_2400) := .l (size := 28) (ss := [0, 6, 7, 8]) (F := @o73r6_2400_in) (by kernel_rfl) (by kernel_rfl) fun R r K vs hh h => by
  unfold o73r6_2400_in at h; split at h
  · rw [fano_eachOne_1_l2_unf] at h; unfold fano_eachOne_1_l2_B at h; rw [← fano_eachOne_1_l2_L_eq K NR] at h; exact h
  · cases h

theorem p73r6_4400 : PieceOk (V 73) q73r6 o73r6 73 6 (3990, 1, c73r6_4400) := .l (size := 28) (ss := [0, 3, 4, 6, 7, 8]) (F := @o73r6_4400_in) (by kernel_rfl) (by kernel_rfl) fun R r K vs hh h => by
  unfold o73r6_4400_in at h; split at h
  · rw [fano_eachOne_1_l4_unf] at h; unfold fano_eachOne_1_l4_B at h; rw [← fano_eachOne_1_l4_L_eq K NR] at h; exact h
  · cases h

theorem pc73r6 : ∀ x ∈ [(3997, 1, c73r6_2400), (3990, 1, c73r6_4400)], PieceOk (V 73) q73r6 o73r6 73 6 x := List.forall_mem_cons.2 ⟨p73r6_2400, List.forall_mem_cons.2 ⟨p73r6_4400, fun _ h => nomatch h⟩⟩

noncomputable def o73r8_2400_in {R : Type} (K : Ex → St → Option R) (vs : List AV) (hh : H) : Option R := match vs, hh with
 | [AV.fn 83 [Ap 0 0, Ap 1 0, Ap 2 0, Ap 3 0, Ap 4 0, Ap 5 0], Fu v0, Ai v1, Ai v2], [HA [Ai v3], HA [Ai v4], HA [Fu v5], HA [Ai v6, Ai v7, Ai v8, Ai v9, Ai va, Fu vb, Ai vc, Fu vd], HA [Ab ve], HA [AV.sl 6 0 vf 1], HO vg, HA [Ai vh, Fu vi]] => fano_eachOne_1_l2_1 v0 v1 v2 v3 v4 v5 v6 v7 v8 v9 va vb vc vd ve vf vg vh vi (fun vj vk vl vm vn vo vp vq vr vs vt vu vv vw vx vy => K (Ex.ret) (St.mk (spread 28 0 [] []) [HA [Ai vj], HA [Ai vk], HA [Fu vl], HA [Ai vm, Ai vn, Ai vo, Ai vp, Ai vq, Fu vr, Ai vs, Fu vt], HA [Ab vu], HA [AV.sl 6 0 vv 1], HO vw, HA [Ai vx, Fu vy]])) (fun vj vk vl vm vn vo vp vq vr vs vt vu vv vw vx vy => K (Ex.exit 0) (St.mk (spread 28 0 [] []) [HA [Ai vj], HA [Ai vk], HA [Fu vl], HA [Ai vm, Ai vn, Ai vo, Ai vp, Ai vq, Fu vr, Ai vs, Fu vt], HA [Ab vu], HA [AV.sl 6 0 vv 1], HO vw, HA [Ai vx, Fu vy]]))
 | _, _ => none

noncomputable def o73r8_4400_in {R : Type} (K : Ex → St → Option R) (vs : List AV) (hh : H) : Option R := match vs, hh with
 | [AV.fn 83 [Ap 0 0, Ap 1 0, Ap 2 0, Ap 3 0, Ap 4 0, Ap 5 0], Ai v0, Au v1, Fu v2, Ai v3, Ai v4], [HA [Ai v5], HA [Ai v6], HA [Fu v7], HA [Ai v8, Ai v9, Ai va, Ai vb, Ai vc, Fu vd, Ai ve, Fu vf], HA [Ab vg], HA [AV.sl 6 0 vh 1], HO vi, HA [Ai vj, Fu vk]] => fano_eachOne_1_l4_1 v0 v1 v2 v3 v4 v5 v6 v7 v8 v9 va vb vc vd ve vf vg vh vi vj vk (fun vl vm vn vo vp vq vr vs vt vu vv vw vx vy vz v10 => K (Ex.ret) (St.mk (spread 28 0 [] []) [HA [Ai vl], HA [Ai vm], HA [Fu vn], HA [Ai vo, Ai vp, Ai vq, Ai vr, Ai vs, Fu vt, Ai vu, Fu vv], HA [Ab vw], HA [AV.sl 6 0 vx 1], HO vy, HA [Ai vz, Fu v10]])) (fun vl vm vn vo vp vq vr vs vt vu vv vw vx vy vz v10 v11 v12 v13 => K (Ex.exit 2) (St.mk (spread 28 0 [0, 6, 7, 8] [AV.fn 83 [Ap 0 0, Ap 1 0, Ap 2 0, Ap 3 0, Ap 4 0, Ap 5 0], Fu vl, Ai vm, Ai vn]) [HA [Ai vo], HA [Ai vp], HA [Fu vq], HA [Ai vr, Ai vs, Ai vt, Ai vu, Ai vv, Fu vw, Ai vx, Fu vy], HA [Ab vz], HA [AV.sl 6 0 v10 1], HO v11, HA [Ai v12, Fu v13]]))
 | _, _ => none

noncomputable def o73r8 : Nat → Option PSpec := lkN [(2400, fun st _ K => pickM 28 [0, 6, 7, 8] st (o73r8_2400_in K)), (4400, fun st _ K => pickM 28 [0, 3, 4, 6, 7, 8] st (o73r8_4400_in K))]
noncomputable def q73r8 : CallF := evFun (V 73) S68 T83 10

noncomputable def c73r8_2400 : Code := subC [1, 0, 0] (bodyOf Tryd.f73)

noncomputable def lp73r8_2400 {R : Type} (N : Nat) (st : St) (K : Ex → St → Option R) : Option R := evLoop (norm ((V 73).keep 73 (Ev.keyOf c73r8_2400 * 1000 + 400)) 8) (evCode (V 73) q73r8 o73r8 73 8 3997 c73r8_2400) N st (kOut (V 73) 73 8 (Ev.keyOf c73r8_2400 * 1000 + 401) K)

noncomputable def c73r8_4400 : Code := subC [1, 0, 0, 1, 1, 0, 0, 1, 0, 0] (bodyOf Tryd.f73)

noncomputable def lp73r8_4400 {R : Type} (N : Nat) (st : St) (K : Ex → St → Option R) : Option R := evLoop (norm ((V 73).keep 73 (Ev.keyOf c73r8_4400 * 1000 + 400)) 8) (evCode (V 73) q73r8 o73r8 73 8 3990 c73r8_4400) N st (kOut (V 73) 73 8 (Ev.keyOf c73r8_4400 * 1000 + 401) K)

theorem fano_eachOne_1_l4_1_L_eq {R : Type} (K : Ex → St → Option R) : ∀ N : Nat, (fun (v0 v1 : Int) (v2 : List Int) (v3 v4 v5 v6 : Int) (v7 : List Int) (v8 v9 va vb vc : Int) (vd : List Int) (ve : Int) (vf : List Int) (vg : Bool) (vh : Nat) (vi : List Bool) (vj : Int) (vk : List Int) => lp73r8_4400 N (St.mk (spread 28 0 [0, 3, 4, 6, 7, 8] [AV.fn 83 [Ap 0 0, Ap 1 0, Ap 2 0, Ap 3 0, Ap 4 0, Ap 5 0], Ai v0, Au v1, Fu v2, Ai v3, Ai v4]) [HA [Ai v5], HA [Ai v6], HA [Fu v7], HA [Ai v8, Ai v9, Ai va, Ai vb, Ai vc, Fu vd, Ai ve, Fu vf], HA [Ab vg], HA [AV.sl 6 0 vh 1], HO vi, HA [Ai vj, Fu vk]]) K) = fano_eachOne_1_l4_1_L (fun vl vm vn vo vp vq vr vs vt vu vv vw vx vy vz v10 => K (Ex.ret) (St.mk (spread 28 0 [] []) [HA [Ai vl], HA [Ai vm], HA [Fu vn], HA [Ai vo, Ai vp, Ai vq, Ai vr, Ai vs, Fu vt, Ai vu, Fu vv], HA [Ab vw], HA [AV.sl 6 0 vx 1], HO vy, HA [Ai vz, Fu v10]])) (fun vl vm vn vo vp vq vr vs vt vu vv vw vx vy vz v10 v11 v12 v13 => K (Ex.exit 2) (St.mk (spread 28 0 [0, 6, 7, 8] [AV.fn 83 [Ap 0 0, Ap 1 0, Ap 2 0, Ap 3 0, Ap 4 0, Ap 5 0], Fu vl, Ai vm, Ai vn]) [HA [Ai vo], HA [Ai vp], HA [Fu vq], HA [Ai vr, Ai vs, Ai vt, Ai vu, Ai vv, Fu vw, Ai vx, Fu vy], HA [Ab vz], HA [AV.sl 6 0 v10 1], HO v11, HA [Ai v12, Fu v13]])) N
  | 0 => by funext v0 v1 v2 v3 v4 v5 v6 v7 v8 v9 va vb vc vd ve vf vg vh vi vj vk; rfl
  | N + 1 => by
    funext v0 v1 v2 v3 v4 v5 v6 v7 v8 v9 va vb vc vd ve vf vg vh vi vj vk
    simp only [fano_eachOne_1_l4_1_L]
    rw [← fano_eachOne_1_l4_1_L_eq K N]
    kernel_rfl

theorem fano_eachOne_1_l2_1_L_eq {R : Type} (K : Ex → St → Option R) : ∀ N : Nat, (fun (v0 : List Int) (v1 v2 v3 v4 : Int) (v5 : List Int) (v6 v7 v8 v9 va : Int) (vb : List Int) (vc : Int) (vd : List Int) (ve : Bool) (vf : Nat) (vg : List Bool) (vh : Int) (vi : List Int) => lp73r8_2400 N (St.mk (spread 28 0 [0, 6, 7, 8] [AV.fn 83 [Ap 0 0, Ap 1 0, Ap 2 0, Ap 3 0, Ap 4 0, Ap 5 0], Fu v0, Ai v1, Ai v2]) [HA [Ai v3], HA [Ai v4], HA [Fu v5], HA [Ai v6, Ai v7, Ai v8, Ai v9, Ai va, Fu vb, Ai vc, Fu vd], HA [Ab ve], HA [AV.sl 6 0 vf 1], HO vg, HA [Ai vh, Fu vi]]) K) = fano_eachOne_1_l2_1_L (fun vj vk vl vm vn vo vp vq vr vs vt vu vv vw vx vy => K (Ex.ret) (St.mk (spread 28 0 [] []) [HA [Ai vj], HA [Ai vk], HA [Fu vl], HA [Ai vm, Ai vn, Ai vo, Ai vp, Ai vq, Fu vr, Ai vs, Fu vt], HA [Ab vu], HA [AV.sl 6 0 vv 1], HO vw, HA [Ai vx, Fu vy]])) (fun vj vk vl vm vn vo vp vq vr vs vt vu vv vw vx vy => K (Ex.exit 0) (St.mk (spread 28 0 [] []) [HA [Ai vj], HA [Ai vk], HA [Fu vl], HA [Ai vm, Ai vn, Ai vo, Ai vp, Ai vq, Fu vr, Ai vs, Fu vt], HA [Ab vu], HA [AV.sl 6 0 vv 1], HO vw, HA [Ai vx, Fu vy]])) N
  | 0 => by funext v0 v1 v2 v3 v4 v5 v6 v7 v8 v9 va vb vc vd ve vf vg vh vi; rfl
  | N + 1 => by
    funext v0 v1 v2 v3 v4 v5 v6 v7 v8 v9 va vb vc vd ve vf vg vh vi
    simp only [fano_eachOne_1_l2_1_L]
    rw [← fano_eachOne_1_l2_1_L_eq K N]
    kernel_rfl

theorem p73r8_2400 : PieceOk (V 73) q73r8 o73r8 73 8 (3997, 1, c73r8_2400) := .l (size := 28) (ss := [0, 6, 7, 8]) (F := @o73r8_2400_in) (by kernel_rfl) (by kernel_rfl) fun R r K vs hh h => by
  unfold o73r8_2400_in at h; split at h
  · rw [fano_eachOne_1_l2_1_unf] at h; unfold fano_eachOne_1_l2_1_B at h; rw [← fano_eachOne_1_l2_1_L_eq K NR] at h; exact h
  · cases h

theorem p73r8_4400 : PieceOk (V 73) q73r8 o73r8 73 8 (3990, 1, c73r8_4400) := .l (size := 28) (ss := [0, 3, 4, 6, 7, 8]) (F := @o73r8_4400_in) (by kernel_rfl) (by kernel_rfl) fun R r K vs hh h => by
  unfold o73r8_4400_in at h; split at h
  · rw [fano_eachOne_1_l4_1_unf] at h; unfold fano_eachOne_1_l4_1_B at h; rw [← fano_eachOne_1_l4_1_L_eq K NR] at h; exact h
  · cases h

theorem pc73r8 : ∀ x ∈ [(3997, 1, c73r8_2400), (3990, 1, c73r8_4400)], PieceOk (V 73) q73r8 o73r8 73 8 x := List.forall_mem_cons.2 ⟨p73r8_2400, List.forall_mem_cons.2 ⟨p73r8_4400, fun _ h => nomatch h⟩⟩

noncomputable def hs73 : HSpec := fun args h _ K => match args, h with
 | [AV.fn 45 [Ap 0 0, Ap 2 0, Ap 3 0, Ap 4 0], Ap 5 0], [HA [AV.sl 1 0 v0 1], HO v1, HA [Ai v2], HA [Ai v3], HA [AV.esl], HA [Ai v4, Fu v5]] => fano_eachOne_1_r v0 v1 v2 v3 v4 v5 (fun v6 v7 v8 v9 va vb vc vd => K (AV.tup []) ([HA [AV.sl 1 0 v6 1], HO v7, HA [Ai v8], HA [Ai v9], HA [AV.sl 6 0 va 1], HA [Ai vb, Fu vc], HU vd]))
 | [AV.fn 83 [Ap 0 0, Ap 1 0, Ap 2 0, Ap 3 0, Ap 4 0, Ap 5 0], Ap 7 0], [HA [Ai ve], HA [Ai vf], HA [Fu vg], HA [Ai vh, Ai vi, Ai vj, Ai vk, Ai vl, Fu vm, Ai vn, Fu vo], HA [Ab vp], HA [AV.sl 6 0 vq 1], HO vr, HA [Ai vs, Fu vt]] => fano_eachOne_1_r_1 ve vf vg vh vi vj vk vl vm vn vo vp vq vr vs vt (fun v6 v7 v8 v9 va vb vc vd vu vv vw vx vy vz v10 v11 => K (AV.tup []) ([HA [Ai v6], HA [Ai v7], HA [Fu v8], HA [Ai v9, Ai va, Ai vb, Ai vc, Ai vd, Fu vu, Ai vv, Fu vw], HA [Ab vx], HA [AV.sl 6 0 vy 1], HO vz, HA [Ai v10, Fu v11]]))
 | _, _ => none
noncomputable def T73 := addT 73 hs73 T83
theorem D16 : Dom B0 V S68 T73 16 := Dom.t D15 fun args hh R K r h => by
 unfold hs73 at h; split at h
 · rw [fano_eachOne_1_r_unf] at h; exact ⟨o73r6, (OrcOk.fn (fn0 := Tryd.f73) (by kernel_rfl) (by kernel_rfl) pc73r6), Eq.trans (by kernel_rfl) h⟩
 · rw [fano_eachOne_1_r_1_unf] at h; exact ⟨o73r8, (OrcOk.fn (fn0 := Tryd.f73) (by kernel_rfl) (by kernel_rfl) pc73r8), Eq.trans (by kernel_rfl) h⟩
 · cases h

noncomputable def o74_4400_in {R : Type} (K : Ex → St → Option R) (vs : List AV) (hh : H) : Option R := match vs, hh with
 | [Ai v0, Fu v1, Ai v2, Ai v3], [] => ints_width_l4 v0 v1 v2 v3 (fun v4 => K (Ex.exit 0) (St.mk (spread 18 0 [3] [Ai v4]) []))
 | _, _ => none

noncomputable def o74 : Nat → Option PSpec := lkN [(4400, fun st _ K => pickM 18 [3, 6, 7, 8] st (o74_4400_in K))]
noncomputable def q74 : CallF := evFun (V 74) S68 T73 10

noncomputable def c74_4400 : Code := subC [1, 1, 0, 1, 0, 0] (bodyOf Tryd.f74)

noncomputable def lp74_4400 {R : Type} (N : Nat) (st : St) (K : Ex → St → Option R) : Option R := evLoop (norm ((V 74).keep 74 (Ev.keyOf c74_4400 * 1000 + 400)) 0) (evCode (V 74) q74 o74 74 0 3994 c74_4400) N st (kOut (V 74) 74 0 (Ev.keyOf c74_4400 * 1000 + 401) K)

theorem ints_width_l4_L_eq {R : Type} (K : Ex → St → Option R) : ∀ N : Nat, (fun (v0 : Int) (v1 : List Int) (v2 v3 : Int) => lp74_4400 N (St.mk (spread 18 0 [3, 6, 7, 8] [Ai v0, Fu v1, Ai v2, Ai v3]) []) K) = ints_width_l4_L (fun v4 => K (Ex.exit 0) (St.mk (spread 18 0 [3] [Ai v4]) [])) N
  | 0 => by funext v0 v1 v2 v3; rfl
  | N + 1 => by
    funext v0 v1 v2 v3
    simp only [ints_width_l4_L]
    rw [← ints_width_l4_L_eq K N]
    kernel_rfl

theorem p74_4400 : PieceOk (V 74) q74 o74 74 0 (3994, 1, c74_4400) := .l (size := 18) (ss := [3, 6, 7, 8]) (F := @o74_4400_in) (by kernel_rfl) (by kernel_rfl) fun R r K vs hh h => by
  unfold o74_4400_in at h; split at h
  · rw [ints_width_l4_unf] at h; unfold ints_width_l4_B at h; rw [← ints_width_l4_L_eq K NR] at h; exact h
  · cases h

theorem pc74 : ∀ x ∈ [(3994, 1, c74_4400)], PieceOk (V 74) q74 o74 74 0 x := List.forall_mem_cons.2 ⟨p74_4400, fun _ h => nomatch h⟩

noncomputable def sp74 : Ev.Spec := fun args _ K => match args with
 | ([Fu v0]) => ints_width v0 (fun v1 => K (Ai v1))
 | _ => none
noncomputable def S74 := addS 74 sp74 S68
theorem D17 : Dom B0 V S74 T73 17 := Dom.s (m := 16) (n := 0) D16 D16 (O := o74) (OrcOk.fn (fn0 := Tryd.f74) (by kernel_rfl) (by kernel_rfl) pc74) fun args R K r h => by
 unfold sp74 at h; split at h
 · rw [ints_width_unf] at h; exact Eq.trans (by kernel_rfl) h
 · cases h

noncomputable def o75r0_3000_in {R : Type} (K : Ex → St → Option R) (vs : List AV) (hh : H) : Option R := match vs, hh with
 | [Ai v0, Ap 0 0, Ab v1], [HA [Ai v2, AV.esl]] => bits_New_j3 v0 v1 v2 (fun v3 v4 => K (Ex.ret) (St.mk (spread 16 0 [2, 3] [Ap 0 0, Ai v3]) [HA [Ai v4, AV.esl]])) (fun v3 v4 => K (Ex.normal) (St.mk (spread 16 0 [0, 2] [Ai v3, Ap 0 0]) [HA [Ai v4, AV.esl]]))
 | _, _ => none

noncomputable def o75r0_4000_in {R : Type} (K : Ex → St → Option R) (vs : List AV) (hh : H) : Option R := match vs, hh with
 | [Ai v0, Ap 0 0], [HA [Ai v1, AV.esl]] => bits_New_j4 v0 v1 (fun v2 v3 v4 v5 => K (Ex.ret) (St.mk (spread 16 0 [2, 3] [Ap 0 0, Ai v2]) [HA [Ai v3, AV.sl 1 0 v4 1], HU v5]))
 | _, _ => none

noncomputable def o75r0 : Nat → Option PSpec := lkN [(3000, fun st _ K => pickM 16 [0, 2, 9] st (o75r0_3000_in K)), (4000, fun st _ K => pickM 16 [0, 2] st (o75r0_4000_in K))]
noncomputable def q75r0 : CallF := evFun (V 75) S74 T73 10

noncomputable def c75r0_4000 : Code := subC [1, 1] (bodyOf Tryd.f75)

noncomputable def c75r0_3000 : Code := subC [1, 0, 1] (bodyOf Tryd.f75)

theorem p75r0_4000 : PieceOk (V 75) q75r0 o75r0 75 0 (3998, 0, c75r0_4000) := .s (size := 16) (ss := [0, 2]) (F := @o75r0_4000_in) (by kernel_rfl) fun R r K vs hh h => by
  unfold o75r0_4000_in at h; split at h
  · rw [bits_New_j4_unf] at h; exact Eq.trans (by kernel_rfl) h
  · cases h

theorem p75r0_3000 : PieceOk (V 75) q75r0 o75r0 75 0 (3997, 0, c75r0_3000) := .s (size := 16) (ss := [0, 2, 9]) (F := @o75r0_3000_in) (by kernel_rfl) fun R r K vs hh h => by
  unfold o75r0_3000_in at h; split at h
  · rw [bits_New_j3_unf] at h; exact Eq.trans (by kernel_rfl) h
  · cases h

theorem pc75r0 : ∀ x ∈ [(3998, 0, c75r0_4000), (3997, 0, c75r0_3000)], PieceOk (V 75) q75r0 o75r0 75 0 x := List.forall_mem_cons.2 ⟨p75r0_4000, List.forall_mem_cons.2 ⟨p75r0_3000, fun _ h => nomatch h⟩⟩

noncomputable def hs75 : HSpec := fun args h _ K => match args, h with
 | [Ai v0], [] => bits_New_r v0 (fun v1 v2 => K (AV.tup [AV.agg (Blk.any [Ai v1, AV.esl]), Ai v2]) []) (fun v1 v2 v3 v4 => K (AV.tup [AV.agg (Blk.any [Ai v1, AV.sl 0 0 v2 1]), Ai v3]) ([HU v4]))
 | _, _ => none
noncomputable def T75 := addT 75 hs75 T73
theorem D18 : Dom B0 V S74 T75 18 := Dom.t D17 fun args hh R K r h => by
 unfold hs75 at h; split at h
 · rw [bits_New_r_unf] at h; exact ⟨o75r0, (OrcOk.fn (fn0 := Tryd.f75) (by kernel_rfl) (by kernel_rfl) pc75r0), Eq.trans (by kernel_rfl) h⟩
 · cases h

noncomputable def sp75 : Ev.Spec := fun args _ K => match args with
 | ([Ai v0]) => bits_New v0 (fun v1 v2 v3 => K (AV.tup [AV.agg (Blk.any [Ai v1, Fu v2]), Ai v3]))
 | _ => none
noncomputable def S75 := addS 75 sp75 S74
theorem D19 : Dom B0 V S75 T75 19 := Dom.s (m := 17) (n := 1) D18 D17 (O := o75r0) (OrcOk.fn (fn0 := Tryd.f75) (by kernel_rfl) (by kernel_rfl) pc75r0) fun args R K r h => by
 unfold sp75 at h; split at h
 · rw [bits_New_unf] at h; exact Eq.trans (by kernel_rfl) h
 · cases h

theorem bits_own_r_eq {R : Type} (K : AV → H → Option R) (v0 : Int) (v1 : List Int) (v2 : Int) : evH (V 86) S75 T75 (fun _ => none) 10 86 [AV.agg (Blk.any [Ai v0, Fu v1]), Ai v2] [] R K = bits_own_r_B v0 v1 v2 (fun v3 v4 v5 => K (AV.agg (Blk.any [Ai v3, AV.sl 0 0 v4 1])) ([HU v5])) := by kernel_rfl

noncomputable def hs86 : HSpec := fun args h _ K => match args, h with
 | [AV.agg (Blk.any [Ai v0, Fu v1]), Ai v2], [] => bits_own_r v0 v1 v2 (fun v3 v4 v5 => K (AV.agg (Blk.any [Ai v3, AV.sl 0 0 v4 1])) ([HU v5]))
 | _, _ => none
noncomputable def T86 := addT 86 hs86 T75
theorem D20 : Dom B0 V S75 T86 20 := Dom.t D19 fun args hh R K r h => by
 unfold hs86 at h; split at h
 · rw [bits_own_r_unf] at h; exact ⟨(fun _ => none), (fun _ _ _ _ => OrcOk.none _ _), (bits_own_r_eq K _ _ _).trans h⟩
 · cases h

noncomputable def o87r1_5000_in {R : Type} (K : Ex → St → Option R) (vs : List AV) (hh : H) : Option R := match vs, hh with
 | [Au v0, Ap 1 0, Ai v1, Ai v2], [HU v3, HA [Ai v4, AV.sl 0 0 v5 1]] => bits_fill_j5 v0 v1 v2 v3 v4 v5 (fun v6 => K (Ex.normal) (St.mk (spread 49 0 [] []) [HU v6]))
 | _, _ => none

noncomputable def o87r1_6000_in {R : Type} (K : Ex → St → Option R) (vs : List AV) (hh : H) : Option R := match vs, hh with
 | [Au v0, Ap 1 0, Ai v1, Ai v2, Ab v3], [HU v4, HA [Ai v5, AV.sl 0 0 v6 1]] => bits_fill_j6 v0 v1 v2 v3 v4 v5 v6 (fun v7 => K (Ex.normal) (St.mk (spread 49 0 [] []) [HU v7]))
 | _, _ => none

noncomputable def o87r1 : Nat → Option PSpec := lkN [(5000, fun st _ K => pickM 49 [2, 3, 6, 7] st (o87r1_5000_in K)), (6000, fun st _ K => pickM 49 [2, 3, 6, 7, 36] st (o87r1_6000_in K))]
noncomputable def q87r1 : CallF := evFun (V 87) S75 T86 10

noncomputable def c87r1_5000 : Code := subC [1, 1, 1] (bodyOf Tryd.f87)

noncomputable def c87r1_6000 : Code := subC [1, 1, 1, 1] (bodyOf Tryd.f87)

theorem p87r1_5000 : PieceOk (V 87) q87r1 o87r1 87 1 (3997, 0, c87r1_5000) := .s (size := 49) (ss := [2, 3, 6, 7]) (F := @o87r1_5000_in) (by kernel_rfl) fun R r K vs hh h => by
  unfold o87r1_5000_in at h; split at h
  · rw [bits_fill_j5_unf] at h; exact Eq.trans (by kernel_rfl) h
  · cases h

theorem p87r1_6000 : PieceOk (V 87) q87r1 o87r1 87 1 (3996, 0, c87r1_6000) := .s (size := 49) (ss := [2, 3, 6, 7, 36]) (F := @o87r1_6000_in) (by kernel_rfl) fun R r K vs hh h => by
  unfold o87r1_6000_in at h; split at h
  · rw [bits_fill_j6_unf] at h; exact Eq.trans (by kernel_rfl) h
  · cases h

theorem pc87r1 : ∀ x ∈ [(3997, 0, c87r1_5000), (3996, 0, c87r1_6000)], PieceOk (V 87) q87r1 o87r1 87 1 x := List.forall_mem_cons.2 ⟨p87r1_5000, List.forall_mem_cons.2 ⟨p87r1_6000, fun _ h => nomatch h⟩⟩

theorem bits_fill_r_eq {R : Type} (K : AV → H → Option R) (v0 : Int) (v1 : Nat) (v2 v3 : Int) (v4 : List Int) : evH (V 87) S75 T86 o87r1 10 87 [AV.agg (Blk.any [Ai v0, AV.sl 0 0 v1 1]), Ai v2, Au v3] [HU v4] R K = bits_fill_r_B v0 v1 v2 v3 v4 (fun v5 => K (AV.tup []) ([HU v5])) := by kernel_rfl

noncomputable def hs87 : HSpec := fun args h _ K => match args, h with
 | [AV.agg (Blk.any [Ai v0, AV.sl 0 0 v1 1]), Ai v2, Au v3], [HU v4] => bits_fill_r v0 v1 v2 v3 v4 (fun v5 => K (AV.tup []) ([HU v5]))
 | _, _ => none
noncomputable def T87 := addT 87 hs87 T86
theorem D21 : Dom B0 V S75 T87 21 := Dom.t D20 fun args hh R K r h => by
 unfold hs87 at h; split at h
 · rw [bits_fill_r_unf] at h; exact ⟨o87r1, (OrcOk.fn (fn0 := Tryd.f87) (by kernel_rfl) (by kernel_rfl) pc87r1), (bits_fill_r_eq K _ _ _ _ _).trans h⟩
 · cases h

noncomputable def o61_3000_in {R : Type} (K : Ex → St → Option R) (vs : List AV) (hh : H) : Option R := match vs, hh with
 | [Au v0, Ai v1, Ap 0 0, Ap 1 0, Ab v2], [HA [Ai v3, Fu v4], HA [Ai v5, AV.esl]] => bits_Append_j3 v0 v1 v2 v3 v4 v5 (fun v6 v7 v8 => K (Ex.ret) (St.mk (spread 43 0 [6, 7] [Ap 0 0, Ai v6]) [HA [Ai v7, Fu v8]])) (fun v6 v7 v8 v9 va => K (Ex.normal) (St.mk (spread 43 0 [1, 2, 3, 6] [Au v6, Ai v7, Ap 0 0, Ap 1 0]) [HA [Ai v8, Fu v9], HA [Ai va, AV.esl]]))
 | _, _ => none

noncomputable def o61_4000_in {R : Type} (K : Ex → St → Option R) (vs : List AV) (hh : H) : Option R := match vs, hh with
 | [Au v0, Ai v1, Ap 0 0, Ap 1 0], [HA [Ai v2, Fu v3], HA [Ai v4, AV.esl]] => bits_Append_j4 v0 v1 v2 v3 v4 (fun v5 v6 v7 v8 => K (Ex.ret) (St.mk (spread 43 0 [6, 7] [Ap 0 0, Ai v5]) [HA [Ai v6, AV.sl 1 0 v7 1], HU v8]))
 | _, _ => none

noncomputable def o61 : Nat → Option PSpec := lkN [(3000, fun st _ K => pickM 43 [1, 2, 3, 6, 26] st (o61_3000_in K)), (4000, fun st _ K => pickM 43 [1, 2, 3, 6] st (o61_4000_in K))]
noncomputable def q61 : CallF := evFun (V 61) S75 T87 10

noncomputable def c61_4000 : Code := subC [1, 1] (bodyOf Tryd.f61)

noncomputable def c61_3000 : Code := subC [1, 0, 1] (bodyOf Tryd.f61)

theorem p61_4000 : PieceOk (V 61) q61 o61 61 0 (3998, 0, c61_4000) := .s (size := 43) (ss := [1, 2, 3, 6]) (F := @o61_4000_in) (by kernel_rfl) fun R r K vs hh h => by
  unfold o61_4000_in at h; split at h
  · rw [bits_Append_j4_unf] at h; exact Eq.trans (by kernel_rfl) h
  · cases h

theorem p61_3000 : PieceOk (V 61) q61 o61 61 0 (3997, 0, c61_3000) := .s (size := 43) (ss := [1, 2, 3, 6, 26]) (F := @o61_3000_in) (by kernel_rfl) fun R r K vs hh h => by
  unfold o61_3000_in at h; split at h
  · rw [bits_Append_j3_unf] at h; exact Eq.trans (by kernel_rfl) h
  · cases h

theorem pc61 : ∀ x ∈ [(3998, 0, c61_4000), (3997, 0, c61_3000)], PieceOk (V 61) q61 o61 61 0 x := List.forall_mem_cons.2 ⟨p61_4000, List.forall_mem_cons.2 ⟨p61_3000, fun _ h => nomatch h⟩⟩

theorem bits_Append_eq {R : Type} (K : AV → Option R) (v0 : Int) (v1 : List Int) (v2 v3 : Int) : evSpec (V 61) S75 T87 o61 10 61 ([AV.agg (Blk.any [Ai v0, Fu v1]), Au v2, Ai v3]) R K = bits_Append_B v0 v1 v2 v3 (fun v4 v5 v6 => K (AV.tup [AV.agg (Blk.any [Ai v4, Fu v5]), Ai v6])) := by kernel_rfl

noncomputable def sp61 : Ev.Spec := fun args _ K => match args with
 | ([AV.agg (Blk.any [Ai v0, Fu v1]), Au v2, Ai v3]) => bits_Append v0 v1 v2 v3 (fun v4 v5 v6 => K (AV.tup [AV.agg (Blk.any [Ai v4, Fu v5]), Ai v6]))
 | _ => none
noncomputable def S61 := addS 61 sp61 S75
theorem D22 : Dom B0 V S61 T87 22 := Dom.s (m := 21) (n := 0) D21 D21 (O := o61) (OrcOk.fn (fn0 := Tryd.f61) (by kernel_rfl) (by kernel_rfl) pc61) fun args R K r h => by
 unfold sp61 at h; split at h
 · rw [bits_Append_unf] at h; exact (bits_Append_eq K _ _ _ _).trans h
 · cases h

noncomputable def o47_3000_in {R : Type} (K : Ex → St → Option R) (vs : List AV) (hh : H) : Option R := match vs, hh with
 | [Ai v0, Fu v1, Ap 0 0, Ab v2], [HA [Ai v3, Ai v4, Ai v5, AV.esl]] => ints_Make_j3 v0 v1 v2 v3 v4 v5 (fun v6 v7 v8 v9 => K (Ex.ret) (St.mk (spread 53 0 [4, 5] [Ap 0 0, Ai v6]) [HA [Ai v7, Ai v8, Ai v9, AV.esl]])) (fun v6 v7 v8 v9 va => K (Ex.normal) (St.mk (spread 53 0 [0, 1, 4] [Ai v6, Fu v7, Ap 0 0]) [HA [Ai v8, Ai v9, Ai va, AV.esl]]))
 | _, _ => none

noncomputable def o47_4000_in {R : Type} (K : Ex → St → Option R) (vs : List AV) (hh : H) : Option R := match vs, hh with
 | [Ai v0, Fu v1, Ap 0 0], [HA [Ai v2, Ai v3, Ai v4, AV.esl]] => ints_Make_j4 v0 v1 v2 v3 v4 (fun v5 v6 v7 v8 v9 => K (Ex.ret) (St.mk (spread 53 0 [4, 5] [Ap 0 0, Ai v5]) [HA [Ai v6, Ai v7, Ai v8, Fu v9]]))
 | _, _ => none

noncomputable def o47_6400_in {R : Type} (K : Ex → St → Option R) (vs : List AV) (hh : H) : Option R := match vs, hh with
 | [Ai v0, Fu v1, Ap 0 0, Ap 1 0, Fu v2, Ai v3, Ai v4], [HA [Ai v5, Ai v6, Ai v7, AV.esl], HA [Ai v8, Fu v9]] => ints_Make_l6 v0 v1 v2 v3 v4 v5 v6 v7 v8 v9 (fun va vb vc vd ve vf vg => K (Ex.exit 0) (St.mk (spread 53 0 [0, 1, 4, 6] [Ai va, Fu vb, Ap 0 0, Ap 1 0]) [HA [Ai vc, Ai vd, Ai ve, AV.esl], HA [Ai vf, Fu vg]]))
 | _, _ => none

noncomputable def o47 : Nat → Option PSpec := lkN [(3000, fun st _ K => pickM 53 [0, 1, 4, 28] st (o47_3000_in K)), (4000, fun st _ K => pickM 53 [0, 1, 4] st (o47_4000_in K)), (6400, fun st _ K => pickM 53 [0, 1, 4, 6, 34, 35, 36] st (o47_6400_in K))]
noncomputable def q47 : CallF := evFun (V 47) S61 T87 10

noncomputable def c47_4000 : Code := subC [1, 1] (bodyOf Tryd.f47)

noncomputable def c47_3000 : Code := subC [1, 0, 1] (bodyOf Tryd.f47)

noncomputable def c47_6400 : Code := subC [1, 1, 1, 0, 1, 0, 0] (bodyOf Tryd.f47)

noncomputable def lp47_6400 {R : Type} (N : Nat) (st : St) (K : Ex → St → Option R) : Option R := evLoop (norm ((V 47).keep 47 (Ev.keyOf c47_6400 * 1000 + 400)) 0) (evCode (V 47) q47 o47 47 0 3993 c47_6400) N st (kOut (V 47) 47 0 (Ev.keyOf c47_6400 * 1000 + 401) K)

theorem ints_Make_l6_L_eq {R : Type} (K : Ex → St → Option R) : ∀ N : Nat, (fun (v0 : Int) (v1 v2 : List Int) (v3 v4 v5 v6 v7 v8 : Int) (v9 : List Int) => lp47_6400 N (St.mk (spread 53 0 [0, 1, 4, 6, 34, 35, 36] [Ai v0, Fu v1, Ap 0 0, Ap 1 0, Fu v2, Ai v3, Ai v4]) [HA [Ai v5, Ai v6, Ai v7, AV.esl], HA [Ai v8, Fu v9]]) K) = ints_Make_l6_L (fun va vb vc vd ve vf vg => K (Ex.exit 0) (St.mk (spread 53 0 [0, 1, 4, 6] [Ai va, Fu vb, Ap 0 0, Ap 1 0]) [HA [Ai vc, Ai vd, Ai ve, AV.esl], HA [Ai vf, Fu vg]])) N
  | 0 => by funext v0 v1 v2 v3 v4 v5 v6 v7 v8 v9; rfl
  | N + 1 => by
    funext v0 v1 v2 v3 v4 v5 v6 v7 v8 v9
    simp only [ints_Make_l6_L]
    rw [← ints_Make_l6_L_eq K N]
    kernel_rfl

theorem p47_4000 : PieceOk (V 47) q47 o47 47 0 (3998, 0, c47_4000) := .s (size := 53) (ss := [0, 1, 4]) (F := @o47_4000_in) (by kernel_rfl) fun R r K vs hh h => by
  unfold o47_4000_in at h; split at h
  · rw [ints_Make_j4_unf] at h; exact Eq.trans (by kernel_rfl) h
  · cases h

theorem p47_3000 : PieceOk (V 47) q47 o47 47 0 (3997, 0, c47_3000) := .s (size := 53) (ss := [0, 1, 4, 28]) (F := @o47_3000_in) (by kernel_rfl) fun R r K vs hh h => by
  unfold o47_3000_in at h; split at h
  · rw [ints_Make_j3_unf] at h; exact Eq.trans (by kernel_rfl) h
  · cases h

theorem p47_6400 : PieceOk (V 47) q47 o47 47 0 (3993, 1, c47_6400) := .l (size := 53) (ss := [0, 1, 4, 6, 34, 35, 36]) (F := @o47_6400_in) (by kernel_rfl) (by kernel_rfl) fun R r K vs hh h => by
  unfold o47_6400_in at h; split at h
  · rw [ints_Make_l6_unf] at h; unfold ints_Make_l6_B at h; rw [← ints_Make_l6_L_eq K NR] at h; exact h
  · cases h

theorem pc47 : ∀ x ∈ [(3998, 0, c47_4000), (3997, 0, c47_3000), (3993, 1, c47_6400)], PieceOk (V 47) q47 o47 47 0 x := List.forall_mem_cons.2 ⟨p47_4000, List.forall_mem_cons.2 ⟨p47_3000, List.forall_mem_cons.2 ⟨p47_6400, fun _ h => nomatch h⟩⟩⟩

theorem ints_Make_eq {R : Type} (K : AV → Option R) (v0 : Int) (v1 : List Int) : evSpec (V 47) S61 T87 o47 10 47 ([Ai v0, Fu v1]) R K = ints_Make_B v0 v1 (fun v2 v3 v4 v5 v6 => K (AV.tup [AV.agg (Blk.any [Ai v2, Ai v3, Ai v4, Fu v5]), Ai v6])) := by kernel_rfl

noncomputable def sp47 : Ev.Spec := fun args _ K => match args with
 | ([Ai v0, Fu v1]) => ints_Make v0 v1 (fun v2 v3 v4 v5 v6 => K (AV.tup [AV.agg (Blk.any [Ai v2, Ai v3, Ai v4, Fu v5]), Ai v6]))
 | _ => none
noncomputable def S47 := addS 47 sp47 S61
theorem D23 : Dom B0 V S47 T87 23 := Dom.s (m := 22) (n := 0) D22 D22 (O := o47) (OrcOk.fn (fn0 := Tryd.f47) (by kernel_rfl) (by kernel_rfl) pc47) fun args R K r h => by
 unfold sp47 at h; split at h
 · rw [ints_Make_unf] at h; exact (ints_Make_eq K _ _).trans h
 · cases h

noncomputable def o48_6400_in {R : Type} (K : Ex → St → Option R) (vs : List AV) (hh : H) : Option R := match vs, hh with
 | [Ap 0 0, Ap 1 0, AV.fsl (Blk.bools v0), Ai v1, Ai v2], [HA [Ai v3, AV.esl], HA [Ai v4, AV.esl]] => bits_From_l6 v0 v1 v2 v3 v4 (fun v5 v6 => K (Ex.exit 0) (St.mk (spread 39 0 [2, 4] [Ap 0 0, Ap 1 0]) [HA [Ai v5, AV.esl], HA [Ai v6, AV.esl]]))
 | [Ap 0 0, Ap 1 0, AV.fsl (Blk.bools v7), Ai v8, Ai v9], [HA [Ai va, AV.esl], HA [Ai vb, AV.sl 2 0 vc 1], HU vd] => bits_From_l6_1 v7 v8 v9 va vb vc vd (fun v5 v6 ve vf => K (Ex.exit 0) (St.mk (spread 39 0 [2, 4] [Ap 0 0, Ap 1 0]) [HA [Ai v5, AV.esl], HA [Ai v6, AV.sl 2 0 ve 1], HU vf]))
 | _, _ => none

noncomputable def o48 : Nat → Option PSpec := lkN [(6400, fun st _ K => pickM 39 [2, 4, 18, 19, 20] st (o48_6400_in K))]
noncomputable def q48 : CallF := evFun (V 48) S47 T87 10

noncomputable def c48_6400 : Code := subC [1, 1, 1, 0, 1, 0, 0] (bodyOf Tryd.f48)

noncomputable def lp48_6400 {R : Type} (N : Nat) (st : St) (K : Ex → St → Option R) : Option R := evLoop (norm ((V 48).keep 48 (Ev.keyOf c48_6400 * 1000 + 400)) 0) (evCode (V 48) q48 o48 48 0 3993 c48_6400) N st (kOut (V 48) 48 0 (Ev.keyOf c48_6400 * 1000 + 401) K)

theorem bits_From_l6_L_eq {R : Type} (K : Ex → St → Option R) : ∀ N : Nat, (fun (v0 : List Bool) (v1 v2 v3 v4 : Int) => lp48_6400 N (St.mk (spread 39 0 [2, 4, 18, 19, 20] [Ap 0 0, Ap 1 0, AV.fsl (Blk.bools v0), Ai v1, Ai v2]) [HA [Ai v3, AV.esl], HA [Ai v4, AV.esl]]) K) = bits_From_l6_L (fun v5 v6 => K (Ex.exit 0) (St.mk (spread 39 0 [2, 4] [Ap 0 0, Ap 1 0]) [HA [Ai v5, AV.esl], HA [Ai v6, AV.esl]])) N
  | 0 => by funext v0 v1 v2 v3 v4; rfl
  | N + 1 => by
    funext v0 v1 v2 v3 v4
    simp only [bits_From_l6_L]
    rw [← bits_From_l6_L_eq K N]
    kernel_rfl

theorem bits_From_l6_1_L_eq {R : Type} (K : Ex → St → Option R) : ∀ N : Nat, (fun (v0 : List Bool) (v1 v2 v3 v4 : Int) (v5 : Nat) (v6 : List Int) => lp48_6400 N (St.mk (spread 39 0 [2, 4, 18, 19, 20] [Ap 0 0, Ap 1 0, AV.fsl (Blk.bools v0), Ai v1, Ai v2]) [HA [Ai v3, AV.esl], HA [Ai v4, AV.sl 2 0 v5 1], HU v6]) K) = bits_From_l6_1_L (fun v7 v8 v9 va => K (Ex.exit 0) (St.mk (spread 39 0 [2, 4] [Ap 0 0, Ap 1 0]) [HA [Ai v7, AV.esl], HA [Ai v8, AV.sl 2 0 v9 1], HU va])) N
  | 0 => by funext v0 v1 v2 v3 v4 v5 v6; rfl
  | N + 1 => by
    funext v0 v1 v2 v3 v4 v5 v6
    simp only [bits_From_l6_1_L]
    rw [← bits_From_l6_1_L_eq K N]
    kernel_rfl

theorem p48_6400 : PieceOk (V 48) q48 o48 48 0 (3993, 1, c48_6400) := .l (size := 39) (ss := [2, 4, 18, 19, 20]) (F := @o48_6400_in) (by kernel_rfl) (by kernel_rfl) fun R r K vs hh h => by
  unfold o48_6400_in at h; split at h
  · rw [bits_From_l6_unf] at h; unfold bits_From_l6_B at h; rw [← bits_From_l6_L_eq K NR] at h; exact h
  · rw [bits_From_l6_1_unf] at h; unfold bits_From_l6_1_B at h; rw [← bits_From_l6_1_L_eq K NR] at h; exact h
  · cases h

theorem pc48 : ∀ x ∈ [(3993, 1, c48_6400)], PieceOk (V 48) q48 o48 48 0 x := List.forall_mem_cons.2 ⟨p48_6400, fun _ h => nomatch h⟩

noncomputable def sp48 : Ev.Spec := fun args _ K => match args with
 | ([AV.fsl (Blk.bools v0)]) => bits_From v0 (fun v1 v2 v3 => K (AV.tup [AV.agg (Blk.any [Ai v1, Fu v2]), Ai v3]))
 | _ => none
noncomputable def S48 := addS 48 sp48 S47
theorem D24 : Dom B0 V S48 T87 24 := Dom.s (m := 23) (n := 0) D23 D23 (O := o48) (OrcOk.fn (fn0 := Tryd.f48) (by kernel_rfl) (by kernel_rfl) pc48) fun args R K r h => by
 unfold sp48 at h; split at h
 · rw [bits_From_unf] at h; exact Eq.trans (by kernel_rfl) h
 · cases h

noncomputable def o13_14000_in {R : Type} (K : Ex → St → Option R) (vs : List AV) (hh : H) : Option R := match vs, hh with
 | [Ap 0 0, Ap 1 0, Ab v0], [HA [Ai v1, Ai v2, Ai v3, Ai v4, Ai v5, AV.esl, Ai v6, AV.esl], HA [Ai v7, Ai v8, Ai v9, Ai va, Ai vb, Fu vc, Ai vd, Fu ve]] => fano_Build_j14 v0 v1 v2 v3 v4 v5 v6 v7 v8 v9 va vb vc vd ve (fun vf vg vh vi vj vk vl => K (Ex.ret) (St.mk (spread 62 0 [2, 3] [Ap 0 0, Ai vf]) [HA [Ai vg, Ai vh, Ai vi, Ai vj, Ai vk, AV.esl, Ai vl, AV.esl]])) (fun vf vg vh vi vj vk vl vm vn vo vp vq vr vs => K (Ex.normal) (St.mk (spread 62 0 [2, 4] [Ap 0 0, Ap 1 0]) [HA [Ai vf, Ai vg, Ai vh, Ai vi, Ai vj, AV.esl, Ai vk, AV.esl], HA [Ai vl, Ai vm, Ai vn, Ai vo, Ai vp, Fu vq, Ai vr, Fu vs]]))
 | _, _ => none

noncomputable def o13 : Nat → Option PSpec := lkN [(14000, fun st _ K => pickM 62 [2, 4, 59] st (o13_14000_in K))]
noncomputable def q13 : CallF := evFun (V 13) S48 T87 10

noncomputable def c13_14000 : Code := subC [1, 1, 1, 1, 1, 1, 1, 1, 1, 1, 1, 0, 1] (bodyOf Tryd.f13)

theorem p13_14000 : PieceOk (V 13) q13 o13 13 0 (3987, 0, c13_14000) := .s (size := 62) (ss := [2, 4, 59]) (F := @o13_14000_in) (by kernel_rfl) fun R r K vs hh h => by
  unfold o13_14000_in at h; split at h
  · rw [fano_Build_j14_unf] at h; exact Eq.trans (by kernel_rfl) h
  · cases h

theorem pc13 : ∀ x ∈ [(3987, 0, c13_14000)], PieceOk (V 13) q13 o13 13 0 x := List.forall_mem_cons.2 ⟨p13_14000, fun _ h => nomatch h⟩

theorem fano_Build_eq {R : Type} (K : AV → Option R) (v0 : Int) (v1 : List Int) : evSpec (V 13) S48 T87 o13 10 13 ([AV.agg (Blk.any [Ai v0, Fu v1])]) R K = fano_Build_B v0 v1 (fun v2 v3 v4 v5 v6 v7 v8 v9 va => K (AV.tup [AV.agg (Blk.any [Ai v2, Ai v3, Ai v4, Ai v5, Ai v6, Fu v7, Ai v8, Fu v9]), Ai va])) := by kernel_rfl

noncomputable def sp13 : Ev.Spec := fun args _ K => match args with
 | ([AV.agg (Blk.any [Ai v0, Fu v1])]) => fano_Build v0 v1 (fun v2 v3 v4 v5 v6 v7 v8 v9 va => K (AV.tup [AV.agg (Blk.any [Ai v2, Ai v3, Ai v4, Ai v5, Ai v6, Fu v7, Ai v8, Fu v9]), Ai va]))
 | _ => none
noncomputable def S13 := addS 13 sp13 S48
theorem D25 : Dom B0 V S13 T87 25 := Dom.s (m := 24) (n := 0) D24 D24 (O := o13) (OrcOk.fn (fn0 := Tryd.f13) (by kernel_rfl) (by kernel_rfl) pc13) fun args R K r h => by
 unfold sp13 at h; split at h
 · rw [fano_Build_unf] at h; exact (fano_Build_eq K _ _).trans h
 · cases h

noncomputable def sp81 : Ev.Spec := fun args _ K => match args with
 | ([AV.agg (Blk.any [Ai v0, Ai v1, Ai v2, Fu v3])]) => ints_Check v0 v1 v2 v3 (fun v4 => K (Ab v4))
 | _ => none
noncomputable def S81 := addS 81 sp81 S13
theorem D26 : Dom B0 V S81 T87 26 := Dom.s (m := 25) (n := 0) D25 D25 (O := (fun _ => none)) (fun _ _ _ _ => OrcOk.none _ _) fun args R K r h => by
 unfold sp81 at h; split at h
 · rw [ints_Check_unf] at h; exact Eq.trans (by kernel_rfl) h
 · cases h

noncomputable def o58_3000_in {R : Type} (K : Ex → St → Option R) (vs : List AV) (hh : H) : Option R := match vs, hh with
 | [Ai v0, Ai v1, Ap 0 0, Ab v2], [HA [Ai v3, Fu v4]] => bits_Slice_j3 v0 v1 v2 v3 v4 (fun v5 v6 => K (Ex.ret) (St.mk (spread 73 0 [6, 7] [Au v5, Ai v6]) [])) (fun v5 v6 v7 v8 => K (Ex.normal) (St.mk (spread 73 0 [1, 2, 3] [Ai v5, Ai v6, Ap 0 0]) [HA [Ai v7, Fu v8]]))
 | _, _ => none

noncomputable def o58_5000_in {R : Type} (K : Ex → St → Option R) (vs : List AV) (hh : H) : Option R := match vs, hh with
 | [Ai v0, Ai v1, Ap 0 0, Ab v2], [HA [Ai v3, Fu v4]] => bits_Slice_j5 v0 v1 v2 v3 v4 (fun v5 v6 => K (Ex.ret) (St.mk (spread 73 0 [6, 7] [Au v5, Ai v6]) [])) (fun v5 v6 v7 v8 => K (Ex.normal) (St.mk (spread 73 0 [1, 2, 3] [Ai v5, Ai v6, Ap 0 0]) [HA [Ai v7, Fu v8]]))
 | _, _ => none

noncomputable def o58_8000_in {R : Type} (K : Ex → St → Option R) (vs : List AV) (hh : H) : Option R := match vs, hh with
 | [Ai v0, Ai v1, Ap 0 0], [HA [Ai v2, Fu v3]] => bits_Slice_j8 v0 v1 v2 v3 (fun v4 v5 => K (Ex.ret) (St.mk (spread 73 0 [6, 7] [Au v4, Ai v5]) []))
 | _, _ => none

noncomputable def o58_12000_in {R : Type} (K : Ex → St → Option R) (vs : List AV) (hh : H) : Option R := match vs, hh with
 | [Ai v0, Au v1], [] => bits_Slice_j12 v0 v1 (fun v2 v3 => K (Ex.ret) (St.mk (spread 73 0 [6, 7] [Au v2, Ai v3]) []))
 | _, _ => none

noncomputable def o58 : Nat → Option PSpec := lkN [(3000, fun st _ K => pickM 73 [1, 2, 3, 11] st (o58_3000_in K)), (5000, fun st _ K => pickM 73 [1, 2, 3, 23] st (o58_5000_in K)), (8000, fun st _ K => pickM 73 [1, 2, 3] st (o58_8000_in K)), (12000, fun st _ K => pickM 73 [2, 10] st (o58_12000_in K))]
noncomputable def q58 : CallF := evFun (V 58) S81 T87 10

noncomputable def c58_8000 : Code := subC [1, 1] (bodyOf Tryd.f58)

noncomputable def c58_3000 : Code := subC [1, 0, 0, 1] (bodyOf Tryd.f58)

noncomputable def c58_5000 : Code := subC [1, 0, 0, 1, 1, 1] (bodyOf Tryd.f58)

noncomputable def c58_12000 : Code := subC [1, 1, 1, 1, 1] (bodyOf Tryd.f58)

theorem bits_Slice_j8_eq {R : Type} (K : Ex → St → Option R) (v0 v1 v2 : Int) (v3 : List Int) : evCode (V 58) q58 o58 58 0 3998 c58_8000 (St.mk (spread 73 0 [1, 2, 3] [Ai v0, Ai v1, Ap 0 0]) [HA [Ai v2, Fu v3]]) (kOut (V 58) 58 0 (Ev.keyOf c58_8000 * 1000 + 1) K) = bits_Slice_j8_B v0 v1 v2 v3 (fun v4 v5 => K (Ex.ret) (St.mk (spread 73 0 [6, 7] [Au v4, Ai v5]) [])) := by kernel_rfl

theorem p58_8000 : PieceOk (V 58) q58 o58 58 0 (3998, 0, c58_8000) := .s (size := 73) (ss := [1, 2, 3]) (F := @o58_8000_in) (by kernel_rfl) fun R r K vs hh h => by
  unfold o58_8000_in at h; split at h
  · rw [bits_Slice_j8_unf] at h; exact (bits_Slice_j8_eq K _ _ _ _).trans h
  · cases h

theorem p58_3000 : PieceOk (V 58) q58 o58 58 0 (3996, 0, c58_3000) := .s (size := 73) (ss := [1, 2, 3, 11]) (F := @o58_3000_in) (by kernel_rfl) fun R r K vs hh h => by
  unfold o58_3000_in at h; split at h
  · rw [bits_Slice_j3_unf] at h; exact Eq.trans (by kernel_rfl) h
  · cases h

theorem p58_5000 : PieceOk (V 58) q58 o58 58 0 (3994, 0, c58_5000) := .s (size := 73) (ss := [1, 2, 3, 23]) (F := @o58_5000_in) (by kernel_rfl) fun R r K vs hh h => by
  unfold o58_5000_in at h; split at h
  · rw [bits_Slice_j5_unf] at h; exact Eq.trans (by kernel_rfl) h
  · cases h

theorem p58_12000 : PieceOk (V 58) q58 o58 58 0 (3995, 0, c58_12000) := .s (size := 73) (ss := [2, 10]) (F := @o58_12000_in) (by kernel_rfl) fun R r K vs hh h => by
  unfold o58_12000_in at h; split at h
  · rw [bits_Slice_j12_unf] at h; exact Eq.trans (by kernel_rfl) h
  · cases h

theorem pc58 : ∀ x ∈ [(3998, 0, c58_8000), (3996, 0, c58_3000), (3994, 0, c58_5000), (3995, 0, c58_12000)], PieceOk (V 58) q58 o58 58 0 x := List.forall_mem_cons.2 ⟨p58_8000, List.forall_mem_cons.2 ⟨p58_3000, List.forall_mem_cons.2 ⟨p58_5000, List.forall_mem_cons.2 ⟨p58_12000, fun _ h => nomatch h⟩⟩⟩⟩

noncomputable def sp58 : Ev.Spec := fun args _ K => match args with
 | ([AV.agg (Blk.any [Ai v0, Fu v1]), Ai v2, Ai v3]) => bits_Slice v0 v1 v2 v3 (fun v4 v5 => K (AV.tup [Au v4, Ai v5]))
 | _ => none
noncomputable def S58 := addS 58 sp58 S81
theorem D27 : Dom B0 V S58 T87 27 := Dom.s (m := 26) (n := 0) D26 D26 (O := o58) (OrcOk.fn (fn0 := Tryd.f58) (by kernel_rfl) (by kernel_rfl) pc58) fun args R K r h => by
 unfold sp58 at h; split at h
 · rw [bits_Slice_unf] at h; exact Eq.trans (by kernel_rfl) h
 · cases h

noncomputable def o82_6400_in {R : Type} (K : Ex → St → Option R) (vs : List AV) (hh : H) : Option R := match vs, hh with
 | [Ap 0 0, AV.sl 1 0 v0 1, Ai v1, Ai v2], [HA [Ai v3, Ai v4, Ai v5, Fu v6], HU v7] => ints_List_l6 v0 v1 v2 v3 v4 v5 v6 v7 (fun v8 v9 => K (Ex.exit 0) (St.mk (spread 33 0 [3] [AV.sl 0 0 v8 1]) [HU v9]))
 | _, _ => none

noncomputable def o82 : Nat → Option PSpec := lkN [(6400, fun st _ K => pickM 33 [1, 3, 12, 13] st (o82_6400_in K))]
noncomputable def q82 : CallF := evFun (V 82) S58 T87 10

noncomputable def c82_6400 : Code := subC [1, 1, 1, 0, 1, 0, 0] (bodyOf Tryd.f82)

noncomputable def lp82_6400 {R : Type} (N : Nat) (st : St) (K : Ex → St → Option R) : Option R := evLoop (norm ((V 82).keep 82 (Ev.keyOf c82_6400 * 1000 + 400)) 0) (evCode (V 82) q82 o82 82 0 3993 c82_6400) N st (kOut (V 82) 82 0 (Ev.keyOf c82_6400 * 1000 + 401) K)

theorem ints_List_l6_L_eq {R : Type} (K : Ex → St → Option R) : ∀ N : Nat, (fun (v0 : Nat) (v1 v2 v3 v4 v5 : Int) (v6 v7 : List Int) => lp82_6400 N (St.mk (spread 33 0 [1, 3, 12, 13] [Ap 0 0, AV.sl 1 0 v0 1, Ai v1, Ai v2]) [HA [Ai v3, Ai v4, Ai v5, Fu v6], HU v7]) K) = ints_List_l6_L (fun v8 v9 => K (Ex.exit 0) (St.mk (spread 33 0 [3] [AV.sl 0 0 v8 1]) [HU v9])) N
  | 0 => by funext v0 v1 v2 v3 v4 v5 v6 v7; rfl
  | N + 1 => by
    funext v0 v1 v2 v3 v4 v5 v6 v7
    simp only [ints_List_l6_L]
    rw [← ints_List_l6_L_eq K N]
    kernel_rfl

theorem p82_6400 : PieceOk (V 82) q82 o82 82 0 (3993, 1, c82_6400) := .l (size := 33) (ss := [1, 3, 12, 13]) (F := @o82_6400_in) (by kernel_rfl) (by kernel_rfl) fun R r K vs hh h => by
  unfold o82_6400_in at h; split at h
  · rw [ints_List_l6_unf] at h; unfold ints_List_l6_B at h; rw [← ints_List_l6_L_eq K NR] at h; exact h
  · cases h

theorem pc82 : ∀ x ∈ [(3993, 1, c82_6400)], PieceOk (V 82) q82 o82 82 0 x := List.forall_mem_cons.2 ⟨p82_6400, fun _ h => nomatch h⟩

noncomputable def sp82 : Ev.Spec := fun args _ K => match args with
 | ([AV.agg (Blk.any [Ai v0, Ai v1, Ai v2, Fu v3])]) => ints_List v0 v1 v2 v3 (fun v4 => K (Fu v4))
 | _ => none
noncomputable def S82 := addS 82 sp82 S58
theorem D28 : Dom B0 V S82 T87 28 := Dom.s (m := 27) (n := 0) D27 D27 (O := o82) (OrcOk.fn (fn0 := Tryd.f82) (by kernel_rfl) (by kernel_rfl) pc82) fun args R K r h => by
 unfold sp82 at h; split at h
 · rw [ints_List_unf] at h; exact Eq.trans (by kernel_rfl) h
 · cases h

noncomputable def o84_5400_in {R : Type} (K : Ex → St → Option R) (vs : List AV) (hh : H) : Option R := match vs, hh with
 | [Fu v0, Fu v1, Ai v2, Ai v3], [] => slices_Equal_uint64_uint64_l5 v0 v1 v2 v3 (fun v4 => K (Ex.ret) (St.mk (spread 26 0 [4] [Ab v4]) [])) (fun _ => K (Ex.exit 0) (St.mk (spread 26 0 [] []) []))
 | _, _ => none

noncomputable def o84 : Nat → Option PSpec := lkN [(5400, fun st _ K => pickM 26 [0, 1, 12, 13] st (o84_5400_in K))]
noncomputable def q84 : CallF := evFun (V 84) S82 T87 10

noncomputable def c84_5400 : Code := subC [1, 1, 0, 1, 0, 0] (bodyOf Tryd.f84)

noncomputable def lp84_5400 {R : Type} (N : Nat) (st : St) (K : Ex → St → Option R) : Option R := evLoop (norm ((V 84).keep 84 (Ev.keyOf c84_5400 * 1000 + 400)) 0) (evCode (V 84) q84 o84 84 0 3994 c84_5400) N st (kOut (V 84) 84 0 (Ev.keyOf c84_5400 * 1000 + 401) K)

theorem slices_Equal_uint64_uint64_l5_L_eq {R : Type} (K : Ex → St → Option R) : ∀ N : Nat, (fun (v0 v1 : List Int) (v2 v3 : Int) => lp84_5400 N (St.mk (spread 26 0 [0, 1, 12, 13] [Fu v0, Fu v1, Ai v2, Ai v3]) []) K) = slices_Equal_uint64_uint64_l5_L (fun v4 => K (Ex.ret) (St.mk (spread 26 0 [4] [Ab v4]) [])) (fun _ => K (Ex.exit 0) (St.mk (spread 26 0 [] []) [])) N
  | 0 => by funext v0 v1 v2 v3; rfl
  | N + 1 => by
    funext v0 v1 v2 v3
    simp only [slices_Equal_uint64_uint64_l5_L]
    rw [← slices_Equal_uint64_uint64_l5_L_eq K N]
    kernel_rfl

theorem p84_5400 : PieceOk (V 84) q84 o84 84 0 (3994, 1, c84_5400) := .l (size := 26) (ss := [0, 1, 12, 13]) (F := @o84_5400_in) (by kernel_rfl) (by kernel_rfl) fun R r K vs hh h => by
  unfold o84_5400_in at h; split at h
  · rw [slices_Equal_uint64_uint64_l5_unf] at h; unfold slices_Equal_uint64_uint64_l5_B at h; rw [← slices_Equal_uint64_uint64_l5_L_eq K NR] at h; exact h
  · cases h

theorem pc84 : ∀ x ∈ [(3994, 1, c84_5400)], PieceOk (V 84) q84 o84 84 0 x := List.forall_mem_cons.2 ⟨p84_5400, fun _ h => nomatch h⟩

noncomputable def sp84 : Ev.Spec := fun args _ K => match args with
 | ([Fu v0, Fu v1]) => slices_Equal_uint64_uint64 v0 v1 (fun v2 => K (Ab v2))
 | _ => none
noncomputable def S84 := addS 84 sp84 S82
theorem D29 : Dom B0 V S84 T87 29 := Dom.s (m := 28) (n := 0) D28 D28 (O := o84) (OrcOk.fn (fn0 := Tryd.f84) (by kernel_rfl) (by kernel_rfl) pc84) fun args R K r h => by
 unfold sp84 at h; split at h
 · rw [slices_Equal_uint64_uint64_unf] at h; exact Eq.trans (by kernel_rfl) h
 · cases h

noncomputable def o57_3000_in {R : Type} (K : Ex → St → Option R) (vs : List AV) (hh : H) : Option R := match vs, hh with
 | [Ap 0 0, Ap 1 0, Ab v0], [HA [Ai v1, Ai v2, Ai v3, Ai v4, Ai v5, Fu v6, Ai v7, Fu v8], HA [Ai v9, AV.esl]] => fano_row_j3 v0 v1 v2 v3 v4 v5 v6 v7 v8 v9 (fun va vb => K (Ex.ret) (St.mk (spread 136 0 [2, 3] [Ap 0 0, Ab va]) [HA [Ai vb, AV.esl]])) (fun va vb vc vd ve vf vg vh vi => K (Ex.normal) (St.mk (spread 136 0 [1, 2] [Ap 0 0, Ap 1 0]) [HA [Ai va, Ai vb, Ai vc, Ai vd, Ai ve, Fu vf, Ai vg, Fu vh], HA [Ai vi, AV.esl]]))
 | _, _ => none

noncomputable def o57_4000_in {R : Type} (K : Ex → St → Option R) (vs : List AV) (hh : H) : Option R := match vs, hh with
 | [Ap 0 0, Ap 1 0], [HA [Ai v0, Ai v1, Ai v2, Ai v3, Ai v4, Fu v5, Ai v6, Fu v7], HA [Ai v8, AV.esl]] => fano_row_j4 v0 v1 v2 v3 v4 v5 v6 v7 v8 (fun v9 va => K (Ex.ret) (St.mk (spread 136 0 [2, 3] [Ap 0 0, Ab v9]) [HA [Ai va, AV.esl]])) (fun v9 va vb => K (Ex.ret) (St.mk (spread 136 0 [2, 3] [Ap 0 0, Ab v9]) [HA [Ai va, Fu vb]]))
 | _, _ => none

noncomputable def o57_7000_in {R : Type} (K : Ex → St → Option R) (vs : List AV) (hh : H) : Option R := match vs, hh with
 | [Ap 0 0, Ap 1 0, Ap 2 0, Ap 3 0, Ap 4 0], [HA [Ai v0, Ai v1, Ai v2, Ai v3, Ai v4, Fu v5, Ai v6, Fu v7], HA [Ai v8, AV.esl], HA [Ai v9], HA [Fu va], HA [AV.sl 5 0 vb 1], HO vc] => fano_row_j7 v0 v1 v2 v3 v4 v5 v6 v7 v8 v9 va vb vc (fun vd ve => K (Ex.ret) (St.mk (spread 136 0 [2, 3] [Ap 0 0, Ab vd]) [HA [Ai ve, AV.esl]])) (fun vd ve vf => K (Ex.ret) (St.mk (spread 136 0 [2, 3] [Ap 0 0, Ab vd]) [HA [Ai ve, Fu vf]]))
 | _, _ => none

noncomputable def o57_15000_in {R : Type} (K : Ex → St → Option R) (vs : List AV) (hh : H) : Option R := match vs, hh with
 | [Ap 0 0, Ap 1 0, Ai v0, Ab v1], [HA [Ai v2, AV.esl], HA [Ai v3, Fu v4]] => fano_row_j15 v0 v1 v2 v3 v4 (fun v5 v6 => K (Ex.ret) (St.mk (spread 136 0 [2, 3] [Ap 0 0, Ab v5]) [HA [Ai v6, AV.esl]])) (fun v5 v6 v7 => K (Ex.ret) (St.mk (spread 136 0 [2, 3] [Ap 0 0, Ab v5]) [HA [Ai v6, Fu v7]]))
 | _, _ => none

noncomputable def o57_16000_in {R : Type} (K : Ex → St → Option R) (vs : List AV) (hh : H) : Option R := match vs, hh with
 | [Ap 0 0, Ap 1 0, Ab v0], [HA [Ai v1, AV.esl], HA [Ai v2, Fu v3]] => fano_row_j16 v0 v1 v2 v3 (fun v4 v5 => K (Ex.ret) (St.mk (spread 136 0 [2, 3] [Ap 0 0, Ab v4]) [HA [Ai v5, AV.esl]])) (fun v4 v5 v6 => K (Ex.normal) (St.mk (spread 136 0 [2, 9] [Ap 0 0, Ap 1 0]) [HA [Ai v4, AV.esl], HA [Ai v5, Fu v6]]))
 | _, _ => none

noncomputable def o57 : Nat → Option PSpec := lkN [(3000, fun st _ K => pickM 136 [1, 2, 45] st (o57_3000_in K)), (4000, fun st _ K => pickM 136 [1, 2] st (o57_4000_in K)), (7000, fun st _ K => pickM 136 [1, 2, 4, 5, 6] st (o57_7000_in K)), (15000, fun st _ K => pickM 136 [2, 9, 12, 13] st (o57_15000_in K)), (16000, fun st _ K => pickM 136 [2, 9, 133] st (o57_16000_in K))]
noncomputable def q57 : CallF := evFun (V 57) S84 T87 10

noncomputable def c57_4000 : Code := subC [1, 1] (bodyOf Tryd.f57)

noncomputable def c57_3000 : Code := subC [1, 0, 1] (bodyOf Tryd.f57)

noncomputable def c57_7000 : Code := subC [1, 1, 1, 1, 1] (bodyOf Tryd.f57)

noncomputable def c57_15000 : Code := subC [1, 1, 1, 1, 1, 1, 1, 1, 1, 1, 1, 1] (bodyOf Tryd.f57)

noncomputable def c57_16000 : Code := subC [1, 1, 1, 1, 1, 1, 1, 1, 1, 1, 1, 1, 0, 1] (bodyOf Tryd.f57)

theorem fano_row_j7_eq {R : Type} (K : Ex → St → Option R) (v0 v1 v2 v3 v4 : Int) (v5 : List Int) (v6 : Int) (v7 : List Int) (v8 v9 : Int) (va : List Int) (vb : Nat) (vc : List Bool) : evCode (V 57) q57 o57 57 0 3995 c57_7000 (St.mk (spread 136 0 [1, 2, 4, 5, 6] [Ap 0 0, Ap 1 0, Ap 2 0, Ap 3 0, Ap 4 0]) [HA [Ai v0, Ai v1, Ai v2, Ai v3, Ai v4, Fu v5, Ai v6, Fu v7], HA [Ai v8, AV.esl], HA [Ai v9], HA [Fu va], HA [AV.sl 5 0 vb 1], HO vc]) (kOut (V 57) 57 0 (Ev.keyOf c57_7000 * 1000 + 1) K) = fano_row_j7_B v0 v1 v2 v3 v4 v5 v6 v7 v8 v9 va vb vc (fun vd ve => K (Ex.ret) (St.mk (spread 136 0 [2, 3] [Ap 0 0, Ab vd]) [HA [Ai ve, AV.esl]])) (fun vd ve vf => K (Ex.ret) (St.mk (spread 136 0 [2, 3] [Ap 0 0, Ab vd]) [HA [Ai ve, Fu vf]])) := by kernel_rfl

theorem p57_4000 : PieceOk (V 57) q57 o57 57 0 (3998, 0, c57_4000) := .s (size := 136) (ss := [1, 2]) (F := @o57_4000_in) (by kernel_rfl) fun R r K vs hh h => by
  unfold o57_4000_in at h; split at h
  · rw [fano_row_j4_unf] at h; exact Eq.trans (by kernel_rfl) h
  · cases h

theorem p57_3000 : PieceOk (V 57) q57 o57 57 0 (3997, 0, c57_3000) := .s (size := 136) (ss := [1, 2, 45]) (F := @o57_3000_in) (by kernel_rfl) fun R r K vs hh h => by
  unfold o57_3000_in at h; split at h
  · rw [fano_row_j3_unf] at h; exact Eq.trans (by kernel_rfl) h
  · cases h

theorem p57_7000 : PieceOk (V 57) q57 o57 57 0 (3995, 0, c57_7000) := .s (size := 136) (ss := [1, 2, 4, 5, 6]) (F := @o57_7000_in) (by kernel_rfl) fun R r K vs hh h => by
  unfold o57_7000_in at h; split at h
  · rw [fano_row_j7_unf] at h; exact (fano_row_j7_eq K _ _ _ _ _ _ _ _ _ _ _ _ _).trans h
  · cases h

theorem p57_15000 : PieceOk (V 57) q57 o57 57 0 (3988, 0, c57_15000) := .s (size := 136) (ss := [2, 9, 12, 13]) (F := @o57_15000_in) (by kernel_rfl) fun R r K vs hh h => by
  unfold o57_15000_in at h; split at h
  · rw [fano_row_j15_unf] at h; exact Eq.trans (by kernel_rfl) h
  · cases h

theorem p57_16000 : PieceOk (V 57) q57 o57 57 0 (3986, 0, c57_16000) := .s (size := 136) (ss := [2, 9, 133]) (F := @o57_16000_in) (by kernel_rfl) fun R r K vs hh h => by
  unfold o57_16000_in at h; split at h
  · rw [fano_row_j16_unf] at h; exact Eq.trans (by kernel_rfl) h
  · cases h

theorem pc57 : ∀ x ∈ [(3998, 0, c57_4000), (3997, 0, c57_3000), (3995, 0, c57_7000), (3988, 0, c57_15000), (3986, 0, c57_16000)], PieceOk (V 57) q57 o57 57 0 x := List.forall_mem_cons.2 ⟨p57_4000, List.forall_mem_cons.2 ⟨p57_3000, List.forall_mem_cons.2 ⟨p57_7000, List.forall_mem_cons.2 ⟨p57_15000, List.forall_mem_cons.2 ⟨p57_16000, fun _ h => nomatch h⟩⟩⟩⟩⟩

theorem fano_row_eq {R : Type} (K : AV → Option R) (v0 v1 v2 v3 v4 : Int) (v5 : List Int) (v6 : Int) (v7 : List Int) : evSpec (V 57) S84 T87 o57 10 57 ([AV.agg (Blk.any [Ai v0, Ai v1, Ai v2, Ai v3, Ai v4, Fu v5, Ai v6, Fu v7])]) R K = fano_row_B v0 v1 v2 v3 v4 v5 v6 v7 (fun v8 v9 va => K (AV.tup [AV.agg (Blk.any [Ai v8, Fu v9]), Ab va])) := by kernel_rfl

noncomputable def sp57 : Ev.Spec := fun args _ K => match args with
 | ([AV.agg (Blk.any [Ai v0, Ai v1, Ai v2, Ai v3, Ai v4, Fu v5, Ai v6, Fu v7])]) => fano_row v0 v1 v2 v3 v4 v5 v6 v7 (fun v8 v9 va => K (AV.tup [AV.agg (Blk.any [Ai v8, Fu v9]), Ab va]))
 | _ => none
noncomputable def S57 := addS 57 sp57 S84
theorem D30 : Dom B0 V S57 T87 30 := Dom.s (m := 29) (n := 0) D29 D29 (O := o57) (OrcOk.fn (fn0 := Tryd.f57) (by kernel_rfl) (by kernel_rfl) pc57) fun args R K r h => by
 unfold sp57 at h; split at h
 · rw [fano_row_unf] at h; exact (fano_row_eq K _ _ _ _ _ _ _ _).trans h
 · cases h

noncomputable def sp26 : Ev.Spec := fun args _ K => match args with
 | ([AV.agg (Blk.any [Ai v0, Ai v1, Ai v2, Ai v3, Ai v4, Fu v5, Ai v6, Fu v7])]) => fano_Check v0 v1 v2 v3 v4 v5 v6 v7 (fun v8 => K (Ab v8))
 | _ => none
noncomputable def S26 := addS 26 sp26 S57
theorem D31 : Dom B0 V S26 T87 31 := Dom.s (m := 30) (n := 0) D30 D30 (O := (fun _ => none)) (fun _ _ _ _ => OrcOk.none _ _) fun args R K r h => by
 unfold sp26 at h; split at h
 · rw [fano_Check_unf] at h; exact Eq.trans (by kernel_rfl) h
 · cases h

noncomputable def o102_5000_in {R : Type} (K : Ex → St → Option R) (vs : List AV) (hh : H) : Option R := match vs, hh with
 | [Ab v0], [] => ints_has_j5 v0 (fun v1 => K (Ex.ret) (St.mk (spread 24 0 [4] [AV.iface 134 (Ap 0 0)]) [HA [Ai v1]])) (fun _ => K (Ex.normal) (St.mk (spread 24 0 [] []) []))
 | _, _ => none

noncomputable def o102 : Nat → Option PSpec := lkN [(5000, fun st _ K => pickM 24 [12] st (o102_5000_in K))]
noncomputable def q102 : CallF := evFun (V 102) S26 T87 10

noncomputable def c102_5000 : Code := subC [1, 0, 0, 1, 1, 1] (bodyOf Tryd.f102)

theorem p102_5000 : PieceOk (V 102) q102 o102 102 0 (3994, 0, c102_5000) := .s (size := 24) (ss := [12]) (F := @o102_5000_in) (by kernel_rfl) fun R r K vs hh h => by
  unfold o102_5000_in at h; split at h
  · rw [ints_has_j5_unf] at h; exact Eq.trans (by kernel_rfl) h
  · cases h

theorem pc102 : ∀ x ∈ [(3994, 0, c102_5000)], PieceOk (V 102) q102 o102 102 0 x := List.forall_mem_cons.2 ⟨p102_5000, fun _ h => nomatch h⟩

noncomputable def sp102 : Ev.Spec := fun args _ K => match args with
 | ([AV.agg (Blk.any [Ai v0, Ai v1, Ai v2, Fu v3]), Ai v4]) => ints_has v0 v1 v2 v3 v4 (fun v5 => K (AV.iface 134 (AV.fptr (Blk.any [Ai v5])))) (fun _ => K (AV.nilif))
 | _ => none
noncomputable def S102 := addS 102 sp102 S26
theorem D32 : Dom B0 V S102 T87 32 := Dom.s (m := 31) (n := 0) D31 D31 (O := o102) (OrcOk.fn (fn0 := Tryd.f102) (by kernel_rfl) (by kernel_rfl) pc102) fun args R K r h => by
 unfold sp102 at h; split at h
 · rw [ints_has_unf] at h; exact Eq.trans (by kernel_rfl) h
 · cases h

noncomputable def sp80 : Ev.Spec := fun args _ K => match args with
 | ([AV.agg (Blk.any [Ai v0, Ai v1, Ai v2, Fu v3]), Ai v4]) => ints_Get v0 v1 v2 v3 v4 (fun v5 v6 => K (AV.tup [Au v5, Ai v6]))
 | _ => none
noncomputable def S80 := addS 80 sp80 S102
theorem D33 : Dom B0 V S80 T87 33 := Dom.s (m := 32) (n := 0) D32 D32 (O := (fun _ => none)) (fun _ _ _ _ => OrcOk.none _ _) fun args R K r h => by
 unfold sp80 at h; split at h
 · rw [ints_Get_unf] at h; exact Eq.trans (by kernel_rfl) h
 · cases h

noncomputable def o56_5400_in {R : Type} (K : Ex → St → Option R) (vs : List AV) (hh : H) : Option R := match vs, hh with
 | [Ai v0, Ap 0 0, Ai v1, Ai v2, Ai v3, Fu v4, Ai v5, Ai v6], [HA [Ai v7, Ai v8, Ai v9, Ai va, Ai vb, Fu vc, Ai vd, Fu ve]] => fano_place_l5 v0 v1 v2 v3 v4 v5 v6 v7 v8 v9 va vb vc vd ve (fun vf vg vh vi vj vk vl vm vn vo vp => K (Ex.exit 0) (St.mk (spread 63 0 [1, 2, 5, 7] [Ai vf, Ap 0 0, Ai vg, Ai vh]) [HA [Ai vi, Ai vj, Ai vk, Ai vl, Ai vm, Fu vn, Ai vo, Fu vp]]))
 | _, _ => none

noncomputable def o56 : Nat → Option PSpec := lkN [(5400, fun st _ K => pickM 63 [1, 2, 5, 6, 7, 22, 23, 24] st (o56_5400_in K))]
noncomputable def q56 : CallF := evFun (V 56) S80 T87 10

noncomputable def c56_5400 : Code := subC [1, 1, 1, 0, 1, 0, 0] (bodyOf Tryd.f56)

noncomputable def lp56_5400 {R : Type} (N : Nat) (st : St) (K : Ex → St → Option R) : Option R := evLoop (norm ((V 56).keep 56 (Ev.keyOf c56_5400 * 1000 + 400)) 0) (evCode (V 56) q56 o56 56 0 3993 c56_5400) N st (kOut (V 56) 56 0 (Ev.keyOf c56_5400 * 1000 + 401) K)

theorem fano_place_l5_L_eq {R : Type} (K : Ex → St → Option R) : ∀ N : Nat, (fun (v0 v1 v2 v3 : Int) (v4 : List Int) (v5 v6 v7 v8 v9 va vb : Int) (vc : List Int) (vd : Int) (ve : List Int) => lp56_5400 N (St.mk (spread 63 0 [1, 2, 5, 6, 7, 22, 23, 24] [Ai v0, Ap 0 0, Ai v1, Ai v2, Ai v3, Fu v4, Ai v5, Ai v6]) [HA [Ai v7, Ai v8, Ai v9, Ai va, Ai vb, Fu vc, Ai vd, Fu ve]]) K) = fano_place_l5_L (fun vf vg vh vi vj vk vl vm vn vo vp => K (Ex.exit 0) (St.mk (spread 63 0 [1, 2, 5, 7] [Ai vf, Ap 0 0, Ai vg, Ai vh]) [HA [Ai vi, Ai vj, Ai vk, Ai vl, Ai vm, Fu vn, Ai vo, Fu vp]])) N
  | 0 => by funext v0 v1 v2 v3 v4 v5 v6 v7 v8 v9 va vb vc vd ve; rfl
  | N + 1 => by
    funext v0 v1 v2 v3 v4 v5 v6 v7 v8 v9 va vb vc vd ve
    simp only [fano_place_l5_L]
    rw [← fano_place_l5_L_eq K N]
    kernel_rfl

theorem p56_5400 : PieceOk (V 56) q56 o56 56 0 (3993, 1, c56_5400) := .l (size := 63) (ss := [1, 2, 5, 6, 7, 22, 23, 24]) (F := @o56_5400_in) (by kernel_rfl) (by kernel_rfl) fun R r K vs hh h => by
  unfold o56_5400_in at h; split at h
  · rw [fano_place_l5_unf] at h; unfold fano_place_l5_B at h; rw [← fano_place_l5_L_eq K NR] at h; exact h
  · cases h

theorem pc56 : ∀ x ∈ [(3993, 1, c56_5400)], PieceOk (V 56) q56 o56 56 0 x := List.forall_mem_cons.2 ⟨p56_5400, fun _ h => nomatch h⟩

noncomputable def sp56 : Ev.Spec := fun args _ K => match args with
 | ([AV.agg (Blk.any [Ai v0, Ai v1, Ai v2, Ai v3, Ai v4, Fu v5, Ai v6, Fu v7]), Ai v8]) => fano_place v0 v1 v2 v3 v4 v5 v6 v7 v8 (fun v9 => K (Ai v9))
 | _ => none
noncomputable def S56 := addS 56 sp56 S80
theorem D34 : Dom B0 V S56 T87 34 := Dom.s (m := 33) (n := 0) D33 D33 (O := o56) (OrcOk.fn (fn0 := Tryd.f56) (by kernel_rfl) (by kernel_rfl) pc56) fun args R K r h => by
 unfold sp56 at h; split at h
 · rw [fano_place_unf] at h; exact Eq.trans (by kernel_rfl) h
 · cases h

noncomputable def o49_3400_in {R : Type} (K : Ex → St → Option R) (vs : List AV) (hh : H) : Option R := match vs, hh with
 | [Ai v0, Ap 0 0, Ai v1, Ai v2], [HA [Ai v3, Ai v4, Ai v5, Ai v6, Ai v7, Fu v8, Ai v9, Fu va]] => fano_ones_l3 v0 v1 v2 v3 v4 v5 v6 v7 v8 v9 va (fun vb => K (Ex.exit 0) (St.mk (spread 26 0 [5] [Ai vb]) []))
 | _, _ => none

noncomputable def o49 : Nat → Option PSpec := lkN [(3400, fun st _ K => pickM 26 [1, 2, 5, 6] st (o49_3400_in K))]
noncomputable def q49 : CallF := evFun (V 49) S56 T87 10

noncomputable def c49_3400 : Code := subC [1, 1, 0, 0, 0] (bodyOf Tryd.f49)

noncomputable def lp49_3400 {R : Type} (N : Nat) (st : St) (K : Ex → St → Option R) : Option R := evLoop (norm ((V 49).keep 49 (Ev.keyOf c49_3400 * 1000 + 400)) 0) (evCode (V 49) q49 o49 49 0 3995 c49_3400) N st (kOut (V 49) 49 0 (Ev.keyOf c49_3400 * 1000 + 401) K)

theorem fano_ones_l3_L_eq {R : Type} (K : Ex → St → Option R) : ∀ N : Nat, (fun (v0 v1 v2 v3 v4 v5 v6 v7 : Int) (v8 : List Int) (v9 : Int) (va : List Int) => lp49_3400 N (St.mk (spread 26 0 [1, 2, 5, 6] [Ai v0, Ap 0 0, Ai v1, Ai v2]) [HA [Ai v3, Ai v4, Ai v5, Ai v6, Ai v7, Fu v8, Ai v9, Fu va]]) K) = fano_ones_l3_L (fun vb => K (Ex.exit 0) (St.mk (spread 26 0 [5] [Ai vb]) [])) N
  | 0 => by funext v0 v1 v2 v3 v4 v5 v6 v7 v8 v9 va; rfl
  | N + 1 => by
    funext v0 v1 v2 v3 v4 v5 v6 v7 v8 v9 va
    simp only [fano_ones_l3_L]
    rw [← fano_ones_l3_L_eq K N]
    kernel_rfl

theorem p49_3400 : PieceOk (V 49) q49 o49 49 0 (3995, 1, c49_3400) := .l (size := 26) (ss := [1, 2, 5, 6]) (F := @o49_3400_in) (by kernel_rfl) (by kernel_rfl) fun R r K vs hh h => by
  unfold o49_3400_in at h; split at h
  · rw [fano_ones_l3_unf] at h; unfold fano_ones_l3_B at h; rw [← fano_ones_l3_L_eq K NR] at h; exact h
  · cases h

theorem pc49 : ∀ x ∈ [(3995, 1, c49_3400)], PieceOk (V 49) q49 o49 49 0 x := List.forall_mem_cons.2 ⟨p49_3400, fun _ h => nomatch h⟩

noncomputable def sp49 : Ev.Spec := fun args _ K => match args with
 | ([AV.agg (Blk.any [Ai v0, Ai v1, Ai v2, Ai v3, Ai v4, Fu v5, Ai v6, Fu v7]), Ai v8]) => fano_ones v0 v1 v2 v3 v4 v5 v6 v7 v8 (fun v9 => K (Ai v9))
 | _ => none
noncomputable def S49 := addS 49 sp49 S56
theorem D35 : Dom B0 V S49 T87 35 := Dom.s (m := 34) (n := 0) D34 D34 (O := o49) (OrcOk.fn (fn0 := Tryd.f49) (by kernel_rfl) (by kernel_rfl) pc49) fun args R K r h => by
 unfold sp49 at h; split at h
 · rw [fano_ones_unf] at h; exact Eq.trans (by kernel_rfl) h
 · cases h

noncomputable def o15_6000_in {R : Type} (K : Ex → St → Option R) (vs : List AV) (hh : H) : Option R := match vs, hh with
 | [Ai v0, Ap 0 0], [HA [Ai v1, Ai v2, Ai v3, Ai v4, Ai v5, Fu v6, Ai v7, Fu v8]] => fano_Access_j6 v0 v1 v2 v3 v4 v5 v6 v7 v8 (fun v9 va => K (Ex.ret) (St.mk (spread 27 0 [4, 5] [Ab v9, Ai va]) []))
 | _, _ => none

noncomputable def o15 : Nat → Option PSpec := lkN [(6000, fun st _ K => pickM 27 [1, 2] st (o15_6000_in K))]
noncomputable def q15 : CallF := evFun (V 15) S49 T87 10

noncomputable def c15_6000 : Code := subC [1, 1] (bodyOf Tryd.f15)

theorem p15_6000 : PieceOk (V 15) q15 o15 15 0 (3998, 0, c15_6000) := .s (size := 27) (ss := [1, 2]) (F := @o15_6000_in) (by kernel_rfl) fun R r K vs hh h => by
  unfold o15_6000_in at h; split at h
  · rw [fano_Access_j6_unf] at h; exact Eq.trans (by kernel_rfl) h
  · cases h

theorem pc15 : ∀ x ∈ [(3998, 0, c15_6000)], PieceOk (V 15) q15 o15 15 0 x := List.forall_mem_cons.2 ⟨p15_6000, fun _ h => nomatch h⟩

noncomputable def sp15 : Ev.Spec := fun args _ K => match args with
 | ([AV.agg (Blk.any [Ai v0, Ai v1, Ai v2, Ai v3, Ai v4, Fu v5, Ai v6, Fu v7]), Ai v8]) => fano_Access v0 v1 v2 v3 v4 v5 v6 v7 v8 (fun v9 va => K (AV.tup [Ab v9, Ai va]))
 | _ => none
noncomputable def S15 := addS 15 sp15 S49
theorem D36 : Dom B0 V S15 T87 36 := Dom.s (m := 35) (n := 0) D35 D35 (O := o15) (OrcOk.fn (fn0 := Tryd.f15) (by kernel_rfl) (by kernel_rfl) pc15) fun args R K r h => by
 unfold sp15 at h; split at h
 · rw [fano_Access_unf] at h; exact Eq.trans (by kernel_rfl) h
 · cases h

noncomputable def o14_6000_in {R : Type} (K : Ex → St → Option R) (vs : List AV) (hh : H) : Option R := match vs, hh with
 | [Ab v0, Ai v1, Ap 0 0], [HA [Ai v2, Ai v3, Ai v4, Ai v5, Ai v6, Fu v7, Ai v8, Fu v9]] => fano_Rank_j6 v0 v1 v2 v3 v4 v5 v6 v7 v8 v9 (fun va vb => K (Ex.ret) (St.mk (spread 31 0 [6, 7] [Ai va, Ai vb]) []))
 | _, _ => none

noncomputable def o14 : Nat → Option PSpec := lkN [(6000, fun st _ K => pickM 31 [1, 2, 3] st (o14_6000_in K))]
noncomputable def q14 : CallF := evFun (V 14) S15 T87 10

noncomputable def c14_6000 : Code := subC [1, 1] (bodyOf Tryd.f14)

theorem p14_6000 : PieceOk (V 14) q14 o14 14 0 (3998, 0, c14_6000) := .s (size := 31) (ss := [1, 2, 3]) (F := @o14_6000_in) (by kernel_rfl) fun R r K vs hh h => by
  unfold o14_6000_in at h; split at h
  · rw [fano_Rank_j6_unf] at h; exact Eq.trans (by kernel_rfl) h
  · cases h

theorem pc14 : ∀ x ∈ [(3998, 0, c14_6000)], PieceOk (V 14) q14 o14 14 0 x := List.forall_mem_cons.2 ⟨p14_6000, fun _ h => nomatch h⟩

noncomputable def sp14 : Ev.Spec := fun args _ K => match args with
 | ([AV.agg (Blk.any [Ai v0, Ai v1, Ai v2, Ai v3, Ai v4, Fu v5, Ai v6, Fu v7]), Ab v8, Ai v9]) => fano_Rank v0 v1 v2 v3 v4 v5 v6 v7 v8 v9 (fun va vb => K (AV.tup [Ai va, Ai vb]))
 | _ => none
noncomputable def S14 := addS 14 sp14 S15
theorem D37 : Dom B0 V S14 T87 37 := Dom.s (m := 36) (n := 0) D36 D36 (O := o14) (OrcOk.fn (fn0 := Tryd.f14) (by kernel_rfl) (by kernel_rfl) pc14) fun args R K r h => by
 unfold sp14 at h; split at h
 · rw [fano_Rank_unf] at h; exact Eq.trans (by kernel_rfl) h
 · cases h

noncomputable def o24_5000_in {R : Type} (K : Ex → St → Option R) (vs : List AV) (hh : H) : Option R := match vs, hh with
 | [Ab v0, Ai v1, Ap 0 0, Ai v2], [HA [Ai v3, Ai v4, Ai v5, Ai v6, Ai v7, Fu v8, Ai v9, Fu va]] => fano_Select_j5 v0 v1 v2 v3 v4 v5 v6 v7 v8 v9 va (fun vb vc => K (Ex.ret) (St.mk (spread 61 0 [6, 7] [Ai vb, Ai vc]) []))
 | _, _ => none

noncomputable def o24_8000_in {R : Type} (K : Ex → St → Option R) (vs : List AV) (hh : H) : Option R := match vs, hh with
 | [Ab v0, Ai v1, Ap 0 0, Ab v2], [HA [Ai v3, Ai v4, Ai v5, Ai v6, Ai v7, Fu v8, Ai v9, Fu va]] => fano_Select_j8 v0 v1 v2 v3 v4 v5 v6 v7 v8 v9 va (fun vb vc => K (Ex.ret) (St.mk (spread 61 0 [6, 7] [Ai vb, Ai vc]) [])) (fun vb vc vd ve vf vg vh vi vj => K (Ex.normal) (St.mk (spread 61 0 [2, 3] [Ai vb, Ap 0 0]) [HA [Ai vc, Ai vd, Ai ve, Ai vf, Ai vg, Fu vh, Ai vi, Fu vj]]))
 | _, _ => none

noncomputable def o24_11000_in {R : Type} (K : Ex → St → Option R) (vs : List AV) (hh : H) : Option R := match vs, hh with
 | [Ai v0, Ap 0 0], [HA [Ai v1, Ai v2, Ai v3, Ai v4, Ai v5, Fu v6, Ai v7, Fu v8]] => fano_Select_j11 v0 v1 v2 v3 v4 v5 v6 v7 v8 (fun v9 va => K (Ex.ret) (St.mk (spread 61 0 [6, 7] [Ai v9, Ai va]) []))
 | _, _ => none

noncomputable def o24_12400_in {R : Type} (K : Ex → St → Option R) (vs : List AV) (hh : H) : Option R := match vs, hh with
 | [Ai v0, Ap 0 0, Ai v1, Ai v2], [HA [Ai v3, Ai v4, Ai v5, Ai v6, Ai v7, Fu v8, Ai v9, Fu va]] => fano_Select_l12 v0 v1 v2 v3 v4 v5 v6 v7 v8 v9 va (fun vb => K (Ex.exit 1) (St.mk (spread 61 0 [9] [Ai vb]) []))
 | _, _ => none

noncomputable def o24 : Nat → Option PSpec := lkN [(5000, fun st _ K => pickM 61 [1, 2, 3, 8] st (o24_5000_in K)), (8000, fun st _ K => pickM 61 [1, 2, 3, 25] st (o24_8000_in K)), (11000, fun st _ K => pickM 61 [2, 3] st (o24_11000_in K)), (12400, fun st _ K => pickM 61 [2, 3, 9, 10] st (o24_12400_in K))]
noncomputable def q24 : CallF := evFun (V 24) S14 T87 10

noncomputable def c24_5000 : Code := subC [1, 1, 1] (bodyOf Tryd.f24)

noncomputable def c24_11000 : Code := subC [1, 1, 1, 1] (bodyOf Tryd.f24)

noncomputable def c24_8000 : Code := subC [1, 1, 1, 0, 0, 1, 1, 1] (bodyOf Tryd.f24)

noncomputable def c24_12400 : Code := subC [1, 1, 1, 1, 1, 0, 0, 0] (bodyOf Tryd.f24)

noncomputable def lp24_12400 {R : Type} (N : Nat) (st : St) (K : Ex → St → Option R) : Option R := evLoop (norm ((V 24).keep 24 (Ev.keyOf c24_12400 * 1000 + 400)) 0) (evCode (V 24) q24 o24 24 0 3992 c24_12400) N st (kOut (V 24) 24 0 (Ev.keyOf c24_12400 * 1000 + 401) K)

theorem fano_Select_l12_L_eq {R : Type} (K : Ex → St → Option R) : ∀ N : Nat, (fun (v0 v1 v2 v3 v4 v5 v6 v7 : Int) (v8 : List Int) (v9 : Int) (va : List Int) => lp24_12400 N (St.mk (spread 61 0 [2, 3, 9, 10] [Ai v0, Ap 0 0, Ai v1, Ai v2]) [HA [Ai v3, Ai v4, Ai v5, Ai v6, Ai v7, Fu v8, Ai v9, Fu va]]) K) = fano_Select_l12_L (fun vb => K (Ex.exit 1) (St.mk (spread 61 0 [9] [Ai vb]) [])) N
  | 0 => by funext v0 v1 v2 v3 v4 v5 v6 v7 v8 v9 va; rfl
  | N + 1 => by
    funext v0 v1 v2 v3 v4 v5 v6 v7 v8 v9 va
    simp only [fano_Select_l12_L]
    rw [← fano_Select_l12_L_eq K N]
    kernel_rfl

theorem p24_5000 : PieceOk (V 24) q24 o24 24 0 (3997, 0, c24_5000) := .s (size := 61) (ss := [1, 2, 3, 8]) (F := @o24_5000_in) (by kernel_rfl) fun R r K vs hh h => by
  unfold o24_5000_in at h; split at h
  · rw [fano_Select_j5_unf] at h; exact Eq.trans (by kernel_rfl) h
  · cases h

theorem p24_11000 : PieceOk (V 24) q24 o24 24 0 (3996, 0, c24_11000) := .s (size := 61) (ss := [2, 3]) (F := @o24_11000_in) (by kernel_rfl) fun R r K vs hh h => by
  unfold o24_11000_in at h; split at h
  · rw [fano_Select_j11_unf] at h; exact Eq.trans (by kernel_rfl) h
  · cases h

theorem p24_8000 : PieceOk (V 24) q24 o24 24 0 (3992, 0, c24_8000) := .s (size := 61) (ss := [1, 2, 3, 25]) (F := @o24_8000_in) (by kernel_rfl) fun R r K vs hh h => by
  unfold o24_8000_in at h; split at h
  · rw [fano_Select_j8_unf] at h; exact Eq.trans (by kernel_rfl) h
  · cases h

theorem p24_12400 : PieceOk (V 24) q24 o24 24 0 (3992, 1, c24_12400) := .l (size := 61) (ss := [2, 3, 9, 10]) (F := @o24_12400_in) (by kernel_rfl) (by kernel_rfl) fun R r K vs hh h => by
  unfold o24_12400_in at h; split at h
  · rw [fano_Select_l12_unf] at h; unfold fano_Select_l12_B at h; rw [← fano_Select_l12_L_eq K NR] at h; exact h
  · cases h

theorem pc24 : ∀ x ∈ [(3997, 0, c24_5000), (3996, 0, c24_11000), (3992, 0, c24_8000), (3992, 1, c24_12400)], PieceOk (V 24) q24 o24 24 0 x := List.forall_mem_cons.2 ⟨p24_5000, List.forall_mem_cons.2 ⟨p24_11000, List.forall_mem_cons.2 ⟨p24_8000, List.forall_mem_cons.2 ⟨p24_12400, fun _ h => nomatch h⟩⟩⟩⟩
end Go.Proofs.YtdojekdcdoaccaaDoor
