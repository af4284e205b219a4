/- The functions that this seat's laws reach, as plain functions, and that they are what the program does. Printed by a program of this repo (wip/Prt). -/
import Derived.Test.YtdojekdcdoaccaaGreatDoorBase
import Derived.Test.YtdojekdcdoaccaaGreatDoorEnv
import Derived.Test.YtdojekdcdoaccaaGreatDoorEvC
import Derived.KernelRfl
namespace Go.Proofs.YtdojekdcdoaccaaGreatDoor
open Go Go.Ev
def txt__14a5d8 : ByteArray := ByteArray.mk (List.toArray (List.append (List.append [0, 1, 2, 2, 3, 3, 3, 3, 4, 4, 4, 4, 4, 4, 4, 4, 5, 5, 5, 5, 5, 5, 5, 5, 5, 5, 5, 5, 5, 5, 5, 5, 6, 6, 6, 6, 6, 6, 6, 6, 6, 6, 6, 6, 6, 6, 6, 6, 6, 6, 6, 6, 6, 6, 6, 6, 6, 6, 6, 6, 6, 6, 6, 6] [7, 7, 7, 7, 7, 7, 7, 7, 7, 7, 7, 7, 7, 7, 7, 7, 7, 7, 7, 7, 7, 7, 7, 7, 7, 7, 7, 7, 7, 7, 7, 7, 7, 7, 7, 7, 7, 7, 7, 7, 7, 7, 7, 7, 7, 7, 7, 7, 7, 7, 7, 7, 7, 7, 7, 7, 7, 7, 7, 7, 7, 7, 7, 7]) (List.append [8, 8, 8, 8, 8, 8, 8, 8, 8, 8, 8, 8, 8, 8, 8, 8, 8, 8, 8, 8, 8, 8, 8, 8, 8, 8, 8, 8, 8, 8, 8, 8, 8, 8, 8, 8, 8, 8, 8, 8, 8, 8, 8, 8, 8, 8, 8, 8, 8, 8, 8, 8, 8, 8, 8, 8, 8, 8, 8, 8, 8, 8, 8, 8] [8, 8, 8, 8, 8, 8, 8, 8, 8, 8, 8, 8, 8, 8, 8, 8, 8, 8, 8, 8, 8, 8, 8, 8, 8, 8, 8, 8, 8, 8, 8, 8, 8, 8, 8, 8, 8, 8, 8, 8, 8, 8, 8, 8, 8, 8, 8, 8, 8, 8, 8, 8, 8, 8, 8, 8, 8, 8, 8, 8, 8, 8, 8, 8])))
set_option maxRecDepth 100000
set_option maxHeartbeats 4000000
@[match_pattern] abbrev Ai (n : Int) : AV := AV.int .i64 n
@[match_pattern] abbrev Au (n : Int) : AV := AV.int .u64 n
@[match_pattern] abbrev Ab (b : Bool) : AV := AV.bool b
@[match_pattern] abbrev Ap (a b : Nat) : AV := AV.ptr a b
@[match_pattern] abbrev Fu (xs : List Int) : AV := AV.fsl (Blk.ints .u64 xs)
@[match_pattern] abbrev HA (vs : List AV) : HB := HB.live (Blk.any vs)
@[match_pattern] abbrev HU (xs : List Int) : HB := HB.live (Blk.ints .u64 xs)
@[match_pattern] abbrev HO (bs : List Bool) : HB := HB.live (Blk.bools bs)


noncomputable def bits_words_B {R : Type} (v0 : Int) (K0 : Int → Option R) : Option R :=
 K0 (quoW .i64 (subW .i64 (addW .i64 v0 64) 1) 64)
noncomputable def bits_words {R : Type} := shut (@bits_words_B R)
theorem bits_words_unf {R : Type} : @bits_words R = @bits_words_B R := shut_eq _

noncomputable def word_Mask_B {R : Type} (v0 : Int) (K0 : Int → Option R) : Option R :=
 sel (decide (v0 ≤ 0))
 (K0 0)
 (sel (decide (0 ≤ max2 0 (subW .i64 64 v0)))
 (K0 (shrW .u64 18446744073709551615 (max2 0 (subW .i64 64 v0))))
 (none))
noncomputable def word_Mask {R : Type} := shut (@word_Mask_B R)
theorem word_Mask_unf {R : Type} : @word_Mask R = @word_Mask_B R := shut_eq _

noncomputable def bits_Check_j4_B {R : Type} (v0 : Int) (v1 : List Int) (K0 : Bool → Option R) : Option R :=
 sel (decide (remW v0 64 = 0))
 (K0 true)
 (sel (decide (0 ≤ subW .i64 (↑(List.length v1) : Int) 1))
 (sel (decide (subW .i64 (↑(List.length v1) : Int) 1 < (↑(List.length v1) : Int)))
 (word_Mask (remW v0 64)
 (fun v2 => letV (decide (andNotW .u64 (List.getD v1 (Int.toNat (subW .i64 (↑(List.length v1) : Int) 1)) 0) v2 = 0)) (fun (v3 : Bool) =>
 K0 v3)))
 (none))
 (none))
noncomputable def bits_Check_j4 {R : Type} := shut (@bits_Check_j4_B R)
theorem bits_Check_j4_unf {R : Type} : @bits_Check_j4 R = @bits_Check_j4_B R := shut_eq _

noncomputable def bits_Check_B {R : Type} (v0 : Int) (v1 : List Int) (K0 : Bool → Option R) : Option R :=
 sel (decide (v0 < 0))
 (K0 false)
 (sel (decide (1048576 < v0))
 (K0 false)
 (bits_words v0
 (fun v2 => sel (!decide ((↑(List.length v1) : Int) = v2))
 (K0 false)
 (bits_Check_j4 v0 v1
 (fun v3 => K0 v3)))))
noncomputable def bits_Check {R : Type} := shut (@bits_Check_B R)
theorem bits_Check_unf {R : Type} : @bits_Check R = @bits_Check_B R := shut_eq _

noncomputable def bits_Slice_j5_B {R : Type} (v0 v1 : Int) (v2 : Bool) (v3 : Int) (v4 : List Int) (K0 : Int → Int → Option R) (K1 : Int → Int → Int → List Int → Option R) : Option R :=
 sel v2
 (K0 0 3)
 (sel (decide (v1 = 0))
 (K0 0 0)
 (K1 v0 v1 v3 v4))
noncomputable def bits_Slice_j5 {R : Type} := shut (@bits_Slice_j5_B R)
theorem bits_Slice_j5_unf {R : Type} : @bits_Slice_j5 R = @bits_Slice_j5_B R := shut_eq _

noncomputable def bits_Slice_j3_B {R : Type} (v0 v1 : Int) (v2 : Bool) (v3 : Int) (v4 : List Int) (K0 : Int → Int → Option R) (K1 : Int → Int → Int → List Int → Option R) : Option R :=
 sel v2
 (K0 0 2)
 (sel (decide (v0 < 0))
 (bits_Slice_j5 v0 v1 true v3 v4
 (fun v5 v6 => K0 v5 v6)
 (fun v7 v8 v9 va => K1 v7 v8 v9 va))
 (sel (decide (v3 < v0))
 (bits_Slice_j5 v0 v1 true v3 v4
 (fun vb vc => K0 vb vc)
 (fun vd ve vf vg => K1 vd ve vf vg))
 (bits_Slice_j5 v0 v1 (decide (subW .i64 v3 v0 < v1)) v3 v4
 (fun vh vi => K0 vh vi)
 (fun vj vk vl vm => K1 vj vk vl vm))))
noncomputable def bits_Slice_j3 {R : Type} := shut (@bits_Slice_j3_B R)
theorem bits_Slice_j3_unf {R : Type} : @bits_Slice_j3 R = @bits_Slice_j3_B R := shut_eq _

noncomputable def bits_Slice_j12_B {R : Type} (v0 v1 : Int) (K0 : Int → Int → Option R) : Option R :=
 word_Mask v0
 (fun v2 => K0 (andW .u64 v1 v2) 0)
noncomputable def bits_Slice_j12 {R : Type} := shut (@bits_Slice_j12_B R)
theorem bits_Slice_j12_unf {R : Type} : @bits_Slice_j12 R = @bits_Slice_j12_B R := shut_eq _

noncomputable def bits_Slice_j8_B {R : Type} (v0 v1 _v2 : Int) (v3 : List Int) (K0 : Int → Int → Option R) : Option R :=
 sel (decide (0 ≤ quoW .i64 v0 64))
 (sel (decide (quoW .i64 v0 64 < (↑(List.length v3) : Int)))
 (sel (decide (0 ≤ remW v0 64))
 (sel (decide (64 < addW .i64 (remW v0 64) v1))
 (sel (decide (0 ≤ addW .i64 (quoW .i64 v0 64) 1))
 (sel (decide (addW .i64 (quoW .i64 v0 64) 1 < (↑(List.length v3) : Int)))
 (sel (decide (0 ≤ subW .i64 64 (remW v0 64)))
 (letV (orW .u64 (shrW .u64 (List.getD v3 (Int.toNat (quoW .i64 v0 64)) 0) (remW v0 64)) (shlW .u64 (List.getD v3 (Int.toNat (addW .i64 (quoW .i64 v0 64) 1)) 0) (subW .i64 64 (remW v0 64)))) (fun (v4 : Int) =>
 bits_Slice_j12 v1 v4
 (fun v5 v6 => K0 v5 v6)))
 (none))
 (none))
 (none))
 (bits_Slice_j12 v1 (shrW .u64 (List.getD v3 (Int.toNat (quoW .i64 v0 64)) 0) (remW v0 64))
 (fun v7 v8 => K0 v7 v8)))
 (none))
 (none))
 (none)
noncomputable def bits_Slice_j8 {R : Type} := shut (@bits_Slice_j8_B R)
theorem bits_Slice_j8_unf {R : Type} : @bits_Slice_j8 R = @bits_Slice_j8_B R := shut_eq _

noncomputable def bits_Slice_B {R : Type} (v0 : Int) (v1 : List Int) (v2 v3 : Int) (K0 : Int → Int → Option R) : Option R :=
 bits_Check v0 v1
 (fun v4 => sel (!v4)
 (bits_Slice_j3 v2 v3 true v0 v1
 (fun v5 v6 => K0 v5 v6)
 (fun v7 v8 v9 va => bits_Slice_j8 v7 v8 v9 va
 (fun vb vc => K0 vb vc)))
 (sel (decide (v3 < 0))
 (bits_Slice_j3 v2 v3 true v0 v1
 (fun vd ve => K0 vd ve)
 (fun vf vg vh vi => bits_Slice_j8 vf vg vh vi
 (fun vj vk => K0 vj vk)))
 (bits_Slice_j3 v2 v3 (decide (64 < v3)) v0 v1
 (fun vl vm => K0 vl vm)
 (fun vn vo vp vq => bits_Slice_j8 vn vo vp vq
 (fun vr vs => K0 vr vs)))))
noncomputable def bits_Slice {R : Type} := shut (@bits_Slice_B R)
theorem bits_Slice_unf {R : Type} : @bits_Slice R = @bits_Slice_B R := shut_eq _

noncomputable def rrr_none_B {R : Type} (K0 : Int → Int → Option R) : Option R :=
 K0 0 0
noncomputable def rrr_none {R : Type} := shut (@rrr_none_B R)
theorem rrr_none_unf {R : Type} : @rrr_none R = @rrr_none_B R := shut_eq _

noncomputable def math_bits_OnesCount64_B {R : Type} (v0 : Int) (K0 : Int → Option R) : Option R :=
 letV (shrW .u64 (addW .u64 (andW .u64 (shrW .u64 (addW .u64 (andW .u64 (shrW .u64 v0 1) 6148914691236517205) (andW .u64 v0 6148914691236517205)) 2) 3689348814741910323) (andW .u64 (addW .u64 (andW .u64 (shrW .u64 v0 1) 6148914691236517205) (andW .u64 v0 6148914691236517205)) 3689348814741910323)) 4) (fun (v1 : Int) =>
 letV (addW .u64 v1 (addW .u64 (andW .u64 (shrW .u64 (addW .u64 (andW .u64 (shrW .u64 v0 1) 6148914691236517205) (andW .u64 v0 6148914691236517205)) 2) 3689348814741910323) (andW .u64 (addW .u64 (andW .u64 (shrW .u64 v0 1) 6148914691236517205) (andW .u64 v0 6148914691236517205)) 3689348814741910323))) (fun (v2 : Int) =>
 letV (addW .u64 (addW .u64 (addW .u64 (andW .u64 v2 1085102592571150095) (shrW .u64 (andW .u64 v2 1085102592571150095) 8)) (shrW .u64 (addW .u64 (andW .u64 v2 1085102592571150095) (shrW .u64 (andW .u64 v2 1085102592571150095) 8)) 16)) (shrW .u64 (addW .u64 (addW .u64 (andW .u64 v2 1085102592571150095) (shrW .u64 (andW .u64 v2 1085102592571150095) 8)) (shrW .u64 (addW .u64 (andW .u64 v2 1085102592571150095) (shrW .u64 (andW .u64 v2 1085102592571150095) 8)) 16)) 32)) (fun (v3 : Int) =>
 K0 (andW .i64 (cvtW .i64 v3) 127))))
noncomputable def math_bits_OnesCount64 {R : Type} := shut (@math_bits_OnesCount64_B R)
theorem math_bits_OnesCount64_unf {R : Type} : @math_bits_OnesCount64 R = @math_bits_OnesCount64_B R := shut_eq _

noncomputable def word_Pop_B {R : Type} (v0 : Int) (K0 : Int → Option R) : Option R :=
 math_bits_OnesCount64 v0
 (fun v1 => K0 v1)
noncomputable def word_Pop {R : Type} := shut (@word_Pop_B R)
theorem word_Pop_unf {R : Type} : @word_Pop R = @word_Pop_B R := shut_eq _

noncomputable def binom_row_next_l2_T {R : Type} (rec : Int → List Int → Option R) (v0 : Int) (v1 : List Int) (K0 : List Int → Option R) : Option R :=
 sel (decide (0 < v0))
 (sel (decide (0 ≤ v0))
 (sel (decide (v0 < (↑63 : Int)))
 (sel (decide (Int.toNat v0 < List.length v1))
 (sel (decide (0 ≤ subW .i64 v0 1))
 (sel (decide (subW .i64 v0 1 < (↑63 : Int)))
 (sel (decide (Int.toNat (subW .i64 v0 1) < List.length v1))
 (sel (decide (0 ≤ v0))
 (sel (decide (v0 < (↑63 : Int)))
 (sel (decide (Int.toNat v0 < List.length v1))
 (letV (List.set v1 (Int.toNat v0) (addW .u64 (List.getD v1 (Int.toNat v0) 0) (List.getD v1 (Int.toNat (subW .i64 v0 1)) 0))) (fun (v2 : List Int) =>
 rec (subW .i64 v0 1) v2))
 (none))
 (none))
 (none))
 (none))
 (none))
 (none))
 (none))
 (none))
 (none))
 (K0 v1)
noncomputable def binom_row_next_l2_L {R : Type} (K0 : List Int → Option R) : Nat → Int → List Int → Option R
 | 0, _, _ => none
 | N + 1, v0, v1 => binom_row_next_l2_T (binom_row_next_l2_L K0 N) v0 v1 K0
noncomputable def binom_row_next_l2_B {R : Type} (v0 : Int) (v1 : List Int) (K0 : List Int → Option R) : Option R :=
 binom_row_next_l2_L K0 NR v0 v1
noncomputable def binom_row_next_l2 {R : Type} := shut (@binom_row_next_l2_B R)
theorem binom_row_next_l2_unf {R : Type} : @binom_row_next_l2 R = @binom_row_next_l2_B R := shut_eq _

noncomputable def binom_row_next_r_B {R : Type} (v0 : Int) (v1 : List Int) (K0 : List Int → Option R) : Option R :=
 binom_row_next_l2 (addW .i64 v0 1) v1
 (fun v2 => K0 v2)
noncomputable def binom_row_next_r {R : Type} := shut (@binom_row_next_r_B R)
theorem binom_row_next_r_unf {R : Type} : @binom_row_next_r R = @binom_row_next_r_B R := shut_eq _

noncomputable def binom_rows_l5_T {R : Type} (rec : Nat → Int → Int → List Int → List (List Int) → Option R) (v0 : Nat) (v1 v2 : Int) (v3 : List Int) (v4 : List (List Int)) (K0 : Nat → List (List Int) → Option R) : Option R :=
 sel (decide (v2 < v1))
 (binom_row_next_r v2 v3
 (fun v5 => sel (decide (0 + 63 * 1 ≤ List.length v5))
 (sel (decide (0 ≤ addW .i64 v2 2))
 (sel (decide (addW .i64 v2 2 ≤ (↑63 : Int)))
 (sel (decide (Int.toNat (addW .i64 v2 2) - Int.toNat 0 = List.length v5))
 (sel (decide ((Int.toNat (addW .i64 v2 2) - Int.toNat 0) * 8 ≤ 140737488355328))
 (sel (decide (List.length v4 = v0))
 (sel (decide ((v0 + 1) * 24 ≤ 140737488355328))
 (sel (decide (Int.toNat (addW .i64 v2 2) - Int.toNat 0 = List.length v5))
 (sel (decide (Int.toNat (addW .i64 v2 2) - Int.toNat 0 = List.length v5))
 (letV (v4 ++ [v5]) (fun (v6 : List (List Int)) =>
 rec (v0 + 1) v1 (addW .i64 v2 1) v5 v6))
 (none))
 (none))
 (none))
 (none))
 (none))
 (sel (decide (0 + Nat.sub (Int.toNat (addW .i64 v2 2)) (Int.toNat 0) ≤ List.length v5))
 (sel (decide ((Int.toNat (addW .i64 v2 2) - Int.toNat 0) * 8 ≤ 140737488355328))
 (letV (List.take (Nat.sub (Int.toNat (addW .i64 v2 2)) (Int.toNat 0)) (List.drop 0 v5)) (fun (v7 : List Int) =>
 sel (decide (List.length v4 = v0))
 (sel (decide ((v0 + 1) * 24 ≤ 140737488355328))
 (sel (decide (Int.toNat (addW .i64 v2 2) - Int.toNat 0 = List.length v7))
 (sel (decide (Int.toNat (addW .i64 v2 2) - Int.toNat 0 = List.length v7))
 (letV (v4 ++ [v7]) (fun (v8 : List (List Int)) =>
 rec (v0 + 1) v1 (addW .i64 v2 1) v5 v8))
 (none))
 (none))
 (none))
 (none)))
 (none))
 (none)))
 (none))
 (none))
 (none)))
 (K0 v0 v4)
noncomputable def binom_rows_l5_L {R : Type} (K0 : Nat → List (List Int) → Option R) : Nat → Nat → Int → Int → List Int → List (List Int) → Option R
 | 0, _, _, _, _, _ => none
 | N + 1, v0, v1, v2, v3, v4 => binom_rows_l5_T (binom_rows_l5_L K0 N) v0 v1 v2 v3 v4 K0
noncomputable def binom_rows_l5_B {R : Type} (v0 : Nat) (v1 v2 : Int) (v3 : List Int) (v4 : List (List Int)) (K0 : Nat → List (List Int) → Option R) : Option R :=
 binom_rows_l5_L K0 NR v0 v1 v2 v3 v4
noncomputable def binom_rows_l5 {R : Type} := shut (@binom_rows_l5_B R)
theorem binom_rows_l5_unf {R : Type} : @binom_rows_l5 R = @binom_rows_l5_B R := shut_eq _

noncomputable def binom_rows_B {R : Type} (v0 : Int) (K0 : List (List Int) → Option R) : Option R :=
 binom_rows_l5 1 v0 0 (List.take 0 (List.replicate 63 0) ++ ([1, 0, 0, 0, 0, 0, 0, 0, 0, 0, 0, 0, 0, 0, 0, 0, 0, 0, 0, 0, 0, 0, 0, 0, 0, 0, 0, 0, 0, 0, 0, 0, 0, 0, 0, 0, 0, 0, 0, 0, 0, 0, 0, 0, 0, 0, 0, 0, 0, 0, 0, 0, 0, 0, 0, 0, 0, 0, 0, 0, 0, 0, 0] ++ List.drop (0 + List.length [1, 0, 0, 0, 0, 0, 0, 0, 0, 0, 0, 0, 0, 0, 0, 0, 0, 0, 0, 0, 0, 0, 0, 0, 0, 0, 0, 0, 0, 0, 0, 0, 0, 0, 0, 0, 0, 0, 0, 0, 0, 0, 0, 0, 0, 0, 0, 0, 0, 0, 0, 0, 0, 0, 0, 0, 0, 0, 0, 0, 0, 0, 0]) (List.replicate 63 0))) ([[1]])
 (fun v1 v2 => sel (decide (v1 = colN [Col.fints .u64 v2]))
 (K0 v2)
 (none))
noncomputable def binom_rows {R : Type} := shut (@binom_rows_B R)
theorem binom_rows_unf {R : Type} : @binom_rows R = @binom_rows_B R := shut_eq _

noncomputable def math_bits_Len64_j11_B {R : Type} (v0 v1 : Int) (K0 : Int → Option R) : Option R :=
 sel (decide (0 ≤ cvtW .u8 v0))
 (sel (decide (cvtW .u8 v0 < (↑(ByteArray.size (txt__14a5d8)) : Int)))
 (letV ((↑(UInt8.toNat (List.getD (Array.toList (ByteArray.data (txt__14a5d8))) (Int.toNat (cvtW .u8 v0)) 0)) : Int)) (fun (v2 : Int) =>
 K0 (addW .i64 v1 (cvtW .i64 v2))))
 (none))
 (none)
noncomputable def math_bits_Len64_j11 {R : Type} := shut (@math_bits_Len64_j11_B R)
theorem math_bits_Len64_j11_unf {R : Type} : @math_bits_Len64_j11 R = @math_bits_Len64_j11_B R := shut_eq _

noncomputable def math_bits_Len64_j8_B {R : Type} (v0 v1 : Int) (K0 : Int → Option R) : Option R :=
 sel (decide (256 ≤ v0))
 (math_bits_Len64_j11 (shrW .u64 v0 8) (addW .i64 v1 8)
 (fun v2 => K0 v2))
 (math_bits_Len64_j11 v0 v1
 (fun v3 => K0 v3))
noncomputable def math_bits_Len64_j8 {R : Type} := shut (@math_bits_Len64_j8_B R)
theorem math_bits_Len64_j8_unf {R : Type} : @math_bits_Len64_j8 R = @math_bits_Len64_j8_B R := shut_eq _

noncomputable def math_bits_Len64_j5_B {R : Type} (v0 v1 : Int) (K0 : Int → Option R) : Option R :=
 sel (decide (65536 ≤ v0))
 (math_bits_Len64_j8 (shrW .u64 v0 16) (addW .i64 v1 16)
 (fun v2 => K0 v2))
 (math_bits_Len64_j8 v0 v1
 (fun v3 => K0 v3))
noncomputable def math_bits_Len64_j5 {R : Type} := shut (@math_bits_Len64_j5_B R)
theorem math_bits_Len64_j5_unf {R : Type} : @math_bits_Len64_j5 R = @math_bits_Len64_j5_B R := shut_eq _

noncomputable def math_bits_Len64_B {R : Type} (v0 : Int) (K0 : Int → Option R) : Option R :=
 sel (decide (4294967296 ≤ v0))
 (math_bits_Len64_j5 (shrW .u64 v0 32) 32
 (fun v1 => K0 v1))
 (math_bits_Len64_j5 v0 0
 (fun v2 => K0 v2))
noncomputable def math_bits_Len64 {R : Type} := shut (@math_bits_Len64_B R)
theorem math_bits_Len64_unf {R : Type} : @math_bits_Len64 R = @math_bits_Len64_B R := shut_eq _

noncomputable def word_Len_B {R : Type} (v0 : Int) (K0 : Int → Option R) : Option R :=
 math_bits_Len64 v0
 (fun v1 => K0 v1)
noncomputable def word_Len {R : Type} := shut (@word_Len_B R)
theorem word_Len_unf {R : Type} : @word_Len R = @word_Len_B R := shut_eq _

noncomputable def binom_Offset_j14_B {R : Type} (v0 v1 : Int) (v2 : List (List Int)) (v3 v4 v5 : Int) (K0 : Int → Int → List (List Int) → Int → Int → Option R) : Option R :=
 sel (decide (0 ≤ v5))
 (K0 (andNotW .u64 v0 (shlW .u64 1 v5)) v1 v2 v3 v4)
 (none)
noncomputable def binom_Offset_j14 {R : Type} := shut (@binom_Offset_j14_B R)
theorem binom_Offset_j14_unf {R : Type} : @binom_Offset_j14 R = @binom_Offset_j14_B R := shut_eq _

noncomputable def binom_Offset_l9_T {R : Type} (rec : Int → Int → List (List Int) → Int → Int → Option R) (v0 v1 : Int) (v2 : List (List Int)) (v3 v4 : Int) (K0 : Int → Int → Option R) : Option R :=
 sel (decide (0 < v0))
 (word_Len v0
 (fun v5 => sel (decide (v4 ≤ subW .i64 v5 1))
 (sel (decide (0 ≤ subW .i64 v5 1))
 (sel (decide (subW .i64 v5 1 < (↑(List.length v2) : Int)))
 (letV (List.getD v2 (Int.toNat (subW .i64 v5 1)) []) (fun (v6 : List Int) =>
 sel (decide (0 ≤ v4))
 (sel (decide (v4 < (↑(List.length v6) : Int)))
 (binom_Offset_j14 v0 v1 v2 (addW .u64 v3 (List.getD v6 (Int.toNat v4) 0)) v4 (subW .i64 v5 1)
 (fun v7 v8 v9 va vb => rec v7 v8 v9 va (subW .i64 vb 1)))
 (none))
 (none)))
 (none))
 (none))
 (binom_Offset_j14 v0 v1 v2 v3 v4 (subW .i64 v5 1)
 (fun vc vd ve vf vg => rec vc vd ve vf (subW .i64 vg 1)))))
 (K0 v1 v3)
noncomputable def binom_Offset_l9_L {R : Type} (K0 : Int → Int → Option R) : Nat → Int → Int → List (List Int) → Int → Int → Option R
 | 0, _, _, _, _, _ => none
 | N + 1, v0, v1, v2, v3, v4 => binom_Offset_l9_T (binom_Offset_l9_L K0 N) v0 v1 v2 v3 v4 K0
noncomputable def binom_Offset_l9_B {R : Type} (v0 v1 : Int) (v2 : List (List Int)) (v3 v4 : Int) (K0 : Int → Int → Option R) : Option R :=
 binom_Offset_l9_L K0 NR v0 v1 v2 v3 v4
noncomputable def binom_Offset_l9 {R : Type} := shut (@binom_Offset_l9_B R)
theorem binom_Offset_l9_unf {R : Type} : @binom_Offset_l9 R = @binom_Offset_l9_B R := shut_eq _

noncomputable def binom_Offset_j4_B {R : Type} (v0 v1 : Int) (K0 : Int → Int → Option R) : Option R :=
 word_Mask v1
 (fun v2 => word_Pop (andW .u64 v0 v2)
 (fun v3 => binom_rows v1
 (fun v4 => binom_Offset_l9 (andW .u64 v0 v2) v3 v4 0 v3
 (fun v5 v6 => K0 v5 v6))))
noncomputable def binom_Offset_j4 {R : Type} := shut (@binom_Offset_j4_B R)
theorem binom_Offset_j4_unf {R : Type} : @binom_Offset_j4 R = @binom_Offset_j4_B R := shut_eq _

noncomputable def binom_Offset_B {R : Type} (v0 v1 : Int) (K0 : Int → Int → Option R) : Option R :=
 sel (decide (v1 < 0))
 (K0 0 0)
 (sel (decide (62 < v1))
 (K0 0 0)
 (binom_Offset_j4 v0 v1
 (fun v2 v3 => K0 v2 v3)))
noncomputable def binom_Offset {R : Type} := shut (@binom_Offset_B R)
theorem binom_Offset_unf {R : Type} : @binom_Offset R = @binom_Offset_B R := shut_eq _

noncomputable def rrr_blockOf_B {R : Type} (v0 : Int) (K0 : Int → Int → Option R) : Option R :=
 rrr_none 
 (fun _ _ => binom_Offset v0 15
 (fun v3 v4 => K0 v3 v4))
noncomputable def rrr_blockOf {R : Type} := shut (@rrr_blockOf_B R)
theorem rrr_blockOf_unf {R : Type} : @rrr_blockOf R = @rrr_blockOf_B R := shut_eq _

noncomputable def binom_Choose_l6_T {R : Type} (rec : Int → Int → Int → List Int → Option R) (v0 v1 v2 : Int) (v3 : List Int) (K0 : Int → List Int → Option R) : Option R :=
 sel (decide (v2 < v1))
 (binom_row_next_r v2 v3
 (fun v4 => rec v0 v1 (addW .i64 v2 1) v4))
 (K0 v0 v3)
noncomputable def binom_Choose_l6_L {R : Type} (K0 : Int → List Int → Option R) : Nat → Int → Int → Int → List Int → Option R
 | 0, _, _, _, _ => none
 | N + 1, v0, v1, v2, v3 => binom_Choose_l6_T (binom_Choose_l6_L K0 N) v0 v1 v2 v3 K0
noncomputable def binom_Choose_l6_B {R : Type} (v0 v1 v2 : Int) (v3 : List Int) (K0 : Int → List Int → Option R) : Option R :=
 binom_Choose_l6_L K0 NR v0 v1 v2 v3
noncomputable def binom_Choose_l6 {R : Type} := shut (@binom_Choose_l6_B R)
theorem binom_Choose_l6_unf {R : Type} : @binom_Choose_l6 R = @binom_Choose_l6_B R := shut_eq _

noncomputable def binom_Choose_j4_B {R : Type} (v0 v1 : Int) (K0 : Int → Option R) : Option R :=
 binom_Choose_l6 v1 v0 0 (List.take 0 (List.replicate 63 0) ++ ([1, 0, 0, 0, 0, 0, 0, 0, 0, 0, 0, 0, 0, 0, 0, 0, 0, 0, 0, 0, 0, 0, 0, 0, 0, 0, 0, 0, 0, 0, 0, 0, 0, 0, 0, 0, 0, 0, 0, 0, 0, 0, 0, 0, 0, 0, 0, 0, 0, 0, 0, 0, 0, 0, 0, 0, 0, 0, 0, 0, 0, 0, 0] ++ List.drop (0 + List.length [1, 0, 0, 0, 0, 0, 0, 0, 0, 0, 0, 0, 0, 0, 0, 0, 0, 0, 0, 0, 0, 0, 0, 0, 0, 0, 0, 0, 0, 0, 0, 0, 0, 0, 0, 0, 0, 0, 0, 0, 0, 0, 0, 0, 0, 0, 0, 0, 0, 0, 0, 0, 0, 0, 0, 0, 0, 0, 0, 0, 0, 0, 0]) (List.replicate 63 0)))
 (fun v2 v3 => sel (decide (0 ≤ v2))
 (sel (decide (v2 < (↑63 : Int)))
 (sel (decide (Int.toNat v2 < List.length v3))
 (K0 (List.getD v3 (Int.toNat v2) 0))
 (none))
 (none))
 (none))
noncomputable def binom_Choose_j4 {R : Type} := shut (@binom_Choose_j4_B R)
theorem binom_Choose_j4_unf {R : Type} : @binom_Choose_j4 R = @binom_Choose_j4_B R := shut_eq _

noncomputable def binom_Choose_B {R : Type} (v0 v1 : Int) (K0 : Int → Option R) : Option R :=
 sel (decide (v0 < 0))
 (K0 0)
 (sel (decide (62 < v0))
 (K0 0)
 (sel (decide (v1 < 0))
 (K0 0)
 (sel (decide (v0 < v1))
 (K0 0)
 (binom_Choose_j4 v0 v1
 (fun v2 => K0 v2)))))
noncomputable def binom_Choose {R : Type} := shut (@binom_Choose_B R)
theorem binom_Choose_unf {R : Type} : @binom_Choose R = @binom_Choose_B R := shut_eq _

noncomputable def binom_Width_B {R : Type} (v0 v1 : Int) (K0 : Int → Option R) : Option R :=
 binom_Choose v0 v1
 (fun v2 => sel (decide (v2 = 0))
 (K0 0)
 (word_Len (subW .u64 v2 1)
 (fun v3 => K0 v3)))
noncomputable def binom_Width {R : Type} := shut (@binom_Width_B R)
theorem binom_Width_unf {R : Type} : @binom_Width R = @binom_Width_B R := shut_eq _

noncomputable def bits_Append_j3_B {R : Type} (v0 v1 : Int) (v2 : Bool) (v3 : Int) (v4 : List Int) (v5 : Int) (K0 : Int → Int → List Int → Option R) (K1 : Int → Int → Int → List Int → Int → Option R) : Option R :=
 sel v2
 (K0 2 v3 v4)
 (K1 v0 v1 v3 v4 v5)
noncomputable def bits_Append_j3 {R : Type} := shut (@bits_Append_j3_B R)
theorem bits_Append_j3_unf {R : Type} : @bits_Append_j3 R = @bits_Append_j3_B R := shut_eq _

noncomputable def bits_own_r_B {R : Type} (_v0 : Int) (v1 : List Int) (v2 : Int) (K0 : Int → Nat → List Int → Option R) : Option R :=
 bits_words v2
 (fun v3 => sel (decide (0 ≤ v3))
 (sel (decide (v3 ≤ v3))
 (sel (decide (v3 ≤ 281474976710656))
 (sel (decide ((↑8 : Int) * v3 ≤ 281474976710656))
 (letV (List.replicate (Int.toNat v3) 0) (fun (v4 : List Int) =>
 sel (decide (0 + Int.toNat v3 ≤ List.length v4))
 (sel (decide (List.length v1 ≤ Int.toNat v3))
 (sel (decide (0 + List.length v1 ≤ List.length v4))
 (letV (List.take 0 v4 ++ (v1 ++ List.drop (0 + List.length v1) v4)) (fun (v5 : List Int) =>
 K0 v2 (Int.toNat v3) v5))
 (none))
 (sel (decide (0 + Int.toNat v3 ≤ List.length v1))
 (sel (decide (0 + List.length (List.take (Int.toNat v3) (List.drop 0 v1)) ≤ List.length v4))
 (letV (List.take 0 v4 ++ (List.take (Int.toNat v3) (List.drop 0 v1) ++ List.drop (0 + List.length (List.take (Int.toNat v3) (List.drop 0 v1))) v4)) (fun (v6 : List Int) =>
 K0 v2 (Int.toNat v3) v6))
 (none))
 (none)))
 (none)))
 (none))
 (none))
 (none))
 (none))
noncomputable def bits_own_r {R : Type} := shut (@bits_own_r_B R)
theorem bits_own_r_unf {R : Type} : @bits_own_r R = @bits_own_r_B R := shut_eq _

noncomputable def bits_fill_j6_B {R : Type} (v0 v1 v2 : Int) (v3 : Bool) (v4 : List Int) (_v5 : Int) (v6 : Nat) (K0 : List Int → Option R) : Option R :=
 sel v3
 (sel (decide (0 ≤ addW .i64 v1 1))
 (sel (decide (addW .i64 v1 1 < (↑v6 : Int)))
 (sel (decide (Int.toNat (addW .i64 v1 1) < List.length v4))
 (sel (decide (0 ≤ subW .i64 64 v2))
 (sel (decide (0 ≤ addW .i64 v1 1))
 (sel (decide (addW .i64 v1 1 < (↑v6 : Int)))
 (sel (decide (Int.toNat (addW .i64 v1 1) < List.length v4))
 (letV (List.set v4 (Int.toNat (addW .i64 v1 1)) (orW .u64 (List.getD v4 (Int.toNat (addW .i64 v1 1)) 0) (shrW .u64 v0 (subW .i64 64 v2)))) (fun (v7 : List Int) =>
 K0 v7))
 (none))
 (none))
 (none))
 (none))
 (none))
 (none))
 (none))
 (K0 v4)
noncomputable def bits_fill_j6 {R : Type} := shut (@bits_fill_j6_B R)
theorem bits_fill_j6_unf {R : Type} : @bits_fill_j6 R = @bits_fill_j6_B R := shut_eq _

noncomputable def bits_fill_j5_B {R : Type} (v0 v1 v2 : Int) (v3 : List Int) (v4 : Int) (v5 : Nat) (K0 : List Int → Option R) : Option R :=
 sel (decide (0 < v2))
 (bits_fill_j6 v0 v1 v2 (decide (addW .i64 v1 1 < (↑v5 : Int))) v3 v4 v5
 (fun v6 => K0 v6))
 (bits_fill_j6 v0 v1 v2 false v3 v4 v5
 (fun v7 => K0 v7))
noncomputable def bits_fill_j5 {R : Type} := shut (@bits_fill_j5_B R)
theorem bits_fill_j5_unf {R : Type} : @bits_fill_j5 R = @bits_fill_j5_B R := shut_eq _

noncomputable def bits_fill_r_B {R : Type} (v0 : Int) (v1 : Nat) (v2 v3 : Int) (v4 : List Int) (K0 : List Int → Option R) : Option R :=
 sel (decide (quoW .i64 v2 64 < (↑v1 : Int)))
 (sel (decide (0 ≤ quoW .i64 v2 64))
 (sel (decide (quoW .i64 v2 64 < (↑v1 : Int)))
 (sel (decide (Int.toNat (quoW .i64 v2 64) < List.length v4))
 (sel (decide (0 ≤ remW v2 64))
 (sel (decide (0 ≤ quoW .i64 v2 64))
 (sel (decide (quoW .i64 v2 64 < (↑v1 : Int)))
 (sel (decide (Int.toNat (quoW .i64 v2 64) < List.length v4))
 (letV (List.set v4 (Int.toNat (quoW .i64 v2 64)) (orW .u64 (List.getD v4 (Int.toNat (quoW .i64 v2 64)) 0) (shlW .u64 v3 (remW v2 64)))) (fun (v5 : List Int) =>
 bits_fill_j5 v3 (quoW .i64 v2 64) (remW v2 64) v5 v0 v1
 (fun v6 => K0 v6)))
 (none))
 (none))
 (none))
 (none))
 (none))
 (none))
 (none))
 (bits_fill_j5 v3 (quoW .i64 v2 64) (remW v2 64) v4 v0 v1
 (fun v7 => K0 v7))
noncomputable def bits_fill_r {R : Type} := shut (@bits_fill_r_B R)
theorem bits_fill_r_unf {R : Type} : @bits_fill_r R = @bits_fill_r_B R := shut_eq _

noncomputable def bits_Append_j4_B {R : Type} (v0 v1 v2 : Int) (v3 : List Int) (_v4 : Int) (K0 : Int → Int → Nat → List Int → Option R) : Option R :=
 bits_own_r v2 v3 (addW .i64 v2 v1)
 (fun v5 v6 v7 => word_Mask v1
 (fun v8 => bits_fill_r v5 v6 v2 (andW .u64 v0 v8) v7
 (fun v9 => K0 0 v5 v6 v9)))
noncomputable def bits_Append_j4 {R : Type} := shut (@bits_Append_j4_B R)
theorem bits_Append_j4_unf {R : Type} : @bits_Append_j4 R = @bits_Append_j4_B R := shut_eq _

noncomputable def bits_Append_B {R : Type} (v0 : Int) (v1 : List Int) (v2 v3 : Int) (K0 : Int → List Int → Int → Option R) : Option R :=
 bits_Check v0 v1
 (fun v4 => sel (!v4)
 (bits_Append_j3 v2 v3 true v0 v1 0
 (fun v5 v6 v7 => K0 v6 v7 v5)
 (fun v8 v9 va vb vc => bits_Append_j4 v8 v9 va vb vc
 (fun vd ve vf vg => sel (decide (vf = List.length vg))
 (K0 ve vg vd)
 (none))))
 (sel (decide (v3 < 0))
 (bits_Append_j3 v2 v3 true v0 v1 0
 (fun vh vi vj => K0 vi vj vh)
 (fun vk vl vm vn vo => bits_Append_j4 vk vl vm vn vo
 (fun vp vq vr vs => sel (decide (vr = List.length vs))
 (K0 vq vs vp)
 (none))))
 (sel (decide (64 < v3))
 (bits_Append_j3 v2 v3 true v0 v1 0
 (fun vt vu vv => K0 vu vv vt)
 (fun vw vx vy vz v10 => bits_Append_j4 vw vx vy vz v10
 (fun v11 v12 v13 v14 => sel (decide (v13 = List.length v14))
 (K0 v12 v14 v11)
 (none))))
 (bits_Append_j3 v2 v3 (decide (subW .i64 1048576 v0 < v3)) v0 v1 0
 (fun v15 v16 v17 => K0 v16 v17 v15)
 (fun v18 v19 v1a v1b v1c => bits_Append_j4 v18 v19 v1a v1b v1c
 (fun v1d v1e v1f v1g => sel (decide (v1f = List.length v1g))
 (K0 v1e v1g v1d)
 (none)))))))
noncomputable def bits_Append {R : Type} := shut (@bits_Append_B R)
theorem bits_Append_unf {R : Type} : @bits_Append R = @bits_Append_B R := shut_eq _

noncomputable def rrr_Build_j18_B {R : Type} (v0 : Nat) (v1 v2 v3 : Int) (v4 : List Int) (v5 v6 v7 v8 v9 va vb vc vd ve : Int) (vf : List Int) (vg vh : Nat) (vi vj vk : List Int) (vl _vm : Int) (K0 : Nat → Int → Int → Int → List Int → Int → Int → Int → Int → Int → Int → Int → Int → Int → Int → List Int → Nat → Nat → List Int → List Int → List Int → Option R) : Option R :=
 K0 v0 (addW .i64 v1 vl) v2 v3 v4 v5 v6 v7 v8 v9 va vb vc vd ve vf vg vh vi vj vk
noncomputable def rrr_Build_j18 {R : Type} := shut (@rrr_Build_j18_B R)
theorem rrr_Build_j18_unf {R : Type} : @rrr_Build_j18 R = @rrr_Build_j18_B R := shut_eq _

noncomputable def rrr_Build_j12_B {R : Type} (v0 : Nat) (v1 v2 v3 : Int) (v4 : List Int) (v5 v6 v7 v8 v9 va vb vc vd ve : Int) (vf : List Int) (vg vh : Nat) (vi vj vk : List Int) (K0 : Nat → Int → Int → Int → Int → Int → Int → Int → Int → Int → Int → List Int → Nat → Nat → List Int → List Int → List Int → Option R) (K1 : Nat → Int → Int → Int → List Int → Int → Int → Int → Int → Int → Int → Int → Int → Int → Int → List Int → Nat → Nat → List Int → List Int → List Int → Option R) : Option R :=
 sel (decide (v2 = v3))
 (K0 v0 v5 v6 v7 v8 v9 va vb vc vd ve vf vg vh vi vj vk)
 (bits_Slice v3 v4 v2 (min2 15 (subW .i64 v3 v2))
 (fun vl _ => rrr_blockOf vl
 (fun vn vo => sel (decide (List.length vk = v0))
 (sel (decide ((v0 + 1) * 8 ≤ 140737488355328))
 (letV (vk ++ [cvtW .u64 vn]) (fun (vp : List Int) =>
 rrr_none 
 (fun vq vr => sel (!(decide (vn = vq) && decide (vo = vr)))
 (binom_Width 15 vn
 (fun vs => bits_Append ve vf vo vs
 (fun vt vu _ => rrr_Build_j18 (v0 + 1) v1 v2 v3 v4 v5 v6 v7 v8 v9 va vb vc vd vt vu vg vh vi vj vp vn vo
 K1)))
 (rrr_Build_j18 (v0 + 1) v1 v2 v3 v4 v5 v6 v7 v8 v9 va vb vc vd ve vf vg vh vi vj vp vn vo
 K1))))
 (none))
 (none))))
noncomputable def rrr_Build_j12 {R : Type} := shut (@rrr_Build_j12_B R)
theorem rrr_Build_j12_unf {R : Type} : @rrr_Build_j12 R = @rrr_Build_j12_B R := shut_eq _

noncomputable def rrr_Build_j10_B {R : Type} (v0 : Nat) (v1 v2 v3 : Int) (v4 : List Int) (v5 v6 v7 v8 v9 va vb vc vd ve : Int) (vf : List Int) (vg vh : Nat) (vi vj vk : List Int) (K0 : Nat → Int → Int → Int → Int → Int → Int → Int → Int → Int → Int → List Int → Nat → Nat → List Int → List Int → List Int → Option R) (K1 : Nat → Int → Int → Int → List Int → Int → Int → Int → Int → Int → Int → Int → Int → Int → Int → List Int → Nat → Nat → List Int → List Int → List Int → Option R) : Option R :=
 sel (decide (remW v2 120 = 0))
 (sel (decide (List.length vi = vg))
 (sel (decide ((vg + 1) * 8 ≤ 140737488355328))
 (letV (vi ++ [v1]) (fun (vl : List Int) =>
 sel (decide (List.length vj = vh))
 (sel (decide ((vh + 1) * 8 ≤ 140737488355328))
 (letV (vj ++ [ve]) (fun (vm : List Int) =>
 rrr_Build_j12 v0 v1 v2 v3 v4 v5 v6 v7 v8 v9 va vb vc vd ve vf (vg + 1) (vh + 1) vl vm vk
 K0
 (fun v14 v15 v16 v17 v18 v19 v1a v1b v1c v1d v1e v1f v1g v1h v1i v1j v1k v1l v1m v1n v1o => K1 v14 v15 (addW .i64 v16 15) v17 v18 v19 v1a v1b v1c v1d v1e v1f v1g v1h v1i v1j v1k v1l v1m v1n v1o)))
 (none))
 (none)))
 (none))
 (none))
 (rrr_Build_j12 v0 v1 v2 v3 v4 v5 v6 v7 v8 v9 va vb vc vd ve vf vg vh vi vj vk
 K0
 (fun v26 v27 v28 v29 v2a v2b v2c v2d v2e v2f v2g v2h v2i v2j v2k v2l v2m v2n v2o v2p v2q => K1 v26 v27 (addW .i64 v28 15) v29 v2a v2b v2c v2d v2e v2f v2g v2h v2i v2j v2k v2l v2m v2n v2o v2p v2q))
noncomputable def rrr_Build_j10 {R : Type} := shut (@rrr_Build_j10_B R)
theorem rrr_Build_j10_unf {R : Type} : @rrr_Build_j10 R = @rrr_Build_j10_B R := shut_eq _

noncomputable def rrr_Build_l8_T {R : Type} (rec : Nat → Int → Int → Int → List Int → Int → Int → Int → Int → Int → Int → Int → Int → Int → Int → List Int → Nat → Nat → List Int → List Int → List Int → Option R) (v0 : Nat) (v1 v2 v3 : Int) (v4 : List Int) (v5 v6 v7 v8 v9 va vb vc vd ve : Int) (vf : List Int) (vg vh : Nat) (vi vj vk : List Int) (K0 : Nat → Int → Int → Int → Int → Int → Int → Int → Int → Int → Int → List Int → Nat → Nat → List Int → List Int → List Int → Option R) : Option R :=
 sel (decide (v2 < v3))
 (rrr_Build_j10 v0 v1 v2 v3 v4 v5 v6 v7 v8 v9 va vb vc vd ve vf vg vh vi vj vk
 K0
 rec)
 (sel (decide (v2 = 0))
 (rrr_Build_j10 v0 v1 v2 v3 v4 v5 v6 v7 v8 v9 va vb vc vd ve vf vg vh vi vj vk
 K0
 rec)
 (K0 v0 v5 v6 v7 v8 v9 va vb vc vd ve vf vg vh vi vj vk))
noncomputable def rrr_Build_l8_L {R : Type} (K0 : Nat → Int → Int → Int → Int → Int → Int → Int → Int → Int → Int → List Int → Nat → Nat → List Int → List Int → List Int → Option R) : Nat → Nat → Int → Int → Int → List Int → Int → Int → Int → Int → Int → Int → Int → Int → Int → Int → List Int → Nat → Nat → List Int → List Int → List Int → Option R
 | 0, _, _, _, _, _, _, _, _, _, _, _, _, _, _, _, _, _, _, _, _, _ => none
 | N + 1, v0, v1, v2, v3, v4, v5, v6, v7, v8, v9, va, vb, vc, vd, ve, vf, vg, vh, vi, vj, vk => rrr_Build_l8_T (rrr_Build_l8_L K0 N) v0 v1 v2 v3 v4 v5 v6 v7 v8 v9 va vb vc vd ve vf vg vh vi vj vk K0
noncomputable def rrr_Build_l8_B {R : Type} (v0 : Nat) (v1 v2 v3 : Int) (v4 : List Int) (v5 v6 v7 v8 v9 va vb vc vd ve : Int) (vf : List Int) (vg vh : Nat) (vi vj vk : List Int) (K0 : Nat → Int → Int → Int → Int → Int → Int → Int → Int → Int → Int → List Int → Nat → Nat → List Int → List Int → List Int → Option R) : Option R :=
 rrr_Build_l8_L K0 NR v0 v1 v2 v3 v4 v5 v6 v7 v8 v9 va vb vc vd ve vf vg vh vi vj vk
noncomputable def rrr_Build_l8 {R : Type} := shut (@rrr_Build_l8_B R)
theorem rrr_Build_l8_unf {R : Type} : @rrr_Build_l8 R = @rrr_Build_l8_B R := shut_eq _

noncomputable def ints_Make_j3_B {R : Type} (v0 : Int) (v1 : List Int) (v2 : Bool) (v3 v4 v5 : Int) (K0 : Int → Int → Int → Int → Option R) (K1 : Int → List Int → Int → Int → Int → Option R) : Option R :=
 sel v2
 (K0 2 0 0 0)
 (K1 v0 v1 v3 v4 v5)
noncomputable def ints_Make_j3 {R : Type} := shut (@ints_Make_j3_B R)
theorem ints_Make_j3_unf {R : Type} : @ints_Make_j3 R = @ints_Make_j3_B R := shut_eq _

noncomputable def bits_New_j3_B {R : Type} (v0 : Int) (v1 : Bool) (v2 : Int) (K0 : Int → Int → Option R) (K1 : Int → Int → Option R) : Option R :=
 sel v1
 (K0 2 0)
 (K1 v0 v2)
noncomputable def bits_New_j3 {R : Type} := shut (@bits_New_j3_B R)
theorem bits_New_j3_unf {R : Type} : @bits_New_j3 R = @bits_New_j3_B R := shut_eq _

noncomputable def bits_New_j4_B {R : Type} (v0 _v1 : Int) (K0 : Int → Int → Nat → List Int → Option R) : Option R :=
 bits_words v0
 (fun v2 => sel (decide (0 ≤ v2))
 (sel (decide (v2 ≤ v2))
 (sel (decide (v2 ≤ 281474976710656))
 (sel (decide ((↑8 : Int) * v2 ≤ 281474976710656))
 (letV (List.replicate (Int.toNat v2) 0) (fun (v3 : List Int) =>
 K0 0 v0 (Int.toNat v2) v3))
 (none))
 (none))
 (none))
 (none))
noncomputable def bits_New_j4 {R : Type} := shut (@bits_New_j4_B R)
theorem bits_New_j4_unf {R : Type} : @bits_New_j4 R = @bits_New_j4_B R := shut_eq _

noncomputable def bits_New_B {R : Type} (v0 : Int) (K0 : Int → List Int → Int → Option R) : Option R :=
 sel (decide (v0 < 0))
 (bits_New_j3 v0 true 0
 (fun v1 v2 => K0 v2 [] v1)
 (fun v3 v4 => bits_New_j4 v3 v4
 (fun v5 v6 v7 v8 => sel (decide (v7 = List.length v8))
 (K0 v6 v8 v5)
 (none))))
 (bits_New_j3 v0 (decide (1048576 < v0)) 0
 (fun v9 va => K0 va [] v9)
 (fun vb vc => bits_New_j4 vb vc
 (fun vd ve vf vg => sel (decide (vf = List.length vg))
 (K0 ve vg vd)
 (none))))
noncomputable def bits_New {R : Type} := shut (@bits_New_B R)
theorem bits_New_unf {R : Type} : @bits_New R = @bits_New_B R := shut_eq _

noncomputable def ints_Make_l6_T {R : Type} (rec : Int → List Int → List Int → Int → Int → Int → Int → Int → Int → List Int → Option R) (v0 : Int) (v1 v2 : List Int) (v3 v4 v5 v6 v7 v8 : Int) (v9 : List Int) (K0 : Int → List Int → Int → Int → Int → Int → List Int → Option R) : Option R :=
 sel (decide (v4 < v3))
 (sel (decide (0 ≤ v4))
 (sel (decide (v4 < (↑(List.length v2) : Int)))
 (bits_Append v8 v9 (List.getD v2 (Int.toNat v4) 0) v0
 (fun va vb _ => rec v0 v1 v2 v3 (addW .i64 v4 1) v5 v6 v7 va vb))
 (none))
 (none))
 (K0 v0 v1 v5 v6 v7 v8 v9)
noncomputable def ints_Make_l6_L {R : Type} (K0 : Int → List Int → Int → Int → Int → Int → List Int → Option R) : Nat → Int → List Int → List Int → Int → Int → Int → Int → Int → Int → List Int → Option R
 | 0, _, _, _, _, _, _, _, _, _, _ => none
 | N + 1, v0, v1, v2, v3, v4, v5, v6, v7, v8, v9 => ints_Make_l6_T (ints_Make_l6_L K0 N) v0 v1 v2 v3 v4 v5 v6 v7 v8 v9 K0
noncomputable def ints_Make_l6_B {R : Type} (v0 : Int) (v1 v2 : List Int) (v3 v4 v5 v6 v7 v8 : Int) (v9 : List Int) (K0 : Int → List Int → Int → Int → Int → Int → List Int → Option R) : Option R :=
 ints_Make_l6_L K0 NR v0 v1 v2 v3 v4 v5 v6 v7 v8 v9
noncomputable def ints_Make_l6 {R : Type} := shut (@ints_Make_l6_B R)
theorem ints_Make_l6_unf {R : Type} : @ints_Make_l6 R = @ints_Make_l6_B R := shut_eq _

noncomputable def ints_Make_j4_B {R : Type} (v0 : Int) (v1 : List Int) (v2 v3 v4 : Int) (K0 : Int → Int → Int → Int → List Int → Option R) : Option R :=
 bits_New 0
 (fun v5 v6 _ => ints_Make_l6 v0 v1 v1 ((↑(List.length v1) : Int)) 0 v2 v3 v4 v5 v6
 (fun v8 v9 _ _ _ vd ve => K0 0 ((↑(List.length v9) : Int)) v8 vd ve))
noncomputable def ints_Make_j4 {R : Type} := shut (@ints_Make_j4_B R)
theorem ints_Make_j4_unf {R : Type} : @ints_Make_j4 R = @ints_Make_j4_B R := shut_eq _

noncomputable def ints_width_l4_T {R : Type} (rec : Int → List Int → Int → Int → Option R) (v0 : Int) (v1 : List Int) (v2 v3 : Int) (K0 : Int → Option R) : Option R :=
 sel (decide (v3 < v2))
 (sel (decide (0 ≤ v3))
 (sel (decide (v3 < (↑(List.length v1) : Int)))
 (word_Len (List.getD v1 (Int.toNat v3) 0)
 (fun v4 => rec (max2 v0 v4) v1 v2 (addW .i64 v3 1)))
 (none))
 (none))
 (K0 v0)
noncomputable def ints_width_l4_L {R : Type} (K0 : Int → Option R) : Nat → Int → List Int → Int → Int → Option R
 | 0, _, _, _, _ => none
 | N + 1, v0, v1, v2, v3 => ints_width_l4_T (ints_width_l4_L K0 N) v0 v1 v2 v3 K0
noncomputable def ints_width_l4_B {R : Type} (v0 : Int) (v1 : List Int) (v2 v3 : Int) (K0 : Int → Option R) : Option R :=
 ints_width_l4_L K0 NR v0 v1 v2 v3
noncomputable def ints_width_l4 {R : Type} := shut (@ints_width_l4_B R)
theorem ints_width_l4_unf {R : Type} : @ints_width_l4 R = @ints_width_l4_B R := shut_eq _

noncomputable def ints_width_B {R : Type} (v0 : List Int) (K0 : Int → Option R) : Option R :=
 ints_width_l4 1 v0 ((↑(List.length v0) : Int)) 0
 (fun v1 => K0 v1)
noncomputable def ints_width {R : Type} := shut (@ints_width_B R)
theorem ints_width_unf {R : Type} : @ints_width R = @ints_width_B R := shut_eq _

noncomputable def ints_Make_B {R : Type} (v0 : Int) (v1 : List Int) (K0 : Int → Int → Int → List Int → Int → Option R) : Option R :=
 sel (decide (v0 < 1))
 (ints_Make_j3 v0 v1 true 0 0 0
 (fun v2 v3 v4 v5 => K0 v3 v4 v5 [] v2)
 (fun v6 v7 v8 v9 va => ints_Make_j4 v6 v7 v8 v9 va
 (fun vb vc vd ve vf => K0 vc vd ve vf vb)))
 (sel (decide (64 < v0))
 (ints_Make_j3 v0 v1 true 0 0 0
 (fun vg vh vi vj => K0 vh vi vj [] vg)
 (fun vk vl vm vn vo => ints_Make_j4 vk vl vm vn vo
 (fun vp vq vr vs vt => K0 vq vr vs vt vp)))
 (sel (decide (v0 = 0))
 (none)
 (sel (decide (quoW .i64 1048576 v0 < (↑(List.length v1) : Int)))
 (ints_Make_j3 v0 v1 true 0 0 0
 (fun vu vv vw vx => K0 vv vw vx [] vu)
 (fun vy vz v10 v11 v12 => ints_Make_j4 vy vz v10 v11 v12
 (fun v13 v14 v15 v16 v17 => K0 v14 v15 v16 v17 v13)))
 (ints_width v1
 (fun v18 => ints_Make_j3 v0 v1 (decide (v0 < v18)) 0 0 0
 (fun v19 v1a v1b v1c => K0 v1a v1b v1c [] v19)
 (fun v1d v1e v1f v1g v1h => ints_Make_j4 v1d v1e v1f v1g v1h
 (fun v1i v1j v1k v1l v1m => K0 v1j v1k v1l v1m v1i)))))))
noncomputable def ints_Make {R : Type} := shut (@ints_Make_B R)
theorem ints_Make_unf {R : Type} : @ints_Make R = @ints_Make_B R := shut_eq _

noncomputable def rrr_Build_j5_B {R : Type} (v0 : Int) (v1 : List Int) (v2 v3 v4 v5 v6 v7 v8 v9 va vb : Int) (K0 : Int → Int → Int → Int → Int → List Int → Int → List Int → Nat → Nat → List Int → List Int → Option R) : Option R :=
 rrr_Build_l8 0 0 0 v0 v1 v2 v3 v4 v5 v6 v7 v8 v9 va vb [] 0 0 [] [] []
 (fun vc _ _ _ _ _ vi _ _ _ vm vn vo vp vq vr vs => sel (decide (vc = List.length vs))
 (sel (decide (vc = List.length vs))
 (ints_Make 4 vs
 (fun vt vu vv vw _ => K0 0 vi vt vu vv vw vm vn vo vp vq vr))
 (none))
 (none))
noncomputable def rrr_Build_j5 {R : Type} := shut (@rrr_Build_j5_B R)
theorem rrr_Build_j5_unf {R : Type} : @rrr_Build_j5 R = @rrr_Build_j5_B R := shut_eq _

noncomputable def rrr_Build_B {R : Type} (v0 : Int) (v1 : List Int) (K0 : Int → Int → Int → Int → List Int → Int → List Int → List Int → List Int → Int → Option R) : Option R :=
 bits_Check v0 v1
 (fun v2 => sel (!v2)
 (K0 0 0 0 0 [] 0 [] [] [] 2)
 (rrr_Build_j5 v0 v1 0 0 0 0 0 v0 0 0 0 0
 (fun v3 v4 v5 v6 v7 v8 v9 va vb vc vd ve => sel (decide (vb = List.length vd))
 (sel (decide (vc = List.length ve))
 (K0 v4 v5 v6 v7 v8 v9 va vd ve v3)
 (none))
 (none))))
noncomputable def rrr_Build {R : Type} := shut (@rrr_Build_B R)
theorem rrr_Build_unf {R : Type} : @rrr_Build R = @rrr_Build_B R := shut_eq _

noncomputable def ints_Check_B {R : Type} (v0 v1 v2 : Int) (v3 : List Int) (K0 : Bool → Option R) : Option R :=
 sel (decide (1 ≤ v1))
 (sel (decide (v1 ≤ 64))
 (sel (decide (0 ≤ v0))
 (sel (decide (v0 ≤ 1048576))
 (bits_Check v2 v3
 (fun v4 => sel v4
 (K0 (decide (v2 = mulW .i64 v0 v1)))
 (K0 false)))
 (K0 false))
 (K0 false))
 (K0 false))
 (K0 false)
noncomputable def ints_Check {R : Type} := shut (@ints_Check_B R)
theorem ints_Check_unf {R : Type} : @ints_Check R = @ints_Check_B R := shut_eq _

noncomputable def ints_List_l6_T {R : Type} (rec : Nat → Int → Int → Int → Int → Int → List Int → List Int → Option R) (v0 : Nat) (v1 v2 v3 v4 v5 : Int) (v6 v7 : List Int) (K0 : Nat → List Int → Option R) : Option R :=
 sel (decide (v2 < v1))
 (bits_Slice v5 v6 (mulW .i64 v2 v4) v4
 (fun v8 _ => sel (decide (0 ≤ v2))
 (sel (decide (v2 < (↑v0 : Int)))
 (sel (decide (Int.toNat v2 < List.length v7))
 (letV (List.set v7 (Int.toNat v2) v8) (fun (va : List Int) =>
 rec v0 v1 (addW .i64 v2 1) v3 v4 v5 v6 va))
 (none))
 (none))
 (none)))
 (K0 v0 v7)
noncomputable def ints_List_l6_L {R : Type} (K0 : Nat → List Int → Option R) : Nat → Nat → Int → Int → Int → Int → Int → List Int → List Int → Option R
 | 0, _, _, _, _, _, _, _, _ => none
 | N + 1, v0, v1, v2, v3, v4, v5, v6, v7 => ints_List_l6_T (ints_List_l6_L K0 N) v0 v1 v2 v3 v4 v5 v6 v7 K0
noncomputable def ints_List_l6_B {R : Type} (v0 : Nat) (v1 v2 v3 v4 v5 : Int) (v6 v7 : List Int) (K0 : Nat → List Int → Option R) : Option R :=
 ints_List_l6_L K0 NR v0 v1 v2 v3 v4 v5 v6 v7
noncomputable def ints_List_l6 {R : Type} := shut (@ints_List_l6_B R)
theorem ints_List_l6_unf {R : Type} : @ints_List_l6 R = @ints_List_l6_B R := shut_eq _

noncomputable def ints_List_B {R : Type} (v0 v1 v2 : Int) (v3 : List Int) (K0 : List Int → Option R) : Option R :=
 ints_Check v0 v1 v2 v3
 (fun v4 => sel (!v4)
 (K0 [])
 (sel (decide (0 ≤ v0))
 (sel (decide (v0 ≤ v0))
 (sel (decide (v0 ≤ 281474976710656))
 (sel (decide ((↑8 : Int) * v0 ≤ 281474976710656))
 (letV (List.replicate (Int.toNat v0) 0) (fun (v5 : List Int) =>
 ints_List_l6 (Int.toNat v0) ((↑(Int.toNat v0) : Int)) 0 v0 v1 v2 v3 v5
 (fun v6 v7 => sel (decide (v6 = List.length v7))
 (K0 v7)
 (none))))
 (none))
 (none))
 (none))
 (none)))
noncomputable def ints_List {R : Type} := shut (@ints_List_B R)
theorem ints_List_unf {R : Type} : @ints_List R = @ints_List_B R := shut_eq _

noncomputable def binom_Block_j13_B {R : Type} (v0 v1 : Int) (v2 : List (List Int)) (v3 v4 v5 : Int) (K0 : Int → Int → List (List Int) → Int → Int → Option R) : Option R :=
 sel (decide (v5 ≤ v1))
 (sel (decide (0 ≤ v4))
 (K0 (subW .i64 v0 1) (subW .u64 v1 v5) v2 (orW .u64 v3 (shlW .u64 1 v4)) v4)
 (none))
 (K0 v0 v1 v2 v3 v4)
noncomputable def binom_Block_j13 {R : Type} := shut (@binom_Block_j13_B R)
theorem binom_Block_j13_unf {R : Type} : @binom_Block_j13 R = @binom_Block_j13_B R := shut_eq _

noncomputable def binom_Block_l7_T {R : Type} (rec : Int → Int → List (List Int) → Int → Int → Option R) (v0 v1 : Int) (v2 : List (List Int)) (v3 v4 : Int) (K0 : Int → Option R) : Option R :=
 sel (decide (0 ≤ v4))
 (sel (decide (v0 = 0))
 (K0 v3)
 (sel (decide (v0 ≤ v4))
 (sel (decide (0 ≤ v4))
 (sel (decide (v4 < (↑(List.length v2) : Int)))
 (letV (List.getD v2 (Int.toNat v4) []) (fun (v5 : List Int) =>
 sel (decide (0 ≤ v0))
 (sel (decide (v0 < (↑(List.length v5) : Int)))
 (binom_Block_j13 v0 v1 v2 v3 v4 (List.getD v5 (Int.toNat v0) 0)
 (fun v6 v7 v8 v9 va => rec v6 v7 v8 v9 (subW .i64 va 1)))
 (none))
 (none)))
 (none))
 (none))
 (binom_Block_j13 v0 v1 v2 v3 v4 0
 (fun vb vc vd ve vf => rec vb vc vd ve (subW .i64 vf 1)))))
 (K0 v3)
noncomputable def binom_Block_l7_L {R : Type} (K0 : Int → Option R) : Nat → Int → Int → List (List Int) → Int → Int → Option R
 | 0, _, _, _, _, _ => none
 | N + 1, v0, v1, v2, v3, v4 => binom_Block_l7_T (binom_Block_l7_L K0 N) v0 v1 v2 v3 v4 K0
noncomputable def binom_Block_l7_B {R : Type} (v0 v1 : Int) (v2 : List (List Int)) (v3 v4 : Int) (K0 : Int → Option R) : Option R :=
 binom_Block_l7_L K0 NR v0 v1 v2 v3 v4
noncomputable def binom_Block_l7 {R : Type} := shut (@binom_Block_l7_B R)
theorem binom_Block_l7_unf {R : Type} : @binom_Block_l7 R = @binom_Block_l7_B R := shut_eq _

noncomputable def binom_Block_B {R : Type} (v0 v1 v2 : Int) (K0 : Int → Bool → Option R) : Option R :=
 binom_Choose v0 v1
 (fun v3 => sel (decide (v3 ≤ v2))
 (K0 0 false)
 (binom_rows v0
 (fun v4 => binom_Block_l7 v1 v2 v4 0 (subW .i64 v0 1)
 (fun v5 => K0 v5 true))))
noncomputable def binom_Block {R : Type} := shut (@binom_Block_B R)
theorem binom_Block_unf {R : Type} : @binom_Block R = @binom_Block_B R := shut_eq _

noncomputable def rrr_row_j3_B {R : Type} (v0 : Bool) (v1 v2 v3 v4 : Int) (v5 : List Int) (v6 : Int) (v7 v8 v9 : List Int) (va : Int) (K0 : Bool → Int → Option R) (K1 : Int → Int → Int → Int → List Int → Int → List Int → List Int → List Int → Int → Option R) : Option R :=
 sel v0
 (K0 false 0)
 (K1 v1 v2 v3 v4 v5 v6 v7 v8 v9 va)
noncomputable def rrr_row_j3 {R : Type} := shut (@rrr_row_j3_B R)
theorem rrr_row_j3_unf {R : Type} : @rrr_row_j3 R = @rrr_row_j3_B R := shut_eq _

noncomputable def rrr_row_j16_B {R : Type} (v0 v1 v2 v3 : Int) (v4 : List Int) (v5 v6 : Int) (v7 : Bool) (v8 v9 va vb : Int) (vc : List Int) (vd : Int) (ve vf vg : List Int) (vh vi : Int) (vj : List Int) (K0 : Bool → Int → Option R) (K1 : Int → Int → Int → Int → List Int → Int → Int → Int → Int → Int → Int → List Int → Int → List Int → List Int → List Int → Int → Int → List Int → Option R) : Option R :=
 sel v7
 (K0 false 0)
 (K1 v0 v1 v2 v3 v4 v5 v6 v8 v9 va vb vc vd ve vf vg vh vi vj)
noncomputable def rrr_row_j16 {R : Type} := shut (@rrr_row_j16_B R)
theorem rrr_row_j16_unf {R : Type} : @rrr_row_j16 R = @rrr_row_j16_B R := shut_eq _

noncomputable def rrr_row_j17_B {R : Type} (v0 v1 v2 v3 : Int) (v4 : List Int) (v5 v6 v7 v8 v9 va : Int) (vb : List Int) (vc : Int) (vd ve vf : List Int) (vg vh : Int) (vi : List Int) (K0 : Int → List Int → Int → Int → Int → Int → Int → Int → List Int → Int → List Int → List Int → List Int → Int → Int → List Int → Option R) : Option R :=
 bits_Append vh vi v2 v3
 (fun vj vk _ => K0 (addW .i64 v0 v1) v4 v5 v6 v7 v8 v9 va vb vc vd ve vf vg vj vk)
noncomputable def rrr_row_j17 {R : Type} := shut (@rrr_row_j17_B R)
theorem rrr_row_j17_unf {R : Type} : @rrr_row_j17 R = @rrr_row_j17_B R := shut_eq _

noncomputable def rrr_row_l7_T {R : Type} (rec : Int → List Int → Int → Int → Int → Int → Int → Int → List Int → Int → List Int → List Int → List Int → Int → Int → List Int → Option R) (v0 : Int) (v1 : List Int) (v2 v3 v4 v5 v6 v7 : Int) (v8 : List Int) (v9 : Int) (va vb vc : List Int) (vd ve : Int) (vf : List Int) (K0 : Bool → Int → Option R) (K1 : Int → Int → List Int → Option R) : Option R :=
 sel (decide (v3 < v2))
 (sel (decide (0 ≤ v3))
 (sel (decide (v3 < (↑(List.length v1) : Int)))
 (sel (decide (15 < List.getD v1 (Int.toNat v3) 0))
 (K0 false 0)
 (binom_Width 15 (cvtW .i64 (List.getD v1 (Int.toNat v3) 0))
 (fun vg => bits_Slice v9 va v0 vg
 (fun vh vi => binom_Block 15 (cvtW .i64 (List.getD v1 (Int.toNat v3) 0)) vh
 (fun vj vk => sel (!decide (vi = 0))
 (rrr_row_j16 v0 vg vj (min2 15 (subW .i64 v4 ve)) v1 v2 v3 true v4 v5 v6 v7 v8 v9 va vb vc vd ve vf
 (fun vl vm => K0 vl vm)
 (fun vn vo vp vq vr vs vt vu vv vw vx vy vz v10 v11 v12 v13 v14 v15 => rrr_row_j17 vn vo vp vq vr vs vt vu vv vw vx vy vz v10 v11 v12 v13 v14 v15
 (fun v16 v17 v18 v19 v1a v1b v1c v1d v1e v1f v1g v1h v1i v1j v1k v1l => rec v16 v17 v18 (addW .i64 v19 1) v1a v1b v1c v1d v1e v1f v1g v1h v1i v1j v1k v1l)))
 (sel (!vk)
 (rrr_row_j16 v0 vg vj (min2 15 (subW .i64 v4 ve)) v1 v2 v3 true v4 v5 v6 v7 v8 v9 va vb vc vd ve vf
 (fun v1m v1n => K0 v1m v1n)
 (fun v1o v1p v1q v1r v1s v1t v1u v1v v1w v1x v1y v1z v20 v21 v22 v23 v24 v25 v26 => rrr_row_j17 v1o v1p v1q v1r v1s v1t v1u v1v v1w v1x v1y v1z v20 v21 v22 v23 v24 v25 v26
 (fun v27 v28 v29 v2a v2b v2c v2d v2e v2f v2g v2h v2i v2j v2k v2l v2m => rec v27 v28 v29 (addW .i64 v2a 1) v2b v2c v2d v2e v2f v2g v2h v2i v2j v2k v2l v2m)))
 (word_Len vj
 (fun v2n => rrr_row_j16 v0 vg vj (min2 15 (subW .i64 v4 ve)) v1 v2 v3 (decide (min2 15 (subW .i64 v4 ve) < v2n)) v4 v5 v6 v7 v8 v9 va vb vc vd ve vf
 (fun v2o v2p => K0 v2o v2p)
 (fun v2q v2r v2s v2t v2u v2v v2w v2x v2y v2z v30 v31 v32 v33 v34 v35 v36 v37 v38 => rrr_row_j17 v2q v2r v2s v2t v2u v2v v2w v2x v2y v2z v30 v31 v32 v33 v34 v35 v36 v37 v38
 (fun v39 v3a v3b v3c v3d v3e v3f v3g v3h v3i v3j v3k v3l v3m v3n v3o => rec v39 v3a v3b (addW .i64 v3c 1) v3d v3e v3f v3g v3h v3i v3j v3k v3l v3m v3n v3o))))))))))
 (none))
 (none))
 (K1 vd ve vf)
noncomputable def rrr_row_l7_L {R : Type} (K0 : Bool → Int → Option R) (K1 : Int → Int → List Int → Option R) : Nat → Int → List Int → Int → Int → Int → Int → Int → Int → List Int → Int → List Int → List Int → List Int → Int → Int → List Int → Option R
 | 0, _, _, _, _, _, _, _, _, _, _, _, _, _, _, _, _ => none
 | N + 1, v0, v1, v2, v3, v4, v5, v6, v7, v8, v9, va, vb, vc, vd, ve, vf => rrr_row_l7_T (rrr_row_l7_L K0 K1 N) v0 v1 v2 v3 v4 v5 v6 v7 v8 v9 va vb vc vd ve vf K0 K1
noncomputable def rrr_row_l7_B {R : Type} (v0 : Int) (v1 : List Int) (v2 v3 v4 v5 v6 v7 : Int) (v8 : List Int) (v9 : Int) (va vb vc : List Int) (vd ve : Int) (vf : List Int) (K0 : Bool → Int → Option R) (K1 : Int → Int → List Int → Option R) : Option R :=
 rrr_row_l7_L K0 K1 NR v0 v1 v2 v3 v4 v5 v6 v7 v8 v9 va vb vc vd ve vf
noncomputable def rrr_row_l7 {R : Type} := shut (@rrr_row_l7_B R)
theorem rrr_row_l7_unf {R : Type} : @rrr_row_l7 R = @rrr_row_l7_B R := shut_eq _

noncomputable def rrr_row_j4_B {R : Type} (v0 v1 v2 v3 : Int) (v4 : List Int) (v5 : Int) (v6 v7 v8 : List Int) (v9 : Int) (K0 : Bool → Int → Option R) (K1 : Bool → Int → List Int → Option R) : Option R :=
 ints_List v1 v2 v3 v4
 (fun va => rrr_row_l7 0 va ((↑(List.length va) : Int)) 0 v0 v1 v2 v3 v4 v5 v6 v7 v8 v9 0 []
 (fun vb vc => K0 vb vc)
 (fun _ ve vf => K1 true ve vf))
noncomputable def rrr_row_j4 {R : Type} := shut (@rrr_row_j4_B R)
theorem rrr_row_j4_unf {R : Type} : @rrr_row_j4 R = @rrr_row_j4_B R := shut_eq _

noncomputable def rrr_row_B {R : Type} (v0 v1 v2 v3 : Int) (v4 : List Int) (v5 : Int) (v6 v7 v8 : List Int) (K0 : Int → List Int → Bool → Option R) : Option R :=
 sel (decide (v0 < 0))
 (rrr_row_j3 true v0 v1 v2 v3 v4 v5 v6 v7 v8 0
 (fun v9 va => K0 va [] v9)
 (fun vb vc vd ve vf vg vh vi vj vk => rrr_row_j4 vb vc vd ve vf vg vh vi vj vk
 (fun vl vm => K0 vm [] vl)
 (fun vn vo vp => K0 vo vp vn)))
 (sel (decide (1048576 < v0))
 (rrr_row_j3 true v0 v1 v2 v3 v4 v5 v6 v7 v8 0
 (fun vq vr => K0 vr [] vq)
 (fun vs vt vu vv vw vx vy vz v10 v11 => rrr_row_j4 vs vt vu vv vw vx vy vz v10 v11
 (fun v12 v13 => K0 v13 [] v12)
 (fun v14 v15 v16 => K0 v15 v16 v14)))
 (ints_Check v1 v2 v3 v4
 (fun v17 => sel (!v17)
 (rrr_row_j3 true v0 v1 v2 v3 v4 v5 v6 v7 v8 0
 (fun v18 v19 => K0 v19 [] v18)
 (fun v1a v1b v1c v1d v1e v1f v1g v1h v1i v1j => rrr_row_j4 v1a v1b v1c v1d v1e v1f v1g v1h v1i v1j
 (fun v1k v1l => K0 v1l [] v1k)
 (fun v1m v1n v1o => K0 v1n v1o v1m)))
 (bits_Check v5 v6
 (fun v1p => sel (!v1p)
 (rrr_row_j3 true v0 v1 v2 v3 v4 v5 v6 v7 v8 0
 (fun v1q v1r => K0 v1r [] v1q)
 (fun v1s v1t v1u v1v v1w v1x v1y v1z v20 v21 => rrr_row_j4 v1s v1t v1u v1v v1w v1x v1y v1z v20 v21
 (fun v22 v23 => K0 v23 [] v22)
 (fun v24 v25 v26 => K0 v25 v26 v24)))
 (rrr_row_j3 (!decide (v1 = quoW .i64 (subW .i64 (addW .i64 v0 15) 1) 15)) v0 v1 v2 v3 v4 v5 v6 v7 v8 0
 (fun v27 v28 => K0 v28 [] v27)
 (fun v29 v2a v2b v2c v2d v2e v2f v2g v2h v2i => rrr_row_j4 v29 v2a v2b v2c v2d v2e v2f v2g v2h v2i
 (fun v2j v2k => K0 v2k [] v2j)
 (fun v2l v2m v2n => K0 v2m v2n v2l))))))))
noncomputable def rrr_row {R : Type} := shut (@rrr_row_B R)
theorem rrr_row_unf {R : Type} : @rrr_row R = @rrr_row_B R := shut_eq _

noncomputable def slices_Equal_uint64_uint64_l5_T {R : Type} (rec : List Int → List Int → Int → Int → Option R) (v0 v1 : List Int) (v2 v3 : Int) (K0 : Bool → Option R) (K1 : Unit → Option R) : Option R :=
 sel (decide (v3 < v2))
 (sel (decide (0 ≤ v3))
 (sel (decide (v3 < (↑(List.length v0) : Int)))
 (sel (decide (0 ≤ v3))
 (sel (decide (v3 < (↑(List.length v1) : Int)))
 (sel (!decide (List.getD v0 (Int.toNat v3) 0 = List.getD v1 (Int.toNat v3) 0))
 (K0 false)
 (rec v0 v1 v2 (addW .i64 v3 1)))
 (none))
 (none))
 (none))
 (none))
 (K1 ())
noncomputable def slices_Equal_uint64_uint64_l5_L {R : Type} (K0 : Bool → Option R) (K1 : Unit → Option R) : Nat → List Int → List Int → Int → Int → Option R
 | 0, _, _, _, _ => none
 | N + 1, v0, v1, v2, v3 => slices_Equal_uint64_uint64_l5_T (slices_Equal_uint64_uint64_l5_L K0 K1 N) v0 v1 v2 v3 K0 K1
noncomputable def slices_Equal_uint64_uint64_l5_B {R : Type} (v0 v1 : List Int) (v2 v3 : Int) (K0 : Bool → Option R) (K1 : Unit → Option R) : Option R :=
 slices_Equal_uint64_uint64_l5_L K0 K1 NR v0 v1 v2 v3
noncomputable def slices_Equal_uint64_uint64_l5 {R : Type} := shut (@slices_Equal_uint64_uint64_l5_B R)
theorem slices_Equal_uint64_uint64_l5_unf {R : Type} : @slices_Equal_uint64_uint64_l5 R = @slices_Equal_uint64_uint64_l5_B R := shut_eq _

noncomputable def slices_Equal_uint64_uint64_B {R : Type} (v0 v1 : List Int) (K0 : Bool → Option R) : Option R :=
 sel (!decide ((↑(List.length v0) : Int) = (↑(List.length v1) : Int)))
 (K0 false)
 (slices_Equal_uint64_uint64_l5 v0 v1 ((↑(List.length v0) : Int)) 0
 (fun v2 => K0 v2)
 (fun _ => K0 true))
noncomputable def slices_Equal_uint64_uint64 {R : Type} := shut (@slices_Equal_uint64_uint64_B R)
theorem slices_Equal_uint64_uint64_unf {R : Type} : @slices_Equal_uint64_uint64 R = @slices_Equal_uint64_uint64_B R := shut_eq _

noncomputable def slices_Equal_int_int_l5_T {R : Type} (rec : List Int → List Int → Int → Int → Option R) (v0 v1 : List Int) (v2 v3 : Int) (K0 : Bool → Option R) (K1 : Unit → Option R) : Option R :=
 sel (decide (v3 < v2))
 (sel (decide (0 ≤ v3))
 (sel (decide (v3 < (↑(List.length v0) : Int)))
 (sel (decide (0 ≤ v3))
 (sel (decide (v3 < (↑(List.length v1) : Int)))
 (sel (!decide (List.getD v0 (Int.toNat v3) 0 = List.getD v1 (Int.toNat v3) 0))
 (K0 false)
 (rec v0 v1 v2 (addW .i64 v3 1)))
 (none))
 (none))
 (none))
 (none))
 (K1 ())
noncomputable def slices_Equal_int_int_l5_L {R : Type} (K0 : Bool → Option R) (K1 : Unit → Option R) : Nat → List Int → List Int → Int → Int → Option R
 | 0, _, _, _, _ => none
 | N + 1, v0, v1, v2, v3 => slices_Equal_int_int_l5_T (slices_Equal_int_int_l5_L K0 K1 N) v0 v1 v2 v3 K0 K1
noncomputable def slices_Equal_int_int_l5_B {R : Type} (v0 v1 : List Int) (v2 v3 : Int) (K0 : Bool → Option R) (K1 : Unit → Option R) : Option R :=
 slices_Equal_int_int_l5_L K0 K1 NR v0 v1 v2 v3
noncomputable def slices_Equal_int_int_l5 {R : Type} := shut (@slices_Equal_int_int_l5_B R)
theorem slices_Equal_int_int_l5_unf {R : Type} : @slices_Equal_int_int_l5 R = @slices_Equal_int_int_l5_B R := shut_eq _

noncomputable def slices_Equal_int_int_B {R : Type} (v0 v1 : List Int) (K0 : Bool → Option R) : Option R :=
 sel (!decide ((↑(List.length v0) : Int) = (↑(List.length v1) : Int)))
 (K0 false)
 (slices_Equal_int_int_l5 v0 v1 ((↑(List.length v0) : Int)) 0
 (fun v2 => K0 v2)
 (fun _ => K0 true))
noncomputable def slices_Equal_int_int {R : Type} := shut (@slices_Equal_int_int_B R)
theorem slices_Equal_int_int_unf {R : Type} : @slices_Equal_int_int R = @slices_Equal_int_int_B R := shut_eq _

noncomputable def rrr_same_j4_B {R : Type} (v0 v1 : Bool) (v2 _v3 _v4 _v5 : Int) (_v6 : List Int) (_v7 : Int) (_v8 v9 va : List Int) (vb _vc _vd _ve : Int) (_vf : List Int) (_vg : Int) (_vh vi vj : List Int) (K0 : Bool → Option R) : Option R :=
 sel v0
 (sel v1
 (sel (decide (v2 = vb))
 (slices_Equal_int_int v9 vi
 (fun vk => sel vk
 (slices_Equal_int_int va vj
 (fun vl => K0 vl))
 (K0 false)))
 (K0 false))
 (K0 false))
 (K0 false)
noncomputable def rrr_same_j4 {R : Type} := shut (@rrr_same_j4_B R)
theorem rrr_same_j4_unf {R : Type} : @rrr_same_j4 R = @rrr_same_j4_B R := shut_eq _

noncomputable def rrr_same_j3_B {R : Type} (v0 : Bool) (v1 v2 v3 v4 : Int) (v5 : List Int) (v6 : Int) (v7 v8 v9 : List Int) (va vb vc vd : Int) (ve : List Int) (vf : Int) (vg vh vi : List Int) (K0 : Bool → Option R) : Option R :=
 sel (decide (v6 = vf))
 (slices_Equal_uint64_uint64 v7 vg
 (fun vj => rrr_same_j4 v0 vj v1 v2 v3 v4 v5 v6 v7 v8 v9 va vb vc vd ve vf vg vh vi
 (fun vk => K0 vk)))
 (rrr_same_j4 v0 false v1 v2 v3 v4 v5 v6 v7 v8 v9 va vb vc vd ve vf vg vh vi
 (fun vl => K0 vl))
noncomputable def rrr_same_j3 {R : Type} := shut (@rrr_same_j3_B R)
theorem rrr_same_j3_unf {R : Type} : @rrr_same_j3 R = @rrr_same_j3_B R := shut_eq _

noncomputable def rrr_same_B {R : Type} (v0 v1 v2 v3 : Int) (v4 : List Int) (v5 : Int) (v6 v7 v8 : List Int) (v9 va vb vc : Int) (vd : List Int) (ve : Int) (vf vg vh : List Int) (K0 : Bool → Option R) : Option R :=
 sel (decide (v1 = va))
 (sel (decide (v2 = vb))
 (sel (decide (v3 = vc))
 (slices_Equal_uint64_uint64 v4 vd
 (fun vi => rrr_same_j3 vi v0 v1 v2 v3 v4 v5 v6 v7 v8 v9 va vb vc vd ve vf vg vh
 (fun vj => K0 vj)))
 (rrr_same_j3 false v0 v1 v2 v3 v4 v5 v6 v7 v8 v9 va vb vc vd ve vf vg vh
 (fun vk => K0 vk)))
 (rrr_same_j3 false v0 v1 v2 v3 v4 v5 v6 v7 v8 v9 va vb vc vd ve vf vg vh
 (fun vl => K0 vl)))
 (rrr_same_j3 false v0 v1 v2 v3 v4 v5 v6 v7 v8 v9 va vb vc vd ve vf vg vh
 (fun vm => K0 vm))
noncomputable def rrr_same {R : Type} := shut (@rrr_same_B R)
theorem rrr_same_unf {R : Type} : @rrr_same R = @rrr_same_B R := shut_eq _

noncomputable def rrr_whole_B {R : Type} (v0 v1 v2 v3 : Int) (v4 : List Int) (v5 : Int) (v6 v7 v8 : List Int) (K0 : Int → List Int → Bool → Option R) : Option R :=
 rrr_row v0 v1 v2 v3 v4 v5 v6 v7 v8
 (fun v9 va vb => sel (!vb)
 (K0 0 [] false)
 (rrr_Build v9 va
 (fun vc vd ve vf vg vh vi vj vk _ => rrr_same v0 v1 v2 v3 v4 v5 v6 v7 v8 vc vd ve vf vg vh vi vj vk
 (fun vm => sel (!vm)
 (K0 0 [] false)
 (K0 v9 va true)))))
noncomputable def rrr_whole {R : Type} := shut (@rrr_whole_B R)
theorem rrr_whole_unf {R : Type} : @rrr_whole R = @rrr_whole_B R := shut_eq _

noncomputable def rrr_Check_B {R : Type} (v0 v1 v2 v3 : Int) (v4 : List Int) (v5 : Int) (v6 v7 v8 : List Int) (K0 : Bool → Option R) : Option R :=
 rrr_whole v0 v1 v2 v3 v4 v5 v6 v7 v8
 (fun _ _ vb => K0 vb)
noncomputable def rrr_Check {R : Type} := shut (@rrr_Check_B R)
theorem rrr_Check_unf {R : Type} : @rrr_Check R = @rrr_Check_B R := shut_eq _

noncomputable def ints_has_j5_B {R : Type} (v0 : Bool) (K0 : Int → Option R) (K1 : Unit → Option R) : Option R :=
 sel v0
 (K0 3)
 (K1 ())
noncomputable def ints_has_j5 {R : Type} := shut (@ints_has_j5_B R)
theorem ints_has_j5_unf {R : Type} : @ints_has_j5 R = @ints_has_j5_B R := shut_eq _

noncomputable def ints_has_B {R : Type} (v0 v1 v2 : Int) (v3 : List Int) (v4 : Int) (K0 : Int → Option R) (K1 : Unit → Option R) : Option R :=
 ints_Check v0 v1 v2 v3
 (fun v5 => sel (!v5)
 (K0 2)
 (sel (decide (v4 < 0))
 (ints_has_j5 true
 (fun v6 => K0 v6)
 (fun _ => K1 ()))
 (ints_has_j5 (decide (v0 ≤ v4))
 (fun v7 => K0 v7)
 (fun _ => K1 ()))))
noncomputable def ints_has {R : Type} := shut (@ints_has_B R)
theorem ints_has_unf {R : Type} : @ints_has R = @ints_has_B R := shut_eq _

noncomputable def ints_Get_B {R : Type} (v0 v1 v2 : Int) (v3 : List Int) (v4 : Int) (K0 : Int → Int → Option R) : Option R :=
 ints_has v0 v1 v2 v3 v4
 (fun v5 => K0 0 v5)
 (fun _ => bits_Slice v2 v3 (mulW .i64 v4 v1) v1
 (fun v6 v7 => K0 v6 v7))
noncomputable def ints_Get {R : Type} := shut (@ints_Get_B R)
theorem ints_Get_unf {R : Type} : @ints_Get R = @ints_Get_B R := shut_eq _

noncomputable def rrr_get_B {R : Type} (_v0 v1 v2 v3 : Int) (v4 : List Int) (v5 : Int) (v6 _v7 _v8 : List Int) (v9 va : Int) (K0 : Int → Int → Option R) : Option R :=
 ints_Get v1 v2 v3 v4 v9
 (fun vb _ => binom_Width 15 (cvtW .i64 vb)
 (fun vd => bits_Slice v5 v6 va vd
 (fun ve _ => binom_Block 15 (cvtW .i64 vb) ve
 (fun vg _ => K0 vg vd))))
noncomputable def rrr_get {R : Type} := shut (@rrr_get_B R)
theorem rrr_get_unf {R : Type} : @rrr_get R = @rrr_get_B R := shut_eq _

noncomputable def word_Rank_B {R : Type} (v0 v1 : Int) (K0 : Int → Option R) : Option R :=
 word_Mask v1
 (fun v2 => word_Pop (andW .u64 v0 v2)
 (fun v3 => K0 v3))
noncomputable def word_Rank {R : Type} := shut (@word_Rank_B R)
theorem word_Rank_unf {R : Type} : @word_Rank R = @word_Rank_B R := shut_eq _

noncomputable def rrr_ones_1_r_B {R : Type} (v0 v1 v2 v3 _v4 : Int) (K0 : Bool → Int → Int → Option R) : Option R :=
 word_Rank v1 (subW .i64 v3 (mulW .i64 v0 15))
 (fun v5 => K0 (decide (mulW .i64 (addW .i64 v0 1) 15 < v3)) v3 (addW .i64 v2 v5))
noncomputable def rrr_ones_1_r {R : Type} := shut (@rrr_ones_1_r_B R)
theorem rrr_ones_1_r_unf {R : Type} : @rrr_ones_1_r R = @rrr_ones_1_r_B R := shut_eq _

noncomputable def rrr_walk_l5_T {R : Type} (rec : Int → Int → Int → Int → Int → Int → Int → Int → Int → List Int → Int → List Int → List Int → List Int → Option R) (v0 v1 v2 v3 v4 v5 v6 v7 v8 : Int) (v9 : List Int) (va : Int) (vb vc vd : List Int) (K0 : Int → Int → Option R) (K1 : Int → Int → Option R) : Option R :=
 sel (decide (v2 < v6))
 (rrr_get v5 v6 v7 v8 v9 va vb vc vd v2 v1
 (fun ve vf => rrr_ones_1_r v2 ve v0 v3 v4
 (fun vg vh vi => sel (!vg)
 (K0 vh vi)
 (word_Pop ve
 (fun vj => rec (addW .i64 v0 vj) (addW .i64 v1 vf) (addW .i64 v2 1) vh vi v5 v6 v7 v8 v9 va vb vc vd)))))
 (K1 v3 v4)
noncomputable def rrr_walk_l5_L {R : Type} (K0 : Int → Int → Option R) (K1 : Int → Int → Option R) : Nat → Int → Int → Int → Int → Int → Int → Int → Int → Int → List Int → Int → List Int → List Int → List Int → Option R
 | 0, _, _, _, _, _, _, _, _, _, _, _, _, _, _ => none
 | N + 1, v0, v1, v2, v3, v4, v5, v6, v7, v8, v9, va, vb, vc, vd => rrr_walk_l5_T (rrr_walk_l5_L K0 K1 N) v0 v1 v2 v3 v4 v5 v6 v7 v8 v9 va vb vc vd K0 K1
noncomputable def rrr_walk_l5_B {R : Type} (v0 v1 v2 v3 v4 v5 v6 v7 v8 : Int) (v9 : List Int) (va : Int) (vb vc vd : List Int) (K0 : Int → Int → Option R) (K1 : Int → Int → Option R) : Option R :=
 rrr_walk_l5_L K0 K1 NR v0 v1 v2 v3 v4 v5 v6 v7 v8 v9 va vb vc vd
noncomputable def rrr_walk_l5 {R : Type} := shut (@rrr_walk_l5_B R)
theorem rrr_walk_l5_unf {R : Type} : @rrr_walk_l5 R = @rrr_walk_l5_B R := shut_eq _

noncomputable def rrr_walk_r_B {R : Type} (v0 v1 v2 v3 : Int) (v4 : List Int) (v5 : Int) (v6 v7 v8 : List Int) (v9 va vb : Int) (K0 : Int → Int → Option R) : Option R :=
 sel (decide (0 ≤ quoW .i64 v9 8))
 (sel (decide (quoW .i64 v9 8 < (↑(List.length v7) : Int)))
 (sel (decide (0 ≤ quoW .i64 v9 8))
 (sel (decide (quoW .i64 v9 8 < (↑(List.length v8) : Int)))
 (rrr_walk_l5 (List.getD v7 (Int.toNat (quoW .i64 v9 8)) 0) (List.getD v8 (Int.toNat (quoW .i64 v9 8)) 0) (mulW .i64 (quoW .i64 v9 8) 8) va vb v0 v1 v2 v3 v4 v5 v6 v7 v8
 (fun vc vd => K0 vc vd)
 (fun ve vf => K0 ve vf))
 (none))
 (none))
 (none))
 (none)
noncomputable def rrr_walk_r {R : Type} := shut (@rrr_walk_r_B R)
theorem rrr_walk_r_unf {R : Type} : @rrr_walk_r R = @rrr_walk_r_B R := shut_eq _

noncomputable def rrr_ones_B {R : Type} (v0 v1 v2 v3 : Int) (v4 : List Int) (v5 : Int) (v6 v7 v8 : List Int) (v9 : Int) (K0 : Int → Option R) : Option R :=
 sel (decide (v9 = 0))
 (K0 0)
 (rrr_walk_r v0 v1 v2 v3 v4 v5 v6 v7 v8 (quoW .i64 (subW .i64 v9 1) 15) v9 0
 (fun _ vb => K0 vb))
noncomputable def rrr_ones {R : Type} := shut (@rrr_ones_B R)
theorem rrr_ones_unf {R : Type} : @rrr_ones R = @rrr_ones_B R := shut_eq _

noncomputable def rrr_Access_j6_B {R : Type} (v0 v1 v2 v3 v4 : Int) (v5 : List Int) (v6 : Int) (v7 v8 v9 : List Int) (K0 : Bool → Int → Option R) : Option R :=
 rrr_ones v1 v2 v3 v4 v5 v6 v7 v8 v9 (addW .i64 v0 1)
 (fun va => rrr_ones v1 v2 v3 v4 v5 v6 v7 v8 v9 v0
 (fun vb => K0 (decide (vb < va)) 0))
noncomputable def rrr_Access_j6 {R : Type} := shut (@rrr_Access_j6_B R)
theorem rrr_Access_j6_unf {R : Type} : @rrr_Access_j6 R = @rrr_Access_j6_B R := shut_eq _

noncomputable def rrr_Access_B {R : Type} (v0 v1 v2 v3 : Int) (v4 : List Int) (v5 : Int) (v6 v7 v8 : List Int) (v9 : Int) (K0 : Bool → Int → Option R) : Option R :=
 rrr_Check v0 v1 v2 v3 v4 v5 v6 v7 v8
 (fun va => sel (!va)
 (K0 false 2)
 (sel (decide (v9 < 0))
 (K0 false 3)
 (sel (decide (v0 ≤ v9))
 (K0 false 3)
 (rrr_Access_j6 v9 v0 v1 v2 v3 v4 v5 v6 v7 v8
 (fun vb vc => K0 vb vc)))))
noncomputable def rrr_Access {R : Type} := shut (@rrr_Access_B R)
theorem rrr_Access_unf {R : Type} : @rrr_Access R = @rrr_Access_B R := shut_eq _

noncomputable def rrr_ahead_B {R : Type} (v0 v1 v2 v3 : Int) (v4 : List Int) (v5 : Int) (v6 v7 v8 : List Int) (v9 : Bool) (va : Int) (K0 : Int → Option R) : Option R :=
 sel v9
 (rrr_ones v0 v1 v2 v3 v4 v5 v6 v7 v8 va
 (fun vb => K0 vb))
 (rrr_ones v0 v1 v2 v3 v4 v5 v6 v7 v8 va
 (fun vc => K0 (subW .i64 va vc)))
noncomputable def rrr_ahead {R : Type} := shut (@rrr_ahead_B R)
theorem rrr_ahead_unf {R : Type} : @rrr_ahead R = @rrr_ahead_B R := shut_eq _

noncomputable def rrr_Rank_j6_B {R : Type} (v0 : Bool) (v1 v2 v3 v4 v5 : Int) (v6 : List Int) (v7 : Int) (v8 v9 va : List Int) (K0 : Int → Int → Option R) : Option R :=
 rrr_ahead v2 v3 v4 v5 v6 v7 v8 v9 va v0 v1
 (fun vb => K0 vb 0)
noncomputable def rrr_Rank_j6 {R : Type} := shut (@rrr_Rank_j6_B R)
theorem rrr_Rank_j6_unf {R : Type} : @rrr_Rank_j6 R = @rrr_Rank_j6_B R := shut_eq _

noncomputable def rrr_Rank_B {R : Type} (v0 v1 v2 v3 : Int) (v4 : List Int) (v5 : Int) (v6 v7 v8 : List Int) (v9 : Bool) (va : Int) (K0 : Int → Int → Option R) : Option R :=
 rrr_Check v0 v1 v2 v3 v4 v5 v6 v7 v8
 (fun vb => sel (!vb)
 (K0 0 2)
 (sel (decide (va < 0))
 (K0 0 3)
 (sel (decide (v0 < va))
 (K0 0 3)
 (rrr_Rank_j6 v9 va v0 v1 v2 v3 v4 v5 v6 v7 v8
 (fun vc vd => K0 vc vd)))))
noncomputable def rrr_Rank {R : Type} := shut (@rrr_Rank_B R)
theorem rrr_Rank_unf {R : Type} : @rrr_Rank R = @rrr_Rank_B R := shut_eq _

noncomputable def rrr_Select_l7_T {R : Type} (rec : Int → Int → Int → Int → Int → List Int → Int → List Int → List Int → List Int → Bool → Int → Option R) (v0 v1 v2 v3 v4 : Int) (v5 : List Int) (v6 : Int) (v7 v8 v9 : List Int) (va : Bool) (vb : Int) (K0 : Int → Int → Int → Int → Int → List Int → Int → List Int → List Int → List Int → Bool → Int → Option R) : Option R :=
 sel (decide (addW .i64 v0 1 < (↑(List.length v8) : Int)))
 (rrr_ahead v1 v2 v3 v4 v5 v6 v7 v8 v9 va (mulW .i64 (mulW .i64 (addW .i64 v0 1) 8) 15)
 (fun vc => sel (decide (vc ≤ vb))
 (rec (addW .i64 v0 1) v1 v2 v3 v4 v5 v6 v7 v8 v9 va vb)
 (K0 v0 v1 v2 v3 v4 v5 v6 v7 v8 v9 va vb)))
 (K0 v0 v1 v2 v3 v4 v5 v6 v7 v8 v9 va vb)
noncomputable def rrr_Select_l7_L {R : Type} (K0 : Int → Int → Int → Int → Int → List Int → Int → List Int → List Int → List Int → Bool → Int → Option R) : Nat → Int → Int → Int → Int → Int → List Int → Int → List Int → List Int → List Int → Bool → Int → Option R
 | 0, _, _, _, _, _, _, _, _, _, _, _, _ => none
 | N + 1, v0, v1, v2, v3, v4, v5, v6, v7, v8, v9, va, vb => rrr_Select_l7_T (rrr_Select_l7_L K0 N) v0 v1 v2 v3 v4 v5 v6 v7 v8 v9 va vb K0
noncomputable def rrr_Select_l7_B {R : Type} (v0 v1 v2 v3 v4 : Int) (v5 : List Int) (v6 : Int) (v7 v8 v9 : List Int) (va : Bool) (vb : Int) (K0 : Int → Int → Int → Int → Int → List Int → Int → List Int → List Int → List Int → Bool → Int → Option R) : Option R :=
 rrr_Select_l7_L K0 NR v0 v1 v2 v3 v4 v5 v6 v7 v8 v9 va vb
noncomputable def rrr_Select_l7 {R : Type} := shut (@rrr_Select_l7_B R)
theorem rrr_Select_l7_unf {R : Type} : @rrr_Select_l7 R = @rrr_Select_l7_B R := shut_eq _

noncomputable def word_Select_l5_T {R : Type} (rec : Int → Int → Int → Option R) (v0 v1 v2 : Int) (K0 : Int → Option R) : Option R :=
 sel (decide (v2 < v1))
 (rec (andW .u64 v0 (subW .u64 v0 1)) v1 (addW .i64 v2 1))
 (K0 v0)
noncomputable def word_Select_l5_L {R : Type} (K0 : Int → Option R) : Nat → Int → Int → Int → Option R
 | 0, _, _, _ => none
 | N + 1, v0, v1, v2 => word_Select_l5_T (word_Select_l5_L K0 N) v0 v1 v2 K0
noncomputable def word_Select_l5_B {R : Type} (v0 v1 v2 : Int) (K0 : Int → Option R) : Option R :=
 word_Select_l5_L K0 NR v0 v1 v2
noncomputable def word_Select_l5 {R : Type} := shut (@word_Select_l5_B R)
theorem word_Select_l5_unf {R : Type} : @word_Select_l5 R = @word_Select_l5_B R := shut_eq _

noncomputable def math_bits_TrailingZeros64_B {R : Type} (v0 : Int) (K0 : Int → Option R) : Option R :=
 sel (decide (v0 = 0))
 (K0 64)
 (sel (decide (0 ≤ shrW .u64 (mulW .u64 (andW .u64 v0 (negW .u64 v0)) 285870213051353865) 58))
 (sel (decide (shrW .u64 (mulW .u64 (andW .u64 v0 (negW .u64 v0)) 285870213051353865) 58 < (↑64 : Int)))
 (K0 (cvtW .i64 (List.getD tzTab (Int.toNat (shrW .u64 (mulW .u64 (andW .u64 v0 (negW .u64 v0)) 285870213051353865) 58)) 0)))
 (none))
 (none))
noncomputable def math_bits_TrailingZeros64 {R : Type} := shut (@math_bits_TrailingZeros64_B R)
theorem math_bits_TrailingZeros64_unf {R : Type} : @math_bits_TrailingZeros64 R = @math_bits_TrailingZeros64_B R := shut_eq _

noncomputable def word_Select_j4_B {R : Type} (v0 v1 : Int) (K0 : Int → Option R) : Option R :=
 word_Select_l5 v0 v1 0
 (fun v2 => math_bits_TrailingZeros64 v2
 (fun v3 => K0 v3))
noncomputable def word_Select_j4 {R : Type} := shut (@word_Select_j4_B R)
theorem word_Select_j4_unf {R : Type} : @word_Select_j4 R = @word_Select_j4_B R := shut_eq _

noncomputable def word_Select_B {R : Type} (v0 v1 : Int) (K0 : Int → Option R) : Option R :=
 sel (decide (v1 < 0))
 (K0 64)
 (word_Pop v0
 (fun v2 => sel (decide (v2 ≤ v1))
 (K0 64)
 (word_Select_j4 v0 v1
 (fun v3 => K0 v3))))
noncomputable def word_Select {R : Type} := shut (@word_Select_B R)
theorem word_Select_unf {R : Type} : @word_Select R = @word_Select_B R := shut_eq _

noncomputable def rrr_Select_1_j4_B {R : Type} (v0 v1 v2 : Int) (v3 : Bool) (v4 _v5 : Int) (K0 : Bool → Bool → Int → Int → Option R) : Option R :=
 word_Select v1 (subW .i64 v4 v2)
 (fun v6 => word_Pop v1
 (fun v7 => K0 (decide (addW .i64 v2 v7 ≤ v4)) v3 v4 (addW .i64 (mulW .i64 v0 15) v6)))
noncomputable def rrr_Select_1_j4 {R : Type} := shut (@rrr_Select_1_j4_B R)
theorem rrr_Select_1_j4_unf {R : Type} : @rrr_Select_1_j4 R = @rrr_Select_1_j4_B R := shut_eq _

noncomputable def rrr_Select_1_r_B {R : Type} (v0 v1 v2 : Int) (v3 : Bool) (v4 v5 : Int) (K0 : Bool → Bool → Int → Int → Option R) : Option R :=
 sel (!v3)
 (word_Mask 15
 (fun v6 => rrr_Select_1_j4 v0 (andW .u64 (notW .u64 v1) v6) (subW .i64 (mulW .i64 v0 15) v2) v3 v4 v5
 (fun v7 v8 v9 va => K0 v7 v8 v9 va)))
 (rrr_Select_1_j4 v0 v1 v2 v3 v4 v5
 (fun vb vc vd ve => K0 vb vc vd ve))
noncomputable def rrr_Select_1_r {R : Type} := shut (@rrr_Select_1_r_B R)
theorem rrr_Select_1_r_unf {R : Type} : @rrr_Select_1_r R = @rrr_Select_1_r_B R := shut_eq _

noncomputable def rrr_walk_l5_1_T {R : Type} (rec : Int → Int → Int → Bool → Int → Int → Int → Int → Int → Int → List Int → Int → List Int → List Int → List Int → Option R) (v0 v1 v2 : Int) (v3 : Bool) (v4 v5 v6 v7 v8 v9 : Int) (va : List Int) (vb : Int) (vc vd ve : List Int) (K0 : Bool → Int → Int → Option R) (K1 : Bool → Int → Int → Option R) : Option R :=
 sel (decide (v2 < v7))
 (rrr_get v6 v7 v8 v9 va vb vc vd ve v2 v1
 (fun vf vg => rrr_Select_1_r v2 vf v0 v3 v4 v5
 (fun vh vi vj vk => sel (!vh)
 (K0 vi vj vk)
 (word_Pop vf
 (fun vl => rec (addW .i64 v0 vl) (addW .i64 v1 vg) (addW .i64 v2 1) vi vj vk v6 v7 v8 v9 va vb vc vd ve)))))
 (K1 v3 v4 v5)
noncomputable def rrr_walk_l5_1_L {R : Type} (K0 : Bool → Int → Int → Option R) (K1 : Bool → Int → Int → Option R) : Nat → Int → Int → Int → Bool → Int → Int → Int → Int → Int → Int → List Int → Int → List Int → List Int → List Int → Option R
 | 0, _, _, _, _, _, _, _, _, _, _, _, _, _, _, _ => none
 | N + 1, v0, v1, v2, v3, v4, v5, v6, v7, v8, v9, va, vb, vc, vd, ve => rrr_walk_l5_1_T (rrr_walk_l5_1_L K0 K1 N) v0 v1 v2 v3 v4 v5 v6 v7 v8 v9 va vb vc vd ve K0 K1
noncomputable def rrr_walk_l5_1_B {R : Type} (v0 v1 v2 : Int) (v3 : Bool) (v4 v5 v6 v7 v8 v9 : Int) (va : List Int) (vb : Int) (vc vd ve : List Int) (K0 : Bool → Int → Int → Option R) (K1 : Bool → Int → Int → Option R) : Option R :=
 rrr_walk_l5_1_L K0 K1 NR v0 v1 v2 v3 v4 v5 v6 v7 v8 v9 va vb vc vd ve
noncomputable def rrr_walk_l5_1 {R : Type} := shut (@rrr_walk_l5_1_B R)
theorem rrr_walk_l5_1_unf {R : Type} : @rrr_walk_l5_1 R = @rrr_walk_l5_1_B R := shut_eq _

noncomputable def rrr_walk_r_1_B {R : Type} (v0 v1 v2 v3 : Int) (v4 : List Int) (v5 : Int) (v6 v7 v8 : List Int) (v9 : Int) (va : Bool) (vb vc : Int) (K0 : Bool → Int → Int → Option R) : Option R :=
 sel (decide (0 ≤ quoW .i64 v9 8))
 (sel (decide (quoW .i64 v9 8 < (↑(List.length v7) : Int)))
 (sel (decide (0 ≤ quoW .i64 v9 8))
 (sel (decide (quoW .i64 v9 8 < (↑(List.length v8) : Int)))
 (rrr_walk_l5_1 (List.getD v7 (Int.toNat (quoW .i64 v9 8)) 0) (List.getD v8 (Int.toNat (quoW .i64 v9 8)) 0) (mulW .i64 (quoW .i64 v9 8) 8) va vb vc v0 v1 v2 v3 v4 v5 v6 v7 v8
 (fun vd ve vf => K0 vd ve vf)
 (fun vg vh vi => K0 vg vh vi))
 (none))
 (none))
 (none))
 (none)
noncomputable def rrr_walk_r_1 {R : Type} := shut (@rrr_walk_r_1_B R)
theorem rrr_walk_r_1_unf {R : Type} : @rrr_walk_r_1 R = @rrr_walk_r_1_B R := shut_eq _

noncomputable def rrr_Select_j6_B {R : Type} (v0 v1 v2 v3 : Int) (v4 : List Int) (v5 : Int) (v6 v7 v8 : List Int) (v9 : Bool) (va : Int) (K0 : Int → Int → Option R) : Option R :=
 rrr_Select_l7 0 v0 v1 v2 v3 v4 v5 v6 v7 v8 v9 va
 (fun vb vc vd ve vf vg vh vi vj vk vl vm => rrr_walk_r_1 vc vd ve vf vg vh vi vj vk (mulW .i64 vb 8) vl vm 0
 (fun _ _ vp => K0 vp 0))
noncomputable def rrr_Select_j6 {R : Type} := shut (@rrr_Select_j6_B R)
theorem rrr_Select_j6_unf {R : Type} : @rrr_Select_j6 R = @rrr_Select_j6_B R := shut_eq _

noncomputable def rrr_Select_B {R : Type} (v0 v1 v2 v3 : Int) (v4 : List Int) (v5 : Int) (v6 v7 v8 : List Int) (v9 : Bool) (va : Int) (K0 : Int → Int → Option R) : Option R :=
 rrr_Check v0 v1 v2 v3 v4 v5 v6 v7 v8
 (fun vb => sel (!vb)
 (K0 0 2)
 (sel (decide (va < 0))
 (K0 0 3)
 (rrr_ahead v0 v1 v2 v3 v4 v5 v6 v7 v8 v9 v0
 (fun vc => sel (decide (vc ≤ va))
 (K0 0 3)
 (rrr_Select_j6 v0 v1 v2 v3 v4 v5 v6 v7 v8 v9 va
 (fun vd ve => K0 vd ve))))))
noncomputable def rrr_Select {R : Type} := shut (@rrr_Select_B R)
theorem rrr_Select_unf {R : Type} : @rrr_Select R = @rrr_Select_B R := shut_eq _

noncomputable def rrr_Size_B {R : Type} (v0 v1 v2 v3 : Int) (v4 : List Int) (v5 : Int) (v6 v7 v8 : List Int) (K0 : Int → Option R) : Option R :=
 rrr_Check v0 v1 v2 v3 v4 v5 v6 v7 v8
 (fun v9 => sel (!v9)
 (K0 0)
 (K0 (addW .i64 (addW .i64 v3 v5) (mulW .i64 64 (↑(List.length v7) : Int)))))
noncomputable def rrr_Size {R : Type} := shut (@rrr_Size_B R)
theorem rrr_Size_unf {R : Type} : @rrr_Size R = @rrr_Size_B R := shut_eq _

noncomputable def rrr_Bits_B {R : Type} (v0 v1 v2 v3 : Int) (v4 : List Int) (v5 : Int) (v6 v7 v8 : List Int) (K0 : Int → List Int → Option R) : Option R :=
 rrr_whole v0 v1 v2 v3 v4 v5 v6 v7 v8
 (fun v9 va _ => K0 v9 va)
noncomputable def rrr_Bits {R : Type} := shut (@rrr_Bits_B R)
theorem rrr_Bits_unf {R : Type} : @rrr_Bits R = @rrr_Bits_B R := shut_eq _

noncomputable def haystackref02_Same_l5_T {R : Type} (rec : Int → Int → List Int → Int → List Int → Option R) (v0 v1 : Int) (v2 : List Int) (v3 : Int) (v4 : List Int) (K0 : Bool → Option R) (K1 : Unit → Option R) : Option R :=
 sel (decide (v0 < (↑(List.length v2) : Int)))
 (sel (decide (0 ≤ v0))
 (sel (decide (v0 < (↑(List.length v2) : Int)))
 (sel (decide (0 ≤ v0))
 (sel (decide (v0 < (↑(List.length v4) : Int)))
 (sel (!decide (List.getD v2 (Int.toNat v0) 0 = List.getD v4 (Int.toNat v0) 0))
 (K0 false)
 (rec (addW .i64 v0 1) v1 v2 v3 v4))
 (none))
 (none))
 (none))
 (none))
 (K1 ())
noncomputable def haystackref02_Same_l5_L {R : Type} (K0 : Bool → Option R) (K1 : Unit → Option R) : Nat → Int → Int → List Int → Int → List Int → Option R
 | 0, _, _, _, _, _ => none
 | N + 1, v0, v1, v2, v3, v4 => haystackref02_Same_l5_T (haystackref02_Same_l5_L K0 K1 N) v0 v1 v2 v3 v4 K0 K1
noncomputable def haystackref02_Same_l5_B {R : Type} (v0 v1 : Int) (v2 : List Int) (v3 : Int) (v4 : List Int) (K0 : Bool → Option R) (K1 : Unit → Option R) : Option R :=
 haystackref02_Same_l5_L K0 K1 NR v0 v1 v2 v3 v4
noncomputable def haystackref02_Same_l5 {R : Type} := shut (@haystackref02_Same_l5_B R)
theorem haystackref02_Same_l5_unf {R : Type} : @haystackref02_Same_l5 R = @haystackref02_Same_l5_B R := shut_eq _

noncomputable def haystackref02_Same_j4_B {R : Type} (v0 : Int) (v1 : List Int) (v2 : Int) (v3 : List Int) (K0 : Bool → Option R) : Option R :=
 haystackref02_Same_l5 0 v0 v1 v2 v3
 (fun v4 => K0 v4)
 (fun _ => K0 true)
noncomputable def haystackref02_Same_j4 {R : Type} := shut (@haystackref02_Same_j4_B R)
theorem haystackref02_Same_j4_unf {R : Type} : @haystackref02_Same_j4 R = @haystackref02_Same_j4_B R := shut_eq _

noncomputable def haystackref02_Same_B {R : Type} (v0 : Int) (v1 : List Int) (v2 : Int) (v3 : List Int) (K0 : Bool → Option R) : Option R :=
 sel (!decide (v0 = v2))
 (K0 false)
 (sel (!decide ((↑(List.length v1) : Int) = (↑(List.length v3) : Int)))
 (K0 false)
 (haystackref02_Same_j4 v0 v1 v2 v3
 (fun v4 => K0 v4)))
noncomputable def haystackref02_Same {R : Type} := shut (@haystackref02_Same_B R)
theorem haystackref02_Same_unf {R : Type} : @haystackref02_Same R = @haystackref02_Same_B R := shut_eq _

noncomputable def haystacklaw08_heads_j4_B {R : Type} (v0 : Int) (v1 : Bool) (v2 v3 v4 v5 v6 : Int) (v7 : List Int) (v8 : Int) (v9 va vb : List Int) (K0 : Bool → Option R) : Option R :=
 rrr_Rank v3 v4 v5 v6 v7 v8 v9 va vb true 4
 (fun vc vd => rrr_Select v3 v4 v5 v6 v7 v8 v9 va vb true 2
 (fun ve vf => rrr_Select v3 v4 v5 v6 v7 v8 v9 va vb false 1
 (fun vg vh => rrr_Select v3 v4 v5 v6 v7 v8 v9 va vb true 3
 (fun _ vj => rrr_Build 1 []
 (fun _ _ _ _ _ _ _ _ _ vt => sel (decide (v0 = 0))
 (sel v1
 (sel (decide (v2 = 0))
 (sel (decide (vc = 2))
 (sel (decide (vd = 0))
 (sel (decide (ve = 4))
 (sel (decide (vf = 0))
 (sel (decide (vg = 3))
 (sel (decide (vh = 0))
 (sel (decide (vj = 3))
 (sel (decide (vt = 2))
 (rrr_Check v3 v4 v5 v6 v7 v8 v9 va vb
 (fun vu => sel vu
 (rrr_Size v3 v4 v5 v6 v7 v8 v9 va vb
 (fun vv => sel (decide (0 < vv))
 (rrr_Bits v3 v4 v5 v6 v7 v8 v9 va vb
 (fun vw vx => haystackref02_Same vw vx 5 ([22])
 (fun vy => K0 vy)))
 (none)))
 (none)))
 (none))
 (none))
 (none))
 (none))
 (none))
 (none))
 (none))
 (none))
 (none))
 (none))
 (none))))))
noncomputable def haystacklaw08_heads_j4 {R : Type} := shut (@haystacklaw08_heads_j4_B R)
theorem haystacklaw08_heads_j4_unf {R : Type} : @haystacklaw08_heads_j4 R = @haystacklaw08_heads_j4_B R := shut_eq _

noncomputable def haystacklaw08_heads_B {R : Type} (K0 : Bool → Option R) : Option R :=
 rrr_Build 5 ([22])
 (fun v0 v1 v2 v3 v4 v5 v6 v7 v8 v9 => rrr_Access v0 v1 v2 v3 v4 v5 v6 v7 v8 4
 (fun va vb => haystacklaw08_heads_j4 v9 va vb v0 v1 v2 v3 v4 v5 v6 v7 v8
 (fun vc => K0 vc)))
noncomputable def haystacklaw08_heads {R : Type} := shut (@haystacklaw08_heads_B R)
theorem haystacklaw08_heads_unf {R : Type} : @haystacklaw08_heads R = @haystacklaw08_heads_B R := shut_eq _

noncomputable def haystackref02_Words_B {R : Type} (v0 : Int) (K0 : Int → Option R) : Option R :=
 K0 (quoW .i64 (addW .i64 v0 63) 64)
noncomputable def haystackref02_Words {R : Type} := shut (@haystackref02_Words_B R)
theorem haystackref02_Words_unf {R : Type} : @haystackref02_Words R = @haystackref02_Words_B R := shut_eq _

noncomputable def haystackref01_Mask_j6_B {R : Type} (v0 v1 v2 : Int) (K0 : Int → Int → Int → Option R) : Option R :=
 sel (decide (0 ≤ cvtW .u64 v2))
 (K0 v0 (orW .u64 v1 (shlW .u64 1 (cvtW .u64 v2))) (addW .i64 v2 1))
 (none)
noncomputable def haystackref01_Mask_j6 {R : Type} := shut (@haystackref01_Mask_j6_B R)
theorem haystackref01_Mask_j6_unf {R : Type} : @haystackref01_Mask_j6 R = @haystackref01_Mask_j6_B R := shut_eq _

noncomputable def haystackref01_Mask_l4_T {R : Type} (rec : Int → Int → Int → Option R) (v0 v1 v2 : Int) (K0 : Int → Option R) : Option R :=
 sel (decide (v2 < 64))
 (sel (decide (v2 < v0))
 (haystackref01_Mask_j6 v0 v1 v2
 (fun v3 v4 v5 => rec v3 v4 v5))
 (K0 v1))
 (K0 v1)
noncomputable def haystackref01_Mask_l4_L {R : Type} (K0 : Int → Option R) : Nat → Int → Int → Int → Option R
 | 0, _, _, _ => none
 | N + 1, v0, v1, v2 => haystackref01_Mask_l4_T (haystackref01_Mask_l4_L K0 N) v0 v1 v2 K0
noncomputable def haystackref01_Mask_l4_B {R : Type} (v0 v1 v2 : Int) (K0 : Int → Option R) : Option R :=
 haystackref01_Mask_l4_L K0 NR v0 v1 v2
noncomputable def haystackref01_Mask_l4 {R : Type} := shut (@haystackref01_Mask_l4_B R)
theorem haystackref01_Mask_l4_unf {R : Type} : @haystackref01_Mask_l4 R = @haystackref01_Mask_l4_B R := shut_eq _

noncomputable def haystackref01_Mask_B {R : Type} (v0 : Int) (K0 : Int → Option R) : Option R :=
 haystackref01_Mask_l4 v0 0 0
 (fun v1 => K0 v1)
noncomputable def haystackref01_Mask {R : Type} := shut (@haystackref01_Mask_B R)
theorem haystackref01_Mask_unf {R : Type} : @haystackref01_Mask R = @haystackref01_Mask_B R := shut_eq _

noncomputable def haystackref02_Check_j4_B {R : Type} (v0 : Int) (v1 : List Int) (K0 : Bool → Option R) : Option R :=
 sel (decide (remW v0 64 = 0))
 (K0 true)
 (sel (decide (0 ≤ subW .i64 (↑(List.length v1) : Int) 1))
 (sel (decide (subW .i64 (↑(List.length v1) : Int) 1 < (↑(List.length v1) : Int)))
 (haystackref01_Mask (remW v0 64)
 (fun v2 => letV (decide (andNotW .u64 (List.getD v1 (Int.toNat (subW .i64 (↑(List.length v1) : Int) 1)) 0) v2 = 0)) (fun (v3 : Bool) =>
 K0 v3)))
 (none))
 (none))
noncomputable def haystackref02_Check_j4 {R : Type} := shut (@haystackref02_Check_j4_B R)
theorem haystackref02_Check_j4_unf {R : Type} : @haystackref02_Check_j4 R = @haystackref02_Check_j4_B R := shut_eq _

noncomputable def haystackref02_Check_B {R : Type} (v0 : Int) (v1 : List Int) (K0 : Bool → Option R) : Option R :=
 sel (decide (v0 < 0))
 (K0 false)
 (sel (decide (1048576 < v0))
 (K0 false)
 (haystackref02_Words v0
 (fun v2 => sel (!decide ((↑(List.length v1) : Int) = v2))
 (K0 false)
 (haystackref02_Check_j4 v0 v1
 (fun v3 => K0 v3)))))
noncomputable def haystackref02_Check {R : Type} := shut (@haystackref02_Check_B R)
theorem haystackref02_Check_unf {R : Type} : @haystackref02_Check R = @haystackref02_Check_B R := shut_eq _

noncomputable def haystackref02_At_B {R : Type} (_v0 : Int) (v1 : List Int) (v2 : Int) (K0 : Bool → Option R) : Option R :=
 sel (decide (0 ≤ quoW .i64 v2 64))
 (sel (decide (quoW .i64 v2 64 < (↑(List.length v1) : Int)))
 (sel (decide (0 ≤ cvtW .u64 (remW v2 64)))
 (letV (decide (remW (shrW .u64 (List.getD v1 (Int.toNat (quoW .i64 v2 64)) 0) (cvtW .u64 (remW v2 64))) 2 = 1)) (fun (v3 : Bool) =>
 K0 v3))
 (none))
 (none))
 (none)
noncomputable def haystackref02_At {R : Type} := shut (@haystackref02_At_B R)
theorem haystackref02_At_unf {R : Type} : @haystackref02_At R = @haystackref02_At_B R := shut_eq _

noncomputable def haystackref08_block_j6_B {R : Type} (v0 v1 v2 v3 : Int) (v4 : List Int) (K0 : Int → Int → Int → Int → List Int → Option R) : Option R :=
 haystackref02_At v3 v4 (addW .i64 v0 v2)
 (fun v5 => sel v5
 (sel (decide (0 ≤ cvtW .u64 v2))
 (K0 v0 (orW .u64 v1 (shlW .u64 1 (cvtW .u64 v2))) (addW .i64 v2 1) v3 v4)
 (none))
 (K0 v0 v1 (addW .i64 v2 1) v3 v4))
noncomputable def haystackref08_block_j6 {R : Type} := shut (@haystackref08_block_j6_B R)
theorem haystackref08_block_j6_unf {R : Type} : @haystackref08_block_j6 R = @haystackref08_block_j6_B R := shut_eq _

noncomputable def haystackref08_block_l4_T {R : Type} (rec : Int → Int → Int → Int → List Int → Option R) (v0 v1 v2 v3 : Int) (v4 : List Int) (K0 : Int → Option R) : Option R :=
 sel (decide (v2 < 15))
 (sel (decide (addW .i64 v0 v2 < v3))
 (haystackref08_block_j6 v0 v1 v2 v3 v4
 (fun v5 v6 v7 v8 v9 => rec v5 v6 v7 v8 v9))
 (K0 v1))
 (K0 v1)
noncomputable def haystackref08_block_l4_L {R : Type} (K0 : Int → Option R) : Nat → Int → Int → Int → Int → List Int → Option R
 | 0, _, _, _, _, _ => none
 | N + 1, v0, v1, v2, v3, v4 => haystackref08_block_l4_T (haystackref08_block_l4_L K0 N) v0 v1 v2 v3 v4 K0
noncomputable def haystackref08_block_l4_B {R : Type} (v0 v1 v2 v3 : Int) (v4 : List Int) (K0 : Int → Option R) : Option R :=
 haystackref08_block_l4_L K0 NR v0 v1 v2 v3 v4
noncomputable def haystackref08_block_l4 {R : Type} := shut (@haystackref08_block_l4_B R)
theorem haystackref08_block_l4_unf {R : Type} : @haystackref08_block_l4 R = @haystackref08_block_l4_B R := shut_eq _

noncomputable def haystackref08_block_B {R : Type} (v0 : Int) (v1 : List Int) (v2 : Int) (K0 : Int → Option R) : Option R :=
 haystackref08_block_l4 v2 0 0 v0 v1
 (fun v3 => K0 v3)
noncomputable def haystackref08_block {R : Type} := shut (@haystackref08_block_B R)
theorem haystackref08_block_unf {R : Type} : @haystackref08_block R = @haystackref08_block_B R := shut_eq _

noncomputable def haystackref01_Rank_j6_B {R : Type} (v0 v1 v2 v3 : Int) (K0 : Int → Int → Int → Int → Option R) : Option R :=
 sel (decide (0 ≤ cvtW .u64 v3))
 (sel (decide (remW (shrW .u64 v0 (cvtW .u64 v3)) 2 = 1))
 (K0 v0 v1 (addW .i64 v2 1) (addW .i64 v3 1))
 (K0 v0 v1 v2 (addW .i64 v3 1)))
 (none)
noncomputable def haystackref01_Rank_j6 {R : Type} := shut (@haystackref01_Rank_j6_B R)
theorem haystackref01_Rank_j6_unf {R : Type} : @haystackref01_Rank_j6 R = @haystackref01_Rank_j6_B R := shut_eq _

noncomputable def haystackref01_Rank_l4_T {R : Type} (rec : Int → Int → Int → Int → Option R) (v0 v1 v2 v3 : Int) (K0 : Int → Option R) : Option R :=
 sel (decide (v3 < 64))
 (sel (decide (v3 < v1))
 (haystackref01_Rank_j6 v0 v1 v2 v3
 (fun v4 v5 v6 v7 => rec v4 v5 v6 v7))
 (K0 v2))
 (K0 v2)
noncomputable def haystackref01_Rank_l4_L {R : Type} (K0 : Int → Option R) : Nat → Int → Int → Int → Int → Option R
 | 0, _, _, _, _ => none
 | N + 1, v0, v1, v2, v3 => haystackref01_Rank_l4_T (haystackref01_Rank_l4_L K0 N) v0 v1 v2 v3 K0
noncomputable def haystackref01_Rank_l4_B {R : Type} (v0 v1 v2 v3 : Int) (K0 : Int → Option R) : Option R :=
 haystackref01_Rank_l4_L K0 NR v0 v1 v2 v3
noncomputable def haystackref01_Rank_l4 {R : Type} := shut (@haystackref01_Rank_l4_B R)
theorem haystackref01_Rank_l4_unf {R : Type} : @haystackref01_Rank_l4 R = @haystackref01_Rank_l4_B R := shut_eq _

noncomputable def haystackref01_Rank_B {R : Type} (v0 v1 : Int) (K0 : Int → Option R) : Option R :=
 haystackref01_Rank_l4 v0 v1 0 0
 (fun v2 => K0 v2)
noncomputable def haystackref01_Rank {R : Type} := shut (@haystackref01_Rank_B R)
theorem haystackref01_Rank_unf {R : Type} : @haystackref01_Rank R = @haystackref01_Rank_B R := shut_eq _

noncomputable def haystackref06_Choose_l10_T {R : Type} (rec : Int → Int → Nat → Int → Int → List Int → Option R) (v0 v1 : Int) (v2 : Nat) (v3 v4 : Int) (v5 : List Int) (K0 : Int → Int → Nat → Int → List Int → Option R) : Option R :=
 sel (decide (0 < v4))
 (sel (decide (0 ≤ v4))
 (sel (decide (v4 < (↑v2 : Int)))
 (sel (decide (Int.toNat v4 < List.length v5))
 (sel (decide (0 ≤ subW .i64 v4 1))
 (sel (decide (subW .i64 v4 1 < (↑v2 : Int)))
 (sel (decide (Int.toNat (subW .i64 v4 1) < List.length v5))
 (sel (decide (0 ≤ v4))
 (sel (decide (v4 < (↑v2 : Int)))
 (sel (decide (Int.toNat v4 < List.length v5))
 (letV (List.set v5 (Int.toNat v4) (addW .u64 (List.getD v5 (Int.toNat v4) 0) (List.getD v5 (Int.toNat (subW .i64 v4 1)) 0))) (fun (v6 : List Int) =>
 rec v0 v1 v2 v3 (subW .i64 v4 1) v6))
 (none))
 (none))
 (none))
 (none))
 (none))
 (none))
 (none))
 (none))
 (none))
 (K0 v0 v1 v2 v3 v5)
noncomputable def haystackref06_Choose_l10_L {R : Type} (K0 : Int → Int → Nat → Int → List Int → Option R) : Nat → Int → Int → Nat → Int → Int → List Int → Option R
 | 0, _, _, _, _, _, _ => none
 | N + 1, v0, v1, v2, v3, v4, v5 => haystackref06_Choose_l10_T (haystackref06_Choose_l10_L K0 N) v0 v1 v2 v3 v4 v5 K0
noncomputable def haystackref06_Choose_l10_B {R : Type} (v0 v1 : Int) (v2 : Nat) (v3 v4 : Int) (v5 : List Int) (K0 : Int → Int → Nat → Int → List Int → Option R) : Option R :=
 haystackref06_Choose_l10_L K0 NR v0 v1 v2 v3 v4 v5
noncomputable def haystackref06_Choose_l10 {R : Type} := shut (@haystackref06_Choose_l10_B R)
theorem haystackref06_Choose_l10_unf {R : Type} : @haystackref06_Choose_l10 R = @haystackref06_Choose_l10_B R := shut_eq _

noncomputable def haystackref06_Choose_l7_T {R : Type} (rec : Int → Int → Nat → Int → List Int → Option R) (v0 v1 : Int) (v2 : Nat) (v3 : Int) (v4 : List Int) (K0 : Int → Nat → List Int → Option R) : Option R :=
 sel (decide (v3 ≤ v0))
 (haystackref06_Choose_l10 v0 v1 v2 v3 v3 v4
 (fun v5 v6 v7 v8 v9 => rec v5 v6 v7 (addW .i64 v8 1) v9))
 (K0 v1 v2 v4)
noncomputable def haystackref06_Choose_l7_L {R : Type} (K0 : Int → Nat → List Int → Option R) : Nat → Int → Int → Nat → Int → List Int → Option R
 | 0, _, _, _, _, _ => none
 | N + 1, v0, v1, v2, v3, v4 => haystackref06_Choose_l7_T (haystackref06_Choose_l7_L K0 N) v0 v1 v2 v3 v4 K0
noncomputable def haystackref06_Choose_l7_B {R : Type} (v0 v1 : Int) (v2 : Nat) (v3 : Int) (v4 : List Int) (K0 : Int → Nat → List Int → Option R) : Option R :=
 haystackref06_Choose_l7_L K0 NR v0 v1 v2 v3 v4
noncomputable def haystackref06_Choose_l7 {R : Type} := shut (@haystackref06_Choose_l7_B R)
theorem haystackref06_Choose_l7_unf {R : Type} : @haystackref06_Choose_l7 R = @haystackref06_Choose_l7_B R := shut_eq _

noncomputable def haystackref06_Choose_j4_B {R : Type} (v0 v1 : Int) (K0 : Int → Option R) : Option R :=
 sel (decide (0 ≤ addW .i64 v0 1))
 (sel (decide (addW .i64 v0 1 ≤ addW .i64 v0 1))
 (sel (decide (addW .i64 v0 1 ≤ 281474976710656))
 (sel (decide ((↑8 : Int) * addW .i64 v0 1 ≤ 281474976710656))
 (letV (List.replicate (Int.toNat (addW .i64 v0 1)) 0) (fun (v2 : List Int) =>
 sel (decide (0 < (↑(Int.toNat (addW .i64 v0 1)) : Int)))
 (sel (decide (0 < List.length v2))
 (letV (List.set v2 0 1) (fun (v3 : List Int) =>
 haystackref06_Choose_l7 v0 v1 (Int.toNat (addW .i64 v0 1)) 1 v3
 (fun v4 v5 v6 => sel (decide (0 ≤ v4))
 (sel (decide (v4 < (↑v5 : Int)))
 (sel (decide (Int.toNat v4 < List.length v6))
 (K0 (List.getD v6 (Int.toNat v4) 0))
 (none))
 (none))
 (none))))
 (none))
 (none)))
 (none))
 (none))
 (none))
 (none)
noncomputable def haystackref06_Choose_j4 {R : Type} := shut (@haystackref06_Choose_j4_B R)
theorem haystackref06_Choose_j4_unf {R : Type} : @haystackref06_Choose_j4 R = @haystackref06_Choose_j4_B R := shut_eq _

noncomputable def haystackref06_Choose_B {R : Type} (v0 v1 : Int) (K0 : Int → Option R) : Option R :=
 sel (decide (v0 < 0))
 (K0 0)
 (sel (decide (62 < v0))
 (K0 0)
 (sel (decide (v1 < 0))
 (K0 0)
 (sel (decide (v0 < v1))
 (K0 0)
 (haystackref06_Choose_j4 v0 v1
 (fun v2 => K0 v2)))))
noncomputable def haystackref06_Choose {R : Type} := shut (@haystackref06_Choose_B R)
theorem haystackref06_Choose_unf {R : Type} : @haystackref06_Choose R = @haystackref06_Choose_B R := shut_eq _

noncomputable def haystackref06_Offset_l8_T {R : Type} (rec : Int → Int → Int → Int → Int → Option R) (v0 v1 v2 v3 v4 : Int) (K0 : Int → Int → Option R) : Option R :=
 sel (decide (0 ≤ v4))
 (sel (decide (0 ≤ cvtW .u64 v4))
 (sel (decide (remW (shrW .u64 v0 (cvtW .u64 v4)) 2 = 1))
 (haystackref06_Choose v4 v3
 (fun v5 => rec v0 v1 (addW .u64 v2 v5) (subW .i64 v3 1) (subW .i64 v4 1)))
 (rec v0 v1 v2 v3 (subW .i64 v4 1)))
 (none))
 (K0 v1 v2)
noncomputable def haystackref06_Offset_l8_L {R : Type} (K0 : Int → Int → Option R) : Nat → Int → Int → Int → Int → Int → Option R
 | 0, _, _, _, _, _ => none
 | N + 1, v0, v1, v2, v3, v4 => haystackref06_Offset_l8_T (haystackref06_Offset_l8_L K0 N) v0 v1 v2 v3 v4 K0
noncomputable def haystackref06_Offset_l8_B {R : Type} (v0 v1 v2 v3 v4 : Int) (K0 : Int → Int → Option R) : Option R :=
 haystackref06_Offset_l8_L K0 NR v0 v1 v2 v3 v4
noncomputable def haystackref06_Offset_l8 {R : Type} := shut (@haystackref06_Offset_l8_B R)
theorem haystackref06_Offset_l8_unf {R : Type} : @haystackref06_Offset_l8 R = @haystackref06_Offset_l8_B R := shut_eq _

noncomputable def haystackref06_Offset_j4_B {R : Type} (v0 v1 : Int) (K0 : Int → Int → Option R) : Option R :=
 haystackref01_Rank v0 v1
 (fun v2 => haystackref06_Offset_l8 v0 v2 0 v2 (subW .i64 v1 1)
 (fun v3 v4 => K0 v3 v4))
noncomputable def haystackref06_Offset_j4 {R : Type} := shut (@haystackref06_Offset_j4_B R)
theorem haystackref06_Offset_j4_unf {R : Type} : @haystackref06_Offset_j4 R = @haystackref06_Offset_j4_B R := shut_eq _

noncomputable def haystackref06_Offset_B {R : Type} (v0 v1 : Int) (K0 : Int → Int → Option R) : Option R :=
 sel (decide (v1 < 0))
 (K0 0 0)
 (sel (decide (62 < v1))
 (K0 0 0)
 (haystackref06_Offset_j4 v0 v1
 (fun v2 v3 => K0 v2 v3)))
noncomputable def haystackref06_Offset {R : Type} := shut (@haystackref06_Offset_B R)
theorem haystackref06_Offset_unf {R : Type} : @haystackref06_Offset R = @haystackref06_Offset_B R := shut_eq _

noncomputable def haystackref01_Len_l3_T {R : Type} (rec : Int → Int → Option R) (v0 v1 : Int) (K0 : Int → Option R) (K1 : Unit → Option R) : Option R :=
 sel (decide (0 < v1))
 (sel (decide (0 ≤ cvtW .u64 (subW .i64 v1 1)))
 (sel (decide (remW (shrW .u64 v0 (cvtW .u64 (subW .i64 v1 1))) 2 = 1))
 (K0 v1)
 (rec v0 (subW .i64 v1 1)))
 (none))
 (K1 ())
noncomputable def haystackref01_Len_l3_L {R : Type} (K0 : Int → Option R) (K1 : Unit → Option R) : Nat → Int → Int → Option R
 | 0, _, _ => none
 | N + 1, v0, v1 => haystackref01_Len_l3_T (haystackref01_Len_l3_L K0 K1 N) v0 v1 K0 K1
noncomputable def haystackref01_Len_l3_B {R : Type} (v0 v1 : Int) (K0 : Int → Option R) (K1 : Unit → Option R) : Option R :=
 haystackref01_Len_l3_L K0 K1 NR v0 v1
noncomputable def haystackref01_Len_l3 {R : Type} := shut (@haystackref01_Len_l3_B R)
theorem haystackref01_Len_l3_unf {R : Type} : @haystackref01_Len_l3 R = @haystackref01_Len_l3_B R := shut_eq _

noncomputable def haystackref01_Len_B {R : Type} (v0 : Int) (K0 : Int → Option R) : Option R :=
 haystackref01_Len_l3 v0 64
 (fun v1 => K0 v1)
 (fun _ => K0 0)
noncomputable def haystackref01_Len {R : Type} := shut (@haystackref01_Len_B R)
theorem haystackref01_Len_unf {R : Type} : @haystackref01_Len R = @haystackref01_Len_B R := shut_eq _

noncomputable def haystackref06_Width_B {R : Type} (v0 v1 : Int) (K0 : Int → Option R) : Option R :=
 haystackref06_Choose v0 v1
 (fun v2 => sel (decide (v2 = 0))
 (K0 0)
 (haystackref01_Len (subW .u64 v2 1)
 (fun v3 => K0 v3)))
noncomputable def haystackref06_Width {R : Type} := shut (@haystackref06_Width_B R)
theorem haystackref06_Width_unf {R : Type} : @haystackref06_Width R = @haystackref06_Width_B R := shut_eq _

noncomputable def haystackref08_low_l4_T {R : Type} (rec : Int → Int → Nat → Int → List Bool → Option R) (v0 v1 : Int) (v2 : Nat) (v3 : Int) (v4 : List Bool) (K0 : Nat → List Bool → Option R) : Option R :=
 sel (decide (v3 < v1))
 (sel (decide (0 ≤ cvtW .u64 v3))
 (sel (decide (List.length v4 = v2))
 (sel (decide ((v2 + 1) * 1 ≤ 140737488355328))
 (letV (v4 ++ [decide (remW (shrW .u64 v0 (cvtW .u64 v3)) 2 = 1)]) (fun (v5 : List Bool) =>
 rec v0 v1 (v2 + 1) (addW .i64 v3 1) v5))
 (none))
 (none))
 (none))
 (K0 v2 v4)
noncomputable def haystackref08_low_l4_L {R : Type} (K0 : Nat → List Bool → Option R) : Nat → Int → Int → Nat → Int → List Bool → Option R
 | 0, _, _, _, _, _ => none
 | N + 1, v0, v1, v2, v3, v4 => haystackref08_low_l4_T (haystackref08_low_l4_L K0 N) v0 v1 v2 v3 v4 K0
noncomputable def haystackref08_low_l4_B {R : Type} (v0 v1 : Int) (v2 : Nat) (v3 : Int) (v4 : List Bool) (K0 : Nat → List Bool → Option R) : Option R :=
 haystackref08_low_l4_L K0 NR v0 v1 v2 v3 v4
noncomputable def haystackref08_low_l4 {R : Type} := shut (@haystackref08_low_l4_B R)
theorem haystackref08_low_l4_unf {R : Type} : @haystackref08_low_l4 R = @haystackref08_low_l4_B R := shut_eq _

noncomputable def haystackref08_low_B {R : Type} (v0 v1 : Int) (K0 : List Bool → Option R) : Option R :=
 haystackref08_low_l4 v0 v1 0 0 []
 (fun v2 v3 => sel (decide (v2 = List.length v3))
 (K0 v3)
 (none))
noncomputable def haystackref08_low {R : Type} := shut (@haystackref08_low_B R)
theorem haystackref08_low_unf {R : Type} : @haystackref08_low R = @haystackref08_low_B R := shut_eq _

noncomputable def haystackref08_Build_j13_B {R : Type} (v0 v1 : Nat) (v2 v3 v4 : Int) (v5 : List Int) (v6 v7 v8 v9 va vb vc vd ve vf : Int) (vg vh : Nat) (vi vj vk : List Int) (vl : List Bool) (K0 : Nat → Nat → Int → Int → Int → List Int → Int → Int → Int → Int → Int → Int → Int → Int → Int → Int → Nat → Nat → List Int → List Int → List Int → List Bool → Option R) : Option R :=
 sel (decide (mulW .i64 v3 15 < v4))
 (haystackref08_block v4 v5 (mulW .i64 v3 15)
 (fun vm => haystackref06_Offset vm 15
 (fun vn vo => sel (decide (List.length vk = v0))
 (sel (decide ((v0 + 1) * 8 ≤ 140737488355328))
 (letV (vk ++ [cvtW .u64 vn]) (fun (vp : List Int) =>
 haystackref06_Width 15 vn
 (fun vq => haystackref08_low vo vq
 (fun vr => sel (decide (List.length vl = v1))
 (sel (decide ((v1 + List.length vr) * 1 ≤ 140737488355328))
 (letV (vl ++ vr) (fun (vs : List Bool) =>
 K0 (v0 + 1) (v1 + List.length vr) (addW .i64 v2 vn) v3 v4 v5 v6 v7 v8 v9 va vb vc vd ve vf vg vh vi vj vp vs))
 (none))
 (none)))))
 (none))
 (none))))
 (K0 v0 v1 v2 v3 v4 v5 v6 v7 v8 v9 va vb vc vd ve vf vg vh vi vj vk vl)
noncomputable def haystackref08_Build_j13 {R : Type} := shut (@haystackref08_Build_j13_B R)
theorem haystackref08_Build_j13_unf {R : Type} : @haystackref08_Build_j13 R = @haystackref08_Build_j13_B R := shut_eq _

noncomputable def haystackref08_Build_j11_B {R : Type} (v0 v1 : Nat) (v2 v3 v4 : Int) (v5 : List Int) (v6 v7 v8 v9 va vb vc vd ve vf : Int) (vg vh : Nat) (vi vj vk : List Int) (vl : List Bool) (K0 : Nat → Nat → Int → Int → Int → List Int → Int → Int → Int → Int → Int → Int → Int → Int → Int → Int → Nat → Nat → List Int → List Int → List Int → List Bool → Option R) : Option R :=
 sel (decide (remW v3 8 = 0))
 (sel (decide (List.length vi = vg))
 (sel (decide ((vg + 1) * 8 ≤ 140737488355328))
 (letV (vi ++ [v2]) (fun (vm : List Int) =>
 sel (decide (List.length vj = vh))
 (sel (decide ((vh + 1) * 8 ≤ 140737488355328))
 (letV (vj ++ [(↑v1 : Int)]) (fun (vn : List Int) =>
 haystackref08_Build_j13 v0 v1 v2 v3 v4 v5 v6 v7 v8 v9 va vb vc vd ve vf (vg + 1) (vh + 1) vm vn vk vl
 (fun vo vp vq vr vs vt vu vv vw vx vy vz v10 v11 v12 v13 v14 v15 v16 v17 v18 v19 => K0 vo vp vq (addW .i64 vr 1) vs vt vu vv vw vx vy vz v10 v11 v12 v13 v14 v15 v16 v17 v18 v19)))
 (none))
 (none)))
 (none))
 (none))
 (haystackref08_Build_j13 v0 v1 v2 v3 v4 v5 v6 v7 v8 v9 va vb vc vd ve vf vg vh vi vj vk vl
 (fun v1a v1b v1c v1d v1e v1f v1g v1h v1i v1j v1k v1l v1m v1n v1o v1p v1q v1r v1s v1t v1u v1v => K0 v1a v1b v1c (addW .i64 v1d 1) v1e v1f v1g v1h v1i v1j v1k v1l v1m v1n v1o v1p v1q v1r v1s v1t v1u v1v))
noncomputable def haystackref08_Build_j11 {R : Type} := shut (@haystackref08_Build_j11_B R)
theorem haystackref08_Build_j11_unf {R : Type} : @haystackref08_Build_j11 R = @haystackref08_Build_j11_B R := shut_eq _

noncomputable def haystackref08_Build_l9_T {R : Type} (rec : Nat → Nat → Int → Int → Int → List Int → Int → Int → Int → Int → Int → Int → Int → Int → Int → Int → Nat → Nat → List Int → List Int → List Int → List Bool → Option R) (v0 v1 : Nat) (v2 v3 v4 : Int) (v5 : List Int) (v6 v7 v8 v9 va vb vc vd ve vf : Int) (vg vh : Nat) (vi vj vk : List Int) (vl : List Bool) (K0 : Nat → Nat → Int → Int → Int → Int → Int → Int → Int → Int → Int → Int → Nat → Nat → List Int → List Int → List Int → List Bool → Option R) : Option R :=
 sel (decide (v3 = 0))
 (haystackref08_Build_j11 v0 v1 v2 v3 v4 v5 v6 v7 v8 v9 va vb vc vd ve vf vg vh vi vj vk vl
 rec)
 (sel (decide (mulW .i64 v3 15 < v4))
 (haystackref08_Build_j11 v0 v1 v2 v3 v4 v5 v6 v7 v8 v9 va vb vc vd ve vf vg vh vi vj vk vl
 rec)
 (K0 v0 v1 v6 v7 v8 v9 va vb vc vd ve vf vg vh vi vj vk vl))
noncomputable def haystackref08_Build_l9_L {R : Type} (K0 : Nat → Nat → Int → Int → Int → Int → Int → Int → Int → Int → Int → Int → Nat → Nat → List Int → List Int → List Int → List Bool → Option R) : Nat → Nat → Nat → Int → Int → Int → List Int → Int → Int → Int → Int → Int → Int → Int → Int → Int → Int → Nat → Nat → List Int → List Int → List Int → List Bool → Option R
 | 0, _, _, _, _, _, _, _, _, _, _, _, _, _, _, _, _, _, _, _, _, _, _ => none
 | N + 1, v0, v1, v2, v3, v4, v5, v6, v7, v8, v9, va, vb, vc, vd, ve, vf, vg, vh, vi, vj, vk, vl => haystackref08_Build_l9_T (haystackref08_Build_l9_L K0 N) v0 v1 v2 v3 v4 v5 v6 v7 v8 v9 va vb vc vd ve vf vg vh vi vj vk vl K0
noncomputable def haystackref08_Build_l9_B {R : Type} (v0 v1 : Nat) (v2 v3 v4 : Int) (v5 : List Int) (v6 v7 v8 v9 va vb vc vd ve vf : Int) (vg vh : Nat) (vi vj vk : List Int) (vl : List Bool) (K0 : Nat → Nat → Int → Int → Int → Int → Int → Int → Int → Int → Int → Int → Nat → Nat → List Int → List Int → List Int → List Bool → Option R) : Option R :=
 haystackref08_Build_l9_L K0 NR v0 v1 v2 v3 v4 v5 v6 v7 v8 v9 va vb vc vd ve vf vg vh vi vj vk vl
noncomputable def haystackref08_Build_l9 {R : Type} := shut (@haystackref08_Build_l9_B R)
theorem haystackref08_Build_l9_unf {R : Type} : @haystackref08_Build_l9 R = @haystackref08_Build_l9_B R := shut_eq _

noncomputable def haystackref03_fits_B {R : Type} (v0 v1 : Int) (K0 : Bool → Option R) : Option R :=
 haystackref01_Len v0
 (fun v2 => K0 (decide (v2 ≤ v1)))
noncomputable def haystackref03_fits {R : Type} := shut (@haystackref03_fits_B R)
theorem haystackref03_fits_unf {R : Type} : @haystackref03_fits R = @haystackref03_fits_B R := shut_eq _

noncomputable def haystackref03_Make_j3_B {R : Type} (v0 : Int) (v1 : List Int) (v2 : Bool) (v3 v4 v5 : Int) (K0 : Int → Int → Int → Int → Option R) (K1 : Int → List Int → Int → Int → Int → Option R) : Option R :=
 sel v2
 (K0 2 0 0 0)
 (K1 v0 v1 v3 v4 v5)
noncomputable def haystackref03_Make_j3 {R : Type} := shut (@haystackref03_Make_j3_B R)
theorem haystackref03_Make_j3_unf {R : Type} : @haystackref03_Make_j3 R = @haystackref03_Make_j3_B R := shut_eq _

noncomputable def haystackref03_Make_l11_T {R : Type} (rec : Int → List Int → Nat → Int → Int → Int → Int → Int → List Bool → Option R) (v0 : Int) (v1 : List Int) (v2 : Nat) (v3 v4 v5 v6 v7 : Int) (v8 : List Bool) (K0 : Int → List Int → Nat → Int → Int → Int → Int → List Bool → Option R) : Option R :=
 sel (decide (v4 < v0))
 (sel (decide (0 ≤ v3))
 (sel (decide (v3 < (↑(List.length v1) : Int)))
 (sel (decide (0 ≤ cvtW .u64 v4))
 (letV (decide (remW (shrW .u64 (List.getD v1 (Int.toNat v3) 0) (cvtW .u64 v4)) 2 = 1)) (fun (v9 : Bool) =>
 sel (decide (List.length v8 = v2))
 (sel (decide ((v2 + 1) * 1 ≤ 140737488355328))
 (letV (v8 ++ [v9]) (fun (va : List Bool) =>
 rec v0 v1 (v2 + 1) v3 (addW .i64 v4 1) v5 v6 v7 va))
 (none))
 (none)))
 (none))
 (none))
 (none))
 (K0 v0 v1 v2 v3 v5 v6 v7 v8)
noncomputable def haystackref03_Make_l11_L {R : Type} (K0 : Int → List Int → Nat → Int → Int → Int → Int → List Bool → Option R) : Nat → Int → List Int → Nat → Int → Int → Int → Int → Int → List Bool → Option R
 | 0, _, _, _, _, _, _, _, _, _ => none
 | N + 1, v0, v1, v2, v3, v4, v5, v6, v7, v8 => haystackref03_Make_l11_T (haystackref03_Make_l11_L K0 N) v0 v1 v2 v3 v4 v5 v6 v7 v8 K0
noncomputable def haystackref03_Make_l11_B {R : Type} (v0 : Int) (v1 : List Int) (v2 : Nat) (v3 v4 v5 v6 v7 : Int) (v8 : List Bool) (K0 : Int → List Int → Nat → Int → Int → Int → Int → List Bool → Option R) : Option R :=
 haystackref03_Make_l11_L K0 NR v0 v1 v2 v3 v4 v5 v6 v7 v8
noncomputable def haystackref03_Make_l11 {R : Type} := shut (@haystackref03_Make_l11_B R)
theorem haystackref03_Make_l11_unf {R : Type} : @haystackref03_Make_l11 R = @haystackref03_Make_l11_B R := shut_eq _

noncomputable def haystackref03_Make_l6_T {R : Type} (rec : Int → List Int → Nat → Int → Int → Int → Int → List Bool → Option R) (v0 : Int) (v1 : List Int) (v2 : Nat) (v3 v4 v5 v6 : Int) (v7 : List Bool) (K0 : Int → Int → Int → Int → Option R) (K1 : Int → List Int → Nat → Int → Int → Int → List Bool → Option R) : Option R :=
 sel (decide (v3 < (↑(List.length v1) : Int)))
 (sel (decide (0 ≤ v3))
 (sel (decide (v3 < (↑(List.length v1) : Int)))
 (haystackref03_fits (List.getD v1 (Int.toNat v3) 0) v0
 (fun v8 => sel (!v8)
 (K0 2 0 0 0)
 (haystackref03_Make_l11 v0 v1 v2 v3 0 v4 v5 v6 v7
 (fun v9 va vb vc vd ve vf vg => rec v9 va vb (addW .i64 vc 1) vd ve vf vg))))
 (none))
 (none))
 (K1 v0 v1 v2 v4 v5 v6 v7)
noncomputable def haystackref03_Make_l6_L {R : Type} (K0 : Int → Int → Int → Int → Option R) (K1 : Int → List Int → Nat → Int → Int → Int → List Bool → Option R) : Nat → Int → List Int → Nat → Int → Int → Int → Int → List Bool → Option R
 | 0, _, _, _, _, _, _, _, _ => none
 | N + 1, v0, v1, v2, v3, v4, v5, v6, v7 => haystackref03_Make_l6_T (haystackref03_Make_l6_L K0 K1 N) v0 v1 v2 v3 v4 v5 v6 v7 K0 K1
noncomputable def haystackref03_Make_l6_B {R : Type} (v0 : Int) (v1 : List Int) (v2 : Nat) (v3 v4 v5 v6 : Int) (v7 : List Bool) (K0 : Int → Int → Int → Int → Option R) (K1 : Int → List Int → Nat → Int → Int → Int → List Bool → Option R) : Option R :=
 haystackref03_Make_l6_L K0 K1 NR v0 v1 v2 v3 v4 v5 v6 v7
noncomputable def haystackref03_Make_l6 {R : Type} := shut (@haystackref03_Make_l6_B R)
theorem haystackref03_Make_l6_unf {R : Type} : @haystackref03_Make_l6 R = @haystackref03_Make_l6_B R := shut_eq _

noncomputable def haystackref02_New_j3_B {R : Type} (v0 : Int) (v1 : Bool) (v2 : Int) (K0 : Int → Int → Option R) (K1 : Int → Int → Option R) : Option R :=
 sel v1
 (K0 2 0)
 (K1 v0 v2)
noncomputable def haystackref02_New_j3 {R : Type} := shut (@haystackref02_New_j3_B R)
theorem haystackref02_New_j3_unf {R : Type} : @haystackref02_New_j3 R = @haystackref02_New_j3_B R := shut_eq _

noncomputable def haystackref02_New_j4_B {R : Type} (v0 _v1 : Int) (K0 : Int → Int → Nat → List Int → Option R) : Option R :=
 haystackref02_Words v0
 (fun v2 => sel (decide (0 ≤ v2))
 (sel (decide (v2 ≤ v2))
 (sel (decide (v2 ≤ 281474976710656))
 (sel (decide ((↑8 : Int) * v2 ≤ 281474976710656))
 (letV (List.replicate (Int.toNat v2) 0) (fun (v3 : List Int) =>
 K0 0 v0 (Int.toNat v2) v3))
 (none))
 (none))
 (none))
 (none))
noncomputable def haystackref02_New_j4 {R : Type} := shut (@haystackref02_New_j4_B R)
theorem haystackref02_New_j4_unf {R : Type} : @haystackref02_New_j4 R = @haystackref02_New_j4_B R := shut_eq _

noncomputable def haystackref02_New_r_B {R : Type} (v0 : Int) (K0 : Int → Int → Option R) (K1 : Int → Nat → Int → List Int → Option R) : Option R :=
 sel (decide (v0 < 0))
 (haystackref02_New_j3 v0 true 0
 (fun v1 v2 => K0 v2 v1)
 (fun v3 v4 => haystackref02_New_j4 v3 v4
 (fun v5 v6 v7 v8 => K1 v6 v7 v5 v8)))
 (haystackref02_New_j3 v0 (decide (1048576 < v0)) 0
 (fun v9 va => K0 va v9)
 (fun vb vc => haystackref02_New_j4 vb vc
 (fun vd ve vf vg => K1 ve vf vd vg)))
noncomputable def haystackref02_New_r {R : Type} := shut (@haystackref02_New_r_B R)
theorem haystackref02_New_r_unf {R : Type} : @haystackref02_New_r R = @haystackref02_New_r_B R := shut_eq _

noncomputable def haystackref02_put_B {R : Type} (v0 : List Int) (v1 : Int) (_v2 : Bool) : Option R :=
 sel (decide (0 ≤ quoW .i64 v1 64))
 (sel (decide (quoW .i64 v1 64 < (↑(List.length v0) : Int)))
 (sel (decide (0 ≤ cvtW .u64 (remW v1 64)))
 (sel (decide (0 ≤ quoW .i64 v1 64))
 (sel (decide (quoW .i64 v1 64 < (↑(List.length v0) : Int)))
 (none)
 (none))
 (none))
 (none))
 (none))
 (none)
noncomputable def haystackref02_put {R : Type} := shut (@haystackref02_put_B R)
theorem haystackref02_put_unf {R : Type} : @haystackref02_put R = @haystackref02_put_B R := shut_eq _

noncomputable def haystackref02_From_l4_T {R : Type} (rec : List Bool → Int → Int → Int → Int → Option R) (v0 : List Bool) (v1 v2 v3 v4 : Int) (K0 : Int → Int → Int → Option R) : Option R :=
 sel (decide (v2 < v4))
 (sel (decide (0 ≤ v2))
 (sel (decide (v2 < (↑(List.length v0) : Int)))
 (haystackref02_put [] v2 (List.getD v0 (Int.toNat v2) false))
 (none))
 (none))
 (K0 v1 v3 v4)
noncomputable def haystackref02_From_l4_L {R : Type} (K0 : Int → Int → Int → Option R) : Nat → List Bool → Int → Int → Int → Int → Option R
 | 0, _, _, _, _, _ => none
 | N + 1, v0, v1, v2, v3, v4 => haystackref02_From_l4_T (haystackref02_From_l4_L K0 N) v0 v1 v2 v3 v4 K0
noncomputable def haystackref02_From_l4_B {R : Type} (v0 : List Bool) (v1 v2 v3 v4 : Int) (K0 : Int → Int → Int → Option R) : Option R :=
 haystackref02_From_l4_L K0 NR v0 v1 v2 v3 v4
noncomputable def haystackref02_From_l4 {R : Type} := shut (@haystackref02_From_l4_B R)
theorem haystackref02_From_l4_unf {R : Type} : @haystackref02_From_l4 R = @haystackref02_From_l4_B R := shut_eq _

noncomputable def haystackref02_put_r_B {R : Type} (v0 : Nat) (v1 : Int) (v2 : Bool) (v3 : List Int) (K0 : List Int → Option R) : Option R :=
 sel (decide (0 ≤ quoW .i64 v1 64))
 (sel (decide (quoW .i64 v1 64 < (↑v0 : Int)))
 (sel (decide (Int.toNat (quoW .i64 v1 64) < List.length v3))
 (sel (decide (0 ≤ cvtW .u64 (remW v1 64)))
 (sel (decide (0 ≤ quoW .i64 v1 64))
 (sel (decide (quoW .i64 v1 64 < (↑v0 : Int)))
 (sel (decide (Int.toNat (quoW .i64 v1 64) < List.length v3))
 (letV (List.set v3 (Int.toNat (quoW .i64 v1 64)) (andNotW .u64 (List.getD v3 (Int.toNat (quoW .i64 v1 64)) 0) (shlW .u64 1 (cvtW .u64 (remW v1 64))))) (fun (v4 : List Int) =>
 sel v2
 (sel (decide (0 ≤ quoW .i64 v1 64))
 (sel (decide (quoW .i64 v1 64 < (↑v0 : Int)))
 (sel (decide (Int.toNat (quoW .i64 v1 64) < List.length v4))
 (sel (decide (0 ≤ cvtW .u64 (remW v1 64)))
 (sel (decide (0 ≤ quoW .i64 v1 64))
 (sel (decide (quoW .i64 v1 64 < (↑v0 : Int)))
 (sel (decide (Int.toNat (quoW .i64 v1 64) < List.length v4))
 (letV (List.set v4 (Int.toNat (quoW .i64 v1 64)) (orW .u64 (List.getD v4 (Int.toNat (quoW .i64 v1 64)) 0) (shlW .u64 1 (cvtW .u64 (remW v1 64))))) (fun (v5 : List Int) =>
 K0 v5))
 (none))
 (none))
 (none))
 (none))
 (none))
 (none))
 (none))
 (K0 v4)))
 (none))
 (none))
 (none))
 (none))
 (none))
 (none))
 (none)
noncomputable def haystackref02_put_r {R : Type} := shut (@haystackref02_put_r_B R)
theorem haystackref02_put_r_unf {R : Type} : @haystackref02_put_r R = @haystackref02_put_r_B R := shut_eq _

noncomputable def haystackref02_From_l4_1_T {R : Type} (rec : List Bool → Int → Int → Int → Int → Nat → List Int → Option R) (v0 : List Bool) (v1 v2 v3 v4 : Int) (v5 : Nat) (v6 : List Int) (K0 : Int → Int → Int → Nat → List Int → Option R) : Option R :=
 sel (decide (v2 < v4))
 (sel (decide (0 ≤ v2))
 (sel (decide (v2 < (↑(List.length v0) : Int)))
 (haystackref02_put_r v5 v2 (List.getD v0 (Int.toNat v2) false) v6
 (fun v7 => rec v0 v1 (addW .i64 v2 1) v3 v4 v5 v7))
 (none))
 (none))
 (K0 v1 v3 v4 v5 v6)
noncomputable def haystackref02_From_l4_1_L {R : Type} (K0 : Int → Int → Int → Nat → List Int → Option R) : Nat → List Bool → Int → Int → Int → Int → Nat → List Int → Option R
 | 0, _, _, _, _, _, _, _ => none
 | N + 1, v0, v1, v2, v3, v4, v5, v6 => haystackref02_From_l4_1_T (haystackref02_From_l4_1_L K0 N) v0 v1 v2 v3 v4 v5 v6 K0
noncomputable def haystackref02_From_l4_1_B {R : Type} (v0 : List Bool) (v1 v2 v3 v4 : Int) (v5 : Nat) (v6 : List Int) (K0 : Int → Int → Int → Nat → List Int → Option R) : Option R :=
 haystackref02_From_l4_1_L K0 NR v0 v1 v2 v3 v4 v5 v6
noncomputable def haystackref02_From_l4_1 {R : Type} := shut (@haystackref02_From_l4_1_B R)
theorem haystackref02_From_l4_1_unf {R : Type} : @haystackref02_From_l4_1 R = @haystackref02_From_l4_1_B R := shut_eq _

noncomputable def haystackref02_From_B {R : Type} (v0 : List Bool) (K0 : Int → List Int → Int → Option R) : Option R :=
 haystackref02_New_r ((↑(List.length v0) : Int))
 (fun v1 v2 => haystackref02_From_l4 v0 v2 0 0 v1
 (fun v3 _ v5 => K0 v5 [] v3))
 (fun v6 v7 v8 v9 => haystackref02_From_l4_1 v0 v8 0 0 v6 v7 v9
 (fun va _ vc vd ve => sel (decide (vd = List.length ve))
 (K0 vc ve va)
 (none)))
noncomputable def haystackref02_From {R : Type} := shut (@haystackref02_From_B R)
theorem haystackref02_From_unf {R : Type} : @haystackref02_From R = @haystackref02_From_B R := shut_eq _

noncomputable def haystackref03_Make_j4_B {R : Type} (v0 : Int) (v1 : List Int) (v2 v3 v4 : Int) (K0 : Int → Int → Int → Int → Option R) (K1 : Int → Int → Int → Int → List Int → Option R) : Option R :=
 haystackref03_Make_l6 v0 v1 0 0 v2 v3 v4 []
 (fun v5 v6 v7 v8 => K0 v5 v6 v7 v8)
 (fun v9 va vb _ _ _ vf => sel (decide (vb = List.length vf))
 (sel (decide (vb = List.length vf))
 (haystackref02_From vf
 (fun vg vh _ => K1 0 ((↑(List.length va) : Int)) v9 vg vh))
 (none))
 (none))
noncomputable def haystackref03_Make_j4 {R : Type} := shut (@haystackref03_Make_j4_B R)
theorem haystackref03_Make_j4_unf {R : Type} : @haystackref03_Make_j4 R = @haystackref03_Make_j4_B R := shut_eq _

noncomputable def haystackref03_Make_B {R : Type} (v0 : Int) (v1 : List Int) (K0 : Int → Int → Int → List Int → Int → Option R) : Option R :=
 sel (decide (v0 < 1))
 (haystackref03_Make_j3 v0 v1 true 0 0 0
 (fun v2 v3 v4 v5 => K0 v3 v4 v5 [] v2)
 (fun v6 v7 v8 v9 va => haystackref03_Make_j4 v6 v7 v8 v9 va
 (fun vb vc vd ve => K0 vc vd ve [] vb)
 (fun vf vg vh vi vj => K0 vg vh vi vj vf)))
 (sel (decide (64 < v0))
 (haystackref03_Make_j3 v0 v1 true 0 0 0
 (fun vk vl vm vn => K0 vl vm vn [] vk)
 (fun vo vp vq vr vs => haystackref03_Make_j4 vo vp vq vr vs
 (fun vt vu vv vw => K0 vu vv vw [] vt)
 (fun vx vy vz v10 v11 => K0 vy vz v10 v11 vx)))
 (sel (decide (1048576 < (↑(List.length v1) : Int)))
 (haystackref03_Make_j3 v0 v1 true 0 0 0
 (fun v12 v13 v14 v15 => K0 v13 v14 v15 [] v12)
 (fun v16 v17 v18 v19 v1a => haystackref03_Make_j4 v16 v17 v18 v19 v1a
 (fun v1b v1c v1d v1e => K0 v1c v1d v1e [] v1b)
 (fun v1f v1g v1h v1i v1j => K0 v1g v1h v1i v1j v1f)))
 (haystackref03_Make_j3 v0 v1 (decide (1048576 < mulW .i64 (↑(List.length v1) : Int) v0)) 0 0 0
 (fun v1k v1l v1m v1n => K0 v1l v1m v1n [] v1k)
 (fun v1o v1p v1q v1r v1s => haystackref03_Make_j4 v1o v1p v1q v1r v1s
 (fun v1t v1u v1v v1w => K0 v1u v1v v1w [] v1t)
 (fun v1x v1y v1z v20 v21 => K0 v1y v1z v20 v21 v1x)))))
noncomputable def haystackref03_Make {R : Type} := shut (@haystackref03_Make_B R)
theorem haystackref03_Make_unf {R : Type} : @haystackref03_Make R = @haystackref03_Make_B R := shut_eq _

noncomputable def haystackref08_Build_j2_B {R : Type} (v0 : Int) (v1 : List Int) (v2 v3 v4 v5 v6 : Int) (K0 : Int → Int → Int → Int → Int → Int → Option R) (K1 : Int → Int → Int → Int → Int → List Int → Int → List Int → Nat → Nat → List Int → List Int → Option R) : Option R :=
 haystackref02_Check v0 v1
 (fun v7 => sel (!v7)
 (K0 2 0 0 0 0 0)
 (haystackref08_Build_l9 0 0 0 0 v0 v1 v2 v3 v4 v5 v6 v0 0 0 0 0 0 0 [] [] [] []
 (fun v8 v9 _ _ _ _ _ vf _ _ _ _ vk vl vm vn vo vp => sel (decide (v8 = List.length vo))
 (sel (decide (v8 = List.length vo))
 (haystackref03_Make 4 vo
 (fun vq vr vs vt _ => sel (decide (v9 = List.length vp))
 (sel (decide (v9 = List.length vp))
 (haystackref02_From vp
 (fun vv vw _ => K1 0 vf vq vr vs vt vv vw vk vl vm vn))
 (none))
 (none)))
 (none))
 (none))))
noncomputable def haystackref08_Build_j2 {R : Type} := shut (@haystackref08_Build_j2_B R)
theorem haystackref08_Build_j2_unf {R : Type} : @haystackref08_Build_j2 R = @haystackref08_Build_j2_B R := shut_eq _

noncomputable def haystackref08_Build_B {R : Type} (v0 : Int) (v1 : List Int) (K0 : Int → Int → Int → Int → List Int → Int → List Int → List Int → List Int → Int → Option R) : Option R :=
 haystackref08_Build_j2 v0 v1 0 0 0 0 0
 (fun v2 v3 v4 v5 v6 v7 => K0 v3 v4 v5 v6 [] v7 [] [] [] v2)
 (fun v8 v9 va vb vc vd ve vf vg vh vi vj => sel (decide (vg = List.length vi))
 (sel (decide (vh = List.length vj))
 (K0 v9 va vb vc vd ve vf vi vj v8)
 (none))
 (none))
noncomputable def haystackref08_Build {R : Type} := shut (@haystackref08_Build_B R)
theorem haystackref08_Build_unf {R : Type} : @haystackref08_Build R = @haystackref08_Build_B R := shut_eq _

noncomputable def haystackref03_Same_B {R : Type} (v0 v1 v2 : Int) (v3 : List Int) (v4 v5 v6 : Int) (v7 : List Int) (K0 : Bool → Option R) : Option R :=
 sel (decide (v0 = v4))
 (sel (decide (v1 = v5))
 (haystackref02_Same v2 v3 v6 v7
 (fun v8 => K0 v8))
 (K0 false))
 (K0 false)
noncomputable def haystackref03_Same {R : Type} := shut (@haystackref03_Same_B R)
theorem haystackref03_Same_unf {R : Type} : @haystackref03_Same R = @haystackref03_Same_B R := shut_eq _

noncomputable def haystackref07_Numbers_l5_T {R : Type} (rec : List Int → List Int → Int → Option R) (v0 v1 : List Int) (v2 : Int) (K0 : Bool → Option R) (K1 : Unit → Option R) : Option R :=
 sel (decide (v2 < (↑(List.length v0) : Int)))
 (sel (decide (0 ≤ v2))
 (sel (decide (v2 < (↑(List.length v0) : Int)))
 (sel (decide (0 ≤ v2))
 (sel (decide (v2 < (↑(List.length v1) : Int)))
 (sel (!decide (List.getD v0 (Int.toNat v2) 0 = List.getD v1 (Int.toNat v2) 0))
 (K0 false)
 (rec v0 v1 (addW .i64 v2 1)))
 (none))
 (none))
 (none))
 (none))
 (K1 ())
noncomputable def haystackref07_Numbers_l5_L {R : Type} (K0 : Bool → Option R) (K1 : Unit → Option R) : Nat → List Int → List Int → Int → Option R
 | 0, _, _, _ => none
 | N + 1, v0, v1, v2 => haystackref07_Numbers_l5_T (haystackref07_Numbers_l5_L K0 K1 N) v0 v1 v2 K0 K1
noncomputable def haystackref07_Numbers_l5_B {R : Type} (v0 v1 : List Int) (v2 : Int) (K0 : Bool → Option R) (K1 : Unit → Option R) : Option R :=
 haystackref07_Numbers_l5_L K0 K1 NR v0 v1 v2
noncomputable def haystackref07_Numbers_l5 {R : Type} := shut (@haystackref07_Numbers_l5_B R)
theorem haystackref07_Numbers_l5_unf {R : Type} : @haystackref07_Numbers_l5 R = @haystackref07_Numbers_l5_B R := shut_eq _

noncomputable def haystackref07_Numbers_B {R : Type} (v0 v1 : List Int) (K0 : Bool → Option R) : Option R :=
 sel (!decide ((↑(List.length v0) : Int) = (↑(List.length v1) : Int)))
 (K0 false)
 (haystackref07_Numbers_l5 v0 v1 0
 (fun v2 => K0 v2)
 (fun _ => K0 true))
noncomputable def haystackref07_Numbers {R : Type} := shut (@haystackref07_Numbers_B R)
theorem haystackref07_Numbers_unf {R : Type} : @haystackref07_Numbers R = @haystackref07_Numbers_B R := shut_eq _

noncomputable def haystackref08_Same_B {R : Type} (v0 v1 v2 v3 : Int) (v4 : List Int) (v5 : Int) (v6 v7 v8 : List Int) (v9 va vb vc : Int) (vd : List Int) (ve : Int) (vf vg vh : List Int) (K0 : Bool → Option R) : Option R :=
 sel (decide (v0 = v9))
 (haystackref03_Same v1 v2 v3 v4 va vb vc vd
 (fun vi => sel vi
 (haystackref02_Same v5 v6 ve vf
 (fun vj => sel vj
 (haystackref07_Numbers v7 vg
 (fun vk => sel vk
 (haystackref07_Numbers v8 vh
 (fun vl => K0 vl))
 (K0 false)))
 (K0 false)))
 (K0 false)))
 (K0 false)
noncomputable def haystackref08_Same {R : Type} := shut (@haystackref08_Same_B R)
theorem haystackref08_Same_unf {R : Type} : @haystackref08_Same R = @haystackref08_Same_B R := shut_eq _

noncomputable def haystackref08_Whole_j3_B {R : Type} (v0 : Bool) (v1 v2 v3 v4 : Int) (v5 : List Int) (v6 : Int) (v7 v8 v9 : List Int) (va : Int) (K0 : Bool → Int → Option R) (K1 : Int → Int → Int → Int → List Int → Int → List Int → List Int → List Int → Int → Option R) : Option R :=
 sel v0
 (K0 false 0)
 (K1 v1 v2 v3 v4 v5 v6 v7 v8 v9 va)
noncomputable def haystackref08_Whole_j3 {R : Type} := shut (@haystackref08_Whole_j3_B R)
theorem haystackref08_Whole_j3_unf {R : Type} : @haystackref08_Whole_j3 R = @haystackref08_Whole_j3_B R := shut_eq _

noncomputable def haystackref03_Check_B {R : Type} (v0 v1 v2 : Int) (v3 : List Int) (K0 : Bool → Option R) : Option R :=
 sel (decide (1 ≤ v1))
 (sel (decide (v1 ≤ 64))
 (sel (decide (0 ≤ v0))
 (sel (decide (v0 ≤ 1048576))
 (haystackref02_Check v2 v3
 (fun v4 => sel v4
 (K0 (decide (v2 = mulW .i64 v0 v1)))
 (K0 false)))
 (K0 false))
 (K0 false))
 (K0 false))
 (K0 false)
noncomputable def haystackref03_Check {R : Type} := shut (@haystackref03_Check_B R)
theorem haystackref03_Check_unf {R : Type} : @haystackref03_Check R = @haystackref03_Check_B R := shut_eq _

noncomputable def haystackref02_Slice_l8_T {R : Type} (rec : Int → Int → Int → Int → Int → List Int → Option R) (v0 v1 v2 v3 v4 : Int) (v5 : List Int) (K0 : Int → Option R) : Option R :=
 sel (decide (v3 < v1))
 (haystackref02_At v4 v5 (addW .i64 v0 v3)
 (fun v6 => sel v6
 (sel (decide (0 ≤ cvtW .u64 v3))
 (rec v0 v1 (orW .u64 v2 (shlW .u64 1 (cvtW .u64 v3))) (addW .i64 v3 1) v4 v5)
 (none))
 (rec v0 v1 v2 (addW .i64 v3 1) v4 v5)))
 (K0 v2)
noncomputable def haystackref02_Slice_l8_L {R : Type} (K0 : Int → Option R) : Nat → Int → Int → Int → Int → Int → List Int → Option R
 | 0, _, _, _, _, _, _ => none
 | N + 1, v0, v1, v2, v3, v4, v5 => haystackref02_Slice_l8_T (haystackref02_Slice_l8_L K0 N) v0 v1 v2 v3 v4 v5 K0
noncomputable def haystackref02_Slice_l8_B {R : Type} (v0 v1 v2 v3 v4 : Int) (v5 : List Int) (K0 : Int → Option R) : Option R :=
 haystackref02_Slice_l8_L K0 NR v0 v1 v2 v3 v4 v5
noncomputable def haystackref02_Slice_l8 {R : Type} := shut (@haystackref02_Slice_l8_B R)
theorem haystackref02_Slice_l8_unf {R : Type} : @haystackref02_Slice_l8 R = @haystackref02_Slice_l8_B R := shut_eq _

noncomputable def haystackref02_Slice_j6_B {R : Type} (v0 v1 v2 : Int) (v3 : List Int) (K0 : Int → Int → Option R) : Option R :=
 haystackref02_Slice_l8 v0 v1 0 0 v2 v3
 (fun v4 => K0 v4 0)
noncomputable def haystackref02_Slice_j6 {R : Type} := shut (@haystackref02_Slice_j6_B R)
theorem haystackref02_Slice_j6_unf {R : Type} : @haystackref02_Slice_j6 R = @haystackref02_Slice_j6_B R := shut_eq _

noncomputable def haystackref02_Slice_j4_B {R : Type} (v0 v1 v2 : Int) (v3 : List Int) (K0 : Int → Int → Option R) : Option R :=
 sel (decide (v0 < 0))
 (K0 0 3)
 (sel (decide (v2 < v0))
 (K0 0 3)
 (sel (decide (subW .i64 v2 v0 < v1))
 (K0 0 3)
 (haystackref02_Slice_j6 v0 v1 v2 v3
 (fun v4 v5 => K0 v4 v5))))
noncomputable def haystackref02_Slice_j4 {R : Type} := shut (@haystackref02_Slice_j4_B R)
theorem haystackref02_Slice_j4_unf {R : Type} : @haystackref02_Slice_j4 R = @haystackref02_Slice_j4_B R := shut_eq _

noncomputable def haystackref02_Slice_B {R : Type} (v0 : Int) (v1 : List Int) (v2 v3 : Int) (K0 : Int → Int → Option R) : Option R :=
 haystackref02_Check v0 v1
 (fun v4 => sel (!v4)
 (K0 0 2)
 (sel (decide (v3 < 0))
 (K0 0 2)
 (sel (decide (64 < v3))
 (K0 0 2)
 (haystackref02_Slice_j4 v2 v3 v0 v1
 (fun v5 v6 => K0 v5 v6)))))
noncomputable def haystackref02_Slice {R : Type} := shut (@haystackref02_Slice_B R)
theorem haystackref02_Slice_unf {R : Type} : @haystackref02_Slice R = @haystackref02_Slice_B R := shut_eq _

noncomputable def haystackref03_Get_j6_B {R : Type} (v0 _v1 v2 v3 : Int) (v4 : List Int) (K0 : Int → Int → Option R) : Option R :=
 haystackref02_Slice v3 v4 (mulW .i64 v0 v2) v2
 (fun v5 v6 => K0 v5 v6)
noncomputable def haystackref03_Get_j6 {R : Type} := shut (@haystackref03_Get_j6_B R)
theorem haystackref03_Get_j6_unf {R : Type} : @haystackref03_Get_j6 R = @haystackref03_Get_j6_B R := shut_eq _

noncomputable def haystackref03_Get_B {R : Type} (v0 v1 v2 : Int) (v3 : List Int) (v4 : Int) (K0 : Int → Int → Option R) : Option R :=
 haystackref03_Check v0 v1 v2 v3
 (fun v5 => sel (!v5)
 (K0 0 2)
 (sel (decide (v4 < 0))
 (K0 0 3)
 (sel (decide (v0 ≤ v4))
 (K0 0 3)
 (haystackref03_Get_j6 v4 v0 v1 v2 v3
 (fun v6 v7 => K0 v6 v7)))))
noncomputable def haystackref03_Get {R : Type} := shut (@haystackref03_Get_B R)
theorem haystackref03_Get_unf {R : Type} : @haystackref03_Get R = @haystackref03_Get_B R := shut_eq _

noncomputable def haystackref03_List_j6_B {R : Type} (v0 : Nat) (v1 v2 v3 v4 : Int) (v5 v6 : List Int) (K0 : Nat → Int → Int → Int → Int → List Int → List Int → Option R) : Option R :=
 haystackref03_Get v2 v3 v4 v5 v1
 (fun v7 _ => sel (decide (List.length v6 = v0))
 (sel (decide ((v0 + 1) * 8 ≤ 140737488355328))
 (letV (v6 ++ [v7]) (fun (v9 : List Int) =>
 K0 (v0 + 1) (addW .i64 v1 1) v2 v3 v4 v5 v9))
 (none))
 (none))
noncomputable def haystackref03_List_j6 {R : Type} := shut (@haystackref03_List_j6_B R)
theorem haystackref03_List_j6_unf {R : Type} : @haystackref03_List_j6 R = @haystackref03_List_j6_B R := shut_eq _

noncomputable def haystackref03_List_l4_T {R : Type} (rec : Nat → Int → Int → Int → Int → List Int → List Int → Option R) (v0 : Nat) (v1 v2 v3 v4 : Int) (v5 v6 : List Int) (K0 : Nat → List Int → Option R) : Option R :=
 sel (decide (v1 < v2))
 (haystackref03_Check v2 v3 v4 v5
 (fun v7 => sel v7
 (haystackref03_List_j6 v0 v1 v2 v3 v4 v5 v6
 rec)
 (K0 v0 v6)))
 (K0 v0 v6)
noncomputable def haystackref03_List_l4_L {R : Type} (K0 : Nat → List Int → Option R) : Nat → Nat → Int → Int → Int → Int → List Int → List Int → Option R
 | 0, _, _, _, _, _, _, _ => none
 | N + 1, v0, v1, v2, v3, v4, v5, v6 => haystackref03_List_l4_T (haystackref03_List_l4_L K0 N) v0 v1 v2 v3 v4 v5 v6 K0
noncomputable def haystackref03_List_l4_B {R : Type} (v0 : Nat) (v1 v2 v3 v4 : Int) (v5 v6 : List Int) (K0 : Nat → List Int → Option R) : Option R :=
 haystackref03_List_l4_L K0 NR v0 v1 v2 v3 v4 v5 v6
noncomputable def haystackref03_List_l4 {R : Type} := shut (@haystackref03_List_l4_B R)
theorem haystackref03_List_l4_unf {R : Type} : @haystackref03_List_l4 R = @haystackref03_List_l4_B R := shut_eq _

noncomputable def haystackref03_List_B {R : Type} (v0 v1 v2 : Int) (v3 : List Int) (K0 : List Int → Option R) : Option R :=
 haystackref03_List_l4 0 0 v0 v1 v2 v3 []
 (fun v4 v5 => sel (decide (v4 = List.length v5))
 (K0 v5)
 (none))
noncomputable def haystackref03_List {R : Type} := shut (@haystackref03_List_B R)
theorem haystackref03_List_unf {R : Type} : @haystackref03_List R = @haystackref03_List_B R := shut_eq _

noncomputable def haystackref06_Block_j8_B {R : Type} (v0 v1 v2 v3 : Int) (K0 : Int → Int → Int → Int → Option R) : Option R :=
 haystackref06_Choose v3 v0
 (fun v4 => sel (decide (v4 ≤ v1))
 (sel (decide (0 ≤ cvtW .u64 v3))
 (K0 (subW .i64 v0 1) (subW .u64 v1 v4) (orW .u64 v2 (shlW .u64 1 (cvtW .u64 v3))) (subW .i64 v3 1))
 (none))
 (K0 v0 v1 v2 (subW .i64 v3 1)))
noncomputable def haystackref06_Block_j8 {R : Type} := shut (@haystackref06_Block_j8_B R)
theorem haystackref06_Block_j8_unf {R : Type} : @haystackref06_Block_j8 R = @haystackref06_Block_j8_B R := shut_eq _

noncomputable def haystackref06_Block_l6_T {R : Type} (rec : Int → Int → Int → Int → Option R) (v0 v1 v2 v3 : Int) (K0 : Int → Option R) : Option R :=
 sel (decide (0 ≤ v3))
 (sel (decide (0 < v0))
 (haystackref06_Block_j8 v0 v1 v2 v3
 (fun v4 v5 v6 v7 => rec v4 v5 v6 v7))
 (K0 v2))
 (K0 v2)
noncomputable def haystackref06_Block_l6_L {R : Type} (K0 : Int → Option R) : Nat → Int → Int → Int → Int → Option R
 | 0, _, _, _, _ => none
 | N + 1, v0, v1, v2, v3 => haystackref06_Block_l6_T (haystackref06_Block_l6_L K0 N) v0 v1 v2 v3 K0
noncomputable def haystackref06_Block_l6_B {R : Type} (v0 v1 v2 v3 : Int) (K0 : Int → Option R) : Option R :=
 haystackref06_Block_l6_L K0 NR v0 v1 v2 v3
noncomputable def haystackref06_Block_l6 {R : Type} := shut (@haystackref06_Block_l6_B R)
theorem haystackref06_Block_l6_unf {R : Type} : @haystackref06_Block_l6 R = @haystackref06_Block_l6_B R := shut_eq _

noncomputable def haystackref06_Block_B {R : Type} (v0 v1 v2 : Int) (K0 : Int → Bool → Option R) : Option R :=
 haystackref06_Choose v0 v1
 (fun v3 => sel (decide (v3 ≤ v2))
 (K0 0 false)
 (haystackref06_Block_l6 v1 v2 0 (subW .i64 v0 1)
 (fun v4 => K0 v4 true)))
noncomputable def haystackref06_Block {R : Type} := shut (@haystackref06_Block_B R)
theorem haystackref06_Block_unf {R : Type} : @haystackref06_Block R = @haystackref06_Block_B R := shut_eq _

noncomputable def haystackref08_row_j17_B {R : Type} (v0 : Nat) (v1 : Int) (v2 : List Int) (v3 v4 v5 v6 v7 v8 v9 va : Int) (vb : List Int) (vc : Int) (vd ve vf : List Int) (vg : Int) (vh : List Bool) (K0 : Nat → Int → List Int → Int → Int → Int → Int → Int → Int → Int → Int → List Int → Int → List Int → List Int → List Int → Int → List Bool → Option R) : Option R :=
 sel (decide (0 ≤ cvtW .u64 v6))
 (sel (decide (List.length vh = v0))
 (sel (decide ((v0 + 1) * 1 ≤ 140737488355328))
 (letV (vh ++ [decide (remW (shrW .u64 v5 (cvtW .u64 v6)) 2 = 1)]) (fun (vi : List Bool) =>
 K0 (v0 + 1) v1 v2 v3 v4 v5 (addW .i64 v6 1) v7 v8 v9 va vb vc vd ve vf vg vi))
 (none))
 (none))
 (none)
noncomputable def haystackref08_row_j17 {R : Type} := shut (@haystackref08_row_j17_B R)
theorem haystackref08_row_j17_unf {R : Type} : @haystackref08_row_j17 R = @haystackref08_row_j17_B R := shut_eq _

noncomputable def haystackref08_row_l15_T {R : Type} (rec : Nat → Int → List Int → Int → Int → Int → Int → Int → Int → Int → Int → List Int → Int → List Int → List Int → List Int → Int → List Bool → Option R) (v0 : Nat) (v1 : Int) (v2 : List Int) (v3 v4 v5 v6 v7 v8 v9 va : Int) (vb : List Int) (vc : Int) (vd ve vf : List Int) (vg : Int) (vh : List Bool) (K0 : Nat → Int → List Int → Int → Int → Int → Int → Int → Int → List Int → Int → List Int → List Int → List Int → Int → List Bool → Option R) : Option R :=
 sel (decide (v6 < 15))
 (sel (decide ((↑v0 : Int) < v7))
 (haystackref08_row_j17 v0 v1 v2 v3 v4 v5 v6 v7 v8 v9 va vb vc vd ve vf vg vh
 rec)
 (K0 v0 v1 v2 v3 v4 v7 v8 v9 va vb vc vd ve vf vg vh))
 (K0 v0 v1 v2 v3 v4 v7 v8 v9 va vb vc vd ve vf vg vh)
noncomputable def haystackref08_row_l15_L {R : Type} (K0 : Nat → Int → List Int → Int → Int → Int → Int → Int → Int → List Int → Int → List Int → List Int → List Int → Int → List Bool → Option R) : Nat → Nat → Int → List Int → Int → Int → Int → Int → Int → Int → Int → Int → List Int → Int → List Int → List Int → List Int → Int → List Bool → Option R
 | 0, _, _, _, _, _, _, _, _, _, _, _, _, _, _, _, _, _, _ => none
 | N + 1, v0, v1, v2, v3, v4, v5, v6, v7, v8, v9, va, vb, vc, vd, ve, vf, vg, vh => haystackref08_row_l15_T (haystackref08_row_l15_L K0 N) v0 v1 v2 v3 v4 v5 v6 v7 v8 v9 va vb vc vd ve vf vg vh K0
noncomputable def haystackref08_row_l15_B {R : Type} (v0 : Nat) (v1 : Int) (v2 : List Int) (v3 v4 v5 v6 v7 v8 v9 va : Int) (vb : List Int) (vc : Int) (vd ve vf : List Int) (vg : Int) (vh : List Bool) (K0 : Nat → Int → List Int → Int → Int → Int → Int → Int → Int → List Int → Int → List Int → List Int → List Int → Int → List Bool → Option R) : Option R :=
 haystackref08_row_l15_L K0 NR v0 v1 v2 v3 v4 v5 v6 v7 v8 v9 va vb vc vd ve vf vg vh
noncomputable def haystackref08_row_l15 {R : Type} := shut (@haystackref08_row_l15_B R)
theorem haystackref08_row_l15_unf {R : Type} : @haystackref08_row_l15 R = @haystackref08_row_l15_B R := shut_eq _

noncomputable def haystackref08_row_j14_B {R : Type} (v0 : Nat) (v1 : Int) (v2 : List Int) (v3 v4 v5 v6 v7 v8 v9 : Int) (va : List Int) (vb : Int) (vc vd ve : List Int) (vf : Int) (vg : List Bool) (K0 : Nat → Int → List Int → Int → Int → Int → Int → Int → List Int → Int → List Int → List Int → List Int → Int → List Bool → Option R) : Option R :=
 haystackref08_row_l15 v0 v1 v2 v3 v4 v5 0 v6 v7 v8 v9 va vb vc vd ve vf vg
 (fun vh vi vj vk vl vm vn vo vp vq vr vs vt vu vv vw => K0 vh (addW .i64 vi vl) vj vk vm vn vo vp vq vr vs vt vu vv vw)
noncomputable def haystackref08_row_j14 {R : Type} := shut (@haystackref08_row_j14_B R)
theorem haystackref08_row_j14_unf {R : Type} : @haystackref08_row_j14 R = @haystackref08_row_j14_B R := shut_eq _

noncomputable def haystackref08_row_l6_T {R : Type} (rec : Nat → Int → List Int → Int → Int → Int → Int → Int → List Int → Int → List Int → List Int → List Int → Int → List Bool → Option R) (v0 : Nat) (v1 : Int) (v2 : List Int) (v3 v4 v5 v6 v7 : Int) (v8 : List Int) (v9 : Int) (va vb vc : List Int) (vd : Int) (ve : List Bool) (K0 : Int → Option R) (K1 : Nat → Int → List Bool → Option R) : Option R :=
 sel (decide (v3 < (↑(List.length v2) : Int)))
 (sel (decide (0 ≤ v3))
 (sel (decide (v3 < (↑(List.length v2) : Int)))
 (haystackref06_Width 15 (cvtW .i64 (List.getD v2 (Int.toNat v3) 0))
 (fun vf => haystackref02_Slice v9 va v1 vf
 (fun vg vh => haystackref06_Block 15 (cvtW .i64 (List.getD v2 (Int.toNat v3) 0)) vg
 (fun vi vj => sel (!decide (vh = 0))
 (K0 0)
 (sel (!vj)
 (K0 0)
 (haystackref08_row_j14 v0 v1 v2 v3 vf vi v4 v5 v6 v7 v8 v9 va vb vc vd ve
 (fun vk vl vm vn vo vp vq vr vs vt vu vv vw vx vy => rec vk vl vm (addW .i64 vn 1) vo vp vq vr vs vt vu vv vw vx vy)))))))
 (none))
 (none))
 (K1 v0 vd ve)
noncomputable def haystackref08_row_l6_L {R : Type} (K0 : Int → Option R) (K1 : Nat → Int → List Bool → Option R) : Nat → Nat → Int → List Int → Int → Int → Int → Int → Int → List Int → Int → List Int → List Int → List Int → Int → List Bool → Option R
 | 0, _, _, _, _, _, _, _, _, _, _, _, _, _, _, _ => none
 | N + 1, v0, v1, v2, v3, v4, v5, v6, v7, v8, v9, va, vb, vc, vd, ve => haystackref08_row_l6_T (haystackref08_row_l6_L K0 K1 N) v0 v1 v2 v3 v4 v5 v6 v7 v8 v9 va vb vc vd ve K0 K1
noncomputable def haystackref08_row_l6_B {R : Type} (v0 : Nat) (v1 : Int) (v2 : List Int) (v3 v4 v5 v6 v7 : Int) (v8 : List Int) (v9 : Int) (va vb vc : List Int) (vd : Int) (ve : List Bool) (K0 : Int → Option R) (K1 : Nat → Int → List Bool → Option R) : Option R :=
 haystackref08_row_l6_L K0 K1 NR v0 v1 v2 v3 v4 v5 v6 v7 v8 v9 va vb vc vd ve
noncomputable def haystackref08_row_l6 {R : Type} := shut (@haystackref08_row_l6_B R)
theorem haystackref08_row_l6_unf {R : Type} : @haystackref08_row_l6 R = @haystackref08_row_l6_B R := shut_eq _

noncomputable def haystackref08_row_B {R : Type} (v0 v1 v2 v3 : Int) (v4 : List Int) (v5 : Int) (v6 v7 v8 : List Int) (K0 : Int → List Int → Option R) : Option R :=
 haystackref03_List v1 v2 v3 v4
 (fun v9 => haystackref08_row_l6 0 0 v9 0 v0 v1 v2 v3 v4 v5 v6 v7 v8 0 []
 (fun va => K0 va [])
 (fun vb _ vd => sel (decide (vb = List.length vd))
 (sel (decide (vb = List.length vd))
 (haystackref02_From vd
 (fun ve vf _ => K0 ve vf))
 (none))
 (none)))
noncomputable def haystackref08_row {R : Type} := shut (@haystackref08_row_B R)
theorem haystackref08_row_unf {R : Type} : @haystackref08_row R = @haystackref08_row_B R := shut_eq _

noncomputable def haystackref08_Whole_j4_B {R : Type} (v0 v1 v2 v3 : Int) (v4 : List Int) (v5 : Int) (v6 v7 v8 : List Int) (_v9 : Int) (K0 : Bool → Int → Option R) (K1 : Bool → Int → List Int → Option R) : Option R :=
 haystackref08_row v0 v1 v2 v3 v4 v5 v6 v7 v8
 (fun va vb => haystackref08_Build va vb
 (fun vc vd ve vf vg vh vi vj vk _ => haystackref08_Same v0 v1 v2 v3 v4 v5 v6 v7 v8 vc vd ve vf vg vh vi vj vk
 (fun vm => sel (!vm)
 (K0 false 0)
 (K1 true va vb))))
noncomputable def haystackref08_Whole_j4 {R : Type} := shut (@haystackref08_Whole_j4_B R)
theorem haystackref08_Whole_j4_unf {R : Type} : @haystackref08_Whole_j4 R = @haystackref08_Whole_j4_B R := shut_eq _

noncomputable def haystackref08_Whole_B {R : Type} (v0 v1 v2 v3 : Int) (v4 : List Int) (v5 : Int) (v6 v7 v8 : List Int) (K0 : Int → List Int → Bool → Option R) : Option R :=
 sel (decide (v0 < 0))
 (haystackref08_Whole_j3 true v0 v1 v2 v3 v4 v5 v6 v7 v8 0
 (fun v9 va => K0 va [] v9)
 (fun vb vc vd ve vf vg vh vi vj vk => haystackref08_Whole_j4 vb vc vd ve vf vg vh vi vj vk
 (fun vl vm => K0 vm [] vl)
 (fun vn vo vp => K0 vo vp vn)))
 (sel (decide (1048576 < v0))
 (haystackref08_Whole_j3 true v0 v1 v2 v3 v4 v5 v6 v7 v8 0
 (fun vq vr => K0 vr [] vq)
 (fun vs vt vu vv vw vx vy vz v10 v11 => haystackref08_Whole_j4 vs vt vu vv vw vx vy vz v10 v11
 (fun v12 v13 => K0 v13 [] v12)
 (fun v14 v15 v16 => K0 v15 v16 v14)))
 (haystackref03_Check v1 v2 v3 v4
 (fun v17 => sel (!v17)
 (haystackref08_Whole_j3 true v0 v1 v2 v3 v4 v5 v6 v7 v8 0
 (fun v18 v19 => K0 v19 [] v18)
 (fun v1a v1b v1c v1d v1e v1f v1g v1h v1i v1j => haystackref08_Whole_j4 v1a v1b v1c v1d v1e v1f v1g v1h v1i v1j
 (fun v1k v1l => K0 v1l [] v1k)
 (fun v1m v1n v1o => K0 v1n v1o v1m)))
 (haystackref02_Check v5 v6
 (fun v1p => haystackref08_Whole_j3 (!v1p) v0 v1 v2 v3 v4 v5 v6 v7 v8 0
 (fun v1q v1r => K0 v1r [] v1q)
 (fun v1s v1t v1u v1v v1w v1x v1y v1z v20 v21 => haystackref08_Whole_j4 v1s v1t v1u v1v v1w v1x v1y v1z v20 v21
 (fun v22 v23 => K0 v23 [] v22)
 (fun v24 v25 v26 => K0 v25 v26 v24)))))))
noncomputable def haystackref08_Whole {R : Type} := shut (@haystackref08_Whole_B R)
theorem haystackref08_Whole_unf {R : Type} : @haystackref08_Whole R = @haystackref08_Whole_B R := shut_eq _

noncomputable def haystackref08_Check_B {R : Type} (v0 v1 v2 v3 : Int) (v4 : List Int) (v5 : Int) (v6 v7 v8 : List Int) (K0 : Bool → Option R) : Option R :=
 haystackref08_Whole v0 v1 v2 v3 v4 v5 v6 v7 v8
 (fun _ _ vb => K0 vb)
noncomputable def haystackref08_Check {R : Type} := shut (@haystackref08_Check_B R)
theorem haystackref08_Check_unf {R : Type} : @haystackref08_Check R = @haystackref08_Check_B R := shut_eq _

noncomputable def haystackref08_Size_B {R : Type} (v0 v1 v2 v3 : Int) (v4 : List Int) (v5 : Int) (v6 v7 v8 : List Int) (K0 : Int → Option R) : Option R :=
 haystackref08_Check v0 v1 v2 v3 v4 v5 v6 v7 v8
 (fun v9 => sel (!v9)
 (K0 0)
 (K0 (addW .i64 (addW .i64 v3 v5) (mulW .i64 64 (↑(List.length v7) : Int)))))
noncomputable def haystackref08_Size {R : Type} := shut (@haystackref08_Size_B R)
theorem haystackref08_Size_unf {R : Type} : @haystackref08_Size R = @haystackref08_Size_B R := shut_eq _

noncomputable def haystacklaw08_RrrBuilds_j4_B {R : Type} (v0 : Int) (v1 : List Int) (K0 : Bool → Option R) : Option R :=
 rrr_Build v0 v1
 (fun v2 v3 v4 v5 v6 v7 v8 v9 va vb => haystackref08_Build v0 v1
 (fun vc vd ve vf vg vh vi vj vk vl => haystackref08_Same v2 v3 v4 v5 v6 v7 v8 v9 va vc vd ve vf vg vh vi vj vk
 (fun vm => sel vm
 (sel (decide (vb = vl))
 (rrr_Size v2 v3 v4 v5 v6 v7 v8 v9 va
 (fun vn => haystackref08_Size vc vd ve vf vg vh vi vj vk
 (fun vo => sel (decide (vn = vo))
 (haystacklaw08_heads 
 (fun vp => K0 vp))
 (K0 false))))
 (K0 false))
 (K0 false))))
noncomputable def haystacklaw08_RrrBuilds_j4 {R : Type} := shut (@haystacklaw08_RrrBuilds_j4_B R)
theorem haystacklaw08_RrrBuilds_j4_unf {R : Type} : @haystacklaw08_RrrBuilds_j4 R = @haystacklaw08_RrrBuilds_j4_B R := shut_eq _

noncomputable def haystacklaw08_RrrBuilds_B {R : Type} (v0 : Int) (v1 : List Int) (K0 : Bool → Option R) : Option R :=
 sel (decide (3000 < v0))
 (haystacklaw08_heads 
 (fun v2 => K0 v2))
 (sel (decide (3000 < (↑(List.length v1) : Int)))
 (haystacklaw08_heads 
 (fun v3 => K0 v3))
 (haystacklaw08_RrrBuilds_j4 v0 v1
 (fun v4 => K0 v4)))
noncomputable def haystacklaw08_RrrBuilds {R : Type} := shut (@haystacklaw08_RrrBuilds_B R)
theorem haystacklaw08_RrrBuilds_unf {R : Type} : @haystacklaw08_RrrBuilds R = @haystacklaw08_RrrBuilds_B R := shut_eq _

noncomputable def haystacklaw08_small_B {R : Type} (v0 v1 _v2 _v3 : Int) (v4 : List Int) (_v5 : Int) (v6 v7 v8 : List Int) (K0 : Bool → Option R) : Option R :=
 sel (decide (v0 ≤ 3000))
 (sel (decide (v1 ≤ 3000))
 (sel (decide ((↑(List.length v4) : Int) ≤ 3000))
 (sel (decide ((↑(List.length v6) : Int) ≤ 3000))
 (sel (decide ((↑(List.length v7) : Int) ≤ 3000))
 (K0 (decide ((↑(List.length v8) : Int) ≤ 3000)))
 (K0 false))
 (K0 false))
 (K0 false))
 (K0 false))
 (K0 false)
noncomputable def haystacklaw08_small {R : Type} := shut (@haystacklaw08_small_B R)
theorem haystacklaw08_small_unf {R : Type} : @haystacklaw08_small R = @haystacklaw08_small_B R := shut_eq _

noncomputable def haystackref02_Get_j6_B {R : Type} (v0 v1 : Int) (v2 : List Int) (K0 : Bool → Int → Option R) : Option R :=
 haystackref02_At v1 v2 v0
 (fun v3 => K0 v3 0)
noncomputable def haystackref02_Get_j6 {R : Type} := shut (@haystackref02_Get_j6_B R)
theorem haystackref02_Get_j6_unf {R : Type} : @haystackref02_Get_j6 R = @haystackref02_Get_j6_B R := shut_eq _

noncomputable def haystackref02_Get_B {R : Type} (v0 : Int) (v1 : List Int) (v2 : Int) (K0 : Bool → Int → Option R) : Option R :=
 haystackref02_Check v0 v1
 (fun v3 => sel (!v3)
 (K0 false 2)
 (sel (decide (v2 < 0))
 (K0 false 3)
 (sel (decide (v0 ≤ v2))
 (K0 false 3)
 (haystackref02_Get_j6 v2 v0 v1
 (fun v4 v5 => K0 v4 v5)))))
noncomputable def haystackref02_Get {R : Type} := shut (@haystackref02_Get_B R)
theorem haystackref02_Get_unf {R : Type} : @haystackref02_Get R = @haystackref02_Get_B R := shut_eq _

noncomputable def haystackref08_Access_B {R : Type} (v0 v1 v2 v3 : Int) (v4 : List Int) (v5 : Int) (v6 v7 v8 : List Int) (v9 : Int) (K0 : Bool → Int → Option R) : Option R :=
 haystackref08_Whole v0 v1 v2 v3 v4 v5 v6 v7 v8
 (fun va vb vc => sel (!vc)
 (K0 false 2)
 (haystackref02_Get va vb v9
 (fun vd ve => K0 vd ve)))
noncomputable def haystackref08_Access {R : Type} := shut (@haystackref08_Access_B R)
theorem haystackref08_Access_unf {R : Type} : @haystackref08_Access R = @haystackref08_Access_B R := shut_eq _

noncomputable def haystackref02_Ones_j6_B {R : Type} (v0 v1 v2 v3 : Int) (v4 : List Int) (K0 : Int → Int → Int → Int → List Int → Option R) : Option R :=
 haystackref02_At v3 v4 v2
 (fun v5 => sel v5
 (K0 v0 (addW .i64 v1 1) (addW .i64 v2 1) v3 v4)
 (K0 v0 v1 (addW .i64 v2 1) v3 v4))
noncomputable def haystackref02_Ones_j6 {R : Type} := shut (@haystackref02_Ones_j6_B R)
theorem haystackref02_Ones_j6_unf {R : Type} : @haystackref02_Ones_j6 R = @haystackref02_Ones_j6_B R := shut_eq _

noncomputable def haystackref02_Ones_l4_T {R : Type} (rec : Int → Int → Int → Int → List Int → Option R) (v0 v1 v2 v3 : Int) (v4 : List Int) (K0 : Int → Option R) : Option R :=
 sel (decide (v2 < v0))
 (sel (decide (v2 < v3))
 (haystackref02_Check v3 v4
 (fun v5 => sel v5
 (haystackref02_Ones_j6 v0 v1 v2 v3 v4
 (fun v6 v7 v8 v9 va => rec v6 v7 v8 v9 va))
 (K0 v1)))
 (K0 v1))
 (K0 v1)
noncomputable def haystackref02_Ones_l4_L {R : Type} (K0 : Int → Option R) : Nat → Int → Int → Int → Int → List Int → Option R
 | 0, _, _, _, _, _ => none
 | N + 1, v0, v1, v2, v3, v4 => haystackref02_Ones_l4_T (haystackref02_Ones_l4_L K0 N) v0 v1 v2 v3 v4 K0
noncomputable def haystackref02_Ones_l4_B {R : Type} (v0 v1 v2 v3 : Int) (v4 : List Int) (K0 : Int → Option R) : Option R :=
 haystackref02_Ones_l4_L K0 NR v0 v1 v2 v3 v4
noncomputable def haystackref02_Ones_l4 {R : Type} := shut (@haystackref02_Ones_l4_B R)
theorem haystackref02_Ones_l4_unf {R : Type} : @haystackref02_Ones_l4 R = @haystackref02_Ones_l4_B R := shut_eq _

noncomputable def haystackref02_Ones_B {R : Type} (v0 : Int) (v1 : List Int) (v2 : Int) (K0 : Int → Option R) : Option R :=
 haystackref02_Ones_l4 v2 0 0 v0 v1
 (fun v3 => K0 v3)
noncomputable def haystackref02_Ones {R : Type} := shut (@haystackref02_Ones_B R)
theorem haystackref02_Ones_unf {R : Type} : @haystackref02_Ones R = @haystackref02_Ones_B R := shut_eq _

noncomputable def haystackref08_Rank_j7_B {R : Type} (v0 : Bool) (v1 v2 : Int) (v3 : List Int) (K0 : Int → Int → Option R) : Option R :=
 haystackref02_Ones v2 v3 v1
 (fun v4 => sel (!v0)
 (K0 (subW .i64 v1 v4) 0)
 (K0 v4 0))
noncomputable def haystackref08_Rank_j7 {R : Type} := shut (@haystackref08_Rank_j7_B R)
theorem haystackref08_Rank_j7_unf {R : Type} : @haystackref08_Rank_j7 R = @haystackref08_Rank_j7_B R := shut_eq _

noncomputable def haystackref08_Rank_B {R : Type} (v0 v1 v2 v3 : Int) (v4 : List Int) (v5 : Int) (v6 v7 v8 : List Int) (v9 : Bool) (va : Int) (K0 : Int → Int → Option R) : Option R :=
 haystackref08_Whole v0 v1 v2 v3 v4 v5 v6 v7 v8
 (fun vb vc vd => sel (!vd)
 (K0 0 2)
 (sel (decide (va < 0))
 (K0 0 3)
 (sel (decide (vb < va))
 (K0 0 3)
 (haystackref08_Rank_j7 v9 va vb vc
 (fun ve vf => K0 ve vf)))))
noncomputable def haystackref08_Rank {R : Type} := shut (@haystackref08_Rank_B R)
theorem haystackref08_Rank_unf {R : Type} : @haystackref08_Rank R = @haystackref08_Rank_B R := shut_eq _

noncomputable def haystackref08_Select_l7_T {R : Type} (rec : Bool → Int → Int → Int → Int → List Int → Option R) (v0 : Bool) (v1 v2 v3 v4 : Int) (v5 : List Int) (K0 : Int → Int → Option R) (K1 : Unit → Option R) : Option R :=
 sel (decide (v3 < v4))
 (haystackref02_At v4 v5 v3
 (fun v6 => sel (!v6 == v0)
 (rec v0 v1 v2 (addW .i64 v3 1) v4 v5)
 (sel (decide (v2 = v1))
 (K0 v3 0)
 (rec v0 v1 (addW .i64 v2 1) (addW .i64 v3 1) v4 v5))))
 (K1 ())
noncomputable def haystackref08_Select_l7_L {R : Type} (K0 : Int → Int → Option R) (K1 : Unit → Option R) : Nat → Bool → Int → Int → Int → Int → List Int → Option R
 | 0, _, _, _, _, _, _ => none
 | N + 1, v0, v1, v2, v3, v4, v5 => haystackref08_Select_l7_T (haystackref08_Select_l7_L K0 K1 N) v0 v1 v2 v3 v4 v5 K0 K1
noncomputable def haystackref08_Select_l7_B {R : Type} (v0 : Bool) (v1 v2 v3 v4 : Int) (v5 : List Int) (K0 : Int → Int → Option R) (K1 : Unit → Option R) : Option R :=
 haystackref08_Select_l7_L K0 K1 NR v0 v1 v2 v3 v4 v5
noncomputable def haystackref08_Select_l7 {R : Type} := shut (@haystackref08_Select_l7_B R)
theorem haystackref08_Select_l7_unf {R : Type} : @haystackref08_Select_l7 R = @haystackref08_Select_l7_B R := shut_eq _

noncomputable def haystackref08_Select_B {R : Type} (v0 v1 v2 v3 : Int) (v4 : List Int) (v5 : Int) (v6 v7 v8 : List Int) (v9 : Bool) (va : Int) (K0 : Int → Int → Option R) : Option R :=
 haystackref08_Whole v0 v1 v2 v3 v4 v5 v6 v7 v8
 (fun vb vc vd => sel (!vd)
 (K0 0 2)
 (haystackref08_Select_l7 v9 va 0 0 vb vc
 (fun ve vf => K0 ve vf)
 (fun _ => K0 0 3)))
noncomputable def haystackref08_Select {R : Type} := shut (@haystackref08_Select_B R)
theorem haystackref08_Select_unf {R : Type} : @haystackref08_Select R = @haystackref08_Select_B R := shut_eq _

noncomputable def haystackref08_Bits_B {R : Type} (v0 v1 v2 v3 : Int) (v4 : List Int) (v5 : Int) (v6 v7 v8 : List Int) (K0 : Int → List Int → Option R) : Option R :=
 haystackref08_Whole v0 v1 v2 v3 v4 v5 v6 v7 v8
 (fun v9 va _ => K0 v9 va)
noncomputable def haystackref08_Bits {R : Type} := shut (@haystackref08_Bits_B R)
theorem haystackref08_Bits_unf {R : Type} : @haystackref08_Bits R = @haystackref08_Bits_B R := shut_eq _

noncomputable def haystacklaw08_RrrTells_j12_B {R : Type} (v0 v1 v2 v3 : Int) (v4 : List Int) (v5 : Int) (v6 v7 v8 : List Int) (K0 : Bool → Option R) : Option R :=
 rrr_Check v0 v1 v2 v3 v4 v5 v6 v7 v8
 (fun v9 => haystackref08_Check v0 v1 v2 v3 v4 v5 v6 v7 v8
 (fun va => sel (v9 == va)
 (rrr_Size v0 v1 v2 v3 v4 v5 v6 v7 v8
 (fun vb => haystackref08_Size v0 v1 v2 v3 v4 v5 v6 v7 v8
 (fun vc => sel (decide (vb = vc))
 (rrr_Bits v0 v1 v2 v3 v4 v5 v6 v7 v8
 (fun vd ve => haystackref08_Bits v0 v1 v2 v3 v4 v5 v6 v7 v8
 (fun vf vg => haystackref02_Same vd ve vf vg
 (fun vh => sel vh
 (haystacklaw08_heads 
 (fun vi => K0 vi))
 (K0 false)))))
 (K0 false))))
 (K0 false)))
noncomputable def haystacklaw08_RrrTells_j12 {R : Type} := shut (@haystacklaw08_RrrTells_j12_B R)
theorem haystacklaw08_RrrTells_j12_unf {R : Type} : @haystacklaw08_RrrTells_j12 R = @haystacklaw08_RrrTells_j12_B R := shut_eq _

noncomputable def haystacklaw08_RrrTells_j5_B {R : Type} (v0 : Bool) (v1 : Int) (v2 : Bool) (v3 v4 v5 v6 v7 : Int) (v8 : List Int) (v9 : Int) (va vb vc : List Int) (K0 : Bool → Option R) : Option R :=
 haystackref08_Access v4 v5 v6 v7 v8 v9 va vb vc v1
 (fun vd ve => rrr_Rank v4 v5 v6 v7 v8 v9 va vb vc v0 v1
 (fun vf vg => haystackref08_Rank v4 v5 v6 v7 v8 v9 va vb vc v0 v1
 (fun vh vi => rrr_Select v4 v5 v6 v7 v8 v9 va vb vc v0 v1
 (fun vj vk => haystackref08_Select v4 v5 v6 v7 v8 v9 va vb vc v0 v1
 (fun vl vm => sel (!v2 == vd)
 (K0 false)
 (sel (!decide (v3 = ve))
 (K0 false)
 (sel (!decide (vf = vh))
 (K0 false)
 (sel (!decide (vg = vi))
 (K0 false)
 (sel (!decide (vj = vl))
 (K0 false)
 (sel (!decide (vk = vm))
 (K0 false)
 (haystacklaw08_RrrTells_j12 v4 v5 v6 v7 v8 v9 va vb vc
 (fun vn => K0 vn))))))))))))
noncomputable def haystacklaw08_RrrTells_j5 {R : Type} := shut (@haystacklaw08_RrrTells_j5_B R)
theorem haystacklaw08_RrrTells_j5_unf {R : Type} : @haystacklaw08_RrrTells_j5 R = @haystacklaw08_RrrTells_j5_B R := shut_eq _

noncomputable def haystacklaw08_RrrTells_B {R : Type} (v0 v1 v2 v3 : Int) (v4 : List Int) (v5 : Int) (v6 v7 v8 : List Int) (v9 : Bool) (va : Int) (K0 : Bool → Option R) : Option R :=
 haystacklaw08_small v0 v1 v2 v3 v4 v5 v6 v7 v8
 (fun vb => sel (!vb)
 (haystacklaw08_heads 
 (fun vc => K0 vc))
 (rrr_Access v0 v1 v2 v3 v4 v5 v6 v7 v8 va
 (fun vd ve => haystacklaw08_RrrTells_j5 v9 va vd ve v0 v1 v2 v3 v4 v5 v6 v7 v8
 (fun vf => K0 vf))))
noncomputable def haystacklaw08_RrrTells {R : Type} := shut (@haystacklaw08_RrrTells_B R)
theorem haystacklaw08_RrrTells_unf {R : Type} : @haystacklaw08_RrrTells R = @haystacklaw08_RrrTells_B R := shut_eq _

/-- what is kept where -/
def kpt : List (Nat × List (Nat × List Nat)) := [(3, [(4002, [2]), (4001, [2]), (4000, [1])]), (4, [(12002, [6]), (12001, [6]), (12000, [3]), (5002, [6]), (5001, [6]), (5000, [1, 2, 3, 7, 8])]), (5, [(999999999, []), (999999998, []), (9000, [1, 2, 3, 4, 5, 6, 7, 8, 9, 10, 12, 14, 999999]), (8000, [1, 2, 3, 4, 5, 6, 7, 8, 9, 10, 12, 999999]), (7000, [1, 2, 3, 4, 5, 6, 7, 8, 9, 10, 999999]), (6000, [1, 2, 3, 4, 5, 6, 7, 8, 999999]), (5000, [1, 2, 3, 4, 5, 6, 999999]), (4002, [0]), (4001, [0]), (4000, [1, 2, 3, 4, 999999]), (3000, [1, 2, 999999]), (2000, [999999])]), (6, [(999999998, []), (18003, [2, 4, 5]), (18004, [1, 2, 4, 5, 6, 7]), (18002, [2, 3]), (18001, [1, 2, 4, 5, 6, 7]), (18000, [1, 2, 4, 5, 6, 7, 10, 4000004007]), (12003, [2, 4, 5]), (12004, [1, 2, 4, 5, 6, 7]), (12002, [2, 3]), (12001, [1, 2, 4, 5, 6, 7]), (12000, [1, 2, 4, 5, 6, 7, 3000004008, 3000004009]), (10003, [2, 4, 5]), (10002, [2, 3]), (10001, [1, 2, 4, 5, 6, 7]), (10000, [1, 2, 4, 5, 6, 7]), (8403, [2, 4, 5]), (8402, [2, 3]), (8401, []), (8400, [1, 2, 4, 5, 6, 7, 4000004007, 3000004008, 3000004009, 5000005000]), (5002, [2, 3]), (5001, [2, 3]), (5000, [1, 2, 4])]), (7, [(999999998, []), (13003, [2, 4, 5, 6]), (13004, [1, 2, 4, 5, 6, 7, 8]), (13002, [2, 3]), (13001, [1, 2, 4, 5, 6, 7, 8]), (13000, [1, 2, 4, 5, 6, 7, 8, 3000004008, 3000004009]), (11003, [2, 4, 5, 6]), (11002, [2, 3]), (11001, [1, 2, 4, 5, 6, 7, 8]), (11000, [1, 2, 4, 5, 6, 7, 8]), (9403, [2, 4, 5, 6]), (9402, [2, 3]), (9401, []), (9400, [1, 2, 4, 5, 6, 7, 8, 3000004008, 3000004009, 5000005000, 9000006000]), (2002, [2, 3]), (2001, [2, 3]), (2000, [1, 2])]), (8, [(999999998, [])]), (9, [(999999998, [])]), (10, [(999999998, [])]), (11, [(2000, [1, 999999])]), (12, [(999999998, []), (6002, [4, 5]), (6001, [4, 5]), (6000, [1, 2])]), (13, [(999999998, [])]), (14, [(999999998, []), (6002, [6, 7]), (6001, [6, 7]), (6000, [1, 2, 3])]), (15, [(999999998, []), (7002, [6, 7]), (7001, [6, 7]), (7000, [1, 2, 8])]), (16, [(999999998, []), (7404, [3, 4, 5, 8]), (7402, [6, 7]), (7401, []), (7400, [3, 4, 5, 8]), (6002, [6, 7]), (6001, [6, 7]), (6000, [3, 4, 5])]), (17, [(999999998, []), (7403, []), (7402, [6, 7]), (7401, []), (7400, [1, 2, 8, 10, 11])]), (18, [(999999998, [])]), (19, [(999999998, [])]), (20, [(5403, []), (5402, [4]), (5401, []), (5400, [2, 3, 5]), (4002, [4]), (4001, [4]), (4000, [2, 3])]), (21, [(999999998, [])]), (22, [(999999998, [])]), (23, [(4002, [2]), (4001, [2]), (4000, [1])]), (24, [(12002, [6, 7]), (12001, [6, 7]), (12000, [2, 10]), (8002, [6, 7]), (8001, [6, 7]), (8000, [1, 2, 3]), (5003, [1, 2, 3]), (5002, [6, 7]), (5001, [1, 2, 3]), (5000, [1, 2, 3, 23]), (3003, [1, 2, 3]), (3002, [6, 7]), (3001, [1, 2, 3]), (3000, [1, 2, 3, 11])]), (25, [(999999998, [])]), (26, [(999999998, [])]), (27, [(4002, [6, 7]), (4001, [6, 7]), (4000, [1, 2, 3, 6]), (3002, [6, 7]), (3001, [1, 2, 3, 6]), (3000, [1, 2, 3, 6, 26])]), (29, [(6403, [0, 1, 4, 6]), (6402, [4, 5]), (6401, []), (6400, [0, 1, 4, 6, 34, 35, 36]), (4002, [4, 5]), (4001, [4, 5]), (4000, [0, 1, 4]), (3002, [4, 5]), (3001, [0, 1, 4]), (3000, [0, 1, 4, 28])]), (30, [(4002, [2]), (4001, [2]), (4000, [1])]), (31, [(8403, [6, 7]), (8402, [4, 5]), (8401, []), (8400, [0, 6, 7, 8, 9]), (4002, [4, 5]), (4001, [4, 5]), (4000, [0, 1])]), (32, [(999999998, []), (6003, [5]), (6002, [4]), (6001, [1, 2, 5, 6]), (6000, [1, 2, 5, 6]), (4403, [5]), (4402, [4]), (4401, []), (4400, [1, 2, 5, 6])]), (33, [(999999998, []), (4403, [5]), (4402, [4]), (4401, []), (4400, [0, 1, 5, 6, 9000005000])]), (35, [(999999998, []), (11403, [0, 1, 4, 6]), (11404, [0, 1, 4, 6, 7]), (11405, [0, 1, 4, 6, 7]), (11402, [4, 5]), (11401, []), (11400, [0, 1, 4, 6, 7, 8, 9000006000]), (6403, [0, 1, 4, 6]), (6402, [4, 5]), (6401, []), (6400, [0, 1, 4, 6, 7, 9000006000]), (4002, [4, 5]), (4001, [4, 5]), (4000, [0, 1, 4]), (3002, [4, 5]), (3001, [0, 1, 4]), (3000, [0, 1, 4, 28])]), (36, [(4403, [2, 4, 5]), (4402, [2, 3]), (4401, []), (4400, [0, 2, 4, 5, 6])]), (38, [(5403, []), (5402, [4]), (5401, []), (5400, [0, 1, 5])]), (39, [(999999998, [])]), (40, [(999999998, []), (4002, [2, 3]), (4001, [2, 3]), (4000, [1, 2]), (3002, [2, 3]), (3001, [1, 2]), (3000, [1, 2, 26])]), (41, [(6002, [4, 5]), (6001, [4, 5]), (6000, [1, 2])]), (42, [(999999998, [])]), (43, [(6003, [5]), (6002, [4]), (6001, [1, 2, 5, 6]), (6000, [1, 2, 5, 6]), (4403, [5]), (4402, [4]), (4401, []), (4400, [1, 2, 5, 6])]), (44, [(999999998, []), (5403, []), (5402, []), (5401, []), (5400, [2, 3, 7, 8, 9])]), (45, [(999999998, []), (4002, [9]), (4001, [9]), (4000, [0, 1, 2, 4, 5])]), (47, [(5403, [0]), (5402, [4]), (5401, []), (5400, [0, 13, 14]), (4002, [4]), (4001, [4]), (4000, [0, 1])]), (50, [(999999998, [])]), (52, [(14003, [6, 8]), (14004, [0, 6, 7, 8, 9]), (14002, [4, 5]), (14001, [0, 6, 7, 8, 9]), (14000, [0, 6, 7, 8, 9, 10]), (9403, [6, 8]), (9402, [4, 5]), (9401, []), (9400, [0, 6, 7, 8, 9]), (4002, [4, 5]), (4001, [4, 5]), (4000, [0, 1])]), (54, [(6002, []), (6001, []), (6000, [2, 3, 6, 7, 36]), (5002, []), (5001, []), (5000, [2, 3, 6, 7])]), (55, [(6403, [1, 5]), (6402, [4]), (6401, []), (6400, [1, 5, 23, 24]), (4002, [4]), (4001, [4]), (4000, [0, 1])]), (57, [(4403, [3]), (4402, [2]), (4401, []), (4400, [3, 6, 7, 8])]), (58, [(4002, [2, 3]), (4001, [2, 3]), (4000, [0, 2]), (3002, [2, 3]), (3001, [0, 2]), (3000, [0, 2, 9])]), (60, [(6003, [3]), (6002, [2]), (6001, [0, 3, 4]), (6000, [0, 3, 4]), (4403, [3]), (4402, [2]), (4401, []), (4400, [0, 3, 4])]), (61, [(6003, [5]), (6002, [4]), (6001, [0, 1, 5, 6]), (6000, [0, 1, 5, 6]), (4403, [5]), (4402, [4]), (4401, []), (4400, [0, 1, 5, 6])]), (62, [(10403, [1, 5]), (10404, [0, 1, 5, 6]), (10405, [0, 1, 5, 6]), (10402, [4]), (10401, []), (10400, [0, 1, 5, 6, 7]), (7403, [1, 5]), (7402, [4]), (7401, []), (7400, [0, 1, 5, 6]), (4002, [4]), (4001, [4]), (4000, [0, 1])]), (63, [(3403, []), (3402, [2]), (3401, []), (3400, [0, 3])]), (65, [(4002, [2, 3]), (4001, [2, 3]), (4000, [0, 2]), (3002, [2, 3]), (3001, [0, 2]), (3000, [0, 2, 9])]), (67, [(999999998, [])]), (70, [(999999998, []), (17003, [2, 3]), (17004, [1, 2, 3, 4, 5, 6]), (17005, [1, 2, 3, 4, 5, 6, 8]), (17002, [2]), (17001, [1, 2, 3, 4, 5, 6, 8, 11, 13]), (17000, [1, 2, 3, 4, 5, 6, 8, 11, 13]), (15403, [2, 3]), (15404, [1, 2, 3, 4, 5, 6]), (15405, [1, 2, 3, 4, 5, 6, 8]), (15402, [2]), (15401, []), (15400, [1, 2, 3, 4, 5, 6, 8, 11, 13, 9000003000]), (14003, [2, 3]), (14004, [1, 2, 3, 4, 5, 6]), (14002, [2]), (14001, [1, 2, 3, 4, 5, 6]), (14000, [1, 2, 3, 4, 5, 6, 8, 11]), (6403, [2, 3]), (6402, [2]), (6401, []), (6400, [1, 2, 3, 4, 5, 6, 9000003000])]), (71, [(999999998, [])]), (74, [(999999998, []), (17003, [2, 4]), (17004, [1, 2, 4, 5, 48, 49, 50]), (17002, [2, 3]), (17001, [1, 2, 4, 5, 48, 49, 50]), (17000, [1, 2, 4, 5, 8, 11, 13, 48, 49, 50]), (16003, [2, 4]), (16004, [1, 2, 4, 5, 48, 49, 50]), (16002, [2, 3]), (16001, [1, 2, 4, 5, 8, 11, 13, 48, 49, 50]), (16000, [1, 2, 4, 5, 8, 11, 13, 48, 49, 50, 92]), (7403, [2, 4]), (7402, [2, 3]), (7401, []), (7400, [1, 2, 4, 5, 48, 49, 50, 4000004002]), (4002, [2, 3]), (4001, [2, 3]), (4000, [1, 2]), (3002, [2, 3]), (3001, [1, 2]), (3000, [1, 2, 44])]), (75, [(999999998, []), (4002, [4]), (4001, [4]), (4000, [2, 3, 5, 6]), (3002, [4]), (3001, [4]), (3000, [2, 3, 5])]), (76, [(10000, [4, 999999]), (9000, [3, 4, 9, 10, 999999]), (8000, [3, 4, 5, 9, 10, 999999]), (7000, [3, 4, 5, 9, 10, 999999]), (6000, [3, 4, 9, 10, 11, 999999]), (5403, [4]), (5402, [2]), (5401, []), (5400, [3, 4, 9, 10]), (5000, [3, 4, 9, 10, 999999]), (4000, [0, 3, 4, 999999]), (3000, [0, 3, 999999]), (2000, [0, 999999])]), (77, [(2403, []), (2402, []), (2401, []), (2400, [0, 4])]), (78, [(11002, [2]), (11001, [2]), (11000, [0, 2]), (8002, [2]), (8001, [2]), (8000, [0, 2]), (5002, [2]), (5001, [2]), (5000, [0, 2])]), (79, [(6003, [3]), (6002, [2]), (6001, [1, 3, 4]), (6000, [1, 3, 4]), (4403, [3]), (4402, [2]), (4401, []), (4400, [1, 3, 4, 5000003000])]), (80, [(8403, [8]), (8402, [6, 7]), (8401, []), (8400, [1, 2, 3, 8, 9]), (6002, [6, 7]), (6001, [6, 7]), (6000, [1, 2, 3]), (4002, [6, 7]), (4001, [6, 7]), (4000, [1, 2, 3])]), (81, [(8003, [8]), (8002, [6, 7]), (8001, [1, 2, 8, 9]), (8000, [1, 2, 8, 9]), (6403, [8]), (6402, [6, 7]), (6401, []), (6400, [1, 2, 8, 9])]), (83, [(13201, [0, 1, 2, 8, 9]), (13003, [9]), (13004, [1, 2, 8, 9, 10]), (13002, [6, 7]), (13001, [1, 2, 8, 9, 10]), (13000, [1, 2, 8, 9, 10, 11]), (7601, [0, 1, 2, 8, 9]), (7403, [9]), (7402, [6, 7]), (7401, []), (7400, [1, 2, 8, 9, 10]), (6702, [6, 7]), (6701, [6, 7]), (6700, [0, 1, 2, 8, 9])]), (85, [(6403, [3]), (6402, [2]), (6401, []), (6400, [1, 3, 12, 13])]), (86, [(5403, []), (5402, [4]), (5401, []), (5400, [0, 1, 12, 13])]), (87, [(5403, []), (5402, [4]), (5401, []), (5400, [0, 1, 12, 13])]), (88, [(6002, [4, 5]), (6001, [4, 5]), (6000, [1, 2])]), (89, [(5003, []), (5002, [4]), (5001, []), (5000, [12])])]
/-- what is handed back open -/
def lvt : List (Nat × List Nat) := [(27, [53]), (36, [65])]
noncomputable def V (f : FuncId) : Env := env (keepOf kpt) (vsOf (match lkN lvt f with | some l => l | none => []))
theorem D0 : Dom B0 V B0 T0 0 := Dom.nil base_nat

noncomputable def sp51 : Ev.Spec := fun args _ K => match args with
 | ([Ai v0]) => bits_words v0 (fun v1 => K (Ai v1))
 | _ => none
noncomputable def S51 := addS 51 sp51 B0
theorem D1 : Dom B0 V S51 T0 1 := Dom.s (m := 0) (n := 0) D0 D0 (O := (fun _ => none)) (fun _ _ _ _ => OrcOk.none _ _) fun args R K r h => by
 unfold sp51 at h; split at h
 · rw [bits_words_unf] at h; exact Eq.trans (by kernel_rfl) h
 · cases h

noncomputable def sp46 : Ev.Spec := fun args _ K => match args with
 | ([Ai v0]) => word_Mask v0 (fun v1 => K (Au v1))
 | _ => none
noncomputable def S46 := addS 46 sp46 S51
theorem D2 : Dom B0 V S46 T0 2 := Dom.s (m := 1) (n := 0) D1 D1 (O := (fun _ => none)) (fun _ _ _ _ => OrcOk.none _ _) fun args R K r h => by
 unfold sp46 at h; split at h
 · rw [word_Mask_unf] at h; exact Eq.trans (by kernel_rfl) h
 · cases h

noncomputable def o23_4000_in {R : Type} (K : Ex → St → Option R) (vs : List AV) (hh : H) : Option R := match vs, hh with
 | [Ap 0 0], [HA [Ai v0, Fu v1]] => bits_Check_j4 v0 v1 (fun v2 => K (Ex.ret) (St.mk (spread 40 0 [2] [Ab v2]) []))
 | _, _ => none

noncomputable def o23 : Nat → Option PSpec := lkN [(4000, fun st _ K => pickM 40 [1] st (o23_4000_in K))]
noncomputable def q23 : CallF := evFun (V 23) S46 T0 10

noncomputable def c23_4000 : Code := subC [1, 1] (bodyOf Tryz.f23)

theorem p23_4000 : PieceOk (V 23) q23 o23 23 0 (3998, 0, c23_4000) := .s (size := 40) (ss := [1]) (F := @o23_4000_in) (by kernel_rfl) fun R r K vs hh h => by
  unfold o23_4000_in at h; split at h
  · rw [bits_Check_j4_unf] at h; exact Eq.trans (by kernel_rfl) h
  · cases h

theorem pc23 : ∀ x ∈ [(3998, 0, c23_4000)], PieceOk (V 23) q23 o23 23 0 x := List.forall_mem_cons.2 ⟨p23_4000, fun _ h => nomatch h⟩

noncomputable def sp23 : Ev.Spec := fun args _ K => match args with
 | ([AV.agg (Blk.any [Ai v0, Fu v1])]) => bits_Check v0 v1 (fun v2 => K (Ab v2))
 | _ => none
noncomputable def S23 := addS 23 sp23 S46
theorem D3 : Dom B0 V S23 T0 3 := Dom.s (m := 2) (n := 0) D2 D2 (O := o23) (OrcOk.fn (fn0 := Tryz.f23) (by kernel_rfl) (by kernel_rfl) pc23) fun args R K r h => by
 unfold sp23 at h; split at h
 · rw [bits_Check_unf] at h; exact Eq.trans (by kernel_rfl) h
 · cases h

noncomputable def o78_5000_in {R : Type} (K : Ex → St → Option R) (vs : List AV) (hh : H) : Option R := match vs, hh with
 | [Au v0, Ai v1], [] => math_bits_Len64_j5 v0 v1 (fun v2 => K (Ex.ret) (St.mk (spread 25 0 [2] [Ai v2]) []))
 | _, _ => none

noncomputable def o78_8000_in {R : Type} (K : Ex → St → Option R) (vs : List AV) (hh : H) : Option R := match vs, hh with
 | [Au v0, Ai v1], [] => math_bits_Len64_j8 v0 v1 (fun v2 => K (Ex.ret) (St.mk (spread 25 0 [2] [Ai v2]) []))
 | _, _ => none

noncomputable def o78_11000_in {R : Type} (K : Ex → St → Option R) (vs : List AV) (hh : H) : Option R := match vs, hh with
 | [Au v0, Ai v1], [] => math_bits_Len64_j11 v0 v1 (fun v2 => K (Ex.ret) (St.mk (spread 25 0 [2] [Ai v2]) []))
 | _, _ => none

noncomputable def o78 : Nat → Option PSpec := lkN [(5000, fun st _ K => pickM 25 [0, 2] st (o78_5000_in K)), (8000, fun st _ K => pickM 25 [0, 2] st (o78_8000_in K)), (11000, fun st _ K => pickM 25 [0, 2] st (o78_11000_in K))]
noncomputable def q78 : CallF := evFun (V 78) S23 T0 10

noncomputable def c78_5000 : Code := subC [1, 1] (bodyOf Tryz.f78)

noncomputable def c78_8000 : Code := subC [1, 1, 1] (bodyOf Tryz.f78)

noncomputable def c78_11000 : Code := subC [1, 1, 1, 1] (bodyOf Tryz.f78)

theorem math_bits_Len64_j11_eq {R : Type} (K : Ex → St → Option R) (v0 v1 : Int) : evCode (V 78) q78 o78 78 0 3996 c78_11000 (St.mk (spread 25 0 [0, 2] [Au v0, Ai v1]) []) (kOut (V 78) 78 0 (Ev.keyOf c78_11000 * 1000 + 1) K) = math_bits_Len64_j11_B v0 v1 (fun v2 => K (Ex.ret) (St.mk (spread 25 0 [2] [Ai v2]) [])) := by kernel_rfl

theorem p78_5000 : PieceOk (V 78) q78 o78 78 0 (3998, 0, c78_5000) := .s (size := 25) (ss := [0, 2]) (F := @o78_5000_in) (by kernel_rfl) fun R r K vs hh h => by
  unfold o78_5000_in at h; split at h
  · rw [math_bits_Len64_j5_unf] at h; exact Eq.trans (by kernel_rfl) h
  · cases h

theorem p78_8000 : PieceOk (V 78) q78 o78 78 0 (3997, 0, c78_8000) := .s (size := 25) (ss := [0, 2]) (F := @o78_8000_in) (by kernel_rfl) fun R r K vs hh h => by
  unfold o78_8000_in at h; split at h
  · rw [math_bits_Len64_j8_unf] at h; exact Eq.trans (by kernel_rfl) h
  · cases h

theorem p78_11000 : PieceOk (V 78) q78 o78 78 0 (3996, 0, c78_11000) := .s (size := 25) (ss := [0, 2]) (F := @o78_11000_in) (by kernel_rfl) fun R r K vs hh h => by
  unfold o78_11000_in at h; split at h
  · rw [math_bits_Len64_j11_unf] at h; exact (math_bits_Len64_j11_eq K _ _).trans h
  · cases h

theorem pc78 : ∀ x ∈ [(3998, 0, c78_5000), (3997, 0, c78_8000), (3996, 0, c78_11000)], PieceOk (V 78) q78 o78 78 0 x := List.forall_mem_cons.2 ⟨p78_5000, List.forall_mem_cons.2 ⟨p78_8000, List.forall_mem_cons.2 ⟨p78_11000, fun _ h => nomatch h⟩⟩⟩

noncomputable def sp78 : Ev.Spec := fun args _ K => match args with
 | ([Au v0]) => math_bits_Len64 v0 (fun v1 => K (Ai v1))
 | _ => none
noncomputable def S78 := addS 78 sp78 S23
theorem D4 : Dom B0 V S78 T0 4 := Dom.s (m := 3) (n := 0) D3 D3 (O := o78) (OrcOk.fn (fn0 := Tryz.f78) (by kernel_rfl) (by kernel_rfl) pc78) fun args R K r h => by
 unfold sp78 at h; split at h
 · rw [math_bits_Len64_unf] at h; exact Eq.trans (by kernel_rfl) h
 · cases h

noncomputable def sp56 : Ev.Spec := fun args _ K => match args with
 | ([Au v0]) => word_Len v0 (fun v1 => K (Ai v1))
 | _ => none
noncomputable def S56 := addS 56 sp56 S78
theorem D5 : Dom B0 V S56 T0 5 := Dom.s (m := 4) (n := 0) D4 D4 (O := (fun _ => none)) (fun _ _ _ _ => OrcOk.none _ _) fun args R K r h => by
 unfold sp56 at h; split at h
 · rw [word_Len_unf] at h; exact Eq.trans (by kernel_rfl) h
 · cases h

noncomputable def o57_4400_in {R : Type} (K : Ex → St → Option R) (vs : List AV) (hh : H) : Option R := match vs, hh with
 | [Ai v0, Fu v1, Ai v2, Ai v3], [] => ints_width_l4 v0 v1 v2 v3 (fun v4 => K (Ex.exit 0) (St.mk (spread 18 0 [3] [Ai v4]) []))
 | _, _ => none

noncomputable def o57 : Nat → Option PSpec := lkN [(4400, fun st _ K => pickM 18 [3, 6, 7, 8] st (o57_4400_in K))]
noncomputable def q57 : CallF := evFun (V 57) S56 T0 10

noncomputable def c57_4400 : Code := subC [1, 1, 0, 1, 0, 0] (bodyOf Tryz.f57)

noncomputable def lp57_4400 {R : Type} (N : Nat) (st : St) (K : Ex → St → Option R) : Option R := evLoop (norm ((V 57).keep 57 (Ev.keyOf c57_4400 * 1000 + 400)) 0) (evCode (V 57) q57 o57 57 0 3994 c57_4400) N st (kOut (V 57) 57 0 (Ev.keyOf c57_4400 * 1000 + 401) K)

theorem ints_width_l4_L_eq {R : Type} (K : Ex → St → Option R) : ∀ N : Nat, (fun (v0 : Int) (v1 : List Int) (v2 v3 : Int) => lp57_4400 N (St.mk (spread 18 0 [3, 6, 7, 8] [Ai v0, Fu v1, Ai v2, Ai v3]) []) K) = ints_width_l4_L (fun v4 => K (Ex.exit 0) (St.mk (spread 18 0 [3] [Ai v4]) [])) N
  | 0 => by funext v0 v1 v2 v3; rfl
  | N + 1 => by
    funext v0 v1 v2 v3
    simp only [ints_width_l4_L]
    rw [← ints_width_l4_L_eq K N]
    kernel_rfl

theorem p57_4400 : PieceOk (V 57) q57 o57 57 0 (3994, 1, c57_4400) := .l (size := 18) (ss := [3, 6, 7, 8]) (F := @o57_4400_in) (by kernel_rfl) (by kernel_rfl) fun R r K vs hh h => by
  unfold o57_4400_in at h; split at h
  · rw [ints_width_l4_unf] at h; unfold ints_width_l4_B at h; rw [← ints_width_l4_L_eq K NR] at h; exact h
  · cases h

theorem pc57 : ∀ x ∈ [(3994, 1, c57_4400)], PieceOk (V 57) q57 o57 57 0 x := List.forall_mem_cons.2 ⟨p57_4400, fun _ h => nomatch h⟩

noncomputable def sp57 : Ev.Spec := fun args _ K => match args with
 | ([Fu v0]) => ints_width v0 (fun v1 => K (Ai v1))
 | _ => none
noncomputable def S57 := addS 57 sp57 S56
theorem D6 : Dom B0 V S57 T0 6 := Dom.s (m := 5) (n := 0) D5 D5 (O := o57) (OrcOk.fn (fn0 := Tryz.f57) (by kernel_rfl) (by kernel_rfl) pc57) fun args R K r h => by
 unfold sp57 at h; split at h
 · rw [ints_width_unf] at h; exact Eq.trans (by kernel_rfl) h
 · cases h

noncomputable def o58_3000_in {R : Type} (K : Ex → St → Option R) (vs : List AV) (hh : H) : Option R := match vs, hh with
 | [Ai v0, Ap 0 0, Ab v1], [HA [Ai v2, AV.esl]] => bits_New_j3 v0 v1 v2 (fun v3 v4 => K (Ex.ret) (St.mk (spread 16 0 [2, 3] [Ap 0 0, Ai v3]) [HA [Ai v4, AV.esl]])) (fun v3 v4 => K (Ex.normal) (St.mk (spread 16 0 [0, 2] [Ai v3, Ap 0 0]) [HA [Ai v4, AV.esl]]))
 | _, _ => none

noncomputable def o58_4000_in {R : Type} (K : Ex → St → Option R) (vs : List AV) (hh : H) : Option R := match vs, hh with
 | [Ai v0, Ap 0 0], [HA [Ai v1, AV.esl]] => bits_New_j4 v0 v1 (fun v2 v3 v4 v5 => K (Ex.ret) (St.mk (spread 16 0 [2, 3] [Ap 0 0, Ai v2]) [HA [Ai v3, AV.sl 1 0 v4 1], HU v5]))
 | _, _ => none

noncomputable def o58 : Nat → Option PSpec := lkN [(3000, fun st _ K => pickM 16 [0, 2, 9] st (o58_3000_in K)), (4000, fun st _ K => pickM 16 [0, 2] st (o58_4000_in K))]
noncomputable def q58 : CallF := evFun (V 58) S57 T0 10

noncomputable def c58_4000 : Code := subC [1, 1] (bodyOf Tryz.f58)

noncomputable def c58_3000 : Code := subC [1, 0, 1] (bodyOf Tryz.f58)

theorem p58_4000 : PieceOk (V 58) q58 o58 58 0 (3998, 0, c58_4000) := .s (size := 16) (ss := [0, 2]) (F := @o58_4000_in) (by kernel_rfl) fun R r K vs hh h => by
  unfold o58_4000_in at h; split at h
  · rw [bits_New_j4_unf] at h; exact Eq.trans (by kernel_rfl) h
  · cases h

theorem p58_3000 : PieceOk (V 58) q58 o58 58 0 (3997, 0, c58_3000) := .s (size := 16) (ss := [0, 2, 9]) (F := @o58_3000_in) (by kernel_rfl) fun R r K vs hh h => by
  unfold o58_3000_in at h; split at h
  · rw [bits_New_j3_unf] at h; exact Eq.trans (by kernel_rfl) h
  · cases h

theorem pc58 : ∀ x ∈ [(3998, 0, c58_4000), (3997, 0, c58_3000)], PieceOk (V 58) q58 o58 58 0 x := List.forall_mem_cons.2 ⟨p58_4000, List.forall_mem_cons.2 ⟨p58_3000, fun _ h => nomatch h⟩⟩

noncomputable def sp58 : Ev.Spec := fun args _ K => match args with
 | ([Ai v0]) => bits_New v0 (fun v1 v2 v3 => K (AV.tup [AV.agg (Blk.any [Ai v1, Fu v2]), Ai v3]))
 | _ => none
noncomputable def S58 := addS 58 sp58 S57
theorem D7 : Dom B0 V S58 T0 7 := Dom.s (m := 6) (n := 0) D6 D6 (O := o58) (OrcOk.fn (fn0 := Tryz.f58) (by kernel_rfl) (by kernel_rfl) pc58) fun args R K r h => by
 unfold sp58 at h; split at h
 · rw [bits_New_unf] at h; exact Eq.trans (by kernel_rfl) h
 · cases h

theorem bits_own_r_eq {R : Type} (K : AV → H → Option R) (v0 : Int) (v1 : List Int) (v2 : Int) : evH (V 53) S58 T0 (fun _ => none) 10 53 [AV.agg (Blk.any [Ai v0, Fu v1]), Ai v2] [] R K = bits_own_r_B v0 v1 v2 (fun v3 v4 v5 => K (AV.agg (Blk.any [Ai v3, AV.sl 0 0 v4 1])) ([HU v5])) := by kernel_rfl

noncomputable def hs53 : HSpec := fun args h _ K => match args, h with
 | [AV.agg (Blk.any [Ai v0, Fu v1]), Ai v2], [] => bits_own_r v0 v1 v2 (fun v3 v4 v5 => K (AV.agg (Blk.any [Ai v3, AV.sl 0 0 v4 1])) ([HU v5]))
 | _, _ => none
noncomputable def T53 := addT 53 hs53 T0
theorem D8 : Dom B0 V S58 T53 8 := Dom.t D7 fun args hh R K r h => by
 unfold hs53 at h; split at h
 · rw [bits_own_r_unf] at h; exact ⟨(fun _ => none), (fun _ _ _ _ => OrcOk.none _ _), (bits_own_r_eq K _ _ _).trans h⟩
 · cases h

noncomputable def o54r1_5000_in {R : Type} (K : Ex → St → Option R) (vs : List AV) (hh : H) : Option R := match vs, hh with
 | [Au v0, Ap 1 0, Ai v1, Ai v2], [HU v3, HA [Ai v4, AV.sl 0 0 v5 1]] => bits_fill_j5 v0 v1 v2 v3 v4 v5 (fun v6 => K (Ex.normal) (St.mk (spread 49 0 [] []) [HU v6]))
 | _, _ => none

noncomputable def o54r1_6000_in {R : Type} (K : Ex → St → Option R) (vs : List AV) (hh : H) : Option R := match vs, hh with
 | [Au v0, Ap 1 0, Ai v1, Ai v2, Ab v3], [HU v4, HA [Ai v5, AV.sl 0 0 v6 1]] => bits_fill_j6 v0 v1 v2 v3 v4 v5 v6 (fun v7 => K (Ex.normal) (St.mk (spread 49 0 [] []) [HU v7]))
 | _, _ => none

noncomputable def o54r1 : Nat → Option PSpec := lkN [(5000, fun st _ K => pickM 49 [2, 3, 6, 7] st (o54r1_5000_in K)), (6000, fun st _ K => pickM 49 [2, 3, 6, 7, 36] st (o54r1_6000_in K))]
noncomputable def q54r1 : CallF := evFun (V 54) S58 T53 10

noncomputable def c54r1_5000 : Code := subC [1, 1, 1] (bodyOf Tryz.f54)

noncomputable def c54r1_6000 : Code := subC [1, 1, 1, 1] (bodyOf Tryz.f54)

theorem p54r1_5000 : PieceOk (V 54) q54r1 o54r1 54 1 (3997, 0, c54r1_5000) := .s (size := 49) (ss := [2, 3, 6, 7]) (F := @o54r1_5000_in) (by kernel_rfl) fun R r K vs hh h => by
  unfold o54r1_5000_in at h; split at h
  · rw [bits_fill_j5_unf] at h; exact Eq.trans (by kernel_rfl) h
  · cases h

theorem p54r1_6000 : PieceOk (V 54) q54r1 o54r1 54 1 (3996, 0, c54r1_6000) := .s (size := 49) (ss := [2, 3, 6, 7, 36]) (F := @o54r1_6000_in) (by kernel_rfl) fun R r K vs hh h => by
  unfold o54r1_6000_in at h; split at h
  · rw [bits_fill_j6_unf] at h; exact Eq.trans (by kernel_rfl) h
  · cases h

theorem pc54r1 : ∀ x ∈ [(3997, 0, c54r1_5000), (3996, 0, c54r1_6000)], PieceOk (V 54) q54r1 o54r1 54 1 x := List.forall_mem_cons.2 ⟨p54r1_5000, List.forall_mem_cons.2 ⟨p54r1_6000, fun _ h => nomatch h⟩⟩

theorem bits_fill_r_eq {R : Type} (K : AV → H → Option R) (v0 : Int) (v1 : Nat) (v2 v3 : Int) (v4 : List Int) : evH (V 54) S58 T53 o54r1 10 54 [AV.agg (Blk.any [Ai v0, AV.sl 0 0 v1 1]), Ai v2, Au v3] [HU v4] R K = bits_fill_r_B v0 v1 v2 v3 v4 (fun v5 => K (AV.tup []) ([HU v5])) := by kernel_rfl

noncomputable def hs54 : HSpec := fun args h _ K => match args, h with
 | [AV.agg (Blk.any [Ai v0, AV.sl 0 0 v1 1]), Ai v2, Au v3], [HU v4] => bits_fill_r v0 v1 v2 v3 v4 (fun v5 => K (AV.tup []) ([HU v5]))
 | _, _ => none
noncomputable def T54 := addT 54 hs54 T53
theorem D9 : Dom B0 V S58 T54 9 := Dom.t D8 fun args hh R K r h => by
 unfold hs54 at h; split at h
 · rw [bits_fill_r_unf] at h; exact ⟨o54r1, (OrcOk.fn (fn0 := Tryz.f54) (by kernel_rfl) (by kernel_rfl) pc54r1), (bits_fill_r_eq K _ _ _ _ _).trans h⟩
 · cases h

noncomputable def o27_3000_in {R : Type} (K : Ex → St → Option R) (vs : List AV) (hh : H) : Option R := match vs, hh with
 | [Au v0, Ai v1, Ap 0 0, Ap 1 0, Ab v2], [HA [Ai v3, Fu v4], HA [Ai v5, AV.esl]] => bits_Append_j3 v0 v1 v2 v3 v4 v5 (fun v6 v7 v8 => K (Ex.ret) (St.mk (spread 43 0 [6, 7] [Ap 0 0, Ai v6]) [HA [Ai v7, Fu v8]])) (fun v6 v7 v8 v9 va => K (Ex.normal) (St.mk (spread 43 0 [1, 2, 3, 6] [Au v6, Ai v7, Ap 0 0, Ap 1 0]) [HA [Ai v8, Fu v9], HA [Ai va, AV.esl]]))
 | _, _ => none

noncomputable def o27_4000_in {R : Type} (K : Ex → St → Option R) (vs : List AV) (hh : H) : Option R := match vs, hh with
 | [Au v0, Ai v1, Ap 0 0, Ap 1 0], [HA [Ai v2, Fu v3], HA [Ai v4, AV.esl]] => bits_Append_j4 v0 v1 v2 v3 v4 (fun v5 v6 v7 v8 => K (Ex.ret) (St.mk (spread 43 0 [6, 7] [Ap 0 0, Ai v5]) [HA [Ai v6, AV.sl 1 0 v7 1], HU v8]))
 | _, _ => none

noncomputable def o27 : Nat → Option PSpec := lkN [(3000, fun st _ K => pickM 43 [1, 2, 3, 6, 26] st (o27_3000_in K)), (4000, fun st _ K => pickM 43 [1, 2, 3, 6] st (o27_4000_in K))]
noncomputable def q27 : CallF := evFun (V 27) S58 T54 10

noncomputable def c27_4000 : Code := subC [1, 1] (bodyOf Tryz.f27)

noncomputable def c27_3000 : Code := subC [1, 0, 1] (bodyOf Tryz.f27)

theorem p27_4000 : PieceOk (V 27) q27 o27 27 0 (3998, 0, c27_4000) := .s (size := 43) (ss := [1, 2, 3, 6]) (F := @o27_4000_in) (by kernel_rfl) fun R r K vs hh h => by
  unfold o27_4000_in at h; split at h
  · rw [bits_Append_j4_unf] at h; exact Eq.trans (by kernel_rfl) h
  · cases h

theorem p27_3000 : PieceOk (V 27) q27 o27 27 0 (3997, 0, c27_3000) := .s (size := 43) (ss := [1, 2, 3, 6, 26]) (F := @o27_3000_in) (by kernel_rfl) fun R r K vs hh h => by
  unfold o27_3000_in at h; split at h
  · rw [bits_Append_j3_unf] at h; exact Eq.trans (by kernel_rfl) h
  · cases h

theorem pc27 : ∀ x ∈ [(3998, 0, c27_4000), (3997, 0, c27_3000)], PieceOk (V 27) q27 o27 27 0 x := List.forall_mem_cons.2 ⟨p27_4000, List.forall_mem_cons.2 ⟨p27_3000, fun _ h => nomatch h⟩⟩

theorem bits_Append_eq {R : Type} (K : AV → Option R) (v0 : Int) (v1 : List Int) (v2 v3 : Int) : evSpec (V 27) S58 T54 o27 10 27 ([AV.agg (Blk.any [Ai v0, Fu v1]), Au v2, Ai v3]) R K = bits_Append_B v0 v1 v2 v3 (fun v4 v5 v6 => K (AV.tup [AV.agg (Blk.any [Ai v4, Fu v5]), Ai v6])) := by kernel_rfl

noncomputable def sp27 : Ev.Spec := fun args _ K => match args with
 | ([AV.agg (Blk.any [Ai v0, Fu v1]), Au v2, Ai v3]) => bits_Append v0 v1 v2 v3 (fun v4 v5 v6 => K (AV.tup [AV.agg (Blk.any [Ai v4, Fu v5]), Ai v6]))
 | _ => none
noncomputable def S27 := addS 27 sp27 S58
theorem D10 : Dom B0 V S27 T54 10 := Dom.s (m := 9) (n := 0) D9 D9 (O := o27) (OrcOk.fn (fn0 := Tryz.f27) (by kernel_rfl) (by kernel_rfl) pc27) fun args R K r h => by
 unfold sp27 at h; split at h
 · rw [bits_Append_unf] at h; exact (bits_Append_eq K _ _ _ _).trans h
 · cases h

noncomputable def o29_3000_in {R : Type} (K : Ex → St → Option R) (vs : List AV) (hh : H) : Option R := match vs, hh with
 | [Ai v0, Fu v1, Ap 0 0, Ab v2], [HA [Ai v3, Ai v4, Ai v5, AV.esl]] => ints_Make_j3 v0 v1 v2 v3 v4 v5 (fun v6 v7 v8 v9 => K (Ex.ret) (St.mk (spread 53 0 [4, 5] [Ap 0 0, Ai v6]) [HA [Ai v7, Ai v8, Ai v9, AV.esl]])) (fun v6 v7 v8 v9 va => K (Ex.normal) (St.mk (spread 53 0 [0, 1, 4] [Ai v6, Fu v7, Ap 0 0]) [HA [Ai v8, Ai v9, Ai va, AV.esl]]))
 | _, _ => none

noncomputable def o29_4000_in {R : Type} (K : Ex → St → Option R) (vs : List AV) (hh : H) : Option R := match vs, hh with
 | [Ai v0, Fu v1, Ap 0 0], [HA [Ai v2, Ai v3, Ai v4, AV.esl]] => ints_Make_j4 v0 v1 v2 v3 v4 (fun v5 v6 v7 v8 v9 => K (Ex.ret) (St.mk (spread 53 0 [4, 5] [Ap 0 0, Ai v5]) [HA [Ai v6, Ai v7, Ai v8, Fu v9]]))
 | _, _ => none

noncomputable def o29_6400_in {R : Type} (K : Ex → St → Option R) (vs : List AV) (hh : H) : Option R := match vs, hh with
 | [Ai v0, Fu v1, Ap 0 0, Ap 1 0, Fu v2, Ai v3, Ai v4], [HA [Ai v5, Ai v6, Ai v7, AV.esl], HA [Ai v8, Fu v9]] => ints_Make_l6 v0 v1 v2 v3 v4 v5 v6 v7 v8 v9 (fun va vb vc vd ve vf vg => K (Ex.exit 0) (St.mk (spread 53 0 [0, 1, 4, 6] [Ai va, Fu vb, Ap 0 0, Ap 1 0]) [HA [Ai vc, Ai vd, Ai ve, AV.esl], HA [Ai vf, Fu vg]]))
 | _, _ => none

noncomputable def o29 : Nat → Option PSpec := lkN [(3000, fun st _ K => pickM 53 [0, 1, 4, 28] st (o29_3000_in K)), (4000, fun st _ K => pickM 53 [0, 1, 4] st (o29_4000_in K)), (6400, fun st _ K => pickM 53 [0, 1, 4, 6, 34, 35, 36] st (o29_6400_in K))]
noncomputable def q29 : CallF := evFun (V 29) S27 T54 10

noncomputable def c29_4000 : Code := subC [1, 1] (bodyOf Tryz.f29)

noncomputable def c29_3000 : Code := subC [1, 0, 1] (bodyOf Tryz.f29)

noncomputable def c29_6400 : Code := subC [1, 1, 1, 0, 1, 0, 0] (bodyOf Tryz.f29)

noncomputable def lp29_6400 {R : Type} (N : Nat) (st : St) (K : Ex → St → Option R) : Option R := evLoop (norm ((V 29).keep 29 (Ev.keyOf c29_6400 * 1000 + 400)) 0) (evCode (V 29) q29 o29 29 0 3993 c29_6400) N st (kOut (V 29) 29 0 (Ev.keyOf c29_6400 * 1000 + 401) K)

theorem ints_Make_l6_L_eq {R : Type} (K : Ex → St → Option R) : ∀ N : Nat, (fun (v0 : Int) (v1 v2 : List Int) (v3 v4 v5 v6 v7 v8 : Int) (v9 : List Int) => lp29_6400 N (St.mk (spread 53 0 [0, 1, 4, 6, 34, 35, 36] [Ai v0, Fu v1, Ap 0 0, Ap 1 0, Fu v2, Ai v3, Ai v4]) [HA [Ai v5, Ai v6, Ai v7, AV.esl], HA [Ai v8, Fu v9]]) K) = ints_Make_l6_L (fun va vb vc vd ve vf vg => K (Ex.exit 0) (St.mk (spread 53 0 [0, 1, 4, 6] [Ai va, Fu vb, Ap 0 0, Ap 1 0]) [HA [Ai vc, Ai vd, Ai ve, AV.esl], HA [Ai vf, Fu vg]])) N
  | 0 => by funext v0 v1 v2 v3 v4 v5 v6 v7 v8 v9; rfl
  | N + 1 => by
    funext v0 v1 v2 v3 v4 v5 v6 v7 v8 v9
    simp only [ints_Make_l6_L]
    rw [← ints_Make_l6_L_eq K N]
    kernel_rfl

theorem p29_4000 : PieceOk (V 29) q29 o29 29 0 (3998, 0, c29_4000) := .s (size := 53) (ss := [0, 1, 4]) (F := @o29_4000_in) (by kernel_rfl) fun R r K vs hh h => by
  unfold o29_4000_in at h; split at h
  · rw [ints_Make_j4_unf] at h; exact Eq.trans (by kernel_rfl) h
  · cases h

theorem p29_3000 : PieceOk (V 29) q29 o29 29 0 (3997, 0, c29_3000) := .s (size := 53) (ss := [0, 1, 4, 28]) (F := @o29_3000_in) (by kernel_rfl) fun R r K vs hh h => by
  unfold o29_3000_in at h; split at h
  · rw [ints_Make_j3_unf] at h; exact Eq.trans (by kernel_rfl) h
  · cases h

theorem p29_6400 : PieceOk (V 29) q29 o29 29 0 (3993, 1, c29_6400) := .l (size := 53) (ss := [0, 1, 4, 6, 34, 35, 36]) (F := @o29_6400_in) (by kernel_rfl) (by kernel_rfl) fun R r K vs hh h => by
  unfold o29_6400_in at h; split at h
  · rw [ints_Make_l6_unf] at h; unfold ints_Make_l6_B at h; rw [← ints_Make_l6_L_eq K NR] at h; exact h
  · cases h

theorem pc29 : ∀ x ∈ [(3998, 0, c29_4000), (3997, 0, c29_3000), (3993, 1, c29_6400)], PieceOk (V 29) q29 o29 29 0 x := List.forall_mem_cons.2 ⟨p29_4000, List.forall_mem_cons.2 ⟨p29_3000, List.forall_mem_cons.2 ⟨p29_6400, fun _ h => nomatch h⟩⟩⟩

theorem ints_Make_eq {R : Type} (K : AV → Option R) (v0 : Int) (v1 : List Int) : evSpec (V 29) S27 T54 o29 10 29 ([Ai v0, Fu v1]) R K = ints_Make_B v0 v1 (fun v2 v3 v4 v5 v6 => K (AV.tup [AV.agg (Blk.any [Ai v2, Ai v3, Ai v4, Fu v5]), Ai v6])) := by kernel_rfl

noncomputable def sp29 : Ev.Spec := fun args _ K => match args with
 | ([Ai v0, Fu v1]) => ints_Make v0 v1 (fun v2 v3 v4 v5 v6 => K (AV.tup [AV.agg (Blk.any [Ai v2, Ai v3, Ai v4, Fu v5]), Ai v6]))
 | _ => none
noncomputable def S29 := addS 29 sp29 S27
theorem D11 : Dom B0 V S29 T54 11 := Dom.s (m := 10) (n := 0) D10 D10 (O := o29) (OrcOk.fn (fn0 := Tryz.f29) (by kernel_rfl) (by kernel_rfl) pc29) fun args R K r h => by
 unfold sp29 at h; split at h
 · rw [ints_Make_unf] at h; exact (ints_Make_eq K _ _).trans h
 · cases h

noncomputable def o24_3000_in {R : Type} (K : Ex → St → Option R) (vs : List AV) (hh : H) : Option R := match vs, hh with
 | [Ai v0, Ai v1, Ap 0 0, Ab v2], [HA [Ai v3, Fu v4]] => bits_Slice_j3 v0 v1 v2 v3 v4 (fun v5 v6 => K (Ex.ret) (St.mk (spread 73 0 [6, 7] [Au v5, Ai v6]) [])) (fun v5 v6 v7 v8 => K (Ex.normal) (St.mk (spread 73 0 [1, 2, 3] [Ai v5, Ai v6, Ap 0 0]) [HA [Ai v7, Fu v8]]))
 | _, _ => none

noncomputable def o24_5000_in {R : Type} (K : Ex → St → Option R) (vs : List AV) (hh : H) : Option R := match vs, hh with
 | [Ai v0, Ai v1, Ap 0 0, Ab v2], [HA [Ai v3, Fu v4]] => bits_Slice_j5 v0 v1 v2 v3 v4 (fun v5 v6 => K (Ex.ret) (St.mk (spread 73 0 [6, 7] [Au v5, Ai v6]) [])) (fun v5 v6 v7 v8 => K (Ex.normal) (St.mk (spread 73 0 [1, 2, 3] [Ai v5, Ai v6, Ap 0 0]) [HA [Ai v7, Fu v8]]))
 | _, _ => none

noncomputable def o24_8000_in {R : Type} (K : Ex → St → Option R) (vs : List AV) (hh : H) : Option R := match vs, hh with
 | [Ai v0, Ai v1, Ap 0 0], [HA [Ai v2, Fu v3]] => bits_Slice_j8 v0 v1 v2 v3 (fun v4 v5 => K (Ex.ret) (St.mk (spread 73 0 [6, 7] [Au v4, Ai v5]) []))
 | _, _ => none

noncomputable def o24_12000_in {R : Type} (K : Ex → St → Option R) (vs : List AV) (hh : H) : Option R := match vs, hh with
 | [Ai v0, Au v1], [] => bits_Slice_j12 v0 v1 (fun v2 v3 => K (Ex.ret) (St.mk (spread 73 0 [6, 7] [Au v2, Ai v3]) []))
 | _, _ => none

noncomputable def o24 : Nat → Option PSpec := lkN [(3000, fun st _ K => pickM 73 [1, 2, 3, 11] st (o24_3000_in K)), (5000, fun st _ K => pickM 73 [1, 2, 3, 23] st (o24_5000_in K)), (8000, fun st _ K => pickM 73 [1, 2, 3] st (o24_8000_in K)), (12000, fun st _ K => pickM 73 [2, 10] st (o24_12000_in K))]
noncomputable def q24 : CallF := evFun (V 24) S29 T54 10

noncomputable def c24_8000 : Code := subC [1, 1] (bodyOf Tryz.f24)

noncomputable def c24_3000 : Code := subC [1, 0, 0, 1] (bodyOf Tryz.f24)

noncomputable def c24_5000 : Code := subC [1, 0, 0, 1, 1, 1] (bodyOf Tryz.f24)

noncomputable def c24_12000 : Code := subC [1, 1, 1, 1, 1] (bodyOf Tryz.f24)

theorem bits_Slice_j8_eq {R : Type} (K : Ex → St → Option R) (v0 v1 v2 : Int) (v3 : List Int) : evCode (V 24) q24 o24 24 0 3998 c24_8000 (St.mk (spread 73 0 [1, 2, 3] [Ai v0, Ai v1, Ap 0 0]) [HA [Ai v2, Fu v3]]) (kOut (V 24) 24 0 (Ev.keyOf c24_8000 * 1000 + 1) K) = bits_Slice_j8_B v0 v1 v2 v3 (fun v4 v5 => K (Ex.ret) (St.mk (spread 73 0 [6, 7] [Au v4, Ai v5]) [])) := by kernel_rfl

theorem p24_8000 : PieceOk (V 24) q24 o24 24 0 (3998, 0, c24_8000) := .s (size := 73) (ss := [1, 2, 3]) (F := @o24_8000_in) (by kernel_rfl) fun R r K vs hh h => by
  unfold o24_8000_in at h; split at h
  · rw [bits_Slice_j8_unf] at h; exact (bits_Slice_j8_eq K _ _ _ _).trans h
  · cases h

theorem p24_3000 : PieceOk (V 24) q24 o24 24 0 (3996, 0, c24_3000) := .s (size := 73) (ss := [1, 2, 3, 11]) (F := @o24_3000_in) (by kernel_rfl) fun R r K vs hh h => by
  unfold o24_3000_in at h; split at h
  · rw [bits_Slice_j3_unf] at h; exact Eq.trans (by kernel_rfl) h
  · cases h

theorem p24_5000 : PieceOk (V 24) q24 o24 24 0 (3994, 0, c24_5000) := .s (size := 73) (ss := [1, 2, 3, 23]) (F := @o24_5000_in) (by kernel_rfl) fun R r K vs hh h => by
  unfold o24_5000_in at h; split at h
  · rw [bits_Slice_j5_unf] at h; exact Eq.trans (by kernel_rfl) h
  · cases h

theorem p24_12000 : PieceOk (V 24) q24 o24 24 0 (3995, 0, c24_12000) := .s (size := 73) (ss := [2, 10]) (F := @o24_12000_in) (by kernel_rfl) fun R r K vs hh h => by
  unfold o24_12000_in at h; split at h
  · rw [bits_Slice_j12_unf] at h; exact Eq.trans (by kernel_rfl) h
  · cases h

theorem pc24 : ∀ x ∈ [(3998, 0, c24_8000), (3996, 0, c24_3000), (3994, 0, c24_5000), (3995, 0, c24_12000)], PieceOk (V 24) q24 o24 24 0 x := List.forall_mem_cons.2 ⟨p24_8000, List.forall_mem_cons.2 ⟨p24_3000, List.forall_mem_cons.2 ⟨p24_5000, List.forall_mem_cons.2 ⟨p24_12000, fun _ h => nomatch h⟩⟩⟩⟩

noncomputable def sp24 : Ev.Spec := fun args _ K => match args with
 | ([AV.agg (Blk.any [Ai v0, Fu v1]), Ai v2, Ai v3]) => bits_Slice v0 v1 v2 v3 (fun v4 v5 => K (AV.tup [Au v4, Ai v5]))
 | _ => none
noncomputable def S24 := addS 24 sp24 S29
theorem D12 : Dom B0 V S24 T54 12 := Dom.s (m := 11) (n := 0) D11 D11 (O := o24) (OrcOk.fn (fn0 := Tryz.f24) (by kernel_rfl) (by kernel_rfl) pc24) fun args R K r h => by
 unfold sp24 at h; split at h
 · rw [bits_Slice_unf] at h; exact Eq.trans (by kernel_rfl) h
 · cases h

noncomputable def sp26 : Ev.Spec := fun args _ K => match args with
 | [] => rrr_none (fun v0 v1 => K (AV.agg (Blk.any [Ai v0, Au v1])))
 | _ => none
noncomputable def S26 := addS 26 sp26 S24
theorem D13 : Dom B0 V S26 T54 13 := Dom.s (m := 12) (n := 0) D12 D12 (O := (fun _ => none)) (fun _ _ _ _ => OrcOk.none _ _) fun args R K r h => by
 unfold sp26 at h; split at h
 · rw [rrr_none_unf] at h; exact Eq.trans (by kernel_rfl) h
 · cases h

theorem math_bits_OnesCount64_eq {R : Type} (K : AV → Option R) (v0 : Int) : evSpec (V 73) S26 T54 (fun _ => none) 10 73 ([Au v0]) R K = math_bits_OnesCount64_B v0 (fun v1 => K (Ai v1)) := by kernel_rfl

noncomputable def sp73 : Ev.Spec := fun args _ K => match args with
 | ([Au v0]) => math_bits_OnesCount64 v0 (fun v1 => K (Ai v1))
 | _ => none
noncomputable def S73 := addS 73 sp73 S26
theorem D14 : Dom B0 V S73 T54 14 := Dom.s (m := 13) (n := 0) D13 D13 (O := (fun _ => none)) (fun _ _ _ _ => OrcOk.none _ _) fun args R K r h => by
 unfold sp73 at h; split at h
 · rw [math_bits_OnesCount64_unf] at h; exact (math_bits_OnesCount64_eq K _).trans h
 · cases h

noncomputable def sp48 : Ev.Spec := fun args _ K => match args with
 | ([Au v0]) => word_Pop v0 (fun v1 => K (Ai v1))
 | _ => none
noncomputable def S48 := addS 48 sp48 S73
theorem D15 : Dom B0 V S48 T54 15 := Dom.s (m := 14) (n := 0) D14 D14 (O := (fun _ => none)) (fun _ _ _ _ => OrcOk.none _ _) fun args R K r h => by
 unfold sp48 at h; split at h
 · rw [word_Pop_unf] at h; exact Eq.trans (by kernel_rfl) h
 · cases h

noncomputable def o77r1_2400_in {R : Type} (K : Ex → St → Option R) (vs : List AV) (hh : H) : Option R := match vs, hh with
 | [Ap 0 0, Ai v0], [HU v1] => binom_row_next_l2 v0 v1 (fun v2 => K (Ex.exit 0) (St.mk (spread 25 0 [] []) [HU v2]))
 | _, _ => none

noncomputable def o77r1 : Nat → Option PSpec := lkN [(2400, fun st _ K => pickM 25 [0, 4] st (o77r1_2400_in K))]
noncomputable def q77r1 : CallF := evFun (V 77) S48 T54 10

noncomputable def c77r1_2400 : Code := subC [1, 0, 0] (bodyOf Tryz.f77)

noncomputable def lp77r1_2400 {R : Type} (N : Nat) (st : St) (K : Ex → St → Option R) : Option R := evLoop (norm ((V 77).keep 77 (Ev.keyOf c77r1_2400 * 1000 + 400)) 1) (evCode (V 77) q77r1 o77r1 77 1 3997 c77r1_2400) N st (kOut (V 77) 77 1 (Ev.keyOf c77r1_2400 * 1000 + 401) K)

theorem binom_row_next_l2_L_eq {R : Type} (K : Ex → St → Option R) : ∀ N : Nat, (fun (v0 : Int) (v1 : List Int) => lp77r1_2400 N (St.mk (spread 25 0 [0, 4] [Ap 0 0, Ai v0]) [HU v1]) K) = binom_row_next_l2_L (fun v2 => K (Ex.exit 0) (St.mk (spread 25 0 [] []) [HU v2])) N
  | 0 => by funext v0 v1; rfl
  | N + 1 => by
    funext v0 v1
    simp only [binom_row_next_l2_L]
    rw [← binom_row_next_l2_L_eq K N]
    kernel_rfl

theorem p77r1_2400 : PieceOk (V 77) q77r1 o77r1 77 1 (3997, 1, c77r1_2400) := .l (size := 25) (ss := [0, 4]) (F := @o77r1_2400_in) (by kernel_rfl) (by kernel_rfl) fun R r K vs hh h => by
  unfold o77r1_2400_in at h; split at h
  · rw [binom_row_next_l2_unf] at h; unfold binom_row_next_l2_B at h; rw [← binom_row_next_l2_L_eq K NR] at h; exact h
  · cases h

theorem pc77r1 : ∀ x ∈ [(3997, 1, c77r1_2400)], PieceOk (V 77) q77r1 o77r1 77 1 x := List.forall_mem_cons.2 ⟨p77r1_2400, fun _ h => nomatch h⟩

noncomputable def hs77 : HSpec := fun args h _ K => match args, h with
 | [Ap 0 0, Ai v0], [HU v1] => binom_row_next_r v0 v1 (fun v2 => K (AV.tup []) ([HU v2]))
 | _, _ => none
noncomputable def T77 := addT 77 hs77 T54
theorem D16 : Dom B0 V S48 T77 16 := Dom.t D15 fun args hh R K r h => by
 unfold hs77 at h; split at h
 · rw [binom_row_next_r_unf] at h; exact ⟨o77r1, (OrcOk.fn (fn0 := Tryz.f77) (by kernel_rfl) (by kernel_rfl) pc77r1), Eq.trans (by kernel_rfl) h⟩
 · cases h

noncomputable def o76_5400_in {R : Type} (K : Ex → St → Option R) (vs : List AV) (hh : H) : Option R := match vs, hh with
 | [Ap 0 0, AV.sl 1 0 v0 1, Ai v1, Ai v2], [HU v3, HB.live (Blk.cols [Col.fints .u64 v4] [])] => binom_rows_l5 v0 v1 v2 v3 v4 (fun v5 v6 => K (Ex.exit 0) (St.mk (spread 25 0 [4] [AV.sl 0 0 v5 1]) [HB.live (Blk.cols [Col.fints .u64 v6] [])]))
 | _, _ => none

noncomputable def o76 : Nat → Option PSpec := lkN [(5400, fun st _ K => pickM 25 [3, 4, 9, 10] st (o76_5400_in K))]
noncomputable def q76 : CallF := evFun (V 76) S48 T77 10

noncomputable def c76_5400 : Code := subC [1, 1, 1, 0, 1, 0, 0] (bodyOf Tryz.f76)

noncomputable def lp76_5400 {R : Type} (N : Nat) (st : St) (K : Ex → St → Option R) : Option R := evLoop (norm ((V 76).keep 76 (Ev.keyOf c76_5400 * 1000 + 400)) 0) (evCode (V 76) q76 o76 76 0 3993 c76_5400) N st (kOut (V 76) 76 0 (Ev.keyOf c76_5400 * 1000 + 401) K)

theorem binom_rows_l5_L_eq {R : Type} (K : Ex → St → Option R) : ∀ N : Nat, (fun (v0 : Nat) (v1 v2 : Int) (v3 : List Int) (v4 : List (List Int)) => lp76_5400 N (St.mk (spread 25 0 [3, 4, 9, 10] [Ap 0 0, AV.sl 1 0 v0 1, Ai v1, Ai v2]) [HU v3, HB.live (Blk.cols [Col.fints .u64 v4] [])]) K) = binom_rows_l5_L (fun v5 v6 => K (Ex.exit 0) (St.mk (spread 25 0 [4] [AV.sl 0 0 v5 1]) [HB.live (Blk.cols [Col.fints .u64 v6] [])])) N
  | 0 => by funext v0 v1 v2 v3 v4; rfl
  | N + 1 => by
    funext v0 v1 v2 v3 v4
    simp only [binom_rows_l5_L]
    rw [← binom_rows_l5_L_eq K N]
    kernel_rfl

theorem p76_5400 : PieceOk (V 76) q76 o76 76 0 (3993, 1, c76_5400) := .l (size := 25) (ss := [3, 4, 9, 10]) (F := @o76_5400_in) (by kernel_rfl) (by kernel_rfl) fun R r K vs hh h => by
  unfold o76_5400_in at h; split at h
  · rw [binom_rows_l5_unf] at h; unfold binom_rows_l5_B at h; rw [← binom_rows_l5_L_eq K NR] at h; exact h
  · cases h

theorem pc76 : ∀ x ∈ [(3993, 1, c76_5400)], PieceOk (V 76) q76 o76 76 0 x := List.forall_mem_cons.2 ⟨p76_5400, fun _ h => nomatch h⟩

noncomputable def sp76 : Ev.Spec := fun args _ K => match args with
 | ([Ai v0]) => binom_rows v0 (fun v1 => K (AV.fsl (Blk.cols [Col.fints .u64 v1] [])))
 | _ => none
noncomputable def S76 := addS 76 sp76 S48
theorem D17 : Dom B0 V S76 T77 17 := Dom.s (m := 16) (n := 0) D16 D16 (O := o76) (OrcOk.fn (fn0 := Tryz.f76) (by kernel_rfl) (by kernel_rfl) pc76) fun args R K r h => by
 unfold sp76 at h; split at h
 · rw [binom_rows_unf] at h; exact Eq.trans (by kernel_rfl) h
 · cases h

noncomputable def o52_4000_in {R : Type} (K : Ex → St → Option R) (vs : List AV) (hh : H) : Option R := match vs, hh with
 | [Au v0, Ai v1], [] => binom_Offset_j4 v0 v1 (fun v2 v3 => K (Ex.ret) (St.mk (spread 51 0 [4, 5] [Ai v2, Au v3]) []))
 | _, _ => none

noncomputable def o52_9400_in {R : Type} (K : Ex → St → Option R) (vs : List AV) (hh : H) : Option R := match vs, hh with
 | [Au v0, Ai v1, AV.fsl (Blk.cols [Col.fints .u64 v2] []), Au v3, Ai v4], [] => binom_Offset_l9 v0 v1 v2 v3 v4 (fun v5 v6 => K (Ex.exit 0) (St.mk (spread 51 0 [6, 8] [Ai v5, Au v6]) []))
 | _, _ => none

noncomputable def o52_14000_in {R : Type} (K : Ex → St → Option R) (vs : List AV) (hh : H) : Option R := match vs, hh with
 | [Au v0, Ai v1, AV.fsl (Blk.cols [Col.fints .u64 v2] []), Au v3, Ai v4, Ai v5], [] => binom_Offset_j14 v0 v1 v2 v3 v4 v5 (fun v6 v7 v8 v9 va => K (Ex.normal) (St.mk (spread 51 0 [0, 6, 7, 8, 9] [Au v6, Ai v7, AV.fsl (Blk.cols [Col.fints .u64 v8] []), Au v9, Ai va]) []))
 | _, _ => none

noncomputable def o52 : Nat → Option PSpec := lkN [(4000, fun st _ K => pickM 51 [0, 1] st (o52_4000_in K)), (9400, fun st _ K => pickM 51 [0, 6, 7, 8, 9] st (o52_9400_in K)), (14000, fun st _ K => pickM 51 [0, 6, 7, 8, 9, 10] st (o52_14000_in K))]
noncomputable def q52 : CallF := evFun (V 52) S76 T77 10

noncomputable def c52_4000 : Code := subC [1, 1] (bodyOf Tryz.f52)

noncomputable def c52_9400 : Code := subC [1, 1, 1, 1, 1, 1, 0, 1, 0, 0] (bodyOf Tryz.f52)

noncomputable def lp52_9400 {R : Type} (N : Nat) (st : St) (K : Ex → St → Option R) : Option R := evLoop (norm ((V 52).keep 52 (Ev.keyOf c52_9400 * 1000 + 400)) 0) (evCode (V 52) q52 o52 52 0 3990 c52_9400) N st (kOut (V 52) 52 0 (Ev.keyOf c52_9400 * 1000 + 401) K)

noncomputable def c52_14000 : Code := subC [1, 1, 1, 1, 1, 1, 0, 1, 0, 0, 1, 0, 0, 1, 1] (bodyOf Tryz.f52)

theorem binom_Offset_l9_L_eq {R : Type} (K : Ex → St → Option R) : ∀ N : Nat, (fun (v0 v1 : Int) (v2 : List (List Int)) (v3 v4 : Int) => lp52_9400 N (St.mk (spread 51 0 [0, 6, 7, 8, 9] [Au v0, Ai v1, AV.fsl (Blk.cols [Col.fints .u64 v2] []), Au v3, Ai v4]) []) K) = binom_Offset_l9_L (fun v5 v6 => K (Ex.exit 0) (St.mk (spread 51 0 [6, 8] [Ai v5, Au v6]) [])) N
  | 0 => by funext v0 v1 v2 v3 v4; rfl
  | N + 1 => by
    funext v0 v1 v2 v3 v4
    simp only [binom_Offset_l9_L]
    rw [← binom_Offset_l9_L_eq K N]
    kernel_rfl

theorem p52_4000 : PieceOk (V 52) q52 o52 52 0 (3998, 0, c52_4000) := .s (size := 51) (ss := [0, 1]) (F := @o52_4000_in) (by kernel_rfl) fun R r K vs hh h => by
  unfold o52_4000_in at h; split at h
  · rw [binom_Offset_j4_unf] at h; exact Eq.trans (by kernel_rfl) h
  · cases h

theorem p52_9400 : PieceOk (V 52) q52 o52 52 0 (3990, 1, c52_9400) := .l (size := 51) (ss := [0, 6, 7, 8, 9]) (F := @o52_9400_in) (by kernel_rfl) (by kernel_rfl) fun R r K vs hh h => by
  unfold o52_9400_in at h; split at h
  · rw [binom_Offset_l9_unf] at h; unfold binom_Offset_l9_B at h; rw [← binom_Offset_l9_L_eq K NR] at h; exact h
  · cases h

theorem p52_14000 : PieceOk (V 52) q52 o52 52 0 (3985, 0, c52_14000) := .s (size := 51) (ss := [0, 6, 7, 8, 9, 10]) (F := @o52_14000_in) (by kernel_rfl) fun R r K vs hh h => by
  unfold o52_14000_in at h; split at h
  · rw [binom_Offset_j14_unf] at h; exact Eq.trans (by kernel_rfl) h
  · cases h

theorem pc52 : ∀ x ∈ [(3998, 0, c52_4000), (3990, 1, c52_9400), (3985, 0, c52_14000)], PieceOk (V 52) q52 o52 52 0 x := List.forall_mem_cons.2 ⟨p52_4000, List.forall_mem_cons.2 ⟨p52_9400, List.forall_mem_cons.2 ⟨p52_14000, fun _ h => nomatch h⟩⟩⟩

noncomputable def sp52 : Ev.Spec := fun args _ K => match args with
 | ([Au v0, Ai v1]) => binom_Offset v0 v1 (fun v2 v3 => K (AV.tup [Ai v2, Au v3]))
 | _ => none
noncomputable def S52 := addS 52 sp52 S76
theorem D18 : Dom B0 V S52 T77 18 := Dom.s (m := 17) (n := 0) D17 D17 (O := o52) (OrcOk.fn (fn0 := Tryz.f52) (by kernel_rfl) (by kernel_rfl) pc52) fun args R K r h => by
 unfold sp52 at h; split at h
 · rw [binom_Offset_unf] at h; exact Eq.trans (by kernel_rfl) h
 · cases h

noncomputable def sp25 : Ev.Spec := fun args _ K => match args with
 | ([Au v0]) => rrr_blockOf v0 (fun v1 v2 => K (AV.agg (Blk.any [Ai v1, Au v2])))
 | _ => none
noncomputable def S25 := addS 25 sp25 S52
theorem D19 : Dom B0 V S25 T77 19 := Dom.s (m := 18) (n := 0) D18 D18 (O := (fun _ => none)) (fun _ _ _ _ => OrcOk.none _ _) fun args R K r h => by
 unfold sp25 at h; split at h
 · rw [rrr_blockOf_unf] at h; exact Eq.trans (by kernel_rfl) h
 · cases h

noncomputable def o55_4000_in {R : Type} (K : Ex → St → Option R) (vs : List AV) (hh : H) : Option R := match vs, hh with
 | [Ai v0, Ai v1], [] => binom_Choose_j4 v0 v1 (fun v2 => K (Ex.ret) (St.mk (spread 33 0 [4] [Au v2]) []))
 | _, _ => none

noncomputable def o55_6400_in {R : Type} (K : Ex → St → Option R) (vs : List AV) (hh : H) : Option R := match vs, hh with
 | [Ai v0, Ap 0 0, Ai v1, Ai v2], [HU v3] => binom_Choose_l6 v0 v1 v2 v3 (fun v4 v5 => K (Ex.exit 0) (St.mk (spread 33 0 [1, 5] [Ai v4, Ap 0 0]) [HU v5]))
 | _, _ => none

noncomputable def o55 : Nat → Option PSpec := lkN [(4000, fun st _ K => pickM 33 [0, 1] st (o55_4000_in K)), (6400, fun st _ K => pickM 33 [1, 5, 23, 24] st (o55_6400_in K))]
noncomputable def q55 : CallF := evFun (V 55) S25 T77 10

noncomputable def c55_4000 : Code := subC [1, 1] (bodyOf Tryz.f55)

noncomputable def c55_6400 : Code := subC [1, 1, 1, 0, 1, 0, 0] (bodyOf Tryz.f55)

noncomputable def lp55_6400 {R : Type} (N : Nat) (st : St) (K : Ex → St → Option R) : Option R := evLoop (norm ((V 55).keep 55 (Ev.keyOf c55_6400 * 1000 + 400)) 0) (evCode (V 55) q55 o55 55 0 3993 c55_6400) N st (kOut (V 55) 55 0 (Ev.keyOf c55_6400 * 1000 + 401) K)

theorem binom_Choose_l6_L_eq {R : Type} (K : Ex → St → Option R) : ∀ N : Nat, (fun (v0 v1 v2 : Int) (v3 : List Int) => lp55_6400 N (St.mk (spread 33 0 [1, 5, 23, 24] [Ai v0, Ap 0 0, Ai v1, Ai v2]) [HU v3]) K) = binom_Choose_l6_L (fun v4 v5 => K (Ex.exit 0) (St.mk (spread 33 0 [1, 5] [Ai v4, Ap 0 0]) [HU v5])) N
  | 0 => by funext v0 v1 v2 v3; rfl
  | N + 1 => by
    funext v0 v1 v2 v3
    simp only [binom_Choose_l6_L]
    rw [← binom_Choose_l6_L_eq K N]
    kernel_rfl

theorem p55_4000 : PieceOk (V 55) q55 o55 55 0 (3998, 0, c55_4000) := .s (size := 33) (ss := [0, 1]) (F := @o55_4000_in) (by kernel_rfl) fun R r K vs hh h => by
  unfold o55_4000_in at h; split at h
  · rw [binom_Choose_j4_unf] at h; exact Eq.trans (by kernel_rfl) h
  · cases h

theorem p55_6400 : PieceOk (V 55) q55 o55 55 0 (3993, 1, c55_6400) := .l (size := 33) (ss := [1, 5, 23, 24]) (F := @o55_6400_in) (by kernel_rfl) (by kernel_rfl) fun R r K vs hh h => by
  unfold o55_6400_in at h; split at h
  · rw [binom_Choose_l6_unf] at h; unfold binom_Choose_l6_B at h; rw [← binom_Choose_l6_L_eq K NR] at h; exact h
  · cases h

theorem pc55 : ∀ x ∈ [(3998, 0, c55_4000), (3993, 1, c55_6400)], PieceOk (V 55) q55 o55 55 0 x := List.forall_mem_cons.2 ⟨p55_4000, List.forall_mem_cons.2 ⟨p55_6400, fun _ h => nomatch h⟩⟩

noncomputable def sp55 : Ev.Spec := fun args _ K => match args with
 | ([Ai v0, Ai v1]) => binom_Choose v0 v1 (fun v2 => K (Au v2))
 | _ => none
noncomputable def S55 := addS 55 sp55 S25
theorem D20 : Dom B0 V S55 T77 20 := Dom.s (m := 19) (n := 0) D19 D19 (O := o55) (OrcOk.fn (fn0 := Tryz.f55) (by kernel_rfl) (by kernel_rfl) pc55) fun args R K r h => by
 unfold sp55 at h; split at h
 · rw [binom_Choose_unf] at h; exact Eq.trans (by kernel_rfl) h
 · cases h

noncomputable def sp28 : Ev.Spec := fun args _ K => match args with
 | ([Ai v0, Ai v1]) => binom_Width v0 v1 (fun v2 => K (Ai v2))
 | _ => none
noncomputable def S28 := addS 28 sp28 S55
theorem D21 : Dom B0 V S28 T77 21 := Dom.s (m := 20) (n := 0) D20 D20 (O := (fun _ => none)) (fun _ _ _ _ => OrcOk.none _ _) fun args R K r h => by
 unfold sp28 at h; split at h
 · rw [binom_Width_unf] at h; exact Eq.trans (by kernel_rfl) h
 · cases h

noncomputable def o6_5000_in {R : Type} (K : Ex → St → Option R) (vs : List AV) (hh : H) : Option R := match vs, hh with
 | [Ap 0 0, Ap 1 0, Ap 2 0], [HA [Ai v0, Fu v1], HA [Ai v2, Ai v3, Ai v4, Ai v5, AV.esl, Ai v6, AV.esl, AV.esl, AV.esl], HA [Ai v7, Ai v8, Ai v9, Ai va, AV.esl, Ai vb, AV.esl, AV.esl, AV.esl]] => rrr_Build_j5 v0 v1 v2 v3 v4 v5 v6 v7 v8 v9 va vb (fun vc vd ve vf vg vh vi vj vk vl vm vn => K (Ex.ret) (St.mk (spread 94 0 [2, 3] [Ap 0 0, Ai vc]) [HA [Ai vd, Ai ve, Ai vf, Ai vg, Fu vh, Ai vi, Fu vj, AV.sl 1 0 vk 1, AV.sl 2 0 vl 1], HB.live (Blk.ints .i64 vm), HB.live (Blk.ints .i64 vn)]))
 | _, _ => none

noncomputable def o6_8400_in {R : Type} (K : Ex → St → Option R) (vs : List AV) (hh : H) : Option R := match vs, hh with
 | [Ap 0 0, Ap 1 0, Ap 2 0, AV.sl 5 0 v0 1, Ai v1, Ai v2], [HA [Ai v3, Fu v4], HA [Ai v5, Ai v6, Ai v7, Ai v8, AV.esl, Ai v9, AV.esl, AV.esl, AV.esl], HA [Ai va, Ai vb, Ai vc, Ai vd, AV.esl, Ai ve, Fu vf, AV.sl 3 0 vg 1, AV.sl 4 0 vh 1], HB.live (Blk.ints .i64 vi), HB.live (Blk.ints .i64 vj), HU vk] => rrr_Build_l8 v0 v1 v2 v3 v4 v5 v6 v7 v8 v9 va vb vc vd ve vf vg vh vi vj vk (fun vl vm vn vo vp vq vr vs vt vu vv vw vx vy vz v10 v11 => K (Ex.exit 0) (St.mk (spread 94 0 [2, 4, 5] [Ap 0 0, Ap 1 0, AV.sl 4 0 vl 1]) [HA [Ai vm, Ai vn, Ai vo, Ai vp, AV.esl, Ai vq, AV.esl, AV.esl, AV.esl], HA [Ai vr, Ai vs, Ai vt, Ai vu, AV.esl, Ai vv, Fu vw, AV.sl 2 0 vx 1, AV.sl 3 0 vy 1], HB.live (Blk.ints .i64 vz), HB.live (Blk.ints .i64 v10), HU v11]))
 | _, _ => none

noncomputable def o6_10000_in {R : Type} (K : Ex → St → Option R) (vs : List AV) (hh : H) : Option R := match vs, hh with
 | [Ap 0 0, Ap 1 0, Ap 2 0, AV.sl 5 0 v0 1, Ai v1, Ai v2], [HA [Ai v3, Fu v4], HA [Ai v5, Ai v6, Ai v7, Ai v8, AV.esl, Ai v9, AV.esl, AV.esl, AV.esl], HA [Ai va, Ai vb, Ai vc, Ai vd, AV.esl, Ai ve, Fu vf, AV.sl 3 0 vg 1, AV.sl 4 0 vh 1], HB.live (Blk.ints .i64 vi), HB.live (Blk.ints .i64 vj), HU vk] => rrr_Build_j10 v0 v1 v2 v3 v4 v5 v6 v7 v8 v9 va vb vc vd ve vf vg vh vi vj vk (fun vl vm vn vo vp vq vr vs vt vu vv vw vx vy vz v10 v11 => K (Ex.exit 0) (St.mk (spread 94 0 [2, 4, 5] [Ap 0 0, Ap 1 0, AV.sl 4 0 vl 1]) [HA [Ai vm, Ai vn, Ai vo, Ai vp, AV.esl, Ai vq, AV.esl, AV.esl, AV.esl], HA [Ai vr, Ai vs, Ai vt, Ai vu, AV.esl, Ai vv, Fu vw, AV.sl 2 0 vx 1, AV.sl 3 0 vy 1], HB.live (Blk.ints .i64 vz), HB.live (Blk.ints .i64 v10), HU v11])) (fun vl vm vn vo vp vq vr vs vt vu vv vw vx vy vz v10 v11 v12 v13 v14 v15 => K (Ex.normal) (St.mk (spread 94 0 [1, 2, 4, 5, 6, 7] [Ap 0 0, Ap 1 0, Ap 2 0, AV.sl 5 0 vl 1, Ai vm, Ai vn]) [HA [Ai vo, Fu vp], HA [Ai vq, Ai vr, Ai vs, Ai vt, AV.esl, Ai vu, AV.esl, AV.esl, AV.esl], HA [Ai vv, Ai vw, Ai vx, Ai vy, AV.esl, Ai vz, Fu v10, AV.sl 3 0 v11 1, AV.sl 4 0 v12 1], HB.live (Blk.ints .i64 v13), HB.live (Blk.ints .i64 v14), HU v15]))
 | _, _ => none

noncomputable def o6_12000_in {R : Type} (K : Ex → St → Option R) (vs : List AV) (hh : H) : Option R := match vs, hh with
 | [Ap 0 0, Ap 1 0, Ap 2 0, AV.sl 5 0 v0 1, Ai v1, Ai v2], [HA [Ai v3, Fu v4], HA [Ai v5, Ai v6, Ai v7, Ai v8, AV.esl, Ai v9, AV.esl, AV.esl, AV.esl], HA [Ai va, Ai vb, Ai vc, Ai vd, AV.esl, Ai ve, Fu vf, AV.sl 3 0 vg 1, AV.sl 4 0 vh 1], HB.live (Blk.ints .i64 vi), HB.live (Blk.ints .i64 vj), HU vk] => rrr_Build_j12 v0 v1 v2 v3 v4 v5 v6 v7 v8 v9 va vb vc vd ve vf vg vh vi vj vk (fun vl vm vn vo vp vq vr vs vt vu vv vw vx vy vz v10 v11 => K (Ex.exit 0) (St.mk (spread 94 0 [2, 4, 5] [Ap 0 0, Ap 1 0, AV.sl 4 0 vl 1]) [HA [Ai vm, Ai vn, Ai vo, Ai vp, AV.esl, Ai vq, AV.esl, AV.esl, AV.esl], HA [Ai vr, Ai vs, Ai vt, Ai vu, AV.esl, Ai vv, Fu vw, AV.sl 2 0 vx 1, AV.sl 3 0 vy 1], HB.live (Blk.ints .i64 vz), HB.live (Blk.ints .i64 v10), HU v11])) (fun vl vm vn vo vp vq vr vs vt vu vv vw vx vy vz v10 v11 v12 v13 v14 v15 => K (Ex.normal) (St.mk (spread 94 0 [1, 2, 4, 5, 6, 7] [Ap 0 0, Ap 1 0, Ap 2 0, AV.sl 5 0 vl 1, Ai vm, Ai vn]) [HA [Ai vo, Fu vp], HA [Ai vq, Ai vr, Ai vs, Ai vt, AV.esl, Ai vu, AV.esl, AV.esl, AV.esl], HA [Ai vv, Ai vw, Ai vx, Ai vy, AV.esl, Ai vz, Fu v10, AV.sl 3 0 v11 1, AV.sl 4 0 v12 1], HB.live (Blk.ints .i64 v13), HB.live (Blk.ints .i64 v14), HU v15]))
 | _, _ => none

noncomputable def o6_18000_in {R : Type} (K : Ex → St → Option R) (vs : List AV) (hh : H) : Option R := match vs, hh with
 | [Ap 0 0, Ap 1 0, Ap 2 0, AV.sl 5 0 v0 1, Ai v1, Ai v2, Ap 6 0], [HA [Ai v3, Fu v4], HA [Ai v5, Ai v6, Ai v7, Ai v8, AV.esl, Ai v9, AV.esl, AV.esl, AV.esl], HA [Ai va, Ai vb, Ai vc, Ai vd, AV.esl, Ai ve, Fu vf, AV.sl 3 0 vg 1, AV.sl 4 0 vh 1], HB.live (Blk.ints .i64 vi), HB.live (Blk.ints .i64 vj), HU vk, HA [Ai vl, Au vm]] => rrr_Build_j18 v0 v1 v2 v3 v4 v5 v6 v7 v8 v9 va vb vc vd ve vf vg vh vi vj vk vl vm (fun vn vo vp vq vr vs vt vu vv vw vx vy vz v10 v11 v12 v13 v14 v15 v16 v17 => K (Ex.normal) (St.mk (spread 94 0 [1, 2, 4, 5, 6, 7] [Ap 0 0, Ap 1 0, Ap 2 0, AV.sl 5 0 vn 1, Ai vo, Ai vp]) [HA [Ai vq, Fu vr], HA [Ai vs, Ai vt, Ai vu, Ai vv, AV.esl, Ai vw, AV.esl, AV.esl, AV.esl], HA [Ai vx, Ai vy, Ai vz, Ai v10, AV.esl, Ai v11, Fu v12, AV.sl 3 0 v13 1, AV.sl 4 0 v14 1], HB.live (Blk.ints .i64 v15), HB.live (Blk.ints .i64 v16), HU v17]))
 | _, _ => none

noncomputable def o6 : Nat → Option PSpec := lkN [(5000, fun st _ K => pickM 94 [1, 2, 4] st (o6_5000_in K)), (8400, fun st _ K => pickM 94 [1, 2, 4, 5, 6, 7] st (o6_8400_in K)), (10000, fun st _ K => pickM 94 [1, 2, 4, 5, 6, 7] st (o6_10000_in K)), (12000, fun st _ K => pickM 94 [1, 2, 4, 5, 6, 7] st (o6_12000_in K)), (18000, fun st _ K => pickM 94 [1, 2, 4, 5, 6, 7, 10] st (o6_18000_in K))]
noncomputable def q6 : CallF := evFun (V 6) S28 T77 10

noncomputable def c6_5000 : Code := subC [1, 1, 1] (bodyOf Tryz.f6)

noncomputable def c6_8400 : Code := subC [1, 1, 1, 1, 1, 0, 1, 0, 0] (bodyOf Tryz.f6)

noncomputable def lp6_8400 {R : Type} (N : Nat) (st : St) (K : Ex → St → Option R) : Option R := evLoop (norm ((V 6).keep 6 (Ev.keyOf c6_8400 * 1000 + 400)) 0) (evCode (V 6) q6 o6 6 0 3991 c6_8400) N st (kOut (V 6) 6 0 (Ev.keyOf c6_8400 * 1000 + 401) K)

noncomputable def c6_10000 : Code := subC [1, 1, 1, 1, 1, 0, 1, 0, 0, 1] (bodyOf Tryz.f6)

noncomputable def c6_12000 : Code := subC [1, 1, 1, 1, 1, 0, 1, 0, 0, 1, 0, 0, 1] (bodyOf Tryz.f6)

noncomputable def c6_18000 : Code := subC [1, 1, 1, 1, 1, 0, 1, 0, 0, 1, 0, 0, 1, 1, 1, 1, 1, 1] (bodyOf Tryz.f6)

theorem rrr_Build_l8_L_eq {R : Type} (K : Ex → St → Option R) : ∀ N : Nat, (fun (v0 : Nat) (v1 v2 v3 : Int) (v4 : List Int) (v5 v6 v7 v8 v9 va vb vc vd ve : Int) (vf : List Int) (vg vh : Nat) (vi vj vk : List Int) => lp6_8400 N (St.mk (spread 94 0 [1, 2, 4, 5, 6, 7] [Ap 0 0, Ap 1 0, Ap 2 0, AV.sl 5 0 v0 1, Ai v1, Ai v2]) [HA [Ai v3, Fu v4], HA [Ai v5, Ai v6, Ai v7, Ai v8, AV.esl, Ai v9, AV.esl, AV.esl, AV.esl], HA [Ai va, Ai vb, Ai vc, Ai vd, AV.esl, Ai ve, Fu vf, AV.sl 3 0 vg 1, AV.sl 4 0 vh 1], HB.live (Blk.ints .i64 vi), HB.live (Blk.ints .i64 vj), HU vk]) K) = rrr_Build_l8_L (fun vl vm vn vo vp vq vr vs vt vu vv vw vx vy vz v10 v11 => K (Ex.exit 0) (St.mk (spread 94 0 [2, 4, 5] [Ap 0 0, Ap 1 0, AV.sl 4 0 vl 1]) [HA [Ai vm, Ai vn, Ai vo, Ai vp, AV.esl, Ai vq, AV.esl, AV.esl, AV.esl], HA [Ai vr, Ai vs, Ai vt, Ai vu, AV.esl, Ai vv, Fu vw, AV.sl 2 0 vx 1, AV.sl 3 0 vy 1], HB.live (Blk.ints .i64 vz), HB.live (Blk.ints .i64 v10), HU v11])) N
  | 0 => by funext v0 v1 v2 v3 v4 v5 v6 v7 v8 v9 va vb vc vd ve vf vg vh vi vj vk; rfl
  | N + 1 => by
    funext v0 v1 v2 v3 v4 v5 v6 v7 v8 v9 va vb vc vd ve vf vg vh vi vj vk
    simp only [rrr_Build_l8_L]
    rw [← rrr_Build_l8_L_eq K N]
    kernel_rfl

theorem rrr_Build_j12_eq {R : Type} (K : Ex → St → Option R) (v0 : Nat) (v1 v2 v3 : Int) (v4 : List Int) (v5 v6 v7 v8 v9 va vb vc vd ve : Int) (vf : List Int) (vg vh : Nat) (vi vj vk : List Int) : evCode (V 6) q6 o6 6 0 3987 c6_12000 (St.mk (spread 94 0 [1, 2, 4, 5, 6, 7] [Ap 0 0, Ap 1 0, Ap 2 0, AV.sl 5 0 v0 1, Ai v1, Ai v2]) [HA [Ai v3, Fu v4], HA [Ai v5, Ai v6, Ai v7, Ai v8, AV.esl, Ai v9, AV.esl, AV.esl, AV.esl], HA [Ai va, Ai vb, Ai vc, Ai vd, AV.esl, Ai ve, Fu vf, AV.sl 3 0 vg 1, AV.sl 4 0 vh 1], HB.live (Blk.ints .i64 vi), HB.live (Blk.ints .i64 vj), HU vk]) (kOut (V 6) 6 0 (Ev.keyOf c6_12000 * 1000 + 1) K) = rrr_Build_j12_B v0 v1 v2 v3 v4 v5 v6 v7 v8 v9 va vb vc vd ve vf vg vh vi vj vk (fun vl vm vn vo vp vq vr vs vt vu vv vw vx vy vz v10 v11 => K (Ex.exit 0) (St.mk (spread 94 0 [2, 4, 5] [Ap 0 0, Ap 1 0, AV.sl 4 0 vl 1]) [HA [Ai vm, Ai vn, Ai vo, Ai vp, AV.esl, Ai vq, AV.esl, AV.esl, AV.esl], HA [Ai vr, Ai vs, Ai vt, Ai vu, AV.esl, Ai vv, Fu vw, AV.sl 2 0 vx 1, AV.sl 3 0 vy 1], HB.live (Blk.ints .i64 vz), HB.live (Blk.ints .i64 v10), HU v11])) (fun vl vm vn vo vp vq vr vs vt vu vv vw vx vy vz v10 v11 v12 v13 v14 v15 => K (Ex.normal) (St.mk (spread 94 0 [1, 2, 4, 5, 6, 7] [Ap 0 0, Ap 1 0, Ap 2 0, AV.sl 5 0 vl 1, Ai vm, Ai vn]) [HA [Ai vo, Fu vp], HA [Ai vq, Ai vr, Ai vs, Ai vt, AV.esl, Ai vu, AV.esl, AV.esl, AV.esl], HA [Ai vv, Ai vw, Ai vx, Ai vy, AV.esl, Ai vz, Fu v10, AV.sl 3 0 v11 1, AV.sl 4 0 v12 1], HB.live (Blk.ints .i64 v13), HB.live (Blk.ints .i64 v14), HU v15])) := by kernel_rfl

theorem rrr_Build_j10_eq {R : Type} (K : Ex → St → Option R) (v0 : Nat) (v1 v2 v3 : Int) (v4 : List Int) (v5 v6 v7 v8 v9 va vb vc vd ve : Int) (vf : List Int) (vg vh : Nat) (vi vj vk : List Int) : evCode (V 6) q6 o6 6 0 3990 c6_10000 (St.mk (spread 94 0 [1, 2, 4, 5, 6, 7] [Ap 0 0, Ap 1 0, Ap 2 0, AV.sl 5 0 v0 1, Ai v1, Ai v2]) [HA [Ai v3, Fu v4], HA [Ai v5, Ai v6, Ai v7, Ai v8, AV.esl, Ai v9, AV.esl, AV.esl, AV.esl], HA [Ai va, Ai vb, Ai vc, Ai vd, AV.esl, Ai ve, Fu vf, AV.sl 3 0 vg 1, AV.sl 4 0 vh 1], HB.live (Blk.ints .i64 vi), HB.live (Blk.ints .i64 vj), HU vk]) (kOut (V 6) 6 0 (Ev.keyOf c6_10000 * 1000 + 1) K) = rrr_Build_j10_B v0 v1 v2 v3 v4 v5 v6 v7 v8 v9 va vb vc vd ve vf vg vh vi vj vk (fun vl vm vn vo vp vq vr vs vt vu vv vw vx vy vz v10 v11 => K (Ex.exit 0) (St.mk (spread 94 0 [2, 4, 5] [Ap 0 0, Ap 1 0, AV.sl 4 0 vl 1]) [HA [Ai vm, Ai vn, Ai vo, Ai vp, AV.esl, Ai vq, AV.esl, AV.esl, AV.esl], HA [Ai vr, Ai vs, Ai vt, Ai vu, AV.esl, Ai vv, Fu vw, AV.sl 2 0 vx 1, AV.sl 3 0 vy 1], HB.live (Blk.ints .i64 vz), HB.live (Blk.ints .i64 v10), HU v11])) (fun vl vm vn vo vp vq vr vs vt vu vv vw vx vy vz v10 v11 v12 v13 v14 v15 => K (Ex.normal) (St.mk (spread 94 0 [1, 2, 4, 5, 6, 7] [Ap 0 0, Ap 1 0, Ap 2 0, AV.sl 5 0 vl 1, Ai vm, Ai vn]) [HA [Ai vo, Fu vp], HA [Ai vq, Ai vr, Ai vs, Ai vt, AV.esl, Ai vu, AV.esl, AV.esl, AV.esl], HA [Ai vv, Ai vw, Ai vx, Ai vy, AV.esl, Ai vz, Fu v10, AV.sl 3 0 v11 1, AV.sl 4 0 v12 1], HB.live (Blk.ints .i64 v13), HB.live (Blk.ints .i64 v14), HU v15])) := by kernel_rfl

theorem p6_5000 : PieceOk (V 6) q6 o6 6 0 (3997, 0, c6_5000) := .s (size := 94) (ss := [1, 2, 4]) (F := @o6_5000_in) (by kernel_rfl) fun R r K vs hh h => by
  unfold o6_5000_in at h; split at h
  · rw [rrr_Build_j5_unf] at h; exact Eq.trans (by kernel_rfl) h
  · cases h

theorem p6_8400 : PieceOk (V 6) q6 o6 6 0 (3991, 1, c6_8400) := .l (size := 94) (ss := [1, 2, 4, 5, 6, 7]) (F := @o6_8400_in) (by kernel_rfl) (by kernel_rfl) fun R r K vs hh h => by
  unfold o6_8400_in at h; split at h
  · rw [rrr_Build_l8_unf] at h; unfold rrr_Build_l8_B at h; rw [← rrr_Build_l8_L_eq K NR] at h; exact h
  · cases h

theorem p6_10000 : PieceOk (V 6) q6 o6 6 0 (3990, 0, c6_10000) := .s (size := 94) (ss := [1, 2, 4, 5, 6, 7]) (F := @o6_10000_in) (by kernel_rfl) fun R r K vs hh h => by
  unfold o6_10000_in at h; split at h
  · rw [rrr_Build_j10_unf] at h; exact (rrr_Build_j10_eq K _ _ _ _ _ _ _ _ _ _ _ _ _ _ _ _ _ _ _ _ _).trans h
  · cases h

theorem p6_12000 : PieceOk (V 6) q6 o6 6 0 (3987, 0, c6_12000) := .s (size := 94) (ss := [1, 2, 4, 5, 6, 7]) (F := @o6_12000_in) (by kernel_rfl) fun R r K vs hh h => by
  unfold o6_12000_in at h; split at h
  · rw [rrr_Build_j12_unf] at h; exact (rrr_Build_j12_eq K _ _ _ _ _ _ _ _ _ _ _ _ _ _ _ _ _ _ _ _ _).trans h
  · cases h

theorem p6_18000 : PieceOk (V 6) q6 o6 6 0 (3982, 0, c6_18000) := .s (size := 94) (ss := [1, 2, 4, 5, 6, 7, 10]) (F := @o6_18000_in) (by kernel_rfl) fun R r K vs hh h => by
  unfold o6_18000_in at h; split at h
  · rw [rrr_Build_j18_unf] at h; exact Eq.trans (by kernel_rfl) h
  · cases h

theorem pc6 : ∀ x ∈ [(3997, 0, c6_5000), (3991, 1, c6_8400), (3990, 0, c6_10000), (3987, 0, c6_12000), (3982, 0, c6_18000)], PieceOk (V 6) q6 o6 6 0 x := List.forall_mem_cons.2 ⟨p6_5000, List.forall_mem_cons.2 ⟨p6_8400, List.forall_mem_cons.2 ⟨p6_10000, List.forall_mem_cons.2 ⟨p6_12000, List.forall_mem_cons.2 ⟨p6_18000, fun _ h => nomatch h⟩⟩⟩⟩⟩

noncomputable def sp6 : Ev.Spec := fun args _ K => match args with
 | ([AV.agg (Blk.any [Ai v0, Fu v1])]) => rrr_Build v0 v1 (fun v2 v3 v4 v5 v6 v7 v8 v9 va vb => K (AV.tup [AV.agg (Blk.any [Ai v2, Ai v3, Ai v4, Ai v5, Fu v6, Ai v7, Fu v8, AV.fsl (Blk.ints .i64 v9), AV.fsl (Blk.ints .i64 va)]), Ai vb]))
 | _ => none
noncomputable def S6 := addS 6 sp6 S28
theorem D22 : Dom B0 V S6 T77 22 := Dom.s (m := 21) (n := 0) D21 D21 (O := o6) (OrcOk.fn (fn0 := Tryz.f6) (by kernel_rfl) (by kernel_rfl) pc6) fun args R K r h => by
 unfold sp6 at h; split at h
 · rw [rrr_Build_unf] at h; exact Eq.trans (by kernel_rfl) h
 · cases h

noncomputable def sp84 : Ev.Spec := fun args _ K => match args with
 | ([AV.agg (Blk.any [Ai v0, Ai v1, Ai v2, Fu v3])]) => ints_Check v0 v1 v2 v3 (fun v4 => K (Ab v4))
 | _ => none
noncomputable def S84 := addS 84 sp84 S6
theorem D23 : Dom B0 V S84 T77 23 := Dom.s (m := 22) (n := 0) D22 D22 (O := (fun _ => none)) (fun _ _ _ _ => OrcOk.none _ _) fun args R K r h => by
 unfold sp84 at h; split at h
 · rw [ints_Check_unf] at h; exact Eq.trans (by kernel_rfl) h
 · cases h

noncomputable def o85_6400_in {R : Type} (K : Ex → St → Option R) (vs : List AV) (hh : H) : Option R := match vs, hh with
 | [Ap 0 0, AV.sl 1 0 v0 1, Ai v1, Ai v2], [HA [Ai v3, Ai v4, Ai v5, Fu v6], HU v7] => ints_List_l6 v0 v1 v2 v3 v4 v5 v6 v7 (fun v8 v9 => K (Ex.exit 0) (St.mk (spread 33 0 [3] [AV.sl 0 0 v8 1]) [HU v9]))
 | _, _ => none

noncomputable def o85 : Nat → Option PSpec := lkN [(6400, fun st _ K => pickM 33 [1, 3, 12, 13] st (o85_6400_in K))]
noncomputable def q85 : CallF := evFun (V 85) S84 T77 10

noncomputable def c85_6400 : Code := subC [1, 1, 1, 0, 1, 0, 0] (bodyOf Tryz.f85)

noncomputable def lp85_6400 {R : Type} (N : Nat) (st : St) (K : Ex → St → Option R) : Option R := evLoop (norm ((V 85).keep 85 (Ev.keyOf c85_6400 * 1000 + 400)) 0) (evCode (V 85) q85 o85 85 0 3993 c85_6400) N st (kOut (V 85) 85 0 (Ev.keyOf c85_6400 * 1000 + 401) K)

theorem ints_List_l6_L_eq {R : Type} (K : Ex → St → Option R) : ∀ N : Nat, (fun (v0 : Nat) (v1 v2 v3 v4 v5 : Int) (v6 v7 : List Int) => lp85_6400 N (St.mk (spread 33 0 [1, 3, 12, 13] [Ap 0 0, AV.sl 1 0 v0 1, Ai v1, Ai v2]) [HA [Ai v3, Ai v4, Ai v5, Fu v6], HU v7]) K) = ints_List_l6_L (fun v8 v9 => K (Ex.exit 0) (St.mk (spread 33 0 [3] [AV.sl 0 0 v8 1]) [HU v9])) N
  | 0 => by funext v0 v1 v2 v3 v4 v5 v6 v7; rfl
  | N + 1 => by
    funext v0 v1 v2 v3 v4 v5 v6 v7
    simp only [ints_List_l6_L]
    rw [← ints_List_l6_L_eq K N]
    kernel_rfl

theorem p85_6400 : PieceOk (V 85) q85 o85 85 0 (3993, 1, c85_6400) := .l (size := 33) (ss := [1, 3, 12, 13]) (F := @o85_6400_in) (by kernel_rfl) (by kernel_rfl) fun R r K vs hh h => by
  unfold o85_6400_in at h; split at h
  · rw [ints_List_l6_unf] at h; unfold ints_List_l6_B at h; rw [← ints_List_l6_L_eq K NR] at h; exact h
  · cases h

theorem pc85 : ∀ x ∈ [(3993, 1, c85_6400)], PieceOk (V 85) q85 o85 85 0 x := List.forall_mem_cons.2 ⟨p85_6400, fun _ h => nomatch h⟩

noncomputable def sp85 : Ev.Spec := fun args _ K => match args with
 | ([AV.agg (Blk.any [Ai v0, Ai v1, Ai v2, Fu v3])]) => ints_List v0 v1 v2 v3 (fun v4 => K (Fu v4))
 | _ => none
noncomputable def S85 := addS 85 sp85 S84
theorem D24 : Dom B0 V S85 T77 24 := Dom.s (m := 23) (n := 0) D23 D23 (O := o85) (OrcOk.fn (fn0 := Tryz.f85) (by kernel_rfl) (by kernel_rfl) pc85) fun args R K r h => by
 unfold sp85 at h; split at h
 · rw [ints_List_unf] at h; exact Eq.trans (by kernel_rfl) h
 · cases h

noncomputable def o83_7400_in {R : Type} (K : Ex → St → Option R) (vs : List AV) (hh : H) : Option R := match vs, hh with
 | [Ai v0, Au v1, AV.fsl (Blk.cols [Col.fints .u64 v2] []), Au v3, Ai v4], [] => binom_Block_l7 v0 v1 v2 v3 v4 (fun v5 => K (Ex.exit 0) (St.mk (spread 50 0 [9] [Au v5]) []))
 | _, _ => none

noncomputable def o83_13000_in {R : Type} (K : Ex → St → Option R) (vs : List AV) (hh : H) : Option R := match vs, hh with
 | [Ai v0, Au v1, AV.fsl (Blk.cols [Col.fints .u64 v2] []), Au v3, Ai v4, Au v5], [] => binom_Block_j13 v0 v1 v2 v3 v4 v5 (fun v6 v7 v8 v9 va => K (Ex.normal) (St.mk (spread 50 0 [1, 2, 8, 9, 10] [Ai v6, Au v7, AV.fsl (Blk.cols [Col.fints .u64 v8] []), Au v9, Ai va]) []))
 | _, _ => none

noncomputable def o83 : Nat → Option PSpec := lkN [(7400, fun st _ K => pickM 50 [1, 2, 8, 9, 10] st (o83_7400_in K)), (13000, fun st _ K => pickM 50 [1, 2, 8, 9, 10, 11] st (o83_13000_in K))]
noncomputable def q83 : CallF := evFun (V 83) S85 T77 10

noncomputable def c83_7400 : Code := subC [1, 0, 1, 1, 1, 1, 0, 1, 0, 0] (bodyOf Tryz.f83)

noncomputable def lp83_7400 {R : Type} (N : Nat) (st : St) (K : Ex → St → Option R) : Option R := evLoop (norm ((V 83).keep 83 (Ev.keyOf c83_7400 * 1000 + 400)) 0) (evCode (V 83) q83 o83 83 0 3990 c83_7400) N st (kOut (V 83) 83 0 (Ev.keyOf c83_7400 * 1000 + 401) K)

noncomputable def c83_13000 : Code := subC [1, 0, 1, 1, 1, 1, 0, 1, 0, 0, 1, 0, 0, 1, 1, 1] (bodyOf Tryz.f83)

noncomputable def lp83_7400_3993 {R : Type} (N : Nat) (st : St) (K : Ex → St → Option R) : Option R := evLoop (norm ((V 83).keep 83 (Ev.keyOf c83_7400 * 1000 + 400)) 0) (evCode (V 83) q83 o83 83 0 3993 c83_7400) N st (kOut (V 83) 83 0 (Ev.keyOf c83_7400 * 1000 + 401) K)

theorem binom_Block_l7_L_eq {R : Type} (K : Ex → St → Option R) : ∀ N : Nat, (fun (v0 v1 : Int) (v2 : List (List Int)) (v3 v4 : Int) => lp83_7400 N (St.mk (spread 50 0 [1, 2, 8, 9, 10] [Ai v0, Au v1, AV.fsl (Blk.cols [Col.fints .u64 v2] []), Au v3, Ai v4]) []) K) = binom_Block_l7_L (fun v5 => K (Ex.exit 0) (St.mk (spread 50 0 [9] [Au v5]) [])) N
  | 0 => by funext v0 v1 v2 v3 v4; rfl
  | N + 1 => by
    funext v0 v1 v2 v3 v4
    simp only [binom_Block_l7_L]
    rw [← binom_Block_l7_L_eq K N]
    kernel_rfl

theorem binom_Block_l7_L_eq_3993 {R : Type} (K : Ex → St → Option R) : ∀ N : Nat, (fun (v0 v1 : Int) (v2 : List (List Int)) (v3 v4 : Int) => lp83_7400_3993 N (St.mk (spread 50 0 [1, 2, 8, 9, 10] [Ai v0, Au v1, AV.fsl (Blk.cols [Col.fints .u64 v2] []), Au v3, Ai v4]) []) K) = binom_Block_l7_L (fun v5 => K (Ex.exit 0) (St.mk (spread 50 0 [9] [Au v5]) [])) N
  | 0 => by funext v0 v1 v2 v3 v4; rfl
  | N + 1 => by
    funext v0 v1 v2 v3 v4
    simp only [binom_Block_l7_L]
    rw [← binom_Block_l7_L_eq_3993 K N]
    kernel_rfl

theorem p83_7400 : PieceOk (V 83) q83 o83 83 0 (3990, 1, c83_7400) := .l (size := 50) (ss := [1, 2, 8, 9, 10]) (F := @o83_7400_in) (by kernel_rfl) (by kernel_rfl) fun R r K vs hh h => by
  unfold o83_7400_in at h; split at h
  · rw [binom_Block_l7_unf] at h; unfold binom_Block_l7_B at h; rw [← binom_Block_l7_L_eq K NR] at h; exact h
  · cases h

theorem p83_13000 : PieceOk (V 83) q83 o83 83 0 (3984, 0, c83_13000) := .s (size := 50) (ss := [1, 2, 8, 9, 10, 11]) (F := @o83_13000_in) (by kernel_rfl) fun R r K vs hh h => by
  unfold o83_13000_in at h; split at h
  · rw [binom_Block_j13_unf] at h; exact Eq.trans (by kernel_rfl) h
  · cases h

theorem p83_7400_3993 : PieceOk (V 83) q83 o83 83 0 (3993, 1, c83_7400) := .l (size := 50) (ss := [1, 2, 8, 9, 10]) (F := @o83_7400_in) (by kernel_rfl) (by kernel_rfl) fun R r K vs hh h => by
  unfold o83_7400_in at h; split at h
  · rw [binom_Block_l7_unf] at h; unfold binom_Block_l7_B at h; rw [← binom_Block_l7_L_eq_3993 K NR] at h; exact h
  · cases h

theorem p83_13000_3987 : PieceOk (V 83) q83 o83 83 0 (3987, 0, c83_13000) := .s (size := 50) (ss := [1, 2, 8, 9, 10, 11]) (F := @o83_13000_in) (by kernel_rfl) fun R r K vs hh h => by
  unfold o83_13000_in at h; split at h
  · rw [binom_Block_j13_unf] at h; exact Eq.trans (by kernel_rfl) h
  · cases h

theorem pc83 : ∀ x ∈ [(3990, 1, c83_7400), (3984, 0, c83_13000), (3993, 1, c83_7400), (3987, 0, c83_13000)], PieceOk (V 83) q83 o83 83 0 x := List.forall_mem_cons.2 ⟨p83_7400, List.forall_mem_cons.2 ⟨p83_13000, List.forall_mem_cons.2 ⟨p83_7400_3993, List.forall_mem_cons.2 ⟨p83_13000_3987, fun _ h => nomatch h⟩⟩⟩⟩

noncomputable def sp83 : Ev.Spec := fun args _ K => match args with
 | ([Ai v0, Ai v1, Au v2]) => binom_Block v0 v1 v2 (fun v3 v4 => K (AV.tup [Au v3, Ab v4]))
 | _ => none
noncomputable def S83 := addS 83 sp83 S85
theorem D25 : Dom B0 V S83 T77 25 := Dom.s (m := 24) (n := 0) D24 D24 (O := o83) (OrcOk.fn (fn0 := Tryz.f83) (by kernel_rfl) (by kernel_rfl) pc83) fun args R K r h => by
 unfold sp83 at h; split at h
 · rw [binom_Block_unf] at h; exact Eq.trans (by kernel_rfl) h
 · cases h

noncomputable def o74_3000_in {R : Type} (K : Ex → St → Option R) (vs : List AV) (hh : H) : Option R := match vs, hh with
 | [Ap 0 0, Ap 1 0, Ab v0], [HA [Ai v1, Ai v2, Ai v3, Ai v4, Fu v5, Ai v6, Fu v7, AV.fsl (Blk.ints .i64 v8), AV.fsl (Blk.ints .i64 v9)], HA [Ai va, AV.esl]] => rrr_row_j3 v0 v1 v2 v3 v4 v5 v6 v7 v8 v9 va (fun vb vc => K (Ex.ret) (St.mk (spread 106 0 [2, 3] [Ap 0 0, Ab vb]) [HA [Ai vc, AV.esl]])) (fun vb vc vd ve vf vg vh vi vj vk => K (Ex.normal) (St.mk (spread 106 0 [1, 2] [Ap 0 0, Ap 1 0]) [HA [Ai vb, Ai vc, Ai vd, Ai ve, Fu vf, Ai vg, Fu vh, AV.fsl (Blk.ints .i64 vi), AV.fsl (Blk.ints .i64 vj)], HA [Ai vk, AV.esl]]))
 | _, _ => none

noncomputable def o74_4000_in {R : Type} (K : Ex → St → Option R) (vs : List AV) (hh : H) : Option R := match vs, hh with
 | [Ap 0 0, Ap 1 0], [HA [Ai v0, Ai v1, Ai v2, Ai v3, Fu v4, Ai v5, Fu v6, AV.fsl (Blk.ints .i64 v7), AV.fsl (Blk.ints .i64 v8)], HA [Ai v9, AV.esl]] => rrr_row_j4 v0 v1 v2 v3 v4 v5 v6 v7 v8 v9 (fun va vb => K (Ex.ret) (St.mk (spread 106 0 [2, 3] [Ap 0 0, Ab va]) [HA [Ai vb, AV.esl]])) (fun va vb vc => K (Ex.ret) (St.mk (spread 106 0 [2, 3] [Ap 0 0, Ab va]) [HA [Ai vb, Fu vc]]))
 | _, _ => none

noncomputable def o74_7400_in {R : Type} (K : Ex → St → Option R) (vs : List AV) (hh : H) : Option R := match vs, hh with
 | [Ap 0 0, Ap 1 0, Ap 2 0, Ai v0, Fu v1, Ai v2, Ai v3], [HA [Ai v4, Ai v5, Ai v6, Ai v7, Fu v8, Ai v9, Fu va, AV.fsl (Blk.ints .i64 vb), AV.fsl (Blk.ints .i64 vc)], HA [Ai vd, AV.esl], HA [Ai ve, Fu vf]] => rrr_row_l7 v0 v1 v2 v3 v4 v5 v6 v7 v8 v9 va vb vc vd ve vf (fun vg vh => K (Ex.ret) (St.mk (spread 106 0 [2, 3] [Ap 0 0, Ab vg]) [HA [Ai vh, AV.esl]])) (fun vg vh vi => K (Ex.exit 0) (St.mk (spread 106 0 [2, 4] [Ap 0 0, Ap 1 0]) [HA [Ai vg, AV.esl], HA [Ai vh, Fu vi]]))
 | _, _ => none

noncomputable def o74_16000_in {R : Type} (K : Ex → St → Option R) (vs : List AV) (hh : H) : Option R := match vs, hh with
 | [Ap 0 0, Ap 1 0, Ap 2 0, Ai v0, Ai v1, Au v2, Ai v3, Fu v4, Ai v5, Ai v6, Ab v7], [HA [Ai v8, Ai v9, Ai va, Ai vb, Fu vc, Ai vd, Fu ve, AV.fsl (Blk.ints .i64 vf), AV.fsl (Blk.ints .i64 vg)], HA [Ai vh, AV.esl], HA [Ai vi, Fu vj]] => rrr_row_j16 v0 v1 v2 v3 v4 v5 v6 v7 v8 v9 va vb vc vd ve vf vg vh vi vj (fun vk vl => K (Ex.ret) (St.mk (spread 106 0 [2, 3] [Ap 0 0, Ab vk]) [HA [Ai vl, AV.esl]])) (fun vk vl vm vn vo vp vq vr vs vt vu vv vw vx vy vz v10 v11 v12 => K (Ex.normal) (St.mk (spread 106 0 [1, 2, 4, 5, 8, 11, 13, 48, 49, 50] [Ap 0 0, Ap 1 0, Ap 2 0, Ai vk, Ai vl, Au vm, Ai vn, Fu vo, Ai vp, Ai vq]) [HA [Ai vr, Ai vs, Ai vt, Ai vu, Fu vv, Ai vw, Fu vx, AV.fsl (Blk.ints .i64 vy), AV.fsl (Blk.ints .i64 vz)], HA [Ai v10, AV.esl], HA [Ai v11, Fu v12]]))
 | _, _ => none

noncomputable def o74_17000_in {R : Type} (K : Ex → St → Option R) (vs : List AV) (hh : H) : Option R := match vs, hh with
 | [Ap 0 0, Ap 1 0, Ap 2 0, Ai v0, Ai v1, Au v2, Ai v3, Fu v4, Ai v5, Ai v6], [HA [Ai v7, Ai v8, Ai v9, Ai va, Fu vb, Ai vc, Fu vd, AV.fsl (Blk.ints .i64 ve), AV.fsl (Blk.ints .i64 vf)], HA [Ai vg, AV.esl], HA [Ai vh, Fu vi]] => rrr_row_j17 v0 v1 v2 v3 v4 v5 v6 v7 v8 v9 va vb vc vd ve vf vg vh vi (fun vj vk vl vm vn vo vp vq vr vs vt vu vv vw vx vy => K (Ex.normal) (St.mk (spread 106 0 [1, 2, 4, 5, 48, 49, 50] [Ap 0 0, Ap 1 0, Ap 2 0, Ai vj, Fu vk, Ai vl, Ai vm]) [HA [Ai vn, Ai vo, Ai vp, Ai vq, Fu vr, Ai vs, Fu vt, AV.fsl (Blk.ints .i64 vu), AV.fsl (Blk.ints .i64 vv)], HA [Ai vw, AV.esl], HA [Ai vx, Fu vy]]))
 | _, _ => none

noncomputable def o74 : Nat → Option PSpec := lkN [(3000, fun st _ K => pickM 106 [1, 2, 44] st (o74_3000_in K)), (4000, fun st _ K => pickM 106 [1, 2] st (o74_4000_in K)), (7400, fun st _ K => pickM 106 [1, 2, 4, 5, 48, 49, 50] st (o74_7400_in K)), (16000, fun st _ K => pickM 106 [1, 2, 4, 5, 8, 11, 13, 48, 49, 50, 92] st (o74_16000_in K)), (17000, fun st _ K => pickM 106 [1, 2, 4, 5, 8, 11, 13, 48, 49, 50] st (o74_17000_in K))]
noncomputable def q74 : CallF := evFun (V 74) S83 T77 10

noncomputable def c74_4000 : Code := subC [1, 1] (bodyOf Tryz.f74)

noncomputable def c74_3000 : Code := subC [1, 0, 1] (bodyOf Tryz.f74)

noncomputable def c74_7400 : Code := subC [1, 1, 1, 1, 0, 1, 0, 0] (bodyOf Tryz.f74)

noncomputable def lp74_7400 {R : Type} (N : Nat) (st : St) (K : Ex → St → Option R) : Option R := evLoop (norm ((V 74).keep 74 (Ev.keyOf c74_7400 * 1000 + 400)) 0) (evCode (V 74) q74 o74 74 0 3992 c74_7400) N st (kOut (V 74) 74 0 (Ev.keyOf c74_7400 * 1000 + 401) K)

noncomputable def c74_17000 : Code := subC [1, 1, 1, 1, 0, 1, 0, 0, 1, 1, 0, 0, 1, 1, 1, 1, 1, 1, 1] (bodyOf Tryz.f74)

noncomputable def c74_16000 : Code := subC [1, 1, 1, 1, 0, 1, 0, 0, 1, 1, 0, 0, 1, 1, 1, 1, 1, 1, 0, 1] (bodyOf Tryz.f74)

theorem rrr_row_l7_L_eq {R : Type} (K : Ex → St → Option R) : ∀ N : Nat, (fun (v0 : Int) (v1 : List Int) (v2 v3 v4 v5 v6 v7 : Int) (v8 : List Int) (v9 : Int) (va vb vc : List Int) (vd ve : Int) (vf : List Int) => lp74_7400 N (St.mk (spread 106 0 [1, 2, 4, 5, 48, 49, 50] [Ap 0 0, Ap 1 0, Ap 2 0, Ai v0, Fu v1, Ai v2, Ai v3]) [HA [Ai v4, Ai v5, Ai v6, Ai v7, Fu v8, Ai v9, Fu va, AV.fsl (Blk.ints .i64 vb), AV.fsl (Blk.ints .i64 vc)], HA [Ai vd, AV.esl], HA [Ai ve, Fu vf]]) K) = rrr_row_l7_L (fun vg vh => K (Ex.ret) (St.mk (spread 106 0 [2, 3] [Ap 0 0, Ab vg]) [HA [Ai vh, AV.esl]])) (fun vg vh vi => K (Ex.exit 0) (St.mk (spread 106 0 [2, 4] [Ap 0 0, Ap 1 0]) [HA [Ai vg, AV.esl], HA [Ai vh, Fu vi]])) N
  | 0 => by funext v0 v1 v2 v3 v4 v5 v6 v7 v8 v9 va vb vc vd ve vf; rfl
  | N + 1 => by
    funext v0 v1 v2 v3 v4 v5 v6 v7 v8 v9 va vb vc vd ve vf
    simp only [rrr_row_l7_L]
    rw [← rrr_row_l7_L_eq K N]
    kernel_rfl

theorem p74_4000 : PieceOk (V 74) q74 o74 74 0 (3998, 0, c74_4000) := .s (size := 106) (ss := [1, 2]) (F := @o74_4000_in) (by kernel_rfl) fun R r K vs hh h => by
  unfold o74_4000_in at h; split at h
  · rw [rrr_row_j4_unf] at h; exact Eq.trans (by kernel_rfl) h
  · cases h

theorem p74_3000 : PieceOk (V 74) q74 o74 74 0 (3997, 0, c74_3000) := .s (size := 106) (ss := [1, 2, 44]) (F := @o74_3000_in) (by kernel_rfl) fun R r K vs hh h => by
  unfold o74_3000_in at h; split at h
  · rw [rrr_row_j3_unf] at h; exact Eq.trans (by kernel_rfl) h
  · cases h

theorem p74_7400 : PieceOk (V 74) q74 o74 74 0 (3992, 1, c74_7400) := .l (size := 106) (ss := [1, 2, 4, 5, 48, 49, 50]) (F := @o74_7400_in) (by kernel_rfl) (by kernel_rfl) fun R r K vs hh h => by
  unfold o74_7400_in at h; split at h
  · rw [rrr_row_l7_unf] at h; unfold rrr_row_l7_B at h; rw [← rrr_row_l7_L_eq K NR] at h; exact h
  · cases h

theorem p74_17000 : PieceOk (V 74) q74 o74 74 0 (3981, 0, c74_17000) := .s (size := 106) (ss := [1, 2, 4, 5, 8, 11, 13, 48, 49, 50]) (F := @o74_17000_in) (by kernel_rfl) fun R r K vs hh h => by
  unfold o74_17000_in at h; split at h
  · rw [rrr_row_j17_unf] at h; exact Eq.trans (by kernel_rfl) h
  · cases h

theorem p74_16000 : PieceOk (V 74) q74 o74 74 0 (3980, 0, c74_16000) := .s (size := 106) (ss := [1, 2, 4, 5, 8, 11, 13, 48, 49, 50, 92]) (F := @o74_16000_in) (by kernel_rfl) fun R r K vs hh h => by
  unfold o74_16000_in at h; split at h
  · rw [rrr_row_j16_unf] at h; exact Eq.trans (by kernel_rfl) h
  · cases h

theorem pc74 : ∀ x ∈ [(3998, 0, c74_4000), (3997, 0, c74_3000), (3992, 1, c74_7400), (3981, 0, c74_17000), (3980, 0, c74_16000)], PieceOk (V 74) q74 o74 74 0 x := List.forall_mem_cons.2 ⟨p74_4000, List.forall_mem_cons.2 ⟨p74_3000, List.forall_mem_cons.2 ⟨p74_7400, List.forall_mem_cons.2 ⟨p74_17000, List.forall_mem_cons.2 ⟨p74_16000, fun _ h => nomatch h⟩⟩⟩⟩⟩

theorem rrr_row_eq {R : Type} (K : AV → Option R) (v0 v1 v2 v3 : Int) (v4 : List Int) (v5 : Int) (v6 v7 v8 : List Int) : evSpec (V 74) S83 T77 o74 10 74 ([AV.agg (Blk.any [Ai v0, Ai v1, Ai v2, Ai v3, Fu v4, Ai v5, Fu v6, AV.fsl (Blk.ints .i64 v7), AV.fsl (Blk.ints .i64 v8)])]) R K = rrr_row_B v0 v1 v2 v3 v4 v5 v6 v7 v8 (fun v9 va vb => K (AV.tup [AV.agg (Blk.any [Ai v9, Fu va]), Ab vb])) := by kernel_rfl

noncomputable def sp74 : Ev.Spec := fun args _ K => match args with
 | ([AV.agg (Blk.any [Ai v0, Ai v1, Ai v2, Ai v3, Fu v4, Ai v5, Fu v6, AV.fsl (Blk.ints .i64 v7), AV.fsl (Blk.ints .i64 v8)])]) => rrr_row v0 v1 v2 v3 v4 v5 v6 v7 v8 (fun v9 va vb => K (AV.tup [AV.agg (Blk.any [Ai v9, Fu va]), Ab vb]))
 | _ => none
noncomputable def S74 := addS 74 sp74 S83
theorem D26 : Dom B0 V S74 T77 26 := Dom.s (m := 25) (n := 0) D25 D25 (O := o74) (OrcOk.fn (fn0 := Tryz.f74) (by kernel_rfl) (by kernel_rfl) pc74) fun args R K r h => by
 unfold sp74 at h; split at h
 · rw [rrr_row_unf] at h; exact (rrr_row_eq K _ _ _ _ _ _ _ _ _).trans h
 · cases h

noncomputable def o86_5400_in {R : Type} (K : Ex → St → Option R) (vs : List AV) (hh : H) : Option R := match vs, hh with
 | [Fu v0, Fu v1, Ai v2, Ai v3], [] => slices_Equal_uint64_uint64_l5 v0 v1 v2 v3 (fun v4 => K (Ex.ret) (St.mk (spread 26 0 [4] [Ab v4]) [])) (fun _ => K (Ex.exit 0) (St.mk (spread 26 0 [] []) []))
 | _, _ => none

noncomputable def o86 : Nat → Option PSpec := lkN [(5400, fun st _ K => pickM 26 [0, 1, 12, 13] st (o86_5400_in K))]
noncomputable def q86 : CallF := evFun (V 86) S74 T77 10

noncomputable def c86_5400 : Code := subC [1, 1, 0, 1, 0, 0] (bodyOf Tryz.f86)

noncomputable def lp86_5400 {R : Type} (N : Nat) (st : St) (K : Ex → St → Option R) : Option R := evLoop (norm ((V 86).keep 86 (Ev.keyOf c86_5400 * 1000 + 400)) 0) (evCode (V 86) q86 o86 86 0 3994 c86_5400) N st (kOut (V 86) 86 0 (Ev.keyOf c86_5400 * 1000 + 401) K)

theorem slices_Equal_uint64_uint64_l5_L_eq {R : Type} (K : Ex → St → Option R) : ∀ N : Nat, (fun (v0 v1 : List Int) (v2 v3 : Int) => lp86_5400 N (St.mk (spread 26 0 [0, 1, 12, 13] [Fu v0, Fu v1, Ai v2, Ai v3]) []) K) = slices_Equal_uint64_uint64_l5_L (fun v4 => K (Ex.ret) (St.mk (spread 26 0 [4] [Ab v4]) [])) (fun _ => K (Ex.exit 0) (St.mk (spread 26 0 [] []) [])) N
  | 0 => by funext v0 v1 v2 v3; rfl
  | N + 1 => by
    funext v0 v1 v2 v3
    simp only [slices_Equal_uint64_uint64_l5_L]
    rw [← slices_Equal_uint64_uint64_l5_L_eq K N]
    kernel_rfl

theorem p86_5400 : PieceOk (V 86) q86 o86 86 0 (3994, 1, c86_5400) := .l (size := 26) (ss := [0, 1, 12, 13]) (F := @o86_5400_in) (by kernel_rfl) (by kernel_rfl) fun R r K vs hh h => by
  unfold o86_5400_in at h; split at h
  · rw [slices_Equal_uint64_uint64_l5_unf] at h; unfold slices_Equal_uint64_uint64_l5_B at h; rw [← slices_Equal_uint64_uint64_l5_L_eq K NR] at h; exact h
  · cases h

theorem pc86 : ∀ x ∈ [(3994, 1, c86_5400)], PieceOk (V 86) q86 o86 86 0 x := List.forall_mem_cons.2 ⟨p86_5400, fun _ h => nomatch h⟩

noncomputable def sp86 : Ev.Spec := fun args _ K => match args with
 | ([Fu v0, Fu v1]) => slices_Equal_uint64_uint64 v0 v1 (fun v2 => K (Ab v2))
 | _ => none
noncomputable def S86 := addS 86 sp86 S74
theorem D27 : Dom B0 V S86 T77 27 := Dom.s (m := 26) (n := 0) D26 D26 (O := o86) (OrcOk.fn (fn0 := Tryz.f86) (by kernel_rfl) (by kernel_rfl) pc86) fun args R K r h => by
 unfold sp86 at h; split at h
 · rw [slices_Equal_uint64_uint64_unf] at h; exact Eq.trans (by kernel_rfl) h
 · cases h

noncomputable def o87_5400_in {R : Type} (K : Ex → St → Option R) (vs : List AV) (hh : H) : Option R := match vs, hh with
 | [AV.fsl (Blk.ints .i64 v0), AV.fsl (Blk.ints .i64 v1), Ai v2, Ai v3], [] => slices_Equal_int_int_l5 v0 v1 v2 v3 (fun v4 => K (Ex.ret) (St.mk (spread 26 0 [4] [Ab v4]) [])) (fun _ => K (Ex.exit 0) (St.mk (spread 26 0 [] []) []))
 | _, _ => none

noncomputable def o87 : Nat → Option PSpec := lkN [(5400, fun st _ K => pickM 26 [0, 1, 12, 13] st (o87_5400_in K))]
noncomputable def q87 : CallF := evFun (V 87) S86 T77 10

noncomputable def c87_5400 : Code := subC [1, 1, 0, 1, 0, 0] (bodyOf Tryz.f87)

noncomputable def lp87_5400 {R : Type} (N : Nat) (st : St) (K : Ex → St → Option R) : Option R := evLoop (norm ((V 87).keep 87 (Ev.keyOf c87_5400 * 1000 + 400)) 0) (evCode (V 87) q87 o87 87 0 3994 c87_5400) N st (kOut (V 87) 87 0 (Ev.keyOf c87_5400 * 1000 + 401) K)

theorem slices_Equal_int_int_l5_L_eq {R : Type} (K : Ex → St → Option R) : ∀ N : Nat, (fun (v0 v1 : List Int) (v2 v3 : Int) => lp87_5400 N (St.mk (spread 26 0 [0, 1, 12, 13] [AV.fsl (Blk.ints .i64 v0), AV.fsl (Blk.ints .i64 v1), Ai v2, Ai v3]) []) K) = slices_Equal_int_int_l5_L (fun v4 => K (Ex.ret) (St.mk (spread 26 0 [4] [Ab v4]) [])) (fun _ => K (Ex.exit 0) (St.mk (spread 26 0 [] []) [])) N
  | 0 => by funext v0 v1 v2 v3; rfl
  | N + 1 => by
    funext v0 v1 v2 v3
    simp only [slices_Equal_int_int_l5_L]
    rw [← slices_Equal_int_int_l5_L_eq K N]
    kernel_rfl

theorem p87_5400 : PieceOk (V 87) q87 o87 87 0 (3994, 1, c87_5400) := .l (size := 26) (ss := [0, 1, 12, 13]) (F := @o87_5400_in) (by kernel_rfl) (by kernel_rfl) fun R r K vs hh h => by
  unfold o87_5400_in at h; split at h
  · rw [slices_Equal_int_int_l5_unf] at h; unfold slices_Equal_int_int_l5_B at h; rw [← slices_Equal_int_int_l5_L_eq K NR] at h; exact h
  · cases h

theorem pc87 : ∀ x ∈ [(3994, 1, c87_5400)], PieceOk (V 87) q87 o87 87 0 x := List.forall_mem_cons.2 ⟨p87_5400, fun _ h => nomatch h⟩

noncomputable def sp87 : Ev.Spec := fun args _ K => match args with
 | ([AV.fsl (Blk.ints .i64 v0), AV.fsl (Blk.ints .i64 v1)]) => slices_Equal_int_int v0 v1 (fun v2 => K (Ab v2))
 | _ => none
noncomputable def S87 := addS 87 sp87 S86
theorem D28 : Dom B0 V S87 T77 28 := Dom.s (m := 27) (n := 0) D27 D27 (O := o87) (OrcOk.fn (fn0 := Tryz.f87) (by kernel_rfl) (by kernel_rfl) pc87) fun args R K r h => by
 unfold sp87 at h; split at h
 · rw [slices_Equal_int_int_unf] at h; exact Eq.trans (by kernel_rfl) h
 · cases h

noncomputable def o75_3000_in {R : Type} (K : Ex → St → Option R) (vs : List AV) (hh : H) : Option R := match vs, hh with
 | [Ap 0 0, Ap 1 0, Ab v0], [HA [Ai v1, Ai v2, Ai v3, Ai v4, Fu v5, Ai v6, Fu v7, AV.fsl (Blk.ints .i64 v8), AV.fsl (Blk.ints .i64 v9)], HA [Ai va, Ai vb, Ai vc, Ai vd, Fu ve, Ai vf, Fu vg, AV.fsl (Blk.ints .i64 vh), AV.fsl (Blk.ints .i64 vi)]] => rrr_same_j3 v0 v1 v2 v3 v4 v5 v6 v7 v8 v9 va vb vc vd ve vf vg vh vi (fun vj => K (Ex.ret) (St.mk (spread 86 0 [4] [Ab vj]) []))
 | _, _ => none

noncomputable def o75_4000_in {R : Type} (K : Ex → St → Option R) (vs : List AV) (hh : H) : Option R := match vs, hh with
 | [Ap 0 0, Ap 1 0, Ab v0, Ab v1], [HA [Ai v2, Ai v3, Ai v4, Ai v5, Fu v6, Ai v7, Fu v8, AV.fsl (Blk.ints .i64 v9), AV.fsl (Blk.ints .i64 va)], HA [Ai vb, Ai vc, Ai vd, Ai ve, Fu vf, Ai vg, Fu vh, AV.fsl (Blk.ints .i64 vi), AV.fsl (Blk.ints .i64 vj)]] => rrr_same_j4 v0 v1 v2 v3 v4 v5 v6 v7 v8 v9 va vb vc vd ve vf vg vh vi vj (fun vk => K (Ex.ret) (St.mk (spread 86 0 [4] [Ab vk]) []))
 | _, _ => none

noncomputable def o75 : Nat → Option PSpec := lkN [(3000, fun st _ K => pickM 86 [2, 3, 5] st (o75_3000_in K)), (4000, fun st _ K => pickM 86 [2, 3, 5, 6] st (o75_4000_in K))]
noncomputable def q75 : CallF := evFun (V 75) S87 T77 10

noncomputable def c75_3000 : Code := subC [1, 1] (bodyOf Tryz.f75)

noncomputable def c75_4000 : Code := subC [1, 1, 1] (bodyOf Tryz.f75)

theorem p75_3000 : PieceOk (V 75) q75 o75 75 0 (3998, 0, c75_3000) := .s (size := 86) (ss := [2, 3, 5]) (F := @o75_3000_in) (by kernel_rfl) fun R r K vs hh h => by
  unfold o75_3000_in at h; split at h
  · rw [rrr_same_j3_unf] at h; exact Eq.trans (by kernel_rfl) h
  · cases h

theorem p75_4000 : PieceOk (V 75) q75 o75 75 0 (3997, 0, c75_4000) := .s (size := 86) (ss := [2, 3, 5, 6]) (F := @o75_4000_in) (by kernel_rfl) fun R r K vs hh h => by
  unfold o75_4000_in at h; split at h
  · rw [rrr_same_j4_unf] at h; exact Eq.trans (by kernel_rfl) h
  · cases h

theorem pc75 : ∀ x ∈ [(3998, 0, c75_3000), (3997, 0, c75_4000)], PieceOk (V 75) q75 o75 75 0 x := List.forall_mem_cons.2 ⟨p75_3000, List.forall_mem_cons.2 ⟨p75_4000, fun _ h => nomatch h⟩⟩

noncomputable def sp75 : Ev.Spec := fun args _ K => match args with
 | ([AV.agg (Blk.any [Ai v0, Ai v1, Ai v2, Ai v3, Fu v4, Ai v5, Fu v6, AV.fsl (Blk.ints .i64 v7), AV.fsl (Blk.ints .i64 v8)]), AV.agg (Blk.any [Ai v9, Ai va, Ai vb, Ai vc, Fu vd, Ai ve, Fu vf, AV.fsl (Blk.ints .i64 vg), AV.fsl (Blk.ints .i64 vh)])]) => rrr_same v0 v1 v2 v3 v4 v5 v6 v7 v8 v9 va vb vc vd ve vf vg vh (fun vi => K (Ab vi))
 | _ => none
noncomputable def S75 := addS 75 sp75 S87
theorem D29 : Dom B0 V S75 T77 29 := Dom.s (m := 28) (n := 0) D28 D28 (O := o75) (OrcOk.fn (fn0 := Tryz.f75) (by kernel_rfl) (by kernel_rfl) pc75) fun args R K r h => by
 unfold sp75 at h; split at h
 · rw [rrr_same_unf] at h; exact Eq.trans (by kernel_rfl) h
 · cases h

noncomputable def sp50 : Ev.Spec := fun args _ K => match args with
 | ([AV.agg (Blk.any [Ai v0, Ai v1, Ai v2, Ai v3, Fu v4, Ai v5, Fu v6, AV.fsl (Blk.ints .i64 v7), AV.fsl (Blk.ints .i64 v8)])]) => rrr_whole v0 v1 v2 v3 v4 v5 v6 v7 v8 (fun v9 va vb => K (AV.tup [AV.agg (Blk.any [Ai v9, Fu va]), Ab vb]))
 | _ => none
noncomputable def S50 := addS 50 sp50 S75
theorem D30 : Dom B0 V S50 T77 30 := Dom.s (m := 29) (n := 0) D29 D29 (O := (fun _ => none)) (fun _ _ _ _ => OrcOk.none _ _) fun args R K r h => by
 unfold sp50 at h; split at h
 · rw [rrr_whole_unf] at h; exact Eq.trans (by kernel_rfl) h
 · cases h

noncomputable def sp18 : Ev.Spec := fun args _ K => match args with
 | ([AV.agg (Blk.any [Ai v0, Ai v1, Ai v2, Ai v3, Fu v4, Ai v5, Fu v6, AV.fsl (Blk.ints .i64 v7), AV.fsl (Blk.ints .i64 v8)])]) => rrr_Check v0 v1 v2 v3 v4 v5 v6 v7 v8 (fun v9 => K (Ab v9))
 | _ => none
noncomputable def S18 := addS 18 sp18 S50
theorem D31 : Dom B0 V S18 T77 31 := Dom.s (m := 30) (n := 0) D30 D30 (O := (fun _ => none)) (fun _ _ _ _ => OrcOk.none _ _) fun args R K r h => by
 unfold sp18 at h; split at h
 · rw [rrr_Check_unf] at h; exact Eq.trans (by kernel_rfl) h
 · cases h

noncomputable def o89_5000_in {R : Type} (K : Ex → St → Option R) (vs : List AV) (hh : H) : Option R := match vs, hh with
 | [Ab v0], [] => ints_has_j5 v0 (fun v1 => K (Ex.ret) (St.mk (spread 24 0 [4] [AV.iface 117 (Ap 0 0)]) [HA [Ai v1]])) (fun _ => K (Ex.normal) (St.mk (spread 24 0 [] []) []))
 | _, _ => none

noncomputable def o89 : Nat → Option PSpec := lkN [(5000, fun st _ K => pickM 24 [12] st (o89_5000_in K))]
noncomputable def q89 : CallF := evFun (V 89) S18 T77 10

noncomputable def c89_5000 : Code := subC [1, 0, 0, 1, 1, 1] (bodyOf Tryz.f89)

theorem p89_5000 : PieceOk (V 89) q89 o89 89 0 (3994, 0, c89_5000) := .s (size := 24) (ss := [12]) (F := @o89_5000_in) (by kernel_rfl) fun R r K vs hh h => by
  unfold o89_5000_in at h; split at h
  · rw [ints_has_j5_unf] at h; exact Eq.trans (by kernel_rfl) h
  · cases h

theorem pc89 : ∀ x ∈ [(3994, 0, c89_5000)], PieceOk (V 89) q89 o89 89 0 x := List.forall_mem_cons.2 ⟨p89_5000, fun _ h => nomatch h⟩

noncomputable def sp89 : Ev.Spec := fun args _ K => match args with
 | ([AV.agg (Blk.any [Ai v0, Ai v1, Ai v2, Fu v3]), Ai v4]) => ints_has v0 v1 v2 v3 v4 (fun v5 => K (AV.iface 117 (AV.fptr (Blk.any [Ai v5])))) (fun _ => K (AV.nilif))
 | _ => none
noncomputable def S89 := addS 89 sp89 S18
theorem D32 : Dom B0 V S89 T77 32 := Dom.s (m := 31) (n := 0) D31 D31 (O := o89) (OrcOk.fn (fn0 := Tryz.f89) (by kernel_rfl) (by kernel_rfl) pc89) fun args R K r h => by
 unfold sp89 at h; split at h
 · rw [ints_has_unf] at h; exact Eq.trans (by kernel_rfl) h
 · cases h

noncomputable def sp82 : Ev.Spec := fun args _ K => match args with
 | ([AV.agg (Blk.any [Ai v0, Ai v1, Ai v2, Fu v3]), Ai v4]) => ints_Get v0 v1 v2 v3 v4 (fun v5 v6 => K (AV.tup [Au v5, Ai v6]))
 | _ => none
noncomputable def S82 := addS 82 sp82 S89
theorem D33 : Dom B0 V S82 T77 33 := Dom.s (m := 32) (n := 0) D32 D32 (O := (fun _ => none)) (fun _ _ _ _ => OrcOk.none _ _) fun args R K r h => by
 unfold sp82 at h; split at h
 · rw [ints_Get_unf] at h; exact Eq.trans (by kernel_rfl) h
 · cases h
end Go.Proofs.YtdojekdcdoaccaaGreatDoor
