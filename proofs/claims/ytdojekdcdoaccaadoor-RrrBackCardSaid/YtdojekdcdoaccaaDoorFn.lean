/- The functions that this seat's laws reach, as plain functions, and that they are what the program does. Printed by a program of this repo (wip/Prt). -/
import Derived.Test.YtdojekdcdoaccaaDoorBase
import Derived.Test.YtdojekdcdoaccaaDoorEnv
import Derived.Test.YtdojekdcdoaccaaDoorEvC
import Derived.KernelRfl
namespace Go.Proofs.YtdojekdcdoaccaaDoor
open Go Go.Ev
def txt__14a5d8 : ByteArray := ByteArray.mk (List.toArray (List.append (List.append [0, 1, 2, 2, 3, 3, 3, 3, 4, 4, 4, 4, 4, 4, 4, 4, 5, 5, 5, 5, 5, 5, 5, 5, 5, 5, 5, 5, 5, 5, 5, 5, 6, 6, 6, 6, 6, 6, 6, 6, 6, 6, 6, 6, 6, 6, 6, 6, 6, 6, 6, 6, 6, 6, 6, 6, 6, 6, 6, 6, 6, 6, 6, 6] [7, 7, 7, 7, 7, 7, 7, 7, 7, 7, 7, 7, 7, 7, 7, 7, 7, 7, 7, 7, 7, 7, 7, 7, 7, 7, 7, 7, 7, 7, 7, 7, 7, 7, 7, 7, 7, 7, 7, 7, 7, 7, 7, 7, 7, 7, 7, 7, 7, 7, 7, 7, 7, 7, 7, 7, 7, 7, 7, 7, 7, 7, 7, 7]) (List.append [8, 8, 8, 8, 8, 8, 8, 8, 8, 8, 8, 8, 8, 8, 8, 8, 8, 8, 8, 8, 8, 8, 8, 8, 8, 8, 8, 8, 8, 8, 8, 8, 8, 8, 8, 8, 8, 8, 8, 8, 8, 8, 8, 8, 8, 8, 8, 8, 8, 8, 8, 8, 8, 8, 8, 8, 8, 8, 8, 8, 8, 8, 8, 8] [8, 8, 8, 8, 8, 8, 8, 8, 8, 8, 8, 8, 8, 8, 8, 8, 8, 8, 8, 8, 8, 8, 8, 8, 8, 8, 8, 8, 8, 8, 8, 8, 8, 8, 8, 8, 8, 8, 8, 8, 8, 8, 8, 8, 8, 8, 8, 8, 8, 8, 8, 8, 8, 8, 8, 8, 8, 8, 8, 8, 8, 8, 8, 8])))
set_option maxRecDepth 100000
set_option maxHeartbeats 4000000
@[match_pattern] abbrev Ai (n : Int) : AV := AV.int .i64 n
@[match_pattern] abbrev Au (n : Int) : AV := AV.int .u64 n
@[match_pattern] abbrev Ab (b : Bool) : AV := AV.bool b
@[match_pattern] abbrev Ap (a b : Nat) : AV := AV.ptr a b
@[match_pattern] abbrev Fu (xs : List Int) : AV := AV.fsl (Blk.ints .u64 xs)
@[match_pattern] abbrev HA (vs : List AV) : HB := HB.live (Blk.any vs)
@[match_pattern] abbrev HU (xs : List Int) : HB := HB.live (Blk.ints .u64 xs)
@[match_pattern] abbrev HO (bs : List Bool) : HB := HB.live (Blk.bools bs)


noncomputable def bits_words_B {R : Type} (v0 : Int) (K0 : Int → Option R) : Option R :=
 K0 (quoW .i64 (subW .i64 (addW .i64 v0 64) 1) 64)
noncomputable def bits_words {R : Type} := shut (@bits_words_B R)
theorem bits_words_unf {R : Type} : @bits_words R = @bits_words_B R := shut_eq _

noncomputable def word_Mask_B {R : Type} (v0 : Int) (K0 : Int → Option R) : Option R :=
 sel (decide (v0 ≤ 0))
 (K0 0)
 (sel (decide (0 ≤ max2 0 (subW .i64 64 v0)))
 (K0 (shrW .u64 18446744073709551615 (max2 0 (subW .i64 64 v0))))
 (none))
noncomputable def word_Mask {R : Type} := shut (@word_Mask_B R)
theorem word_Mask_unf {R : Type} : @word_Mask R = @word_Mask_B R := shut_eq _

noncomputable def bits_Check_j4_B {R : Type} (v0 : Int) (v1 : List Int) (K0 : Bool → Option R) : Option R :=
 sel (decide (remW v0 64 = 0))
 (K0 true)
 (sel (decide (0 ≤ subW .i64 (↑(List.length v1) : Int) 1))
 (sel (decide (subW .i64 (↑(List.length v1) : Int) 1 < (↑(List.length v1) : Int)))
 (word_Mask (remW v0 64)
 (fun v2 => letV (decide (andNotW .u64 (List.getD v1 (Int.toNat (subW .i64 (↑(List.length v1) : Int) 1)) 0) v2 = 0)) (fun (v3 : Bool) =>
 K0 v3)))
 (none))
 (none))
noncomputable def bits_Check_j4 {R : Type} := shut (@bits_Check_j4_B R)
theorem bits_Check_j4_unf {R : Type} : @bits_Check_j4 R = @bits_Check_j4_B R := shut_eq _

noncomputable def bits_Check_B {R : Type} (v0 : Int) (v1 : List Int) (K0 : Bool → Option R) : Option R :=
 sel (decide (v0 < 0))
 (K0 false)
 (sel (decide (1048576 < v0))
 (K0 false)
 (bits_words v0
 (fun v2 => sel (!decide ((↑(List.length v1) : Int) = v2))
 (K0 false)
 (bits_Check_j4 v0 v1
 (fun v3 => K0 v3)))))
noncomputable def bits_Check {R : Type} := shut (@bits_Check_B R)
theorem bits_Check_unf {R : Type} : @bits_Check R = @bits_Check_B R := shut_eq _

noncomputable def bits_Slice_j5_B {R : Type} (v0 v1 : Int) (v2 : Bool) (v3 : Int) (v4 : List Int) (K0 : Int → Int → Option R) (K1 : Int → Int → Int → List Int → Option R) : Option R :=
 sel v2
 (K0 0 3)
 (sel (decide (v1 = 0))
 (K0 0 0)
 (K1 v0 v1 v3 v4))
noncomputable def bits_Slice_j5 {R : Type} := shut (@bits_Slice_j5_B R)
theorem bits_Slice_j5_unf {R : Type} : @bits_Slice_j5 R = @bits_Slice_j5_B R := shut_eq _

noncomputable def bits_Slice_j3_B {R : Type} (v0 v1 : Int) (v2 : Bool) (v3 : Int) (v4 : List Int) (K0 : Int → Int → Option R) (K1 : Int → Int → Int → List Int → Option R) : Option R :=
 sel v2
 (K0 0 2)
 (sel (decide (v0 < 0))
 (bits_Slice_j5 v0 v1 true v3 v4
 (fun v5 v6 => K0 v5 v6)
 (fun v7 v8 v9 va => K1 v7 v8 v9 va))
 (sel (decide (v3 < v0))
 (bits_Slice_j5 v0 v1 true v3 v4
 (fun vb vc => K0 vb vc)
 (fun vd ve vf vg => K1 vd ve vf vg))
 (bits_Slice_j5 v0 v1 (decide (subW .i64 v3 v0 < v1)) v3 v4
 (fun vh vi => K0 vh vi)
 (fun vj vk vl vm => K1 vj vk vl vm))))
noncomputable def bits_Slice_j3 {R : Type} := shut (@bits_Slice_j3_B R)
theorem bits_Slice_j3_unf {R : Type} : @bits_Slice_j3 R = @bits_Slice_j3_B R := shut_eq _

noncomputable def bits_Slice_j12_B {R : Type} (v0 v1 : Int) (K0 : Int → Int → Option R) : Option R :=
 word_Mask v0
 (fun v2 => K0 (andW .u64 v1 v2) 0)
noncomputable def bits_Slice_j12 {R : Type} := shut (@bits_Slice_j12_B R)
theorem bits_Slice_j12_unf {R : Type} : @bits_Slice_j12 R = @bits_Slice_j12_B R := shut_eq _

noncomputable def bits_Slice_j8_B {R : Type} (v0 v1 _v2 : Int) (v3 : List Int) (K0 : Int → Int → Option R) : Option R :=
 sel (decide (0 ≤ quoW .i64 v0 64))
 (sel (decide (quoW .i64 v0 64 < (↑(List.length v3) : Int)))
 (sel (decide (0 ≤ remW v0 64))
 (sel (decide (64 < addW .i64 (remW v0 64) v1))
 (sel (decide (0 ≤ addW .i64 (quoW .i64 v0 64) 1))
 (sel (decide (addW .i64 (quoW .i64 v0 64) 1 < (↑(List.length v3) : Int)))
 (sel (decide (0 ≤ subW .i64 64 (remW v0 64)))
 (letV (orW .u64 (shrW .u64 (List.getD v3 (Int.toNat (quoW .i64 v0 64)) 0) (remW v0 64)) (shlW .u64 (List.getD v3 (Int.toNat (addW .i64 (quoW .i64 v0 64) 1)) 0) (subW .i64 64 (remW v0 64)))) (fun (v4 : Int) =>
 bits_Slice_j12 v1 v4
 (fun v5 v6 => K0 v5 v6)))
 (none))
 (none))
 (none))
 (bits_Slice_j12 v1 (shrW .u64 (List.getD v3 (Int.toNat (quoW .i64 v0 64)) 0) (remW v0 64))
 (fun v7 v8 => K0 v7 v8)))
 (none))
 (none))
 (none)
noncomputable def bits_Slice_j8 {R : Type} := shut (@bits_Slice_j8_B R)
theorem bits_Slice_j8_unf {R : Type} : @bits_Slice_j8 R = @bits_Slice_j8_B R := shut_eq _

noncomputable def bits_Slice_B {R : Type} (v0 : Int) (v1 : List Int) (v2 v3 : Int) (K0 : Int → Int → Option R) : Option R :=
 bits_Check v0 v1
 (fun v4 => sel (!v4)
 (bits_Slice_j3 v2 v3 true v0 v1
 (fun v5 v6 => K0 v5 v6)
 (fun v7 v8 v9 va => bits_Slice_j8 v7 v8 v9 va
 (fun vb vc => K0 vb vc)))
 (sel (decide (v3 < 0))
 (bits_Slice_j3 v2 v3 true v0 v1
 (fun vd ve => K0 vd ve)
 (fun vf vg vh vi => bits_Slice_j8 vf vg vh vi
 (fun vj vk => K0 vj vk)))
 (bits_Slice_j3 v2 v3 (decide (64 < v3)) v0 v1
 (fun vl vm => K0 vl vm)
 (fun vn vo vp vq => bits_Slice_j8 vn vo vp vq
 (fun vr vs => K0 vr vs)))))
noncomputable def bits_Slice {R : Type} := shut (@bits_Slice_B R)
theorem bits_Slice_unf {R : Type} : @bits_Slice R = @bits_Slice_B R := shut_eq _

noncomputable def rrr_none_B {R : Type} (K0 : Int → Int → Option R) : Option R :=
 K0 0 0
noncomputable def rrr_none {R : Type} := shut (@rrr_none_B R)
theorem rrr_none_unf {R : Type} : @rrr_none R = @rrr_none_B R := shut_eq _

noncomputable def math_bits_OnesCount64_B {R : Type} (v0 : Int) (K0 : Int → Option R) : Option R :=
 letV (shrW .u64 (addW .u64 (andW .u64 (shrW .u64 (addW .u64 (andW .u64 (shrW .u64 v0 1) 6148914691236517205) (andW .u64 v0 6148914691236517205)) 2) 3689348814741910323) (andW .u64 (addW .u64 (andW .u64 (shrW .u64 v0 1) 6148914691236517205) (andW .u64 v0 6148914691236517205)) 3689348814741910323)) 4) (fun (v1 : Int) =>
 letV (addW .u64 v1 (addW .u64 (andW .u64 (shrW .u64 (addW .u64 (andW .u64 (shrW .u64 v0 1) 6148914691236517205) (andW .u64 v0 6148914691236517205)) 2) 3689348814741910323) (andW .u64 (addW .u64 (andW .u64 (shrW .u64 v0 1) 6148914691236517205) (andW .u64 v0 6148914691236517205)) 3689348814741910323))) (fun (v2 : Int) =>
 letV (addW .u64 (addW .u64 (addW .u64 (andW .u64 v2 1085102592571150095) (shrW .u64 (andW .u64 v2 1085102592571150095) 8)) (shrW .u64 (addW .u64 (andW .u64 v2 1085102592571150095) (shrW .u64 (andW .u64 v2 1085102592571150095) 8)) 16)) (shrW .u64 (addW .u64 (addW .u64 (andW .u64 v2 1085102592571150095) (shrW .u64 (andW .u64 v2 1085102592571150095) 8)) (shrW .u64 (addW .u64 (andW .u64 v2 1085102592571150095) (shrW .u64 (andW .u64 v2 1085102592571150095) 8)) 16)) 32)) (fun (v3 : Int) =>
 K0 (andW .i64 (cvtW .i64 v3) 127))))
noncomputable def math_bits_OnesCount64 {R : Type} := shut (@math_bits_OnesCount64_B R)
theorem math_bits_OnesCount64_unf {R : Type} : @math_bits_OnesCount64 R = @math_bits_OnesCount64_B R := shut_eq _

noncomputable def word_Pop_B {R : Type} (v0 : Int) (K0 : Int → Option R) : Option R :=
 math_bits_OnesCount64 v0
 (fun v1 => K0 v1)
noncomputable def word_Pop {R : Type} := shut (@word_Pop_B R)
theorem word_Pop_unf {R : Type} : @word_Pop R = @word_Pop_B R := shut_eq _

noncomputable def binom_row_next_l2_T {R : Type} (rec : Int → List Int → Option R) (v0 : Int) (v1 : List Int) (K0 : List Int → Option R) : Option R :=
 sel (decide (0 < v0))
 (sel (decide (0 ≤ v0))
 (sel (decide (v0 < (↑63 : Int)))
 (sel (decide (Int.toNat v0 < List.length v1))
 (sel (decide (0 ≤ subW .i64 v0 1))
 (sel (decide (subW .i64 v0 1 < (↑63 : Int)))
 (sel (decide (Int.toNat (subW .i64 v0 1) < List.length v1))
 (sel (decide (0 ≤ v0))
 (sel (decide (v0 < (↑63 : Int)))
 (sel (decide (Int.toNat v0 < List.length v1))
 (letV (List.set v1 (Int.toNat v0) (addW .u64 (List.getD v1 (Int.toNat v0) 0) (List.getD v1 (Int.toNat (subW .i64 v0 1)) 0))) (fun (v2 : List Int) =>
 rec (subW .i64 v0 1) v2))
 (none))
 (none))
 (none))
 (none))
 (none))
 (none))
 (none))
 (none))
 (none))
 (K0 v1)
noncomputable def binom_row_next_l2_L {R : Type} (K0 : List Int → Option R) : Nat → Int → List Int → Option R
 | 0, _, _ => none
 | N + 1, v0, v1 => binom_row_next_l2_T (binom_row_next_l2_L K0 N) v0 v1 K0
noncomputable def binom_row_next_l2_B {R : Type} (v0 : Int) (v1 : List Int) (K0 : List Int → Option R) : Option R :=
 binom_row_next_l2_L K0 NR v0 v1
noncomputable def binom_row_next_l2 {R : Type} := shut (@binom_row_next_l2_B R)
theorem binom_row_next_l2_unf {R : Type} : @binom_row_next_l2 R = @binom_row_next_l2_B R := shut_eq _

noncomputable def binom_row_next_r_B {R : Type} (v0 : Int) (v1 : List Int) (K0 : List Int → Option R) : Option R :=
 binom_row_next_l2 (addW .i64 v0 1) v1
 (fun v2 => K0 v2)
noncomputable def binom_row_next_r {R : Type} := shut (@binom_row_next_r_B R)
theorem binom_row_next_r_unf {R : Type} : @binom_row_next_r R = @binom_row_next_r_B R := shut_eq _

noncomputable def binom_rows_l5_T {R : Type} (rec : Nat → Int → Int → List Int → List (List Int) → Option R) (v0 : Nat) (v1 v2 : Int) (v3 : List Int) (v4 : List (List Int)) (K0 : Nat → List (List Int) → Option R) : Option R :=
 sel (decide (v2 < v1))
 (binom_row_next_r v2 v3
 (fun v5 => sel (decide (0 + 63 * 1 ≤ List.length v5))
 (sel (decide (0 ≤ addW .i64 v2 2))
 (sel (decide (addW .i64 v2 2 ≤ (↑63 : Int)))
 (sel (decide (Int.toNat (addW .i64 v2 2) - Int.toNat 0 = List.length v5))
 (sel (decide ((Int.toNat (addW .i64 v2 2) - Int.toNat 0) * 8 ≤ 140737488355328))
 (sel (decide (List.length v4 = v0))
 (sel (decide ((v0 + 1) * 24 ≤ 140737488355328))
 (sel (decide (Int.toNat (addW .i64 v2 2) - Int.toNat 0 = List.length v5))
 (sel (decide (Int.toNat (addW .i64 v2 2) - Int.toNat 0 = List.length v5))
 (letV (v4 ++ [v5]) (fun (v6 : List (List Int)) =>
 rec (v0 + 1) v1 (addW .i64 v2 1) v5 v6))
 (none))
 (none))
 (none))
 (none))
 (none))
 (sel (decide (0 + Nat.sub (Int.toNat (addW .i64 v2 2)) (Int.toNat 0) ≤ List.length v5))
 (sel (decide ((Int.toNat (addW .i64 v2 2) - Int.toNat 0) * 8 ≤ 140737488355328))
 (letV (List.take (Nat.sub (Int.toNat (addW .i64 v2 2)) (Int.toNat 0)) (List.drop 0 v5)) (fun (v7 : List Int) =>
 sel (decide (List.length v4 = v0))
 (sel (decide ((v0 + 1) * 24 ≤ 140737488355328))
 (sel (decide (Int.toNat (addW .i64 v2 2) - Int.toNat 0 = List.length v7))
 (sel (decide (Int.toNat (addW .i64 v2 2) - Int.toNat 0 = List.length v7))
 (letV (v4 ++ [v7]) (fun (v8 : List (List Int)) =>
 rec (v0 + 1) v1 (addW .i64 v2 1) v5 v8))
 (none))
 (none))
 (none))
 (none)))
 (none))
 (none)))
 (none))
 (none))
 (none)))
 (K0 v0 v4)
noncomputable def binom_rows_l5_L {R : Type} (K0 : Nat → List (List Int) → Option R) : Nat → Nat → Int → Int → List Int → List (List Int) → Option R
 | 0, _, _, _, _, _ => none
 | N + 1, v0, v1, v2, v3, v4 => binom_rows_l5_T (binom_rows_l5_L K0 N) v0 v1 v2 v3 v4 K0
noncomputable def binom_rows_l5_B {R : Type} (v0 : Nat) (v1 v2 : Int) (v3 : List Int) (v4 : List (List Int)) (K0 : Nat → List (List Int) → Option R) : Option R :=
 binom_rows_l5_L K0 NR v0 v1 v2 v3 v4
noncomputable def binom_rows_l5 {R : Type} := shut (@binom_rows_l5_B R)
theorem binom_rows_l5_unf {R : Type} : @binom_rows_l5 R = @binom_rows_l5_B R := shut_eq _

noncomputable def binom_rows_B {R : Type} (v0 : Int) (K0 : List (List Int) → Option R) : Option R :=
 binom_rows_l5 1 v0 0 (List.take 0 (List.replicate 63 0) ++ ([1, 0, 0, 0, 0, 0, 0, 0, 0, 0, 0, 0, 0, 0, 0, 0, 0, 0, 0, 0, 0, 0, 0, 0, 0, 0, 0, 0, 0, 0, 0, 0, 0, 0, 0, 0, 0, 0, 0, 0, 0, 0, 0, 0, 0, 0, 0, 0, 0, 0, 0, 0, 0, 0, 0, 0, 0, 0, 0, 0, 0, 0, 0] ++ List.drop (0 + List.length [1, 0, 0, 0, 0, 0, 0, 0, 0, 0, 0, 0, 0, 0, 0, 0, 0, 0, 0, 0, 0, 0, 0, 0, 0, 0, 0, 0, 0, 0, 0, 0, 0, 0, 0, 0, 0, 0, 0, 0, 0, 0, 0, 0, 0, 0, 0, 0, 0, 0, 0, 0, 0, 0, 0, 0, 0, 0, 0, 0, 0, 0, 0]) (List.replicate 63 0))) ([[1]])
 (fun v1 v2 => sel (decide (v1 = colN [Col.fints .u64 v2]))
 (K0 v2)
 (none))
noncomputable def binom_rows {R : Type} := shut (@binom_rows_B R)
theorem binom_rows_unf {R : Type} : @binom_rows R = @binom_rows_B R := shut_eq _

noncomputable def math_bits_Len64_j11_B {R : Type} (v0 v1 : Int) (K0 : Int → Option R) : Option R :=
 sel (decide (0 ≤ cvtW .u8 v0))
 (sel (decide (cvtW .u8 v0 < (↑(ByteArray.size (txt__14a5d8)) : Int)))
 (letV ((↑(UInt8.toNat (List.getD (Array.toList (ByteArray.data (txt__14a5d8))) (Int.toNat (cvtW .u8 v0)) 0)) : Int)) (fun (v2 : Int) =>
 K0 (addW .i64 v1 (cvtW .i64 v2))))
 (none))
 (none)
noncomputable def math_bits_Len64_j11 {R : Type} := shut (@math_bits_Len64_j11_B R)
theorem math_bits_Len64_j11_unf {R : Type} : @math_bits_Len64_j11 R = @math_bits_Len64_j11_B R := shut_eq _

noncomputable def math_bits_Len64_j8_B {R : Type} (v0 v1 : Int) (K0 : Int → Option R) : Option R :=
 sel (decide (256 ≤ v0))
 (math_bits_Len64_j11 (shrW .u64 v0 8) (addW .i64 v1 8)
 (fun v2 => K0 v2))
 (math_bits_Len64_j11 v0 v1
 (fun v3 => K0 v3))
noncomputable def math_bits_Len64_j8 {R : Type} := shut (@math_bits_Len64_j8_B R)
theorem math_bits_Len64_j8_unf {R : Type} : @math_bits_Len64_j8 R = @math_bits_Len64_j8_B R := shut_eq _

noncomputable def math_bits_Len64_j5_B {R : Type} (v0 v1 : Int) (K0 : Int → Option R) : Option R :=
 sel (decide (65536 ≤ v0))
 (math_bits_Len64_j8 (shrW .u64 v0 16) (addW .i64 v1 16)
 (fun v2 => K0 v2))
 (math_bits_Len64_j8 v0 v1
 (fun v3 => K0 v3))
noncomputable def math_bits_Len64_j5 {R : Type} := shut (@math_bits_Len64_j5_B R)
theorem math_bits_Len64_j5_unf {R : Type} : @math_bits_Len64_j5 R = @math_bits_Len64_j5_B R := shut_eq _

noncomputable def math_bits_Len64_B {R : Type} (v0 : Int) (K0 : Int → Option R) : Option R :=
 sel (decide (4294967296 ≤ v0))
 (math_bits_Len64_j5 (shrW .u64 v0 32) 32
 (fun v1 => K0 v1))
 (math_bits_Len64_j5 v0 0
 (fun v2 => K0 v2))
noncomputable def math_bits_Len64 {R : Type} := shut (@math_bits_Len64_B R)
theorem math_bits_Len64_unf {R : Type} : @math_bits_Len64 R = @math_bits_Len64_B R := shut_eq _

noncomputable def word_Len_B {R : Type} (v0 : Int) (K0 : Int → Option R) : Option R :=
 math_bits_Len64 v0
 (fun v1 => K0 v1)
noncomputable def word_Len {R : Type} := shut (@word_Len_B R)
theorem word_Len_unf {R : Type} : @word_Len R = @word_Len_B R := shut_eq _

noncomputable def binom_Offset_j14_B {R : Type} (v0 v1 : Int) (v2 : List (List Int)) (v3 v4 v5 : Int) (K0 : Int → Int → List (List Int) → Int → Int → Option R) : Option R :=
 sel (decide (0 ≤ v5))
 (K0 (andNotW .u64 v0 (shlW .u64 1 v5)) v1 v2 v3 v4)
 (none)
noncomputable def binom_Offset_j14 {R : Type} := shut (@binom_Offset_j14_B R)
theorem binom_Offset_j14_unf {R : Type} : @binom_Offset_j14 R = @binom_Offset_j14_B R := shut_eq _

noncomputable def binom_Offset_l9_T {R : Type} (rec : Int → Int → List (List Int) → Int → Int → Option R) (v0 v1 : Int) (v2 : List (List Int)) (v3 v4 : Int) (K0 : Int → Int → Option R) : Option R :=
 sel (decide (0 < v0))
 (word_Len v0
 (fun v5 => sel (decide (v4 ≤ subW .i64 v5 1))
 (sel (decide (0 ≤ subW .i64 v5 1))
 (sel (decide (subW .i64 v5 1 < (↑(List.length v2) : Int)))
 (letV (List.getD v2 (Int.toNat (subW .i64 v5 1)) []) (fun (v6 : List Int) =>
 sel (decide (0 ≤ v4))
 (sel (decide (v4 < (↑(List.length v6) : Int)))
 (binom_Offset_j14 v0 v1 v2 (addW .u64 v3 (List.getD v6 (Int.toNat v4) 0)) v4 (subW .i64 v5 1)
 (fun v7 v8 v9 va vb => rec v7 v8 v9 va (subW .i64 vb 1)))
 (none))
 (none)))
 (none))
 (none))
 (binom_Offset_j14 v0 v1 v2 v3 v4 (subW .i64 v5 1)
 (fun vc vd ve vf vg => rec vc vd ve vf (subW .i64 vg 1)))))
 (K0 v1 v3)
noncomputable def binom_Offset_l9_L {R : Type} (K0 : Int → Int → Option R) : Nat → Int → Int → List (List Int) → Int → Int → Option R
 | 0, _, _, _, _, _ => none
 | N + 1, v0, v1, v2, v3, v4 => binom_Offset_l9_T (binom_Offset_l9_L K0 N) v0 v1 v2 v3 v4 K0
noncomputable def binom_Offset_l9_B {R : Type} (v0 v1 : Int) (v2 : List (List Int)) (v3 v4 : Int) (K0 : Int → Int → Option R) : Option R :=
 binom_Offset_l9_L K0 NR v0 v1 v2 v3 v4
noncomputable def binom_Offset_l9 {R : Type} := shut (@binom_Offset_l9_B R)
theorem binom_Offset_l9_unf {R : Type} : @binom_Offset_l9 R = @binom_Offset_l9_B R := shut_eq _

noncomputable def binom_Offset_j4_B {R : Type} (v0 v1 : Int) (K0 : Int → Int → Option R) : Option R :=
 word_Mask v1
 (fun v2 => word_Pop (andW .u64 v0 v2)
 (fun v3 => binom_rows v1
 (fun v4 => binom_Offset_l9 (andW .u64 v0 v2) v3 v4 0 v3
 (fun v5 v6 => K0 v5 v6))))
noncomputable def binom_Offset_j4 {R : Type} := shut (@binom_Offset_j4_B R)
theorem binom_Offset_j4_unf {R : Type} : @binom_Offset_j4 R = @binom_Offset_j4_B R := shut_eq _

noncomputable def binom_Offset_B {R : Type} (v0 v1 : Int) (K0 : Int → Int → Option R) : Option R :=
 sel (decide (v1 < 0))
 (K0 0 0)
 (sel (decide (62 < v1))
 (K0 0 0)
 (binom_Offset_j4 v0 v1
 (fun v2 v3 => K0 v2 v3)))
noncomputable def binom_Offset {R : Type} := shut (@binom_Offset_B R)
theorem binom_Offset_unf {R : Type} : @binom_Offset R = @binom_Offset_B R := shut_eq _

noncomputable def rrr_blockOf_B {R : Type} (v0 : Int) (K0 : Int → Int → Option R) : Option R :=
 rrr_none 
 (fun _ _ => binom_Offset v0 15
 (fun v3 v4 => K0 v3 v4))
noncomputable def rrr_blockOf {R : Type} := shut (@rrr_blockOf_B R)
theorem rrr_blockOf_unf {R : Type} : @rrr_blockOf R = @rrr_blockOf_B R := shut_eq _

noncomputable def binom_Choose_l6_T {R : Type} (rec : Int → Int → Int → List Int → Option R) (v0 v1 v2 : Int) (v3 : List Int) (K0 : Int → List Int → Option R) : Option R :=
 sel (decide (v2 < v1))
 (binom_row_next_r v2 v3
 (fun v4 => rec v0 v1 (addW .i64 v2 1) v4))
 (K0 v0 v3)
noncomputable def binom_Choose_l6_L {R : Type} (K0 : Int → List Int → Option R) : Nat → Int → Int → Int → List Int → Option R
 | 0, _, _, _, _ => none
 | N + 1, v0, v1, v2, v3 => binom_Choose_l6_T (binom_Choose_l6_L K0 N) v0 v1 v2 v3 K0
noncomputable def binom_Choose_l6_B {R : Type} (v0 v1 v2 : Int) (v3 : List Int) (K0 : Int → List Int → Option R) : Option R :=
 binom_Choose_l6_L K0 NR v0 v1 v2 v3
noncomputable def binom_Choose_l6 {R : Type} := shut (@binom_Choose_l6_B R)
theorem binom_Choose_l6_unf {R : Type} : @binom_Choose_l6 R = @binom_Choose_l6_B R := shut_eq _

noncomputable def binom_Choose_j4_B {R : Type} (v0 v1 : Int) (K0 : Int → Option R) : Option R :=
 binom_Choose_l6 v1 v0 0 (List.take 0 (List.replicate 63 0) ++ ([1, 0, 0, 0, 0, 0, 0, 0, 0, 0, 0, 0, 0, 0, 0, 0, 0, 0, 0, 0, 0, 0, 0, 0, 0, 0, 0, 0, 0, 0, 0, 0, 0, 0, 0, 0, 0, 0, 0, 0, 0, 0, 0, 0, 0, 0, 0, 0, 0, 0, 0, 0, 0, 0, 0, 0, 0, 0, 0, 0, 0, 0, 0] ++ List.drop (0 + List.length [1, 0, 0, 0, 0, 0, 0, 0, 0, 0, 0, 0, 0, 0, 0, 0, 0, 0, 0, 0, 0, 0, 0, 0, 0, 0, 0, 0, 0, 0, 0, 0, 0, 0, 0, 0, 0, 0, 0, 0, 0, 0, 0, 0, 0, 0, 0, 0, 0, 0, 0, 0, 0, 0, 0, 0, 0, 0, 0, 0, 0, 0, 0]) (List.replicate 63 0)))
 (fun v2 v3 => sel (decide (0 ≤ v2))
 (sel (decide (v2 < (↑63 : Int)))
 (sel (decide (Int.toNat v2 < List.length v3))
 (K0 (List.getD v3 (Int.toNat v2) 0))
 (none))
 (none))
 (none))
noncomputable def binom_Choose_j4 {R : Type} := shut (@binom_Choose_j4_B R)
theorem binom_Choose_j4_unf {R : Type} : @binom_Choose_j4 R = @binom_Choose_j4_B R := shut_eq _

noncomputable def binom_Choose_B {R : Type} (v0 v1 : Int) (K0 : Int → Option R) : Option R :=
 sel (decide (v0 < 0))
 (K0 0)
 (sel (decide (62 < v0))
 (K0 0)
 (sel (decide (v1 < 0))
 (K0 0)
 (sel (decide (v0 < v1))
 (K0 0)
 (binom_Choose_j4 v0 v1
 (fun v2 => K0 v2)))))
noncomputable def binom_Choose {R : Type} := shut (@binom_Choose_B R)
theorem binom_Choose_unf {R : Type} : @binom_Choose R = @binom_Choose_B R := shut_eq _

noncomputable def binom_Width_B {R : Type} (v0 v1 : Int) (K0 : Int → Option R) : Option R :=
 binom_Choose v0 v1
 (fun v2 => sel (decide (v2 = 0))
 (K0 0)
 (word_Len (subW .u64 v2 1)
 (fun v3 => K0 v3)))
noncomputable def binom_Width {R : Type} := shut (@binom_Width_B R)
theorem binom_Width_unf {R : Type} : @binom_Width R = @binom_Width_B R := shut_eq _

noncomputable def bits_Append_j3_B {R : Type} (v0 v1 : Int) (v2 : Bool) (v3 : Int) (v4 : List Int) (v5 : Int) (K0 : Int → Int → List Int → Option R) (K1 : Int → Int → Int → List Int → Int → Option R) : Option R :=
 sel v2
 (K0 2 v3 v4)
 (K1 v0 v1 v3 v4 v5)
noncomputable def bits_Append_j3 {R : Type} := shut (@bits_Append_j3_B R)
theorem bits_Append_j3_unf {R : Type} : @bits_Append_j3 R = @bits_Append_j3_B R := shut_eq _

noncomputable def bits_own_r_B {R : Type} (_v0 : Int) (v1 : List Int) (v2 : Int) (K0 : Int → Nat → List Int → Option R) : Option R :=
 bits_words v2
 (fun v3 => sel (decide (0 ≤ v3))
 (sel (decide (v3 ≤ v3))
 (sel (decide (v3 ≤ 281474976710656))
 (sel (decide ((↑8 : Int) * v3 ≤ 281474976710656))
 (letV (List.replicate (Int.toNat v3) 0) (fun (v4 : List Int) =>
 sel (decide (0 + Int.toNat v3 ≤ List.length v4))
 (sel (decide (List.length v1 ≤ Int.toNat v3))
 (sel (decide (0 + List.length v1 ≤ List.length v4))
 (letV (List.take 0 v4 ++ (v1 ++ List.drop (0 + List.length v1) v4)) (fun (v5 : List Int) =>
 K0 v2 (Int.toNat v3) v5))
 (none))
 (sel (decide (0 + Int.toNat v3 ≤ List.length v1))
 (sel (decide (0 + List.length (List.take (Int.toNat v3) (List.drop 0 v1)) ≤ List.length v4))
 (letV (List.take 0 v4 ++ (List.take (Int.toNat v3) (List.drop 0 v1) ++ List.drop (0 + List.length (List.take (Int.toNat v3) (List.drop 0 v1))) v4)) (fun (v6 : List Int) =>
 K0 v2 (Int.toNat v3) v6))
 (none))
 (none)))
 (none)))
 (none))
 (none))
 (none))
 (none))
noncomputable def bits_own_r {R : Type} := shut (@bits_own_r_B R)
theorem bits_own_r_unf {R : Type} : @bits_own_r R = @bits_own_r_B R := shut_eq _

noncomputable def bits_fill_j6_B {R : Type} (v0 v1 v2 : Int) (v3 : Bool) (v4 : List Int) (_v5 : Int) (v6 : Nat) (K0 : List Int → Option R) : Option R :=
 sel v3
 (sel (decide (0 ≤ addW .i64 v1 1))
 (sel (decide (addW .i64 v1 1 < (↑v6 : Int)))
 (sel (decide (Int.toNat (addW .i64 v1 1) < List.length v4))
 (sel (decide (0 ≤ subW .i64 64 v2))
 (sel (decide (0 ≤ addW .i64 v1 1))
 (sel (decide (addW .i64 v1 1 < (↑v6 : Int)))
 (sel (decide (Int.toNat (addW .i64 v1 1) < List.length v4))
 (letV (List.set v4 (Int.toNat (addW .i64 v1 1)) (orW .u64 (List.getD v4 (Int.toNat (addW .i64 v1 1)) 0) (shrW .u64 v0 (subW .i64 64 v2)))) (fun (v7 : List Int) =>
 K0 v7))
 (none))
 (none))
 (none))
 (none))
 (none))
 (none))
 (none))
 (K0 v4)
noncomputable def bits_fill_j6 {R : Type} := shut (@bits_fill_j6_B R)
theorem bits_fill_j6_unf {R : Type} : @bits_fill_j6 R = @bits_fill_j6_B R := shut_eq _

noncomputable def bits_fill_j5_B {R : Type} (v0 v1 v2 : Int) (v3 : List Int) (v4 : Int) (v5 : Nat) (K0 : List Int → Option R) : Option R :=
 sel (decide (0 < v2))
 (bits_fill_j6 v0 v1 v2 (decide (addW .i64 v1 1 < (↑v5 : Int))) v3 v4 v5
 (fun v6 => K0 v6))
 (bits_fill_j6 v0 v1 v2 false v3 v4 v5
 (fun v7 => K0 v7))
noncomputable def bits_fill_j5 {R : Type} := shut (@bits_fill_j5_B R)
theorem bits_fill_j5_unf {R : Type} : @bits_fill_j5 R = @bits_fill_j5_B R := shut_eq _

noncomputable def bits_fill_r_B {R : Type} (v0 : Int) (v1 : Nat) (v2 v3 : Int) (v4 : List Int) (K0 : List Int → Option R) : Option R :=
 sel (decide (quoW .i64 v2 64 < (↑v1 : Int)))
 (sel (decide (0 ≤ quoW .i64 v2 64))
 (sel (decide (quoW .i64 v2 64 < (↑v1 : Int)))
 (sel (decide (Int.toNat (quoW .i64 v2 64) < List.length v4))
 (sel (decide (0 ≤ remW v2 64))
 (sel (decide (0 ≤ quoW .i64 v2 64))
 (sel (decide (quoW .i64 v2 64 < (↑v1 : Int)))
 (sel (decide (Int.toNat (quoW .i64 v2 64) < List.length v4))
 (letV (List.set v4 (Int.toNat (quoW .i64 v2 64)) (orW .u64 (List.getD v4 (Int.toNat (quoW .i64 v2 64)) 0) (shlW .u64 v3 (remW v2 64)))) (fun (v5 : List Int) =>
 bits_fill_j5 v3 (quoW .i64 v2 64) (remW v2 64) v5 v0 v1
 (fun v6 => K0 v6)))
 (none))
 (none))
 (none))
 (none))
 (none))
 (none))
 (none))
 (bits_fill_j5 v3 (quoW .i64 v2 64) (remW v2 64) v4 v0 v1
 (fun v7 => K0 v7))
noncomputable def bits_fill_r {R : Type} := shut (@bits_fill_r_B R)
theorem bits_fill_r_unf {R : Type} : @bits_fill_r R = @bits_fill_r_B R := shut_eq _

noncomputable def bits_Append_j4_B {R : Type} (v0 v1 v2 : Int) (v3 : List Int) (_v4 : Int) (K0 : Int → Int → Nat → List Int → Option R) : Option R :=
 bits_own_r v2 v3 (addW .i64 v2 v1)
 (fun v5 v6 v7 => word_Mask v1
 (fun v8 => bits_fill_r v5 v6 v2 (andW .u64 v0 v8) v7
 (fun v9 => K0 0 v5 v6 v9)))
noncomputable def bits_Append_j4 {R : Type} := shut (@bits_Append_j4_B R)
theorem bits_Append_j4_unf {R : Type} : @bits_Append_j4 R = @bits_Append_j4_B R := shut_eq _

noncomputable def bits_Append_B {R : Type} (v0 : Int) (v1 : List Int) (v2 v3 : Int) (K0 : Int → List Int → Int → Option R) : Option R :=
 bits_Check v0 v1
 (fun v4 => sel (!v4)
 (bits_Append_j3 v2 v3 true v0 v1 0
 (fun v5 v6 v7 => K0 v6 v7 v5)
 (fun v8 v9 va vb vc => bits_Append_j4 v8 v9 va vb vc
 (fun vd ve vf vg => sel (decide (vf = List.length vg))
 (K0 ve vg vd)
 (none))))
 (sel (decide (v3 < 0))
 (bits_Append_j3 v2 v3 true v0 v1 0
 (fun vh vi vj => K0 vi vj vh)
 (fun vk vl vm vn vo => bits_Append_j4 vk vl vm vn vo
 (fun vp vq vr vs => sel (decide (vr = List.length vs))
 (K0 vq vs vp)
 (none))))
 (sel (decide (64 < v3))
 (bits_Append_j3 v2 v3 true v0 v1 0
 (fun vt vu vv => K0 vu vv vt)
 (fun vw vx vy vz v10 => bits_Append_j4 vw vx vy vz v10
 (fun v11 v12 v13 v14 => sel (decide (v13 = List.length v14))
 (K0 v12 v14 v11)
 (none))))
 (bits_Append_j3 v2 v3 (decide (subW .i64 1048576 v0 < v3)) v0 v1 0
 (fun v15 v16 v17 => K0 v16 v17 v15)
 (fun v18 v19 v1a v1b v1c => bits_Append_j4 v18 v19 v1a v1b v1c
 (fun v1d v1e v1f v1g => sel (decide (v1f = List.length v1g))
 (K0 v1e v1g v1d)
 (none)))))))
noncomputable def bits_Append {R : Type} := shut (@bits_Append_B R)
theorem bits_Append_unf {R : Type} : @bits_Append R = @bits_Append_B R := shut_eq _

noncomputable def rrr_Build_j18_B {R : Type} (v0 : Nat) (v1 v2 v3 : Int) (v4 : List Int) (v5 v6 v7 v8 v9 va vb vc vd ve : Int) (vf : List Int) (vg vh : Nat) (vi vj vk : List Int) (vl _vm : Int) (K0 : Nat → Int → Int → Int → List Int → Int → Int → Int → Int → Int → Int → Int → Int → Int → Int → List Int → Nat → Nat → List Int → List Int → List Int → Option R) : Option R :=
 K0 v0 (addW .i64 v1 vl) v2 v3 v4 v5 v6 v7 v8 v9 va vb vc vd ve vf vg vh vi vj vk
noncomputable def rrr_Build_j18 {R : Type} := shut (@rrr_Build_j18_B R)
theorem rrr_Build_j18_unf {R : Type} : @rrr_Build_j18 R = @rrr_Build_j18_B R := shut_eq _

noncomputable def rrr_Build_j12_B {R : Type} (v0 : Nat) (v1 v2 v3 : Int) (v4 : List Int) (v5 v6 v7 v8 v9 va vb vc vd ve : Int) (vf : List Int) (vg vh : Nat) (vi vj vk : List Int) (K0 : Nat → Int → Int → Int → Int → Int → Int → Int → Int → Int → Int → List Int → Nat → Nat → List Int → List Int → List Int → Option R) (K1 : Nat → Int → Int → Int → List Int → Int → Int → Int → Int → Int → Int → Int → Int → Int → Int → List Int → Nat → Nat → List Int → List Int → List Int → Option R) : Option R :=
 sel (decide (v2 = v3))
 (K0 v0 v5 v6 v7 v8 v9 va vb vc vd ve vf vg vh vi vj vk)
 (bits_Slice v3 v4 v2 (min2 15 (subW .i64 v3 v2))
 (fun vl _ => rrr_blockOf vl
 (fun vn vo => sel (decide (List.length vk = v0))
 (sel (decide ((v0 + 1) * 8 ≤ 140737488355328))
 (letV (vk ++ [cvtW .u64 vn]) (fun (vp : List Int) =>
 rrr_none 
 (fun vq vr => sel (!(decide (vn = vq) && decide (vo = vr)))
 (binom_Width 15 vn
 (fun vs => bits_Append ve vf vo vs
 (fun vt vu _ => rrr_Build_j18 (v0 + 1) v1 v2 v3 v4 v5 v6 v7 v8 v9 va vb vc vd vt vu vg vh vi vj vp vn vo
 K1)))
 (rrr_Build_j18 (v0 + 1) v1 v2 v3 v4 v5 v6 v7 v8 v9 va vb vc vd ve vf vg vh vi vj vp vn vo
 K1))))
 (none))
 (none))))
noncomputable def rrr_Build_j12 {R : Type} := shut (@rrr_Build_j12_B R)
theorem rrr_Build_j12_unf {R : Type} : @rrr_Build_j12 R = @rrr_Build_j12_B R := shut_eq _

noncomputable def rrr_Build_j10_B {R : Type} (v0 : Nat) (v1 v2 v3 : Int) (v4 : List Int) (v5 v6 v7 v8 v9 va vb vc vd ve : Int) (vf : List Int) (vg vh : Nat) (vi vj vk : List Int) (K0 : Nat → Int → Int → Int → Int → Int → Int → Int → Int → Int → Int → List Int → Nat → Nat → List Int → List Int → List Int → Option R) (K1 : Nat → Int → Int → Int → List Int → Int → Int → Int → Int → Int → Int → Int → Int → Int → Int → List Int → Nat → Nat → List Int → List Int → List Int → Option R) : Option R :=
 sel (decide (remW v2 120 = 0))
 (sel (decide (List.length vi = vg))
 (sel (decide ((vg + 1) * 8 ≤ 140737488355328))
 (letV (vi ++ [v1]) (fun (vl : List Int) =>
 sel (decide (List.length vj = vh))
 (sel (decide ((vh + 1) * 8 ≤ 140737488355328))
 (letV (vj ++ [ve]) (fun (vm : List Int) =>
 rrr_Build_j12 v0 v1 v2 v3 v4 v5 v6 v7 v8 v9 va vb vc vd ve vf (vg + 1) (vh + 1) vl vm vk
 K0
 (fun v14 v15 v16 v17 v18 v19 v1a v1b v1c v1d v1e v1f v1g v1h v1i v1j v1k v1l v1m v1n v1o => K1 v14 v15 (addW .i64 v16 15) v17 v18 v19 v1a v1b v1c v1d v1e v1f v1g v1h v1i v1j v1k v1l v1m v1n v1o)))
 (none))
 (none)))
 (none))
 (none))
 (rrr_Build_j12 v0 v1 v2 v3 v4 v5 v6 v7 v8 v9 va vb vc vd ve vf vg vh vi vj vk
 K0
 (fun v26 v27 v28 v29 v2a v2b v2c v2d v2e v2f v2g v2h v2i v2j v2k v2l v2m v2n v2o v2p v2q => K1 v26 v27 (addW .i64 v28 15) v29 v2a v2b v2c v2d v2e v2f v2g v2h v2i v2j v2k v2l v2m v2n v2o v2p v2q))
noncomputable def rrr_Build_j10 {R : Type} := shut (@rrr_Build_j10_B R)
theorem rrr_Build_j10_unf {R : Type} : @rrr_Build_j10 R = @rrr_Build_j10_B R := shut_eq _

noncomputable def rrr_Build_l8_T {R : Type} (rec : Nat → Int → Int → Int → List Int → Int → Int → Int → Int → Int → Int → Int → Int → Int → Int → List Int → Nat → Nat → List Int → List Int → List Int → Option R) (v0 : Nat) (v1 v2 v3 : Int) (v4 : List Int) (v5 v6 v7 v8 v9 va vb vc vd ve : Int) (vf : List Int) (vg vh : Nat) (vi vj vk : List Int) (K0 : Nat → Int → Int → Int → Int → Int → Int → Int → Int → Int → Int → List Int → Nat → Nat → List Int → List Int → List Int → Option R) : Option R :=
 sel (decide (v2 < v3))
 (rrr_Build_j10 v0 v1 v2 v3 v4 v5 v6 v7 v8 v9 va vb vc vd ve vf vg vh vi vj vk
 K0
 rec)
 (sel (decide (v2 = 0))
 (rrr_Build_j10 v0 v1 v2 v3 v4 v5 v6 v7 v8 v9 va vb vc vd ve vf vg vh vi vj vk
 K0
 rec)
 (K0 v0 v5 v6 v7 v8 v9 va vb vc vd ve vf vg vh vi vj vk))
noncomputable def rrr_Build_l8_L {R : Type} (K0 : Nat → Int → Int → Int → Int → Int → Int → Int → Int → Int → Int → List Int → Nat → Nat → List Int → List Int → List Int → Option R) : Nat → Nat → Int → Int → Int → List Int → Int → Int → Int → Int → Int → Int → Int → Int → Int → Int → List Int → Nat → Nat → List Int → List Int → List Int → Option R
 | 0, _, _, _, _, _, _, _, _, _, _, _, _, _, _, _, _, _, _, _, _, _ => none
 | N + 1, v0, v1, v2, v3, v4, v5, v6, v7, v8, v9, va, vb, vc, vd, ve, vf, vg, vh, vi, vj, vk => rrr_Build_l8_T (rrr_Build_l8_L K0 N) v0 v1 v2 v3 v4 v5 v6 v7 v8 v9 va vb vc vd ve vf vg vh vi vj vk K0
noncomputable def rrr_Build_l8_B {R : Type} (v0 : Nat) (v1 v2 v3 : Int) (v4 : List Int) (v5 v6 v7 v8 v9 va vb vc vd ve : Int) (vf : List Int) (vg vh : Nat) (vi vj vk : List Int) (K0 : Nat → Int → Int → Int → Int → Int → Int → Int → Int → Int → Int → List Int → Nat → Nat → List Int → List Int → List Int → Option R) : Option R :=
 rrr_Build_l8_L K0 NR v0 v1 v2 v3 v4 v5 v6 v7 v8 v9 va vb vc vd ve vf vg vh vi vj vk
noncomputable def rrr_Build_l8 {R : Type} := shut (@rrr_Build_l8_B R)
theorem rrr_Build_l8_unf {R : Type} : @rrr_Build_l8 R = @rrr_Build_l8_B R := shut_eq _

noncomputable def ints_Make_j3_B {R : Type} (v0 : Int) (v1 : List Int) (v2 : Bool) (v3 v4 v5 : Int) (K0 : Int → Int → Int → Int → Option R) (K1 : Int → List Int → Int → Int → Int → Option R) : Option R :=
 sel v2
 (K0 2 0 0 0)
 (K1 v0 v1 v3 v4 v5)
noncomputable def ints_Make_j3 {R : Type} := shut (@ints_Make_j3_B R)
theorem ints_Make_j3_unf {R : Type} : @ints_Make_j3 R = @ints_Make_j3_B R := shut_eq _

noncomputable def bits_New_j3_B {R : Type} (v0 : Int) (v1 : Bool) (v2 : Int) (K0 : Int → Int → Option R) (K1 : Int → Int → Option R) : Option R :=
 sel v1
 (K0 2 0)
 (K1 v0 v2)
noncomputable def bits_New_j3 {R : Type} := shut (@bits_New_j3_B R)
theorem bits_New_j3_unf {R : Type} : @bits_New_j3 R = @bits_New_j3_B R := shut_eq _

noncomputable def bits_New_j4_B {R : Type} (v0 _v1 : Int) (K0 : Int → Int → Nat → List Int → Option R) : Option R :=
 bits_words v0
 (fun v2 => sel (decide (0 ≤ v2))
 (sel (decide (v2 ≤ v2))
 (sel (decide (v2 ≤ 281474976710656))
 (sel (decide ((↑8 : Int) * v2 ≤ 281474976710656))
 (letV (List.replicate (Int.toNat v2) 0) (fun (v3 : List Int) =>
 K0 0 v0 (Int.toNat v2) v3))
 (none))
 (none))
 (none))
 (none))
noncomputable def bits_New_j4 {R : Type} := shut (@bits_New_j4_B R)
theorem bits_New_j4_unf {R : Type} : @bits_New_j4 R = @bits_New_j4_B R := shut_eq _

noncomputable def bits_New_B {R : Type} (v0 : Int) (K0 : Int → List Int → Int → Option R) : Option R :=
 sel (decide (v0 < 0))
 (bits_New_j3 v0 true 0
 (fun v1 v2 => K0 v2 [] v1)
 (fun v3 v4 => bits_New_j4 v3 v4
 (fun v5 v6 v7 v8 => sel (decide (v7 = List.length v8))
 (K0 v6 v8 v5)
 (none))))
 (bits_New_j3 v0 (decide (1048576 < v0)) 0
 (fun v9 va => K0 va [] v9)
 (fun vb vc => bits_New_j4 vb vc
 (fun vd ve vf vg => sel (decide (vf = List.length vg))
 (K0 ve vg vd)
 (none))))
noncomputable def bits_New {R : Type} := shut (@bits_New_B R)
theorem bits_New_unf {R : Type} : @bits_New R = @bits_New_B R := shut_eq _

noncomputable def ints_Make_l6_T {R : Type} (rec : Int → List Int → List Int → Int → Int → Int → Int → Int → Int → List Int → Option R) (v0 : Int) (v1 v2 : List Int) (v3 v4 v5 v6 v7 v8 : Int) (v9 : List Int) (K0 : Int → List Int → Int → Int → Int → Int → List Int → Option R) : Option R :=
 sel (decide (v4 < v3))
 (sel (decide (0 ≤ v4))
 (sel (decide (v4 < (↑(List.length v2) : Int)))
 (bits_Append v8 v9 (List.getD v2 (Int.toNat v4) 0) v0
 (fun va vb _ => rec v0 v1 v2 v3 (addW .i64 v4 1) v5 v6 v7 va vb))
 (none))
 (none))
 (K0 v0 v1 v5 v6 v7 v8 v9)
noncomputable def ints_Make_l6_L {R : Type} (K0 : Int → List Int → Int → Int → Int → Int → List Int → Option R) : Nat → Int → List Int → List Int → Int → Int → Int → Int → Int → Int → List Int → Option R
 | 0, _, _, _, _, _, _, _, _, _, _ => none
 | N + 1, v0, v1, v2, v3, v4, v5, v6, v7, v8, v9 => ints_Make_l6_T (ints_Make_l6_L K0 N) v0 v1 v2 v3 v4 v5 v6 v7 v8 v9 K0
noncomputable def ints_Make_l6_B {R : Type} (v0 : Int) (v1 v2 : List Int) (v3 v4 v5 v6 v7 v8 : Int) (v9 : List Int) (K0 : Int → List Int → Int → Int → Int → Int → List Int → Option R) : Option R :=
 ints_Make_l6_L K0 NR v0 v1 v2 v3 v4 v5 v6 v7 v8 v9
noncomputable def ints_Make_l6 {R : Type} := shut (@ints_Make_l6_B R)
theorem ints_Make_l6_unf {R : Type} : @ints_Make_l6 R = @ints_Make_l6_B R := shut_eq _

noncomputable def ints_Make_j4_B {R : Type} (v0 : Int) (v1 : List Int) (v2 v3 v4 : Int) (K0 : Int → Int → Int → Int → List Int → Option R) : Option R :=
 bits_New 0
 (fun v5 v6 _ => ints_Make_l6 v0 v1 v1 ((↑(List.length v1) : Int)) 0 v2 v3 v4 v5 v6
 (fun v8 v9 _ _ _ vd ve => K0 0 ((↑(List.length v9) : Int)) v8 vd ve))
noncomputable def ints_Make_j4 {R : Type} := shut (@ints_Make_j4_B R)
theorem ints_Make_j4_unf {R : Type} : @ints_Make_j4 R = @ints_Make_j4_B R := shut_eq _

noncomputable def ints_width_l4_T {R : Type} (rec : Int → List Int → Int → Int → Option R) (v0 : Int) (v1 : List Int) (v2 v3 : Int) (K0 : Int → Option R) : Option R :=
 sel (decide (v3 < v2))
 (sel (decide (0 ≤ v3))
 (sel (decide (v3 < (↑(List.length v1) : Int)))
 (word_Len (List.getD v1 (Int.toNat v3) 0)
 (fun v4 => rec (max2 v0 v4) v1 v2 (addW .i64 v3 1)))
 (none))
 (none))
 (K0 v0)
noncomputable def ints_width_l4_L {R : Type} (K0 : Int → Option R) : Nat → Int → List Int → Int → Int → Option R
 | 0, _, _, _, _ => none
 | N + 1, v0, v1, v2, v3 => ints_width_l4_T (ints_width_l4_L K0 N) v0 v1 v2 v3 K0
noncomputable def ints_width_l4_B {R : Type} (v0 : Int) (v1 : List Int) (v2 v3 : Int) (K0 : Int → Option R) : Option R :=
 ints_width_l4_L K0 NR v0 v1 v2 v3
noncomputable def ints_width_l4 {R : Type} := shut (@ints_width_l4_B R)
theorem ints_width_l4_unf {R : Type} : @ints_width_l4 R = @ints_width_l4_B R := shut_eq _

noncomputable def ints_width_B {R : Type} (v0 : List Int) (K0 : Int → Option R) : Option R :=
 ints_width_l4 1 v0 ((↑(List.length v0) : Int)) 0
 (fun v1 => K0 v1)
noncomputable def ints_width {R : Type} := shut (@ints_width_B R)
theorem ints_width_unf {R : Type} : @ints_width R = @ints_width_B R := shut_eq _

noncomputable def ints_Make_B {R : Type} (v0 : Int) (v1 : List Int) (K0 : Int → Int → Int → List Int → Int → Option R) : Option R :=
 sel (decide (v0 < 1))
 (ints_Make_j3 v0 v1 true 0 0 0
 (fun v2 v3 v4 v5 => K0 v3 v4 v5 [] v2)
 (fun v6 v7 v8 v9 va => ints_Make_j4 v6 v7 v8 v9 va
 (fun vb vc vd ve vf => K0 vc vd ve vf vb)))
 (sel (decide (64 < v0))
 (ints_Make_j3 v0 v1 true 0 0 0
 (fun vg vh vi vj => K0 vh vi vj [] vg)
 (fun vk vl vm vn vo => ints_Make_j4 vk vl vm vn vo
 (fun vp vq vr vs vt => K0 vq vr vs vt vp)))
 (sel (decide (v0 = 0))
 (none)
 (sel (decide (quoW .i64 1048576 v0 < (↑(List.length v1) : Int)))
 (ints_Make_j3 v0 v1 true 0 0 0
 (fun vu vv vw vx => K0 vv vw vx [] vu)
 (fun vy vz v10 v11 v12 => ints_Make_j4 vy vz v10 v11 v12
 (fun v13 v14 v15 v16 v17 => K0 v14 v15 v16 v17 v13)))
 (ints_width v1
 (fun v18 => ints_Make_j3 v0 v1 (decide (v0 < v18)) 0 0 0
 (fun v19 v1a v1b v1c => K0 v1a v1b v1c [] v19)
 (fun v1d v1e v1f v1g v1h => ints_Make_j4 v1d v1e v1f v1g v1h
 (fun v1i v1j v1k v1l v1m => K0 v1j v1k v1l v1m v1i)))))))
noncomputable def ints_Make {R : Type} := shut (@ints_Make_B R)
theorem ints_Make_unf {R : Type} : @ints_Make R = @ints_Make_B R := shut_eq _

noncomputable def rrr_Build_j5_B {R : Type} (v0 : Int) (v1 : List Int) (v2 v3 v4 v5 v6 v7 v8 v9 va vb : Int) (K0 : Int → Int → Int → Int → Int → List Int → Int → List Int → Nat → Nat → List Int → List Int → Option R) : Option R :=
 rrr_Build_l8 0 0 0 v0 v1 v2 v3 v4 v5 v6 v7 v8 v9 va vb [] 0 0 [] [] []
 (fun vc _ _ _ _ _ vi _ _ _ vm vn vo vp vq vr vs => sel (decide (vc = List.length vs))
 (sel (decide (vc = List.length vs))
 (ints_Make 4 vs
 (fun vt vu vv vw _ => K0 0 vi vt vu vv vw vm vn vo vp vq vr))
 (none))
 (none))
noncomputable def rrr_Build_j5 {R : Type} := shut (@rrr_Build_j5_B R)
theorem rrr_Build_j5_unf {R : Type} : @rrr_Build_j5 R = @rrr_Build_j5_B R := shut_eq _

noncomputable def rrr_Build_B {R : Type} (v0 : Int) (v1 : List Int) (K0 : Int → Int → Int → Int → List Int → Int → List Int → List Int → List Int → Int → Option R) : Option R :=
 bits_Check v0 v1
 (fun v2 => sel (!v2)
 (K0 0 0 0 0 [] 0 [] [] [] 2)
 (rrr_Build_j5 v0 v1 0 0 0 0 0 v0 0 0 0 0
 (fun v3 v4 v5 v6 v7 v8 v9 va vb vc vd ve => sel (decide (vb = List.length vd))
 (sel (decide (vc = List.length ve))
 (K0 v4 v5 v6 v7 v8 v9 va vd ve v3)
 (none))
 (none))))
noncomputable def rrr_Build {R : Type} := shut (@rrr_Build_B R)
theorem rrr_Build_unf {R : Type} : @rrr_Build R = @rrr_Build_B R := shut_eq _

noncomputable def ints_Check_B {R : Type} (v0 v1 v2 : Int) (v3 : List Int) (K0 : Bool → Option R) : Option R :=
 sel (decide (1 ≤ v1))
 (sel (decide (v1 ≤ 64))
 (sel (decide (0 ≤ v0))
 (sel (decide (v0 ≤ 1048576))
 (bits_Check v2 v3
 (fun v4 => sel v4
 (K0 (decide (v2 = mulW .i64 v0 v1)))
 (K0 false)))
 (K0 false))
 (K0 false))
 (K0 false))
 (K0 false)
noncomputable def ints_Check {R : Type} := shut (@ints_Check_B R)
theorem ints_Check_unf {R : Type} : @ints_Check R = @ints_Check_B R := shut_eq _

noncomputable def ints_List_l6_T {R : Type} (rec : Nat → Int → Int → Int → Int → Int → List Int → List Int → Option R) (v0 : Nat) (v1 v2 v3 v4 v5 : Int) (v6 v7 : List Int) (K0 : Nat → List Int → Option R) : Option R :=
 sel (decide (v2 < v1))
 (bits_Slice v5 v6 (mulW .i64 v2 v4) v4
 (fun v8 _ => sel (decide (0 ≤ v2))
 (sel (decide (v2 < (↑v0 : Int)))
 (sel (decide (Int.toNat v2 < List.length v7))
 (letV (List.set v7 (Int.toNat v2) v8) (fun (va : List Int) =>
 rec v0 v1 (addW .i64 v2 1) v3 v4 v5 v6 va))
 (none))
 (none))
 (none)))
 (K0 v0 v7)
noncomputable def ints_List_l6_L {R : Type} (K0 : Nat → List Int → Option R) : Nat → Nat → Int → Int → Int → Int → Int → List Int → List Int → Option R
 | 0, _, _, _, _, _, _, _, _ => none
 | N + 1, v0, v1, v2, v3, v4, v5, v6, v7 => ints_List_l6_T (ints_List_l6_L K0 N) v0 v1 v2 v3 v4 v5 v6 v7 K0
noncomputable def ints_List_l6_B {R : Type} (v0 : Nat) (v1 v2 v3 v4 v5 : Int) (v6 v7 : List Int) (K0 : Nat → List Int → Option R) : Option R :=
 ints_List_l6_L K0 NR v0 v1 v2 v3 v4 v5 v6 v7
noncomputable def ints_List_l6 {R : Type} := shut (@ints_List_l6_B R)
theorem ints_List_l6_unf {R : Type} : @ints_List_l6 R = @ints_List_l6_B R := shut_eq _

noncomputable def ints_List_B {R : Type} (v0 v1 v2 : Int) (v3 : List Int) (K0 : List Int → Option R) : Option R :=
 ints_Check v0 v1 v2 v3
 (fun v4 => sel (!v4)
 (K0 [])
 (sel (decide (0 ≤ v0))
 (sel (decide (v0 ≤ v0))
 (sel (decide (v0 ≤ 281474976710656))
 (sel (decide ((↑8 : Int) * v0 ≤ 281474976710656))
 (letV (List.replicate (Int.toNat v0) 0) (fun (v5 : List Int) =>
 ints_List_l6 (Int.toNat v0) ((↑(Int.toNat v0) : Int)) 0 v0 v1 v2 v3 v5
 (fun v6 v7 => sel (decide (v6 = List.length v7))
 (K0 v7)
 (none))))
 (none))
 (none))
 (none))
 (none)))
noncomputable def ints_List {R : Type} := shut (@ints_List_B R)
theorem ints_List_unf {R : Type} : @ints_List R = @ints_List_B R := shut_eq _

noncomputable def binom_Block_j13_B {R : Type} (v0 v1 : Int) (v2 : List (List Int)) (v3 v4 v5 : Int) (K0 : Int → Int → List (List Int) → Int → Int → Option R) : Option R :=
 sel (decide (v5 ≤ v1))
 (sel (decide (0 ≤ v4))
 (K0 (subW .i64 v0 1) (subW .u64 v1 v5) v2 (orW .u64 v3 (shlW .u64 1 v4)) v4)
 (none))
 (K0 v0 v1 v2 v3 v4)
noncomputable def binom_Block_j13 {R : Type} := shut (@binom_Block_j13_B R)
theorem binom_Block_j13_unf {R : Type} : @binom_Block_j13 R = @binom_Block_j13_B R := shut_eq _

noncomputable def binom_Block_l7_T {R : Type} (rec : Int → Int → List (List Int) → Int → Int → Option R) (v0 v1 : Int) (v2 : List (List Int)) (v3 v4 : Int) (K0 : Int → Option R) : Option R :=
 sel (decide (0 ≤ v4))
 (sel (decide (v0 = 0))
 (K0 v3)
 (sel (decide (v0 ≤ v4))
 (sel (decide (0 ≤ v4))
 (sel (decide (v4 < (↑(List.length v2) : Int)))
 (letV (List.getD v2 (Int.toNat v4) []) (fun (v5 : List Int) =>
 sel (decide (0 ≤ v0))
 (sel (decide (v0 < (↑(List.length v5) : Int)))
 (binom_Block_j13 v0 v1 v2 v3 v4 (List.getD v5 (Int.toNat v0) 0)
 (fun v6 v7 v8 v9 va => rec v6 v7 v8 v9 (subW .i64 va 1)))
 (none))
 (none)))
 (none))
 (none))
 (binom_Block_j13 v0 v1 v2 v3 v4 0
 (fun vb vc vd ve vf => rec vb vc vd ve (subW .i64 vf 1)))))
 (K0 v3)
noncomputable def binom_Block_l7_L {R : Type} (K0 : Int → Option R) : Nat → Int → Int → List (List Int) → Int → Int → Option R
 | 0, _, _, _, _, _ => none
 | N + 1, v0, v1, v2, v3, v4 => binom_Block_l7_T (binom_Block_l7_L K0 N) v0 v1 v2 v3 v4 K0
noncomputable def binom_Block_l7_B {R : Type} (v0 v1 : Int) (v2 : List (List Int)) (v3 v4 : Int) (K0 : Int → Option R) : Option R :=
 binom_Block_l7_L K0 NR v0 v1 v2 v3 v4
noncomputable def binom_Block_l7 {R : Type} := shut (@binom_Block_l7_B R)
theorem binom_Block_l7_unf {R : Type} : @binom_Block_l7 R = @binom_Block_l7_B R := shut_eq _

noncomputable def binom_Block_B {R : Type} (v0 v1 v2 : Int) (K0 : Int → Bool → Option R) : Option R :=
 binom_Choose v0 v1
 (fun v3 => sel (decide (v3 ≤ v2))
 (K0 0 false)
 (binom_rows v0
 (fun v4 => binom_Block_l7 v1 v2 v4 0 (subW .i64 v0 1)
 (fun v5 => K0 v5 true))))
noncomputable def binom_Block {R : Type} := shut (@binom_Block_B R)
theorem binom_Block_unf {R : Type} : @binom_Block R = @binom_Block_B R := shut_eq _

noncomputable def rrr_row_j3_B {R : Type} (v0 : Bool) (v1 v2 v3 v4 : Int) (v5 : List Int) (v6 : Int) (v7 v8 v9 : List Int) (va : Int) (K0 : Bool → Int → Option R) (K1 : Int → Int → Int → Int → List Int → Int → List Int → List Int → List Int → Int → Option R) : Option R :=
 sel v0
 (K0 false 0)
 (K1 v1 v2 v3 v4 v5 v6 v7 v8 v9 va)
noncomputable def rrr_row_j3 {R : Type} := shut (@rrr_row_j3_B R)
theorem rrr_row_j3_unf {R : Type} : @rrr_row_j3 R = @rrr_row_j3_B R := shut_eq _

noncomputable def rrr_row_j16_B {R : Type} (v0 v1 v2 v3 : Int) (v4 : List Int) (v5 v6 : Int) (v7 : Bool) (v8 v9 va vb : Int) (vc : List Int) (vd : Int) (ve vf vg : List Int) (vh vi : Int) (vj : List Int) (K0 : Bool → Int → Option R) (K1 : Int → Int → Int → Int → List Int → Int → Int → Int → Int → Int → Int → List Int → Int → List Int → List Int → List Int → Int → Int → List Int → Option R) : Option R :=
 sel v7
 (K0 false 0)
 (K1 v0 v1 v2 v3 v4 v5 v6 v8 v9 va vb vc vd ve vf vg vh vi vj)
noncomputable def rrr_row_j16 {R : Type} := shut (@rrr_row_j16_B R)
theorem rrr_row_j16_unf {R : Type} : @rrr_row_j16 R = @rrr_row_j16_B R := shut_eq _

noncomputable def rrr_row_j17_B {R : Type} (v0 v1 v2 v3 : Int) (v4 : List Int) (v5 v6 v7 v8 v9 va : Int) (vb : List Int) (vc : Int) (vd ve vf : List Int) (vg vh : Int) (vi : List Int) (K0 : Int → List Int → Int → Int → Int → Int → Int → Int → List Int → Int → List Int → List Int → List Int → Int → Int → List Int → Option R) : Option R :=
 bits_Append vh vi v2 v3
 (fun vj vk _ => K0 (addW .i64 v0 v1) v4 v5 v6 v7 v8 v9 va vb vc vd ve vf vg vj vk)
noncomputable def rrr_row_j17 {R : Type} := shut (@rrr_row_j17_B R)
theorem rrr_row_j17_unf {R : Type} : @rrr_row_j17 R = @rrr_row_j17_B R := shut_eq _

noncomputable def rrr_row_l7_T {R : Type} (rec : Int → List Int → Int → Int → Int → Int → Int → Int → List Int → Int → List Int → List Int → List Int → Int → Int → List Int → Option R) (v0 : Int) (v1 : List Int) (v2 v3 v4 v5 v6 v7 : Int) (v8 : List Int) (v9 : Int) (va vb vc : List Int) (vd ve : Int) (vf : List Int) (K0 : Bool → Int → Option R) (K1 : Int → Int → List Int → Option R) : Option R :=
 sel (decide (v3 < v2))
 (sel (decide (0 ≤ v3))
 (sel (decide (v3 < (↑(List.length v1) : Int)))
 (sel (decide (15 < List.getD v1 (Int.toNat v3) 0))
 (K0 false 0)
 (binom_Width 15 (cvtW .i64 (List.getD v1 (Int.toNat v3) 0))
 (fun vg => bits_Slice v9 va v0 vg
 (fun vh vi => binom_Block 15 (cvtW .i64 (List.getD v1 (Int.toNat v3) 0)) vh
 (fun vj vk => sel (!decide (vi = 0))
 (rrr_row_j16 v0 vg vj (min2 15 (subW .i64 v4 ve)) v1 v2 v3 true v4 v5 v6 v7 v8 v9 va vb vc vd ve vf
 (fun vl vm => K0 vl vm)
 (fun vn vo vp vq vr vs vt vu vv vw vx vy vz v10 v11 v12 v13 v14 v15 => rrr_row_j17 vn vo vp vq vr vs vt vu vv vw vx vy vz v10 v11 v12 v13 v14 v15
 (fun v16 v17 v18 v19 v1a v1b v1c v1d v1e v1f v1g v1h v1i v1j v1k v1l => rec v16 v17 v18 (addW .i64 v19 1) v1a v1b v1c v1d v1e v1f v1g v1h v1i v1j v1k v1l)))
 (sel (!vk)
 (rrr_row_j16 v0 vg vj (min2 15 (subW .i64 v4 ve)) v1 v2 v3 true v4 v5 v6 v7 v8 v9 va vb vc vd ve vf
 (fun v1m v1n => K0 v1m v1n)
 (fun v1o v1p v1q v1r v1s v1t v1u v1v v1w v1x v1y v1z v20 v21 v22 v23 v24 v25 v26 => rrr_row_j17 v1o v1p v1q v1r v1s v1t v1u v1v v1w v1x v1y v1z v20 v21 v22 v23 v24 v25 v26
 (fun v27 v28 v29 v2a v2b v2c v2d v2e v2f v2g v2h v2i v2j v2k v2l v2m => rec v27 v28 v29 (addW .i64 v2a 1) v2b v2c v2d v2e v2f v2g v2h v2i v2j v2k v2l v2m)))
 (word_Len vj
 (fun v2n => rrr_row_j16 v0 vg vj (min2 15 (subW .i64 v4 ve)) v1 v2 v3 (decide (min2 15 (subW .i64 v4 ve) < v2n)) v4 v5 v6 v7 v8 v9 va vb vc vd ve vf
 (fun v2o v2p => K0 v2o v2p)
 (fun v2q v2r v2s v2t v2u v2v v2w v2x v2y v2z v30 v31 v32 v33 v34 v35 v36 v37 v38 => rrr_row_j17 v2q v2r v2s v2t v2u v2v v2w v2x v2y v2z v30 v31 v32 v33 v34 v35 v36 v37 v38
 (fun v39 v3a v3b v3c v3d v3e v3f v3g v3h v3i v3j v3k v3l v3m v3n v3o => rec v39 v3a v3b (addW .i64 v3c 1) v3d v3e v3f v3g v3h v3i v3j v3k v3l v3m v3n v3o))))))))))
 (none))
 (none))
 (K1 vd ve vf)
noncomputable def rrr_row_l7_L {R : Type} (K0 : Bool → Int → Option R) (K1 : Int → Int → List Int → Option R) : Nat → Int → List Int → Int → Int → Int → Int → Int → Int → List Int → Int → List Int → List Int → List Int → Int → Int → List Int → Option R
 | 0, _, _, _, _, _, _, _, _, _, _, _, _, _, _, _, _ => none
 | N + 1, v0, v1, v2, v3, v4, v5, v6, v7, v8, v9, va, vb, vc, vd, ve, vf => rrr_row_l7_T (rrr_row_l7_L K0 K1 N) v0 v1 v2 v3 v4 v5 v6 v7 v8 v9 va vb vc vd ve vf K0 K1
noncomputable def rrr_row_l7_B {R : Type} (v0 : Int) (v1 : List Int) (v2 v3 v4 v5 v6 v7 : Int) (v8 : List Int) (v9 : Int) (va vb vc : List Int) (vd ve : Int) (vf : List Int) (K0 : Bool → Int → Option R) (K1 : Int → Int → List Int → Option R) : Option R :=
 rrr_row_l7_L K0 K1 NR v0 v1 v2 v3 v4 v5 v6 v7 v8 v9 va vb vc vd ve vf
noncomputable def rrr_row_l7 {R : Type} := shut (@rrr_row_l7_B R)
theorem rrr_row_l7_unf {R : Type} : @rrr_row_l7 R = @rrr_row_l7_B R := shut_eq _

noncomputable def rrr_row_j4_B {R : Type} (v0 v1 v2 v3 : Int) (v4 : List Int) (v5 : Int) (v6 v7 v8 : List Int) (v9 : Int) (K0 : Bool → Int → Option R) (K1 : Bool → Int → List Int → Option R) : Option R :=
 ints_List v1 v2 v3 v4
 (fun va => rrr_row_l7 0 va ((↑(List.length va) : Int)) 0 v0 v1 v2 v3 v4 v5 v6 v7 v8 v9 0 []
 (fun vb vc => K0 vb vc)
 (fun _ ve vf => K1 true ve vf))
noncomputable def rrr_row_j4 {R : Type} := shut (@rrr_row_j4_B R)
theorem rrr_row_j4_unf {R : Type} : @rrr_row_j4 R = @rrr_row_j4_B R := shut_eq _

noncomputable def rrr_row_B {R : Type} (v0 v1 v2 v3 : Int) (v4 : List Int) (v5 : Int) (v6 v7 v8 : List Int) (K0 : Int → List Int → Bool → Option R) : Option R :=
 sel (decide (v0 < 0))
 (rrr_row_j3 true v0 v1 v2 v3 v4 v5 v6 v7 v8 0
 (fun v9 va => K0 va [] v9)
 (fun vb vc vd ve vf vg vh vi vj vk => rrr_row_j4 vb vc vd ve vf vg vh vi vj vk
 (fun vl vm => K0 vm [] vl)
 (fun vn vo vp => K0 vo vp vn)))
 (sel (decide (1048576 < v0))
 (rrr_row_j3 true v0 v1 v2 v3 v4 v5 v6 v7 v8 0
 (fun vq vr => K0 vr [] vq)
 (fun vs vt vu vv vw vx vy vz v10 v11 => rrr_row_j4 vs vt vu vv vw vx vy vz v10 v11
 (fun v12 v13 => K0 v13 [] v12)
 (fun v14 v15 v16 => K0 v15 v16 v14)))
 (ints_Check v1 v2 v3 v4
 (fun v17 => sel (!v17)
 (rrr_row_j3 true v0 v1 v2 v3 v4 v5 v6 v7 v8 0
 (fun v18 v19 => K0 v19 [] v18)
 (fun v1a v1b v1c v1d v1e v1f v1g v1h v1i v1j => rrr_row_j4 v1a v1b v1c v1d v1e v1f v1g v1h v1i v1j
 (fun v1k v1l => K0 v1l [] v1k)
 (fun v1m v1n v1o => K0 v1n v1o v1m)))
 (bits_Check v5 v6
 (fun v1p => sel (!v1p)
 (rrr_row_j3 true v0 v1 v2 v3 v4 v5 v6 v7 v8 0
 (fun v1q v1r => K0 v1r [] v1q)
 (fun v1s v1t v1u v1v v1w v1x v1y v1z v20 v21 => rrr_row_j4 v1s v1t v1u v1v v1w v1x v1y v1z v20 v21
 (fun v22 v23 => K0 v23 [] v22)
 (fun v24 v25 v26 => K0 v25 v26 v24)))
 (rrr_row_j3 (!decide (v1 = quoW .i64 (subW .i64 (addW .i64 v0 15) 1) 15)) v0 v1 v2 v3 v4 v5 v6 v7 v8 0
 (fun v27 v28 => K0 v28 [] v27)
 (fun v29 v2a v2b v2c v2d v2e v2f v2g v2h v2i => rrr_row_j4 v29 v2a v2b v2c v2d v2e v2f v2g v2h v2i
 (fun v2j v2k => K0 v2k [] v2j)
 (fun v2l v2m v2n => K0 v2m v2n v2l))))))))
noncomputable def rrr_row {R : Type} := shut (@rrr_row_B R)
theorem rrr_row_unf {R : Type} : @rrr_row R = @rrr_row_B R := shut_eq _

noncomputable def slices_Equal_uint64_uint64_l5_T {R : Type} (rec : List Int → List Int → Int → Int → Option R) (v0 v1 : List Int) (v2 v3 : Int) (K0 : Bool → Option R) (K1 : Unit → Option R) : Option R :=
 sel (decide (v3 < v2))
 (sel (decide (0 ≤ v3))
 (sel (decide (v3 < (↑(List.length v0) : Int)))
 (sel (decide (0 ≤ v3))
 (sel (decide (v3 < (↑(List.length v1) : Int)))
 (sel (!decide (List.getD v0 (Int.toNat v3) 0 = List.getD v1 (Int.toNat v3) 0))
 (K0 false)
 (rec v0 v1 v2 (addW .i64 v3 1)))
 (none))
 (none))
 (none))
 (none))
 (K1 ())
noncomputable def slices_Equal_uint64_uint64_l5_L {R : Type} (K0 : Bool → Option R) (K1 : Unit → Option R) : Nat → List Int → List Int → Int → Int → Option R
 | 0, _, _, _, _ => none
 | N + 1, v0, v1, v2, v3 => slices_Equal_uint64_uint64_l5_T (slices_Equal_uint64_uint64_l5_L K0 K1 N) v0 v1 v2 v3 K0 K1
noncomputable def slices_Equal_uint64_uint64_l5_B {R : Type} (v0 v1 : List Int) (v2 v3 : Int) (K0 : Bool → Option R) (K1 : Unit → Option R) : Option R :=
 slices_Equal_uint64_uint64_l5_L K0 K1 NR v0 v1 v2 v3
noncomputable def slices_Equal_uint64_uint64_l5 {R : Type} := shut (@slices_Equal_uint64_uint64_l5_B R)
theorem slices_Equal_uint64_uint64_l5_unf {R : Type} : @slices_Equal_uint64_uint64_l5 R = @slices_Equal_uint64_uint64_l5_B R := shut_eq _

noncomputable def slices_Equal_uint64_uint64_B {R : Type} (v0 v1 : List Int) (K0 : Bool → Option R) : Option R :=
 sel (!decide ((↑(List.length v0) : Int) = (↑(List.length v1) : Int)))
 (K0 false)
 (slices_Equal_uint64_uint64_l5 v0 v1 ((↑(List.length v0) : Int)) 0
 (fun v2 => K0 v2)
 (fun _ => K0 true))
noncomputable def slices_Equal_uint64_uint64 {R : Type} := shut (@slices_Equal_uint64_uint64_B R)
theorem slices_Equal_uint64_uint64_unf {R : Type} : @slices_Equal_uint64_uint64 R = @slices_Equal_uint64_uint64_B R := shut_eq _

noncomputable def slices_Equal_int_int_l5_T {R : Type} (rec : List Int → List Int → Int → Int → Option R) (v0 v1 : List Int) (v2 v3 : Int) (K0 : Bool → Option R) (K1 : Unit → Option R) : Option R :=
 sel (decide (v3 < v2))
 (sel (decide (0 ≤ v3))
 (sel (decide (v3 < (↑(List.length v0) : Int)))
 (sel (decide (0 ≤ v3))
 (sel (decide (v3 < (↑(List.length v1) : Int)))
 (sel (!decide (List.getD v0 (Int.toNat v3) 0 = List.getD v1 (Int.toNat v3) 0))
 (K0 false)
 (rec v0 v1 v2 (addW .i64 v3 1)))
 (none))
 (none))
 (none))
 (none))
 (K1 ())
noncomputable def slices_Equal_int_int_l5_L {R : Type} (K0 : Bool → Option R) (K1 : Unit → Option R) : Nat → List Int → List Int → Int → Int → Option R
 | 0, _, _, _, _ => none
 | N + 1, v0, v1, v2, v3 => slices_Equal_int_int_l5_T (slices_Equal_int_int_l5_L K0 K1 N) v0 v1 v2 v3 K0 K1
noncomputable def slices_Equal_int_int_l5_B {R : Type} (v0 v1 : List Int) (v2 v3 : Int) (K0 : Bool → Option R) (K1 : Unit → Option R) : Option R :=
 slices_Equal_int_int_l5_L K0 K1 NR v0 v1 v2 v3
noncomputable def slices_Equal_int_int_l5 {R : Type} := shut (@slices_Equal_int_int_l5_B R)
theorem slices_Equal_int_int_l5_unf {R : Type} : @slices_Equal_int_int_l5 R = @slices_Equal_int_int_l5_B R := shut_eq _

noncomputable def slices_Equal_int_int_B {R : Type} (v0 v1 : List Int) (K0 : Bool → Option R) : Option R :=
 sel (!decide ((↑(List.length v0) : Int) = (↑(List.length v1) : Int)))
 (K0 false)
 (slices_Equal_int_int_l5 v0 v1 ((↑(List.length v0) : Int)) 0
 (fun v2 => K0 v2)
 (fun _ => K0 true))
noncomputable def slices_Equal_int_int {R : Type} := shut (@slices_Equal_int_int_B R)
theorem slices_Equal_int_int_unf {R : Type} : @slices_Equal_int_int R = @slices_Equal_int_int_B R := shut_eq _

noncomputable def rrr_same_j4_B {R : Type} (v0 v1 : Bool) (v2 _v3 _v4 _v5 : Int) (_v6 : List Int) (_v7 : Int) (_v8 v9 va : List Int) (vb _vc _vd _ve : Int) (_vf : List Int) (_vg : Int) (_vh vi vj : List Int) (K0 : Bool → Option R) : Option R :=
 sel v0
 (sel v1
 (sel (decide (v2 = vb))
 (slices_Equal_int_int v9 vi
 (fun vk => sel vk
 (slices_Equal_int_int va vj
 (fun vl => K0 vl))
 (K0 false)))
 (K0 false))
 (K0 false))
 (K0 false)
noncomputable def rrr_same_j4 {R : Type} := shut (@rrr_same_j4_B R)
theorem rrr_same_j4_unf {R : Type} : @rrr_same_j4 R = @rrr_same_j4_B R := shut_eq _

noncomputable def rrr_same_j3_B {R : Type} (v0 : Bool) (v1 v2 v3 v4 : Int) (v5 : List Int) (v6 : Int) (v7 v8 v9 : List Int) (va vb vc vd : Int) (ve : List Int) (vf : Int) (vg vh vi : List Int) (K0 : Bool → Option R) : Option R :=
 sel (decide (v6 = vf))
 (slices_Equal_uint64_uint64 v7 vg
 (fun vj => rrr_same_j4 v0 vj v1 v2 v3 v4 v5 v6 v7 v8 v9 va vb vc vd ve vf vg vh vi
 (fun vk => K0 vk)))
 (rrr_same_j4 v0 false v1 v2 v3 v4 v5 v6 v7 v8 v9 va vb vc vd ve vf vg vh vi
 (fun vl => K0 vl))
noncomputable def rrr_same_j3 {R : Type} := shut (@rrr_same_j3_B R)
theorem rrr_same_j3_unf {R : Type} : @rrr_same_j3 R = @rrr_same_j3_B R := shut_eq _

noncomputable def rrr_same_B {R : Type} (v0 v1 v2 v3 : Int) (v4 : List Int) (v5 : Int) (v6 v7 v8 : List Int) (v9 va vb vc : Int) (vd : List Int) (ve : Int) (vf vg vh : List Int) (K0 : Bool → Option R) : Option R :=
 sel (decide (v1 = va))
 (sel (decide (v2 = vb))
 (sel (decide (v3 = vc))
 (slices_Equal_uint64_uint64 v4 vd
 (fun vi => rrr_same_j3 vi v0 v1 v2 v3 v4 v5 v6 v7 v8 v9 va vb vc vd ve vf vg vh
 (fun vj => K0 vj)))
 (rrr_same_j3 false v0 v1 v2 v3 v4 v5 v6 v7 v8 v9 va vb vc vd ve vf vg vh
 (fun vk => K0 vk)))
 (rrr_same_j3 false v0 v1 v2 v3 v4 v5 v6 v7 v8 v9 va vb vc vd ve vf vg vh
 (fun vl => K0 vl)))
 (rrr_same_j3 false v0 v1 v2 v3 v4 v5 v6 v7 v8 v9 va vb vc vd ve vf vg vh
 (fun vm => K0 vm))
noncomputable def rrr_same {R : Type} := shut (@rrr_same_B R)
theorem rrr_same_unf {R : Type} : @rrr_same R = @rrr_same_B R := shut_eq _

noncomputable def rrr_whole_B {R : Type} (v0 v1 v2 v3 : Int) (v4 : List Int) (v5 : Int) (v6 v7 v8 : List Int) (K0 : Int → List Int → Bool → Option R) : Option R :=
 rrr_row v0 v1 v2 v3 v4 v5 v6 v7 v8
 (fun v9 va vb => sel (!vb)
 (K0 0 [] false)
 (rrr_Build v9 va
 (fun vc vd ve vf vg vh vi vj vk _ => rrr_same v0 v1 v2 v3 v4 v5 v6 v7 v8 vc vd ve vf vg vh vi vj vk
 (fun vm => sel (!vm)
 (K0 0 [] false)
 (K0 v9 va true)))))
noncomputable def rrr_whole {R : Type} := shut (@rrr_whole_B R)
theorem rrr_whole_unf {R : Type} : @rrr_whole R = @rrr_whole_B R := shut_eq _

noncomputable def rrr_Check_B {R : Type} (v0 v1 v2 v3 : Int) (v4 : List Int) (v5 : Int) (v6 v7 v8 : List Int) (K0 : Bool → Option R) : Option R :=
 rrr_whole v0 v1 v2 v3 v4 v5 v6 v7 v8
 (fun _ _ vb => K0 vb)
noncomputable def rrr_Check {R : Type} := shut (@rrr_Check_B R)
theorem rrr_Check_unf {R : Type} : @rrr_Check R = @rrr_Check_B R := shut_eq _

noncomputable def ints_has_j5_B {R : Type} (v0 : Bool) (K0 : Int → Option R) (K1 : Unit → Option R) : Option R :=
 sel v0
 (K0 3)
 (K1 ())
noncomputable def ints_has_j5 {R : Type} := shut (@ints_has_j5_B R)
theorem ints_has_j5_unf {R : Type} : @ints_has_j5 R = @ints_has_j5_B R := shut_eq _

noncomputable def ints_has_B {R : Type} (v0 v1 v2 : Int) (v3 : List Int) (v4 : Int) (K0 : Int → Option R) (K1 : Unit → Option R) : Option R :=
 ints_Check v0 v1 v2 v3
 (fun v5 => sel (!v5)
 (K0 2)
 (sel (decide (v4 < 0))
 (ints_has_j5 true
 (fun v6 => K0 v6)
 (fun _ => K1 ()))
 (ints_has_j5 (decide (v0 ≤ v4))
 (fun v7 => K0 v7)
 (fun _ => K1 ()))))
noncomputable def ints_has {R : Type} := shut (@ints_has_B R)
theorem ints_has_unf {R : Type} : @ints_has R = @ints_has_B R := shut_eq _

noncomputable def ints_Get_B {R : Type} (v0 v1 v2 : Int) (v3 : List Int) (v4 : Int) (K0 : Int → Int → Option R) : Option R :=
 ints_has v0 v1 v2 v3 v4
 (fun v5 => K0 0 v5)
 (fun _ => bits_Slice v2 v3 (mulW .i64 v4 v1) v1
 (fun v6 v7 => K0 v6 v7))
noncomputable def ints_Get {R : Type} := shut (@ints_Get_B R)
theorem ints_Get_unf {R : Type} : @ints_Get R = @ints_Get_B R := shut_eq _

noncomputable def rrr_get_B {R : Type} (_v0 v1 v2 v3 : Int) (v4 : List Int) (v5 : Int) (v6 _v7 _v8 : List Int) (v9 va : Int) (K0 : Int → Int → Option R) : Option R :=
 ints_Get v1 v2 v3 v4 v9
 (fun vb _ => binom_Width 15 (cvtW .i64 vb)
 (fun vd => bits_Slice v5 v6 va vd
 (fun ve _ => binom_Block 15 (cvtW .i64 vb) ve
 (fun vg _ => K0 vg vd))))
noncomputable def rrr_get {R : Type} := shut (@rrr_get_B R)
theorem rrr_get_unf {R : Type} : @rrr_get R = @rrr_get_B R := shut_eq _

noncomputable def word_Rank_B {R : Type} (v0 v1 : Int) (K0 : Int → Option R) : Option R :=
 word_Mask v1
 (fun v2 => word_Pop (andW .u64 v0 v2)
 (fun v3 => K0 v3))
noncomputable def word_Rank {R : Type} := shut (@word_Rank_B R)
theorem word_Rank_unf {R : Type} : @word_Rank R = @word_Rank_B R := shut_eq _

noncomputable def rrr_ones_1_r_B {R : Type} (v0 v1 v2 v3 _v4 : Int) (K0 : Bool → Int → Int → Option R) : Option R :=
 word_Rank v1 (subW .i64 v3 (mulW .i64 v0 15))
 (fun v5 => K0 (decide (mulW .i64 (addW .i64 v0 1) 15 < v3)) v3 (addW .i64 v2 v5))
noncomputable def rrr_ones_1_r {R : Type} := shut (@rrr_ones_1_r_B R)
theorem rrr_ones_1_r_unf {R : Type} : @rrr_ones_1_r R = @rrr_ones_1_r_B R := shut_eq _

noncomputable def rrr_walk_l5_T {R : Type} (rec : Int → Int → Int → Int → Int → Int → Int → Int → Int → List Int → Int → List Int → List Int → List Int → Option R) (v0 v1 v2 v3 v4 v5 v6 v7 v8 : Int) (v9 : List Int) (va : Int) (vb vc vd : List Int) (K0 : Int → Int → Option R) (K1 : Int → Int → Option R) : Option R :=
 sel (decide (v2 < v6))
 (rrr_get v5 v6 v7 v8 v9 va vb vc vd v2 v1
 (fun ve vf => rrr_ones_1_r v2 ve v0 v3 v4
 (fun vg vh vi => sel (!vg)
 (K0 vh vi)
 (word_Pop ve
 (fun vj => rec (addW .i64 v0 vj) (addW .i64 v1 vf) (addW .i64 v2 1) vh vi v5 v6 v7 v8 v9 va vb vc vd)))))
 (K1 v3 v4)
noncomputable def rrr_walk_l5_L {R : Type} (K0 : Int → Int → Option R) (K1 : Int → Int → Option R) : Nat → Int → Int → Int → Int → Int → Int → Int → Int → Int → List Int → Int → List Int → List Int → List Int → Option R
 | 0, _, _, _, _, _, _, _, _, _, _, _, _, _, _ => none
 | N + 1, v0, v1, v2, v3, v4, v5, v6, v7, v8, v9, va, vb, vc, vd => rrr_walk_l5_T (rrr_walk_l5_L K0 K1 N) v0 v1 v2 v3 v4 v5 v6 v7 v8 v9 va vb vc vd K0 K1
noncomputable def rrr_walk_l5_B {R : Type} (v0 v1 v2 v3 v4 v5 v6 v7 v8 : Int) (v9 : List Int) (va : Int) (vb vc vd : List Int) (K0 : Int → Int → Option R) (K1 : Int → Int → Option R) : Option R :=
 rrr_walk_l5_L K0 K1 NR v0 v1 v2 v3 v4 v5 v6 v7 v8 v9 va vb vc vd
noncomputable def rrr_walk_l5 {R : Type} := shut (@rrr_walk_l5_B R)
theorem rrr_walk_l5_unf {R : Type} : @rrr_walk_l5 R = @rrr_walk_l5_B R := shut_eq _

noncomputable def rrr_walk_r_B {R : Type} (v0 v1 v2 v3 : Int) (v4 : List Int) (v5 : Int) (v6 v7 v8 : List Int) (v9 va vb : Int) (K0 : Int → Int → Option R) : Option R :=
 sel (decide (0 ≤ quoW .i64 v9 8))
 (sel (decide (quoW .i64 v9 8 < (↑(List.length v7) : Int)))
 (sel (decide (0 ≤ quoW .i64 v9 8))
 (sel (decide (quoW .i64 v9 8 < (↑(List.length v8) : Int)))
 (rrr_walk_l5 (List.getD v7 (Int.toNat (quoW .i64 v9 8)) 0) (List.getD v8 (Int.toNat (quoW .i64 v9 8)) 0) (mulW .i64 (quoW .i64 v9 8) 8) va vb v0 v1 v2 v3 v4 v5 v6 v7 v8
 (fun vc vd => K0 vc vd)
 (fun ve vf => K0 ve vf))
 (none))
 (none))
 (none))
 (none)
noncomputable def rrr_walk_r {R : Type} := shut (@rrr_walk_r_B R)
theorem rrr_walk_r_unf {R : Type} : @rrr_walk_r R = @rrr_walk_r_B R := shut_eq _

noncomputable def rrr_ones_B {R : Type} (v0 v1 v2 v3 : Int) (v4 : List Int) (v5 : Int) (v6 v7 v8 : List Int) (v9 : Int) (K0 : Int → Option R) : Option R :=
 sel (decide (v9 = 0))
 (K0 0)
 (rrr_walk_r v0 v1 v2 v3 v4 v5 v6 v7 v8 (quoW .i64 (subW .i64 v9 1) 15) v9 0
 (fun _ vb => K0 vb))
noncomputable def rrr_ones {R : Type} := shut (@rrr_ones_B R)
theorem rrr_ones_unf {R : Type} : @rrr_ones R = @rrr_ones_B R := shut_eq _

noncomputable def rrr_Access_j6_B {R : Type} (v0 v1 v2 v3 v4 : Int) (v5 : List Int) (v6 : Int) (v7 v8 v9 : List Int) (K0 : Bool → Int → Option R) : Option R :=
 rrr_ones v1 v2 v3 v4 v5 v6 v7 v8 v9 (addW .i64 v0 1)
 (fun va => rrr_ones v1 v2 v3 v4 v5 v6 v7 v8 v9 v0
 (fun vb => K0 (decide (vb < va)) 0))
noncomputable def rrr_Access_j6 {R : Type} := shut (@rrr_Access_j6_B R)
theorem rrr_Access_j6_unf {R : Type} : @rrr_Access_j6 R = @rrr_Access_j6_B R := shut_eq _

noncomputable def rrr_Access_B {R : Type} (v0 v1 v2 v3 : Int) (v4 : List Int) (v5 : Int) (v6 v7 v8 : List Int) (v9 : Int) (K0 : Bool → Int → Option R) : Option R :=
 rrr_Check v0 v1 v2 v3 v4 v5 v6 v7 v8
 (fun va => sel (!va)
 (K0 false 2)
 (sel (decide (v9 < 0))
 (K0 false 3)
 (sel (decide (v0 ≤ v9))
 (K0 false 3)
 (rrr_Access_j6 v9 v0 v1 v2 v3 v4 v5 v6 v7 v8
 (fun vb vc => K0 vb vc)))))
noncomputable def rrr_Access {R : Type} := shut (@rrr_Access_B R)
theorem rrr_Access_unf {R : Type} : @rrr_Access R = @rrr_Access_B R := shut_eq _

noncomputable def rrr_ahead_B {R : Type} (v0 v1 v2 v3 : Int) (v4 : List Int) (v5 : Int) (v6 v7 v8 : List Int) (v9 : Bool) (va : Int) (K0 : Int → Option R) : Option R :=
 sel v9
 (rrr_ones v0 v1 v2 v3 v4 v5 v6 v7 v8 va
 (fun vb => K0 vb))
 (rrr_ones v0 v1 v2 v3 v4 v5 v6 v7 v8 va
 (fun vc => K0 (subW .i64 va vc)))
noncomputable def rrr_ahead {R : Type} := shut (@rrr_ahead_B R)
theorem rrr_ahead_unf {R : Type} : @rrr_ahead R = @rrr_ahead_B R := shut_eq _

noncomputable def rrr_Rank_j6_B {R : Type} (v0 : Bool) (v1 v2 v3 v4 v5 : Int) (v6 : List Int) (v7 : Int) (v8 v9 va : List Int) (K0 : Int → Int → Option R) : Option R :=
 rrr_ahead v2 v3 v4 v5 v6 v7 v8 v9 va v0 v1
 (fun vb => K0 vb 0)
noncomputable def rrr_Rank_j6 {R : Type} := shut (@rrr_Rank_j6_B R)
theorem rrr_Rank_j6_unf {R : Type} : @rrr_Rank_j6 R = @rrr_Rank_j6_B R := shut_eq _

noncomputable def rrr_Rank_B {R : Type} (v0 v1 v2 v3 : Int) (v4 : List Int) (v5 : Int) (v6 v7 v8 : List Int) (v9 : Bool) (va : Int) (K0 : Int → Int → Option R) : Option R :=
 rrr_Check v0 v1 v2 v3 v4 v5 v6 v7 v8
 (fun vb => sel (!vb)
 (K0 0 2)
 (sel (decide (va < 0))
 (K0 0 3)
 (sel (decide (v0 < va))
 (K0 0 3)
 (rrr_Rank_j6 v9 va v0 v1 v2 v3 v4 v5 v6 v7 v8
 (fun vc vd => K0 vc vd)))))
noncomputable def rrr_Rank {R : Type} := shut (@rrr_Rank_B R)
theorem rrr_Rank_unf {R : Type} : @rrr_Rank R = @rrr_Rank_B R := shut_eq _

noncomputable def rrr_Select_l7_T {R : Type} (rec : Int → Int → Int → Int → Int → List Int → Int → List Int → List Int → List Int → Bool → Int → Option R) (v0 v1 v2 v3 v4 : Int) (v5 : List Int) (v6 : Int) (v7 v8 v9 : List Int) (va : Bool) (vb : Int) (K0 : Int → Int → Int → Int → Int → List Int → Int → List Int → List Int → List Int → Bool → Int → Option R) : Option R :=
 sel (decide (addW .i64 v0 1 < (↑(List.length v8) : Int)))
 (rrr_ahead v1 v2 v3 v4 v5 v6 v7 v8 v9 va (mulW .i64 (mulW .i64 (addW .i64 v0 1) 8) 15)
 (fun vc => sel (decide (vc ≤ vb))
 (rec (addW .i64 v0 1) v1 v2 v3 v4 v5 v6 v7 v8 v9 va vb)
 (K0 v0 v1 v2 v3 v4 v5 v6 v7 v8 v9 va vb)))
 (K0 v0 v1 v2 v3 v4 v5 v6 v7 v8 v9 va vb)
noncomputable def rrr_Select_l7_L {R : Type} (K0 : Int → Int → Int → Int → Int → List Int → Int → List Int → List Int → List Int → Bool → Int → Option R) : Nat → Int → Int → Int → Int → Int → List Int → Int → List Int → List Int → List Int → Bool → Int → Option R
 | 0, _, _, _, _, _, _, _, _, _, _, _, _ => none
 | N + 1, v0, v1, v2, v3, v4, v5, v6, v7, v8, v9, va, vb => rrr_Select_l7_T (rrr_Select_l7_L K0 N) v0 v1 v2 v3 v4 v5 v6 v7 v8 v9 va vb K0
noncomputable def rrr_Select_l7_B {R : Type} (v0 v1 v2 v3 v4 : Int) (v5 : List Int) (v6 : Int) (v7 v8 v9 : List Int) (va : Bool) (vb : Int) (K0 : Int → Int → Int → Int → Int → List Int → Int → List Int → List Int → List Int → Bool → Int → Option R) : Option R :=
 rrr_Select_l7_L K0 NR v0 v1 v2 v3 v4 v5 v6 v7 v8 v9 va vb
noncomputable def rrr_Select_l7 {R : Type} := shut (@rrr_Select_l7_B R)
theorem rrr_Select_l7_unf {R : Type} : @rrr_Select_l7 R = @rrr_Select_l7_B R := shut_eq _

noncomputable def word_Select_l5_T {R : Type} (rec : Int → Int → Int → Option R) (v0 v1 v2 : Int) (K0 : Int → Option R) : Option R :=
 sel (decide (v2 < v1))
 (rec (andW .u64 v0 (subW .u64 v0 1)) v1 (addW .i64 v2 1))
 (K0 v0)
noncomputable def word_Select_l5_L {R : Type} (K0 : Int → Option R) : Nat → Int → Int → Int → Option R
 | 0, _, _, _ => none
 | N + 1, v0, v1, v2 => word_Select_l5_T (word_Select_l5_L K0 N) v0 v1 v2 K0
noncomputable def word_Select_l5_B {R : Type} (v0 v1 v2 : Int) (K0 : Int → Option R) : Option R :=
 word_Select_l5_L K0 NR v0 v1 v2
noncomputable def word_Select_l5 {R : Type} := shut (@word_Select_l5_B R)
theorem word_Select_l5_unf {R : Type} : @word_Select_l5 R = @word_Select_l5_B R := shut_eq _

noncomputable def math_bits_TrailingZeros64_B {R : Type} (v0 : Int) (K0 : Int → Option R) : Option R :=
 sel (decide (v0 = 0))
 (K0 64)
 (sel (decide (0 ≤ shrW .u64 (mulW .u64 (andW .u64 v0 (negW .u64 v0)) 285870213051353865) 58))
 (sel (decide (shrW .u64 (mulW .u64 (andW .u64 v0 (negW .u64 v0)) 285870213051353865) 58 < (↑64 : Int)))
 (K0 (cvtW .i64 (List.getD tzTab (Int.toNat (shrW .u64 (mulW .u64 (andW .u64 v0 (negW .u64 v0)) 285870213051353865) 58)) 0)))
 (none))
 (none))
noncomputable def math_bits_TrailingZeros64 {R : Type} := shut (@math_bits_TrailingZeros64_B R)
theorem math_bits_TrailingZeros64_unf {R : Type} : @math_bits_TrailingZeros64 R = @math_bits_TrailingZeros64_B R := shut_eq _

noncomputable def word_Select_j4_B {R : Type} (v0 v1 : Int) (K0 : Int → Option R) : Option R :=
 word_Select_l5 v0 v1 0
 (fun v2 => math_bits_TrailingZeros64 v2
 (fun v3 => K0 v3))
noncomputable def word_Select_j4 {R : Type} := shut (@word_Select_j4_B R)
theorem word_Select_j4_unf {R : Type} : @word_Select_j4 R = @word_Select_j4_B R := shut_eq _

noncomputable def word_Select_B {R : Type} (v0 v1 : Int) (K0 : Int → Option R) : Option R :=
 sel (decide (v1 < 0))
 (K0 64)
 (word_Pop v0
 (fun v2 => sel (decide (v2 ≤ v1))
 (K0 64)
 (word_Select_j4 v0 v1
 (fun v3 => K0 v3))))
noncomputable def word_Select {R : Type} := shut (@word_Select_B R)
theorem word_Select_unf {R : Type} : @word_Select R = @word_Select_B R := shut_eq _

noncomputable def rrr_Select_1_j4_B {R : Type} (v0 v1 v2 : Int) (v3 : Bool) (v4 _v5 : Int) (K0 : Bool → Bool → Int → Int → Option R) : Option R :=
 word_Select v1 (subW .i64 v4 v2)
 (fun v6 => word_Pop v1
 (fun v7 => K0 (decide (addW .i64 v2 v7 ≤ v4)) v3 v4 (addW .i64 (mulW .i64 v0 15) v6)))
noncomputable def rrr_Select_1_j4 {R : Type} := shut (@rrr_Select_1_j4_B R)
theorem rrr_Select_1_j4_unf {R : Type} : @rrr_Select_1_j4 R = @rrr_Select_1_j4_B R := shut_eq _

noncomputable def rrr_Select_1_r_B {R : Type} (v0 v1 v2 : Int) (v3 : Bool) (v4 v5 : Int) (K0 : Bool → Bool → Int → Int → Option R) : Option R :=
 sel (!v3)
 (word_Mask 15
 (fun v6 => rrr_Select_1_j4 v0 (andW .u64 (notW .u64 v1) v6) (subW .i64 (mulW .i64 v0 15) v2) v3 v4 v5
 (fun v7 v8 v9 va => K0 v7 v8 v9 va)))
 (rrr_Select_1_j4 v0 v1 v2 v3 v4 v5
 (fun vb vc vd ve => K0 vb vc vd ve))
noncomputable def rrr_Select_1_r {R : Type} := shut (@rrr_Select_1_r_B R)
theorem rrr_Select_1_r_unf {R : Type} : @rrr_Select_1_r R = @rrr_Select_1_r_B R := shut_eq _

noncomputable def rrr_walk_l5_1_T {R : Type} (rec : Int → Int → Int → Bool → Int → Int → Int → Int → Int → Int → List Int → Int → List Int → List Int → List Int → Option R) (v0 v1 v2 : Int) (v3 : Bool) (v4 v5 v6 v7 v8 v9 : Int) (va : List Int) (vb : Int) (vc vd ve : List Int) (K0 : Bool → Int → Int → Option R) (K1 : Bool → Int → Int → Option R) : Option R :=
 sel (decide (v2 < v7))
 (rrr_get v6 v7 v8 v9 va vb vc vd ve v2 v1
 (fun vf vg => rrr_Select_1_r v2 vf v0 v3 v4 v5
 (fun vh vi vj vk => sel (!vh)
 (K0 vi vj vk)
 (word_Pop vf
 (fun vl => rec (addW .i64 v0 vl) (addW .i64 v1 vg) (addW .i64 v2 1) vi vj vk v6 v7 v8 v9 va vb vc vd ve)))))
 (K1 v3 v4 v5)
noncomputable def rrr_walk_l5_1_L {R : Type} (K0 : Bool → Int → Int → Option R) (K1 : Bool → Int → Int → Option R) : Nat → Int → Int → Int → Bool → Int → Int → Int → Int → Int → Int → List Int → Int → List Int → List Int → List Int → Option R
 | 0, _, _, _, _, _, _, _, _, _, _, _, _, _, _, _ => none
 | N + 1, v0, v1, v2, v3, v4, v5, v6, v7, v8, v9, va, vb, vc, vd, ve => rrr_walk_l5_1_T (rrr_walk_l5_1_L K0 K1 N) v0 v1 v2 v3 v4 v5 v6 v7 v8 v9 va vb vc vd ve K0 K1
noncomputable def rrr_walk_l5_1_B {R : Type} (v0 v1 v2 : Int) (v3 : Bool) (v4 v5 v6 v7 v8 v9 : Int) (va : List Int) (vb : Int) (vc vd ve : List Int) (K0 : Bool → Int → Int → Option R) (K1 : Bool → Int → Int → Option R) : Option R :=
 rrr_walk_l5_1_L K0 K1 NR v0 v1 v2 v3 v4 v5 v6 v7 v8 v9 va vb vc vd ve
noncomputable def rrr_walk_l5_1 {R : Type} := shut (@rrr_walk_l5_1_B R)
theorem rrr_walk_l5_1_unf {R : Type} : @rrr_walk_l5_1 R = @rrr_walk_l5_1_B R := shut_eq _

noncomputable def rrr_walk_r_1_B {R : Type} (v0 v1 v2 v3 : Int) (v4 : List Int) (v5 : Int) (v6 v7 v8 : List Int) (v9 : Int) (va : Bool) (vb vc : Int) (K0 : Bool → Int → Int → Option R) : Option R :=
 sel (decide (0 ≤ quoW .i64 v9 8))
 (sel (decide (quoW .i64 v9 8 < (↑(List.length v7) : Int)))
 (sel (decide (0 ≤ quoW .i64 v9 8))
 (sel (decide (quoW .i64 v9 8 < (↑(List.length v8) : Int)))
 (rrr_walk_l5_1 (List.getD v7 (Int.toNat (quoW .i64 v9 8)) 0) (List.getD v8 (Int.toNat (quoW .i64 v9 8)) 0) (mulW .i64 (quoW .i64 v9 8) 8) va vb vc v0 v1 v2 v3 v4 v5 v6 v7 v8
 (fun vd ve vf => K0 vd ve vf)
 (fun vg vh vi => K0 vg vh vi))
 (none))
 (none))
 (none))
 (none)
noncomputable def rrr_walk_r_1 {R : Type} := shut (@rrr_walk_r_1_B R)
theorem rrr_walk_r_1_unf {R : Type} : @rrr_walk_r_1 R = @rrr_walk_r_1_B R := shut_eq _

noncomputable def rrr_Select_j6_B {R : Type} (v0 v1 v2 v3 : Int) (v4 : List Int) (v5 : Int) (v6 v7 v8 : List Int) (v9 : Bool) (va : Int) (K0 : Int → Int → Option R) : Option R :=
 rrr_Select_l7 0 v0 v1 v2 v3 v4 v5 v6 v7 v8 v9 va
 (fun vb vc vd ve vf vg vh vi vj vk vl vm => rrr_walk_r_1 vc vd ve vf vg vh vi vj vk (mulW .i64 vb 8) vl vm 0
 (fun _ _ vp => K0 vp 0))
noncomputable def rrr_Select_j6 {R : Type} := shut (@rrr_Select_j6_B R)
theorem rrr_Select_j6_unf {R : Type} : @rrr_Select_j6 R = @rrr_Select_j6_B R := shut_eq _

noncomputable def rrr_Select_B {R : Type} (v0 v1 v2 v3 : Int) (v4 : List Int) (v5 : Int) (v6 v7 v8 : List Int) (v9 : Bool) (va : Int) (K0 : Int → Int → Option R) : Option R :=
 rrr_Check v0 v1 v2 v3 v4 v5 v6 v7 v8
 (fun vb => sel (!vb)
 (K0 0 2)
 (sel (decide (va < 0))
 (K0 0 3)
 (rrr_ahead v0 v1 v2 v3 v4 v5 v6 v7 v8 v9 v0
 (fun vc => sel (decide (vc ≤ va))
 (K0 0 3)
 (rrr_Select_j6 v0 v1 v2 v3 v4 v5 v6 v7 v8 v9 va
 (fun vd ve => K0 vd ve))))))
noncomputable def rrr_Select {R : Type} := shut (@rrr_Select_B R)
theorem rrr_Select_unf {R : Type} : @rrr_Select R = @rrr_Select_B R := shut_eq _

noncomputable def rrr_Size_B {R : Type} (v0 v1 v2 v3 : Int) (v4 : List Int) (v5 : Int) (v6 v7 v8 : List Int) (K0 : Int → Option R) : Option R :=
 rrr_Check v0 v1 v2 v3 v4 v5 v6 v7 v8
 (fun v9 => sel (!v9)
 (K0 0)
 (K0 (addW .i64 (addW .i64 v3 v5) (mulW .i64 64 (↑(List.length v7) : Int)))))
noncomputable def rrr_Size {R : Type} := shut (@rrr_Size_B R)
theorem rrr_Size_unf {R : Type} : @rrr_Size R = @rrr_Size_B R := shut_eq _

noncomputable def rrr_Bits_B {R : Type} (v0 v1 v2 v3 : Int) (v4 : List Int) (v5 : Int) (v6 v7 v8 : List Int) (K0 : Int → List Int → Option R) : Option R :=
 rrr_whole v0 v1 v2 v3 v4 v5 v6 v7 v8
 (fun v9 va _ => K0 v9 va)
noncomputable def rrr_Bits {R : Type} := shut (@rrr_Bits_B R)
theorem rrr_Bits_unf {R : Type} : @rrr_Bits R = @rrr_Bits_B R := shut_eq _

noncomputable def haystackref02_Same_l5_T {R : Type} (rec : Int → Int → List Int → Int → List Int → Option R) (v0 v1 : Int) (v2 : List Int) (v3 : Int) (v4 : List Int) (K0 : Bool → Option R) (K1 : Unit → Option R) : Option R :=
 sel (decide (v0 < (↑(List.length v2) : Int)))
 (sel (decide (0 ≤ v0))
 (sel (decide (v0 < (↑(List.length v2) : Int)))
 (sel (decide (0 ≤ v0))
 (sel (decide (v0 < (↑(List.length v4) : Int)))
 (sel (!decide (List.getD v2 (Int.toNat v0) 0 = List.getD v4 (Int.toNat v0) 0))
 (K0 false)
 (rec (addW .i64 v0 1) v1 v2 v3 v4))
 (none))
 (none))
 (none))
 (none))
 (K1 ())
noncomputable def haystackref02_Same_l5_L {R : Type} (K0 : Bool → Option R) (K1 : Unit → Option R) : Nat → Int → Int → List Int → Int → List Int → Option R
 | 0, _, _, _, _, _ => none
 | N + 1, v0, v1, v2, v3, v4 => haystackref02_Same_l5_T (haystackref02_Same_l5_L K0 K1 N) v0 v1 v2 v3 v4 K0 K1
noncomputable def haystackref02_Same_l5_B {R : Type} (v0 v1 : Int) (v2 : List Int) (v3 : Int) (v4 : List Int) (K0 : Bool → Option R) (K1 : Unit → Option R) : Option R :=
 haystackref02_Same_l5_L K0 K1 NR v0 v1 v2 v3 v4
noncomputable def haystackref02_Same_l5 {R : Type} := shut (@haystackref02_Same_l5_B R)
theorem haystackref02_Same_l5_unf {R : Type} : @haystackref02_Same_l5 R = @haystackref02_Same_l5_B R := shut_eq _

noncomputable def haystackref02_Same_j4_B {R : Type} (v0 : Int) (v1 : List Int) (v2 : Int) (v3 : List Int) (K0 : Bool → Option R) : Option R :=
 haystackref02_Same_l5 0 v0 v1 v2 v3
 (fun v4 => K0 v4)
 (fun _ => K0 true)
noncomputable def haystackref02_Same_j4 {R : Type} := shut (@haystackref02_Same_j4_B R)
theorem haystackref02_Same_j4_unf {R : Type} : @haystackref02_Same_j4 R = @haystackref02_Same_j4_B R := shut_eq _

noncomputable def haystackref02_Same_B {R : Type} (v0 : Int) (v1 : List Int) (v2 : Int) (v3 : List Int) (K0 : Bool → Option R) : Option R :=
 sel (!decide (v0 = v2))
 (K0 false)
 (sel (!decide ((↑(List.length v1) : Int) = (↑(List.length v3) : Int)))
 (K0 false)
 (haystackref02_Same_j4 v0 v1 v2 v3
 (fun v4 => K0 v4)))
noncomputable def haystackref02_Same {R : Type} := shut (@haystackref02_Same_B R)
theorem haystackref02_Same_unf {R : Type} : @haystackref02_Same R = @haystackref02_Same_B R := shut_eq _

noncomputable def haystacklaw08_heads_j4_B {R : Type} (v0 : Int) (v1 : Bool) (v2 v3 v4 v5 v6 : Int) (v7 : List Int) (v8 : Int) (v9 va vb : List Int) (K0 : Bool → Option R) : Option R :=
 rrr_Rank v3 v4 v5 v6 v7 v8 v9 va vb true 4
 (fun vc vd => rrr_Select v3 v4 v5 v6 v7 v8 v9 va vb true 2
 (fun ve vf => rrr_Select v3 v4 v5 v6 v7 v8 v9 va vb false 1
 (fun vg vh => rrr_Select v3 v4 v5 v6 v7 v8 v9 va vb true 3
 (fun _ vj => rrr_Build 1 []
 (fun _ _ _ _ _ _ _ _ _ vt => sel (decide (v0 = 0))
 (sel v1
 (sel (decide (v2 = 0))
 (sel (decide (vc = 2))
 (sel (decide (vd = 0))
 (sel (decide (ve = 4))
 (sel (decide (vf = 0))
 (sel (decide (vg = 3))
 (sel (decide (vh = 0))
 (sel (decide (vj = 3))
 (sel (decide (vt = 2))
 (rrr_Check v3 v4 v5 v6 v7 v8 v9 va vb
 (fun vu => sel vu
 (rrr_Size v3 v4 v5 v6 v7 v8 v9 va vb
 (fun vv => sel (decide (0 < vv))
 (rrr_Bits v3 v4 v5 v6 v7 v8 v9 va vb
 (fun vw vx => haystackref02_Same vw vx 5 ([22])
 (fun vy => K0 vy)))
 (none)))
 (none)))
 (none))
 (none))
 (none))
 (none))
 (none))
 (none))
 (none))
 (none))
 (none))
 (none))
 (none))))))
noncomputable def haystacklaw08_heads_j4 {R : Type} := shut (@haystacklaw08_heads_j4_B R)
theorem haystacklaw08_heads_j4_unf {R : Type} : @haystacklaw08_heads_j4 R = @haystacklaw08_heads_j4_B R := shut_eq _

noncomputable def haystacklaw08_heads_B {R : Type} (K0 : Bool → Option R) : Option R :=
 rrr_Build 5 ([22])
 (fun v0 v1 v2 v3 v4 v5 v6 v7 v8 v9 => rrr_Access v0 v1 v2 v3 v4 v5 v6 v7 v8 4
 (fun va vb => haystacklaw08_heads_j4 v9 va vb v0 v1 v2 v3 v4 v5 v6 v7 v8
 (fun vc => K0 vc)))
noncomputable def haystacklaw08_heads {R : Type} := shut (@haystacklaw08_heads_B R)
theorem haystacklaw08_heads_unf {R : Type} : @haystacklaw08_heads R = @haystacklaw08_heads_B R := shut_eq _

noncomputable def haystackref02_Words_B {R : Type} (v0 : Int) (K0 : Int → Option R) : Option R :=
 K0 (quoW .i64 (addW .i64 v0 63) 64)
noncomputable def haystackref02_Words {R : Type} := shut (@haystackref02_Words_B R)
theorem haystackref02_Words_unf {R : Type} : @haystackref02_Words R = @haystackref02_Words_B R := shut_eq _

noncomputable def haystackref01_Mask_j6_B {R : Type} (v0 v1 v2 : Int) (K0 : Int → Int → Int → Option R) : Option R :=
 sel (decide (0 ≤ cvtW .u64 v2))
 (K0 v0 (orW .u64 v1 (shlW .u64 1 (cvtW .u64 v2))) (addW .i64 v2 1))
 (none)
noncomputable def haystackref01_Mask_j6 {R : Type} := shut (@haystackref01_Mask_j6_B R)
theorem haystackref01_Mask_j6_unf {R : Type} : @haystackref01_Mask_j6 R = @haystackref01_Mask_j6_B R := shut_eq _

noncomputable def haystackref01_Mask_l4_T {R : Type} (rec : Int → Int → Int → Option R) (v0 v1 v2 : Int) (K0 : Int → Option R) : Option R :=
 sel (decide (v2 < 64))
 (sel (decide (v2 < v0))
 (haystackref01_Mask_j6 v0 v1 v2
 (fun v3 v4 v5 => rec v3 v4 v5))
 (K0 v1))
 (K0 v1)
noncomputable def haystackref01_Mask_l4_L {R : Type} (K0 : Int → Option R) : Nat → Int → Int → Int → Option R
 | 0, _, _, _ => none
 | N + 1, v0, v1, v2 => haystackref01_Mask_l4_T (haystackref01_Mask_l4_L K0 N) v0 v1 v2 K0
noncomputable def haystackref01_Mask_l4_B {R : Type} (v0 v1 v2 : Int) (K0 : Int → Option R) : Option R :=
 haystackref01_Mask_l4_L K0 NR v0 v1 v2
noncomputable def haystackref01_Mask_l4 {R : Type} := shut (@haystackref01_Mask_l4_B R)
theorem haystackref01_Mask_l4_unf {R : Type} : @haystackref01_Mask_l4 R = @haystackref01_Mask_l4_B R := shut_eq _

noncomputable def haystackref01_Mask_B {R : Type} (v0 : Int) (K0 : Int → Option R) : Option R :=
 haystackref01_Mask_l4 v0 0 0
 (fun v1 => K0 v1)
noncomputable def haystackref01_Mask {R : Type} := shut (@haystackref01_Mask_B R)
theorem haystackref01_Mask_unf {R : Type} : @haystackref01_Mask R = @haystackref01_Mask_B R := shut_eq _

noncomputable def haystackref02_Check_j4_B {R : Type} (v0 : Int) (v1 : List Int) (K0 : Bool → Option R) : Option R :=
 sel (decide (remW v0 64 = 0))
 (K0 true)
 (sel (decide (0 ≤ subW .i64 (↑(List.length v1) : Int) 1))
 (sel (decide (subW .i64 (↑(List.length v1) : Int) 1 < (↑(List.length v1) : Int)))
 (haystackref01_Mask (remW v0 64)
 (fun v2 => letV (decide (andNotW .u64 (List.getD v1 (Int.toNat (subW .i64 (↑(List.length v1) : Int) 1)) 0) v2 = 0)) (fun (v3 : Bool) =>
 K0 v3)))
 (none))
 (none))
noncomputable def haystackref02_Check_j4 {R : Type} := shut (@haystackref02_Check_j4_B R)
theorem haystackref02_Check_j4_unf {R : Type} : @haystackref02_Check_j4 R = @haystackref02_Check_j4_B R := shut_eq _

noncomputable def haystackref02_Check_B {R : Type} (v0 : Int) (v1 : List Int) (K0 : Bool → Option R) : Option R :=
 sel (decide (v0 < 0))
 (K0 false)
 (sel (decide (1048576 < v0))
 (K0 false)
 (haystackref02_Words v0
 (fun v2 => sel (!decide ((↑(List.length v1) : Int) = v2))
 (K0 false)
 (haystackref02_Check_j4 v0 v1
 (fun v3 => K0 v3)))))
noncomputable def haystackref02_Check {R : Type} := shut (@haystackref02_Check_B R)
theorem haystackref02_Check_unf {R : Type} : @haystackref02_Check R = @haystackref02_Check_B R := shut_eq _

noncomputable def haystacklaw08_RrrCounts_j4_B {R : Type} (v0 v1 : Int) (v2 : List Int) (K0 : Bool → Option R) : Option R :=
 rrr_Build v1 v2
 (fun v3 v4 v5 v6 v7 v8 v9 va vb vc => rrr_Rank v3 v4 v5 v6 v7 v8 v9 va vb true v0
 (fun vd ve => rrr_Rank v3 v4 v5 v6 v7 v8 v9 va vb false v0
 (fun vf vg => rrr_Rank v3 v4 v5 v6 v7 v8 v9 va vb true (addW .i64 v0 1)
 (fun vh vi => rrr_Access v3 v4 v5 v6 v7 v8 v9 va vb v0
 (fun vj vk => sel (decide (vc = 0))
 (sel (decide (ve = 0))
 (sel (decide (vg = 0))
 (sel (decide (vi = 0))
 (sel (decide (vk = 0))
 (sel (decide (addW .i64 vd vf = v0))
 (sel (decide (vh = addW .i64 vd 1) == vj)
 (sel (decide (vh = vd) == !vj)
 (haystacklaw08_heads 
 (fun vl => K0 vl))
 (K0 false))
 (K0 false))
 (K0 false))
 (K0 false))
 (K0 false))
 (K0 false))
 (K0 false))
 (K0 false))))))
noncomputable def haystacklaw08_RrrCounts_j4 {R : Type} := shut (@haystacklaw08_RrrCounts_j4_B R)
theorem haystacklaw08_RrrCounts_j4_unf {R : Type} : @haystacklaw08_RrrCounts_j4 R = @haystacklaw08_RrrCounts_j4_B R := shut_eq _

noncomputable def haystacklaw08_RrrCounts_B {R : Type} (v0 : Int) (v1 : List Int) (v2 : Int) (K0 : Bool → Option R) : Option R :=
 sel (decide (3000 < v0))
 (haystacklaw08_heads 
 (fun v3 => K0 v3))
 (sel (decide (3000 < (↑(List.length v1) : Int)))
 (haystacklaw08_heads 
 (fun v4 => K0 v4))
 (haystackref02_Check v0 v1
 (fun v5 => sel (!v5)
 (haystacklaw08_heads 
 (fun v6 => K0 v6))
 (sel (decide (v2 < 0))
 (haystacklaw08_heads 
 (fun v7 => K0 v7))
 (sel (decide (v0 ≤ v2))
 (haystacklaw08_heads 
 (fun v8 => K0 v8))
 (haystacklaw08_RrrCounts_j4 v2 v0 v1
 (fun v9 => K0 v9)))))))
noncomputable def haystacklaw08_RrrCounts {R : Type} := shut (@haystacklaw08_RrrCounts_B R)
theorem haystacklaw08_RrrCounts_unf {R : Type} : @haystacklaw08_RrrCounts R = @haystacklaw08_RrrCounts_B R := shut_eq _

noncomputable def haystacklaw08_RrrSizes_j4_B {R : Type} (v0 : Int) (v1 : List Int) (K0 : Bool → Option R) : Option R :=
 rrr_Build v0 v1
 (fun v2 v3 v4 v5 v6 v7 v8 v9 va vb => sel (decide (vb = 0))
 (rrr_Size v2 v3 v4 v5 v6 v7 v8 v9 va
 (fun vc => letV (decide (vc ≤ addW .i64 (mulW .i64 17 (quoW .i64 (addW .i64 v0 14) 15)) (mulW .i64 64 (max2 1 (quoW .i64 (addW .i64 (quoW .i64 (addW .i64 v0 14) 15) 7) 8))))) (fun (vd : Bool) =>
 sel vd
 (rrr_Size v2 v3 v4 v5 v6 v7 v8 v9 va
 (fun ve => sel (decide (addW .i64 (mulW .i64 4 (quoW .i64 (addW .i64 v0 14) 15)) 64 ≤ ve))
 (haystacklaw08_heads 
 (fun vf => K0 vf))
 (K0 false)))
 (K0 false))))
 (K0 false))
noncomputable def haystacklaw08_RrrSizes_j4 {R : Type} := shut (@haystacklaw08_RrrSizes_j4_B R)
theorem haystacklaw08_RrrSizes_j4_unf {R : Type} : @haystacklaw08_RrrSizes_j4 R = @haystacklaw08_RrrSizes_j4_B R := shut_eq _

noncomputable def haystacklaw08_RrrSizes_B {R : Type} (v0 : Int) (v1 : List Int) (K0 : Bool → Option R) : Option R :=
 sel (decide (3000 < v0))
 (haystacklaw08_heads 
 (fun v2 => K0 v2))
 (sel (decide (3000 < (↑(List.length v1) : Int)))
 (haystacklaw08_heads 
 (fun v3 => K0 v3))
 (haystackref02_Check v0 v1
 (fun v4 => sel (!v4)
 (haystacklaw08_heads 
 (fun v5 => K0 v5))
 (haystacklaw08_RrrSizes_j4 v0 v1
 (fun v6 => K0 v6)))))
noncomputable def haystacklaw08_RrrSizes {R : Type} := shut (@haystacklaw08_RrrSizes_B R)
theorem haystacklaw08_RrrSizes_unf {R : Type} : @haystacklaw08_RrrSizes R = @haystacklaw08_RrrSizes_B R := shut_eq _

noncomputable def haystacklaw08_RrrBack_j11_B {R : Type} (v0 : Bool) (v1 v2 v3 v4 v5 v6 v7 : Int) (v8 : List Int) (v9 : Int) (va vb vc : List Int) (K0 : Bool → Option R) : Option R :=
 sel (!decide (v3 = 0))
 (sel (decide (v3 = 3))
 (haystacklaw08_heads 
 (fun vd => K0 vd))
 (K0 false))
 (rrr_Rank v4 v5 v6 v7 v8 v9 va vb vc v0 v2
 (fun ve vf => rrr_Access v4 v5 v6 v7 v8 v9 va vb vc v2
 (fun vg vh => sel (decide (vf = 0))
 (sel (decide (ve = v1))
 (sel (decide (vh = 0))
 (sel (vg == v0)
 (haystacklaw08_heads 
 (fun vi => K0 vi))
 (K0 false))
 (K0 false))
 (K0 false))
 (K0 false))))
noncomputable def haystacklaw08_RrrBack_j11 {R : Type} := shut (@haystacklaw08_RrrBack_j11_B R)
theorem haystacklaw08_RrrBack_j11_unf {R : Type} : @haystacklaw08_RrrBack_j11 R = @haystacklaw08_RrrBack_j11_B R := shut_eq _

noncomputable def haystacklaw08_RrrBack_j7_B {R : Type} (v0 : Bool) (v1 v2 : Int) (_v3 : List Int) (v4 v5 v6 v7 : Int) (v8 : List Int) (v9 : Int) (va vb vc : List Int) (K0 : Bool → Option R) : Option R :=
 rrr_Rank v4 v5 v6 v7 v8 v9 va vb vc v0 v2
 (fun vd ve => rrr_Select v4 v5 v6 v7 v8 v9 va vb vc v0 v1
 (fun vf vg => sel (!decide (ve = 0))
 (K0 false)
 (sel (decide (0 ≤ v1))
 (sel (!decide (vg = 0) == decide (v1 < vd))
 (K0 false)
 (haystacklaw08_RrrBack_j11 v0 v1 vf vg v4 v5 v6 v7 v8 v9 va vb vc
 (fun vh => K0 vh)))
 (sel (!decide (vg = 0) == false)
 (K0 false)
 (haystacklaw08_RrrBack_j11 v0 v1 vf vg v4 v5 v6 v7 v8 v9 va vb vc
 (fun vi => K0 vi))))))
noncomputable def haystacklaw08_RrrBack_j7 {R : Type} := shut (@haystacklaw08_RrrBack_j7_B R)
theorem haystacklaw08_RrrBack_j7_unf {R : Type} : @haystacklaw08_RrrBack_j7 R = @haystacklaw08_RrrBack_j7_B R := shut_eq _

noncomputable def haystacklaw08_RrrBack_j5_B {R : Type} (v0 : Bool) (v1 v2 v3 : Int) (v4 : List Int) (v5 v6 v7 v8 : Int) (v9 : List Int) (va : Int) (vb vc vd : List Int) (K0 : Bool → Option R) : Option R :=
 sel (!decide (v2 = 0))
 (K0 false)
 (rrr_Check v5 v6 v7 v8 v9 va vb vc vd
 (fun ve => sel (!ve)
 (K0 false)
 (rrr_Bits v5 v6 v7 v8 v9 va vb vc vd
 (fun vf vg => haystackref02_Same vf vg v3 v4
 (fun vh => sel (!vh)
 (K0 false)
 (haystacklaw08_RrrBack_j7 v0 v1 v3 v4 v5 v6 v7 v8 v9 va vb vc vd
 (fun vi => K0 vi)))))))
noncomputable def haystacklaw08_RrrBack_j5 {R : Type} := shut (@haystacklaw08_RrrBack_j5_B R)
theorem haystacklaw08_RrrBack_j5_unf {R : Type} : @haystacklaw08_RrrBack_j5 R = @haystacklaw08_RrrBack_j5_B R := shut_eq _

noncomputable def haystacklaw08_RrrBack_j4_B {R : Type} (v0 : Bool) (v1 v2 : Int) (v3 : List Int) (K0 : Bool → Option R) : Option R :=
 rrr_Build v2 v3
 (fun v4 v5 v6 v7 v8 v9 va vb vc vd => haystacklaw08_RrrBack_j5 v0 v1 vd v2 v3 v4 v5 v6 v7 v8 v9 va vb vc
 (fun ve => K0 ve))
noncomputable def haystacklaw08_RrrBack_j4 {R : Type} := shut (@haystacklaw08_RrrBack_j4_B R)
theorem haystacklaw08_RrrBack_j4_unf {R : Type} : @haystacklaw08_RrrBack_j4 R = @haystacklaw08_RrrBack_j4_B R := shut_eq _

noncomputable def haystacklaw08_RrrBack_B {R : Type} (v0 : Int) (v1 : List Int) (v2 : Bool) (v3 : Int) (K0 : Bool → Option R) : Option R :=
 sel (decide (3000 < v0))
 (haystacklaw08_heads 
 (fun v4 => K0 v4))
 (sel (decide (3000 < (↑(List.length v1) : Int)))
 (haystacklaw08_heads 
 (fun v5 => K0 v5))
 (haystackref02_Check v0 v1
 (fun v6 => sel (!v6)
 (haystacklaw08_heads 
 (fun v7 => K0 v7))
 (haystacklaw08_RrrBack_j4 v2 v3 v0 v1
 (fun v8 => K0 v8)))))
noncomputable def haystacklaw08_RrrBack {R : Type} := shut (@haystacklaw08_RrrBack_B R)
theorem haystacklaw08_RrrBack_unf {R : Type} : @haystacklaw08_RrrBack R = @haystacklaw08_RrrBack_B R := shut_eq _

/-- what is kept where -/
def kpt : List (Nat × List (Nat × List Nat)) := [(8, [(4002, [4]), (4001, [4]), (4000, [1, 2])]), (9, [(4002, [2]), (4001, [2]), (4000, [1])]), (10, [(11002, [6]), (11001, [6]), (11000, [1, 2, 7, 11, 12]), (7002, [6]), (7001, [6]), (7000, [1, 2, 3, 7]), (5002, [6]), (5001, [6]), (5000, [1, 2, 3, 7, 8]), (4002, [6]), (4001, [6]), (4000, [1, 2, 3])]), (11, [(4002, [2]), (4001, [2]), (4000, [1])]), (28, [(5403, []), (5402, [4]), (5401, []), (5400, [2, 3, 5]), (4002, [4]), (4001, [4]), (4000, [2, 3])]), (31, [(999999999, []), (999999998, []), (9000, [1, 2, 3, 4, 5, 6, 7, 8, 9, 10, 12, 14, 999999]), (8000, [1, 2, 3, 4, 5, 6, 7, 8, 9, 10, 12, 999999]), (7000, [1, 2, 3, 4, 5, 6, 7, 8, 9, 10, 999999]), (6000, [1, 2, 3, 4, 5, 6, 7, 8, 999999]), (5000, [1, 2, 3, 4, 5, 6, 999999]), (4002, [0]), (4001, [0]), (4000, [1, 2, 3, 4, 999999]), (3000, [1, 2, 999999]), (2000, [999999])]), (32, [(999999998, []), (18003, [2, 4, 5]), (18004, [1, 2, 4, 5, 6, 7]), (18002, [2, 3]), (18001, [1, 2, 4, 5, 6, 7]), (18000, [1, 2, 4, 5, 6, 7, 10, 4000004007]), (12003, [2, 4, 5]), (12004, [1, 2, 4, 5, 6, 7]), (12002, [2, 3]), (12001, [1, 2, 4, 5, 6, 7]), (12000, [1, 2, 4, 5, 6, 7, 3000004008, 3000004009]), (10003, [2, 4, 5]), (10002, [2, 3]), (10001, [1, 2, 4, 5, 6, 7]), (10000, [1, 2, 4, 5, 6, 7]), (8403, [2, 4, 5]), (8402, [2, 3]), (8401, []), (8400, [1, 2, 4, 5, 6, 7, 4000004007, 3000004008, 3000004009, 5000005000]), (5002, [2, 3]), (5001, [2, 3]), (5000, [1, 2, 4])]), (33, [(999999998, []), (6002, [6, 7]), (6001, [6, 7]), (6000, [1, 2, 3])]), (34, [(999999998, []), (6002, [4, 5]), (6001, [4, 5]), (6000, [1, 2])]), (35, [(999999998, [])]), (36, [(999999998, [])]), (37, [(999999998, [])]), (38, [(999999998, []), (7404, [3, 4, 5, 8]), (7402, [6, 7]), (7401, []), (7400, [3, 4, 5, 8]), (6002, [6, 7]), (6001, [6, 7]), (6000, [3, 4, 5])]), (40, [(6003, [3]), (6002, [2]), (6001, [0, 3, 4]), (6000, [0, 3, 4]), (4403, [3]), (4402, [2]), (4401, []), (4400, [0, 3, 4])]), (41, [(4002, [2]), (4001, [2]), (4000, [1])]), (47, [(6403, [0, 1, 4, 6]), (6402, [4, 5]), (6401, []), (6400, [0, 1, 4, 6, 34, 35, 36]), (4002, [4, 5]), (4001, [4, 5]), (4000, [0, 1, 4]), (3002, [4, 5]), (3001, [0, 1, 4]), (3000, [0, 1, 4, 28])]), (58, [(12002, [6, 7]), (12001, [6, 7]), (12000, [2, 10]), (8002, [6, 7]), (8001, [6, 7]), (8000, [1, 2, 3]), (5003, [1, 2, 3]), (5002, [6, 7]), (5001, [1, 2, 3]), (5000, [1, 2, 3, 23]), (3003, [1, 2, 3]), (3002, [6, 7]), (3001, [1, 2, 3]), (3000, [1, 2, 3, 11])]), (59, [(999999998, [])]), (60, [(999999998, [])]), (61, [(4002, [6, 7]), (4001, [6, 7]), (4000, [1, 2, 3, 6]), (3002, [6, 7]), (3001, [1, 2, 3, 6]), (3000, [1, 2, 3, 6, 26])]), (63, [(999999998, [])]), (64, [(999999998, [])]), (65, [(999999998, [])]), (66, [(999999998, []), (5403, []), (5402, []), (5401, []), (5400, [2, 3, 7, 8, 9])]), (67, [(999999998, []), (4002, [9]), (4001, [9]), (4000, [0, 1, 2, 4, 5])]), (68, [(5403, [0]), (5402, [4]), (5401, []), (5400, [0, 13, 14]), (4002, [4]), (4001, [4]), (4000, [0, 1])]), (74, [(4403, [3]), (4402, [2]), (4401, []), (4400, [3, 6, 7, 8])]), (75, [(4002, [2, 3]), (4001, [2, 3]), (4000, [0, 2]), (3002, [2, 3]), (3001, [0, 2]), (3000, [0, 2, 9])]), (82, [(6403, [3]), (6402, [2]), (6401, []), (6400, [1, 3, 12, 13])]), (84, [(5403, []), (5402, [4]), (5401, []), (5400, [0, 1, 12, 13])]), (85, [(14003, [6, 8]), (14004, [0, 6, 7, 8, 9]), (14002, [4, 5]), (14001, [0, 6, 7, 8, 9]), (14000, [0, 6, 7, 8, 9, 10]), (9403, [6, 8]), (9402, [4, 5]), (9401, []), (9400, [0, 6, 7, 8, 9]), (4002, [4, 5]), (4001, [4, 5]), (4000, [0, 1])]), (87, [(6002, []), (6001, []), (6000, [2, 3, 6, 7, 36]), (5002, []), (5001, []), (5000, [2, 3, 6, 7])]), (88, [(6403, [1, 5]), (6402, [4]), (6401, []), (6400, [1, 5, 23, 24]), (4002, [4]), (4001, [4]), (4000, [0, 1])]), (89, [(999999998, [])]), (90, [(999999998, []), (17003, [2, 4]), (17004, [1, 2, 4, 5, 48, 49, 50]), (17002, [2, 3]), (17001, [1, 2, 4, 5, 48, 49, 50]), (17000, [1, 2, 4, 5, 8, 11, 13, 48, 49, 50]), (16003, [2, 4]), (16004, [1, 2, 4, 5, 48, 49, 50]), (16002, [2, 3]), (16001, [1, 2, 4, 5, 8, 11, 13, 48, 49, 50]), (16000, [1, 2, 4, 5, 8, 11, 13, 48, 49, 50, 92]), (7403, [2, 4]), (7402, [2, 3]), (7401, []), (7400, [1, 2, 4, 5, 48, 49, 50, 4000004002]), (4002, [2, 3]), (4001, [2, 3]), (4000, [1, 2]), (3002, [2, 3]), (3001, [1, 2]), (3000, [1, 2, 44])]), (91, [(999999998, []), (4002, [4]), (4001, [4]), (4000, [2, 3, 5, 6]), (3002, [4]), (3001, [4]), (3000, [2, 3, 5])]), (92, [(999999998, [])]), (95, [(11002, [2]), (11001, [2]), (11000, [0, 2]), (8002, [2]), (8001, [2]), (8000, [0, 2]), (5002, [2]), (5001, [2]), (5000, [0, 2])]), (102, [(5003, []), (5002, [4]), (5001, []), (5000, [12])]), (104, [(10000, [4, 999999]), (9000, [3, 4, 9, 10, 999999]), (8000, [3, 4, 5, 9, 10, 999999]), (7000, [3, 4, 5, 9, 10, 999999]), (6000, [3, 4, 9, 10, 11, 999999]), (5403, [4]), (5402, [2]), (5401, []), (5400, [3, 4, 9, 10]), (5000, [3, 4, 9, 10, 999999]), (4000, [0, 3, 4, 999999]), (3000, [0, 3, 999999]), (2000, [0, 999999])]), (105, [(2403, []), (2402, []), (2401, []), (2400, [0, 4])]), (106, [(13201, [0, 1, 2, 8, 9]), (13003, [9]), (13004, [1, 2, 8, 9, 10]), (13002, [6, 7]), (13001, [1, 2, 8, 9, 10]), (13000, [1, 2, 8, 9, 10, 11]), (7601, [0, 1, 2, 8, 9]), (7403, [9]), (7402, [6, 7]), (7401, []), (7400, [1, 2, 8, 9, 10]), (6702, [6, 7]), (6701, [6, 7]), (6700, [0, 1, 2, 8, 9])]), (107, [(5403, []), (5402, [4]), (5401, []), (5400, [0, 1, 12, 13])])]
/-- what is handed back open -/
def lvt : List (Nat × List Nat) := [(61, [86])]
noncomputable def V (f : FuncId) : Env := env (keepOf kpt) (vsOf (match lkN lvt f with | some l => l | none => []))
theorem D0 : Dom B0 V B0 T0 0 := Dom.nil base_nat

noncomputable def sp70 : Ev.Spec := fun args _ K => match args with
 | ([Ai v0]) => bits_words v0 (fun v1 => K (Ai v1))
 | _ => none
noncomputable def S70 := addS 70 sp70 B0
theorem D1 : Dom B0 V S70 T0 1 := Dom.s (m := 0) (n := 0) D0 D0 (O := (fun _ => none)) (fun _ _ _ _ => OrcOk.none _ _) fun args R K r h => by
 unfold sp70 at h; split at h
 · rw [bits_words_unf] at h; exact Eq.trans (by kernel_rfl) h
 · cases h

noncomputable def sp46 : Ev.Spec := fun args _ K => match args with
 | ([Ai v0]) => word_Mask v0 (fun v1 => K (Au v1))
 | _ => none
noncomputable def S46 := addS 46 sp46 S70
theorem D2 : Dom B0 V S46 T0 2 := Dom.s (m := 1) (n := 0) D1 D1 (O := (fun _ => none)) (fun _ _ _ _ => OrcOk.none _ _) fun args R K r h => by
 unfold sp46 at h; split at h
 · rw [word_Mask_unf] at h; exact Eq.trans (by kernel_rfl) h
 · cases h

noncomputable def o41_4000_in {R : Type} (K : Ex → St → Option R) (vs : List AV) (hh : H) : Option R := match vs, hh with
 | [Ap 0 0], [HA [Ai v0, Fu v1]] => bits_Check_j4 v0 v1 (fun v2 => K (Ex.ret) (St.mk (spread 40 0 [2] [Ab v2]) []))
 | _, _ => none

noncomputable def o41 : Nat → Option PSpec := lkN [(4000, fun st _ K => pickM 40 [1] st (o41_4000_in K))]
noncomputable def q41 : CallF := evFun (V 41) S46 T0 10

noncomputable def c41_4000 : Code := subC [1, 1] (bodyOf Tryd.f41)

theorem p41_4000 : PieceOk (V 41) q41 o41 41 0 (3998, 0, c41_4000) := .s (size := 40) (ss := [1]) (F := @o41_4000_in) (by kernel_rfl) fun R r K vs hh h => by
  unfold o41_4000_in at h; split at h
  · rw [bits_Check_j4_unf] at h; exact Eq.trans (by kernel_rfl) h
  · cases h

theorem pc41 : ∀ x ∈ [(3998, 0, c41_4000)], PieceOk (V 41) q41 o41 41 0 x := List.forall_mem_cons.2 ⟨p41_4000, fun _ h => nomatch h⟩

noncomputable def sp41 : Ev.Spec := fun args _ K => match args with
 | ([AV.agg (Blk.any [Ai v0, Fu v1])]) => bits_Check v0 v1 (fun v2 => K (Ab v2))
 | _ => none
noncomputable def S41 := addS 41 sp41 S46
theorem D3 : Dom B0 V S41 T0 3 := Dom.s (m := 2) (n := 0) D2 D2 (O := o41) (OrcOk.fn (fn0 := Tryd.f41) (by kernel_rfl) (by kernel_rfl) pc41) fun args R K r h => by
 unfold sp41 at h; split at h
 · rw [bits_Check_unf] at h; exact Eq.trans (by kernel_rfl) h
 · cases h

noncomputable def o95_5000_in {R : Type} (K : Ex → St → Option R) (vs : List AV) (hh : H) : Option R := match vs, hh with
 | [Au v0, Ai v1], [] => math_bits_Len64_j5 v0 v1 (fun v2 => K (Ex.ret) (St.mk (spread 25 0 [2] [Ai v2]) []))
 | _, _ => none

noncomputable def o95_8000_in {R : Type} (K : Ex → St → Option R) (vs : List AV) (hh : H) : Option R := match vs, hh with
 | [Au v0, Ai v1], [] => math_bits_Len64_j8 v0 v1 (fun v2 => K (Ex.ret) (St.mk (spread 25 0 [2] [Ai v2]) []))
 | _, _ => none

noncomputable def o95_11000_in {R : Type} (K : Ex → St → Option R) (vs : List AV) (hh : H) : Option R := match vs, hh with
 | [Au v0, Ai v1], [] => math_bits_Len64_j11 v0 v1 (fun v2 => K (Ex.ret) (St.mk (spread 25 0 [2] [Ai v2]) []))
 | _, _ => none

noncomputable def o95 : Nat → Option PSpec := lkN [(5000, fun st _ K => pickM 25 [0, 2] st (o95_5000_in K)), (8000, fun st _ K => pickM 25 [0, 2] st (o95_8000_in K)), (11000, fun st _ K => pickM 25 [0, 2] st (o95_11000_in K))]
noncomputable def q95 : CallF := evFun (V 95) S41 T0 10

noncomputable def c95_5000 : Code := subC [1, 1] (bodyOf Tryd.f95)

noncomputable def c95_8000 : Code := subC [1, 1, 1] (bodyOf Tryd.f95)

noncomputable def c95_11000 : Code := subC [1, 1, 1, 1] (bodyOf Tryd.f95)

theorem math_bits_Len64_j11_eq {R : Type} (K : Ex → St → Option R) (v0 v1 : Int) : evCode (V 95) q95 o95 95 0 3996 c95_11000 (St.mk (spread 25 0 [0, 2] [Au v0, Ai v1]) []) (kOut (V 95) 95 0 (Ev.keyOf c95_11000 * 1000 + 1) K) = math_bits_Len64_j11_B v0 v1 (fun v2 => K (Ex.ret) (St.mk (spread 25 0 [2] [Ai v2]) [])) := by kernel_rfl

theorem p95_5000 : PieceOk (V 95) q95 o95 95 0 (3998, 0, c95_5000) := .s (size := 25) (ss := [0, 2]) (F := @o95_5000_in) (by kernel_rfl) fun R r K vs hh h => by
  unfold o95_5000_in at h; split at h
  · rw [math_bits_Len64_j5_unf] at h; exact Eq.trans (by kernel_rfl) h
  · cases h

theorem p95_8000 : PieceOk (V 95) q95 o95 95 0 (3997, 0, c95_8000) := .s (size := 25) (ss := [0, 2]) (F := @o95_8000_in) (by kernel_rfl) fun R r K vs hh h => by
  unfold o95_8000_in at h; split at h
  · rw [math_bits_Len64_j8_unf] at h; exact Eq.trans (by kernel_rfl) h
  · cases h

theorem p95_11000 : PieceOk (V 95) q95 o95 95 0 (3996, 0, c95_11000) := .s (size := 25) (ss := [0, 2]) (F := @o95_11000_in) (by kernel_rfl) fun R r K vs hh h => by
  unfold o95_11000_in at h; split at h
  · rw [math_bits_Len64_j11_unf] at h; exact (math_bits_Len64_j11_eq K _ _).trans h
  · cases h

theorem pc95 : ∀ x ∈ [(3998, 0, c95_5000), (3997, 0, c95_8000), (3996, 0, c95_11000)], PieceOk (V 95) q95 o95 95 0 x := List.forall_mem_cons.2 ⟨p95_5000, List.forall_mem_cons.2 ⟨p95_8000, List.forall_mem_cons.2 ⟨p95_11000, fun _ h => nomatch h⟩⟩⟩

noncomputable def sp95 : Ev.Spec := fun args _ K => match args with
 | ([Au v0]) => math_bits_Len64 v0 (fun v1 => K (Ai v1))
 | _ => none
noncomputable def S95 := addS 95 sp95 S41
theorem D4 : Dom B0 V S95 T0 4 := Dom.s (m := 3) (n := 0) D3 D3 (O := o95) (OrcOk.fn (fn0 := Tryd.f95) (by kernel_rfl) (by kernel_rfl) pc95) fun args R K r h => by
 unfold sp95 at h; split at h
 · rw [math_bits_Len64_unf] at h; exact Eq.trans (by kernel_rfl) h
 · cases h

noncomputable def sp72 : Ev.Spec := fun args _ K => match args with
 | ([Au v0]) => word_Len v0 (fun v1 => K (Ai v1))
 | _ => none
noncomputable def S72 := addS 72 sp72 S95
theorem D5 : Dom B0 V S72 T0 5 := Dom.s (m := 4) (n := 0) D4 D4 (O := (fun _ => none)) (fun _ _ _ _ => OrcOk.none _ _) fun args R K r h => by
 unfold sp72 at h; split at h
 · rw [word_Len_unf] at h; exact Eq.trans (by kernel_rfl) h
 · cases h

noncomputable def o74_4400_in {R : Type} (K : Ex → St → Option R) (vs : List AV) (hh : H) : Option R := match vs, hh with
 | [Ai v0, Fu v1, Ai v2, Ai v3], [] => ints_width_l4 v0 v1 v2 v3 (fun v4 => K (Ex.exit 0) (St.mk (spread 18 0 [3] [Ai v4]) []))
 | _, _ => none

noncomputable def o74 : Nat → Option PSpec := lkN [(4400, fun st _ K => pickM 18 [3, 6, 7, 8] st (o74_4400_in K))]
noncomputable def q74 : CallF := evFun (V 74) S72 T0 10

noncomputable def c74_4400 : Code := subC [1, 1, 0, 1, 0, 0] (bodyOf Tryd.f74)

noncomputable def lp74_4400 {R : Type} (N : Nat) (st : St) (K : Ex → St → Option R) : Option R := evLoop (norm ((V 74).keep 74 (Ev.keyOf c74_4400 * 1000 + 400)) 0) (evCode (V 74) q74 o74 74 0 3994 c74_4400) N st (kOut (V 74) 74 0 (Ev.keyOf c74_4400 * 1000 + 401) K)

theorem ints_width_l4_L_eq {R : Type} (K : Ex → St → Option R) : ∀ N : Nat, (fun (v0 : Int) (v1 : List Int) (v2 v3 : Int) => lp74_4400 N (St.mk (spread 18 0 [3, 6, 7, 8] [Ai v0, Fu v1, Ai v2, Ai v3]) []) K) = ints_width_l4_L (fun v4 => K (Ex.exit 0) (St.mk (spread 18 0 [3] [Ai v4]) [])) N
  | 0 => by funext v0 v1 v2 v3; rfl
  | N + 1 => by
    funext v0 v1 v2 v3
    simp only [ints_width_l4_L]
    rw [← ints_width_l4_L_eq K N]
    kernel_rfl

theorem p74_4400 : PieceOk (V 74) q74 o74 74 0 (3994, 1, c74_4400) := .l (size := 18) (ss := [3, 6, 7, 8]) (F := @o74_4400_in) (by kernel_rfl) (by kernel_rfl) fun R r K vs hh h => by
  unfold o74_4400_in at h; split at h
  · rw [ints_width_l4_unf] at h; unfold ints_width_l4_B at h; rw [← ints_width_l4_L_eq K NR] at h; exact h
  · cases h

theorem pc74 : ∀ x ∈ [(3994, 1, c74_4400)], PieceOk (V 74) q74 o74 74 0 x := List.forall_mem_cons.2 ⟨p74_4400, fun _ h => nomatch h⟩

noncomputable def sp74 : Ev.Spec := fun args _ K => match args with
 | ([Fu v0]) => ints_width v0 (fun v1 => K (Ai v1))
 | _ => none
noncomputable def S74 := addS 74 sp74 S72
theorem D6 : Dom B0 V S74 T0 6 := Dom.s (m := 5) (n := 0) D5 D5 (O := o74) (OrcOk.fn (fn0 := Tryd.f74) (by kernel_rfl) (by kernel_rfl) pc74) fun args R K r h => by
 unfold sp74 at h; split at h
 · rw [ints_width_unf] at h; exact Eq.trans (by kernel_rfl) h
 · cases h

noncomputable def o75_3000_in {R : Type} (K : Ex → St → Option R) (vs : List AV) (hh : H) : Option R := match vs, hh with
 | [Ai v0, Ap 0 0, Ab v1], [HA [Ai v2, AV.esl]] => bits_New_j3 v0 v1 v2 (fun v3 v4 => K (Ex.ret) (St.mk (spread 16 0 [2, 3] [Ap 0 0, Ai v3]) [HA [Ai v4, AV.esl]])) (fun v3 v4 => K (Ex.normal) (St.mk (spread 16 0 [0, 2] [Ai v3, Ap 0 0]) [HA [Ai v4, AV.esl]]))
 | _, _ => none

noncomputable def o75_4000_in {R : Type} (K : Ex → St → Option R) (vs : List AV) (hh : H) : Option R := match vs, hh with
 | [Ai v0, Ap 0 0], [HA [Ai v1, AV.esl]] => bits_New_j4 v0 v1 (fun v2 v3 v4 v5 => K (Ex.ret) (St.mk (spread 16 0 [2, 3] [Ap 0 0, Ai v2]) [HA [Ai v3, AV.sl 1 0 v4 1], HU v5]))
 | _, _ => none

noncomputable def o75 : Nat → Option PSpec := lkN [(3000, fun st _ K => pickM 16 [0, 2, 9] st (o75_3000_in K)), (4000, fun st _ K => pickM 16 [0, 2] st (o75_4000_in K))]
noncomputable def q75 : CallF := evFun (V 75) S74 T0 10

noncomputable def c75_4000 : Code := subC [1, 1] (bodyOf Tryd.f75)

noncomputable def c75_3000 : Code := subC [1, 0, 1] (bodyOf Tryd.f75)

theorem p75_4000 : PieceOk (V 75) q75 o75 75 0 (3998, 0, c75_4000) := .s (size := 16) (ss := [0, 2]) (F := @o75_4000_in) (by kernel_rfl) fun R r K vs hh h => by
  unfold o75_4000_in at h; split at h
  · rw [bits_New_j4_unf] at h; exact Eq.trans (by kernel_rfl) h
  · cases h

theorem p75_3000 : PieceOk (V 75) q75 o75 75 0 (3997, 0, c75_3000) := .s (size := 16) (ss := [0, 2, 9]) (F := @o75_3000_in) (by kernel_rfl) fun R r K vs hh h => by
  unfold o75_3000_in at h; split at h
  · rw [bits_New_j3_unf] at h; exact Eq.trans (by kernel_rfl) h
  · cases h

theorem pc75 : ∀ x ∈ [(3998, 0, c75_4000), (3997, 0, c75_3000)], PieceOk (V 75) q75 o75 75 0 x := List.forall_mem_cons.2 ⟨p75_4000, List.forall_mem_cons.2 ⟨p75_3000, fun _ h => nomatch h⟩⟩

noncomputable def sp75 : Ev.Spec := fun args _ K => match args with
 | ([Ai v0]) => bits_New v0 (fun v1 v2 v3 => K (AV.tup [AV.agg (Blk.any [Ai v1, Fu v2]), Ai v3]))
 | _ => none
noncomputable def S75 := addS 75 sp75 S74
theorem D7 : Dom B0 V S75 T0 7 := Dom.s (m := 6) (n := 0) D6 D6 (O := o75) (OrcOk.fn (fn0 := Tryd.f75) (by kernel_rfl) (by kernel_rfl) pc75) fun args R K r h => by
 unfold sp75 at h; split at h
 · rw [bits_New_unf] at h; exact Eq.trans (by kernel_rfl) h
 · cases h

theorem bits_own_r_eq {R : Type} (K : AV → H → Option R) (v0 : Int) (v1 : List Int) (v2 : Int) : evH (V 86) S75 T0 (fun _ => none) 10 86 [AV.agg (Blk.any [Ai v0, Fu v1]), Ai v2] [] R K = bits_own_r_B v0 v1 v2 (fun v3 v4 v5 => K (AV.agg (Blk.any [Ai v3, AV.sl 0 0 v4 1])) ([HU v5])) := by kernel_rfl

noncomputable def hs86 : HSpec := fun args h _ K => match args, h with
 | [AV.agg (Blk.any [Ai v0, Fu v1]), Ai v2], [] => bits_own_r v0 v1 v2 (fun v3 v4 v5 => K (AV.agg (Blk.any [Ai v3, AV.sl 0 0 v4 1])) ([HU v5]))
 | _, _ => none
noncomputable def T86 := addT 86 hs86 T0
theorem D8 : Dom B0 V S75 T86 8 := Dom.t D7 fun args hh R K r h => by
 unfold hs86 at h; split at h
 · rw [bits_own_r_unf] at h; exact ⟨(fun _ => none), (fun _ _ _ _ => OrcOk.none _ _), (bits_own_r_eq K _ _ _).trans h⟩
 · cases h

noncomputable def o87r1_5000_in {R : Type} (K : Ex → St → Option R) (vs : List AV) (hh : H) : Option R := match vs, hh with
 | [Au v0, Ap 1 0, Ai v1, Ai v2], [HU v3, HA [Ai v4, AV.sl 0 0 v5 1]] => bits_fill_j5 v0 v1 v2 v3 v4 v5 (fun v6 => K (Ex.normal) (St.mk (spread 49 0 [] []) [HU v6]))
 | _, _ => none

noncomputable def o87r1_6000_in {R : Type} (K : Ex → St → Option R) (vs : List AV) (hh : H) : Option R := match vs, hh with
 | [Au v0, Ap 1 0, Ai v1, Ai v2, Ab v3], [HU v4, HA [Ai v5, AV.sl 0 0 v6 1]] => bits_fill_j6 v0 v1 v2 v3 v4 v5 v6 (fun v7 => K (Ex.normal) (St.mk (spread 49 0 [] []) [HU v7]))
 | _, _ => none

noncomputable def o87r1 : Nat → Option PSpec := lkN [(5000, fun st _ K => pickM 49 [2, 3, 6, 7] st (o87r1_5000_in K)), (6000, fun st _ K => pickM 49 [2, 3, 6, 7, 36] st (o87r1_6000_in K))]
noncomputable def q87r1 : CallF := evFun (V 87) S75 T86 10

noncomputable def c87r1_5000 : Code := subC [1, 1, 1] (bodyOf Tryd.f87)

noncomputable def c87r1_6000 : Code := subC [1, 1, 1, 1] (bodyOf Tryd.f87)

theorem p87r1_5000 : PieceOk (V 87) q87r1 o87r1 87 1 (3997, 0, c87r1_5000) := .s (size := 49) (ss := [2, 3, 6, 7]) (F := @o87r1_5000_in) (by kernel_rfl) fun R r K vs hh h => by
  unfold o87r1_5000_in at h; split at h
  · rw [bits_fill_j5_unf] at h; exact Eq.trans (by kernel_rfl) h
  · cases h

theorem p87r1_6000 : PieceOk (V 87) q87r1 o87r1 87 1 (3996, 0, c87r1_6000) := .s (size := 49) (ss := [2, 3, 6, 7, 36]) (F := @o87r1_6000_in) (by kernel_rfl) fun R r K vs hh h => by
  unfold o87r1_6000_in at h; split at h
  · rw [bits_fill_j6_unf] at h; exact Eq.trans (by kernel_rfl) h
  · cases h

theorem pc87r1 : ∀ x ∈ [(3997, 0, c87r1_5000), (3996, 0, c87r1_6000)], PieceOk (V 87) q87r1 o87r1 87 1 x := List.forall_mem_cons.2 ⟨p87r1_5000, List.forall_mem_cons.2 ⟨p87r1_6000, fun _ h => nomatch h⟩⟩

theorem bits_fill_r_eq {R : Type} (K : AV → H → Option R) (v0 : Int) (v1 : Nat) (v2 v3 : Int) (v4 : List Int) : evH (V 87) S75 T86 o87r1 10 87 [AV.agg (Blk.any [Ai v0, AV.sl 0 0 v1 1]), Ai v2, Au v3] [HU v4] R K = bits_fill_r_B v0 v1 v2 v3 v4 (fun v5 => K (AV.tup []) ([HU v5])) := by kernel_rfl

noncomputable def hs87 : HSpec := fun args h _ K => match args, h with
 | [AV.agg (Blk.any [Ai v0, AV.sl 0 0 v1 1]), Ai v2, Au v3], [HU v4] => bits_fill_r v0 v1 v2 v3 v4 (fun v5 => K (AV.tup []) ([HU v5]))
 | _, _ => none
noncomputable def T87 := addT 87 hs87 T86
theorem D9 : Dom B0 V S75 T87 9 := Dom.t D8 fun args hh R K r h => by
 unfold hs87 at h; split at h
 · rw [bits_fill_r_unf] at h; exact ⟨o87r1, (OrcOk.fn (fn0 := Tryd.f87) (by kernel_rfl) (by kernel_rfl) pc87r1), (bits_fill_r_eq K _ _ _ _ _).trans h⟩
 · cases h

noncomputable def o61_3000_in {R : Type} (K : Ex → St → Option R) (vs : List AV) (hh : H) : Option R := match vs, hh with
 | [Au v0, Ai v1, Ap 0 0, Ap 1 0, Ab v2], [HA [Ai v3, Fu v4], HA [Ai v5, AV.esl]] => bits_Append_j3 v0 v1 v2 v3 v4 v5 (fun v6 v7 v8 => K (Ex.ret) (St.mk (spread 43 0 [6, 7] [Ap 0 0, Ai v6]) [HA [Ai v7, Fu v8]])) (fun v6 v7 v8 v9 va => K (Ex.normal) (St.mk (spread 43 0 [1, 2, 3, 6] [Au v6, Ai v7, Ap 0 0, Ap 1 0]) [HA [Ai v8, Fu v9], HA [Ai va, AV.esl]]))
 | _, _ => none

noncomputable def o61_4000_in {R : Type} (K : Ex → St → Option R) (vs : List AV) (hh : H) : Option R := match vs, hh with
 | [Au v0, Ai v1, Ap 0 0, Ap 1 0], [HA [Ai v2, Fu v3], HA [Ai v4, AV.esl]] => bits_Append_j4 v0 v1 v2 v3 v4 (fun v5 v6 v7 v8 => K (Ex.ret) (St.mk (spread 43 0 [6, 7] [Ap 0 0, Ai v5]) [HA [Ai v6, AV.sl 1 0 v7 1], HU v8]))
 | _, _ => none

noncomputable def o61 : Nat → Option PSpec := lkN [(3000, fun st _ K => pickM 43 [1, 2, 3, 6, 26] st (o61_3000_in K)), (4000, fun st _ K => pickM 43 [1, 2, 3, 6] st (o61_4000_in K))]
noncomputable def q61 : CallF := evFun (V 61) S75 T87 10

noncomputable def c61_4000 : Code := subC [1, 1] (bodyOf Tryd.f61)

noncomputable def c61_3000 : Code := subC [1, 0, 1] (bodyOf Tryd.f61)

theorem p61_4000 : PieceOk (V 61) q61 o61 61 0 (3998, 0, c61_4000) := .s (size := 43) (ss := [1, 2, 3, 6]) (F := @o61_4000_in) (by kernel_rfl) fun R r K vs hh h => by
  unfold o61_4000_in at h; split at h
  · rw [bits_Append_j4_unf] at h; exact Eq.trans (by kernel_rfl) h
  · cases h

theorem p61_3000 : PieceOk (V 61) q61 o61 61 0 (3997, 0, c61_3000) := .s (size := 43) (ss := [1, 2, 3, 6, 26]) (F := @o61_3000_in) (by kernel_rfl) fun R r K vs hh h => by
  unfold o61_3000_in at h; split at h
  · rw [bits_Append_j3_unf] at h; exact Eq.trans (by kernel_rfl) h
  · cases h

theorem pc61 : ∀ x ∈ [(3998, 0, c61_4000), (3997, 0, c61_3000)], PieceOk (V 61) q61 o61 61 0 x := List.forall_mem_cons.2 ⟨p61_4000, List.forall_mem_cons.2 ⟨p61_3000, fun _ h => nomatch h⟩⟩

theorem bits_Append_eq {R : Type} (K : AV → Option R) (v0 : Int) (v1 : List Int) (v2 v3 : Int) : evSpec (V 61) S75 T87 o61 10 61 ([AV.agg (Blk.any [Ai v0, Fu v1]), Au v2, Ai v3]) R K = bits_Append_B v0 v1 v2 v3 (fun v4 v5 v6 => K (AV.tup [AV.agg (Blk.any [Ai v4, Fu v5]), Ai v6])) := by kernel_rfl

noncomputable def sp61 : Ev.Spec := fun args _ K => match args with
 | ([AV.agg (Blk.any [Ai v0, Fu v1]), Au v2, Ai v3]) => bits_Append v0 v1 v2 v3 (fun v4 v5 v6 => K (AV.tup [AV.agg (Blk.any [Ai v4, Fu v5]), Ai v6]))
 | _ => none
noncomputable def S61 := addS 61 sp61 S75
theorem D10 : Dom B0 V S61 T87 10 := Dom.s (m := 9) (n := 0) D9 D9 (O := o61) (OrcOk.fn (fn0 := Tryd.f61) (by kernel_rfl) (by kernel_rfl) pc61) fun args R K r h => by
 unfold sp61 at h; split at h
 · rw [bits_Append_unf] at h; exact (bits_Append_eq K _ _ _ _).trans h
 · cases h

noncomputable def o47_3000_in {R : Type} (K : Ex → St → Option R) (vs : List AV) (hh : H) : Option R := match vs, hh with
 | [Ai v0, Fu v1, Ap 0 0, Ab v2], [HA [Ai v3, Ai v4, Ai v5, AV.esl]] => ints_Make_j3 v0 v1 v2 v3 v4 v5 (fun v6 v7 v8 v9 => K (Ex.ret) (St.mk (spread 53 0 [4, 5] [Ap 0 0, Ai v6]) [HA [Ai v7, Ai v8, Ai v9, AV.esl]])) (fun v6 v7 v8 v9 va => K (Ex.normal) (St.mk (spread 53 0 [0, 1, 4] [Ai v6, Fu v7, Ap 0 0]) [HA [Ai v8, Ai v9, Ai va, AV.esl]]))
 | _, _ => none

noncomputable def o47_4000_in {R : Type} (K : Ex → St → Option R) (vs : List AV) (hh : H) : Option R := match vs, hh with
 | [Ai v0, Fu v1, Ap 0 0], [HA [Ai v2, Ai v3, Ai v4, AV.esl]] => ints_Make_j4 v0 v1 v2 v3 v4 (fun v5 v6 v7 v8 v9 => K (Ex.ret) (St.mk (spread 53 0 [4, 5] [Ap 0 0, Ai v5]) [HA [Ai v6, Ai v7, Ai v8, Fu v9]]))
 | _, _ => none

noncomputable def o47_6400_in {R : Type} (K : Ex → St → Option R) (vs : List AV) (hh : H) : Option R := match vs, hh with
 | [Ai v0, Fu v1, Ap 0 0, Ap 1 0, Fu v2, Ai v3, Ai v4], [HA [Ai v5, Ai v6, Ai v7, AV.esl], HA [Ai v8, Fu v9]] => ints_Make_l6 v0 v1 v2 v3 v4 v5 v6 v7 v8 v9 (fun va vb vc vd ve vf vg => K (Ex.exit 0) (St.mk (spread 53 0 [0, 1, 4, 6] [Ai va, Fu vb, Ap 0 0, Ap 1 0]) [HA [Ai vc, Ai vd, Ai ve, AV.esl], HA [Ai vf, Fu vg]]))
 | _, _ => none

noncomputable def o47 : Nat → Option PSpec := lkN [(3000, fun st _ K => pickM 53 [0, 1, 4, 28] st (o47_3000_in K)), (4000, fun st _ K => pickM 53 [0, 1, 4] st (o47_4000_in K)), (6400, fun st _ K => pickM 53 [0, 1, 4, 6, 34, 35, 36] st (o47_6400_in K))]
noncomputable def q47 : CallF := evFun (V 47) S61 T87 10

noncomputable def c47_4000 : Code := subC [1, 1] (bodyOf Tryd.f47)

noncomputable def c47_3000 : Code := subC [1, 0, 1] (bodyOf Tryd.f47)

noncomputable def c47_6400 : Code := subC [1, 1, 1, 0, 1, 0, 0] (bodyOf Tryd.f47)

noncomputable def lp47_6400 {R : Type} (N : Nat) (st : St) (K : Ex → St → Option R) : Option R := evLoop (norm ((V 47).keep 47 (Ev.keyOf c47_6400 * 1000 + 400)) 0) (evCode (V 47) q47 o47 47 0 3993 c47_6400) N st (kOut (V 47) 47 0 (Ev.keyOf c47_6400 * 1000 + 401) K)

theorem ints_Make_l6_L_eq {R : Type} (K : Ex → St → Option R) : ∀ N : Nat, (fun (v0 : Int) (v1 v2 : List Int) (v3 v4 v5 v6 v7 v8 : Int) (v9 : List Int) => lp47_6400 N (St.mk (spread 53 0 [0, 1, 4, 6, 34, 35, 36] [Ai v0, Fu v1, Ap 0 0, Ap 1 0, Fu v2, Ai v3, Ai v4]) [HA [Ai v5, Ai v6, Ai v7, AV.esl], HA [Ai v8, Fu v9]]) K) = ints_Make_l6_L (fun va vb vc vd ve vf vg => K (Ex.exit 0) (St.mk (spread 53 0 [0, 1, 4, 6] [Ai va, Fu vb, Ap 0 0, Ap 1 0]) [HA [Ai vc, Ai vd, Ai ve, AV.esl], HA [Ai vf, Fu vg]])) N
  | 0 => by funext v0 v1 v2 v3 v4 v5 v6 v7 v8 v9; rfl
  | N + 1 => by
    funext v0 v1 v2 v3 v4 v5 v6 v7 v8 v9
    simp only [ints_Make_l6_L]
    rw [← ints_Make_l6_L_eq K N]
    kernel_rfl

theorem p47_4000 : PieceOk (V 47) q47 o47 47 0 (3998, 0, c47_4000) := .s (size := 53) (ss := [0, 1, 4]) (F := @o47_4000_in) (by kernel_rfl) fun R r K vs hh h => by
  unfold o47_4000_in at h; split at h
  · rw [ints_Make_j4_unf] at h; exact Eq.trans (by kernel_rfl) h
  · cases h

theorem p47_3000 : PieceOk (V 47) q47 o47 47 0 (3997, 0, c47_3000) := .s (size := 53) (ss := [0, 1, 4, 28]) (F := @o47_3000_in) (by kernel_rfl) fun R r K vs hh h => by
  unfold o47_3000_in at h; split at h
  · rw [ints_Make_j3_unf] at h; exact Eq.trans (by kernel_rfl) h
  · cases h

theorem p47_6400 : PieceOk (V 47) q47 o47 47 0 (3993, 1, c47_6400) := .l (size := 53) (ss := [0, 1, 4, 6, 34, 35, 36]) (F := @o47_6400_in) (by kernel_rfl) (by kernel_rfl) fun R r K vs hh h => by
  unfold o47_6400_in at h; split at h
  · rw [ints_Make_l6_unf] at h; unfold ints_Make_l6_B at h; rw [← ints_Make_l6_L_eq K NR] at h; exact h
  · cases h

theorem pc47 : ∀ x ∈ [(3998, 0, c47_4000), (3997, 0, c47_3000), (3993, 1, c47_6400)], PieceOk (V 47) q47 o47 47 0 x := List.forall_mem_cons.2 ⟨p47_4000, List.forall_mem_cons.2 ⟨p47_3000, List.forall_mem_cons.2 ⟨p47_6400, fun _ h => nomatch h⟩⟩⟩

theorem ints_Make_eq {R : Type} (K : AV → Option R) (v0 : Int) (v1 : List Int) : evSpec (V 47) S61 T87 o47 10 47 ([Ai v0, Fu v1]) R K = ints_Make_B v0 v1 (fun v2 v3 v4 v5 v6 => K (AV.tup [AV.agg (Blk.any [Ai v2, Ai v3, Ai v4, Fu v5]), Ai v6])) := by kernel_rfl

noncomputable def sp47 : Ev.Spec := fun args _ K => match args with
 | ([Ai v0, Fu v1]) => ints_Make v0 v1 (fun v2 v3 v4 v5 v6 => K (AV.tup [AV.agg (Blk.any [Ai v2, Ai v3, Ai v4, Fu v5]), Ai v6]))
 | _ => none
noncomputable def S47 := addS 47 sp47 S61
theorem D11 : Dom B0 V S47 T87 11 := Dom.s (m := 10) (n := 0) D10 D10 (O := o47) (OrcOk.fn (fn0 := Tryd.f47) (by kernel_rfl) (by kernel_rfl) pc47) fun args R K r h => by
 unfold sp47 at h; split at h
 · rw [ints_Make_unf] at h; exact (ints_Make_eq K _ _).trans h
 · cases h

noncomputable def o58_3000_in {R : Type} (K : Ex → St → Option R) (vs : List AV) (hh : H) : Option R := match vs, hh with
 | [Ai v0, Ai v1, Ap 0 0, Ab v2], [HA [Ai v3, Fu v4]] => bits_Slice_j3 v0 v1 v2 v3 v4 (fun v5 v6 => K (Ex.ret) (St.mk (spread 73 0 [6, 7] [Au v5, Ai v6]) [])) (fun v5 v6 v7 v8 => K (Ex.normal) (St.mk (spread 73 0 [1, 2, 3] [Ai v5, Ai v6, Ap 0 0]) [HA [Ai v7, Fu v8]]))
 | _, _ => none

noncomputable def o58_5000_in {R : Type} (K : Ex → St → Option R) (vs : List AV) (hh : H) : Option R := match vs, hh with
 | [Ai v0, Ai v1, Ap 0 0, Ab v2], [HA [Ai v3, Fu v4]] => bits_Slice_j5 v0 v1 v2 v3 v4 (fun v5 v6 => K (Ex.ret) (St.mk (spread 73 0 [6, 7] [Au v5, Ai v6]) [])) (fun v5 v6 v7 v8 => K (Ex.normal) (St.mk (spread 73 0 [1, 2, 3] [Ai v5, Ai v6, Ap 0 0]) [HA [Ai v7, Fu v8]]))
 | _, _ => none

noncomputable def o58_8000_in {R : Type} (K : Ex → St → Option R) (vs : List AV) (hh : H) : Option R := match vs, hh with
 | [Ai v0, Ai v1, Ap 0 0], [HA [Ai v2, Fu v3]] => bits_Slice_j8 v0 v1 v2 v3 (fun v4 v5 => K (Ex.ret) (St.mk (spread 73 0 [6, 7] [Au v4, Ai v5]) []))
 | _, _ => none

noncomputable def o58_12000_in {R : Type} (K : Ex → St → Option R) (vs : List AV) (hh : H) : Option R := match vs, hh with
 | [Ai v0, Au v1], [] => bits_Slice_j12 v0 v1 (fun v2 v3 => K (Ex.ret) (St.mk (spread 73 0 [6, 7] [Au v2, Ai v3]) []))
 | _, _ => none

noncomputable def o58 : Nat → Option PSpec := lkN [(3000, fun st _ K => pickM 73 [1, 2, 3, 11] st (o58_3000_in K)), (5000, fun st _ K => pickM 73 [1, 2, 3, 23] st (o58_5000_in K)), (8000, fun st _ K => pickM 73 [1, 2, 3] st (o58_8000_in K)), (12000, fun st _ K => pickM 73 [2, 10] st (o58_12000_in K))]
noncomputable def q58 : CallF := evFun (V 58) S47 T87 10

noncomputable def c58_8000 : Code := subC [1, 1] (bodyOf Tryd.f58)

noncomputable def c58_3000 : Code := subC [1, 0, 0, 1] (bodyOf Tryd.f58)

noncomputable def c58_5000 : Code := subC [1, 0, 0, 1, 1, 1] (bodyOf Tryd.f58)

noncomputable def c58_12000 : Code := subC [1, 1, 1, 1, 1] (bodyOf Tryd.f58)

theorem bits_Slice_j8_eq {R : Type} (K : Ex → St → Option R) (v0 v1 v2 : Int) (v3 : List Int) : evCode (V 58) q58 o58 58 0 3998 c58_8000 (St.mk (spread 73 0 [1, 2, 3] [Ai v0, Ai v1, Ap 0 0]) [HA [Ai v2, Fu v3]]) (kOut (V 58) 58 0 (Ev.keyOf c58_8000 * 1000 + 1) K) = bits_Slice_j8_B v0 v1 v2 v3 (fun v4 v5 => K (Ex.ret) (St.mk (spread 73 0 [6, 7] [Au v4, Ai v5]) [])) := by kernel_rfl

theorem p58_8000 : PieceOk (V 58) q58 o58 58 0 (3998, 0, c58_8000) := .s (size := 73) (ss := [1, 2, 3]) (F := @o58_8000_in) (by kernel_rfl) fun R r K vs hh h => by
  unfold o58_8000_in at h; split at h
  · rw [bits_Slice_j8_unf] at h; exact (bits_Slice_j8_eq K _ _ _ _).trans h
  · cases h

theorem p58_3000 : PieceOk (V 58) q58 o58 58 0 (3996, 0, c58_3000) := .s (size := 73) (ss := [1, 2, 3, 11]) (F := @o58_3000_in) (by kernel_rfl) fun R r K vs hh h => by
  unfold o58_3000_in at h; split at h
  · rw [bits_Slice_j3_unf] at h; exact Eq.trans (by kernel_rfl) h
  · cases h

theorem p58_5000 : PieceOk (V 58) q58 o58 58 0 (3994, 0, c58_5000) := .s (size := 73) (ss := [1, 2, 3, 23]) (F := @o58_5000_in) (by kernel_rfl) fun R r K vs hh h => by
  unfold o58_5000_in at h; split at h
  · rw [bits_Slice_j5_unf] at h; exact Eq.trans (by kernel_rfl) h
  · cases h

theorem p58_12000 : PieceOk (V 58) q58 o58 58 0 (3995, 0, c58_12000) := .s (size := 73) (ss := [2, 10]) (F := @o58_12000_in) (by kernel_rfl) fun R r K vs hh h => by
  unfold o58_12000_in at h; split at h
  · rw [bits_Slice_j12_unf] at h; exact Eq.trans (by kernel_rfl) h
  · cases h

theorem pc58 : ∀ x ∈ [(3998, 0, c58_8000), (3996, 0, c58_3000), (3994, 0, c58_5000), (3995, 0, c58_12000)], PieceOk (V 58) q58 o58 58 0 x := List.forall_mem_cons.2 ⟨p58_8000, List.forall_mem_cons.2 ⟨p58_3000, List.forall_mem_cons.2 ⟨p58_5000, List.forall_mem_cons.2 ⟨p58_12000, fun _ h => nomatch h⟩⟩⟩⟩

noncomputable def sp58 : Ev.Spec := fun args _ K => match args with
 | ([AV.agg (Blk.any [Ai v0, Fu v1]), Ai v2, Ai v3]) => bits_Slice v0 v1 v2 v3 (fun v4 v5 => K (AV.tup [Au v4, Ai v5]))
 | _ => none
noncomputable def S58 := addS 58 sp58 S47
theorem D12 : Dom B0 V S58 T87 12 := Dom.s (m := 11) (n := 0) D11 D11 (O := o58) (OrcOk.fn (fn0 := Tryd.f58) (by kernel_rfl) (by kernel_rfl) pc58) fun args R K r h => by
 unfold sp58 at h; split at h
 · rw [bits_Slice_unf] at h; exact Eq.trans (by kernel_rfl) h
 · cases h

noncomputable def sp60 : Ev.Spec := fun args _ K => match args with
 | [] => rrr_none (fun v0 v1 => K (AV.agg (Blk.any [Ai v0, Au v1])))
 | _ => none
noncomputable def S60 := addS 60 sp60 S58
theorem D13 : Dom B0 V S60 T87 13 := Dom.s (m := 12) (n := 0) D12 D12 (O := (fun _ => none)) (fun _ _ _ _ => OrcOk.none _ _) fun args R K r h => by
 unfold sp60 at h; split at h
 · rw [rrr_none_unf] at h; exact Eq.trans (by kernel_rfl) h
 · cases h

theorem math_bits_OnesCount64_eq {R : Type} (K : AV → Option R) (v0 : Int) : evSpec (V 94) S60 T87 (fun _ => none) 10 94 ([Au v0]) R K = math_bits_OnesCount64_B v0 (fun v1 => K (Ai v1)) := by kernel_rfl

noncomputable def sp94 : Ev.Spec := fun args _ K => match args with
 | ([Au v0]) => math_bits_OnesCount64 v0 (fun v1 => K (Ai v1))
 | _ => none
noncomputable def S94 := addS 94 sp94 S60
theorem D14 : Dom B0 V S94 T87 14 := Dom.s (m := 13) (n := 0) D13 D13 (O := (fun _ => none)) (fun _ _ _ _ => OrcOk.none _ _) fun args R K r h => by
 unfold sp94 at h; split at h
 · rw [math_bits_OnesCount64_unf] at h; exact (math_bits_OnesCount64_eq K _).trans h
 · cases h

noncomputable def sp69 : Ev.Spec := fun args _ K => match args with
 | ([Au v0]) => word_Pop v0 (fun v1 => K (Ai v1))
 | _ => none
noncomputable def S69 := addS 69 sp69 S94
theorem D15 : Dom B0 V S69 T87 15 := Dom.s (m := 14) (n := 0) D14 D14 (O := (fun _ => none)) (fun _ _ _ _ => OrcOk.none _ _) fun args R K r h => by
 unfold sp69 at h; split at h
 · rw [word_Pop_unf] at h; exact Eq.trans (by kernel_rfl) h
 · cases h

noncomputable def o105r1_2400_in {R : Type} (K : Ex → St → Option R) (vs : List AV) (hh : H) : Option R := match vs, hh with
 | [Ap 0 0, Ai v0], [HU v1] => binom_row_next_l2 v0 v1 (fun v2 => K (Ex.exit 0) (St.mk (spread 25 0 [] []) [HU v2]))
 | _, _ => none

noncomputable def o105r1 : Nat → Option PSpec := lkN [(2400, fun st _ K => pickM 25 [0, 4] st (o105r1_2400_in K))]
noncomputable def q105r1 : CallF := evFun (V 105) S69 T87 10

noncomputable def c105r1_2400 : Code := subC [1, 0, 0] (bodyOf Tryd.f105)

noncomputable def lp105r1_2400 {R : Type} (N : Nat) (st : St) (K : Ex → St → Option R) : Option R := evLoop (norm ((V 105).keep 105 (Ev.keyOf c105r1_2400 * 1000 + 400)) 1) (evCode (V 105) q105r1 o105r1 105 1 3997 c105r1_2400) N st (kOut (V 105) 105 1 (Ev.keyOf c105r1_2400 * 1000 + 401) K)

theorem binom_row_next_l2_L_eq {R : Type} (K : Ex → St → Option R) : ∀ N : Nat, (fun (v0 : Int) (v1 : List Int) => lp105r1_2400 N (St.mk (spread 25 0 [0, 4] [Ap 0 0, Ai v0]) [HU v1]) K) = binom_row_next_l2_L (fun v2 => K (Ex.exit 0) (St.mk (spread 25 0 [] []) [HU v2])) N
  | 0 => by funext v0 v1; rfl
  | N + 1 => by
    funext v0 v1
    simp only [binom_row_next_l2_L]
    rw [← binom_row_next_l2_L_eq K N]
    kernel_rfl

theorem p105r1_2400 : PieceOk (V 105) q105r1 o105r1 105 1 (3997, 1, c105r1_2400) := .l (size := 25) (ss := [0, 4]) (F := @o105r1_2400_in) (by kernel_rfl) (by kernel_rfl) fun R r K vs hh h => by
  unfold o105r1_2400_in at h; split at h
  · rw [binom_row_next_l2_unf] at h; unfold binom_row_next_l2_B at h; rw [← binom_row_next_l2_L_eq K NR] at h; exact h
  · cases h

theorem pc105r1 : ∀ x ∈ [(3997, 1, c105r1_2400)], PieceOk (V 105) q105r1 o105r1 105 1 x := List.forall_mem_cons.2 ⟨p105r1_2400, fun _ h => nomatch h⟩

noncomputable def hs105 : HSpec := fun args h _ K => match args, h with
 | [Ap 0 0, Ai v0], [HU v1] => binom_row_next_r v0 v1 (fun v2 => K (AV.tup []) ([HU v2]))
 | _, _ => none
noncomputable def T105 := addT 105 hs105 T87
theorem D16 : Dom B0 V S69 T105 16 := Dom.t D15 fun args hh R K r h => by
 unfold hs105 at h; split at h
 · rw [binom_row_next_r_unf] at h; exact ⟨o105r1, (OrcOk.fn (fn0 := Tryd.f105) (by kernel_rfl) (by kernel_rfl) pc105r1), Eq.trans (by kernel_rfl) h⟩
 · cases h

noncomputable def o104_5400_in {R : Type} (K : Ex → St → Option R) (vs : List AV) (hh : H) : Option R := match vs, hh with
 | [Ap 0 0, AV.sl 1 0 v0 1, Ai v1, Ai v2], [HU v3, HB.live (Blk.cols [Col.fints .u64 v4] [])] => binom_rows_l5 v0 v1 v2 v3 v4 (fun v5 v6 => K (Ex.exit 0) (St.mk (spread 25 0 [4] [AV.sl 0 0 v5 1]) [HB.live (Blk.cols [Col.fints .u64 v6] [])]))
 | _, _ => none

noncomputable def o104 : Nat → Option PSpec := lkN [(5400, fun st _ K => pickM 25 [3, 4, 9, 10] st (o104_5400_in K))]
noncomputable def q104 : CallF := evFun (V 104) S69 T105 10

noncomputable def c104_5400 : Code := subC [1, 1, 1, 0, 1, 0, 0] (bodyOf Tryd.f104)

noncomputable def lp104_5400 {R : Type} (N : Nat) (st : St) (K : Ex → St → Option R) : Option R := evLoop (norm ((V 104).keep 104 (Ev.keyOf c104_5400 * 1000 + 400)) 0) (evCode (V 104) q104 o104 104 0 3993 c104_5400) N st (kOut (V 104) 104 0 (Ev.keyOf c104_5400 * 1000 + 401) K)

theorem binom_rows_l5_L_eq {R : Type} (K : Ex → St → Option R) : ∀ N : Nat, (fun (v0 : Nat) (v1 v2 : Int) (v3 : List Int) (v4 : List (List Int)) => lp104_5400 N (St.mk (spread 25 0 [3, 4, 9, 10] [Ap 0 0, AV.sl 1 0 v0 1, Ai v1, Ai v2]) [HU v3, HB.live (Blk.cols [Col.fints .u64 v4] [])]) K) = binom_rows_l5_L (fun v5 v6 => K (Ex.exit 0) (St.mk (spread 25 0 [4] [AV.sl 0 0 v5 1]) [HB.live (Blk.cols [Col.fints .u64 v6] [])])) N
  | 0 => by funext v0 v1 v2 v3 v4; rfl
  | N + 1 => by
    funext v0 v1 v2 v3 v4
    simp only [binom_rows_l5_L]
    rw [← binom_rows_l5_L_eq K N]
    kernel_rfl

theorem p104_5400 : PieceOk (V 104) q104 o104 104 0 (3993, 1, c104_5400) := .l (size := 25) (ss := [3, 4, 9, 10]) (F := @o104_5400_in) (by kernel_rfl) (by kernel_rfl) fun R r K vs hh h => by
  unfold o104_5400_in at h; split at h
  · rw [binom_rows_l5_unf] at h; unfold binom_rows_l5_B at h; rw [← binom_rows_l5_L_eq K NR] at h; exact h
  · cases h

theorem pc104 : ∀ x ∈ [(3993, 1, c104_5400)], PieceOk (V 104) q104 o104 104 0 x := List.forall_mem_cons.2 ⟨p104_5400, fun _ h => nomatch h⟩

noncomputable def sp104 : Ev.Spec := fun args _ K => match args with
 | ([Ai v0]) => binom_rows v0 (fun v1 => K (AV.fsl (Blk.cols [Col.fints .u64 v1] [])))
 | _ => none
noncomputable def S104 := addS 104 sp104 S69
theorem D17 : Dom B0 V S104 T105 17 := Dom.s (m := 16) (n := 0) D16 D16 (O := o104) (OrcOk.fn (fn0 := Tryd.f104) (by kernel_rfl) (by kernel_rfl) pc104) fun args R K r h => by
 unfold sp104 at h; split at h
 · rw [binom_rows_unf] at h; exact Eq.trans (by kernel_rfl) h
 · cases h

noncomputable def o85_4000_in {R : Type} (K : Ex → St → Option R) (vs : List AV) (hh : H) : Option R := match vs, hh with
 | [Au v0, Ai v1], [] => binom_Offset_j4 v0 v1 (fun v2 v3 => K (Ex.ret) (St.mk (spread 51 0 [4, 5] [Ai v2, Au v3]) []))
 | _, _ => none

noncomputable def o85_9400_in {R : Type} (K : Ex → St → Option R) (vs : List AV) (hh : H) : Option R := match vs, hh with
 | [Au v0, Ai v1, AV.fsl (Blk.cols [Col.fints .u64 v2] []), Au v3, Ai v4], [] => binom_Offset_l9 v0 v1 v2 v3 v4 (fun v5 v6 => K (Ex.exit 0) (St.mk (spread 51 0 [6, 8] [Ai v5, Au v6]) []))
 | _, _ => none

noncomputable def o85_14000_in {R : Type} (K : Ex → St → Option R) (vs : List AV) (hh : H) : Option R := match vs, hh with
 | [Au v0, Ai v1, AV.fsl (Blk.cols [Col.fints .u64 v2] []), Au v3, Ai v4, Ai v5], [] => binom_Offset_j14 v0 v1 v2 v3 v4 v5 (fun v6 v7 v8 v9 va => K (Ex.normal) (St.mk (spread 51 0 [0, 6, 7, 8, 9] [Au v6, Ai v7, AV.fsl (Blk.cols [Col.fints .u64 v8] []), Au v9, Ai va]) []))
 | _, _ => none

noncomputable def o85 : Nat → Option PSpec := lkN [(4000, fun st _ K => pickM 51 [0, 1] st (o85_4000_in K)), (9400, fun st _ K => pickM 51 [0, 6, 7, 8, 9] st (o85_9400_in K)), (14000, fun st _ K => pickM 51 [0, 6, 7, 8, 9, 10] st (o85_14000_in K))]
noncomputable def q85 : CallF := evFun (V 85) S104 T105 10

noncomputable def c85_4000 : Code := subC [1, 1] (bodyOf Tryd.f85)

noncomputable def c85_9400 : Code := subC [1, 1, 1, 1, 1, 1, 0, 1, 0, 0] (bodyOf Tryd.f85)

noncomputable def lp85_9400 {R : Type} (N : Nat) (st : St) (K : Ex → St → Option R) : Option R := evLoop (norm ((V 85).keep 85 (Ev.keyOf c85_9400 * 1000 + 400)) 0) (evCode (V 85) q85 o85 85 0 3990 c85_9400) N st (kOut (V 85) 85 0 (Ev.keyOf c85_9400 * 1000 + 401) K)

noncomputable def c85_14000 : Code := subC [1, 1, 1, 1, 1, 1, 0, 1, 0, 0, 1, 0, 0, 1, 1] (bodyOf Tryd.f85)

theorem binom_Offset_l9_L_eq {R : Type} (K : Ex → St → Option R) : ∀ N : Nat, (fun (v0 v1 : Int) (v2 : List (List Int)) (v3 v4 : Int) => lp85_9400 N (St.mk (spread 51 0 [0, 6, 7, 8, 9] [Au v0, Ai v1, AV.fsl (Blk.cols [Col.fints .u64 v2] []), Au v3, Ai v4]) []) K) = binom_Offset_l9_L (fun v5 v6 => K (Ex.exit 0) (St.mk (spread 51 0 [6, 8] [Ai v5, Au v6]) [])) N
  | 0 => by funext v0 v1 v2 v3 v4; rfl
  | N + 1 => by
    funext v0 v1 v2 v3 v4
    simp only [binom_Offset_l9_L]
    rw [← binom_Offset_l9_L_eq K N]
    kernel_rfl

theorem p85_4000 : PieceOk (V 85) q85 o85 85 0 (3998, 0, c85_4000) := .s (size := 51) (ss := [0, 1]) (F := @o85_4000_in) (by kernel_rfl) fun R r K vs hh h => by
  unfold o85_4000_in at h; split at h
  · rw [binom_Offset_j4_unf] at h; exact Eq.trans (by kernel_rfl) h
  · cases h

theorem p85_9400 : PieceOk (V 85) q85 o85 85 0 (3990, 1, c85_9400) := .l (size := 51) (ss := [0, 6, 7, 8, 9]) (F := @o85_9400_in) (by kernel_rfl) (by kernel_rfl) fun R r K vs hh h => by
  unfold o85_9400_in at h; split at h
  · rw [binom_Offset_l9_unf] at h; unfold binom_Offset_l9_B at h; rw [← binom_Offset_l9_L_eq K NR] at h; exact h
  · cases h

theorem p85_14000 : PieceOk (V 85) q85 o85 85 0 (3985, 0, c85_14000) := .s (size := 51) (ss := [0, 6, 7, 8, 9, 10]) (F := @o85_14000_in) (by kernel_rfl) fun R r K vs hh h => by
  unfold o85_14000_in at h; split at h
  · rw [binom_Offset_j14_unf] at h; exact Eq.trans (by kernel_rfl) h
  · cases h

theorem pc85 : ∀ x ∈ [(3998, 0, c85_4000), (3990, 1, c85_9400), (3985, 0, c85_14000)], PieceOk (V 85) q85 o85 85 0 x := List.forall_mem_cons.2 ⟨p85_4000, List.forall_mem_cons.2 ⟨p85_9400, List.forall_mem_cons.2 ⟨p85_14000, fun _ h => nomatch h⟩⟩⟩

noncomputable def sp85 : Ev.Spec := fun args _ K => match args with
 | ([Au v0, Ai v1]) => binom_Offset v0 v1 (fun v2 v3 => K (AV.tup [Ai v2, Au v3]))
 | _ => none
noncomputable def S85 := addS 85 sp85 S104
theorem D18 : Dom B0 V S85 T105 18 := Dom.s (m := 17) (n := 0) D17 D17 (O := o85) (OrcOk.fn (fn0 := Tryd.f85) (by kernel_rfl) (by kernel_rfl) pc85) fun args R K r h => by
 unfold sp85 at h; split at h
 · rw [binom_Offset_unf] at h; exact Eq.trans (by kernel_rfl) h
 · cases h

noncomputable def sp59 : Ev.Spec := fun args _ K => match args with
 | ([Au v0]) => rrr_blockOf v0 (fun v1 v2 => K (AV.agg (Blk.any [Ai v1, Au v2])))
 | _ => none
noncomputable def S59 := addS 59 sp59 S85
theorem D19 : Dom B0 V S59 T105 19 := Dom.s (m := 18) (n := 0) D18 D18 (O := (fun _ => none)) (fun _ _ _ _ => OrcOk.none _ _) fun args R K r h => by
 unfold sp59 at h; split at h
 · rw [rrr_blockOf_unf] at h; exact Eq.trans (by kernel_rfl) h
 · cases h

noncomputable def o88_4000_in {R : Type} (K : Ex → St → Option R) (vs : List AV) (hh : H) : Option R := match vs, hh with
 | [Ai v0, Ai v1], [] => binom_Choose_j4 v0 v1 (fun v2 => K (Ex.ret) (St.mk (spread 33 0 [4] [Au v2]) []))
 | _, _ => none

noncomputable def o88_6400_in {R : Type} (K : Ex → St → Option R) (vs : List AV) (hh : H) : Option R := match vs, hh with
 | [Ai v0, Ap 0 0, Ai v1, Ai v2], [HU v3] => binom_Choose_l6 v0 v1 v2 v3 (fun v4 v5 => K (Ex.exit 0) (St.mk (spread 33 0 [1, 5] [Ai v4, Ap 0 0]) [HU v5]))
 | _, _ => none

noncomputable def o88 : Nat → Option PSpec := lkN [(4000, fun st _ K => pickM 33 [0, 1] st (o88_4000_in K)), (6400, fun st _ K => pickM 33 [1, 5, 23, 24] st (o88_6400_in K))]
noncomputable def q88 : CallF := evFun (V 88) S59 T105 10

noncomputable def c88_4000 : Code := subC [1, 1] (bodyOf Tryd.f88)

noncomputable def c88_6400 : Code := subC [1, 1, 1, 0, 1, 0, 0] (bodyOf Tryd.f88)

noncomputable def lp88_6400 {R : Type} (N : Nat) (st : St) (K : Ex → St → Option R) : Option R := evLoop (norm ((V 88).keep 88 (Ev.keyOf c88_6400 * 1000 + 400)) 0) (evCode (V 88) q88 o88 88 0 3993 c88_6400) N st (kOut (V 88) 88 0 (Ev.keyOf c88_6400 * 1000 + 401) K)

theorem binom_Choose_l6_L_eq {R : Type} (K : Ex → St → Option R) : ∀ N : Nat, (fun (v0 v1 v2 : Int) (v3 : List Int) => lp88_6400 N (St.mk (spread 33 0 [1, 5, 23, 24] [Ai v0, Ap 0 0, Ai v1, Ai v2]) [HU v3]) K) = binom_Choose_l6_L (fun v4 v5 => K (Ex.exit 0) (St.mk (spread 33 0 [1, 5] [Ai v4, Ap 0 0]) [HU v5])) N
  | 0 => by funext v0 v1 v2 v3; rfl
  | N + 1 => by
    funext v0 v1 v2 v3
    simp only [binom_Choose_l6_L]
    rw [← binom_Choose_l6_L_eq K N]
    kernel_rfl

theorem p88_4000 : PieceOk (V 88) q88 o88 88 0 (3998, 0, c88_4000) := .s (size := 33) (ss := [0, 1]) (F := @o88_4000_in) (by kernel_rfl) fun R r K vs hh h => by
  unfold o88_4000_in at h; split at h
  · rw [binom_Choose_j4_unf] at h; exact Eq.trans (by kernel_rfl) h
  · cases h

theorem p88_6400 : PieceOk (V 88) q88 o88 88 0 (3993, 1, c88_6400) := .l (size := 33) (ss := [1, 5, 23, 24]) (F := @o88_6400_in) (by kernel_rfl) (by kernel_rfl) fun R r K vs hh h => by
  unfold o88_6400_in at h; split at h
  · rw [binom_Choose_l6_unf] at h; unfold binom_Choose_l6_B at h; rw [← binom_Choose_l6_L_eq K NR] at h; exact h
  · cases h

theorem pc88 : ∀ x ∈ [(3998, 0, c88_4000), (3993, 1, c88_6400)], PieceOk (V 88) q88 o88 88 0 x := List.forall_mem_cons.2 ⟨p88_4000, List.forall_mem_cons.2 ⟨p88_6400, fun _ h => nomatch h⟩⟩

noncomputable def sp88 : Ev.Spec := fun args _ K => match args with
 | ([Ai v0, Ai v1]) => binom_Choose v0 v1 (fun v2 => K (Au v2))
 | _ => none
noncomputable def S88 := addS 88 sp88 S59
theorem D20 : Dom B0 V S88 T105 20 := Dom.s (m := 19) (n := 0) D19 D19 (O := o88) (OrcOk.fn (fn0 := Tryd.f88) (by kernel_rfl) (by kernel_rfl) pc88) fun args R K r h => by
 unfold sp88 at h; split at h
 · rw [binom_Choose_unf] at h; exact Eq.trans (by kernel_rfl) h
 · cases h

noncomputable def sp62 : Ev.Spec := fun args _ K => match args with
 | ([Ai v0, Ai v1]) => binom_Width v0 v1 (fun v2 => K (Ai v2))
 | _ => none
noncomputable def S62 := addS 62 sp62 S88
theorem D21 : Dom B0 V S62 T105 21 := Dom.s (m := 20) (n := 0) D20 D20 (O := (fun _ => none)) (fun _ _ _ _ => OrcOk.none _ _) fun args R K r h => by
 unfold sp62 at h; split at h
 · rw [binom_Width_unf] at h; exact Eq.trans (by kernel_rfl) h
 · cases h

noncomputable def o32_5000_in {R : Type} (K : Ex → St → Option R) (vs : List AV) (hh : H) : Option R := match vs, hh with
 | [Ap 0 0, Ap 1 0, Ap 2 0], [HA [Ai v0, Fu v1], HA [Ai v2, Ai v3, Ai v4, Ai v5, AV.esl, Ai v6, AV.esl, AV.esl, AV.esl], HA [Ai v7, Ai v8, Ai v9, Ai va, AV.esl, Ai vb, AV.esl, AV.esl, AV.esl]] => rrr_Build_j5 v0 v1 v2 v3 v4 v5 v6 v7 v8 v9 va vb (fun vc vd ve vf vg vh vi vj vk vl vm vn => K (Ex.ret) (St.mk (spread 94 0 [2, 3] [Ap 0 0, Ai vc]) [HA [Ai vd, Ai ve, Ai vf, Ai vg, Fu vh, Ai vi, Fu vj, AV.sl 1 0 vk 1, AV.sl 2 0 vl 1], HB.live (Blk.ints .i64 vm), HB.live (Blk.ints .i64 vn)]))
 | _, _ => none

noncomputable def o32_8400_in {R : Type} (K : Ex → St → Option R) (vs : List AV) (hh : H) : Option R := match vs, hh with
 | [Ap 0 0, Ap 1 0, Ap 2 0, AV.sl 5 0 v0 1, Ai v1, Ai v2], [HA [Ai v3, Fu v4], HA [Ai v5, Ai v6, Ai v7, Ai v8, AV.esl, Ai v9, AV.esl, AV.esl, AV.esl], HA [Ai va, Ai vb, Ai vc, Ai vd, AV.esl, Ai ve, Fu vf, AV.sl 3 0 vg 1, AV.sl 4 0 vh 1], HB.live (Blk.ints .i64 vi), HB.live (Blk.ints .i64 vj), HU vk] => rrr_Build_l8 v0 v1 v2 v3 v4 v5 v6 v7 v8 v9 va vb vc vd ve vf vg vh vi vj vk (fun vl vm vn vo vp vq vr vs vt vu vv vw vx vy vz v10 v11 => K (Ex.exit 0) (St.mk (spread 94 0 [2, 4, 5] [Ap 0 0, Ap 1 0, AV.sl 4 0 vl 1]) [HA [Ai vm, Ai vn, Ai vo, Ai vp, AV.esl, Ai vq, AV.esl, AV.esl, AV.esl], HA [Ai vr, Ai vs, Ai vt, Ai vu, AV.esl, Ai vv, Fu vw, AV.sl 2 0 vx 1, AV.sl 3 0 vy 1], HB.live (Blk.ints .i64 vz), HB.live (Blk.ints .i64 v10), HU v11]))
 | _, _ => none

noncomputable def o32_10000_in {R : Type} (K : Ex → St → Option R) (vs : List AV) (hh : H) : Option R := match vs, hh with
 | [Ap 0 0, Ap 1 0, Ap 2 0, AV.sl 5 0 v0 1, Ai v1, Ai v2], [HA [Ai v3, Fu v4], HA [Ai v5, Ai v6, Ai v7, Ai v8, AV.esl, Ai v9, AV.esl, AV.esl, AV.esl], HA [Ai va, Ai vb, Ai vc, Ai vd, AV.esl, Ai ve, Fu vf, AV.sl 3 0 vg 1, AV.sl 4 0 vh 1], HB.live (Blk.ints .i64 vi), HB.live (Blk.ints .i64 vj), HU vk] => rrr_Build_j10 v0 v1 v2 v3 v4 v5 v6 v7 v8 v9 va vb vc vd ve vf vg vh vi vj vk (fun vl vm vn vo vp vq vr vs vt vu vv vw vx vy vz v10 v11 => K (Ex.exit 0) (St.mk (spread 94 0 [2, 4, 5] [Ap 0 0, Ap 1 0, AV.sl 4 0 vl 1]) [HA [Ai vm, Ai vn, Ai vo, Ai vp, AV.esl, Ai vq, AV.esl, AV.esl, AV.esl], HA [Ai vr, Ai vs, Ai vt, Ai vu, AV.esl, Ai vv, Fu vw, AV.sl 2 0 vx 1, AV.sl 3 0 vy 1], HB.live (Blk.ints .i64 vz), HB.live (Blk.ints .i64 v10), HU v11])) (fun vl vm vn vo vp vq vr vs vt vu vv vw vx vy vz v10 v11 v12 v13 v14 v15 => K (Ex.normal) (St.mk (spread 94 0 [1, 2, 4, 5, 6, 7] [Ap 0 0, Ap 1 0, Ap 2 0, AV.sl 5 0 vl 1, Ai vm, Ai vn]) [HA [Ai vo, Fu vp], HA [Ai vq, Ai vr, Ai vs, Ai vt, AV.esl, Ai vu, AV.esl, AV.esl, AV.esl], HA [Ai vv, Ai vw, Ai vx, Ai vy, AV.esl, Ai vz, Fu v10, AV.sl 3 0 v11 1, AV.sl 4 0 v12 1], HB.live (Blk.ints .i64 v13), HB.live (Blk.ints .i64 v14), HU v15]))
 | _, _ => none

noncomputable def o32_12000_in {R : Type} (K : Ex → St → Option R) (vs : List AV) (hh : H) : Option R := match vs, hh with
 | [Ap 0 0, Ap 1 0, Ap 2 0, AV.sl 5 0 v0 1, Ai v1, Ai v2], [HA [Ai v3, Fu v4], HA [Ai v5, Ai v6, Ai v7, Ai v8, AV.esl, Ai v9, AV.esl, AV.esl, AV.esl], HA [Ai va, Ai vb, Ai vc, Ai vd, AV.esl, Ai ve, Fu vf, AV.sl 3 0 vg 1, AV.sl 4 0 vh 1], HB.live (Blk.ints .i64 vi), HB.live (Blk.ints .i64 vj), HU vk] => rrr_Build_j12 v0 v1 v2 v3 v4 v5 v6 v7 v8 v9 va vb vc vd ve vf vg vh vi vj vk (fun vl vm vn vo vp vq vr vs vt vu vv vw vx vy vz v10 v11 => K (Ex.exit 0) (St.mk (spread 94 0 [2, 4, 5] [Ap 0 0, Ap 1 0, AV.sl 4 0 vl 1]) [HA [Ai vm, Ai vn, Ai vo, Ai vp, AV.esl, Ai vq, AV.esl, AV.esl, AV.esl], HA [Ai vr, Ai vs, Ai vt, Ai vu, AV.esl, Ai vv, Fu vw, AV.sl 2 0 vx 1, AV.sl 3 0 vy 1], HB.live (Blk.ints .i64 vz), HB.live (Blk.ints .i64 v10), HU v11])) (fun vl vm vn vo vp vq vr vs vt vu vv vw vx vy vz v10 v11 v12 v13 v14 v15 => K (Ex.normal) (St.mk (spread 94 0 [1, 2, 4, 5, 6, 7] [Ap 0 0, Ap 1 0, Ap 2 0, AV.sl 5 0 vl 1, Ai vm, Ai vn]) [HA [Ai vo, Fu vp], HA [Ai vq, Ai vr, Ai vs, Ai vt, AV.esl, Ai vu, AV.esl, AV.esl, AV.esl], HA [Ai vv, Ai vw, Ai vx, Ai vy, AV.esl, Ai vz, Fu v10, AV.sl 3 0 v11 1, AV.sl 4 0 v12 1], HB.live (Blk.ints .i64 v13), HB.live (Blk.ints .i64 v14), HU v15]))
 | _, _ => none

noncomputable def o32_18000_in {R : Type} (K : Ex → St → Option R) (vs : List AV) (hh : H) : Option R := match vs, hh with
 | [Ap 0 0, Ap 1 0, Ap 2 0, AV.sl 5 0 v0 1, Ai v1, Ai v2, Ap 6 0], [HA [Ai v3, Fu v4], HA [Ai v5, Ai v6, Ai v7, Ai v8, AV.esl, Ai v9, AV.esl, AV.esl, AV.esl], HA [Ai va, Ai vb, Ai vc, Ai vd, AV.esl, Ai ve, Fu vf, AV.sl 3 0 vg 1, AV.sl 4 0 vh 1], HB.live (Blk.ints .i64 vi), HB.live (Blk.ints .i64 vj), HU vk, HA [Ai vl, Au vm]] => rrr_Build_j18 v0 v1 v2 v3 v4 v5 v6 v7 v8 v9 va vb vc vd ve vf vg vh vi vj vk vl vm (fun vn vo vp vq vr vs vt vu vv vw vx vy vz v10 v11 v12 v13 v14 v15 v16 v17 => K (Ex.normal) (St.mk (spread 94 0 [1, 2, 4, 5, 6, 7] [Ap 0 0, Ap 1 0, Ap 2 0, AV.sl 5 0 vn 1, Ai vo, Ai vp]) [HA [Ai vq, Fu vr], HA [Ai vs, Ai vt, Ai vu, Ai vv, AV.esl, Ai vw, AV.esl, AV.esl, AV.esl], HA [Ai vx, Ai vy, Ai vz, Ai v10, AV.esl, Ai v11, Fu v12, AV.sl 3 0 v13 1, AV.sl 4 0 v14 1], HB.live (Blk.ints .i64 v15), HB.live (Blk.ints .i64 v16), HU v17]))
 | _, _ => none

noncomputable def o32 : Nat → Option PSpec := lkN [(5000, fun st _ K => pickM 94 [1, 2, 4] st (o32_5000_in K)), (8400, fun st _ K => pickM 94 [1, 2, 4, 5, 6, 7] st (o32_8400_in K)), (10000, fun st _ K => pickM 94 [1, 2, 4, 5, 6, 7] st (o32_10000_in K)), (12000, fun st _ K => pickM 94 [1, 2, 4, 5, 6, 7] st (o32_12000_in K)), (18000, fun st _ K => pickM 94 [1, 2, 4, 5, 6, 7, 10] st (o32_18000_in K))]
noncomputable def q32 : CallF := evFun (V 32) S62 T105 10

noncomputable def c32_5000 : Code := subC [1, 1, 1] (bodyOf Tryd.f32)

noncomputable def c32_8400 : Code := subC [1, 1, 1, 1, 1, 0, 1, 0, 0] (bodyOf Tryd.f32)

noncomputable def lp32_8400 {R : Type} (N : Nat) (st : St) (K : Ex → St → Option R) : Option R := evLoop (norm ((V 32).keep 32 (Ev.keyOf c32_8400 * 1000 + 400)) 0) (evCode (V 32) q32 o32 32 0 3991 c32_8400) N st (kOut (V 32) 32 0 (Ev.keyOf c32_8400 * 1000 + 401) K)

noncomputable def c32_10000 : Code := subC [1, 1, 1, 1, 1, 0, 1, 0, 0, 1] (bodyOf Tryd.f32)

noncomputable def c32_12000 : Code := subC [1, 1, 1, 1, 1, 0, 1, 0, 0, 1, 0, 0, 1] (bodyOf Tryd.f32)

noncomputable def c32_18000 : Code := subC [1, 1, 1, 1, 1, 0, 1, 0, 0, 1, 0, 0, 1, 1, 1, 1, 1, 1] (bodyOf Tryd.f32)

theorem rrr_Build_l8_L_eq {R : Type} (K : Ex → St → Option R) : ∀ N : Nat, (fun (v0 : Nat) (v1 v2 v3 : Int) (v4 : List Int) (v5 v6 v7 v8 v9 va vb vc vd ve : Int) (vf : List Int) (vg vh : Nat) (vi vj vk : List Int) => lp32_8400 N (St.mk (spread 94 0 [1, 2, 4, 5, 6, 7] [Ap 0 0, Ap 1 0, Ap 2 0, AV.sl 5 0 v0 1, Ai v1, Ai v2]) [HA [Ai v3, Fu v4], HA [Ai v5, Ai v6, Ai v7, Ai v8, AV.esl, Ai v9, AV.esl, AV.esl, AV.esl], HA [Ai va, Ai vb, Ai vc, Ai vd, AV.esl, Ai ve, Fu vf, AV.sl 3 0 vg 1, AV.sl 4 0 vh 1], HB.live (Blk.ints .i64 vi), HB.live (Blk.ints .i64 vj), HU vk]) K) = rrr_Build_l8_L (fun vl vm vn vo vp vq vr vs vt vu vv vw vx vy vz v10 v11 => K (Ex.exit 0) (St.mk (spread 94 0 [2, 4, 5] [Ap 0 0, Ap 1 0, AV.sl 4 0 vl 1]) [HA [Ai vm, Ai vn, Ai vo, Ai vp, AV.esl, Ai vq, AV.esl, AV.esl, AV.esl], HA [Ai vr, Ai vs, Ai vt, Ai vu, AV.esl, Ai vv, Fu vw, AV.sl 2 0 vx 1, AV.sl 3 0 vy 1], HB.live (Blk.ints .i64 vz), HB.live (Blk.ints .i64 v10), HU v11])) N
  | 0 => by funext v0 v1 v2 v3 v4 v5 v6 v7 v8 v9 va vb vc vd ve vf vg vh vi vj vk; rfl
  | N + 1 => by
    funext v0 v1 v2 v3 v4 v5 v6 v7 v8 v9 va vb vc vd ve vf vg vh vi vj vk
    simp only [rrr_Build_l8_L]
    rw [← rrr_Build_l8_L_eq K N]
    kernel_rfl

theorem rrr_Build_j12_eq {R : Type} (K : Ex → St → Option R) (v0 : Nat) (v1 v2 v3 : Int) (v4 : List Int) (v5 v6 v7 v8 v9 va vb vc vd ve : Int) (vf : List Int) (vg vh : Nat) (vi vj vk : List Int) : evCode (V 32) q32 o32 32 0 3987 c32_12000 (St.mk (spread 94 0 [1, 2, 4, 5, 6, 7] [Ap 0 0, Ap 1 0, Ap 2 0, AV.sl 5 0 v0 1, Ai v1, Ai v2]) [HA [Ai v3, Fu v4], HA [Ai v5, Ai v6, Ai v7, Ai v8, AV.esl, Ai v9, AV.esl, AV.esl, AV.esl], HA [Ai va, Ai vb, Ai vc, Ai vd, AV.esl, Ai ve, Fu vf, AV.sl 3 0 vg 1, AV.sl 4 0 vh 1], HB.live (Blk.ints .i64 vi), HB.live (Blk.ints .i64 vj), HU vk]) (kOut (V 32) 32 0 (Ev.keyOf c32_12000 * 1000 + 1) K) = rrr_Build_j12_B v0 v1 v2 v3 v4 v5 v6 v7 v8 v9 va vb vc vd ve vf vg vh vi vj vk (fun vl vm vn vo vp vq vr vs vt vu vv vw vx vy vz v10 v11 => K (Ex.exit 0) (St.mk (spread 94 0 [2, 4, 5] [Ap 0 0, Ap 1 0, AV.sl 4 0 vl 1]) [HA [Ai vm, Ai vn, Ai vo, Ai vp, AV.esl, Ai vq, AV.esl, AV.esl, AV.esl], HA [Ai vr, Ai vs, Ai vt, Ai vu, AV.esl, Ai vv, Fu vw, AV.sl 2 0 vx 1, AV.sl 3 0 vy 1], HB.live (Blk.ints .i64 vz), HB.live (Blk.ints .i64 v10), HU v11])) (fun vl vm vn vo vp vq vr vs vt vu vv vw vx vy vz v10 v11 v12 v13 v14 v15 => K (Ex.normal) (St.mk (spread 94 0 [1, 2, 4, 5, 6, 7] [Ap 0 0, Ap 1 0, Ap 2 0, AV.sl 5 0 vl 1, Ai vm, Ai vn]) [HA [Ai vo, Fu vp], HA [Ai vq, Ai vr, Ai vs, Ai vt, AV.esl, Ai vu, AV.esl, AV.esl, AV.esl], HA [Ai vv, Ai vw, Ai vx, Ai vy, AV.esl, Ai vz, Fu v10, AV.sl 3 0 v11 1, AV.sl 4 0 v12 1], HB.live (Blk.ints .i64 v13), HB.live (Blk.ints .i64 v14), HU v15])) := by kernel_rfl

theorem rrr_Build_j10_eq {R : Type} (K : Ex → St → Option R) (v0 : Nat) (v1 v2 v3 : Int) (v4 : List Int) (v5 v6 v7 v8 v9 va vb vc vd ve : Int) (vf : List Int) (vg vh : Nat) (vi vj vk : List Int) : evCode (V 32) q32 o32 32 0 3990 c32_10000 (St.mk (spread 94 0 [1, 2, 4, 5, 6, 7] [Ap 0 0, Ap 1 0, Ap 2 0, AV.sl 5 0 v0 1, Ai v1, Ai v2]) [HA [Ai v3, Fu v4], HA [Ai v5, Ai v6, Ai v7, Ai v8, AV.esl, Ai v9, AV.esl, AV.esl, AV.esl], HA [Ai va, Ai vb, Ai vc, Ai vd, AV.esl, Ai ve, Fu vf, AV.sl 3 0 vg 1, AV.sl 4 0 vh 1], HB.live (Blk.ints .i64 vi), HB.live (Blk.ints .i64 vj), HU vk]) (kOut (V 32) 32 0 (Ev.keyOf c32_10000 * 1000 + 1) K) = rrr_Build_j10_B v0 v1 v2 v3 v4 v5 v6 v7 v8 v9 va vb vc vd ve vf vg vh vi vj vk (fun vl vm vn vo vp vq vr vs vt vu vv vw vx vy vz v10 v11 => K (Ex.exit 0) (St.mk (spread 94 0 [2, 4, 5] [Ap 0 0, Ap 1 0, AV.sl 4 0 vl 1]) [HA [Ai vm, Ai vn, Ai vo, Ai vp, AV.esl, Ai vq, AV.esl, AV.esl, AV.esl], HA [Ai vr, Ai vs, Ai vt, Ai vu, AV.esl, Ai vv, Fu vw, AV.sl 2 0 vx 1, AV.sl 3 0 vy 1], HB.live (Blk.ints .i64 vz), HB.live (Blk.ints .i64 v10), HU v11])) (fun vl vm vn vo vp vq vr vs vt vu vv vw vx vy vz v10 v11 v12 v13 v14 v15 => K (Ex.normal) (St.mk (spread 94 0 [1, 2, 4, 5, 6, 7] [Ap 0 0, Ap 1 0, Ap 2 0, AV.sl 5 0 vl 1, Ai vm, Ai vn]) [HA [Ai vo, Fu vp], HA [Ai vq, Ai vr, Ai vs, Ai vt, AV.esl, Ai vu, AV.esl, AV.esl, AV.esl], HA [Ai vv, Ai vw, Ai vx, Ai vy, AV.esl, Ai vz, Fu v10, AV.sl 3 0 v11 1, AV.sl 4 0 v12 1], HB.live (Blk.ints .i64 v13), HB.live (Blk.ints .i64 v14), HU v15])) := by kernel_rfl

theorem p32_5000 : PieceOk (V 32) q32 o32 32 0 (3997, 0, c32_5000) := .s (size := 94) (ss := [1, 2, 4]) (F := @o32_5000_in) (by kernel_rfl) fun R r K vs hh h => by
  unfold o32_5000_in at h; split at h
  · rw [rrr_Build_j5_unf] at h; exact Eq.trans (by kernel_rfl) h
  · cases h

theorem p32_8400 : PieceOk (V 32) q32 o32 32 0 (3991, 1, c32_8400) := .l (size := 94) (ss := [1, 2, 4, 5, 6, 7]) (F := @o32_8400_in) (by kernel_rfl) (by kernel_rfl) fun R r K vs hh h => by
  unfold o32_8400_in at h; split at h
  · rw [rrr_Build_l8_unf] at h; unfold rrr_Build_l8_B at h; rw [← rrr_Build_l8_L_eq K NR] at h; exact h
  · cases h

theorem p32_10000 : PieceOk (V 32) q32 o32 32 0 (3990, 0, c32_10000) := .s (size := 94) (ss := [1, 2, 4, 5, 6, 7]) (F := @o32_10000_in) (by kernel_rfl) fun R r K vs hh h => by
  unfold o32_10000_in at h; split at h
  · rw [rrr_Build_j10_unf] at h; exact (rrr_Build_j10_eq K _ _ _ _ _ _ _ _ _ _ _ _ _ _ _ _ _ _ _ _ _).trans h
  · cases h

theorem p32_12000 : PieceOk (V 32) q32 o32 32 0 (3987, 0, c32_12000) := .s (size := 94) (ss := [1, 2, 4, 5, 6, 7]) (F := @o32_12000_in) (by kernel_rfl) fun R r K vs hh h => by
  unfold o32_12000_in at h; split at h
  · rw [rrr_Build_j12_unf] at h; exact (rrr_Build_j12_eq K _ _ _ _ _ _ _ _ _ _ _ _ _ _ _ _ _ _ _ _ _).trans h
  · cases h

theorem p32_18000 : PieceOk (V 32) q32 o32 32 0 (3982, 0, c32_18000) := .s (size := 94) (ss := [1, 2, 4, 5, 6, 7, 10]) (F := @o32_18000_in) (by kernel_rfl) fun R r K vs hh h => by
  unfold o32_18000_in at h; split at h
  · rw [rrr_Build_j18_unf] at h; exact Eq.trans (by kernel_rfl) h
  · cases h

theorem pc32 : ∀ x ∈ [(3997, 0, c32_5000), (3991, 1, c32_8400), (3990, 0, c32_10000), (3987, 0, c32_12000), (3982, 0, c32_18000)], PieceOk (V 32) q32 o32 32 0 x := List.forall_mem_cons.2 ⟨p32_5000, List.forall_mem_cons.2 ⟨p32_8400, List.forall_mem_cons.2 ⟨p32_10000, List.forall_mem_cons.2 ⟨p32_12000, List.forall_mem_cons.2 ⟨p32_18000, fun _ h => nomatch h⟩⟩⟩⟩⟩

noncomputable def sp32 : Ev.Spec := fun args _ K => match args with
 | ([AV.agg (Blk.any [Ai v0, Fu v1])]) => rrr_Build v0 v1 (fun v2 v3 v4 v5 v6 v7 v8 v9 va vb => K (AV.tup [AV.agg (Blk.any [Ai v2, Ai v3, Ai v4, Ai v5, Fu v6, Ai v7, Fu v8, AV.fsl (Blk.ints .i64 v9), AV.fsl (Blk.ints .i64 va)]), Ai vb]))
 | _ => none
noncomputable def S32 := addS 32 sp32 S62
theorem D22 : Dom B0 V S32 T105 22 := Dom.s (m := 21) (n := 0) D21 D21 (O := o32) (OrcOk.fn (fn0 := Tryd.f32) (by kernel_rfl) (by kernel_rfl) pc32) fun args R K r h => by
 unfold sp32 at h; split at h
 · rw [rrr_Build_unf] at h; exact Eq.trans (by kernel_rfl) h
 · cases h

noncomputable def sp81 : Ev.Spec := fun args _ K => match args with
 | ([AV.agg (Blk.any [Ai v0, Ai v1, Ai v2, Fu v3])]) => ints_Check v0 v1 v2 v3 (fun v4 => K (Ab v4))
 | _ => none
noncomputable def S81 := addS 81 sp81 S32
theorem D23 : Dom B0 V S81 T105 23 := Dom.s (m := 22) (n := 0) D22 D22 (O := (fun _ => none)) (fun _ _ _ _ => OrcOk.none _ _) fun args R K r h => by
 unfold sp81 at h; split at h
 · rw [ints_Check_unf] at h; exact Eq.trans (by kernel_rfl) h
 · cases h

noncomputable def o82_6400_in {R : Type} (K : Ex → St → Option R) (vs : List AV) (hh : H) : Option R := match vs, hh with
 | [Ap 0 0, AV.sl 1 0 v0 1, Ai v1, Ai v2], [HA [Ai v3, Ai v4, Ai v5, Fu v6], HU v7] => ints_List_l6 v0 v1 v2 v3 v4 v5 v6 v7 (fun v8 v9 => K (Ex.exit 0) (St.mk (spread 33 0 [3] [AV.sl 0 0 v8 1]) [HU v9]))
 | _, _ => none

noncomputable def o82 : Nat → Option PSpec := lkN [(6400, fun st _ K => pickM 33 [1, 3, 12, 13] st (o82_6400_in K))]
noncomputable def q82 : CallF := evFun (V 82) S81 T105 10

noncomputable def c82_6400 : Code := subC [1, 1, 1, 0, 1, 0, 0] (bodyOf Tryd.f82)

noncomputable def lp82_6400 {R : Type} (N : Nat) (st : St) (K : Ex → St → Option R) : Option R := evLoop (norm ((V 82).keep 82 (Ev.keyOf c82_6400 * 1000 + 400)) 0) (evCode (V 82) q82 o82 82 0 3993 c82_6400) N st (kOut (V 82) 82 0 (Ev.keyOf c82_6400 * 1000 + 401) K)

theorem ints_List_l6_L_eq {R : Type} (K : Ex → St → Option R) : ∀ N : Nat, (fun (v0 : Nat) (v1 v2 v3 v4 v5 : Int) (v6 v7 : List Int) => lp82_6400 N (St.mk (spread 33 0 [1, 3, 12, 13] [Ap 0 0, AV.sl 1 0 v0 1, Ai v1, Ai v2]) [HA [Ai v3, Ai v4, Ai v5, Fu v6], HU v7]) K) = ints_List_l6_L (fun v8 v9 => K (Ex.exit 0) (St.mk (spread 33 0 [3] [AV.sl 0 0 v8 1]) [HU v9])) N
  | 0 => by funext v0 v1 v2 v3 v4 v5 v6 v7; rfl
  | N + 1 => by
    funext v0 v1 v2 v3 v4 v5 v6 v7
    simp only [ints_List_l6_L]
    rw [← ints_List_l6_L_eq K N]
    kernel_rfl

theorem p82_6400 : PieceOk (V 82) q82 o82 82 0 (3993, 1, c82_6400) := .l (size := 33) (ss := [1, 3, 12, 13]) (F := @o82_6400_in) (by kernel_rfl) (by kernel_rfl) fun R r K vs hh h => by
  unfold o82_6400_in at h; split at h
  · rw [ints_List_l6_unf] at h; unfold ints_List_l6_B at h; rw [← ints_List_l6_L_eq K NR] at h; exact h
  · cases h

theorem pc82 : ∀ x ∈ [(3993, 1, c82_6400)], PieceOk (V 82) q82 o82 82 0 x := List.forall_mem_cons.2 ⟨p82_6400, fun _ h => nomatch h⟩

noncomputable def sp82 : Ev.Spec := fun args _ K => match args with
 | ([AV.agg (Blk.any [Ai v0, Ai v1, Ai v2, Fu v3])]) => ints_List v0 v1 v2 v3 (fun v4 => K (Fu v4))
 | _ => none
noncomputable def S82 := addS 82 sp82 S81
theorem D24 : Dom B0 V S82 T105 24 := Dom.s (m := 23) (n := 0) D23 D23 (O := o82) (OrcOk.fn (fn0 := Tryd.f82) (by kernel_rfl) (by kernel_rfl) pc82) fun args R K r h => by
 unfold sp82 at h; split at h
 · rw [ints_List_unf] at h; exact Eq.trans (by kernel_rfl) h
 · cases h

noncomputable def o106_7400_in {R : Type} (K : Ex → St → Option R) (vs : List AV) (hh : H) : Option R := match vs, hh with
 | [Ai v0, Au v1, AV.fsl (Blk.cols [Col.fints .u64 v2] []), Au v3, Ai v4], [] => binom_Block_l7 v0 v1 v2 v3 v4 (fun v5 => K (Ex.exit 0) (St.mk (spread 50 0 [9] [Au v5]) []))
 | _, _ => none

noncomputable def o106_13000_in {R : Type} (K : Ex → St → Option R) (vs : List AV) (hh : H) : Option R := match vs, hh with
 | [Ai v0, Au v1, AV.fsl (Blk.cols [Col.fints .u64 v2] []), Au v3, Ai v4, Au v5], [] => binom_Block_j13 v0 v1 v2 v3 v4 v5 (fun v6 v7 v8 v9 va => K (Ex.normal) (St.mk (spread 50 0 [1, 2, 8, 9, 10] [Ai v6, Au v7, AV.fsl (Blk.cols [Col.fints .u64 v8] []), Au v9, Ai va]) []))
 | _, _ => none

noncomputable def o106 : Nat → Option PSpec := lkN [(7400, fun st _ K => pickM 50 [1, 2, 8, 9, 10] st (o106_7400_in K)), (13000, fun st _ K => pickM 50 [1, 2, 8, 9, 10, 11] st (o106_13000_in K))]
noncomputable def q106 : CallF := evFun (V 106) S82 T105 10

noncomputable def c106_7400 : Code := subC [1, 0, 1, 1, 1, 1, 0, 1, 0, 0] (bodyOf Tryd.f106)

noncomputable def lp106_7400 {R : Type} (N : Nat) (st : St) (K : Ex → St → Option R) : Option R := evLoop (norm ((V 106).keep 106 (Ev.keyOf c106_7400 * 1000 + 400)) 0) (evCode (V 106) q106 o106 106 0 3990 c106_7400) N st (kOut (V 106) 106 0 (Ev.keyOf c106_7400 * 1000 + 401) K)

noncomputable def c106_13000 : Code := subC [1, 0, 1, 1, 1, 1, 0, 1, 0, 0, 1, 0, 0, 1, 1, 1] (bodyOf Tryd.f106)

noncomputable def lp106_7400_3993 {R : Type} (N : Nat) (st : St) (K : Ex → St → Option R) : Option R := evLoop (norm ((V 106).keep 106 (Ev.keyOf c106_7400 * 1000 + 400)) 0) (evCode (V 106) q106 o106 106 0 3993 c106_7400) N st (kOut (V 106) 106 0 (Ev.keyOf c106_7400 * 1000 + 401) K)

theorem binom_Block_l7_L_eq {R : Type} (K : Ex → St → Option R) : ∀ N : Nat, (fun (v0 v1 : Int) (v2 : List (List Int)) (v3 v4 : Int) => lp106_7400 N (St.mk (spread 50 0 [1, 2, 8, 9, 10] [Ai v0, Au v1, AV.fsl (Blk.cols [Col.fints .u64 v2] []), Au v3, Ai v4]) []) K) = binom_Block_l7_L (fun v5 => K (Ex.exit 0) (St.mk (spread 50 0 [9] [Au v5]) [])) N
  | 0 => by funext v0 v1 v2 v3 v4; rfl
  | N + 1 => by
    funext v0 v1 v2 v3 v4
    simp only [binom_Block_l7_L]
    rw [← binom_Block_l7_L_eq K N]
    kernel_rfl

theorem binom_Block_l7_L_eq_3993 {R : Type} (K : Ex → St → Option R) : ∀ N : Nat, (fun (v0 v1 : Int) (v2 : List (List Int)) (v3 v4 : Int) => lp106_7400_3993 N (St.mk (spread 50 0 [1, 2, 8, 9, 10] [Ai v0, Au v1, AV.fsl (Blk.cols [Col.fints .u64 v2] []), Au v3, Ai v4]) []) K) = binom_Block_l7_L (fun v5 => K (Ex.exit 0) (St.mk (spread 50 0 [9] [Au v5]) [])) N
  | 0 => by funext v0 v1 v2 v3 v4; rfl
  | N + 1 => by
    funext v0 v1 v2 v3 v4
    simp only [binom_Block_l7_L]
    rw [← binom_Block_l7_L_eq_3993 K N]
    kernel_rfl

theorem p106_7400 : PieceOk (V 106) q106 o106 106 0 (3990, 1, c106_7400) := .l (size := 50) (ss := [1, 2, 8, 9, 10]) (F := @o106_7400_in) (by kernel_rfl) (by kernel_rfl) fun R r K vs hh h => by
  unfold o106_7400_in at h; split at h
  · rw [binom_Block_l7_unf] at h; unfold binom_Block_l7_B at h; rw [← binom_Block_l7_L_eq K NR] at h; exact h
  · cases h

theorem p106_13000 : PieceOk (V 106) q106 o106 106 0 (3984, 0, c106_13000) := .s (size := 50) (ss := [1, 2, 8, 9, 10, 11]) (F := @o106_13000_in) (by kernel_rfl) fun R r K vs hh h => by
  unfold o106_13000_in at h; split at h
  · rw [binom_Block_j13_unf] at h; exact Eq.trans (by kernel_rfl) h
  · cases h

theorem p106_7400_3993 : PieceOk (V 106) q106 o106 106 0 (3993, 1, c106_7400) := .l (size := 50) (ss := [1, 2, 8, 9, 10]) (F := @o106_7400_in) (by kernel_rfl) (by kernel_rfl) fun R r K vs hh h => by
  unfold o106_7400_in at h; split at h
  · rw [binom_Block_l7_unf] at h; unfold binom_Block_l7_B at h; rw [← binom_Block_l7_L_eq_3993 K NR] at h; exact h
  · cases h

theorem p106_13000_3987 : PieceOk (V 106) q106 o106 106 0 (3987, 0, c106_13000) := .s (size := 50) (ss := [1, 2, 8, 9, 10, 11]) (F := @o106_13000_in) (by kernel_rfl) fun R r K vs hh h => by
  unfold o106_13000_in at h; split at h
  · rw [binom_Block_j13_unf] at h; exact Eq.trans (by kernel_rfl) h
  · cases h

theorem pc106 : ∀ x ∈ [(3990, 1, c106_7400), (3984, 0, c106_13000), (3993, 1, c106_7400), (3987, 0, c106_13000)], PieceOk (V 106) q106 o106 106 0 x := List.forall_mem_cons.2 ⟨p106_7400, List.forall_mem_cons.2 ⟨p106_13000, List.forall_mem_cons.2 ⟨p106_7400_3993, List.forall_mem_cons.2 ⟨p106_13000_3987, fun _ h => nomatch h⟩⟩⟩⟩

noncomputable def sp106 : Ev.Spec := fun args _ K => match args with
 | ([Ai v0, Ai v1, Au v2]) => binom_Block v0 v1 v2 (fun v3 v4 => K (AV.tup [Au v3, Ab v4]))
 | _ => none
noncomputable def S106 := addS 106 sp106 S82
theorem D25 : Dom B0 V S106 T105 25 := Dom.s (m := 24) (n := 0) D24 D24 (O := o106) (OrcOk.fn (fn0 := Tryd.f106) (by kernel_rfl) (by kernel_rfl) pc106) fun args R K r h => by
 unfold sp106 at h; split at h
 · rw [binom_Block_unf] at h; exact Eq.trans (by kernel_rfl) h
 · cases h

noncomputable def o90_3000_in {R : Type} (K : Ex → St → Option R) (vs : List AV) (hh : H) : Option R := match vs, hh with
 | [Ap 0 0, Ap 1 0, Ab v0], [HA [Ai v1, Ai v2, Ai v3, Ai v4, Fu v5, Ai v6, Fu v7, AV.fsl (Blk.ints .i64 v8), AV.fsl (Blk.ints .i64 v9)], HA [Ai va, AV.esl]] => rrr_row_j3 v0 v1 v2 v3 v4 v5 v6 v7 v8 v9 va (fun vb vc => K (Ex.ret) (St.mk (spread 106 0 [2, 3] [Ap 0 0, Ab vb]) [HA [Ai vc, AV.esl]])) (fun vb vc vd ve vf vg vh vi vj vk => K (Ex.normal) (St.mk (spread 106 0 [1, 2] [Ap 0 0, Ap 1 0]) [HA [Ai vb, Ai vc, Ai vd, Ai ve, Fu vf, Ai vg, Fu vh, AV.fsl (Blk.ints .i64 vi), AV.fsl (Blk.ints .i64 vj)], HA [Ai vk, AV.esl]]))
 | _, _ => none

noncomputable def o90_4000_in {R : Type} (K : Ex → St → Option R) (vs : List AV) (hh : H) : Option R := match vs, hh with
 | [Ap 0 0, Ap 1 0], [HA [Ai v0, Ai v1, Ai v2, Ai v3, Fu v4, Ai v5, Fu v6, AV.fsl (Blk.ints .i64 v7), AV.fsl (Blk.ints .i64 v8)], HA [Ai v9, AV.esl]] => rrr_row_j4 v0 v1 v2 v3 v4 v5 v6 v7 v8 v9 (fun va vb => K (Ex.ret) (St.mk (spread 106 0 [2, 3] [Ap 0 0, Ab va]) [HA [Ai vb, AV.esl]])) (fun va vb vc => K (Ex.ret) (St.mk (spread 106 0 [2, 3] [Ap 0 0, Ab va]) [HA [Ai vb, Fu vc]]))
 | _, _ => none

noncomputable def o90_7400_in {R : Type} (K : Ex → St → Option R) (vs : List AV) (hh : H) : Option R := match vs, hh with
 | [Ap 0 0, Ap 1 0, Ap 2 0, Ai v0, Fu v1, Ai v2, Ai v3], [HA [Ai v4, Ai v5, Ai v6, Ai v7, Fu v8, Ai v9, Fu va, AV.fsl (Blk.ints .i64 vb), AV.fsl (Blk.ints .i64 vc)], HA [Ai vd, AV.esl], HA [Ai ve, Fu vf]] => rrr_row_l7 v0 v1 v2 v3 v4 v5 v6 v7 v8 v9 va vb vc vd ve vf (fun vg vh => K (Ex.ret) (St.mk (spread 106 0 [2, 3] [Ap 0 0, Ab vg]) [HA [Ai vh, AV.esl]])) (fun vg vh vi => K (Ex.exit 0) (St.mk (spread 106 0 [2, 4] [Ap 0 0, Ap 1 0]) [HA [Ai vg, AV.esl], HA [Ai vh, Fu vi]]))
 | _, _ => none

noncomputable def o90_16000_in {R : Type} (K : Ex → St → Option R) (vs : List AV) (hh : H) : Option R := match vs, hh with
 | [Ap 0 0, Ap 1 0, Ap 2 0, Ai v0, Ai v1, Au v2, Ai v3, Fu v4, Ai v5, Ai v6, Ab v7], [HA [Ai v8, Ai v9, Ai va, Ai vb, Fu vc, Ai vd, Fu ve, AV.fsl (Blk.ints .i64 vf), AV.fsl (Blk.ints .i64 vg)], HA [Ai vh, AV.esl], HA [Ai vi, Fu vj]] => rrr_row_j16 v0 v1 v2 v3 v4 v5 v6 v7 v8 v9 va vb vc vd ve vf vg vh vi vj (fun vk vl => K (Ex.ret) (St.mk (spread 106 0 [2, 3] [Ap 0 0, Ab vk]) [HA [Ai vl, AV.esl]])) (fun vk vl vm vn vo vp vq vr vs vt vu vv vw vx vy vz v10 v11 v12 => K (Ex.normal) (St.mk (spread 106 0 [1, 2, 4, 5, 8, 11, 13, 48, 49, 50] [Ap 0 0, Ap 1 0, Ap 2 0, Ai vk, Ai vl, Au vm, Ai vn, Fu vo, Ai vp, Ai vq]) [HA [Ai vr, Ai vs, Ai vt, Ai vu, Fu vv, Ai vw, Fu vx, AV.fsl (Blk.ints .i64 vy), AV.fsl (Blk.ints .i64 vz)], HA [Ai v10, AV.esl], HA [Ai v11, Fu v12]]))
 | _, _ => none

noncomputable def o90_17000_in {R : Type} (K : Ex → St → Option R) (vs : List AV) (hh : H) : Option R := match vs, hh with
 | [Ap 0 0, Ap 1 0, Ap 2 0, Ai v0, Ai v1, Au v2, Ai v3, Fu v4, Ai v5, Ai v6], [HA [Ai v7, Ai v8, Ai v9, Ai va, Fu vb, Ai vc, Fu vd, AV.fsl (Blk.ints .i64 ve), AV.fsl (Blk.ints .i64 vf)], HA [Ai vg, AV.esl], HA [Ai vh, Fu vi]] => rrr_row_j17 v0 v1 v2 v3 v4 v5 v6 v7 v8 v9 va vb vc vd ve vf vg vh vi (fun vj vk vl vm vn vo vp vq vr vs vt vu vv vw vx vy => K (Ex.normal) (St.mk (spread 106 0 [1, 2, 4, 5, 48, 49, 50] [Ap 0 0, Ap 1 0, Ap 2 0, Ai vj, Fu vk, Ai vl, Ai vm]) [HA [Ai vn, Ai vo, Ai vp, Ai vq, Fu vr, Ai vs, Fu vt, AV.fsl (Blk.ints .i64 vu), AV.fsl (Blk.ints .i64 vv)], HA [Ai vw, AV.esl], HA [Ai vx, Fu vy]]))
 | _, _ => none

noncomputable def o90 : Nat → Option PSpec := lkN [(3000, fun st _ K => pickM 106 [1, 2, 44] st (o90_3000_in K)), (4000, fun st _ K => pickM 106 [1, 2] st (o90_4000_in K)), (7400, fun st _ K => pickM 106 [1, 2, 4, 5, 48, 49, 50] st (o90_7400_in K)), (16000, fun st _ K => pickM 106 [1, 2, 4, 5, 8, 11, 13, 48, 49, 50, 92] st (o90_16000_in K)), (17000, fun st _ K => pickM 106 [1, 2, 4, 5, 8, 11, 13, 48, 49, 50] st (o90_17000_in K))]
noncomputable def q90 : CallF := evFun (V 90) S106 T105 10

noncomputable def c90_4000 : Code := subC [1, 1] (bodyOf Tryd.f90)

noncomputable def c90_3000 : Code := subC [1, 0, 1] (bodyOf Tryd.f90)

noncomputable def c90_7400 : Code := subC [1, 1, 1, 1, 0, 1, 0, 0] (bodyOf Tryd.f90)

noncomputable def lp90_7400 {R : Type} (N : Nat) (st : St) (K : Ex → St → Option R) : Option R := evLoop (norm ((V 90).keep 90 (Ev.keyOf c90_7400 * 1000 + 400)) 0) (evCode (V 90) q90 o90 90 0 3992 c90_7400) N st (kOut (V 90) 90 0 (Ev.keyOf c90_7400 * 1000 + 401) K)

noncomputable def c90_17000 : Code := subC [1, 1, 1, 1, 0, 1, 0, 0, 1, 1, 0, 0, 1, 1, 1, 1, 1, 1, 1] (bodyOf Tryd.f90)

noncomputable def c90_16000 : Code := subC [1, 1, 1, 1, 0, 1, 0, 0, 1, 1, 0, 0, 1, 1, 1, 1, 1, 1, 0, 1] (bodyOf Tryd.f90)

theorem rrr_row_l7_L_eq {R : Type} (K : Ex → St → Option R) : ∀ N : Nat, (fun (v0 : Int) (v1 : List Int) (v2 v3 v4 v5 v6 v7 : Int) (v8 : List Int) (v9 : Int) (va vb vc : List Int) (vd ve : Int) (vf : List Int) => lp90_7400 N (St.mk (spread 106 0 [1, 2, 4, 5, 48, 49, 50] [Ap 0 0, Ap 1 0, Ap 2 0, Ai v0, Fu v1, Ai v2, Ai v3]) [HA [Ai v4, Ai v5, Ai v6, Ai v7, Fu v8, Ai v9, Fu va, AV.fsl (Blk.ints .i64 vb), AV.fsl (Blk.ints .i64 vc)], HA [Ai vd, AV.esl], HA [Ai ve, Fu vf]]) K) = rrr_row_l7_L (fun vg vh => K (Ex.ret) (St.mk (spread 106 0 [2, 3] [Ap 0 0, Ab vg]) [HA [Ai vh, AV.esl]])) (fun vg vh vi => K (Ex.exit 0) (St.mk (spread 106 0 [2, 4] [Ap 0 0, Ap 1 0]) [HA [Ai vg, AV.esl], HA [Ai vh, Fu vi]])) N
  | 0 => by funext v0 v1 v2 v3 v4 v5 v6 v7 v8 v9 va vb vc vd ve vf; rfl
  | N + 1 => by
    funext v0 v1 v2 v3 v4 v5 v6 v7 v8 v9 va vb vc vd ve vf
    simp only [rrr_row_l7_L]
    rw [← rrr_row_l7_L_eq K N]
    kernel_rfl

theorem p90_4000 : PieceOk (V 90) q90 o90 90 0 (3998, 0, c90_4000) := .s (size := 106) (ss := [1, 2]) (F := @o90_4000_in) (by kernel_rfl) fun R r K vs hh h => by
  unfold o90_4000_in at h; split at h
  · rw [rrr_row_j4_unf] at h; exact Eq.trans (by kernel_rfl) h
  · cases h

theorem p90_3000 : PieceOk (V 90) q90 o90 90 0 (3997, 0, c90_3000) := .s (size := 106) (ss := [1, 2, 44]) (F := @o90_3000_in) (by kernel_rfl) fun R r K vs hh h => by
  unfold o90_3000_in at h; split at h
  · rw [rrr_row_j3_unf] at h; exact Eq.trans (by kernel_rfl) h
  · cases h

theorem p90_7400 : PieceOk (V 90) q90 o90 90 0 (3992, 1, c90_7400) := .l (size := 106) (ss := [1, 2, 4, 5, 48, 49, 50]) (F := @o90_7400_in) (by kernel_rfl) (by kernel_rfl) fun R r K vs hh h => by
  unfold o90_7400_in at h; split at h
  · rw [rrr_row_l7_unf] at h; unfold rrr_row_l7_B at h; rw [← rrr_row_l7_L_eq K NR] at h; exact h
  · cases h

theorem p90_17000 : PieceOk (V 90) q90 o90 90 0 (3981, 0, c90_17000) := .s (size := 106) (ss := [1, 2, 4, 5, 8, 11, 13, 48, 49, 50]) (F := @o90_17000_in) (by kernel_rfl) fun R r K vs hh h => by
  unfold o90_17000_in at h; split at h
  · rw [rrr_row_j17_unf] at h; exact Eq.trans (by kernel_rfl) h
  · cases h

theorem p90_16000 : PieceOk (V 90) q90 o90 90 0 (3980, 0, c90_16000) := .s (size := 106) (ss := [1, 2, 4, 5, 8, 11, 13, 48, 49, 50, 92]) (F := @o90_16000_in) (by kernel_rfl) fun R r K vs hh h => by
  unfold o90_16000_in at h; split at h
  · rw [rrr_row_j16_unf] at h; exact Eq.trans (by kernel_rfl) h
  · cases h

theorem pc90 : ∀ x ∈ [(3998, 0, c90_4000), (3997, 0, c90_3000), (3992, 1, c90_7400), (3981, 0, c90_17000), (3980, 0, c90_16000)], PieceOk (V 90) q90 o90 90 0 x := List.forall_mem_cons.2 ⟨p90_4000, List.forall_mem_cons.2 ⟨p90_3000, List.forall_mem_cons.2 ⟨p90_7400, List.forall_mem_cons.2 ⟨p90_17000, List.forall_mem_cons.2 ⟨p90_16000, fun _ h => nomatch h⟩⟩⟩⟩⟩

theorem rrr_row_eq {R : Type} (K : AV → Option R) (v0 v1 v2 v3 : Int) (v4 : List Int) (v5 : Int) (v6 v7 v8 : List Int) : evSpec (V 90) S106 T105 o90 10 90 ([AV.agg (Blk.any [Ai v0, Ai v1, Ai v2, Ai v3, Fu v4, Ai v5, Fu v6, AV.fsl (Blk.ints .i64 v7), AV.fsl (Blk.ints .i64 v8)])]) R K = rrr_row_B v0 v1 v2 v3 v4 v5 v6 v7 v8 (fun v9 va vb => K (AV.tup [AV.agg (Blk.any [Ai v9, Fu va]), Ab vb])) := by kernel_rfl

noncomputable def sp90 : Ev.Spec := fun args _ K => match args with
 | ([AV.agg (Blk.any [Ai v0, Ai v1, Ai v2, Ai v3, Fu v4, Ai v5, Fu v6, AV.fsl (Blk.ints .i64 v7), AV.fsl (Blk.ints .i64 v8)])]) => rrr_row v0 v1 v2 v3 v4 v5 v6 v7 v8 (fun v9 va vb => K (AV.tup [AV.agg (Blk.any [Ai v9, Fu va]), Ab vb]))
 | _ => none
noncomputable def S90 := addS 90 sp90 S106
theorem D26 : Dom B0 V S90 T105 26 := Dom.s (m := 25) (n := 0) D25 D25 (O := o90) (OrcOk.fn (fn0 := Tryd.f90) (by kernel_rfl) (by kernel_rfl) pc90) fun args R K r h => by
 unfold sp90 at h; split at h
 · rw [rrr_row_unf] at h; exact (rrr_row_eq K _ _ _ _ _ _ _ _ _).trans h
 · cases h

noncomputable def o84_5400_in {R : Type} (K : Ex → St → Option R) (vs : List AV) (hh : H) : Option R := match vs, hh with
 | [Fu v0, Fu v1, Ai v2, Ai v3], [] => slices_Equal_uint64_uint64_l5 v0 v1 v2 v3 (fun v4 => K (Ex.ret) (St.mk (spread 26 0 [4] [Ab v4]) [])) (fun _ => K (Ex.exit 0) (St.mk (spread 26 0 [] []) []))
 | _, _ => none

noncomputable def o84 : Nat → Option PSpec := lkN [(5400, fun st _ K => pickM 26 [0, 1, 12, 13] st (o84_5400_in K))]
noncomputable def q84 : CallF := evFun (V 84) S90 T105 10

noncomputable def c84_5400 : Code := subC [1, 1, 0, 1, 0, 0] (bodyOf Tryd.f84)

noncomputable def lp84_5400 {R : Type} (N : Nat) (st : St) (K : Ex → St → Option R) : Option R := evLoop (norm ((V 84).keep 84 (Ev.keyOf c84_5400 * 1000 + 400)) 0) (evCode (V 84) q84 o84 84 0 3994 c84_5400) N st (kOut (V 84) 84 0 (Ev.keyOf c84_5400 * 1000 + 401) K)

theorem slices_Equal_uint64_uint64_l5_L_eq {R : Type} (K : Ex → St → Option R) : ∀ N : Nat, (fun (v0 v1 : List Int) (v2 v3 : Int) => lp84_5400 N (St.mk (spread 26 0 [0, 1, 12, 13] [Fu v0, Fu v1, Ai v2, Ai v3]) []) K) = slices_Equal_uint64_uint64_l5_L (fun v4 => K (Ex.ret) (St.mk (spread 26 0 [4] [Ab v4]) [])) (fun _ => K (Ex.exit 0) (St.mk (spread 26 0 [] []) [])) N
  | 0 => by funext v0 v1 v2 v3; rfl
  | N + 1 => by
    funext v0 v1 v2 v3
    simp only [slices_Equal_uint64_uint64_l5_L]
    rw [← slices_Equal_uint64_uint64_l5_L_eq K N]
    kernel_rfl

theorem p84_5400 : PieceOk (V 84) q84 o84 84 0 (3994, 1, c84_5400) := .l (size := 26) (ss := [0, 1, 12, 13]) (F := @o84_5400_in) (by kernel_rfl) (by kernel_rfl) fun R r K vs hh h => by
  unfold o84_5400_in at h; split at h
  · rw [slices_Equal_uint64_uint64_l5_unf] at h; unfold slices_Equal_uint64_uint64_l5_B at h; rw [← slices_Equal_uint64_uint64_l5_L_eq K NR] at h; exact h
  · cases h

theorem pc84 : ∀ x ∈ [(3994, 1, c84_5400)], PieceOk (V 84) q84 o84 84 0 x := List.forall_mem_cons.2 ⟨p84_5400, fun _ h => nomatch h⟩

noncomputable def sp84 : Ev.Spec := fun args _ K => match args with
 | ([Fu v0, Fu v1]) => slices_Equal_uint64_uint64 v0 v1 (fun v2 => K (Ab v2))
 | _ => none
noncomputable def S84 := addS 84 sp84 S90
theorem D27 : Dom B0 V S84 T105 27 := Dom.s (m := 26) (n := 0) D26 D26 (O := o84) (OrcOk.fn (fn0 := Tryd.f84) (by kernel_rfl) (by kernel_rfl) pc84) fun args R K r h => by
 unfold sp84 at h; split at h
 · rw [slices_Equal_uint64_uint64_unf] at h; exact Eq.trans (by kernel_rfl) h
 · cases h

noncomputable def o107_5400_in {R : Type} (K : Ex → St → Option R) (vs : List AV) (hh : H) : Option R := match vs, hh with
 | [AV.fsl (Blk.ints .i64 v0), AV.fsl (Blk.ints .i64 v1), Ai v2, Ai v3], [] => slices_Equal_int_int_l5 v0 v1 v2 v3 (fun v4 => K (Ex.ret) (St.mk (spread 26 0 [4] [Ab v4]) [])) (fun _ => K (Ex.exit 0) (St.mk (spread 26 0 [] []) []))
 | _, _ => none

noncomputable def o107 : Nat → Option PSpec := lkN [(5400, fun st _ K => pickM 26 [0, 1, 12, 13] st (o107_5400_in K))]
noncomputable def q107 : CallF := evFun (V 107) S84 T105 10

noncomputable def c107_5400 : Code := subC [1, 1, 0, 1, 0, 0] (bodyOf Tryd.f107)

noncomputable def lp107_5400 {R : Type} (N : Nat) (st : St) (K : Ex → St → Option R) : Option R := evLoop (norm ((V 107).keep 107 (Ev.keyOf c107_5400 * 1000 + 400)) 0) (evCode (V 107) q107 o107 107 0 3994 c107_5400) N st (kOut (V 107) 107 0 (Ev.keyOf c107_5400 * 1000 + 401) K)

theorem slices_Equal_int_int_l5_L_eq {R : Type} (K : Ex → St → Option R) : ∀ N : Nat, (fun (v0 v1 : List Int) (v2 v3 : Int) => lp107_5400 N (St.mk (spread 26 0 [0, 1, 12, 13] [AV.fsl (Blk.ints .i64 v0), AV.fsl (Blk.ints .i64 v1), Ai v2, Ai v3]) []) K) = slices_Equal_int_int_l5_L (fun v4 => K (Ex.ret) (St.mk (spread 26 0 [4] [Ab v4]) [])) (fun _ => K (Ex.exit 0) (St.mk (spread 26 0 [] []) [])) N
  | 0 => by funext v0 v1 v2 v3; rfl
  | N + 1 => by
    funext v0 v1 v2 v3
    simp only [slices_Equal_int_int_l5_L]
    rw [← slices_Equal_int_int_l5_L_eq K N]
    kernel_rfl

theorem p107_5400 : PieceOk (V 107) q107 o107 107 0 (3994, 1, c107_5400) := .l (size := 26) (ss := [0, 1, 12, 13]) (F := @o107_5400_in) (by kernel_rfl) (by kernel_rfl) fun R r K vs hh h => by
  unfold o107_5400_in at h; split at h
  · rw [slices_Equal_int_int_l5_unf] at h; unfold slices_Equal_int_int_l5_B at h; rw [← slices_Equal_int_int_l5_L_eq K NR] at h; exact h
  · cases h

theorem pc107 : ∀ x ∈ [(3994, 1, c107_5400)], PieceOk (V 107) q107 o107 107 0 x := List.forall_mem_cons.2 ⟨p107_5400, fun _ h => nomatch h⟩

noncomputable def sp107 : Ev.Spec := fun args _ K => match args with
 | ([AV.fsl (Blk.ints .i64 v0), AV.fsl (Blk.ints .i64 v1)]) => slices_Equal_int_int v0 v1 (fun v2 => K (Ab v2))
 | _ => none
noncomputable def S107 := addS 107 sp107 S84
theorem D28 : Dom B0 V S107 T105 28 := Dom.s (m := 27) (n := 0) D27 D27 (O := o107) (OrcOk.fn (fn0 := Tryd.f107) (by kernel_rfl) (by kernel_rfl) pc107) fun args R K r h => by
 unfold sp107 at h; split at h
 · rw [slices_Equal_int_int_unf] at h; exact Eq.trans (by kernel_rfl) h
 · cases h

noncomputable def o91_3000_in {R : Type} (K : Ex → St → Option R) (vs : List AV) (hh : H) : Option R := match vs, hh with
 | [Ap 0 0, Ap 1 0, Ab v0], [HA [Ai v1, Ai v2, Ai v3, Ai v4, Fu v5, Ai v6, Fu v7, AV.fsl (Blk.ints .i64 v8), AV.fsl (Blk.ints .i64 v9)], HA [Ai va, Ai vb, Ai vc, Ai vd, Fu ve, Ai vf, Fu vg, AV.fsl (Blk.ints .i64 vh), AV.fsl (Blk.ints .i64 vi)]] => rrr_same_j3 v0 v1 v2 v3 v4 v5 v6 v7 v8 v9 va vb vc vd ve vf vg vh vi (fun vj => K (Ex.ret) (St.mk (spread 86 0 [4] [Ab vj]) []))
 | _, _ => none

noncomputable def o91_4000_in {R : Type} (K : Ex → St → Option R) (vs : List AV) (hh : H) : Option R := match vs, hh with
 | [Ap 0 0, Ap 1 0, Ab v0, Ab v1], [HA [Ai v2, Ai v3, Ai v4, Ai v5, Fu v6, Ai v7, Fu v8, AV.fsl (Blk.ints .i64 v9), AV.fsl (Blk.ints .i64 va)], HA [Ai vb, Ai vc, Ai vd, Ai ve, Fu vf, Ai vg, Fu vh, AV.fsl (Blk.ints .i64 vi), AV.fsl (Blk.ints .i64 vj)]] => rrr_same_j4 v0 v1 v2 v3 v4 v5 v6 v7 v8 v9 va vb vc vd ve vf vg vh vi vj (fun vk => K (Ex.ret) (St.mk (spread 86 0 [4] [Ab vk]) []))
 | _, _ => none

noncomputable def o91 : Nat → Option PSpec := lkN [(3000, fun st _ K => pickM 86 [2, 3, 5] st (o91_3000_in K)), (4000, fun st _ K => pickM 86 [2, 3, 5, 6] st (o91_4000_in K))]
noncomputable def q91 : CallF := evFun (V 91) S107 T105 10

noncomputable def c91_3000 : Code := subC [1, 1] (bodyOf Tryd.f91)

noncomputable def c91_4000 : Code := subC [1, 1, 1] (bodyOf Tryd.f91)

theorem p91_3000 : PieceOk (V 91) q91 o91 91 0 (3998, 0, c91_3000) := .s (size := 86) (ss := [2, 3, 5]) (F := @o91_3000_in) (by kernel_rfl) fun R r K vs hh h => by
  unfold o91_3000_in at h; split at h
  · rw [rrr_same_j3_unf] at h; exact Eq.trans (by kernel_rfl) h
  · cases h

theorem p91_4000 : PieceOk (V 91) q91 o91 91 0 (3997, 0, c91_4000) := .s (size := 86) (ss := [2, 3, 5, 6]) (F := @o91_4000_in) (by kernel_rfl) fun R r K vs hh h => by
  unfold o91_4000_in at h; split at h
  · rw [rrr_same_j4_unf] at h; exact Eq.trans (by kernel_rfl) h
  · cases h

theorem pc91 : ∀ x ∈ [(3998, 0, c91_3000), (3997, 0, c91_4000)], PieceOk (V 91) q91 o91 91 0 x := List.forall_mem_cons.2 ⟨p91_3000, List.forall_mem_cons.2 ⟨p91_4000, fun _ h => nomatch h⟩⟩

noncomputable def sp91 : Ev.Spec := fun args _ K => match args with
 | ([AV.agg (Blk.any [Ai v0, Ai v1, Ai v2, Ai v3, Fu v4, Ai v5, Fu v6, AV.fsl (Blk.ints .i64 v7), AV.fsl (Blk.ints .i64 v8)]), AV.agg (Blk.any [Ai v9, Ai va, Ai vb, Ai vc, Fu vd, Ai ve, Fu vf, AV.fsl (Blk.ints .i64 vg), AV.fsl (Blk.ints .i64 vh)])]) => rrr_same v0 v1 v2 v3 v4 v5 v6 v7 v8 v9 va vb vc vd ve vf vg vh (fun vi => K (Ab vi))
 | _ => none
noncomputable def S91 := addS 91 sp91 S107
theorem D29 : Dom B0 V S91 T105 29 := Dom.s (m := 28) (n := 0) D28 D28 (O := o91) (OrcOk.fn (fn0 := Tryd.f91) (by kernel_rfl) (by kernel_rfl) pc91) fun args R K r h => by
 unfold sp91 at h; split at h
 · rw [rrr_same_unf] at h; exact Eq.trans (by kernel_rfl) h
 · cases h

noncomputable def sp65 : Ev.Spec := fun args _ K => match args with
 | ([AV.agg (Blk.any [Ai v0, Ai v1, Ai v2, Ai v3, Fu v4, Ai v5, Fu v6, AV.fsl (Blk.ints .i64 v7), AV.fsl (Blk.ints .i64 v8)])]) => rrr_whole v0 v1 v2 v3 v4 v5 v6 v7 v8 (fun v9 va vb => K (AV.tup [AV.agg (Blk.any [Ai v9, Fu va]), Ab vb]))
 | _ => none
noncomputable def S65 := addS 65 sp65 S91
theorem D30 : Dom B0 V S65 T105 30 := Dom.s (m := 29) (n := 0) D29 D29 (O := (fun _ => none)) (fun _ _ _ _ => OrcOk.none _ _) fun args R K r h => by
 unfold sp65 at h; split at h
 · rw [rrr_whole_unf] at h; exact Eq.trans (by kernel_rfl) h
 · cases h

noncomputable def sp36 : Ev.Spec := fun args _ K => match args with
 | ([AV.agg (Blk.any [Ai v0, Ai v1, Ai v2, Ai v3, Fu v4, Ai v5, Fu v6, AV.fsl (Blk.ints .i64 v7), AV.fsl (Blk.ints .i64 v8)])]) => rrr_Check v0 v1 v2 v3 v4 v5 v6 v7 v8 (fun v9 => K (Ab v9))
 | _ => none
noncomputable def S36 := addS 36 sp36 S65
theorem D31 : Dom B0 V S36 T105 31 := Dom.s (m := 30) (n := 0) D30 D30 (O := (fun _ => none)) (fun _ _ _ _ => OrcOk.none _ _) fun args R K r h => by
 unfold sp36 at h; split at h
 · rw [rrr_Check_unf] at h; exact Eq.trans (by kernel_rfl) h
 · cases h

noncomputable def o102_5000_in {R : Type} (K : Ex → St → Option R) (vs : List AV) (hh : H) : Option R := match vs, hh with
 | [Ab v0], [] => ints_has_j5 v0 (fun v1 => K (Ex.ret) (St.mk (spread 24 0 [4] [AV.iface 134 (Ap 0 0)]) [HA [Ai v1]])) (fun _ => K (Ex.normal) (St.mk (spread 24 0 [] []) []))
 | _, _ => none

noncomputable def o102 : Nat → Option PSpec := lkN [(5000, fun st _ K => pickM 24 [12] st (o102_5000_in K))]
noncomputable def q102 : CallF := evFun (V 102) S36 T105 10

noncomputable def c102_5000 : Code := subC [1, 0, 0, 1, 1, 1] (bodyOf Tryd.f102)

theorem p102_5000 : PieceOk (V 102) q102 o102 102 0 (3994, 0, c102_5000) := .s (size := 24) (ss := [12]) (F := @o102_5000_in) (by kernel_rfl) fun R r K vs hh h => by
  unfold o102_5000_in at h; split at h
  · rw [ints_has_j5_unf] at h; exact Eq.trans (by kernel_rfl) h
  · cases h

theorem pc102 : ∀ x ∈ [(3994, 0, c102_5000)], PieceOk (V 102) q102 o102 102 0 x := List.forall_mem_cons.2 ⟨p102_5000, fun _ h => nomatch h⟩

noncomputable def sp102 : Ev.Spec := fun args _ K => match args with
 | ([AV.agg (Blk.any [Ai v0, Ai v1, Ai v2, Fu v3]), Ai v4]) => ints_has v0 v1 v2 v3 v4 (fun v5 => K (AV.iface 134 (AV.fptr (Blk.any [Ai v5])))) (fun _ => K (AV.nilif))
 | _ => none
noncomputable def S102 := addS 102 sp102 S36
theorem D32 : Dom B0 V S102 T105 32 := Dom.s (m := 31) (n := 0) D31 D31 (O := o102) (OrcOk.fn (fn0 := Tryd.f102) (by kernel_rfl) (by kernel_rfl) pc102) fun args R K r h => by
 unfold sp102 at h; split at h
 · rw [ints_has_unf] at h; exact Eq.trans (by kernel_rfl) h
 · cases h

noncomputable def sp80 : Ev.Spec := fun args _ K => match args with
 | ([AV.agg (Blk.any [Ai v0, Ai v1, Ai v2, Fu v3]), Ai v4]) => ints_Get v0 v1 v2 v3 v4 (fun v5 v6 => K (AV.tup [Au v5, Ai v6]))
 | _ => none
noncomputable def S80 := addS 80 sp80 S102
theorem D33 : Dom B0 V S80 T105 33 := Dom.s (m := 32) (n := 0) D32 D32 (O := (fun _ => none)) (fun _ _ _ _ => OrcOk.none _ _) fun args R K r h => by
 unfold sp80 at h; split at h
 · rw [ints_Get_unf] at h; exact Eq.trans (by kernel_rfl) h
 · cases h

noncomputable def sp92 : Ev.Spec := fun args _ K => match args with
 | ([AV.agg (Blk.any [Ai v0, Ai v1, Ai v2, Ai v3, Fu v4, Ai v5, Fu v6, AV.fsl (Blk.ints .i64 v7), AV.fsl (Blk.ints .i64 v8)]), Ai v9, Ai va]) => rrr_get v0 v1 v2 v3 v4 v5 v6 v7 v8 v9 va (fun vb vc => K (AV.tup [Au vb, Ai vc]))
 | _ => none
noncomputable def S92 := addS 92 sp92 S80
theorem D34 : Dom B0 V S92 T105 34 := Dom.s (m := 33) (n := 0) D33 D33 (O := (fun _ => none)) (fun _ _ _ _ => OrcOk.none _ _) fun args R K r h => by
 unfold sp92 at h; split at h
 · rw [rrr_get_unf] at h; exact Eq.trans (by kernel_rfl) h
 · cases h

noncomputable def sp71 : Ev.Spec := fun args _ K => match args with
 | ([Au v0, Ai v1]) => word_Rank v0 v1 (fun v2 => K (Ai v2))
 | _ => none
noncomputable def S71 := addS 71 sp71 S92
theorem D35 : Dom B0 V S71 T105 35 := Dom.s (m := 34) (n := 0) D34 D34 (O := (fun _ => none)) (fun _ _ _ _ => OrcOk.none _ _) fun args R K r h => by
 unfold sp71 at h; split at h
 · rw [word_Rank_unf] at h; exact Eq.trans (by kernel_rfl) h
 · cases h

noncomputable def hs89 : HSpec := fun args h _ K => match args, h with
 | [Ai v0, Au v1, Ai v2, Ap 0 0, Ap 1 0], [HA [Ai v3], HA [Ai v4]] => rrr_ones_1_r v0 v1 v2 v3 v4 (fun v5 v6 v7 => K (Ab v5) ([HA [Ai v6], HA [Ai v7]]))
 | _, _ => none
noncomputable def T89 := addT 89 hs89 T105
theorem D36 : Dom B0 V S71 T89 36 := Dom.t D35 fun args hh R K r h => by
 unfold hs89 at h; split at h
 · rw [rrr_ones_1_r_unf] at h; exact ⟨(fun _ => none), (fun _ _ _ _ => OrcOk.none _ _), Eq.trans (by kernel_rfl) h⟩
 · cases h

noncomputable def sp93 : Ev.Spec := fun args _ K => match args with
 | ([Au v0]) => math_bits_TrailingZeros64 v0 (fun v1 => K (Ai v1))
 | _ => none
noncomputable def S93 := addS 93 sp93 S71
theorem D37 : Dom B0 V S93 T89 37 := Dom.s (m := 36) (n := 0) D36 D36 (O := (fun _ => none)) (fun _ _ _ _ => OrcOk.none _ _) fun args R K r h => by
 unfold sp93 at h; split at h
 · rw [math_bits_TrailingZeros64_unf] at h; exact Eq.trans (by kernel_rfl) h
 · cases h

noncomputable def o68_4000_in {R : Type} (K : Ex → St → Option R) (vs : List AV) (hh : H) : Option R := match vs, hh with
 | [Au v0, Ai v1], [] => word_Select_j4 v0 v1 (fun v2 => K (Ex.ret) (St.mk (spread 23 0 [4] [Ai v2]) []))
 | _, _ => none

noncomputable def o68_5400_in {R : Type} (K : Ex → St → Option R) (vs : List AV) (hh : H) : Option R := match vs, hh with
 | [Au v0, Ai v1, Ai v2], [] => word_Select_l5 v0 v1 v2 (fun v3 => K (Ex.exit 0) (St.mk (spread 23 0 [0] [Au v3]) []))
 | _, _ => none

noncomputable def o68 : Nat → Option PSpec := lkN [(4000, fun st _ K => pickM 23 [0, 1] st (o68_4000_in K)), (5400, fun st _ K => pickM 23 [0, 13, 14] st (o68_5400_in K))]
noncomputable def q68 : CallF := evFun (V 68) S93 T89 10

noncomputable def c68_4000 : Code := subC [1, 1] (bodyOf Tryd.f68)

noncomputable def c68_5400 : Code := subC [1, 1, 0, 1, 0, 0] (bodyOf Tryd.f68)

noncomputable def lp68_5400 {R : Type} (N : Nat) (st : St) (K : Ex → St → Option R) : Option R := evLoop (norm ((V 68).keep 68 (Ev.keyOf c68_5400 * 1000 + 400)) 0) (evCode (V 68) q68 o68 68 0 3994 c68_5400) N st (kOut (V 68) 68 0 (Ev.keyOf c68_5400 * 1000 + 401) K)

theorem word_Select_l5_L_eq {R : Type} (K : Ex → St → Option R) : ∀ N : Nat, (fun (v0 v1 v2 : Int) => lp68_5400 N (St.mk (spread 23 0 [0, 13, 14] [Au v0, Ai v1, Ai v2]) []) K) = word_Select_l5_L (fun v3 => K (Ex.exit 0) (St.mk (spread 23 0 [0] [Au v3]) [])) N
  | 0 => by funext v0 v1 v2; rfl
  | N + 1 => by
    funext v0 v1 v2
    simp only [word_Select_l5_L]
    rw [← word_Select_l5_L_eq K N]
    kernel_rfl

theorem p68_4000 : PieceOk (V 68) q68 o68 68 0 (3998, 0, c68_4000) := .s (size := 23) (ss := [0, 1]) (F := @o68_4000_in) (by kernel_rfl) fun R r K vs hh h => by
  unfold o68_4000_in at h; split at h
  · rw [word_Select_j4_unf] at h; exact Eq.trans (by kernel_rfl) h
  · cases h

theorem p68_5400 : PieceOk (V 68) q68 o68 68 0 (3994, 1, c68_5400) := .l (size := 23) (ss := [0, 13, 14]) (F := @o68_5400_in) (by kernel_rfl) (by kernel_rfl) fun R r K vs hh h => by
  unfold o68_5400_in at h; split at h
  · rw [word_Select_l5_unf] at h; unfold word_Select_l5_B at h; rw [← word_Select_l5_L_eq K NR] at h; exact h
  · cases h

theorem pc68 : ∀ x ∈ [(3998, 0, c68_4000), (3994, 1, c68_5400)], PieceOk (V 68) q68 o68 68 0 x := List.forall_mem_cons.2 ⟨p68_4000, List.forall_mem_cons.2 ⟨p68_5400, fun _ h => nomatch h⟩⟩

noncomputable def sp68 : Ev.Spec := fun args _ K => match args with
 | ([Au v0, Ai v1]) => word_Select v0 v1 (fun v2 => K (Ai v2))
 | _ => none
noncomputable def S68 := addS 68 sp68 S93
theorem D38 : Dom B0 V S68 T89 38 := Dom.s (m := 37) (n := 0) D37 D37 (O := o68) (OrcOk.fn (fn0 := Tryd.f68) (by kernel_rfl) (by kernel_rfl) pc68) fun args R K r h => by
 unfold sp68 at h; split at h
 · rw [word_Select_unf] at h; exact Eq.trans (by kernel_rfl) h
 · cases h

noncomputable def o67r3_4000_in {R : Type} (K : Ex → St → Option R) (vs : List AV) (hh : H) : Option R := match vs, hh with
 | [Ai v0, Au v1, Ai v2, Ap 1 0, Ap 2 0], [HA [Ab v3], HA [Ai v4], HA [Ai v5]] => rrr_Select_1_j4 v0 v1 v2 v3 v4 v5 (fun v6 v7 v8 v9 => K (Ex.ret) (St.mk (spread 34 0 [9] [Ab v6]) [HA [Ab v7], HA [Ai v8], HA [Ai v9]]))
 | _, _ => none

noncomputable def o67r3 : Nat → Option PSpec := lkN [(4000, fun st _ K => pickM 34 [0, 1, 2, 4, 5] st (o67r3_4000_in K))]
noncomputable def q67r3 : CallF := evFun (V 67) S68 T89 10

noncomputable def c67r3_4000 : Code := subC [1, 1] (bodyOf Tryd.f67)

theorem p67r3_4000 : PieceOk (V 67) q67r3 o67r3 67 3 (3998, 0, c67r3_4000) := .s (size := 34) (ss := [0, 1, 2, 4, 5]) (F := @o67r3_4000_in) (by kernel_rfl) fun R r K vs hh h => by
  unfold o67r3_4000_in at h; split at h
  · rw [rrr_Select_1_j4_unf] at h; exact Eq.trans (by kernel_rfl) h
  · cases h

theorem pc67r3 : ∀ x ∈ [(3998, 0, c67r3_4000)], PieceOk (V 67) q67r3 o67r3 67 3 x := List.forall_mem_cons.2 ⟨p67r3_4000, fun _ h => nomatch h⟩

noncomputable def hs67 : HSpec := fun args h _ K => match args, h with
 | [Ai v0, Au v1, Ai v2, Ap 0 0, Ap 1 0, Ap 2 0], [HA [Ab v3], HA [Ai v4], HA [Ai v5]] => rrr_Select_1_r v0 v1 v2 v3 v4 v5 (fun v6 v7 v8 v9 => K (Ab v6) ([HA [Ab v7], HA [Ai v8], HA [Ai v9]]))
 | _, _ => none
noncomputable def T67 := addT 67 hs67 T89
theorem D39 : Dom B0 V S68 T67 39 := Dom.t D38 fun args hh R K r h => by
 unfold hs67 at h; split at h
 · rw [rrr_Select_1_r_unf] at h; exact ⟨o67r3, (OrcOk.fn (fn0 := Tryd.f67) (by kernel_rfl) (by kernel_rfl) pc67r3), Eq.trans (by kernel_rfl) h⟩
 · cases h

noncomputable def o66r2_5400_in {R : Type} (K : Ex → St → Option R) (vs : List AV) (hh : H) : Option R := match vs, hh with
 | [AV.fn 89 [Ap 0 0, Ap 1 0], Ap 2 0, Ai v0, Ai v1, Ai v2], [HA [Ai v3], HA [Ai v4], HA [Ai v5, Ai v6, Ai v7, Ai v8, Fu v9, Ai va, Fu vb, AV.fsl (Blk.ints .i64 vc), AV.fsl (Blk.ints .i64 vd)]] => rrr_walk_l5 v0 v1 v2 v3 v4 v5 v6 v7 v8 v9 va vb vc vd (fun ve vf => K (Ex.ret) (St.mk (spread 53 0 [] []) [HA [Ai ve], HA [Ai vf]])) (fun ve vf => K (Ex.exit 0) (St.mk (spread 53 0 [] []) [HA [Ai ve], HA [Ai vf]]))
 | _, _ => none

noncomputable def o66r2 : Nat → Option PSpec := lkN [(5400, fun st _ K => pickM 53 [2, 3, 7, 8, 9] st (o66r2_5400_in K))]
noncomputable def q66r2 : CallF := evFun (V 66) S68 T67 10

noncomputable def c66r2_5400 : Code := subC [1, 1, 1, 1, 0, 0] (bodyOf Tryd.f66)

noncomputable def lp66r2_5400 {R : Type} (N : Nat) (st : St) (K : Ex → St → Option R) : Option R := evLoop (norm ((V 66).keep 66 (Ev.keyOf c66r2_5400 * 1000 + 400)) 2) (evCode (V 66) q66r2 o66r2 66 2 3994 c66r2_5400) N st (kOut (V 66) 66 2 (Ev.keyOf c66r2_5400 * 1000 + 401) K)

theorem rrr_walk_l5_L_eq {R : Type} (K : Ex → St → Option R) : ∀ N : Nat, (fun (v0 v1 v2 v3 v4 v5 v6 v7 v8 : Int) (v9 : List Int) (va : Int) (vb vc vd : List Int) => lp66r2_5400 N (St.mk (spread 53 0 [2, 3, 7, 8, 9] [AV.fn 89 [Ap 0 0, Ap 1 0], Ap 2 0, Ai v0, Ai v1, Ai v2]) [HA [Ai v3], HA [Ai v4], HA [Ai v5, Ai v6, Ai v7, Ai v8, Fu v9, Ai va, Fu vb, AV.fsl (Blk.ints .i64 vc), AV.fsl (Blk.ints .i64 vd)]]) K) = rrr_walk_l5_L (fun ve vf => K (Ex.ret) (St.mk (spread 53 0 [] []) [HA [Ai ve], HA [Ai vf]])) (fun ve vf => K (Ex.exit 0) (St.mk (spread 53 0 [] []) [HA [Ai ve], HA [Ai vf]])) N
  | 0 => by funext v0 v1 v2 v3 v4 v5 v6 v7 v8 v9 va vb vc vd; rfl
  | N + 1 => by
    funext v0 v1 v2 v3 v4 v5 v6 v7 v8 v9 va vb vc vd
    simp only [rrr_walk_l5_L]
    rw [← rrr_walk_l5_L_eq K N]
    kernel_rfl

theorem p66r2_5400 : PieceOk (V 66) q66r2 o66r2 66 2 (3994, 1, c66r2_5400) := .l (size := 53) (ss := [2, 3, 7, 8, 9]) (F := @o66r2_5400_in) (by kernel_rfl) (by kernel_rfl) fun R r K vs hh h => by
  unfold o66r2_5400_in at h; split at h
  · rw [rrr_walk_l5_unf] at h; unfold rrr_walk_l5_B at h; rw [← rrr_walk_l5_L_eq K NR] at h; exact h
  · cases h

theorem pc66r2 : ∀ x ∈ [(3994, 1, c66r2_5400)], PieceOk (V 66) q66r2 o66r2 66 2 x := List.forall_mem_cons.2 ⟨p66r2_5400, fun _ h => nomatch h⟩

noncomputable def o66r3_5400_in {R : Type} (K : Ex → St → Option R) (vs : List AV) (hh : H) : Option R := match vs, hh with
 | [AV.fn 67 [Ap 0 0, Ap 1 0, Ap 2 0], Ap 3 0, Ai v0, Ai v1, Ai v2], [HA [Ab v3], HA [Ai v4], HA [Ai v5], HA [Ai v6, Ai v7, Ai v8, Ai v9, Fu va, Ai vb, Fu vc, AV.fsl (Blk.ints .i64 vd), AV.fsl (Blk.ints .i64 ve)]] => rrr_walk_l5_1 v0 v1 v2 v3 v4 v5 v6 v7 v8 v9 va vb vc vd ve (fun vf vg vh => K (Ex.ret) (St.mk (spread 53 0 [] []) [HA [Ab vf], HA [Ai vg], HA [Ai vh]])) (fun vf vg vh => K (Ex.exit 0) (St.mk (spread 53 0 [] []) [HA [Ab vf], HA [Ai vg], HA [Ai vh]]))
 | _, _ => none

noncomputable def o66r3 : Nat → Option PSpec := lkN [(5400, fun st _ K => pickM 53 [2, 3, 7, 8, 9] st (o66r3_5400_in K))]
noncomputable def q66r3 : CallF := evFun (V 66) S68 T67 10

noncomputable def c66r3_5400 : Code := subC [1, 1, 1, 1, 0, 0] (bodyOf Tryd.f66)

noncomputable def lp66r3_5400 {R : Type} (N : Nat) (st : St) (K : Ex → St → Option R) : Option R := evLoop (norm ((V 66).keep 66 (Ev.keyOf c66r3_5400 * 1000 + 400)) 3) (evCode (V 66) q66r3 o66r3 66 3 3994 c66r3_5400) N st (kOut (V 66) 66 3 (Ev.keyOf c66r3_5400 * 1000 + 401) K)

theorem rrr_walk_l5_1_L_eq {R : Type} (K : Ex → St → Option R) : ∀ N : Nat, (fun (v0 v1 v2 : Int) (v3 : Bool) (v4 v5 v6 v7 v8 v9 : Int) (va : List Int) (vb : Int) (vc vd ve : List Int) => lp66r3_5400 N (St.mk (spread 53 0 [2, 3, 7, 8, 9] [AV.fn 67 [Ap 0 0, Ap 1 0, Ap 2 0], Ap 3 0, Ai v0, Ai v1, Ai v2]) [HA [Ab v3], HA [Ai v4], HA [Ai v5], HA [Ai v6, Ai v7, Ai v8, Ai v9, Fu va, Ai vb, Fu vc, AV.fsl (Blk.ints .i64 vd), AV.fsl (Blk.ints .i64 ve)]]) K) = rrr_walk_l5_1_L (fun vf vg vh => K (Ex.ret) (St.mk (spread 53 0 [] []) [HA [Ab vf], HA [Ai vg], HA [Ai vh]])) (fun vf vg vh => K (Ex.exit 0) (St.mk (spread 53 0 [] []) [HA [Ab vf], HA [Ai vg], HA [Ai vh]])) N
  | 0 => by funext v0 v1 v2 v3 v4 v5 v6 v7 v8 v9 va vb vc vd ve; rfl
  | N + 1 => by
    funext v0 v1 v2 v3 v4 v5 v6 v7 v8 v9 va vb vc vd ve
    simp only [rrr_walk_l5_1_L]
    rw [← rrr_walk_l5_1_L_eq K N]
    kernel_rfl

theorem p66r3_5400 : PieceOk (V 66) q66r3 o66r3 66 3 (3994, 1, c66r3_5400) := .l (size := 53) (ss := [2, 3, 7, 8, 9]) (F := @o66r3_5400_in) (by kernel_rfl) (by kernel_rfl) fun R r K vs hh h => by
  unfold o66r3_5400_in at h; split at h
  · rw [rrr_walk_l5_1_unf] at h; unfold rrr_walk_l5_1_B at h; rw [← rrr_walk_l5_1_L_eq K NR] at h; exact h
  · cases h

theorem pc66r3 : ∀ x ∈ [(3994, 1, c66r3_5400)], PieceOk (V 66) q66r3 o66r3 66 3 x := List.forall_mem_cons.2 ⟨p66r3_5400, fun _ h => nomatch h⟩

noncomputable def hs66 : HSpec := fun args h _ K => match args, h with
 | [AV.agg (Blk.any [Ai v0, Ai v1, Ai v2, Ai v3, Fu v4, Ai v5, Fu v6, AV.fsl (Blk.ints .i64 v7), AV.fsl (Blk.ints .i64 v8)]), Ai v9, AV.fn 89 [Ap 0 0, Ap 1 0]], [HA [Ai va], HA [Ai vb]] => rrr_walk_r v0 v1 v2 v3 v4 v5 v6 v7 v8 v9 va vb (fun vc vd => K (AV.tup []) ([HA [Ai vc], HA [Ai vd]]))
 | [AV.agg (Blk.any [Ai ve, Ai vf, Ai vg, Ai vh, Fu vi, Ai vj, Fu vk, AV.fsl (Blk.ints .i64 vl), AV.fsl (Blk.ints .i64 vm)]), Ai vn, AV.fn 67 [Ap 0 0, Ap 1 0, Ap 2 0]], [HA [Ab vo], HA [Ai vp], HA [Ai vq]] => rrr_walk_r_1 ve vf vg vh vi vj vk vl vm vn vo vp vq (fun vc vd vr => K (AV.tup []) ([HA [Ab vc], HA [Ai vd], HA [Ai vr]]))
 | _, _ => none
noncomputable def T66 := addT 66 hs66 T67
theorem D40 : Dom B0 V S68 T66 40 := Dom.t D39 fun args hh R K r h => by
 unfold hs66 at h; split at h
 · rw [rrr_walk_r_unf] at h; exact ⟨o66r2, (OrcOk.fn (fn0 := Tryd.f66) (by kernel_rfl) (by kernel_rfl) pc66r2), Eq.trans (by kernel_rfl) h⟩
 · rw [rrr_walk_r_1_unf] at h; exact ⟨o66r3, (OrcOk.fn (fn0 := Tryd.f66) (by kernel_rfl) (by kernel_rfl) pc66r3), Eq.trans (by kernel_rfl) h⟩
 · cases h

noncomputable def sp64 : Ev.Spec := fun args _ K => match args with
 | ([AV.agg (Blk.any [Ai v0, Ai v1, Ai v2, Ai v3, Fu v4, Ai v5, Fu v6, AV.fsl (Blk.ints .i64 v7), AV.fsl (Blk.ints .i64 v8)]), Ai v9]) => rrr_ones v0 v1 v2 v3 v4 v5 v6 v7 v8 v9 (fun va => K (Ai va))
 | _ => none
noncomputable def S64 := addS 64 sp64 S68
theorem D41 : Dom B0 V S64 T66 41 := Dom.s (m := 40) (n := 0) D40 D40 (O := (fun _ => none)) (fun _ _ _ _ => OrcOk.none _ _) fun args R K r h => by
 unfold sp64 at h; split at h
 · rw [rrr_ones_unf] at h; exact Eq.trans (by kernel_rfl) h
 · cases h

noncomputable def o34_6000_in {R : Type} (K : Ex → St → Option R) (vs : List AV) (hh : H) : Option R := match vs, hh with
 | [Ai v0, Ap 0 0], [HA [Ai v1, Ai v2, Ai v3, Ai v4, Fu v5, Ai v6, Fu v7, AV.fsl (Blk.ints .i64 v8), AV.fsl (Blk.ints .i64 v9)]] => rrr_Access_j6 v0 v1 v2 v3 v4 v5 v6 v7 v8 v9 (fun va vb => K (Ex.ret) (St.mk (spread 27 0 [4, 5] [Ab va, Ai vb]) []))
 | _, _ => none

noncomputable def o34 : Nat → Option PSpec := lkN [(6000, fun st _ K => pickM 27 [1, 2] st (o34_6000_in K))]
noncomputable def q34 : CallF := evFun (V 34) S64 T66 10

noncomputable def c34_6000 : Code := subC [1, 1] (bodyOf Tryd.f34)

theorem p34_6000 : PieceOk (V 34) q34 o34 34 0 (3998, 0, c34_6000) := .s (size := 27) (ss := [1, 2]) (F := @o34_6000_in) (by kernel_rfl) fun R r K vs hh h => by
  unfold o34_6000_in at h; split at h
  · rw [rrr_Access_j6_unf] at h; exact Eq.trans (by kernel_rfl) h
  · cases h

theorem pc34 : ∀ x ∈ [(3998, 0, c34_6000)], PieceOk (V 34) q34 o34 34 0 x := List.forall_mem_cons.2 ⟨p34_6000, fun _ h => nomatch h⟩

noncomputable def sp34 : Ev.Spec := fun args _ K => match args with
 | ([AV.agg (Blk.any [Ai v0, Ai v1, Ai v2, Ai v3, Fu v4, Ai v5, Fu v6, AV.fsl (Blk.ints .i64 v7), AV.fsl (Blk.ints .i64 v8)]), Ai v9]) => rrr_Access v0 v1 v2 v3 v4 v5 v6 v7 v8 v9 (fun va vb => K (AV.tup [Ab va, Ai vb]))
 | _ => none
noncomputable def S34 := addS 34 sp34 S64
theorem D42 : Dom B0 V S34 T66 42 := Dom.s (m := 41) (n := 0) D41 D41 (O := o34) (OrcOk.fn (fn0 := Tryd.f34) (by kernel_rfl) (by kernel_rfl) pc34) fun args R K r h => by
 unfold sp34 at h; split at h
 · rw [rrr_Access_unf] at h; exact Eq.trans (by kernel_rfl) h
 · cases h

noncomputable def sp63 : Ev.Spec := fun args _ K => match args with
 | ([AV.agg (Blk.any [Ai v0, Ai v1, Ai v2, Ai v3, Fu v4, Ai v5, Fu v6, AV.fsl (Blk.ints .i64 v7), AV.fsl (Blk.ints .i64 v8)]), Ab v9, Ai va]) => rrr_ahead v0 v1 v2 v3 v4 v5 v6 v7 v8 v9 va (fun vb => K (Ai vb))
 | _ => none
noncomputable def S63 := addS 63 sp63 S34
theorem D43 : Dom B0 V S63 T66 43 := Dom.s (m := 42) (n := 0) D42 D42 (O := (fun _ => none)) (fun _ _ _ _ => OrcOk.none _ _) fun args R K r h => by
 unfold sp63 at h; split at h
 · rw [rrr_ahead_unf] at h; exact Eq.trans (by kernel_rfl) h
 · cases h

noncomputable def o33_6000_in {R : Type} (K : Ex → St → Option R) (vs : List AV) (hh : H) : Option R := match vs, hh with
 | [Ab v0, Ai v1, Ap 0 0], [HA [Ai v2, Ai v3, Ai v4, Ai v5, Fu v6, Ai v7, Fu v8, AV.fsl (Blk.ints .i64 v9), AV.fsl (Blk.ints .i64 va)]] => rrr_Rank_j6 v0 v1 v2 v3 v4 v5 v6 v7 v8 v9 va (fun vb vc => K (Ex.ret) (St.mk (spread 25 0 [6, 7] [Ai vb, Ai vc]) []))
 | _, _ => none

noncomputable def o33 : Nat → Option PSpec := lkN [(6000, fun st _ K => pickM 25 [1, 2, 3] st (o33_6000_in K))]
noncomputable def q33 : CallF := evFun (V 33) S63 T66 10

noncomputable def c33_6000 : Code := subC [1, 1] (bodyOf Tryd.f33)

theorem p33_6000 : PieceOk (V 33) q33 o33 33 0 (3998, 0, c33_6000) := .s (size := 25) (ss := [1, 2, 3]) (F := @o33_6000_in) (by kernel_rfl) fun R r K vs hh h => by
  unfold o33_6000_in at h; split at h
  · rw [rrr_Rank_j6_unf] at h; exact Eq.trans (by kernel_rfl) h
  · cases h

theorem pc33 : ∀ x ∈ [(3998, 0, c33_6000)], PieceOk (V 33) q33 o33 33 0 x := List.forall_mem_cons.2 ⟨p33_6000, fun _ h => nomatch h⟩

noncomputable def sp33 : Ev.Spec := fun args _ K => match args with
 | ([AV.agg (Blk.any [Ai v0, Ai v1, Ai v2, Ai v3, Fu v4, Ai v5, Fu v6, AV.fsl (Blk.ints .i64 v7), AV.fsl (Blk.ints .i64 v8)]), Ab v9, Ai va]) => rrr_Rank v0 v1 v2 v3 v4 v5 v6 v7 v8 v9 va (fun vb vc => K (AV.tup [Ai vb, Ai vc]))
 | _ => none
noncomputable def S33 := addS 33 sp33 S63
theorem D44 : Dom B0 V S33 T66 44 := Dom.s (m := 43) (n := 0) D43 D43 (O := o33) (OrcOk.fn (fn0 := Tryd.f33) (by kernel_rfl) (by kernel_rfl) pc33) fun args R K r h => by
 unfold sp33 at h; split at h
 · rw [rrr_Rank_unf] at h; exact Eq.trans (by kernel_rfl) h
 · cases h

noncomputable def o38_6000_in {R : Type} (K : Ex → St → Option R) (vs : List AV) (hh : H) : Option R := match vs, hh with
 | [Ap 0 0, Ap 1 0, Ap 2 0], [HA [Ai v0, Ai v1, Ai v2, Ai v3, Fu v4, Ai v5, Fu v6, AV.fsl (Blk.ints .i64 v7), AV.fsl (Blk.ints .i64 v8)], HA [Ab v9], HA [Ai va]] => rrr_Select_j6 v0 v1 v2 v3 v4 v5 v6 v7 v8 v9 va (fun vb vc => K (Ex.ret) (St.mk (spread 51 0 [6, 7] [Ai vb, Ai vc]) []))
 | _, _ => none

noncomputable def o38_7400_in {R : Type} (K : Ex → St → Option R) (vs : List AV) (hh : H) : Option R := match vs, hh with
 | [Ap 0 0, Ap 1 0, Ap 2 0, Ai v0], [HA [Ai v1, Ai v2, Ai v3, Ai v4, Fu v5, Ai v6, Fu v7, AV.fsl (Blk.ints .i64 v8), AV.fsl (Blk.ints .i64 v9)], HA [Ab va], HA [Ai vb]] => rrr_Select_l7 v0 v1 v2 v3 v4 v5 v6 v7 v8 v9 va vb (fun vc vd ve vf vg vh vi vj vk vl vm vn => K (Ex.exit 1) (St.mk (spread 51 0 [3, 4, 5, 8] [Ap 0 0, Ap 1 0, Ap 2 0, Ai vc]) [HA [Ai vd, Ai ve, Ai vf, Ai vg, Fu vh, Ai vi, Fu vj, AV.fsl (Blk.ints .i64 vk), AV.fsl (Blk.ints .i64 vl)], HA [Ab vm], HA [Ai vn]]))
 | _, _ => none

noncomputable def o38 : Nat → Option PSpec := lkN [(6000, fun st _ K => pickM 51 [3, 4, 5] st (o38_6000_in K)), (7400, fun st _ K => pickM 51 [3, 4, 5, 8] st (o38_7400_in K))]
noncomputable def q38 : CallF := evFun (V 38) S33 T66 10

noncomputable def c38_6000 : Code := subC [1, 1] (bodyOf Tryd.f38)

noncomputable def c38_7400 : Code := subC [1, 1, 1, 0, 0, 0] (bodyOf Tryd.f38)

noncomputable def lp38_7400 {R : Type} (N : Nat) (st : St) (K : Ex → St → Option R) : Option R := evLoop (norm ((V 38).keep 38 (Ev.keyOf c38_7400 * 1000 + 400)) 0) (evCode (V 38) q38 o38 38 0 3994 c38_7400) N st (kOut (V 38) 38 0 (Ev.keyOf c38_7400 * 1000 + 401) K)

theorem rrr_Select_l7_L_eq {R : Type} (K : Ex → St → Option R) : ∀ N : Nat, (fun (v0 v1 v2 v3 v4 : Int) (v5 : List Int) (v6 : Int) (v7 v8 v9 : List Int) (va : Bool) (vb : Int) => lp38_7400 N (St.mk (spread 51 0 [3, 4, 5, 8] [Ap 0 0, Ap 1 0, Ap 2 0, Ai v0]) [HA [Ai v1, Ai v2, Ai v3, Ai v4, Fu v5, Ai v6, Fu v7, AV.fsl (Blk.ints .i64 v8), AV.fsl (Blk.ints .i64 v9)], HA [Ab va], HA [Ai vb]]) K) = rrr_Select_l7_L (fun vc vd ve vf vg vh vi vj vk vl vm vn => K (Ex.exit 1) (St.mk (spread 51 0 [3, 4, 5, 8] [Ap 0 0, Ap 1 0, Ap 2 0, Ai vc]) [HA [Ai vd, Ai ve, Ai vf, Ai vg, Fu vh, Ai vi, Fu vj, AV.fsl (Blk.ints .i64 vk), AV.fsl (Blk.ints .i64 vl)], HA [Ab vm], HA [Ai vn]])) N
  | 0 => by funext v0 v1 v2 v3 v4 v5 v6 v7 v8 v9 va vb; rfl
  | N + 1 => by
    funext v0 v1 v2 v3 v4 v5 v6 v7 v8 v9 va vb
    simp only [rrr_Select_l7_L]
    rw [← rrr_Select_l7_L_eq K N]
    kernel_rfl

theorem p38_6000 : PieceOk (V 38) q38 o38 38 0 (3998, 0, c38_6000) := .s (size := 51) (ss := [3, 4, 5]) (F := @o38_6000_in) (by kernel_rfl) fun R r K vs hh h => by
  unfold o38_6000_in at h; split at h
  · rw [rrr_Select_j6_unf] at h; exact Eq.trans (by kernel_rfl) h
  · cases h

theorem p38_7400 : PieceOk (V 38) q38 o38 38 0 (3994, 1, c38_7400) := .l (size := 51) (ss := [3, 4, 5, 8]) (F := @o38_7400_in) (by kernel_rfl) (by kernel_rfl) fun R r K vs hh h => by
  unfold o38_7400_in at h; split at h
  · rw [rrr_Select_l7_unf] at h; unfold rrr_Select_l7_B at h; rw [← rrr_Select_l7_L_eq K NR] at h; exact h
  · cases h

theorem pc38 : ∀ x ∈ [(3998, 0, c38_6000), (3994, 1, c38_7400)], PieceOk (V 38) q38 o38 38 0 x := List.forall_mem_cons.2 ⟨p38_6000, List.forall_mem_cons.2 ⟨p38_7400, fun _ h => nomatch h⟩⟩

noncomputable def sp38 : Ev.Spec := fun args _ K => match args with
 | ([AV.agg (Blk.any [Ai v0, Ai v1, Ai v2, Ai v3, Fu v4, Ai v5, Fu v6, AV.fsl (Blk.ints .i64 v7), AV.fsl (Blk.ints .i64 v8)]), Ab v9, Ai va]) => rrr_Select v0 v1 v2 v3 v4 v5 v6 v7 v8 v9 va (fun vb vc => K (AV.tup [Ai vb, Ai vc]))
 | _ => none
noncomputable def S38 := addS 38 sp38 S33
theorem D45 : Dom B0 V S38 T66 45 := Dom.s (m := 44) (n := 0) D44 D44 (O := o38) (OrcOk.fn (fn0 := Tryd.f38) (by kernel_rfl) (by kernel_rfl) pc38) fun args R K r h => by
 unfold sp38 at h; split at h
 · rw [rrr_Select_unf] at h; exact Eq.trans (by kernel_rfl) h
 · cases h

noncomputable def sp35 : Ev.Spec := fun args _ K => match args with
 | ([AV.agg (Blk.any [Ai v0, Ai v1, Ai v2, Ai v3, Fu v4, Ai v5, Fu v6, AV.fsl (Blk.ints .i64 v7), AV.fsl (Blk.ints .i64 v8)])]) => rrr_Size v0 v1 v2 v3 v4 v5 v6 v7 v8 (fun v9 => K (Ai v9))
 | _ => none
noncomputable def S35 := addS 35 sp35 S38
theorem D46 : Dom B0 V S35 T66 46 := Dom.s (m := 45) (n := 0) D45 D45 (O := (fun _ => none)) (fun _ _ _ _ => OrcOk.none _ _) fun args R K r h => by
 unfold sp35 at h; split at h
 · rw [rrr_Size_unf] at h; exact Eq.trans (by kernel_rfl) h
 · cases h

noncomputable def sp37 : Ev.Spec := fun args _ K => match args with
 | ([AV.agg (Blk.any [Ai v0, Ai v1, Ai v2, Ai v3, Fu v4, Ai v5, Fu v6, AV.fsl (Blk.ints .i64 v7), AV.fsl (Blk.ints .i64 v8)])]) => rrr_Bits v0 v1 v2 v3 v4 v5 v6 v7 v8 (fun v9 va => K (AV.agg (Blk.any [Ai v9, Fu va])))
 | _ => none
noncomputable def S37 := addS 37 sp37 S35
theorem D47 : Dom B0 V S37 T66 47 := Dom.s (m := 46) (n := 0) D46 D46 (O := (fun _ => none)) (fun _ _ _ _ => OrcOk.none _ _) fun args R K r h => by
 unfold sp37 at h; split at h
 · rw [rrr_Bits_unf] at h; exact Eq.trans (by kernel_rfl) h
 · cases h

noncomputable def o28_4000_in {R : Type} (K : Ex → St → Option R) (vs : List AV) (hh : H) : Option R := match vs, hh with
 | [Ap 0 0, Ap 1 0], [HA [Ai v0, Fu v1], HA [Ai v2, Fu v3]] => haystackref02_Same_j4 v0 v1 v2 v3 (fun v4 => K (Ex.ret) (St.mk (spread 38 0 [4] [Ab v4]) []))
 | _, _ => none

noncomputable def o28_5400_in {R : Type} (K : Ex → St → Option R) (vs : List AV) (hh : H) : Option R := match vs, hh with
 | [Ap 0 0, Ap 1 0, Ai v0], [HA [Ai v1, Fu v2], HA [Ai v3, Fu v4]] => haystackref02_Same_l5 v0 v1 v2 v3 v4 (fun v5 => K (Ex.ret) (St.mk (spread 38 0 [4] [Ab v5]) [])) (fun _ => K (Ex.exit 0) (St.mk (spread 38 0 [] []) []))
 | _, _ => none

noncomputable def o28 : Nat → Option PSpec := lkN [(4000, fun st _ K => pickM 38 [2, 3] st (o28_4000_in K)), (5400, fun st _ K => pickM 38 [2, 3, 5] st (o28_5400_in K))]
noncomputable def q28 : CallF := evFun (V 28) S37 T66 10

noncomputable def c28_4000 : Code := subC [1, 1] (bodyOf Tryd.f28)

noncomputable def c28_5400 : Code := subC [1, 1, 0, 1, 0, 0] (bodyOf Tryd.f28)

noncomputable def lp28_5400 {R : Type} (N : Nat) (st : St) (K : Ex → St → Option R) : Option R := evLoop (norm ((V 28).keep 28 (Ev.keyOf c28_5400 * 1000 + 400)) 0) (evCode (V 28) q28 o28 28 0 3994 c28_5400) N st (kOut (V 28) 28 0 (Ev.keyOf c28_5400 * 1000 + 401) K)

theorem haystackref02_Same_l5_L_eq {R : Type} (K : Ex → St → Option R) : ∀ N : Nat, (fun (v0 v1 : Int) (v2 : List Int) (v3 : Int) (v4 : List Int) => lp28_5400 N (St.mk (spread 38 0 [2, 3, 5] [Ap 0 0, Ap 1 0, Ai v0]) [HA [Ai v1, Fu v2], HA [Ai v3, Fu v4]]) K) = haystackref02_Same_l5_L (fun v5 => K (Ex.ret) (St.mk (spread 38 0 [4] [Ab v5]) [])) (fun _ => K (Ex.exit 0) (St.mk (spread 38 0 [] []) [])) N
  | 0 => by funext v0 v1 v2 v3 v4; rfl
  | N + 1 => by
    funext v0 v1 v2 v3 v4
    simp only [haystackref02_Same_l5_L]
    rw [← haystackref02_Same_l5_L_eq K N]
    kernel_rfl

theorem p28_4000 : PieceOk (V 28) q28 o28 28 0 (3998, 0, c28_4000) := .s (size := 38) (ss := [2, 3]) (F := @o28_4000_in) (by kernel_rfl) fun R r K vs hh h => by
  unfold o28_4000_in at h; split at h
  · rw [haystackref02_Same_j4_unf] at h; exact Eq.trans (by kernel_rfl) h
  · cases h

theorem p28_5400 : PieceOk (V 28) q28 o28 28 0 (3994, 1, c28_5400) := .l (size := 38) (ss := [2, 3, 5]) (F := @o28_5400_in) (by kernel_rfl) (by kernel_rfl) fun R r K vs hh h => by
  unfold o28_5400_in at h; split at h
  · rw [haystackref02_Same_l5_unf] at h; unfold haystackref02_Same_l5_B at h; rw [← haystackref02_Same_l5_L_eq K NR] at h; exact h
  · cases h

theorem pc28 : ∀ x ∈ [(3998, 0, c28_4000), (3994, 1, c28_5400)], PieceOk (V 28) q28 o28 28 0 x := List.forall_mem_cons.2 ⟨p28_4000, List.forall_mem_cons.2 ⟨p28_5400, fun _ h => nomatch h⟩⟩

noncomputable def sp28 : Ev.Spec := fun args _ K => match args with
 | ([AV.agg (Blk.any [Ai v0, Fu v1]), AV.agg (Blk.any [Ai v2, Fu v3])]) => haystackref02_Same v0 v1 v2 v3 (fun v4 => K (Ab v4))
 | _ => none
noncomputable def S28 := addS 28 sp28 S37
theorem D48 : Dom B0 V S28 T66 48 := Dom.s (m := 47) (n := 0) D47 D47 (O := o28) (OrcOk.fn (fn0 := Tryd.f28) (by kernel_rfl) (by kernel_rfl) pc28) fun args R K r h => by
 unfold sp28 at h; split at h
 · rw [haystackref02_Same_unf] at h; exact Eq.trans (by kernel_rfl) h
 · cases h

noncomputable def o31_4000_in {R : Type} (K : Ex → St → Option R) (vs : List AV) (hh : H) : Option R := match vs, hh with
 | [Ap 0 0, Ai v0, Ab v1, Ai v2], [HA [Ai v3, Ai v4, Ai v5, Ai v6, Fu v7, Ai v8, Fu v9, AV.fsl (Blk.ints .i64 va), AV.fsl (Blk.ints .i64 vb)]] => haystacklaw08_heads_j4 v0 v1 v2 v3 v4 v5 v6 v7 v8 v9 va vb (fun vc => K (Ex.ret) (St.mk (spread 108 0 [0] [Ab vc]) []))
 | _, _ => none

noncomputable def o31 : Nat → Option PSpec := lkN [(4000, fun st _ K => pickM 108 [1, 2, 3, 4] st (o31_4000_in K))]
noncomputable def q31 : CallF := evFun (V 31) S28 T66 10

noncomputable def c31_4000 : Code := subC [1, 1, 1] (bodyOf Tryd.f31)

theorem haystacklaw08_heads_j4_eq {R : Type} (K : Ex → St → Option R) (v0 : Int) (v1 : Bool) (v2 v3 v4 v5 v6 : Int) (v7 : List Int) (v8 : Int) (v9 va vb : List Int) : evCode (V 31) q31 o31 31 0 3997 c31_4000 (St.mk (spread 108 0 [1, 2, 3, 4] [Ap 0 0, Ai v0, Ab v1, Ai v2]) [HA [Ai v3, Ai v4, Ai v5, Ai v6, Fu v7, Ai v8, Fu v9, AV.fsl (Blk.ints .i64 va), AV.fsl (Blk.ints .i64 vb)]]) (kOut (V 31) 31 0 (Ev.keyOf c31_4000 * 1000 + 1) K) = haystacklaw08_heads_j4_B v0 v1 v2 v3 v4 v5 v6 v7 v8 v9 va vb (fun vc => K (Ex.ret) (St.mk (spread 108 0 [0] [Ab vc]) [])) := by kernel_rfl

theorem p31_4000 : PieceOk (V 31) q31 o31 31 0 (3997, 0, c31_4000) := .s (size := 108) (ss := [1, 2, 3, 4]) (F := @o31_4000_in) (by kernel_rfl) fun R r K vs hh h => by
  unfold o31_4000_in at h; split at h
  · rw [haystacklaw08_heads_j4_unf] at h; exact (haystacklaw08_heads_j4_eq K _ _ _ _ _ _ _ _ _ _ _ _).trans h
  · cases h

theorem pc31 : ∀ x ∈ [(3997, 0, c31_4000)], PieceOk (V 31) q31 o31 31 0 x := List.forall_mem_cons.2 ⟨p31_4000, fun _ h => nomatch h⟩

noncomputable def sp31 : Ev.Spec := fun args _ K => match args with
 | [] => haystacklaw08_heads (fun v0 => K (Ab v0))
 | _ => none
noncomputable def S31 := addS 31 sp31 S28
theorem D49 : Dom B0 V S31 T66 49 := Dom.s (m := 48) (n := 0) D48 D48 (O := o31) (OrcOk.fn (fn0 := Tryd.f31) (by kernel_rfl) (by kernel_rfl) pc31) fun args R K r h => by
 unfold sp31 at h; split at h
 · rw [haystacklaw08_heads_unf] at h; exact Eq.trans (by kernel_rfl) h
 · cases h

noncomputable def sp39 : Ev.Spec := fun args _ K => match args with
 | ([Ai v0]) => haystackref02_Words v0 (fun v1 => K (Ai v1))
 | _ => none
noncomputable def S39 := addS 39 sp39 S31
theorem D50 : Dom B0 V S39 T66 50 := Dom.s (m := 49) (n := 0) D49 D49 (O := (fun _ => none)) (fun _ _ _ _ => OrcOk.none _ _) fun args R K r h => by
 unfold sp39 at h; split at h
 · rw [haystackref02_Words_unf] at h; exact Eq.trans (by kernel_rfl) h
 · cases h

noncomputable def o40_4400_in {R : Type} (K : Ex → St → Option R) (vs : List AV) (hh : H) : Option R := match vs, hh with
 | [Ai v0, Au v1, Ai v2], [] => haystackref01_Mask_l4 v0 v1 v2 (fun v3 => K (Ex.exit 0) (St.mk (spread 20 0 [3] [Au v3]) []))
 | _, _ => none

noncomputable def o40_6000_in {R : Type} (K : Ex → St → Option R) (vs : List AV) (hh : H) : Option R := match vs, hh with
 | [Ai v0, Au v1, Ai v2], [] => haystackref01_Mask_j6 v0 v1 v2 (fun v3 v4 v5 => K (Ex.normal) (St.mk (spread 20 0 [0, 3, 4] [Ai v3, Au v4, Ai v5]) []))
 | _, _ => none

noncomputable def o40 : Nat → Option PSpec := lkN [(4400, fun st _ K => pickM 20 [0, 3, 4] st (o40_4400_in K)), (6000, fun st _ K => pickM 20 [0, 3, 4] st (o40_6000_in K))]
noncomputable def q40 : CallF := evFun (V 40) S39 T66 10

noncomputable def c40_4400 : Code := subC [1, 1, 0, 1, 0, 0] (bodyOf Tryd.f40)

noncomputable def lp40_4400 {R : Type} (N : Nat) (st : St) (K : Ex → St → Option R) : Option R := evLoop (norm ((V 40).keep 40 (Ev.keyOf c40_4400 * 1000 + 400)) 0) (evCode (V 40) q40 o40 40 0 3994 c40_4400) N st (kOut (V 40) 40 0 (Ev.keyOf c40_4400 * 1000 + 401) K)

noncomputable def c40_6000 : Code := subC [1, 1, 0, 1, 0, 0, 1] (bodyOf Tryd.f40)

theorem haystackref01_Mask_l4_L_eq {R : Type} (K : Ex → St → Option R) : ∀ N : Nat, (fun (v0 v1 v2 : Int) => lp40_4400 N (St.mk (spread 20 0 [0, 3, 4] [Ai v0, Au v1, Ai v2]) []) K) = haystackref01_Mask_l4_L (fun v3 => K (Ex.exit 0) (St.mk (spread 20 0 [3] [Au v3]) [])) N
  | 0 => by funext v0 v1 v2; rfl
  | N + 1 => by
    funext v0 v1 v2
    simp only [haystackref01_Mask_l4_L]
    rw [← haystackref01_Mask_l4_L_eq K N]
    kernel_rfl

theorem p40_4400 : PieceOk (V 40) q40 o40 40 0 (3994, 1, c40_4400) := .l (size := 20) (ss := [0, 3, 4]) (F := @o40_4400_in) (by kernel_rfl) (by kernel_rfl) fun R r K vs hh h => by
  unfold o40_4400_in at h; split at h
  · rw [haystackref01_Mask_l4_unf] at h; unfold haystackref01_Mask_l4_B at h; rw [← haystackref01_Mask_l4_L_eq K NR] at h; exact h
  · cases h

theorem p40_6000 : PieceOk (V 40) q40 o40 40 0 (3993, 0, c40_6000) := .s (size := 20) (ss := [0, 3, 4]) (F := @o40_6000_in) (by kernel_rfl) fun R r K vs hh h => by
  unfold o40_6000_in at h; split at h
  · rw [haystackref01_Mask_j6_unf] at h; exact Eq.trans (by kernel_rfl) h
  · cases h

theorem pc40 : ∀ x ∈ [(3994, 1, c40_4400), (3993, 0, c40_6000)], PieceOk (V 40) q40 o40 40 0 x := List.forall_mem_cons.2 ⟨p40_4400, List.forall_mem_cons.2 ⟨p40_6000, fun _ h => nomatch h⟩⟩

noncomputable def sp40 : Ev.Spec := fun args _ K => match args with
 | ([Ai v0]) => haystackref01_Mask v0 (fun v1 => K (Au v1))
 | _ => none
noncomputable def S40 := addS 40 sp40 S39
theorem D51 : Dom B0 V S40 T66 51 := Dom.s (m := 50) (n := 0) D50 D50 (O := o40) (OrcOk.fn (fn0 := Tryd.f40) (by kernel_rfl) (by kernel_rfl) pc40) fun args R K r h => by
 unfold sp40 at h; split at h
 · rw [haystackref01_Mask_unf] at h; exact Eq.trans (by kernel_rfl) h
 · cases h

noncomputable def o11_4000_in {R : Type} (K : Ex → St → Option R) (vs : List AV) (hh : H) : Option R := match vs, hh with
 | [Ap 0 0], [HA [Ai v0, Fu v1]] => haystackref02_Check_j4 v0 v1 (fun v2 => K (Ex.ret) (St.mk (spread 40 0 [2] [Ab v2]) []))
 | _, _ => none

noncomputable def o11 : Nat → Option PSpec := lkN [(4000, fun st _ K => pickM 40 [1] st (o11_4000_in K))]
noncomputable def q11 : CallF := evFun (V 11) S40 T66 10

noncomputable def c11_4000 : Code := subC [1, 1] (bodyOf Tryd.f11)

theorem p11_4000 : PieceOk (V 11) q11 o11 11 0 (3998, 0, c11_4000) := .s (size := 40) (ss := [1]) (F := @o11_4000_in) (by kernel_rfl) fun R r K vs hh h => by
  unfold o11_4000_in at h; split at h
  · rw [haystackref02_Check_j4_unf] at h; exact Eq.trans (by kernel_rfl) h
  · cases h

theorem pc11 : ∀ x ∈ [(3998, 0, c11_4000)], PieceOk (V 11) q11 o11 11 0 x := List.forall_mem_cons.2 ⟨p11_4000, fun _ h => nomatch h⟩

noncomputable def sp11 : Ev.Spec := fun args _ K => match args with
 | ([AV.agg (Blk.any [Ai v0, Fu v1])]) => haystackref02_Check v0 v1 (fun v2 => K (Ab v2))
 | _ => none
noncomputable def S11 := addS 11 sp11 S40
theorem D52 : Dom B0 V S11 T66 52 := Dom.s (m := 51) (n := 0) D51 D51 (O := o11) (OrcOk.fn (fn0 := Tryd.f11) (by kernel_rfl) (by kernel_rfl) pc11) fun args R K r h => by
 unfold sp11 at h; split at h
 · rw [haystackref02_Check_unf] at h; exact Eq.trans (by kernel_rfl) h
 · cases h

noncomputable def o8_4000_in {R : Type} (K : Ex → St → Option R) (vs : List AV) (hh : H) : Option R := match vs, hh with
 | [Ai v0, Ap 0 0], [HA [Ai v1, Fu v2]] => haystacklaw08_RrrCounts_j4 v0 v1 v2 (fun v3 => K (Ex.ret) (St.mk (spread 114 0 [4] [Ab v3]) []))
 | _, _ => none

noncomputable def o8 : Nat → Option PSpec := lkN [(4000, fun st _ K => pickM 114 [1, 2] st (o8_4000_in K))]
noncomputable def q8 : CallF := evFun (V 8) S11 T66 10

noncomputable def c8_4000 : Code := subC [1, 1] (bodyOf Tryd.f8)

theorem haystacklaw08_RrrCounts_j4_eq {R : Type} (K : Ex → St → Option R) (v0 v1 : Int) (v2 : List Int) : evCode (V 8) q8 o8 8 0 3998 c8_4000 (St.mk (spread 114 0 [1, 2] [Ai v0, Ap 0 0]) [HA [Ai v1, Fu v2]]) (kOut (V 8) 8 0 (Ev.keyOf c8_4000 * 1000 + 1) K) = haystacklaw08_RrrCounts_j4_B v0 v1 v2 (fun v3 => K (Ex.ret) (St.mk (spread 114 0 [4] [Ab v3]) [])) := by kernel_rfl

theorem p8_4000 : PieceOk (V 8) q8 o8 8 0 (3998, 0, c8_4000) := .s (size := 114) (ss := [1, 2]) (F := @o8_4000_in) (by kernel_rfl) fun R r K vs hh h => by
  unfold o8_4000_in at h; split at h
  · rw [haystacklaw08_RrrCounts_j4_unf] at h; exact (haystacklaw08_RrrCounts_j4_eq K _ _ _).trans h
  · cases h

theorem pc8 : ∀ x ∈ [(3998, 0, c8_4000)], PieceOk (V 8) q8 o8 8 0 x := List.forall_mem_cons.2 ⟨p8_4000, fun _ h => nomatch h⟩

noncomputable def sp8 : Ev.Spec := fun args _ K => match args with
 | ([AV.agg (Blk.any [Ai v0, Fu v1]), Ai v2]) => haystacklaw08_RrrCounts v0 v1 v2 (fun v3 => K (Ab v3))
 | _ => none
noncomputable def S8 := addS 8 sp8 S11
theorem D53 : Dom B0 V S8 T66 53 := Dom.s (m := 52) (n := 0) D52 D52 (O := o8) (OrcOk.fn (fn0 := Tryd.f8) (by kernel_rfl) (by kernel_rfl) pc8) fun args R K r h => by
 unfold sp8 at h; split at h
 · rw [haystacklaw08_RrrCounts_unf] at h; exact Eq.trans (by kernel_rfl) h
 · cases h

noncomputable def o9_4000_in {R : Type} (K : Ex → St → Option R) (vs : List AV) (hh : H) : Option R := match vs, hh with
 | [Ap 0 0], [HA [Ai v0, Fu v1]] => haystacklaw08_RrrSizes_j4 v0 v1 (fun v2 => K (Ex.ret) (St.mk (spread 56 0 [2] [Ab v2]) []))
 | _, _ => none

noncomputable def o9 : Nat → Option PSpec := lkN [(4000, fun st _ K => pickM 56 [1] st (o9_4000_in K))]
noncomputable def q9 : CallF := evFun (V 9) S8 T66 10

noncomputable def c9_4000 : Code := subC [1, 1] (bodyOf Tryd.f9)

theorem p9_4000 : PieceOk (V 9) q9 o9 9 0 (3998, 0, c9_4000) := .s (size := 56) (ss := [1]) (F := @o9_4000_in) (by kernel_rfl) fun R r K vs hh h => by
  unfold o9_4000_in at h; split at h
  · rw [haystacklaw08_RrrSizes_j4_unf] at h; exact Eq.trans (by kernel_rfl) h
  · cases h

theorem pc9 : ∀ x ∈ [(3998, 0, c9_4000)], PieceOk (V 9) q9 o9 9 0 x := List.forall_mem_cons.2 ⟨p9_4000, fun _ h => nomatch h⟩

noncomputable def sp9 : Ev.Spec := fun args _ K => match args with
 | ([AV.agg (Blk.any [Ai v0, Fu v1])]) => haystacklaw08_RrrSizes v0 v1 (fun v2 => K (Ab v2))
 | _ => none
noncomputable def S9 := addS 9 sp9 S8
theorem D54 : Dom B0 V S9 T66 54 := Dom.s (m := 53) (n := 0) D53 D53 (O := o9) (OrcOk.fn (fn0 := Tryd.f9) (by kernel_rfl) (by kernel_rfl) pc9) fun args R K r h => by
 unfold sp9 at h; split at h
 · rw [haystacklaw08_RrrSizes_unf] at h; exact Eq.trans (by kernel_rfl) h
 · cases h

noncomputable def o10_4000_in {R : Type} (K : Ex → St → Option R) (vs : List AV) (hh : H) : Option R := match vs, hh with
 | [Ab v0, Ai v1, Ap 0 0], [HA [Ai v2, Fu v3]] => haystacklaw08_RrrBack_j4 v0 v1 v2 v3 (fun v4 => K (Ex.ret) (St.mk (spread 119 0 [6] [Ab v4]) []))
 | _, _ => none

noncomputable def o10_5000_in {R : Type} (K : Ex → St → Option R) (vs : List AV) (hh : H) : Option R := match vs, hh with
 | [Ab v0, Ai v1, Ap 0 0, Ap 1 0, Ai v2], [HA [Ai v3, Fu v4], HA [Ai v5, Ai v6, Ai v7, Ai v8, Fu v9, Ai va, Fu vb, AV.fsl (Blk.ints .i64 vc), AV.fsl (Blk.ints .i64 vd)]] => haystacklaw08_RrrBack_j5 v0 v1 v2 v3 v4 v5 v6 v7 v8 v9 va vb vc vd (fun ve => K (Ex.ret) (St.mk (spread 119 0 [6] [Ab ve]) []))
 | _, _ => none

noncomputable def o10_7000_in {R : Type} (K : Ex → St → Option R) (vs : List AV) (hh : H) : Option R := match vs, hh with
 | [Ab v0, Ai v1, Ap 0 0, Ap 1 0], [HA [Ai v2, Fu v3], HA [Ai v4, Ai v5, Ai v6, Ai v7, Fu v8, Ai v9, Fu va, AV.fsl (Blk.ints .i64 vb), AV.fsl (Blk.ints .i64 vc)]] => haystacklaw08_RrrBack_j7 v0 v1 v2 v3 v4 v5 v6 v7 v8 v9 va vb vc (fun vd => K (Ex.ret) (St.mk (spread 119 0 [6] [Ab vd]) []))
 | _, _ => none

noncomputable def o10_11000_in {R : Type} (K : Ex → St → Option R) (vs : List AV) (hh : H) : Option R := match vs, hh with
 | [Ab v0, Ai v1, Ap 0 0, Ai v2, Ai v3], [HA [Ai v4, Ai v5, Ai v6, Ai v7, Fu v8, Ai v9, Fu va, AV.fsl (Blk.ints .i64 vb), AV.fsl (Blk.ints .i64 vc)]] => haystacklaw08_RrrBack_j11 v0 v1 v2 v3 v4 v5 v6 v7 v8 v9 va vb vc (fun vd => K (Ex.ret) (St.mk (spread 119 0 [6] [Ab vd]) []))
 | _, _ => none

noncomputable def o10 : Nat → Option PSpec := lkN [(4000, fun st _ K => pickM 119 [1, 2, 3] st (o10_4000_in K)), (5000, fun st _ K => pickM 119 [1, 2, 3, 7, 8] st (o10_5000_in K)), (7000, fun st _ K => pickM 119 [1, 2, 3, 7] st (o10_7000_in K)), (11000, fun st _ K => pickM 119 [1, 2, 7, 11, 12] st (o10_11000_in K))]
noncomputable def q10 : CallF := evFun (V 10) S9 T66 10

noncomputable def c10_4000 : Code := subC [1, 1] (bodyOf Tryd.f10)

noncomputable def c10_5000 : Code := subC [1, 1, 1] (bodyOf Tryd.f10)

noncomputable def c10_7000 : Code := subC [1, 1, 1, 1] (bodyOf Tryd.f10)

noncomputable def c10_11000 : Code := subC [1, 1, 1, 1, 1, 1, 1] (bodyOf Tryd.f10)

theorem p10_4000 : PieceOk (V 10) q10 o10 10 0 (3998, 0, c10_4000) := .s (size := 119) (ss := [1, 2, 3]) (F := @o10_4000_in) (by kernel_rfl) fun R r K vs hh h => by
  unfold o10_4000_in at h; split at h
  · rw [haystacklaw08_RrrBack_j4_unf] at h; exact Eq.trans (by kernel_rfl) h
  · cases h

theorem p10_5000 : PieceOk (V 10) q10 o10 10 0 (3997, 0, c10_5000) := .s (size := 119) (ss := [1, 2, 3, 7, 8]) (F := @o10_5000_in) (by kernel_rfl) fun R r K vs hh h => by
  unfold o10_5000_in at h; split at h
  · rw [haystacklaw08_RrrBack_j5_unf] at h; exact Eq.trans (by kernel_rfl) h
  · cases h

theorem p10_7000 : PieceOk (V 10) q10 o10 10 0 (3996, 0, c10_7000) := .s (size := 119) (ss := [1, 2, 3, 7]) (F := @o10_7000_in) (by kernel_rfl) fun R r K vs hh h => by
  unfold o10_7000_in at h; split at h
  · rw [haystacklaw08_RrrBack_j7_unf] at h; exact Eq.trans (by kernel_rfl) h
  · cases h

theorem p10_11000 : PieceOk (V 10) q10 o10 10 0 (3993, 0, c10_11000) := .s (size := 119) (ss := [1, 2, 7, 11, 12]) (F := @o10_11000_in) (by kernel_rfl) fun R r K vs hh h => by
  unfold o10_11000_in at h; split at h
  · rw [haystacklaw08_RrrBack_j11_unf] at h; exact Eq.trans (by kernel_rfl) h
  · cases h

theorem pc10 : ∀ x ∈ [(3998, 0, c10_4000), (3997, 0, c10_5000), (3996, 0, c10_7000), (3993, 0, c10_11000)], PieceOk (V 10) q10 o10 10 0 x := List.forall_mem_cons.2 ⟨p10_4000, List.forall_mem_cons.2 ⟨p10_5000, List.forall_mem_cons.2 ⟨p10_7000, List.forall_mem_cons.2 ⟨p10_11000, fun _ h => nomatch h⟩⟩⟩⟩

noncomputable def sp10 : Ev.Spec := fun args _ K => match args with
 | ([AV.agg (Blk.any [Ai v0, Fu v1]), Ab v2, Ai v3]) => haystacklaw08_RrrBack v0 v1 v2 v3 (fun v4 => K (Ab v4))
 | _ => none
noncomputable def S10 := addS 10 sp10 S9
theorem D55 : Dom B0 V S10 T66 55 := Dom.s (m := 54) (n := 0) D54 D54 (O := o10) (OrcOk.fn (fn0 := Tryd.f10) (by kernel_rfl) (by kernel_rfl) pc10) fun args R K r h => by
 unfold sp10 at h; split at h
 · rw [haystacklaw08_RrrBack_unf] at h; exact Eq.trans (by kernel_rfl) h
 · cases h

theorem ok8 : ∃ sp, SpecOk Tryd.prog (V 8) 8 sp ∧ ∀ args z, sp8 args AV some = some z → sp args AV some = some z := by
  obtain ⟨sp, h1, h2⟩ := Dom.law (P := Tryd.prog) (V := V) (fun f sp h _ => base_ok _ _ f sp h) (fun _ => env_types _ _) (fun _ => env_funs _ _) (fun _ _ => rfl) D55 (f := 8) (sp := sp8) (by kernel_rfl)
  exact ⟨sp, h1, fun args z => h2 args AV some z⟩

theorem ok9 : ∃ sp, SpecOk Tryd.prog (V 9) 9 sp ∧ ∀ args z, sp9 args AV some = some z → sp args AV some = some z := by
  obtain ⟨sp, h1, h2⟩ := Dom.law (P := Tryd.prog) (V := V) (fun f sp h _ => base_ok _ _ f sp h) (fun _ => env_types _ _) (fun _ => env_funs _ _) (fun _ _ => rfl) D55 (f := 9) (sp := sp9) (by kernel_rfl)
  exact ⟨sp, h1, fun args z => h2 args AV some z⟩

theorem ok10 : ∃ sp, SpecOk Tryd.prog (V 10) 10 sp ∧ ∀ args z, sp10 args AV some = some z → sp args AV some = some z := by
  obtain ⟨sp, h1, h2⟩ := Dom.law (P := Tryd.prog) (V := V) (fun f sp h _ => base_ok _ _ f sp h) (fun _ => env_types _ _) (fun _ => env_funs _ _) (fun _ _ => rfl) D55 (f := 10) (sp := sp10) (by kernel_rfl)
  exact ⟨sp, h1, fun args z => h2 args AV some z⟩

end Go.Proofs.YtdojekdcdoaccaaDoor
