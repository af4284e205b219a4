/- The functions that this seat's laws reach, as plain functions, and that they are what the program does. Printed by a program of this repo (wip/Prt). -/
import Derived.Test.YtofblchonjfdbaaGreatDoorBase
import Derived.Test.YtofblchonjfdbaaGreatDoorEnv
import Derived.Test.YtofblchonjfdbaaGreatDoorEvC
import Derived.KernelRfl
namespace Go.Proofs.YtofblchonjfdbaaGreatDoor
open Go Go.Ev
def txt__14a5d8 : ByteArray := ByteArray.mk (List.toArray (List.append (List.append [0, 1, 2, 2, 3, 3, 3, 3, 4, 4, 4, 4, 4, 4, 4, 4, 5, 5, 5, 5, 5, 5, 5, 5, 5, 5, 5, 5, 5, 5, 5, 5, 6, 6, 6, 6, 6, 6, 6, 6, 6, 6, 6, 6, 6, 6, 6, 6, 6, 6, 6, 6, 6, 6, 6, 6, 6, 6, 6, 6, 6, 6, 6, 6] [7, 7, 7, 7, 7, 7, 7, 7, 7, 7, 7, 7, 7, 7, 7, 7, 7, 7, 7, 7, 7, 7, 7, 7, 7, 7, 7, 7, 7, 7, 7, 7, 7, 7, 7, 7, 7, 7, 7, 7, 7, 7, 7, 7, 7, 7, 7, 7, 7, 7, 7, 7, 7, 7, 7, 7, 7, 7, 7, 7, 7, 7, 7, 7]) (List.append [8, 8, 8, 8, 8, 8, 8, 8, 8, 8, 8, 8, 8, 8, 8, 8, 8, 8, 8, 8, 8, 8, 8, 8, 8, 8, 8, 8, 8, 8, 8, 8, 8, 8, 8, 8, 8, 8, 8, 8, 8, 8, 8, 8, 8, 8, 8, 8, 8, 8, 8, 8, 8, 8, 8, 8, 8, 8, 8, 8, 8, 8, 8, 8] [8, 8, 8, 8, 8, 8, 8, 8, 8, 8, 8, 8, 8, 8, 8, 8, 8, 8, 8, 8, 8, 8, 8, 8, 8, 8, 8, 8, 8, 8, 8, 8, 8, 8, 8, 8, 8, 8, 8, 8, 8, 8, 8, 8, 8, 8, 8, 8, 8, 8, 8, 8, 8, 8, 8, 8, 8, 8, 8, 8, 8, 8, 8, 8])))
set_option maxRecDepth 100000
set_option maxHeartbeats 4000000
@[match_pattern] abbrev Ai (n : Int) : AV := AV.int .i64 n
@[match_pattern] abbrev Au (n : Int) : AV := AV.int .u64 n
@[match_pattern] abbrev Ab (b : Bool) : AV := AV.bool b
@[match_pattern] abbrev Ap (a b : Nat) : AV := AV.ptr a b
@[match_pattern] abbrev Fu (xs : List Int) : AV := AV.fsl (Blk.ints .u64 xs)
@[match_pattern] abbrev HA (vs : List AV) : HB := HB.live (Blk.any vs)
@[match_pattern] abbrev HU (xs : List Int) : HB := HB.live (Blk.ints .u64 xs)
@[match_pattern] abbrev HO (bs : List Bool) : HB := HB.live (Blk.bools bs)


noncomputable def bits_words_B {R : Type} (v0 : Int) (K0 : Int → Option R) : Option R :=
 K0 (quoW .i64 (subW .i64 (addW .i64 v0 64) 1) 64)
noncomputable def bits_words {R : Type} := shut (@bits_words_B R)
theorem bits_words_unf {R : Type} : @bits_words R = @bits_words_B R := shut_eq _

noncomputable def word_Mask_B {R : Type} (v0 : Int) (K0 : Int → Option R) : Option R :=
 sel (decide (v0 ≤ 0))
 (K0 0)
 (sel (decide (0 ≤ max2 0 (subW .i64 64 v0)))
 (K0 (shrW .u64 18446744073709551615 (max2 0 (subW .i64 64 v0))))
 (none))
noncomputable def word_Mask {R : Type} := shut (@word_Mask_B R)
theorem word_Mask_unf {R : Type} : @word_Mask R = @word_Mask_B R := shut_eq _

noncomputable def bits_Check_j4_B {R : Type} (v0 : Int) (v1 : List Int) (K0 : Bool → Option R) : Option R :=
 sel (decide (remW v0 64 = 0))
 (K0 true)
 (sel (decide (0 ≤ subW .i64 (↑(List.length v1) : Int) 1))
 (sel (decide (subW .i64 (↑(List.length v1) : Int) 1 < (↑(List.length v1) : Int)))
 (word_Mask (remW v0 64)
 (fun v2 => letV (decide (andNotW .u64 (List.getD v1 (Int.toNat (subW .i64 (↑(List.length v1) : Int) 1)) 0) v2 = 0)) (fun (v3 : Bool) =>
 K0 v3)))
 (none))
 (none))
noncomputable def bits_Check_j4 {R : Type} := shut (@bits_Check_j4_B R)
theorem bits_Check_j4_unf {R : Type} : @bits_Check_j4 R = @bits_Check_j4_B R := shut_eq _

noncomputable def bits_Check_B {R : Type} (v0 : Int) (v1 : List Int) (K0 : Bool → Option R) : Option R :=
 sel (decide (v0 < 0))
 (K0 false)
 (sel (decide (1048576 < v0))
 (K0 false)
 (bits_words v0
 (fun v2 => sel (!decide ((↑(List.length v1) : Int) = v2))
 (K0 false)
 (bits_Check_j4 v0 v1
 (fun v3 => K0 v3)))))
noncomputable def bits_Check {R : Type} := shut (@bits_Check_B R)
theorem bits_Check_unf {R : Type} : @bits_Check R = @bits_Check_B R := shut_eq _

noncomputable def math_bits_OnesCount64_B {R : Type} (v0 : Int) (K0 : Int → Option R) : Option R :=
 letV (shrW .u64 (addW .u64 (andW .u64 (shrW .u64 (addW .u64 (andW .u64 (shrW .u64 v0 1) 6148914691236517205) (andW .u64 v0 6148914691236517205)) 2) 3689348814741910323) (andW .u64 (addW .u64 (andW .u64 (shrW .u64 v0 1) 6148914691236517205) (andW .u64 v0 6148914691236517205)) 3689348814741910323)) 4) (fun (v1 : Int) =>
 letV (addW .u64 v1 (addW .u64 (andW .u64 (shrW .u64 (addW .u64 (andW .u64 (shrW .u64 v0 1) 6148914691236517205) (andW .u64 v0 6148914691236517205)) 2) 3689348814741910323) (andW .u64 (addW .u64 (andW .u64 (shrW .u64 v0 1) 6148914691236517205) (andW .u64 v0 6148914691236517205)) 3689348814741910323))) (fun (v2 : Int) =>
 letV (addW .u64 (addW .u64 (addW .u64 (andW .u64 v2 1085102592571150095) (shrW .u64 (andW .u64 v2 1085102592571150095) 8)) (shrW .u64 (addW .u64 (andW .u64 v2 1085102592571150095) (shrW .u64 (andW .u64 v2 1085102592571150095) 8)) 16)) (shrW .u64 (addW .u64 (addW .u64 (andW .u64 v2 1085102592571150095) (shrW .u64 (andW .u64 v2 1085102592571150095) 8)) (shrW .u64 (addW .u64 (andW .u64 v2 1085102592571150095) (shrW .u64 (andW .u64 v2 1085102592571150095) 8)) 16)) 32)) (fun (v3 : Int) =>
 K0 (andW .i64 (cvtW .i64 v3) 127))))
noncomputable def math_bits_OnesCount64 {R : Type} := shut (@math_bits_OnesCount64_B R)
theorem math_bits_OnesCount64_unf {R : Type} : @math_bits_OnesCount64 R = @math_bits_OnesCount64_B R := shut_eq _

noncomputable def word_Pop_B {R : Type} (v0 : Int) (K0 : Int → Option R) : Option R :=
 math_bits_OnesCount64 v0
 (fun v1 => K0 v1)
noncomputable def word_Pop {R : Type} := shut (@word_Pop_B R)
theorem word_Pop_unf {R : Type} : @word_Pop R = @word_Pop_B R := shut_eq _

noncomputable def plain_Build_j10_B {R : Type} (v0 v1 v2 v3 : Int) (v4 : Bool) (v5 : Int) (v6 : List Int) (v7 v8 : Int) (v9 : List Int) (va vb : Nat) (vc vd : List Int) (K0 : Int → Int → Int → Int → Int → List Int → Int → Int → List Int → Nat → Nat → List Int → List Int → Option R) : Option R :=
 sel v4
 (sel (decide (List.length vc = va))
 (sel (decide ((va + 1) * 8 ≤ 140737488355328))
 (letV (vc ++ [v0]) (fun (ve : List Int) =>
 K0 v0 v1 v2 v3 v5 v6 v7 v8 v9 (va + 1) vb ve vd))
 (none))
 (none))
 (K0 v0 v1 v2 v3 v5 v6 v7 v8 v9 va vb vc vd)
noncomputable def plain_Build_j10 {R : Type} := shut (@plain_Build_j10_B R)
theorem plain_Build_j10_unf {R : Type} : @plain_Build_j10 R = @plain_Build_j10_B R := shut_eq _

noncomputable def plain_Build_j11_B {R : Type} (v0 v1 v2 v3 v4 : Int) (v5 : List Int) (v6 v7 : Int) (v8 : List Int) (v9 va : Nat) (vb vc : List Int) (K0 : Int → Int → Int → Int → List Int → Int → Int → List Int → Nat → Nat → List Int → List Int → Option R) : Option R :=
 sel (decide (v1 < (↑(List.length v5) : Int)))
 (sel (decide (0 ≤ quoW .i64 v1 8))
 (sel (decide (quoW .i64 v1 8 < (↑v9 : Int)))
 (sel (decide (Int.toNat (quoW .i64 v1 8) < List.length vb))
 (sel (decide (List.length vc = va))
 (sel (decide ((va + 1) * 8 ≤ 140737488355328))
 (letV (vc ++ [subW .i64 v0 (List.getD vb (Int.toNat (quoW .i64 v1 8)) 0)]) (fun (vd : List Int) =>
 sel (decide (0 ≤ v1))
 (sel (decide (v1 < (↑(List.length v5) : Int)))
 (word_Pop (List.getD v5 (Int.toNat v1) 0)
 (fun ve => K0 (addW .i64 v0 ve) v2 v3 v4 v5 v6 v7 v8 v9 (va + 1) vb vd))
 (none))
 (none)))
 (none))
 (none))
 (none))
 (none))
 (none))
 (K0 v0 v2 v3 v4 v5 v6 v7 v8 v9 va vb vc)
noncomputable def plain_Build_j11 {R : Type} := shut (@plain_Build_j11_B R)
theorem plain_Build_j11_unf {R : Type} : @plain_Build_j11 R = @plain_Build_j11_B R := shut_eq _

noncomputable def plain_Build_l7_T {R : Type} (rec : Int → Int → Int → Int → List Int → Int → Int → List Int → Nat → Nat → List Int → List Int → Option R) (v0 v1 v2 v3 : Int) (v4 : List Int) (v5 v6 : Int) (v7 : List Int) (v8 v9 : Nat) (va vb : List Int) (K0 : Int → Int → List Int → Nat → Nat → List Int → List Int → Option R) : Option R :=
 sel (decide (v2 < v1))
 (sel (decide (remW v2 8 = 0))
 (plain_Build_j10 v0 v2 v1 v2 (decide (mulW .i64 v2 64 ≤ v3)) v3 v4 v5 v6 v7 v8 v9 va vb
 (fun vc vd ve vf vg vh vi vj vk vl vm vn vo => plain_Build_j11 vc vd ve vf vg vh vi vj vk vl vm vn vo
 (fun vp vq vr vs vt vu vv vw vx vy vz v10 => rec vp vq (addW .i64 vr 1) vs vt vu vv vw vx vy vz v10)))
 (plain_Build_j10 v0 v2 v1 v2 false v3 v4 v5 v6 v7 v8 v9 va vb
 (fun v11 v12 v13 v14 v15 v16 v17 v18 v19 v1a v1b v1c v1d => plain_Build_j11 v11 v12 v13 v14 v15 v16 v17 v18 v19 v1a v1b v1c v1d
 (fun v1e v1f v1g v1h v1i v1j v1k v1l v1m v1n v1o v1p => rec v1e v1f (addW .i64 v1g 1) v1h v1i v1j v1k v1l v1m v1n v1o v1p))))
 (K0 v5 v6 v7 v8 v9 va vb)
noncomputable def plain_Build_l7_L {R : Type} (K0 : Int → Int → List Int → Nat → Nat → List Int → List Int → Option R) : Nat → Int → Int → Int → Int → List Int → Int → Int → List Int → Nat → Nat → List Int → List Int → Option R
 | 0, _, _, _, _, _, _, _, _, _, _, _, _ => none
 | N + 1, v0, v1, v2, v3, v4, v5, v6, v7, v8, v9, va, vb => plain_Build_l7_T (plain_Build_l7_L K0 N) v0 v1 v2 v3 v4 v5 v6 v7 v8 v9 va vb K0
noncomputable def plain_Build_l7_B {R : Type} (v0 v1 v2 v3 : Int) (v4 : List Int) (v5 v6 : Int) (v7 : List Int) (v8 v9 : Nat) (va vb : List Int) (K0 : Int → Int → List Int → Nat → Nat → List Int → List Int → Option R) : Option R :=
 plain_Build_l7_L K0 NR v0 v1 v2 v3 v4 v5 v6 v7 v8 v9 va vb
noncomputable def plain_Build_l7 {R : Type} := shut (@plain_Build_l7_B R)
theorem plain_Build_l7_unf {R : Type} : @plain_Build_l7 R = @plain_Build_l7_B R := shut_eq _

noncomputable def plain_Build_B {R : Type} (v0 : Int) (v1 : List Int) (K0 : Int → List Int → List Int → List Int → Int → Option R) : Option R :=
 bits_Check v0 v1
 (fun v2 => sel (!v2)
 (K0 0 [] [] [] 2)
 (plain_Build_l7 0 (addW .i64 (↑(List.length v1) : Int) 1) 0 v0 v1 0 v0 v1 0 0 [] []
 (fun _ v4 v5 v6 v7 v8 v9 => sel (decide (v6 = List.length v8))
 (sel (decide (v7 = List.length v9))
 (K0 v4 v5 v8 v9 0)
 (none))
 (none))))
noncomputable def plain_Build {R : Type} := shut (@plain_Build_B R)
theorem plain_Build_unf {R : Type} : @plain_Build R = @plain_Build_B R := shut_eq _

noncomputable def bits_Slice_j5_B {R : Type} (v0 v1 : Int) (v2 : Bool) (v3 : Int) (v4 : List Int) (K0 : Int → Int → Option R) (K1 : Int → Int → Int → List Int → Option R) : Option R :=
 sel v2
 (K0 0 3)
 (sel (decide (v1 = 0))
 (K0 0 0)
 (K1 v0 v1 v3 v4))
noncomputable def bits_Slice_j5 {R : Type} := shut (@bits_Slice_j5_B R)
theorem bits_Slice_j5_unf {R : Type} : @bits_Slice_j5 R = @bits_Slice_j5_B R := shut_eq _

noncomputable def bits_Slice_j3_B {R : Type} (v0 v1 : Int) (v2 : Bool) (v3 : Int) (v4 : List Int) (K0 : Int → Int → Option R) (K1 : Int → Int → Int → List Int → Option R) : Option R :=
 sel v2
 (K0 0 2)
 (sel (decide (v0 < 0))
 (bits_Slice_j5 v0 v1 true v3 v4
 (fun v5 v6 => K0 v5 v6)
 (fun v7 v8 v9 va => K1 v7 v8 v9 va))
 (sel (decide (v3 < v0))
 (bits_Slice_j5 v0 v1 true v3 v4
 (fun vb vc => K0 vb vc)
 (fun vd ve vf vg => K1 vd ve vf vg))
 (bits_Slice_j5 v0 v1 (decide (subW .i64 v3 v0 < v1)) v3 v4
 (fun vh vi => K0 vh vi)
 (fun vj vk vl vm => K1 vj vk vl vm))))
noncomputable def bits_Slice_j3 {R : Type} := shut (@bits_Slice_j3_B R)
theorem bits_Slice_j3_unf {R : Type} : @bits_Slice_j3 R = @bits_Slice_j3_B R := shut_eq _

noncomputable def bits_Slice_j12_B {R : Type} (v0 v1 : Int) (K0 : Int → Int → Option R) : Option R :=
 word_Mask v0
 (fun v2 => K0 (andW .u64 v1 v2) 0)
noncomputable def bits_Slice_j12 {R : Type} := shut (@bits_Slice_j12_B R)
theorem bits_Slice_j12_unf {R : Type} : @bits_Slice_j12 R = @bits_Slice_j12_B R := shut_eq _

noncomputable def bits_Slice_j8_B {R : Type} (v0 v1 _v2 : Int) (v3 : List Int) (K0 : Int → Int → Option R) : Option R :=
 sel (decide (0 ≤ quoW .i64 v0 64))
 (sel (decide (quoW .i64 v0 64 < (↑(List.length v3) : Int)))
 (sel (decide (0 ≤ remW v0 64))
 (sel (decide (64 < addW .i64 (remW v0 64) v1))
 (sel (decide (0 ≤ addW .i64 (quoW .i64 v0 64) 1))
 (sel (decide (addW .i64 (quoW .i64 v0 64) 1 < (↑(List.length v3) : Int)))
 (sel (decide (0 ≤ subW .i64 64 (remW v0 64)))
 (letV (orW .u64 (shrW .u64 (List.getD v3 (Int.toNat (quoW .i64 v0 64)) 0) (remW v0 64)) (shlW .u64 (List.getD v3 (Int.toNat (addW .i64 (quoW .i64 v0 64) 1)) 0) (subW .i64 64 (remW v0 64)))) (fun (v4 : Int) =>
 bits_Slice_j12 v1 v4
 (fun v5 v6 => K0 v5 v6)))
 (none))
 (none))
 (none))
 (bits_Slice_j12 v1 (shrW .u64 (List.getD v3 (Int.toNat (quoW .i64 v0 64)) 0) (remW v0 64))
 (fun v7 v8 => K0 v7 v8)))
 (none))
 (none))
 (none)
noncomputable def bits_Slice_j8 {R : Type} := shut (@bits_Slice_j8_B R)
theorem bits_Slice_j8_unf {R : Type} : @bits_Slice_j8 R = @bits_Slice_j8_B R := shut_eq _

noncomputable def bits_Slice_B {R : Type} (v0 : Int) (v1 : List Int) (v2 v3 : Int) (K0 : Int → Int → Option R) : Option R :=
 bits_Check v0 v1
 (fun v4 => sel (!v4)
 (bits_Slice_j3 v2 v3 true v0 v1
 (fun v5 v6 => K0 v5 v6)
 (fun v7 v8 v9 va => bits_Slice_j8 v7 v8 v9 va
 (fun vb vc => K0 vb vc)))
 (sel (decide (v3 < 0))
 (bits_Slice_j3 v2 v3 true v0 v1
 (fun vd ve => K0 vd ve)
 (fun vf vg vh vi => bits_Slice_j8 vf vg vh vi
 (fun vj vk => K0 vj vk)))
 (bits_Slice_j3 v2 v3 (decide (64 < v3)) v0 v1
 (fun vl vm => K0 vl vm)
 (fun vn vo vp vq => bits_Slice_j8 vn vo vp vq
 (fun vr vs => K0 vr vs)))))
noncomputable def bits_Slice {R : Type} := shut (@bits_Slice_B R)
theorem bits_Slice_unf {R : Type} : @bits_Slice R = @bits_Slice_B R := shut_eq _

noncomputable def rrr_none_B {R : Type} (K0 : Int → Int → Option R) : Option R :=
 K0 0 0
noncomputable def rrr_none {R : Type} := shut (@rrr_none_B R)
theorem rrr_none_unf {R : Type} : @rrr_none R = @rrr_none_B R := shut_eq _

noncomputable def binom_row_next_l2_T {R : Type} (rec : Int → List Int → Option R) (v0 : Int) (v1 : List Int) (K0 : List Int → Option R) : Option R :=
 sel (decide (0 < v0))
 (sel (decide (0 ≤ v0))
 (sel (decide (v0 < (↑63 : Int)))
 (sel (decide (Int.toNat v0 < List.length v1))
 (sel (decide (0 ≤ subW .i64 v0 1))
 (sel (decide (subW .i64 v0 1 < (↑63 : Int)))
 (sel (decide (Int.toNat (subW .i64 v0 1) < List.length v1))
 (sel (decide (0 ≤ v0))
 (sel (decide (v0 < (↑63 : Int)))
 (sel (decide (Int.toNat v0 < List.length v1))
 (letV (List.set v1 (Int.toNat v0) (addW .u64 (List.getD v1 (Int.toNat v0) 0) (List.getD v1 (Int.toNat (subW .i64 v0 1)) 0))) (fun (v2 : List Int) =>
 rec (subW .i64 v0 1) v2))
 (none))
 (none))
 (none))
 (none))
 (none))
 (none))
 (none))
 (none))
 (none))
 (K0 v1)
noncomputable def binom_row_next_l2_L {R : Type} (K0 : List Int → Option R) : Nat → Int → List Int → Option R
 | 0, _, _ => none
 | N + 1, v0, v1 => binom_row_next_l2_T (binom_row_next_l2_L K0 N) v0 v1 K0
noncomputable def binom_row_next_l2_B {R : Type} (v0 : Int) (v1 : List Int) (K0 : List Int → Option R) : Option R :=
 binom_row_next_l2_L K0 NR v0 v1
noncomputable def binom_row_next_l2 {R : Type} := shut (@binom_row_next_l2_B R)
theorem binom_row_next_l2_unf {R : Type} : @binom_row_next_l2 R = @binom_row_next_l2_B R := shut_eq _

noncomputable def binom_row_next_r_B {R : Type} (v0 : Int) (v1 : List Int) (K0 : List Int → Option R) : Option R :=
 binom_row_next_l2 (addW .i64 v0 1) v1
 (fun v2 => K0 v2)
noncomputable def binom_row_next_r {R : Type} := shut (@binom_row_next_r_B R)
theorem binom_row_next_r_unf {R : Type} : @binom_row_next_r R = @binom_row_next_r_B R := shut_eq _

noncomputable def binom_rows_l5_T {R : Type} (rec : Nat → Int → Int → List Int → List (List Int) → Option R) (v0 : Nat) (v1 v2 : Int) (v3 : List Int) (v4 : List (List Int)) (K0 : Nat → List (List Int) → Option R) : Option R :=
 sel (decide (v2 < v1))
 (binom_row_next_r v2 v3
 (fun v5 => sel (decide (0 + 63 * 1 ≤ List.length v5))
 (sel (decide (0 ≤ addW .i64 v2 2))
 (sel (decide (addW .i64 v2 2 ≤ (↑63 : Int)))
 (sel (decide (Int.toNat (addW .i64 v2 2) - Int.toNat 0 = List.length v5))
 (sel (decide ((Int.toNat (addW .i64 v2 2) - Int.toNat 0) * 8 ≤ 140737488355328))
 (sel (decide (List.length v4 = v0))
 (sel (decide ((v0 + 1) * 24 ≤ 140737488355328))
 (sel (decide (Int.toNat (addW .i64 v2 2) - Int.toNat 0 = List.length v5))
 (sel (decide (Int.toNat (addW .i64 v2 2) - Int.toNat 0 = List.length v5))
 (letV (v4 ++ [v5]) (fun (v6 : List (List Int)) =>
 rec (v0 + 1) v1 (addW .i64 v2 1) v5 v6))
 (none))
 (none))
 (none))
 (none))
 (none))
 (sel (decide (0 + Nat.sub (Int.toNat (addW .i64 v2 2)) (Int.toNat 0) ≤ List.length v5))
 (sel (decide ((Int.toNat (addW .i64 v2 2) - Int.toNat 0) * 8 ≤ 140737488355328))
 (letV (List.take (Nat.sub (Int.toNat (addW .i64 v2 2)) (Int.toNat 0)) (List.drop 0 v5)) (fun (v7 : List Int) =>
 sel (decide (List.length v4 = v0))
 (sel (decide ((v0 + 1) * 24 ≤ 140737488355328))
 (sel (decide (Int.toNat (addW .i64 v2 2) - Int.toNat 0 = List.length v7))
 (sel (decide (Int.toNat (addW .i64 v2 2) - Int.toNat 0 = List.length v7))
 (letV (v4 ++ [v7]) (fun (v8 : List (List Int)) =>
 rec (v0 + 1) v1 (addW .i64 v2 1) v5 v8))
 (none))
 (none))
 (none))
 (none)))
 (none))
 (none)))
 (none))
 (none))
 (none)))
 (K0 v0 v4)
noncomputable def binom_rows_l5_L {R : Type} (K0 : Nat → List (List Int) → Option R) : Nat → Nat → Int → Int → List Int → List (List Int) → Option R
 | 0, _, _, _, _, _ => none
 | N + 1, v0, v1, v2, v3, v4 => binom_rows_l5_T (binom_rows_l5_L K0 N) v0 v1 v2 v3 v4 K0
noncomputable def binom_rows_l5_B {R : Type} (v0 : Nat) (v1 v2 : Int) (v3 : List Int) (v4 : List (List Int)) (K0 : Nat → List (List Int) → Option R) : Option R :=
 binom_rows_l5_L K0 NR v0 v1 v2 v3 v4
noncomputable def binom_rows_l5 {R : Type} := shut (@binom_rows_l5_B R)
theorem binom_rows_l5_unf {R : Type} : @binom_rows_l5 R = @binom_rows_l5_B R := shut_eq _

noncomputable def binom_rows_B {R : Type} (v0 : Int) (K0 : List (List Int) → Option R) : Option R :=
 binom_rows_l5 1 v0 0 (List.take 0 (List.replicate 63 0) ++ ([1, 0, 0, 0, 0, 0, 0, 0, 0, 0, 0, 0, 0, 0, 0, 0, 0, 0, 0, 0, 0, 0, 0, 0, 0, 0, 0, 0, 0, 0, 0, 0, 0, 0, 0, 0, 0, 0, 0, 0, 0, 0, 0, 0, 0, 0, 0, 0, 0, 0, 0, 0, 0, 0, 0, 0, 0, 0, 0, 0, 0, 0, 0] ++ List.drop (0 + List.length [1, 0, 0, 0, 0, 0, 0, 0, 0, 0, 0, 0, 0, 0, 0, 0, 0, 0, 0, 0, 0, 0, 0, 0, 0, 0, 0, 0, 0, 0, 0, 0, 0, 0, 0, 0, 0, 0, 0, 0, 0, 0, 0, 0, 0, 0, 0, 0, 0, 0, 0, 0, 0, 0, 0, 0, 0, 0, 0, 0, 0, 0, 0]) (List.replicate 63 0))) ([[1]])
 (fun v1 v2 => sel (decide (v1 = colN [Col.fints .u64 v2]))
 (K0 v2)
 (none))
noncomputable def binom_rows {R : Type} := shut (@binom_rows_B R)
theorem binom_rows_unf {R : Type} : @binom_rows R = @binom_rows_B R := shut_eq _

noncomputable def math_bits_Len64_j11_B {R : Type} (v0 v1 : Int) (K0 : Int → Option R) : Option R :=
 sel (decide (0 ≤ cvtW .u8 v0))
 (sel (decide (cvtW .u8 v0 < (↑(ByteArray.size (txt__14a5d8)) : Int)))
 (letV ((↑(UInt8.toNat (List.getD (Array.toList (ByteArray.data (txt__14a5d8))) (Int.toNat (cvtW .u8 v0)) 0)) : Int)) (fun (v2 : Int) =>
 K0 (addW .i64 v1 (cvtW .i64 v2))))
 (none))
 (none)
noncomputable def math_bits_Len64_j11 {R : Type} := shut (@math_bits_Len64_j11_B R)
theorem math_bits_Len64_j11_unf {R : Type} : @math_bits_Len64_j11 R = @math_bits_Len64_j11_B R := shut_eq _

noncomputable def math_bits_Len64_j8_B {R : Type} (v0 v1 : Int) (K0 : Int → Option R) : Option R :=
 sel (decide (256 ≤ v0))
 (math_bits_Len64_j11 (shrW .u64 v0 8) (addW .i64 v1 8)
 (fun v2 => K0 v2))
 (math_bits_Len64_j11 v0 v1
 (fun v3 => K0 v3))
noncomputable def math_bits_Len64_j8 {R : Type} := shut (@math_bits_Len64_j8_B R)
theorem math_bits_Len64_j8_unf {R : Type} : @math_bits_Len64_j8 R = @math_bits_Len64_j8_B R := shut_eq _

noncomputable def math_bits_Len64_j5_B {R : Type} (v0 v1 : Int) (K0 : Int → Option R) : Option R :=
 sel (decide (65536 ≤ v0))
 (math_bits_Len64_j8 (shrW .u64 v0 16) (addW .i64 v1 16)
 (fun v2 => K0 v2))
 (math_bits_Len64_j8 v0 v1
 (fun v3 => K0 v3))
noncomputable def math_bits_Len64_j5 {R : Type} := shut (@math_bits_Len64_j5_B R)
theorem math_bits_Len64_j5_unf {R : Type} : @math_bits_Len64_j5 R = @math_bits_Len64_j5_B R := shut_eq _

noncomputable def math_bits_Len64_B {R : Type} (v0 : Int) (K0 : Int → Option R) : Option R :=
 sel (decide (4294967296 ≤ v0))
 (math_bits_Len64_j5 (shrW .u64 v0 32) 32
 (fun v1 => K0 v1))
 (math_bits_Len64_j5 v0 0
 (fun v2 => K0 v2))
noncomputable def math_bits_Len64 {R : Type} := shut (@math_bits_Len64_B R)
theorem math_bits_Len64_unf {R : Type} : @math_bits_Len64 R = @math_bits_Len64_B R := shut_eq _

noncomputable def word_Len_B {R : Type} (v0 : Int) (K0 : Int → Option R) : Option R :=
 math_bits_Len64 v0
 (fun v1 => K0 v1)
noncomputable def word_Len {R : Type} := shut (@word_Len_B R)
theorem word_Len_unf {R : Type} : @word_Len R = @word_Len_B R := shut_eq _

noncomputable def binom_Offset_j14_B {R : Type} (v0 v1 : Int) (v2 : List (List Int)) (v3 v4 v5 : Int) (K0 : Int → Int → List (List Int) → Int → Int → Option R) : Option R :=
 sel (decide (0 ≤ v5))
 (K0 (andNotW .u64 v0 (shlW .u64 1 v5)) v1 v2 v3 v4)
 (none)
noncomputable def binom_Offset_j14 {R : Type} := shut (@binom_Offset_j14_B R)
theorem binom_Offset_j14_unf {R : Type} : @binom_Offset_j14 R = @binom_Offset_j14_B R := shut_eq _

noncomputable def binom_Offset_l9_T {R : Type} (rec : Int → Int → List (List Int) → Int → Int → Option R) (v0 v1 : Int) (v2 : List (List Int)) (v3 v4 : Int) (K0 : Int → Int → Option R) : Option R :=
 sel (decide (0 < v0))
 (word_Len v0
 (fun v5 => sel (decide (v4 ≤ subW .i64 v5 1))
 (sel (decide (0 ≤ subW .i64 v5 1))
 (sel (decide (subW .i64 v5 1 < (↑(List.length v2) : Int)))
 (letV (List.getD v2 (Int.toNat (subW .i64 v5 1)) []) (fun (v6 : List Int) =>
 sel (decide (0 ≤ v4))
 (sel (decide (v4 < (↑(List.length v6) : Int)))
 (binom_Offset_j14 v0 v1 v2 (addW .u64 v3 (List.getD v6 (Int.toNat v4) 0)) v4 (subW .i64 v5 1)
 (fun v7 v8 v9 va vb => rec v7 v8 v9 va (subW .i64 vb 1)))
 (none))
 (none)))
 (none))
 (none))
 (binom_Offset_j14 v0 v1 v2 v3 v4 (subW .i64 v5 1)
 (fun vc vd ve vf vg => rec vc vd ve vf (subW .i64 vg 1)))))
 (K0 v1 v3)
noncomputable def binom_Offset_l9_L {R : Type} (K0 : Int → Int → Option R) : Nat → Int → Int → List (List Int) → Int → Int → Option R
 | 0, _, _, _, _, _ => none
 | N + 1, v0, v1, v2, v3, v4 => binom_Offset_l9_T (binom_Offset_l9_L K0 N) v0 v1 v2 v3 v4 K0
noncomputable def binom_Offset_l9_B {R : Type} (v0 v1 : Int) (v2 : List (List Int)) (v3 v4 : Int) (K0 : Int → Int → Option R) : Option R :=
 binom_Offset_l9_L K0 NR v0 v1 v2 v3 v4
noncomputable def binom_Offset_l9 {R : Type} := shut (@binom_Offset_l9_B R)
theorem binom_Offset_l9_unf {R : Type} : @binom_Offset_l9 R = @binom_Offset_l9_B R := shut_eq _

noncomputable def binom_Offset_j4_B {R : Type} (v0 v1 : Int) (K0 : Int → Int → Option R) : Option R :=
 word_Mask v1
 (fun v2 => word_Pop (andW .u64 v0 v2)
 (fun v3 => binom_rows v1
 (fun v4 => binom_Offset_l9 (andW .u64 v0 v2) v3 v4 0 v3
 (fun v5 v6 => K0 v5 v6))))
noncomputable def binom_Offset_j4 {R : Type} := shut (@binom_Offset_j4_B R)
theorem binom_Offset_j4_unf {R : Type} : @binom_Offset_j4 R = @binom_Offset_j4_B R := shut_eq _

noncomputable def binom_Offset_B {R : Type} (v0 v1 : Int) (K0 : Int → Int → Option R) : Option R :=
 sel (decide (v1 < 0))
 (K0 0 0)
 (sel (decide (62 < v1))
 (K0 0 0)
 (binom_Offset_j4 v0 v1
 (fun v2 v3 => K0 v2 v3)))
noncomputable def binom_Offset {R : Type} := shut (@binom_Offset_B R)
theorem binom_Offset_unf {R : Type} : @binom_Offset R = @binom_Offset_B R := shut_eq _

noncomputable def rrr_blockOf_B {R : Type} (v0 : Int) (K0 : Int → Int → Option R) : Option R :=
 rrr_none 
 (fun _ _ => binom_Offset v0 15
 (fun v3 v4 => K0 v3 v4))
noncomputable def rrr_blockOf {R : Type} := shut (@rrr_blockOf_B R)
theorem rrr_blockOf_unf {R : Type} : @rrr_blockOf R = @rrr_blockOf_B R := shut_eq _

noncomputable def binom_Choose_l6_T {R : Type} (rec : Int → Int → Int → List Int → Option R) (v0 v1 v2 : Int) (v3 : List Int) (K0 : Int → List Int → Option R) : Option R :=
 sel (decide (v2 < v1))
 (binom_row_next_r v2 v3
 (fun v4 => rec v0 v1 (addW .i64 v2 1) v4))
 (K0 v0 v3)
noncomputable def binom_Choose_l6_L {R : Type} (K0 : Int → List Int → Option R) : Nat → Int → Int → Int → List Int → Option R
 | 0, _, _, _, _ => none
 | N + 1, v0, v1, v2, v3 => binom_Choose_l6_T (binom_Choose_l6_L K0 N) v0 v1 v2 v3 K0
noncomputable def binom_Choose_l6_B {R : Type} (v0 v1 v2 : Int) (v3 : List Int) (K0 : Int → List Int → Option R) : Option R :=
 binom_Choose_l6_L K0 NR v0 v1 v2 v3
noncomputable def binom_Choose_l6 {R : Type} := shut (@binom_Choose_l6_B R)
theorem binom_Choose_l6_unf {R : Type} : @binom_Choose_l6 R = @binom_Choose_l6_B R := shut_eq _

noncomputable def binom_Choose_j4_B {R : Type} (v0 v1 : Int) (K0 : Int → Option R) : Option R :=
 binom_Choose_l6 v1 v0 0 (List.take 0 (List.replicate 63 0) ++ ([1, 0, 0, 0, 0, 0, 0, 0, 0, 0, 0, 0, 0, 0, 0, 0, 0, 0, 0, 0, 0, 0, 0, 0, 0, 0, 0, 0, 0, 0, 0, 0, 0, 0, 0, 0, 0, 0, 0, 0, 0, 0, 0, 0, 0, 0, 0, 0, 0, 0, 0, 0, 0, 0, 0, 0, 0, 0, 0, 0, 0, 0, 0] ++ List.drop (0 + List.length [1, 0, 0, 0, 0, 0, 0, 0, 0, 0, 0, 0, 0, 0, 0, 0, 0, 0, 0, 0, 0, 0, 0, 0, 0, 0, 0, 0, 0, 0, 0, 0, 0, 0, 0, 0, 0, 0, 0, 0, 0, 0, 0, 0, 0, 0, 0, 0, 0, 0, 0, 0, 0, 0, 0, 0, 0, 0, 0, 0, 0, 0, 0]) (List.replicate 63 0)))
 (fun v2 v3 => sel (decide (0 ≤ v2))
 (sel (decide (v2 < (↑63 : Int)))
 (sel (decide (Int.toNat v2 < List.length v3))
 (K0 (List.getD v3 (Int.toNat v2) 0))
 (none))
 (none))
 (none))
noncomputable def binom_Choose_j4 {R : Type} := shut (@binom_Choose_j4_B R)
theorem binom_Choose_j4_unf {R : Type} : @binom_Choose_j4 R = @binom_Choose_j4_B R := shut_eq _

noncomputable def binom_Choose_B {R : Type} (v0 v1 : Int) (K0 : Int → Option R) : Option R :=
 sel (decide (v0 < 0))
 (K0 0)
 (sel (decide (62 < v0))
 (K0 0)
 (sel (decide (v1 < 0))
 (K0 0)
 (sel (decide (v0 < v1))
 (K0 0)
 (binom_Choose_j4 v0 v1
 (fun v2 => K0 v2)))))
noncomputable def binom_Choose {R : Type} := shut (@binom_Choose_B R)
theorem binom_Choose_unf {R : Type} : @binom_Choose R = @binom_Choose_B R := shut_eq _

noncomputable def binom_Width_B {R : Type} (v0 v1 : Int) (K0 : Int → Option R) : Option R :=
 binom_Choose v0 v1
 (fun v2 => sel (decide (v2 = 0))
 (K0 0)
 (word_Len (subW .u64 v2 1)
 (fun v3 => K0 v3)))
noncomputable def binom_Width {R : Type} := shut (@binom_Width_B R)
theorem binom_Width_unf {R : Type} : @binom_Width R = @binom_Width_B R := shut_eq _

noncomputable def bits_Append_j3_B {R : Type} (v0 v1 : Int) (v2 : Bool) (v3 : Int) (v4 : List Int) (v5 : Int) (K0 : Int → Int → List Int → Option R) (K1 : Int → Int → Int → List Int → Int → Option R) : Option R :=
 sel v2
 (K0 2 v3 v4)
 (K1 v0 v1 v3 v4 v5)
noncomputable def bits_Append_j3 {R : Type} := shut (@bits_Append_j3_B R)
theorem bits_Append_j3_unf {R : Type} : @bits_Append_j3 R = @bits_Append_j3_B R := shut_eq _

noncomputable def bits_own_r_B {R : Type} (_v0 : Int) (v1 : List Int) (v2 : Int) (K0 : Int → Nat → List Int → Option R) : Option R :=
 bits_words v2
 (fun v3 => sel (decide (0 ≤ v3))
 (sel (decide (v3 ≤ v3))
 (sel (decide (v3 ≤ 281474976710656))
 (sel (decide ((↑8 : Int) * v3 ≤ 281474976710656))
 (letV (List.replicate (Int.toNat v3) 0) (fun (v4 : List Int) =>
 sel (decide (0 + Int.toNat v3 ≤ List.length v4))
 (sel (decide (List.length v1 ≤ Int.toNat v3))
 (sel (decide (0 + List.length v1 ≤ List.length v4))
 (letV (List.take 0 v4 ++ (v1 ++ List.drop (0 + List.length v1) v4)) (fun (v5 : List Int) =>
 K0 v2 (Int.toNat v3) v5))
 (none))
 (sel (decide (0 + Int.toNat v3 ≤ List.length v1))
 (sel (decide (0 + List.length (List.take (Int.toNat v3) (List.drop 0 v1)) ≤ List.length v4))
 (letV (List.take 0 v4 ++ (List.take (Int.toNat v3) (List.drop 0 v1) ++ List.drop (0 + List.length (List.take (Int.toNat v3) (List.drop 0 v1))) v4)) (fun (v6 : List Int) =>
 K0 v2 (Int.toNat v3) v6))
 (none))
 (none)))
 (none)))
 (none))
 (none))
 (none))
 (none))
noncomputable def bits_own_r {R : Type} := shut (@bits_own_r_B R)
theorem bits_own_r_unf {R : Type} : @bits_own_r R = @bits_own_r_B R := shut_eq _

noncomputable def bits_fill_j6_B {R : Type} (v0 v1 v2 : Int) (v3 : Bool) (v4 : List Int) (_v5 : Int) (v6 : Nat) (K0 : List Int → Option R) : Option R :=
 sel v3
 (sel (decide (0 ≤ addW .i64 v1 1))
 (sel (decide (addW .i64 v1 1 < (↑v6 : Int)))
 (sel (decide (Int.toNat (addW .i64 v1 1) < List.length v4))
 (sel (decide (0 ≤ subW .i64 64 v2))
 (sel (decide (0 ≤ addW .i64 v1 1))
 (sel (decide (addW .i64 v1 1 < (↑v6 : Int)))
 (sel (decide (Int.toNat (addW .i64 v1 1) < List.length v4))
 (letV (List.set v4 (Int.toNat (addW .i64 v1 1)) (orW .u64 (List.getD v4 (Int.toNat (addW .i64 v1 1)) 0) (shrW .u64 v0 (subW .i64 64 v2)))) (fun (v7 : List Int) =>
 K0 v7))
 (none))
 (none))
 (none))
 (none))
 (none))
 (none))
 (none))
 (K0 v4)
noncomputable def bits_fill_j6 {R : Type} := shut (@bits_fill_j6_B R)
theorem bits_fill_j6_unf {R : Type} : @bits_fill_j6 R = @bits_fill_j6_B R := shut_eq _

noncomputable def bits_fill_j5_B {R : Type} (v0 v1 v2 : Int) (v3 : List Int) (v4 : Int) (v5 : Nat) (K0 : List Int → Option R) : Option R :=
 sel (decide (0 < v2))
 (bits_fill_j6 v0 v1 v2 (decide (addW .i64 v1 1 < (↑v5 : Int))) v3 v4 v5
 (fun v6 => K0 v6))
 (bits_fill_j6 v0 v1 v2 false v3 v4 v5
 (fun v7 => K0 v7))
noncomputable def bits_fill_j5 {R : Type} := shut (@bits_fill_j5_B R)
theorem bits_fill_j5_unf {R : Type} : @bits_fill_j5 R = @bits_fill_j5_B R := shut_eq _

noncomputable def bits_fill_r_B {R : Type} (v0 : Int) (v1 : Nat) (v2 v3 : Int) (v4 : List Int) (K0 : List Int → Option R) : Option R :=
 sel (decide (quoW .i64 v2 64 < (↑v1 : Int)))
 (sel (decide (0 ≤ quoW .i64 v2 64))
 (sel (decide (quoW .i64 v2 64 < (↑v1 : Int)))
 (sel (decide (Int.toNat (quoW .i64 v2 64) < List.length v4))
 (sel (decide (0 ≤ remW v2 64))
 (sel (decide (0 ≤ quoW .i64 v2 64))
 (sel (decide (quoW .i64 v2 64 < (↑v1 : Int)))
 (sel (decide (Int.toNat (quoW .i64 v2 64) < List.length v4))
 (letV (List.set v4 (Int.toNat (quoW .i64 v2 64)) (orW .u64 (List.getD v4 (Int.toNat (quoW .i64 v2 64)) 0) (shlW .u64 v3 (remW v2 64)))) (fun (v5 : List Int) =>
 bits_fill_j5 v3 (quoW .i64 v2 64) (remW v2 64) v5 v0 v1
 (fun v6 => K0 v6)))
 (none))
 (none))
 (none))
 (none))
 (none))
 (none))
 (none))
 (bits_fill_j5 v3 (quoW .i64 v2 64) (remW v2 64) v4 v0 v1
 (fun v7 => K0 v7))
noncomputable def bits_fill_r {R : Type} := shut (@bits_fill_r_B R)
theorem bits_fill_r_unf {R : Type} : @bits_fill_r R = @bits_fill_r_B R := shut_eq _

noncomputable def bits_Append_j4_B {R : Type} (v0 v1 v2 : Int) (v3 : List Int) (_v4 : Int) (K0 : Int → Int → Nat → List Int → Option R) : Option R :=
 bits_own_r v2 v3 (addW .i64 v2 v1)
 (fun v5 v6 v7 => word_Mask v1
 (fun v8 => bits_fill_r v5 v6 v2 (andW .u64 v0 v8) v7
 (fun v9 => K0 0 v5 v6 v9)))
noncomputable def bits_Append_j4 {R : Type} := shut (@bits_Append_j4_B R)
theorem bits_Append_j4_unf {R : Type} : @bits_Append_j4 R = @bits_Append_j4_B R := shut_eq _

noncomputable def bits_Append_B {R : Type} (v0 : Int) (v1 : List Int) (v2 v3 : Int) (K0 : Int → List Int → Int → Option R) : Option R :=
 bits_Check v0 v1
 (fun v4 => sel (!v4)
 (bits_Append_j3 v2 v3 true v0 v1 0
 (fun v5 v6 v7 => K0 v6 v7 v5)
 (fun v8 v9 va vb vc => bits_Append_j4 v8 v9 va vb vc
 (fun vd ve vf vg => sel (decide (vf = List.length vg))
 (K0 ve vg vd)
 (none))))
 (sel (decide (v3 < 0))
 (bits_Append_j3 v2 v3 true v0 v1 0
 (fun vh vi vj => K0 vi vj vh)
 (fun vk vl vm vn vo => bits_Append_j4 vk vl vm vn vo
 (fun vp vq vr vs => sel (decide (vr = List.length vs))
 (K0 vq vs vp)
 (none))))
 (sel (decide (64 < v3))
 (bits_Append_j3 v2 v3 true v0 v1 0
 (fun vt vu vv => K0 vu vv vt)
 (fun vw vx vy vz v10 => bits_Append_j4 vw vx vy vz v10
 (fun v11 v12 v13 v14 => sel (decide (v13 = List.length v14))
 (K0 v12 v14 v11)
 (none))))
 (bits_Append_j3 v2 v3 (decide (subW .i64 1048576 v0 < v3)) v0 v1 0
 (fun v15 v16 v17 => K0 v16 v17 v15)
 (fun v18 v19 v1a v1b v1c => bits_Append_j4 v18 v19 v1a v1b v1c
 (fun v1d v1e v1f v1g => sel (decide (v1f = List.length v1g))
 (K0 v1e v1g v1d)
 (none)))))))
noncomputable def bits_Append {R : Type} := shut (@bits_Append_B R)
theorem bits_Append_unf {R : Type} : @bits_Append R = @bits_Append_B R := shut_eq _

noncomputable def rrr_Build_j18_B {R : Type} (v0 : Nat) (v1 v2 v3 : Int) (v4 : List Int) (v5 v6 v7 v8 v9 va vb vc vd ve : Int) (vf : List Int) (vg vh : Nat) (vi vj vk : List Int) (vl _vm : Int) (K0 : Nat → Int → Int → Int → List Int → Int → Int → Int → Int → Int → Int → Int → Int → Int → Int → List Int → Nat → Nat → List Int → List Int → List Int → Option R) : Option R :=
 K0 v0 (addW .i64 v1 vl) v2 v3 v4 v5 v6 v7 v8 v9 va vb vc vd ve vf vg vh vi vj vk
noncomputable def rrr_Build_j18 {R : Type} := shut (@rrr_Build_j18_B R)
theorem rrr_Build_j18_unf {R : Type} : @rrr_Build_j18 R = @rrr_Build_j18_B R := shut_eq _

noncomputable def rrr_Build_j12_B {R : Type} (v0 : Nat) (v1 v2 v3 : Int) (v4 : List Int) (v5 v6 v7 v8 v9 va vb vc vd ve : Int) (vf : List Int) (vg vh : Nat) (vi vj vk : List Int) (K0 : Nat → Int → Int → Int → Int → Int → Int → Int → Int → Int → Int → List Int → Nat → Nat → List Int → List Int → List Int → Option R) (K1 : Nat → Int → Int → Int → List Int → Int → Int → Int → Int → Int → Int → Int → Int → Int → Int → List Int → Nat → Nat → List Int → List Int → List Int → Option R) : Option R :=
 sel (decide (v2 = v3))
 (K0 v0 v5 v6 v7 v8 v9 va vb vc vd ve vf vg vh vi vj vk)
 (bits_Slice v3 v4 v2 (min2 15 (subW .i64 v3 v2))
 (fun vl _ => rrr_blockOf vl
 (fun vn vo => sel (decide (List.length vk = v0))
 (sel (decide ((v0 + 1) * 8 ≤ 140737488355328))
 (letV (vk ++ [cvtW .u64 vn]) (fun (vp : List Int) =>
 rrr_none 
 (fun vq vr => sel (!(decide (vn = vq) && decide (vo = vr)))
 (binom_Width 15 vn
 (fun vs => bits_Append ve vf vo vs
 (fun vt vu _ => rrr_Build_j18 (v0 + 1) v1 v2 v3 v4 v5 v6 v7 v8 v9 va vb vc vd vt vu vg vh vi vj vp vn vo
 K1)))
 (rrr_Build_j18 (v0 + 1) v1 v2 v3 v4 v5 v6 v7 v8 v9 va vb vc vd ve vf vg vh vi vj vp vn vo
 K1))))
 (none))
 (none))))
noncomputable def rrr_Build_j12 {R : Type} := shut (@rrr_Build_j12_B R)
theorem rrr_Build_j12_unf {R : Type} : @rrr_Build_j12 R = @rrr_Build_j12_B R := shut_eq _

noncomputable def rrr_Build_j10_B {R : Type} (v0 : Nat) (v1 v2 v3 : Int) (v4 : List Int) (v5 v6 v7 v8 v9 va vb vc vd ve : Int) (vf : List Int) (vg vh : Nat) (vi vj vk : List Int) (K0 : Nat → Int → Int → Int → Int → Int → Int → Int → Int → Int → Int → List Int → Nat → Nat → List Int → List Int → List Int → Option R) (K1 : Nat → Int → Int → Int → List Int → Int → Int → Int → Int → Int → Int → Int → Int → Int → Int → List Int → Nat → Nat → List Int → List Int → List Int → Option R) : Option R :=
 sel (decide (remW v2 120 = 0))
 (sel (decide (List.length vi = vg))
 (sel (decide ((vg + 1) * 8 ≤ 140737488355328))
 (letV (vi ++ [v1]) (fun (vl : List Int) =>
 sel (decide (List.length vj = vh))
 (sel (decide ((vh + 1) * 8 ≤ 140737488355328))
 (letV (vj ++ [ve]) (fun (vm : List Int) =>
 rrr_Build_j12 v0 v1 v2 v3 v4 v5 v6 v7 v8 v9 va vb vc vd ve vf (vg + 1) (vh + 1) vl vm vk
 K0
 (fun v14 v15 v16 v17 v18 v19 v1a v1b v1c v1d v1e v1f v1g v1h v1i v1j v1k v1l v1m v1n v1o => K1 v14 v15 (addW .i64 v16 15) v17 v18 v19 v1a v1b v1c v1d v1e v1f v1g v1h v1i v1j v1k v1l v1m v1n v1o)))
 (none))
 (none)))
 (none))
 (none))
 (rrr_Build_j12 v0 v1 v2 v3 v4 v5 v6 v7 v8 v9 va vb vc vd ve vf vg vh vi vj vk
 K0
 (fun v26 v27 v28 v29 v2a v2b v2c v2d v2e v2f v2g v2h v2i v2j v2k v2l v2m v2n v2o v2p v2q => K1 v26 v27 (addW .i64 v28 15) v29 v2a v2b v2c v2d v2e v2f v2g v2h v2i v2j v2k v2l v2m v2n v2o v2p v2q))
noncomputable def rrr_Build_j10 {R : Type} := shut (@rrr_Build_j10_B R)
theorem rrr_Build_j10_unf {R : Type} : @rrr_Build_j10 R = @rrr_Build_j10_B R := shut_eq _

noncomputable def rrr_Build_l8_T {R : Type} (rec : Nat → Int → Int → Int → List Int → Int → Int → Int → Int → Int → Int → Int → Int → Int → Int → List Int → Nat → Nat → List Int → List Int → List Int → Option R) (v0 : Nat) (v1 v2 v3 : Int) (v4 : List Int) (v5 v6 v7 v8 v9 va vb vc vd ve : Int) (vf : List Int) (vg vh : Nat) (vi vj vk : List Int) (K0 : Nat → Int → Int → Int → Int → Int → Int → Int → Int → Int → Int → List Int → Nat → Nat → List Int → List Int → List Int → Option R) : Option R :=
 sel (decide (v2 < v3))
 (rrr_Build_j10 v0 v1 v2 v3 v4 v5 v6 v7 v8 v9 va vb vc vd ve vf vg vh vi vj vk
 K0
 rec)
 (sel (decide (v2 = 0))
 (rrr_Build_j10 v0 v1 v2 v3 v4 v5 v6 v7 v8 v9 va vb vc vd ve vf vg vh vi vj vk
 K0
 rec)
 (K0 v0 v5 v6 v7 v8 v9 va vb vc vd ve vf vg vh vi vj vk))
noncomputable def rrr_Build_l8_L {R : Type} (K0 : Nat → Int → Int → Int → Int → Int → Int → Int → Int → Int → Int → List Int → Nat → Nat → List Int → List Int → List Int → Option R) : Nat → Nat → Int → Int → Int → List Int → Int → Int → Int → Int → Int → Int → Int → Int → Int → Int → List Int → Nat → Nat → List Int → List Int → List Int → Option R
 | 0, _, _, _, _, _, _, _, _, _, _, _, _, _, _, _, _, _, _, _, _, _ => none
 | N + 1, v0, v1, v2, v3, v4, v5, v6, v7, v8, v9, va, vb, vc, vd, ve, vf, vg, vh, vi, vj, vk => rrr_Build_l8_T (rrr_Build_l8_L K0 N) v0 v1 v2 v3 v4 v5 v6 v7 v8 v9 va vb vc vd ve vf vg vh vi vj vk K0
noncomputable def rrr_Build_l8_B {R : Type} (v0 : Nat) (v1 v2 v3 : Int) (v4 : List Int) (v5 v6 v7 v8 v9 va vb vc vd ve : Int) (vf : List Int) (vg vh : Nat) (vi vj vk : List Int) (K0 : Nat → Int → Int → Int → Int → Int → Int → Int → Int → Int → Int → List Int → Nat → Nat → List Int → List Int → List Int → Option R) : Option R :=
 rrr_Build_l8_L K0 NR v0 v1 v2 v3 v4 v5 v6 v7 v8 v9 va vb vc vd ve vf vg vh vi vj vk
noncomputable def rrr_Build_l8 {R : Type} := shut (@rrr_Build_l8_B R)
theorem rrr_Build_l8_unf {R : Type} : @rrr_Build_l8 R = @rrr_Build_l8_B R := shut_eq _

noncomputable def ints_Make_j3_B {R : Type} (v0 : Int) (v1 : List Int) (v2 : Bool) (v3 v4 v5 : Int) (K0 : Int → Int → Int → Int → Option R) (K1 : Int → List Int → Int → Int → Int → Option R) : Option R :=
 sel v2
 (K0 2 0 0 0)
 (K1 v0 v1 v3 v4 v5)
noncomputable def ints_Make_j3 {R : Type} := shut (@ints_Make_j3_B R)
theorem ints_Make_j3_unf {R : Type} : @ints_Make_j3 R = @ints_Make_j3_B R := shut_eq _

noncomputable def bits_New_j3_B {R : Type} (v0 : Int) (v1 : Bool) (v2 : Int) (K0 : Int → Int → Option R) (K1 : Int → Int → Option R) : Option R :=
 sel v1
 (K0 2 0)
 (K1 v0 v2)
noncomputable def bits_New_j3 {R : Type} := shut (@bits_New_j3_B R)
theorem bits_New_j3_unf {R : Type} : @bits_New_j3 R = @bits_New_j3_B R := shut_eq _

noncomputable def bits_New_j4_B {R : Type} (v0 _v1 : Int) (K0 : Int → Int → Nat → List Int → Option R) : Option R :=
 bits_words v0
 (fun v2 => sel (decide (0 ≤ v2))
 (sel (decide (v2 ≤ v2))
 (sel (decide (v2 ≤ 281474976710656))
 (sel (decide ((↑8 : Int) * v2 ≤ 281474976710656))
 (letV (List.replicate (Int.toNat v2) 0) (fun (v3 : List Int) =>
 K0 0 v0 (Int.toNat v2) v3))
 (none))
 (none))
 (none))
 (none))
noncomputable def bits_New_j4 {R : Type} := shut (@bits_New_j4_B R)
theorem bits_New_j4_unf {R : Type} : @bits_New_j4 R = @bits_New_j4_B R := shut_eq _

noncomputable def bits_New_B {R : Type} (v0 : Int) (K0 : Int → List Int → Int → Option R) : Option R :=
 sel (decide (v0 < 0))
 (bits_New_j3 v0 true 0
 (fun v1 v2 => K0 v2 [] v1)
 (fun v3 v4 => bits_New_j4 v3 v4
 (fun v5 v6 v7 v8 => sel (decide (v7 = List.length v8))
 (K0 v6 v8 v5)
 (none))))
 (bits_New_j3 v0 (decide (1048576 < v0)) 0
 (fun v9 va => K0 va [] v9)
 (fun vb vc => bits_New_j4 vb vc
 (fun vd ve vf vg => sel (decide (vf = List.length vg))
 (K0 ve vg vd)
 (none))))
noncomputable def bits_New {R : Type} := shut (@bits_New_B R)
theorem bits_New_unf {R : Type} : @bits_New R = @bits_New_B R := shut_eq _

noncomputable def ints_Make_l6_T {R : Type} (rec : Int → List Int → List Int → Int → Int → Int → Int → Int → Int → List Int → Option R) (v0 : Int) (v1 v2 : List Int) (v3 v4 v5 v6 v7 v8 : Int) (v9 : List Int) (K0 : Int → List Int → Int → Int → Int → Int → List Int → Option R) : Option R :=
 sel (decide (v4 < v3))
 (sel (decide (0 ≤ v4))
 (sel (decide (v4 < (↑(List.length v2) : Int)))
 (bits_Append v8 v9 (List.getD v2 (Int.toNat v4) 0) v0
 (fun va vb _ => rec v0 v1 v2 v3 (addW .i64 v4 1) v5 v6 v7 va vb))
 (none))
 (none))
 (K0 v0 v1 v5 v6 v7 v8 v9)
noncomputable def ints_Make_l6_L {R : Type} (K0 : Int → List Int → Int → Int → Int → Int → List Int → Option R) : Nat → Int → List Int → List Int → Int → Int → Int → Int → Int → Int → List Int → Option R
 | 0, _, _, _, _, _, _, _, _, _, _ => none
 | N + 1, v0, v1, v2, v3, v4, v5, v6, v7, v8, v9 => ints_Make_l6_T (ints_Make_l6_L K0 N) v0 v1 v2 v3 v4 v5 v6 v7 v8 v9 K0
noncomputable def ints_Make_l6_B {R : Type} (v0 : Int) (v1 v2 : List Int) (v3 v4 v5 v6 v7 v8 : Int) (v9 : List Int) (K0 : Int → List Int → Int → Int → Int → Int → List Int → Option R) : Option R :=
 ints_Make_l6_L K0 NR v0 v1 v2 v3 v4 v5 v6 v7 v8 v9
noncomputable def ints_Make_l6 {R : Type} := shut (@ints_Make_l6_B R)
theorem ints_Make_l6_unf {R : Type} : @ints_Make_l6 R = @ints_Make_l6_B R := shut_eq _

noncomputable def ints_Make_j4_B {R : Type} (v0 : Int) (v1 : List Int) (v2 v3 v4 : Int) (K0 : Int → Int → Int → Int → List Int → Option R) : Option R :=
 bits_New 0
 (fun v5 v6 _ => ints_Make_l6 v0 v1 v1 ((↑(List.length v1) : Int)) 0 v2 v3 v4 v5 v6
 (fun v8 v9 _ _ _ vd ve => K0 0 ((↑(List.length v9) : Int)) v8 vd ve))
noncomputable def ints_Make_j4 {R : Type} := shut (@ints_Make_j4_B R)
theorem ints_Make_j4_unf {R : Type} : @ints_Make_j4 R = @ints_Make_j4_B R := shut_eq _

noncomputable def ints_width_l4_T {R : Type} (rec : Int → List Int → Int → Int → Option R) (v0 : Int) (v1 : List Int) (v2 v3 : Int) (K0 : Int → Option R) : Option R :=
 sel (decide (v3 < v2))
 (sel (decide (0 ≤ v3))
 (sel (decide (v3 < (↑(List.length v1) : Int)))
 (word_Len (List.getD v1 (Int.toNat v3) 0)
 (fun v4 => rec (max2 v0 v4) v1 v2 (addW .i64 v3 1)))
 (none))
 (none))
 (K0 v0)
noncomputable def ints_width_l4_L {R : Type} (K0 : Int → Option R) : Nat → Int → List Int → Int → Int → Option R
 | 0, _, _, _, _ => none
 | N + 1, v0, v1, v2, v3 => ints_width_l4_T (ints_width_l4_L K0 N) v0 v1 v2 v3 K0
noncomputable def ints_width_l4_B {R : Type} (v0 : Int) (v1 : List Int) (v2 v3 : Int) (K0 : Int → Option R) : Option R :=
 ints_width_l4_L K0 NR v0 v1 v2 v3
noncomputable def ints_width_l4 {R : Type} := shut (@ints_width_l4_B R)
theorem ints_width_l4_unf {R : Type} : @ints_width_l4 R = @ints_width_l4_B R := shut_eq _

noncomputable def ints_width_B {R : Type} (v0 : List Int) (K0 : Int → Option R) : Option R :=
 ints_width_l4 1 v0 ((↑(List.length v0) : Int)) 0
 (fun v1 => K0 v1)
noncomputable def ints_width {R : Type} := shut (@ints_width_B R)
theorem ints_width_unf {R : Type} : @ints_width R = @ints_width_B R := shut_eq _

noncomputable def ints_Make_B {R : Type} (v0 : Int) (v1 : List Int) (K0 : Int → Int → Int → List Int → Int → Option R) : Option R :=
 sel (decide (v0 < 1))
 (ints_Make_j3 v0 v1 true 0 0 0
 (fun v2 v3 v4 v5 => K0 v3 v4 v5 [] v2)
 (fun v6 v7 v8 v9 va => ints_Make_j4 v6 v7 v8 v9 va
 (fun vb vc vd ve vf => K0 vc vd ve vf vb)))
 (sel (decide (64 < v0))
 (ints_Make_j3 v0 v1 true 0 0 0
 (fun vg vh vi vj => K0 vh vi vj [] vg)
 (fun vk vl vm vn vo => ints_Make_j4 vk vl vm vn vo
 (fun vp vq vr vs vt => K0 vq vr vs vt vp)))
 (sel (decide (v0 = 0))
 (none)
 (sel (decide (quoW .i64 1048576 v0 < (↑(List.length v1) : Int)))
 (ints_Make_j3 v0 v1 true 0 0 0
 (fun vu vv vw vx => K0 vv vw vx [] vu)
 (fun vy vz v10 v11 v12 => ints_Make_j4 vy vz v10 v11 v12
 (fun v13 v14 v15 v16 v17 => K0 v14 v15 v16 v17 v13)))
 (ints_width v1
 (fun v18 => ints_Make_j3 v0 v1 (decide (v0 < v18)) 0 0 0
 (fun v19 v1a v1b v1c => K0 v1a v1b v1c [] v19)
 (fun v1d v1e v1f v1g v1h => ints_Make_j4 v1d v1e v1f v1g v1h
 (fun v1i v1j v1k v1l v1m => K0 v1j v1k v1l v1m v1i)))))))
noncomputable def ints_Make {R : Type} := shut (@ints_Make_B R)
theorem ints_Make_unf {R : Type} : @ints_Make R = @ints_Make_B R := shut_eq _

noncomputable def rrr_Build_j5_B {R : Type} (v0 : Int) (v1 : List Int) (v2 v3 v4 v5 v6 v7 v8 v9 va vb : Int) (K0 : Int → Int → Int → Int → Int → List Int → Int → List Int → Nat → Nat → List Int → List Int → Option R) : Option R :=
 rrr_Build_l8 0 0 0 v0 v1 v2 v3 v4 v5 v6 v7 v8 v9 va vb [] 0 0 [] [] []
 (fun vc _ _ _ _ _ vi _ _ _ vm vn vo vp vq vr vs => sel (decide (vc = List.length vs))
 (sel (decide (vc = List.length vs))
 (ints_Make 4 vs
 (fun vt vu vv vw _ => K0 0 vi vt vu vv vw vm vn vo vp vq vr))
 (none))
 (none))
noncomputable def rrr_Build_j5 {R : Type} := shut (@rrr_Build_j5_B R)
theorem rrr_Build_j5_unf {R : Type} : @rrr_Build_j5 R = @rrr_Build_j5_B R := shut_eq _

noncomputable def rrr_Build_B {R : Type} (v0 : Int) (v1 : List Int) (K0 : Int → Int → Int → Int → List Int → Int → List Int → List Int → List Int → Int → Option R) : Option R :=
 bits_Check v0 v1
 (fun v2 => sel (!v2)
 (K0 0 0 0 0 [] 0 [] [] [] 2)
 (rrr_Build_j5 v0 v1 0 0 0 0 0 v0 0 0 0 0
 (fun v3 v4 v5 v6 v7 v8 v9 va vb vc vd ve => sel (decide (vb = List.length vd))
 (sel (decide (vc = List.length ve))
 (K0 v4 v5 v6 v7 v8 v9 va vd ve v3)
 (none))
 (none))))
noncomputable def rrr_Build {R : Type} := shut (@rrr_Build_B R)
theorem rrr_Build_unf {R : Type} : @rrr_Build R = @rrr_Build_B R := shut_eq _

noncomputable def bits_Ones_l7_T {R : Type} (rec : Int → Int → List Int → Int → Int → Int → List Int → Option R) (v0 v1 : Int) (v2 : List Int) (v3 v4 v5 : Int) (v6 : List Int) (K0 : Int → Int → Int → List Int → Option R) : Option R :=
 sel (decide (v4 < v3))
 (sel (decide (0 ≤ v4))
 (sel (decide (v4 < (↑(List.length v2) : Int)))
 (word_Pop (List.getD v2 (Int.toNat v4) 0)
 (fun v7 => rec v0 (addW .i64 v1 v7) v2 v3 (addW .i64 v4 1) v5 v6))
 (none))
 (none))
 (K0 v0 v1 v5 v6)
noncomputable def bits_Ones_l7_L {R : Type} (K0 : Int → Int → Int → List Int → Option R) : Nat → Int → Int → List Int → Int → Int → Int → List Int → Option R
 | 0, _, _, _, _, _, _, _ => none
 | N + 1, v0, v1, v2, v3, v4, v5, v6 => bits_Ones_l7_T (bits_Ones_l7_L K0 N) v0 v1 v2 v3 v4 v5 v6 K0
noncomputable def bits_Ones_l7_B {R : Type} (v0 v1 : Int) (v2 : List Int) (v3 v4 v5 : Int) (v6 : List Int) (K0 : Int → Int → Int → List Int → Option R) : Option R :=
 bits_Ones_l7_L K0 NR v0 v1 v2 v3 v4 v5 v6
noncomputable def bits_Ones_l7 {R : Type} := shut (@bits_Ones_l7_B R)
theorem bits_Ones_l7_unf {R : Type} : @bits_Ones_l7 R = @bits_Ones_l7_B R := shut_eq _

noncomputable def word_Rank_B {R : Type} (v0 v1 : Int) (K0 : Int → Option R) : Option R :=
 word_Mask v1
 (fun v2 => word_Pop (andW .u64 v0 v2)
 (fun v3 => K0 v3))
noncomputable def word_Rank {R : Type} := shut (@word_Rank_B R)
theorem word_Rank_unf {R : Type} : @word_Rank R = @word_Rank_B R := shut_eq _

noncomputable def bits_Ones_B {R : Type} (v0 : Int) (v1 : List Int) (v2 : Int) (K0 : Int → Option R) : Option R :=
 bits_Check v0 v1
 (fun v3 => sel (!v3)
 (K0 0)
 (sel (decide (0 ≤ quoW .i64 (max2 0 (min2 v2 v0)) 64))
 (sel (decide (quoW .i64 (max2 0 (min2 v2 v0)) 64 ≤ (↑(List.length v1) : Int)))
 (letV (List.drop (Int.toNat 0) (List.take (Int.toNat (quoW .i64 (max2 0 (min2 v2 v0)) 64)) v1)) (fun (v4 : List Int) =>
 bits_Ones_l7 (max2 0 (min2 v2 v0)) 0 v4 ((↑(List.length v4) : Int)) 0 v0 v1
 (fun v5 v6 _ v8 => sel (decide (0 < remW v5 64))
 (sel (decide (0 ≤ quoW .i64 v5 64))
 (sel (decide (quoW .i64 v5 64 < (↑(List.length v8) : Int)))
 (word_Rank (List.getD v8 (Int.toNat (quoW .i64 v5 64)) 0) (remW v5 64)
 (fun v9 => K0 (addW .i64 v6 v9)))
 (none))
 (none))
 (K0 v6))))
 (none))
 (none)))
noncomputable def bits_Ones {R : Type} := shut (@bits_Ones_B R)
theorem bits_Ones_unf {R : Type} : @bits_Ones R = @bits_Ones_B R := shut_eq _

noncomputable def fano_width_B {R : Type} (v0 v1 : Int) (K0 : Int → Option R) : Option R :=
 sel (decide (v1 = 0))
 (K0 0)
 (sel (decide (v1 = 0))
 (none)
 (word_Len (cvtW .u64 (quoW .i64 v0 v1))
 (fun v2 => K0 (subW .i64 v2 1))))
noncomputable def fano_width {R : Type} := shut (@fano_width_B R)
theorem fano_width_unf {R : Type} : @fano_width R = @fano_width_B R := shut_eq _

noncomputable def fano_eachOne_r_B {R : Type} (v0 : Int) (v1 : List Int) (K0 : Int → List Int → Option R) : Option R :=
 K0 v0 v1
noncomputable def fano_eachOne_r {R : Type} := shut (@fano_eachOne_r_B R)
theorem fano_eachOne_r_unf {R : Type} : @fano_eachOne_r R = @fano_eachOne_r_B R := shut_eq _

noncomputable def word_Select_l5_T {R : Type} (rec : Int → Int → Int → Option R) (v0 v1 v2 : Int) (K0 : Int → Option R) : Option R :=
 sel (decide (v2 < v1))
 (rec (andW .u64 v0 (subW .u64 v0 1)) v1 (addW .i64 v2 1))
 (K0 v0)
noncomputable def word_Select_l5_L {R : Type} (K0 : Int → Option R) : Nat → Int → Int → Int → Option R
 | 0, _, _, _ => none
 | N + 1, v0, v1, v2 => word_Select_l5_T (word_Select_l5_L K0 N) v0 v1 v2 K0
noncomputable def word_Select_l5_B {R : Type} (v0 v1 v2 : Int) (K0 : Int → Option R) : Option R :=
 word_Select_l5_L K0 NR v0 v1 v2
noncomputable def word_Select_l5 {R : Type} := shut (@word_Select_l5_B R)
theorem word_Select_l5_unf {R : Type} : @word_Select_l5 R = @word_Select_l5_B R := shut_eq _

noncomputable def math_bits_TrailingZeros64_B {R : Type} (v0 : Int) (K0 : Int → Option R) : Option R :=
 sel (decide (v0 = 0))
 (K0 64)
 (sel (decide (0 ≤ shrW .u64 (mulW .u64 (andW .u64 v0 (negW .u64 v0)) 285870213051353865) 58))
 (sel (decide (shrW .u64 (mulW .u64 (andW .u64 v0 (negW .u64 v0)) 285870213051353865) 58 < (↑64 : Int)))
 (K0 (cvtW .i64 (List.getD tzTab (Int.toNat (shrW .u64 (mulW .u64 (andW .u64 v0 (negW .u64 v0)) 285870213051353865) 58)) 0)))
 (none))
 (none))
noncomputable def math_bits_TrailingZeros64 {R : Type} := shut (@math_bits_TrailingZeros64_B R)
theorem math_bits_TrailingZeros64_unf {R : Type} : @math_bits_TrailingZeros64 R = @math_bits_TrailingZeros64_B R := shut_eq _

noncomputable def word_Select_j4_B {R : Type} (v0 v1 : Int) (K0 : Int → Option R) : Option R :=
 word_Select_l5 v0 v1 0
 (fun v2 => math_bits_TrailingZeros64 v2
 (fun v3 => K0 v3))
noncomputable def word_Select_j4 {R : Type} := shut (@word_Select_j4_B R)
theorem word_Select_j4_unf {R : Type} : @word_Select_j4 R = @word_Select_j4_B R := shut_eq _

noncomputable def word_Select_B {R : Type} (v0 v1 : Int) (K0 : Int → Option R) : Option R :=
 sel (decide (v1 < 0))
 (K0 64)
 (word_Pop v0
 (fun v2 => sel (decide (v2 ≤ v1))
 (K0 64)
 (word_Select_j4 v0 v1
 (fun v3 => K0 v3))))
noncomputable def word_Select {R : Type} := shut (@word_Select_B R)
theorem word_Select_unf {R : Type} : @word_Select R = @word_Select_B R := shut_eq _

noncomputable def fano_Build_1_j5_B {R : Type} (v0 : Nat) (v1 : List Bool) (v2 v3 : Int) (v4 : Nat) (v5 : List Int) (K0 : Bool → Nat → List Bool → Int → Int → Nat → List Int → Option R) : Option R :=
 K0 true v0 v1 v2 (addW .i64 v3 1) v4 v5
noncomputable def fano_Build_1_j5 {R : Type} := shut (@fano_Build_1_j5_B R)
theorem fano_Build_1_j5_unf {R : Type} : @fano_Build_1_j5 R = @fano_Build_1_j5_B R := shut_eq _

noncomputable def fano_Build_1_j5_1_B {R : Type} (v0 : Nat) (v1 : List Bool) (v2 v3 : Int) (K0 : Bool → Nat → List Bool → Int → Int → Option R) : Option R :=
 K0 true v0 v1 v2 (addW .i64 v3 1)
noncomputable def fano_Build_1_j5_1 {R : Type} := shut (@fano_Build_1_j5_1_B R)
theorem fano_Build_1_j5_1_unf {R : Type} : @fano_Build_1_j5_1 R = @fano_Build_1_j5_1_B R := shut_eq _

noncomputable def fano_Build_1_r_B {R : Type} (v0 : Int) (v1 : Nat) (v2 : List Bool) (v3 v4 : Int) (K0 : Bool → Nat → List Bool → Int → Int → Nat → List Int → Option R) (K1 : Bool → Nat → List Bool → Int → Int → Option R) : Option R :=
 sel (decide (0 ≤ v3))
 (sel (decide (0 ≤ addW .i64 (shrW .i64 v0 v3) v4))
 (sel (decide (addW .i64 (shrW .i64 v0 v3) v4 < (↑v1 : Int)))
 (sel (decide (Int.toNat (addW .i64 (shrW .i64 v0 v3) v4) < List.length v2))
 (letV (List.set v2 (Int.toNat (addW .i64 (shrW .i64 v0 v3) v4)) true) (fun (v5 : List Bool) =>
 sel (decide (0 < v3))
 (word_Mask v3
 (fun v6 => fano_Build_1_j5 v1 v5 v3 v4 1 ([andW .u64 (cvtW .u64 v0) v6])
 K0))
 (fano_Build_1_j5_1 v1 v5 v3 v4
 (fun ve vf vg vh vi => K1 ve vf vg vh vi))))
 (none))
 (none))
 (none))
 (none)
noncomputable def fano_Build_1_r {R : Type} := shut (@fano_Build_1_r_B R)
theorem fano_Build_1_r_unf {R : Type} : @fano_Build_1_r R = @fano_Build_1_r_B R := shut_eq _

noncomputable def fano_Build_1_j5_2_B {R : Type} (v0 : Nat) (v1 : List Bool) (v2 v3 : Int) (v4 : Nat) (v5 : List Int) (K0 : Bool → Nat → List Bool → Int → Int → Nat → List Int → Option R) : Option R :=
 K0 true v0 v1 v2 (addW .i64 v3 1) v4 v5
noncomputable def fano_Build_1_j5_2 {R : Type} := shut (@fano_Build_1_j5_2_B R)
theorem fano_Build_1_j5_2_unf {R : Type} : @fano_Build_1_j5_2 R = @fano_Build_1_j5_2_B R := shut_eq _

noncomputable def fano_Build_1_j5_3_B {R : Type} (v0 : Nat) (v1 : List Bool) (v2 v3 : Int) (v4 : Nat) (v5 : List Int) (K0 : Bool → Nat → List Bool → Int → Int → Nat → List Int → Option R) : Option R :=
 K0 true v0 v1 v2 (addW .i64 v3 1) v4 v5
noncomputable def fano_Build_1_j5_3 {R : Type} := shut (@fano_Build_1_j5_3_B R)
theorem fano_Build_1_j5_3_unf {R : Type} : @fano_Build_1_j5_3 R = @fano_Build_1_j5_3_B R := shut_eq _

noncomputable def fano_Build_1_r_1_B {R : Type} (v0 : Int) (v1 : Nat) (v2 : List Bool) (v3 v4 : Int) (v5 : Nat) (v6 : List Int) (K0 : Bool → Nat → List Bool → Int → Int → Nat → List Int → Option R) (K1 : Bool → Nat → List Bool → Int → Int → Nat → List Int → Option R) : Option R :=
 sel (decide (0 ≤ v3))
 (sel (decide (0 ≤ addW .i64 (shrW .i64 v0 v3) v4))
 (sel (decide (addW .i64 (shrW .i64 v0 v3) v4 < (↑v1 : Int)))
 (sel (decide (Int.toNat (addW .i64 (shrW .i64 v0 v3) v4) < List.length v2))
 (letV (List.set v2 (Int.toNat (addW .i64 (shrW .i64 v0 v3) v4)) true) (fun (v7 : List Bool) =>
 sel (decide (0 < v3))
 (word_Mask v3
 (fun v8 => sel (decide (List.length v6 = v5))
 (sel (decide ((v5 + 1) * 8 ≤ 140737488355328))
 (letV (v6 ++ [andW .u64 (cvtW .u64 v0) v8]) (fun (v9 : List Int) =>
 fano_Build_1_j5_2 v1 v7 v3 v4 (v5 + 1) v9
 K0))
 (none))
 (none)))
 (fano_Build_1_j5_3 v1 v7 v3 v4 v5 v6
 K1)))
 (none))
 (none))
 (none))
 (none)
noncomputable def fano_Build_1_r_1 {R : Type} := shut (@fano_Build_1_r_1_B R)
theorem fano_Build_1_r_1_unf {R : Type} : @fano_Build_1_r_1 R = @fano_Build_1_r_1_B R := shut_eq _

noncomputable def fano_eachOne_1_l4_T {R : Type} (rec : Int → Int → List Int → Int → Int → Nat → List Bool → Int → Int → Nat → Int → List Int → List Int → Option R) (v0 v1 : Int) (v2 : List Int) (v3 v4 : Int) (v5 : Nat) (v6 : List Bool) (v7 v8 : Int) (v9 : Nat) (va : Int) (vb vc : List Int) (K0 : Nat → List Bool → Int → Int → Nat → Int → List Int → List Int → Option R) (K1 : List Int → Int → Int → Nat → List Bool → Int → Int → Nat → Int → List Int → List Int → Option R) : Option R :=
 sel (!decide (v1 = 0))
 (word_Select v1 0
 (fun vd => fano_Build_1_r_1 (addW .i64 (mulW .i64 v0 64) vd) v5 v6 v7 v8 v9 vc
 (fun ve vf vg vh vi vj vk => sel (!ve)
 (K0 vf vg vh vi vj va vb vk)
 (rec v0 (andW .u64 v1 (subW .u64 v1 1)) v2 v3 v4 vf vg vh vi vj va vb vk))
 (fun vl vm vn vo vp vq vr => sel (!vl)
 (K0 vm vn vo vp vq va vb vr)
 (rec v0 (andW .u64 v1 (subW .u64 v1 1)) v2 v3 v4 vm vn vo vp vq va vb vr))))
 (K1 v2 v3 v4 v5 v6 v7 v8 v9 va vb vc)
noncomputable def fano_eachOne_1_l4_L {R : Type} (K0 : Nat → List Bool → Int → Int → Nat → Int → List Int → List Int → Option R) (K1 : List Int → Int → Int → Nat → List Bool → Int → Int → Nat → Int → List Int → List Int → Option R) : Nat → Int → Int → List Int → Int → Int → Nat → List Bool → Int → Int → Nat → Int → List Int → List Int → Option R
 | 0, _, _, _, _, _, _, _, _, _, _, _, _, _ => none
 | N + 1, v0, v1, v2, v3, v4, v5, v6, v7, v8, v9, va, vb, vc => fano_eachOne_1_l4_T (fano_eachOne_1_l4_L K0 K1 N) v0 v1 v2 v3 v4 v5 v6 v7 v8 v9 va vb vc K0 K1
noncomputable def fano_eachOne_1_l4_B {R : Type} (v0 v1 : Int) (v2 : List Int) (v3 v4 : Int) (v5 : Nat) (v6 : List Bool) (v7 v8 : Int) (v9 : Nat) (va : Int) (vb vc : List Int) (K0 : Nat → List Bool → Int → Int → Nat → Int → List Int → List Int → Option R) (K1 : List Int → Int → Int → Nat → List Bool → Int → Int → Nat → Int → List Int → List Int → Option R) : Option R :=
 fano_eachOne_1_l4_L K0 K1 NR v0 v1 v2 v3 v4 v5 v6 v7 v8 v9 va vb vc
noncomputable def fano_eachOne_1_l4 {R : Type} := shut (@fano_eachOne_1_l4_B R)
theorem fano_eachOne_1_l4_unf {R : Type} : @fano_eachOne_1_l4 R = @fano_eachOne_1_l4_B R := shut_eq _

noncomputable def fano_eachOne_1_l2_T {R : Type} (rec : List Int → Int → Int → Nat → List Bool → Int → Int → Nat → Int → List Int → List Int → Option R) (v0 : List Int) (v1 v2 : Int) (v3 : Nat) (v4 : List Bool) (v5 v6 : Int) (v7 : Nat) (v8 : Int) (v9 va : List Int) (K0 : Nat → List Bool → Int → Int → Nat → Int → List Int → List Int → Option R) (K1 : Nat → List Bool → Int → Int → Nat → Int → List Int → List Int → Option R) : Option R :=
 sel (decide (v2 < v1))
 (sel (decide (0 ≤ v2))
 (sel (decide (v2 < (↑(List.length v0) : Int)))
 (fano_eachOne_1_l4 v2 (List.getD v0 (Int.toNat v2) 0) v0 v1 v2 v3 v4 v5 v6 v7 v8 v9 va
 K0
 (fun vj vk vl vm vn vo vp vq vr vs vt => rec vj vk (addW .i64 vl 1) vm vn vo vp vq vr vs vt))
 (none))
 (none))
 (K1 v3 v4 v5 v6 v7 v8 v9 va)
noncomputable def fano_eachOne_1_l2_L {R : Type} (K0 : Nat → List Bool → Int → Int → Nat → Int → List Int → List Int → Option R) (K1 : Nat → List Bool → Int → Int → Nat → Int → List Int → List Int → Option R) : Nat → List Int → Int → Int → Nat → List Bool → Int → Int → Nat → Int → List Int → List Int → Option R
 | 0, _, _, _, _, _, _, _, _, _, _, _ => none
 | N + 1, v0, v1, v2, v3, v4, v5, v6, v7, v8, v9, va => fano_eachOne_1_l2_T (fano_eachOne_1_l2_L K0 K1 N) v0 v1 v2 v3 v4 v5 v6 v7 v8 v9 va K0 K1
noncomputable def fano_eachOne_1_l2_B {R : Type} (v0 : List Int) (v1 v2 : Int) (v3 : Nat) (v4 : List Bool) (v5 v6 : Int) (v7 : Nat) (v8 : Int) (v9 va : List Int) (K0 : Nat → List Bool → Int → Int → Nat → Int → List Int → List Int → Option R) (K1 : Nat → List Bool → Int → Int → Nat → Int → List Int → List Int → Option R) : Option R :=
 fano_eachOne_1_l2_L K0 K1 NR v0 v1 v2 v3 v4 v5 v6 v7 v8 v9 va
noncomputable def fano_eachOne_1_l2 {R : Type} := shut (@fano_eachOne_1_l2_B R)
theorem fano_eachOne_1_l2_unf {R : Type} : @fano_eachOne_1_l2 R = @fano_eachOne_1_l2_B R := shut_eq _

noncomputable def fano_eachOne_1_r_B {R : Type} (v0 : Nat) (v1 : List Bool) (v2 v3 v4 : Int) (v5 : List Int) (K0 : Nat → List Bool → Int → Int → Nat → Int → List Int → List Int → Option R) : Option R :=
 fano_eachOne_1_l2 v5 ((↑(List.length v5) : Int)) 0 v0 v1 v2 v3 0 v4 v5 []
 K0
 K0
noncomputable def fano_eachOne_1_r {R : Type} := shut (@fano_eachOne_1_r_B R)
theorem fano_eachOne_1_r_unf {R : Type} : @fano_eachOne_1_r R = @fano_eachOne_1_r_B R := shut_eq _

noncomputable def bits_New_r_B {R : Type} (v0 : Int) (K0 : Int → Int → Option R) (K1 : Int → Nat → Int → List Int → Option R) : Option R :=
 sel (decide (v0 < 0))
 (bits_New_j3 v0 true 0
 (fun v1 v2 => K0 v2 v1)
 (fun v3 v4 => bits_New_j4 v3 v4
 (fun v5 v6 v7 v8 => K1 v6 v7 v5 v8)))
 (bits_New_j3 v0 (decide (1048576 < v0)) 0
 (fun v9 va => K0 va v9)
 (fun vb vc => bits_New_j4 vb vc
 (fun vd ve vf vg => K1 ve vf vd vg)))
noncomputable def bits_New_r {R : Type} := shut (@bits_New_r_B R)
theorem bits_New_r_unf {R : Type} : @bits_New_r R = @bits_New_r_B R := shut_eq _

noncomputable def bits_From_l6_T {R : Type} (rec : List Bool → Int → Int → Int → Int → Option R) (v0 : List Bool) (v1 v2 v3 v4 : Int) (K0 : Int → Int → Option R) : Option R :=
 sel (decide (v2 < v1))
 (sel (decide (0 ≤ v2))
 (sel (decide (v2 < (↑(List.length v0) : Int)))
 (sel (List.getD v0 (Int.toNat v2) false)
 (none)
 (rec v0 v1 (addW .i64 v2 1) v3 v4))
 (none))
 (none))
 (K0 v3 v4)
noncomputable def bits_From_l6_L {R : Type} (K0 : Int → Int → Option R) : Nat → List Bool → Int → Int → Int → Int → Option R
 | 0, _, _, _, _, _ => none
 | N + 1, v0, v1, v2, v3, v4 => bits_From_l6_T (bits_From_l6_L K0 N) v0 v1 v2 v3 v4 K0
noncomputable def bits_From_l6_B {R : Type} (v0 : List Bool) (v1 v2 v3 v4 : Int) (K0 : Int → Int → Option R) : Option R :=
 bits_From_l6_L K0 NR v0 v1 v2 v3 v4
noncomputable def bits_From_l6 {R : Type} := shut (@bits_From_l6_B R)
theorem bits_From_l6_unf {R : Type} : @bits_From_l6 R = @bits_From_l6_B R := shut_eq _

noncomputable def bits_From_l6_1_T {R : Type} (rec : List Bool → Int → Int → Int → Int → Nat → List Int → Option R) (v0 : List Bool) (v1 v2 v3 v4 : Int) (v5 : Nat) (v6 : List Int) (K0 : Int → Int → Nat → List Int → Option R) : Option R :=
 sel (decide (v2 < v1))
 (sel (decide (0 ≤ v2))
 (sel (decide (v2 < (↑(List.length v0) : Int)))
 (sel (List.getD v0 (Int.toNat v2) false)
 (sel (decide (0 ≤ quoW .i64 v2 64))
 (sel (decide (quoW .i64 v2 64 < (↑v5 : Int)))
 (sel (decide (Int.toNat (quoW .i64 v2 64) < List.length v6))
 (sel (decide (0 ≤ remW v2 64))
 (sel (decide (0 ≤ quoW .i64 v2 64))
 (sel (decide (quoW .i64 v2 64 < (↑v5 : Int)))
 (sel (decide (Int.toNat (quoW .i64 v2 64) < List.length v6))
 (letV (List.set v6 (Int.toNat (quoW .i64 v2 64)) (orW .u64 (List.getD v6 (Int.toNat (quoW .i64 v2 64)) 0) (shlW .u64 1 (remW v2 64)))) (fun (v7 : List Int) =>
 rec v0 v1 (addW .i64 v2 1) v3 v4 v5 v7))
 (none))
 (none))
 (none))
 (none))
 (none))
 (none))
 (none))
 (rec v0 v1 (addW .i64 v2 1) v3 v4 v5 v6))
 (none))
 (none))
 (K0 v3 v4 v5 v6)
noncomputable def bits_From_l6_1_L {R : Type} (K0 : Int → Int → Nat → List Int → Option R) : Nat → List Bool → Int → Int → Int → Int → Nat → List Int → Option R
 | 0, _, _, _, _, _, _, _ => none
 | N + 1, v0, v1, v2, v3, v4, v5, v6 => bits_From_l6_1_T (bits_From_l6_1_L K0 N) v0 v1 v2 v3 v4 v5 v6 K0
noncomputable def bits_From_l6_1_B {R : Type} (v0 : List Bool) (v1 v2 v3 v4 : Int) (v5 : Nat) (v6 : List Int) (K0 : Int → Int → Nat → List Int → Option R) : Option R :=
 bits_From_l6_1_L K0 NR v0 v1 v2 v3 v4 v5 v6
noncomputable def bits_From_l6_1 {R : Type} := shut (@bits_From_l6_1_B R)
theorem bits_From_l6_1_unf {R : Type} : @bits_From_l6_1 R = @bits_From_l6_1_B R := shut_eq _

noncomputable def bits_From_B {R : Type} (v0 : List Bool) (K0 : Int → List Int → Int → Option R) : Option R :=
 bits_New_r ((↑(List.length v0) : Int))
 (fun v1 v2 => sel (!decide (v2 = 0))
 (K0 v1 [] v2)
 (bits_From_l6 v0 ((↑(List.length v0) : Int)) 0 0 v1
 (fun _ v4 => K0 v4 [] 0)))
 (fun v5 v6 v7 v8 => sel (!decide (v7 = 0))
 (sel (decide (v6 = List.length v8))
 (K0 v5 v8 v7)
 (none))
 (bits_From_l6_1 v0 ((↑(List.length v0) : Int)) 0 0 v5 v6 v8
 (fun _ va vb vc => sel (decide (vb = List.length vc))
 (K0 va vc 0)
 (none))))
noncomputable def bits_From {R : Type} := shut (@bits_From_B R)
theorem bits_From_unf {R : Type} : @bits_From R = @bits_From_B R := shut_eq _

noncomputable def fano_Build_j14_B {R : Type} (v0 : Bool) (v1 v2 v3 v4 v5 v6 v7 v8 v9 va vb : Int) (vc : List Int) (vd : Int) (ve : List Int) (K0 : Int → Int → Int → Int → Int → Int → Int → Option R) (K1 : Int → Int → Int → Int → Int → Int → Int → Int → Int → Int → Int → List Int → Int → List Int → Option R) : Option R :=
 sel v0
 (K0 2 0 0 0 0 0 0)
 (K1 v1 v2 v3 v4 v5 v6 v7 v8 v9 va vb vc vd ve)
noncomputable def fano_Build_j14 {R : Type} := shut (@fano_Build_j14_B R)
theorem fano_Build_j14_unf {R : Type} : @fano_Build_j14 R = @fano_Build_j14_B R := shut_eq _

noncomputable def fano_Build_B {R : Type} (v0 : Int) (v1 : List Int) (K0 : Int → Int → Int → Int → Int → List Int → Int → List Int → Int → Option R) : Option R :=
 bits_Check v0 v1
 (fun v2 => sel (!v2)
 (K0 0 0 0 0 0 [] 0 [] 2)
 (bits_Ones v0 v1 v0
 (fun v3 => fano_width v0 v3
 (fun v4 => sel (decide (0 ≤ v4))
 (sel (decide (0 ≤ addW .i64 (addW .i64 v3 (shrW .i64 v0 v4)) 1))
 (sel (decide (addW .i64 (addW .i64 v3 (shrW .i64 v0 v4)) 1 ≤ addW .i64 (addW .i64 v3 (shrW .i64 v0 v4)) 1))
 (sel (decide (addW .i64 (addW .i64 v3 (shrW .i64 v0 v4)) 1 ≤ 281474976710656))
 (sel (decide ((↑1 : Int) * addW .i64 (addW .i64 v3 (shrW .i64 v0 v4)) 1 ≤ 281474976710656))
 (letV (List.replicate (Int.toNat (addW .i64 (addW .i64 v3 (shrW .i64 v0 v4)) 1)) false) (fun (v5 : List Bool) =>
 fano_eachOne_r v0 v1
 (fun v6 v7 => fano_eachOne_1_r (Int.toNat (addW .i64 (addW .i64 v3 (shrW .i64 v0 v4)) 1)) v5 v4 0 v6 v7
 (fun v8 v9 va _ vc _ _ vf => sel (decide (vc = List.length vf))
 (sel (decide (vc = List.length vf))
 (ints_Make (max2 1 va) vf
 (fun vg vh vi vj vk => sel (decide (Int.toNat (addW .i64 (addW .i64 v3 (shrW .i64 v0 v4)) 1) = List.length v9))
 (sel (decide (v8 = List.length v9))
 (sel (decide (v8 = List.length v9))
 (bits_From v9
 (fun vl vm vn => sel (!decide (vk = 0))
 (fano_Build_j14 true 0 0 0 0 0 0 v0 v3 vg vh vi vj vl vm
 (fun vo vp vq vr vs vt vu => K0 vp vq vr vs vt [] vu [] vo)
 (fun _ _ _ _ _ _ v11 v12 v13 v14 v15 v16 v17 v18 => K0 v11 v12 v13 v14 v15 v16 v17 v18 0))
 (fano_Build_j14 (!decide (vn = 0)) 0 0 0 0 0 0 v0 v3 vg vh vi vj vl vm
 (fun v19 v1a v1b v1c v1d v1e v1f => K0 v1a v1b v1c v1d v1e [] v1f [] v19)
 (fun _ _ _ _ _ _ v1m v1n v1o v1p v1q v1r v1s v1t => K0 v1m v1n v1o v1p v1q v1r v1s v1t 0))))
 (none))
 (none))
 (none)))
 (none))
 (none)))))
 (none))
 (none))
 (none))
 (none))
 (none)))))
noncomputable def fano_Build {R : Type} := shut (@fano_Build_B R)
theorem fano_Build_unf {R : Type} : @fano_Build R = @fano_Build_B R := shut_eq _

noncomputable def vector_Build_j10_B {R : Type} (v0 _v1 _v2 _v3 _v4 _v5 _v6 _v7 _v8 _v9 _va _vb _vc _vd ve vf : Int) (vg vh vi : List Int) (vj vk vl vm : Int) (vn : List Int) (vo : Int) (vp vq vr : List Int) (vs vt vu vv vw : Int) (vx : List Int) (vy : Int) (vz : List Int) (K0 : Int → Int → Int → Int → Int → Int → Int → Int → Int → Int → Int → Int → Int → Int → Option R) (K1 : Int → Int → Int → List Int → List Int → List Int → Int → Int → Int → Int → List Int → Int → List Int → List Int → List Int → Int → Int → Int → Int → Int → List Int → Int → List Int → Option R) : Option R :=
 sel (!decide (v0 = 0))
 (K0 v0 0 0 0 0 0 0 0 0 0 0 0 0 0)
 (K1 0 ve vf vg vh vi vj vk vl vm vn vo vp vq vr vs vt vu vv vw vx vy vz)
noncomputable def vector_Build_j10 {R : Type} := shut (@vector_Build_j10_B R)
theorem vector_Build_j10_unf {R : Type} : @vector_Build_j10 R = @vector_Build_j10_B R := shut_eq _

noncomputable def vector_Build_B {R : Type} (v0 v1 : Int) (v2 : List Int) (K0 : Int → Int → List Int → List Int → List Int → Int → Int → Int → Int → List Int → Int → List Int → List Int → List Int → Int → Int → Int → Int → Int → List Int → Int → List Int → Int → Option R) : Option R :=
 sel (decide (v0 = 1))
 (plain_Build v1 v2
 (fun v3 v4 v5 v6 v7 => vector_Build_j10 v7 0 0 0 0 0 0 0 0 0 0 0 0 0 v0 v3 v4 v5 v6 0 0 0 0 [] 0 [] [] [] 0 0 0 0 0 [] 0 []
 (fun v8 v9 va vb vc vd ve vf vg vh vi vj vk vl => K0 v9 va [] [] [] vb vc vd ve [] vf [] [] [] vg vh vi vj vk [] vl [] v8)
 (fun vm vn vo vp vq vr vs vt vu vv vw vx vy vz v10 v11 v12 v13 v14 v15 v16 v17 v18 => K0 vn vo vp vq vr vs vt vu vv vw vx vy vz v10 v11 v12 v13 v14 v15 v16 v17 v18 vm)))
 (sel (decide (v0 = 2))
 (rrr_Build v1 v2
 (fun v19 v1a v1b v1c v1d v1e v1f v1g v1h v1i => vector_Build_j10 v1i 0 0 0 0 0 0 0 0 0 0 0 0 0 v0 0 [] [] [] v19 v1a v1b v1c v1d v1e v1f v1g v1h 0 0 0 0 0 [] 0 []
 (fun v1j v1k v1l v1m v1n v1o v1p v1q v1r v1s v1t v1u v1v v1w => K0 v1k v1l [] [] [] v1m v1n v1o v1p [] v1q [] [] [] v1r v1s v1t v1u v1v [] v1w [] v1j)
 (fun v1x v1y v1z v20 v21 v22 v23 v24 v25 v26 v27 v28 v29 v2a v2b v2c v2d v2e v2f v2g v2h v2i v2j => K0 v1y v1z v20 v21 v22 v23 v24 v25 v26 v27 v28 v29 v2a v2b v2c v2d v2e v2f v2g v2h v2i v2j v1x)))
 (sel (decide (v0 = 3))
 (fano_Build v1 v2
 (fun v2k v2l v2m v2n v2o v2p v2q v2r v2s => vector_Build_j10 v2s 0 0 0 0 0 0 0 0 0 0 0 0 0 v0 0 [] [] [] 0 0 0 0 [] 0 [] [] [] v2k v2l v2m v2n v2o v2p v2q v2r
 (fun v2t v2u v2v v2w v2x v2y v2z v30 v31 v32 v33 v34 v35 v36 => K0 v2u v2v [] [] [] v2w v2x v2y v2z [] v30 [] [] [] v31 v32 v33 v34 v35 [] v36 [] v2t)
 (fun v37 v38 v39 v3a v3b v3c v3d v3e v3f v3g v3h v3i v3j v3k v3l v3m v3n v3o v3p v3q v3r v3s v3t => K0 v38 v39 v3a v3b v3c v3d v3e v3f v3g v3h v3i v3j v3k v3l v3m v3n v3o v3p v3q v3r v3s v3t v37)))
 (vector_Build_j10 5 0 0 0 0 0 0 0 0 0 0 0 0 0 v0 0 [] [] [] 0 0 0 0 [] 0 [] [] [] 0 0 0 0 0 [] 0 []
 (fun v3u v3v v3w v3x v3y v3z v40 v41 v42 v43 v44 v45 v46 v47 => K0 v3v v3w [] [] [] v3x v3y v3z v40 [] v41 [] [] [] v42 v43 v44 v45 v46 [] v47 [] v3u)
 (fun v48 v49 v4a v4b v4c v4d v4e v4f v4g v4h v4i v4j v4k v4l v4m v4n v4o v4p v4q v4r v4s v4t v4u => K0 v49 v4a v4b v4c v4d v4e v4f v4g v4h v4i v4j v4k v4l v4m v4n v4o v4p v4q v4r v4s v4t v4u v48))))
noncomputable def vector_Build {R : Type} := shut (@vector_Build_B R)
theorem vector_Build_unf {R : Type} : @vector_Build R = @vector_Build_B R := shut_eq _

noncomputable def vector_empty_l3_T {R : Type} (rec : List Int → List (List Int) → Int → Int → Option R) (v0 : List Int) (v1 : List (List Int)) (v2 v3 : Int) (K0 : Bool → Option R) (K1 : Unit → Option R) : Option R :=
 sel (decide (v3 < v2))
 (sel (decide (0 ≤ v3))
 (sel (decide (v3 < (↑(List.length v0) : Int)))
 (letV (List.getD v1 (Int.toNat v3) []) (fun (v4 : List Int) =>
 sel (!decide (List.getD v0 (Int.toNat v3) 0 = 0))
 (K0 false)
 (sel (decide (0 < (↑(List.length v4) : Int)))
 (K0 false)
 (rec v0 v1 v2 (addW .i64 v3 1)))))
 (none))
 (none))
 (K1 ())
noncomputable def vector_empty_l3_L {R : Type} (K0 : Bool → Option R) (K1 : Unit → Option R) : Nat → List Int → List (List Int) → Int → Int → Option R
 | 0, _, _, _, _ => none
 | N + 1, v0, v1, v2, v3 => vector_empty_l3_T (vector_empty_l3_L K0 K1 N) v0 v1 v2 v3 K0 K1
noncomputable def vector_empty_l3_B {R : Type} (v0 : List Int) (v1 : List (List Int)) (v2 v3 : Int) (K0 : Bool → Option R) (K1 : Unit → Option R) : Option R :=
 vector_empty_l3_L K0 K1 NR v0 v1 v2 v3
noncomputable def vector_empty_l3 {R : Type} := shut (@vector_empty_l3_B R)
theorem vector_empty_l3_unf {R : Type} : @vector_empty_l3 R = @vector_empty_l3_B R := shut_eq _

noncomputable def vector_empty_B {R : Type} (v0 : List Int) (v1 : List (List Int)) (K0 : Bool → Option R) : Option R :=
 vector_empty_l3 v0 v1 ((↑(List.length v0) : Int)) 0
 (fun v2 => K0 v2)
 (fun _ => K0 true)
noncomputable def vector_empty {R : Type} := shut (@vector_empty_B R)
theorem vector_empty_unf {R : Type} : @vector_empty R = @vector_empty_B R := shut_eq _

noncomputable def vector_spare_j6_B {R : Type} (v0 v1 v2 : Bool) (v3 _v4 : Int) (_v5 _v6 _v7 : List Int) (_v8 _v9 _va _vb : Int) (_vc : List Int) (_vd : Int) (_ve _vf _vg : List Int) (_vh _vi _vj _vk _vl : Int) (_vm : List Int) (_vn : Int) (_vo : List Int) (K0 : Bool → Option R) : Option R :=
 sel (decide (v3 = 1))
 (sel v1
 (K0 v2)
 (K0 false))
 (sel (decide (v3 = 2))
 (sel v0
 (K0 v2)
 (K0 false))
 (sel v0
 (K0 v1)
 (K0 false)))
noncomputable def vector_spare_j6 {R : Type} := shut (@vector_spare_j6_B R)
theorem vector_spare_j6_unf {R : Type} : @vector_spare_j6 R = @vector_spare_j6_B R := shut_eq _

noncomputable def vector_spare_j5_B {R : Type} (v0 v1 : Bool) (v2 v3 : Int) (v4 v5 v6 : List Int) (v7 v8 v9 va : Int) (vb : List Int) (vc : Int) (vd ve vf : List Int) (vg vh vi vj vk : Int) (vl : List Int) (vm : Int) (vn : List Int) (vo vp vq vr vs : Int) (vt : List Int) (vu : Int) (vv : List Int) (K0 : Bool → Option R) : Option R :=
 vector_empty ([vs] ++ [vu]) ([vt] ++ [vv])
 (fun vw => letV ([vs] ++ [vu]) (fun (_ : List Int) =>
 letV ([vt] ++ [vv]) (fun (vy : List (List Int)) =>
 sel vw
 (sel (decide (vo = 0))
 (sel (decide (vp = 0))
 (sel (decide (vq = 0))
 (vector_spare_j6 v0 v1 (decide (vr = 0)) v2 v3 v4 v5 v6 v7 v8 v9 va vb vc vd ve vf vg vh vi vj vk vl vm vn
 (fun vz => K0 vz))
 (vector_spare_j6 v0 v1 false v2 v3 v4 v5 v6 v7 v8 v9 va vb vc vd ve vf vg vh vi vj vk vl vm vn
 (fun v10 => K0 v10)))
 (vector_spare_j6 v0 v1 false v2 v3 v4 v5 v6 v7 v8 v9 va vb vc vd ve vf vg vh vi vj vk vl vm vn
 (fun v11 => K0 v11)))
 (vector_spare_j6 v0 v1 false v2 v3 v4 v5 v6 v7 v8 v9 va vb vc vd ve vf vg vh vi vj vk vl vm vn
 (fun v12 => K0 v12)))
 (vector_spare_j6 v0 v1 false v2 v3 v4 v5 v6 v7 v8 v9 va vb vc vd ve vf vg vh vi vj vk vl vm vn
 (fun v13 => K0 v13)))))
noncomputable def vector_spare_j5 {R : Type} := shut (@vector_spare_j5_B R)
theorem vector_spare_j5_unf {R : Type} : @vector_spare_j5 R = @vector_spare_j5_B R := shut_eq _

noncomputable def vector_spare_j4_B {R : Type} (v0 : Bool) (v1 v2 : Int) (v3 v4 v5 : List Int) (v6 v7 v8 v9 : Int) (va : List Int) (vb : Int) (vc vd ve : List Int) (vf vg vh vi vj : Int) (vk : List Int) (vl : Int) (vm : List Int) (vn vo vp vq : Int) (vr : List Int) (vs : Int) (vt vu vv : List Int) (vw vx vy vz v10 : Int) (v11 : List Int) (v12 : Int) (v13 : List Int) (K0 : Bool → Option R) : Option R :=
 vector_empty ([vq] ++ [vs]) ([vr] ++ [vt])
 (fun v14 => letV ([vq] ++ [vs]) (fun (_ : List Int) =>
 letV ([vr] ++ [vt]) (fun (v16 : List (List Int)) =>
 sel v14
 (letV (decide (addW .i64 (↑(List.length vu) : Int) (↑(List.length vv) : Int) = 0)) (fun (v17 : Bool) =>
 sel v17
 (sel (decide (vn = 0))
 (sel (decide (vo = 0))
 (vector_spare_j5 v0 (decide (vp = 0)) v1 v2 v3 v4 v5 v6 v7 v8 v9 va vb vc vd ve vf vg vh vi vj vk vl vm vw vx vy vz v10 v11 v12 v13
 (fun v18 => K0 v18))
 (vector_spare_j5 v0 false v1 v2 v3 v4 v5 v6 v7 v8 v9 va vb vc vd ve vf vg vh vi vj vk vl vm vw vx vy vz v10 v11 v12 v13
 (fun v19 => K0 v19)))
 (vector_spare_j5 v0 false v1 v2 v3 v4 v5 v6 v7 v8 v9 va vb vc vd ve vf vg vh vi vj vk vl vm vw vx vy vz v10 v11 v12 v13
 (fun v1a => K0 v1a)))
 (vector_spare_j5 v0 false v1 v2 v3 v4 v5 v6 v7 v8 v9 va vb vc vd ve vf vg vh vi vj vk vl vm vw vx vy vz v10 v11 v12 v13
 (fun v1b => K0 v1b))))
 (vector_spare_j5 v0 false v1 v2 v3 v4 v5 v6 v7 v8 v9 va vb vc vd ve vf vg vh vi vj vk vl vm vw vx vy vz v10 v11 v12 v13
 (fun v1c => K0 v1c)))))
noncomputable def vector_spare_j4 {R : Type} := shut (@vector_spare_j4_B R)
theorem vector_spare_j4_unf {R : Type} : @vector_spare_j4 R = @vector_spare_j4_B R := shut_eq _

noncomputable def vector_spare_B {R : Type} (v0 v1 : Int) (v2 v3 v4 : List Int) (v5 v6 v7 v8 : Int) (v9 : List Int) (va : Int) (vb vc vd : List Int) (ve vf vg vh vi : Int) (vj : List Int) (vk : Int) (vl : List Int) (K0 : Bool → Option R) : Option R :=
 vector_empty ([v1]) ([v2])
 (fun vm => sel vm
 (letV (decide (addW .i64 (↑(List.length v3) : Int) (↑(List.length v4) : Int) = 0)) (fun (vn : Bool) =>
 vector_spare_j4 vn v0 v1 v2 v3 v4 v5 v6 v7 v8 v9 va vb vc vd ve vf vg vh vi vj vk vl v5 v6 v7 v8 v9 va vb vc vd ve vf vg vh vi vj vk vl
 (fun vo => K0 vo)))
 (vector_spare_j4 false v0 v1 v2 v3 v4 v5 v6 v7 v8 v9 va vb vc vd ve vf vg vh vi vj vk vl v5 v6 v7 v8 v9 va vb vc vd ve vf vg vh vi vj vk vl
 (fun vp => K0 vp)))
noncomputable def vector_spare {R : Type} := shut (@vector_spare_B R)
theorem vector_spare_unf {R : Type} : @vector_spare R = @vector_spare_B R := shut_eq _

noncomputable def slices_Equal_int_int_l5_T {R : Type} (rec : List Int → List Int → Int → Int → Option R) (v0 v1 : List Int) (v2 v3 : Int) (K0 : Bool → Option R) (K1 : Unit → Option R) : Option R :=
 sel (decide (v3 < v2))
 (sel (decide (0 ≤ v3))
 (sel (decide (v3 < (↑(List.length v0) : Int)))
 (sel (decide (0 ≤ v3))
 (sel (decide (v3 < (↑(List.length v1) : Int)))
 (sel (!decide (List.getD v0 (Int.toNat v3) 0 = List.getD v1 (Int.toNat v3) 0))
 (K0 false)
 (rec v0 v1 v2 (addW .i64 v3 1)))
 (none))
 (none))
 (none))
 (none))
 (K1 ())
noncomputable def slices_Equal_int_int_l5_L {R : Type} (K0 : Bool → Option R) (K1 : Unit → Option R) : Nat → List Int → List Int → Int → Int → Option R
 | 0, _, _, _, _ => none
 | N + 1, v0, v1, v2, v3 => slices_Equal_int_int_l5_T (slices_Equal_int_int_l5_L K0 K1 N) v0 v1 v2 v3 K0 K1
noncomputable def slices_Equal_int_int_l5_B {R : Type} (v0 v1 : List Int) (v2 v3 : Int) (K0 : Bool → Option R) (K1 : Unit → Option R) : Option R :=
 slices_Equal_int_int_l5_L K0 K1 NR v0 v1 v2 v3
noncomputable def slices_Equal_int_int_l5 {R : Type} := shut (@slices_Equal_int_int_l5_B R)
theorem slices_Equal_int_int_l5_unf {R : Type} : @slices_Equal_int_int_l5 R = @slices_Equal_int_int_l5_B R := shut_eq _

noncomputable def slices_Equal_int_int_B {R : Type} (v0 v1 : List Int) (K0 : Bool → Option R) : Option R :=
 sel (!decide ((↑(List.length v0) : Int) = (↑(List.length v1) : Int)))
 (K0 false)
 (slices_Equal_int_int_l5 v0 v1 ((↑(List.length v0) : Int)) 0
 (fun v2 => K0 v2)
 (fun _ => K0 true))
noncomputable def slices_Equal_int_int {R : Type} := shut (@slices_Equal_int_int_B R)
theorem slices_Equal_int_int_unf {R : Type} : @slices_Equal_int_int R = @slices_Equal_int_int_B R := shut_eq _

noncomputable def plain_Check_B {R : Type} (v0 : Int) (v1 v2 v3 : List Int) (K0 : Bool → Option R) : Option R :=
 plain_Build v0 v1
 (fun _ _ v6 v7 v8 => sel (decide (v8 = 0))
 (slices_Equal_int_int v2 v6
 (fun v9 => sel v9
 (slices_Equal_int_int v3 v7
 (fun va => K0 va))
 (K0 false)))
 (K0 false))
noncomputable def plain_Check {R : Type} := shut (@plain_Check_B R)
theorem plain_Check_unf {R : Type} : @plain_Check R = @plain_Check_B R := shut_eq _

noncomputable def ints_Check_B {R : Type} (v0 v1 v2 : Int) (v3 : List Int) (K0 : Bool → Option R) : Option R :=
 sel (decide (1 ≤ v1))
 (sel (decide (v1 ≤ 64))
 (sel (decide (0 ≤ v0))
 (sel (decide (v0 ≤ 1048576))
 (bits_Check v2 v3
 (fun v4 => sel v4
 (K0 (decide (v2 = mulW .i64 v0 v1)))
 (K0 false)))
 (K0 false))
 (K0 false))
 (K0 false))
 (K0 false)
noncomputable def ints_Check {R : Type} := shut (@ints_Check_B R)
theorem ints_Check_unf {R : Type} : @ints_Check R = @ints_Check_B R := shut_eq _

noncomputable def ints_List_l6_T {R : Type} (rec : Nat → Int → Int → Int → Int → Int → List Int → List Int → Option R) (v0 : Nat) (v1 v2 v3 v4 v5 : Int) (v6 v7 : List Int) (K0 : Nat → List Int → Option R) : Option R :=
 sel (decide (v2 < v1))
 (bits_Slice v5 v6 (mulW .i64 v2 v4) v4
 (fun v8 _ => sel (decide (0 ≤ v2))
 (sel (decide (v2 < (↑v0 : Int)))
 (sel (decide (Int.toNat v2 < List.length v7))
 (letV (List.set v7 (Int.toNat v2) v8) (fun (va : List Int) =>
 rec v0 v1 (addW .i64 v2 1) v3 v4 v5 v6 va))
 (none))
 (none))
 (none)))
 (K0 v0 v7)
noncomputable def ints_List_l6_L {R : Type} (K0 : Nat → List Int → Option R) : Nat → Nat → Int → Int → Int → Int → Int → List Int → List Int → Option R
 | 0, _, _, _, _, _, _, _, _ => none
 | N + 1, v0, v1, v2, v3, v4, v5, v6, v7 => ints_List_l6_T (ints_List_l6_L K0 N) v0 v1 v2 v3 v4 v5 v6 v7 K0
noncomputable def ints_List_l6_B {R : Type} (v0 : Nat) (v1 v2 v3 v4 v5 : Int) (v6 v7 : List Int) (K0 : Nat → List Int → Option R) : Option R :=
 ints_List_l6_L K0 NR v0 v1 v2 v3 v4 v5 v6 v7
noncomputable def ints_List_l6 {R : Type} := shut (@ints_List_l6_B R)
theorem ints_List_l6_unf {R : Type} : @ints_List_l6 R = @ints_List_l6_B R := shut_eq _

noncomputable def ints_List_B {R : Type} (v0 v1 v2 : Int) (v3 : List Int) (K0 : List Int → Option R) : Option R :=
 ints_Check v0 v1 v2 v3
 (fun v4 => sel (!v4)
 (K0 [])
 (sel (decide (0 ≤ v0))
 (sel (decide (v0 ≤ v0))
 (sel (decide (v0 ≤ 281474976710656))
 (sel (decide ((↑8 : Int) * v0 ≤ 281474976710656))
 (letV (List.replicate (Int.toNat v0) 0) (fun (v5 : List Int) =>
 ints_List_l6 (Int.toNat v0) ((↑(Int.toNat v0) : Int)) 0 v0 v1 v2 v3 v5
 (fun v6 v7 => sel (decide (v6 = List.length v7))
 (K0 v7)
 (none))))
 (none))
 (none))
 (none))
 (none)))
noncomputable def ints_List {R : Type} := shut (@ints_List_B R)
theorem ints_List_unf {R : Type} : @ints_List R = @ints_List_B R := shut_eq _

noncomputable def binom_Block_j13_B {R : Type} (v0 v1 : Int) (v2 : List (List Int)) (v3 v4 v5 : Int) (K0 : Int → Int → List (List Int) → Int → Int → Option R) : Option R :=
 sel (decide (v5 ≤ v1))
 (sel (decide (0 ≤ v4))
 (K0 (subW .i64 v0 1) (subW .u64 v1 v5) v2 (orW .u64 v3 (shlW .u64 1 v4)) v4)
 (none))
 (K0 v0 v1 v2 v3 v4)
noncomputable def binom_Block_j13 {R : Type} := shut (@binom_Block_j13_B R)
theorem binom_Block_j13_unf {R : Type} : @binom_Block_j13 R = @binom_Block_j13_B R := shut_eq _

noncomputable def binom_Block_l7_T {R : Type} (rec : Int → Int → List (List Int) → Int → Int → Option R) (v0 v1 : Int) (v2 : List (List Int)) (v3 v4 : Int) (K0 : Int → Option R) : Option R :=
 sel (decide (0 ≤ v4))
 (sel (decide (v0 = 0))
 (K0 v3)
 (sel (decide (v0 ≤ v4))
 (sel (decide (0 ≤ v4))
 (sel (decide (v4 < (↑(List.length v2) : Int)))
 (letV (List.getD v2 (Int.toNat v4) []) (fun (v5 : List Int) =>
 sel (decide (0 ≤ v0))
 (sel (decide (v0 < (↑(List.length v5) : Int)))
 (binom_Block_j13 v0 v1 v2 v3 v4 (List.getD v5 (Int.toNat v0) 0)
 (fun v6 v7 v8 v9 va => rec v6 v7 v8 v9 (subW .i64 va 1)))
 (none))
 (none)))
 (none))
 (none))
 (binom_Block_j13 v0 v1 v2 v3 v4 0
 (fun vb vc vd ve vf => rec vb vc vd ve (subW .i64 vf 1)))))
 (K0 v3)
noncomputable def binom_Block_l7_L {R : Type} (K0 : Int → Option R) : Nat → Int → Int → List (List Int) → Int → Int → Option R
 | 0, _, _, _, _, _ => none
 | N + 1, v0, v1, v2, v3, v4 => binom_Block_l7_T (binom_Block_l7_L K0 N) v0 v1 v2 v3 v4 K0
noncomputable def binom_Block_l7_B {R : Type} (v0 v1 : Int) (v2 : List (List Int)) (v3 v4 : Int) (K0 : Int → Option R) : Option R :=
 binom_Block_l7_L K0 NR v0 v1 v2 v3 v4
noncomputable def binom_Block_l7 {R : Type} := shut (@binom_Block_l7_B R)
theorem binom_Block_l7_unf {R : Type} : @binom_Block_l7 R = @binom_Block_l7_B R := shut_eq _

noncomputable def binom_Block_B {R : Type} (v0 v1 v2 : Int) (K0 : Int → Bool → Option R) : Option R :=
 binom_Choose v0 v1
 (fun v3 => sel (decide (v3 ≤ v2))
 (K0 0 false)
 (binom_rows v0
 (fun v4 => binom_Block_l7 v1 v2 v4 0 (subW .i64 v0 1)
 (fun v5 => K0 v5 true))))
noncomputable def binom_Block {R : Type} := shut (@binom_Block_B R)
theorem binom_Block_unf {R : Type} : @binom_Block R = @binom_Block_B R := shut_eq _

noncomputable def rrr_row_j3_B {R : Type} (v0 : Bool) (v1 v2 v3 v4 : Int) (v5 : List Int) (v6 : Int) (v7 v8 v9 : List Int) (va : Int) (K0 : Bool → Int → Option R) (K1 : Int → Int → Int → Int → List Int → Int → List Int → List Int → List Int → Int → Option R) : Option R :=
 sel v0
 (K0 false 0)
 (K1 v1 v2 v3 v4 v5 v6 v7 v8 v9 va)
noncomputable def rrr_row_j3 {R : Type} := shut (@rrr_row_j3_B R)
theorem rrr_row_j3_unf {R : Type} : @rrr_row_j3 R = @rrr_row_j3_B R := shut_eq _

noncomputable def rrr_row_j16_B {R : Type} (v0 v1 v2 v3 : Int) (v4 : List Int) (v5 v6 : Int) (v7 : Bool) (v8 v9 va vb : Int) (vc : List Int) (vd : Int) (ve vf vg : List Int) (vh vi : Int) (vj : List Int) (K0 : Bool → Int → Option R) (K1 : Int → Int → Int → Int → List Int → Int → Int → Int → Int → Int → Int → List Int → Int → List Int → List Int → List Int → Int → Int → List Int → Option R) : Option R :=
 sel v7
 (K0 false 0)
 (K1 v0 v1 v2 v3 v4 v5 v6 v8 v9 va vb vc vd ve vf vg vh vi vj)
noncomputable def rrr_row_j16 {R : Type} := shut (@rrr_row_j16_B R)
theorem rrr_row_j16_unf {R : Type} : @rrr_row_j16 R = @rrr_row_j16_B R := shut_eq _

noncomputable def rrr_row_j17_B {R : Type} (v0 v1 v2 v3 : Int) (v4 : List Int) (v5 v6 v7 v8 v9 va : Int) (vb : List Int) (vc : Int) (vd ve vf : List Int) (vg vh : Int) (vi : List Int) (K0 : Int → List Int → Int → Int → Int → Int → Int → Int → List Int → Int → List Int → List Int → List Int → Int → Int → List Int → Option R) : Option R :=
 bits_Append vh vi v2 v3
 (fun vj vk _ => K0 (addW .i64 v0 v1) v4 v5 v6 v7 v8 v9 va vb vc vd ve vf vg vj vk)
noncomputable def rrr_row_j17 {R : Type} := shut (@rrr_row_j17_B R)
theorem rrr_row_j17_unf {R : Type} : @rrr_row_j17 R = @rrr_row_j17_B R := shut_eq _

noncomputable def rrr_row_l7_T {R : Type} (rec : Int → List Int → Int → Int → Int → Int → Int → Int → List Int → Int → List Int → List Int → List Int → Int → Int → List Int → Option R) (v0 : Int) (v1 : List Int) (v2 v3 v4 v5 v6 v7 : Int) (v8 : List Int) (v9 : Int) (va vb vc : List Int) (vd ve : Int) (vf : List Int) (K0 : Bool → Int → Option R) (K1 : Int → Int → List Int → Option R) : Option R :=
 sel (decide (v3 < v2))
 (sel (decide (0 ≤ v3))
 (sel (decide (v3 < (↑(List.length v1) : Int)))
 (sel (decide (15 < List.getD v1 (Int.toNat v3) 0))
 (K0 false 0)
 (binom_Width 15 (cvtW .i64 (List.getD v1 (Int.toNat v3) 0))
 (fun vg => bits_Slice v9 va v0 vg
 (fun vh vi => binom_Block 15 (cvtW .i64 (List.getD v1 (Int.toNat v3) 0)) vh
 (fun vj vk => sel (!decide (vi = 0))
 (rrr_row_j16 v0 vg vj (min2 15 (subW .i64 v4 ve)) v1 v2 v3 true v4 v5 v6 v7 v8 v9 va vb vc vd ve vf
 (fun vl vm => K0 vl vm)
 (fun vn vo vp vq vr vs vt vu vv vw vx vy vz v10 v11 v12 v13 v14 v15 => rrr_row_j17 vn vo vp vq vr vs vt vu vv vw vx vy vz v10 v11 v12 v13 v14 v15
 (fun v16 v17 v18 v19 v1a v1b v1c v1d v1e v1f v1g v1h v1i v1j v1k v1l => rec v16 v17 v18 (addW .i64 v19 1) v1a v1b v1c v1d v1e v1f v1g v1h v1i v1j v1k v1l)))
 (sel (!vk)
 (rrr_row_j16 v0 vg vj (min2 15 (subW .i64 v4 ve)) v1 v2 v3 true v4 v5 v6 v7 v8 v9 va vb vc vd ve vf
 (fun v1m v1n => K0 v1m v1n)
 (fun v1o v1p v1q v1r v1s v1t v1u v1v v1w v1x v1y v1z v20 v21 v22 v23 v24 v25 v26 => rrr_row_j17 v1o v1p v1q v1r v1s v1t v1u v1v v1w v1x v1y v1z v20 v21 v22 v23 v24 v25 v26
 (fun v27 v28 v29 v2a v2b v2c v2d v2e v2f v2g v2h v2i v2j v2k v2l v2m => rec v27 v28 v29 (addW .i64 v2a 1) v2b v2c v2d v2e v2f v2g v2h v2i v2j v2k v2l v2m)))
 (word_Len vj
 (fun v2n => rrr_row_j16 v0 vg vj (min2 15 (subW .i64 v4 ve)) v1 v2 v3 (decide (min2 15 (subW .i64 v4 ve) < v2n)) v4 v5 v6 v7 v8 v9 va vb vc vd ve vf
 (fun v2o v2p => K0 v2o v2p)
 (fun v2q v2r v2s v2t v2u v2v v2w v2x v2y v2z v30 v31 v32 v33 v34 v35 v36 v37 v38 => rrr_row_j17 v2q v2r v2s v2t v2u v2v v2w v2x v2y v2z v30 v31 v32 v33 v34 v35 v36 v37 v38
 (fun v39 v3a v3b v3c v3d v3e v3f v3g v3h v3i v3j v3k v3l v3m v3n v3o => rec v39 v3a v3b (addW .i64 v3c 1) v3d v3e v3f v3g v3h v3i v3j v3k v3l v3m v3n v3o))))))))))
 (none))
 (none))
 (K1 vd ve vf)
noncomputable def rrr_row_l7_L {R : Type} (K0 : Bool → Int → Option R) (K1 : Int → Int → List Int → Option R) : Nat → Int → List Int → Int → Int → Int → Int → Int → Int → List Int → Int → List Int → List Int → List Int → Int → Int → List Int → Option R
 | 0, _, _, _, _, _, _, _, _, _, _, _, _, _, _, _, _ => none
 | N + 1, v0, v1, v2, v3, v4, v5, v6, v7, v8, v9, va, vb, vc, vd, ve, vf => rrr_row_l7_T (rrr_row_l7_L K0 K1 N) v0 v1 v2 v3 v4 v5 v6 v7 v8 v9 va vb vc vd ve vf K0 K1
noncomputable def rrr_row_l7_B {R : Type} (v0 : Int) (v1 : List Int) (v2 v3 v4 v5 v6 v7 : Int) (v8 : List Int) (v9 : Int) (va vb vc : List Int) (vd ve : Int) (vf : List Int) (K0 : Bool → Int → Option R) (K1 : Int → Int → List Int → Option R) : Option R :=
 rrr_row_l7_L K0 K1 NR v0 v1 v2 v3 v4 v5 v6 v7 v8 v9 va vb vc vd ve vf
noncomputable def rrr_row_l7 {R : Type} := shut (@rrr_row_l7_B R)
theorem rrr_row_l7_unf {R : Type} : @rrr_row_l7 R = @rrr_row_l7_B R := shut_eq _

noncomputable def rrr_row_j4_B {R : Type} (v0 v1 v2 v3 : Int) (v4 : List Int) (v5 : Int) (v6 v7 v8 : List Int) (v9 : Int) (K0 : Bool → Int → Option R) (K1 : Bool → Int → List Int → Option R) : Option R :=
 ints_List v1 v2 v3 v4
 (fun va => rrr_row_l7 0 va ((↑(List.length va) : Int)) 0 v0 v1 v2 v3 v4 v5 v6 v7 v8 v9 0 []
 (fun vb vc => K0 vb vc)
 (fun _ ve vf => K1 true ve vf))
noncomputable def rrr_row_j4 {R : Type} := shut (@rrr_row_j4_B R)
theorem rrr_row_j4_unf {R : Type} : @rrr_row_j4 R = @rrr_row_j4_B R := shut_eq _

noncomputable def rrr_row_B {R : Type} (v0 v1 v2 v3 : Int) (v4 : List Int) (v5 : Int) (v6 v7 v8 : List Int) (K0 : Int → List Int → Bool → Option R) : Option R :=
 sel (decide (v0 < 0))
 (rrr_row_j3 true v0 v1 v2 v3 v4 v5 v6 v7 v8 0
 (fun v9 va => K0 va [] v9)
 (fun vb vc vd ve vf vg vh vi vj vk => rrr_row_j4 vb vc vd ve vf vg vh vi vj vk
 (fun vl vm => K0 vm [] vl)
 (fun vn vo vp => K0 vo vp vn)))
 (sel (decide (1048576 < v0))
 (rrr_row_j3 true v0 v1 v2 v3 v4 v5 v6 v7 v8 0
 (fun vq vr => K0 vr [] vq)
 (fun vs vt vu vv vw vx vy vz v10 v11 => rrr_row_j4 vs vt vu vv vw vx vy vz v10 v11
 (fun v12 v13 => K0 v13 [] v12)
 (fun v14 v15 v16 => K0 v15 v16 v14)))
 (ints_Check v1 v2 v3 v4
 (fun v17 => sel (!v17)
 (rrr_row_j3 true v0 v1 v2 v3 v4 v5 v6 v7 v8 0
 (fun v18 v19 => K0 v19 [] v18)
 (fun v1a v1b v1c v1d v1e v1f v1g v1h v1i v1j => rrr_row_j4 v1a v1b v1c v1d v1e v1f v1g v1h v1i v1j
 (fun v1k v1l => K0 v1l [] v1k)
 (fun v1m v1n v1o => K0 v1n v1o v1m)))
 (bits_Check v5 v6
 (fun v1p => sel (!v1p)
 (rrr_row_j3 true v0 v1 v2 v3 v4 v5 v6 v7 v8 0
 (fun v1q v1r => K0 v1r [] v1q)
 (fun v1s v1t v1u v1v v1w v1x v1y v1z v20 v21 => rrr_row_j4 v1s v1t v1u v1v v1w v1x v1y v1z v20 v21
 (fun v22 v23 => K0 v23 [] v22)
 (fun v24 v25 v26 => K0 v25 v26 v24)))
 (rrr_row_j3 (!decide (v1 = quoW .i64 (subW .i64 (addW .i64 v0 15) 1) 15)) v0 v1 v2 v3 v4 v5 v6 v7 v8 0
 (fun v27 v28 => K0 v28 [] v27)
 (fun v29 v2a v2b v2c v2d v2e v2f v2g v2h v2i => rrr_row_j4 v29 v2a v2b v2c v2d v2e v2f v2g v2h v2i
 (fun v2j v2k => K0 v2k [] v2j)
 (fun v2l v2m v2n => K0 v2m v2n v2l))))))))
noncomputable def rrr_row {R : Type} := shut (@rrr_row_B R)
theorem rrr_row_unf {R : Type} : @rrr_row R = @rrr_row_B R := shut_eq _

noncomputable def slices_Equal_uint64_uint64_l5_T {R : Type} (rec : List Int → List Int → Int → Int → Option R) (v0 v1 : List Int) (v2 v3 : Int) (K0 : Bool → Option R) (K1 : Unit → Option R) : Option R :=
 sel (decide (v3 < v2))
 (sel (decide (0 ≤ v3))
 (sel (decide (v3 < (↑(List.length v0) : Int)))
 (sel (decide (0 ≤ v3))
 (sel (decide (v3 < (↑(List.length v1) : Int)))
 (sel (!decide (List.getD v0 (Int.toNat v3) 0 = List.getD v1 (Int.toNat v3) 0))
 (K0 false)
 (rec v0 v1 v2 (addW .i64 v3 1)))
 (none))
 (none))
 (none))
 (none))
 (K1 ())
noncomputable def slices_Equal_uint64_uint64_l5_L {R : Type} (K0 : Bool → Option R) (K1 : Unit → Option R) : Nat → List Int → List Int → Int → Int → Option R
 | 0, _, _, _, _ => none
 | N + 1, v0, v1, v2, v3 => slices_Equal_uint64_uint64_l5_T (slices_Equal_uint64_uint64_l5_L K0 K1 N) v0 v1 v2 v3 K0 K1
noncomputable def slices_Equal_uint64_uint64_l5_B {R : Type} (v0 v1 : List Int) (v2 v3 : Int) (K0 : Bool → Option R) (K1 : Unit → Option R) : Option R :=
 slices_Equal_uint64_uint64_l5_L K0 K1 NR v0 v1 v2 v3
noncomputable def slices_Equal_uint64_uint64_l5 {R : Type} := shut (@slices_Equal_uint64_uint64_l5_B R)
theorem slices_Equal_uint64_uint64_l5_unf {R : Type} : @slices_Equal_uint64_uint64_l5 R = @slices_Equal_uint64_uint64_l5_B R := shut_eq _

noncomputable def slices_Equal_uint64_uint64_B {R : Type} (v0 v1 : List Int) (K0 : Bool → Option R) : Option R :=
 sel (!decide ((↑(List.length v0) : Int) = (↑(List.length v1) : Int)))
 (K0 false)
 (slices_Equal_uint64_uint64_l5 v0 v1 ((↑(List.length v0) : Int)) 0
 (fun v2 => K0 v2)
 (fun _ => K0 true))
noncomputable def slices_Equal_uint64_uint64 {R : Type} := shut (@slices_Equal_uint64_uint64_B R)
theorem slices_Equal_uint64_uint64_unf {R : Type} : @slices_Equal_uint64_uint64 R = @slices_Equal_uint64_uint64_B R := shut_eq _

noncomputable def rrr_same_j4_B {R : Type} (v0 v1 : Bool) (v2 _v3 _v4 _v5 : Int) (_v6 : List Int) (_v7 : Int) (_v8 v9 va : List Int) (vb _vc _vd _ve : Int) (_vf : List Int) (_vg : Int) (_vh vi vj : List Int) (K0 : Bool → Option R) : Option R :=
 sel v0
 (sel v1
 (sel (decide (v2 = vb))
 (slices_Equal_int_int v9 vi
 (fun vk => sel vk
 (slices_Equal_int_int va vj
 (fun vl => K0 vl))
 (K0 false)))
 (K0 false))
 (K0 false))
 (K0 false)
noncomputable def rrr_same_j4 {R : Type} := shut (@rrr_same_j4_B R)
theorem rrr_same_j4_unf {R : Type} : @rrr_same_j4 R = @rrr_same_j4_B R := shut_eq _

noncomputable def rrr_same_j3_B {R : Type} (v0 : Bool) (v1 v2 v3 v4 : Int) (v5 : List Int) (v6 : Int) (v7 v8 v9 : List Int) (va vb vc vd : Int) (ve : List Int) (vf : Int) (vg vh vi : List Int) (K0 : Bool → Option R) : Option R :=
 sel (decide (v6 = vf))
 (slices_Equal_uint64_uint64 v7 vg
 (fun vj => rrr_same_j4 v0 vj v1 v2 v3 v4 v5 v6 v7 v8 v9 va vb vc vd ve vf vg vh vi
 (fun vk => K0 vk)))
 (rrr_same_j4 v0 false v1 v2 v3 v4 v5 v6 v7 v8 v9 va vb vc vd ve vf vg vh vi
 (fun vl => K0 vl))
noncomputable def rrr_same_j3 {R : Type} := shut (@rrr_same_j3_B R)
theorem rrr_same_j3_unf {R : Type} : @rrr_same_j3 R = @rrr_same_j3_B R := shut_eq _

noncomputable def rrr_same_B {R : Type} (v0 v1 v2 v3 : Int) (v4 : List Int) (v5 : Int) (v6 v7 v8 : List Int) (v9 va vb vc : Int) (vd : List Int) (ve : Int) (vf vg vh : List Int) (K0 : Bool → Option R) : Option R :=
 sel (decide (v1 = va))
 (sel (decide (v2 = vb))
 (sel (decide (v3 = vc))
 (slices_Equal_uint64_uint64 v4 vd
 (fun vi => rrr_same_j3 vi v0 v1 v2 v3 v4 v5 v6 v7 v8 v9 va vb vc vd ve vf vg vh
 (fun vj => K0 vj)))
 (rrr_same_j3 false v0 v1 v2 v3 v4 v5 v6 v7 v8 v9 va vb vc vd ve vf vg vh
 (fun vk => K0 vk)))
 (rrr_same_j3 false v0 v1 v2 v3 v4 v5 v6 v7 v8 v9 va vb vc vd ve vf vg vh
 (fun vl => K0 vl)))
 (rrr_same_j3 false v0 v1 v2 v3 v4 v5 v6 v7 v8 v9 va vb vc vd ve vf vg vh
 (fun vm => K0 vm))
noncomputable def rrr_same {R : Type} := shut (@rrr_same_B R)
theorem rrr_same_unf {R : Type} : @rrr_same R = @rrr_same_B R := shut_eq _

noncomputable def rrr_whole_B {R : Type} (v0 v1 v2 v3 : Int) (v4 : List Int) (v5 : Int) (v6 v7 v8 : List Int) (K0 : Int → List Int → Bool → Option R) : Option R :=
 rrr_row v0 v1 v2 v3 v4 v5 v6 v7 v8
 (fun v9 va vb => sel (!vb)
 (K0 0 [] false)
 (rrr_Build v9 va
 (fun vc vd ve vf vg vh vi vj vk _ => rrr_same v0 v1 v2 v3 v4 v5 v6 v7 v8 vc vd ve vf vg vh vi vj vk
 (fun vm => sel (!vm)
 (K0 0 [] false)
 (K0 v9 va true)))))
noncomputable def rrr_whole {R : Type} := shut (@rrr_whole_B R)
theorem rrr_whole_unf {R : Type} : @rrr_whole R = @rrr_whole_B R := shut_eq _

noncomputable def rrr_Check_B {R : Type} (v0 v1 v2 v3 : Int) (v4 : List Int) (v5 : Int) (v6 v7 v8 : List Int) (K0 : Bool → Option R) : Option R :=
 rrr_whole v0 v1 v2 v3 v4 v5 v6 v7 v8
 (fun _ _ vb => K0 vb)
noncomputable def rrr_Check {R : Type} := shut (@rrr_Check_B R)
theorem rrr_Check_unf {R : Type} : @rrr_Check R = @rrr_Check_B R := shut_eq _

noncomputable def fano_row_j3_B {R : Type} (v0 : Bool) (v1 v2 v3 v4 v5 : Int) (v6 : List Int) (v7 : Int) (v8 : List Int) (v9 : Int) (K0 : Bool → Int → Option R) (K1 : Int → Int → Int → Int → Int → List Int → Int → List Int → Int → Option R) : Option R :=
 sel v0
 (K0 false 0)
 (K1 v1 v2 v3 v4 v5 v6 v7 v8 v9)
noncomputable def fano_row_j3 {R : Type} := shut (@fano_row_j3_B R)
theorem fano_row_j3_unf {R : Type} : @fano_row_j3 R = @fano_row_j3_B R := shut_eq _

noncomputable def fano_row_1_j4_B {R : Type} (v0 : Int) (v1 : Bool) (v2 v3 : Int) (v4 : List Int) (v5 v6 v7 v8 v9 : Int) (va : List Int) (vb : Int) (vc : List Int) (vd : Bool) (ve : Nat) (vf : List Bool) (K0 : Int → Int → Int → List Int → Int → Int → Int → Int → Int → List Int → Int → List Int → Bool → Nat → List Bool → Option R) : Option R :=
 sel v1
 (sel (decide (0 ≤ v2))
 (sel (decide (v2 < (↑(List.length v4) : Int)))
 (word_Mask v3
 (fun vg => K0 (orW .i64 v0 (cvtW .i64 (andW .u64 (List.getD v4 (Int.toNat v2) 0) vg))) v2 v3 v4 v5 v6 v7 v8 v9 va vb vc vd ve vf))
 (none))
 (none))
 (K0 v0 v2 v3 v4 v5 v6 v7 v8 v9 va vb vc vd ve vf)
noncomputable def fano_row_1_j4 {R : Type} := shut (@fano_row_1_j4_B R)
theorem fano_row_1_j4_unf {R : Type} : @fano_row_1_j4 R = @fano_row_1_j4_B R := shut_eq _

noncomputable def fano_row_1_j8_B {R : Type} (v0 v1 : Int) (v2 : List Int) (v3 v4 v5 v6 v7 : Int) (v8 : List Int) (v9 : Int) (va : List Int) (vb : Bool) (vc : Nat) (vd : List Bool) (K0 : Bool → Int → Int → List Int → Int → Int → Int → Int → Int → List Int → Int → List Int → Bool → Nat → List Bool → Option R) : Option R :=
 K0 vb (addW .i64 v0 1) v1 v2 v3 v4 v5 v6 v7 v8 v9 va vb vc vd
noncomputable def fano_row_1_j8 {R : Type} := shut (@fano_row_1_j8_B R)
theorem fano_row_1_j8_unf {R : Type} : @fano_row_1_j8 R = @fano_row_1_j8_B R := shut_eq _

noncomputable def fano_row_1_j6_B {R : Type} (v0 v1 v2 : Int) (v3 : List Int) (v4 v5 v6 v7 v8 : Int) (v9 : List Int) (va : Int) (vb : List Int) (vc : Bool) (vd : Nat) (ve : List Bool) (K0 : Bool → Int → Int → List Int → Int → Int → Int → Int → Int → List Int → Int → List Int → Bool → Nat → List Bool → Option R) : Option R :=
 sel vc
 (sel (decide (0 ≤ v0))
 (sel (decide (v0 < (↑vd : Int)))
 (sel (decide (Int.toNat v0 < List.length ve))
 (letV (List.set ve (Int.toNat v0) true) (fun (vf : List Bool) =>
 fano_row_1_j8 v1 v2 v3 v4 v5 v6 v7 v8 v9 va vb vc vd vf
 K0))
 (none))
 (none))
 (none))
 (fano_row_1_j8 v1 v2 v3 v4 v5 v6 v7 v8 v9 va vb vc vd ve
 K0)
noncomputable def fano_row_1_j6 {R : Type} := shut (@fano_row_1_j6_B R)
theorem fano_row_1_j6_unf {R : Type} : @fano_row_1_j6 R = @fano_row_1_j6_B R := shut_eq _

noncomputable def fano_row_1_j5_B {R : Type} (v0 v1 v2 : Int) (v3 : List Int) (v4 v5 v6 v7 v8 : Int) (v9 : List Int) (va : Int) (vb : List Int) (_vc : Bool) (vd : Nat) (ve : List Bool) (K0 : Bool → Int → Int → List Int → Int → Int → Int → Int → Int → List Int → Int → List Int → Bool → Nat → List Bool → Option R) : Option R :=
 sel (decide (v1 < v5))
 (fano_row_1_j6 v0 v1 v2 v3 v4 v5 v6 v7 v8 v9 va vb (decide (v0 < v4)) vd ve
 K0)
 (fano_row_1_j6 v0 v1 v2 v3 v4 v5 v6 v7 v8 v9 va vb false vd ve
 K0)
noncomputable def fano_row_1_j5 {R : Type} := shut (@fano_row_1_j5_B R)
theorem fano_row_1_j5_unf {R : Type} : @fano_row_1_j5 R = @fano_row_1_j5_B R := shut_eq _

noncomputable def fano_row_1_r_B {R : Type} (v0 v1 v2 : Int) (v3 : List Int) (v4 v5 v6 v7 v8 : Int) (v9 : List Int) (va : Int) (vb : List Int) (vc : Bool) (vd : Nat) (ve : List Bool) (K0 : Bool → Int → Int → List Int → Int → Int → Int → Int → Int → List Int → Int → List Int → Bool → Nat → List Bool → Option R) : Option R :=
 sel (decide (0 ≤ v2))
 (sel (decide (0 < v2))
 (fano_row_1_j4 (shlW .i64 (subW .i64 v0 v1) v2) (decide (v1 < (↑(List.length v3) : Int))) v1 v2 v3 v4 v5 v6 v7 v8 v9 va vb vc vd ve
 (fun vf vg vh vi vj vk vl vm vn vo vp vq vr vs vt => fano_row_1_j5 vf vg vh vi vj vk vl vm vn vo vp vq vr vs vt
 K0))
 (fano_row_1_j4 (shlW .i64 (subW .i64 v0 v1) v2) false v1 v2 v3 v4 v5 v6 v7 v8 v9 va vb vc vd ve
 (fun v19 v1a v1b v1c v1d v1e v1f v1g v1h v1i v1j v1k v1l v1m v1n => fano_row_1_j5 v19 v1a v1b v1c v1d v1e v1f v1g v1h v1i v1j v1k v1l v1m v1n
 K0)))
 (none)
noncomputable def fano_row_1_r {R : Type} := shut (@fano_row_1_r_B R)
theorem fano_row_1_r_unf {R : Type} : @fano_row_1_r R = @fano_row_1_r_B R := shut_eq _

noncomputable def fano_eachOne_1_l4_1_T {R : Type} (rec : Int → Int → List Int → Int → Int → Int → Int → List Int → Int → Int → Int → Int → Int → List Int → Int → List Int → Bool → Nat → List Bool → Int → List Int → Option R) (v0 v1 : Int) (v2 : List Int) (v3 v4 v5 v6 : Int) (v7 : List Int) (v8 v9 va vb vc : Int) (vd : List Int) (ve : Int) (vf : List Int) (vg : Bool) (vh : Nat) (vi : List Bool) (vj : Int) (vk : List Int) (K0 : Int → Int → List Int → Int → Int → Int → Int → Int → List Int → Int → List Int → Bool → Nat → List Bool → Int → List Int → Option R) (K1 : List Int → Int → Int → Int → Int → List Int → Int → Int → Int → Int → Int → List Int → Int → List Int → Bool → Nat → List Bool → Int → List Int → Option R) : Option R :=
 sel (!decide (v1 = 0))
 (word_Select v1 0
 (fun vl => fano_row_1_r (addW .i64 (mulW .i64 v0 64) vl) v5 v6 v7 v8 v9 va vb vc vd ve vf vg vh vi
 (fun vm vn vo vp vq vr vs vt vu vv vw vx vy vz v10 => sel (!vm)
 (K0 vn vo vp vq vr vs vt vu vv vw vx vy vz v10 vj vk)
 (rec v0 (andW .u64 v1 (subW .u64 v1 1)) v2 v3 v4 vn vo vp vq vr vs vt vu vv vw vx vy vz v10 vj vk))))
 (K1 v2 v3 v4 v5 v6 v7 v8 v9 va vb vc vd ve vf vg vh vi vj vk)
noncomputable def fano_eachOne_1_l4_1_L {R : Type} (K0 : Int → Int → List Int → Int → Int → Int → Int → Int → List Int → Int → List Int → Bool → Nat → List Bool → Int → List Int → Option R) (K1 : List Int → Int → Int → Int → Int → List Int → Int → Int → Int → Int → Int → List Int → Int → List Int → Bool → Nat → List Bool → Int → List Int → Option R) : Nat → Int → Int → List Int → Int → Int → Int → Int → List Int → Int → Int → Int → Int → Int → List Int → Int → List Int → Bool → Nat → List Bool → Int → List Int → Option R
 | 0, _, _, _, _, _, _, _, _, _, _, _, _, _, _, _, _, _, _, _, _, _ => none
 | N + 1, v0, v1, v2, v3, v4, v5, v6, v7, v8, v9, va, vb, vc, vd, ve, vf, vg, vh, vi, vj, vk => fano_eachOne_1_l4_1_T (fano_eachOne_1_l4_1_L K0 K1 N) v0 v1 v2 v3 v4 v5 v6 v7 v8 v9 va vb vc vd ve vf vg vh vi vj vk K0 K1
noncomputable def fano_eachOne_1_l4_1_B {R : Type} (v0 v1 : Int) (v2 : List Int) (v3 v4 v5 v6 : Int) (v7 : List Int) (v8 v9 va vb vc : Int) (vd : List Int) (ve : Int) (vf : List Int) (vg : Bool) (vh : Nat) (vi : List Bool) (vj : Int) (vk : List Int) (K0 : Int → Int → List Int → Int → Int → Int → Int → Int → List Int → Int → List Int → Bool → Nat → List Bool → Int → List Int → Option R) (K1 : List Int → Int → Int → Int → Int → List Int → Int → Int → Int → Int → Int → List Int → Int → List Int → Bool → Nat → List Bool → Int → List Int → Option R) : Option R :=
 fano_eachOne_1_l4_1_L K0 K1 NR v0 v1 v2 v3 v4 v5 v6 v7 v8 v9 va vb vc vd ve vf vg vh vi vj vk
noncomputable def fano_eachOne_1_l4_1 {R : Type} := shut (@fano_eachOne_1_l4_1_B R)
theorem fano_eachOne_1_l4_1_unf {R : Type} : @fano_eachOne_1_l4_1 R = @fano_eachOne_1_l4_1_B R := shut_eq _

noncomputable def fano_eachOne_1_l2_1_T {R : Type} (rec : List Int → Int → Int → Int → Int → List Int → Int → Int → Int → Int → Int → List Int → Int → List Int → Bool → Nat → List Bool → Int → List Int → Option R) (v0 : List Int) (v1 v2 v3 v4 : Int) (v5 : List Int) (v6 v7 v8 v9 va : Int) (vb : List Int) (vc : Int) (vd : List Int) (ve : Bool) (vf : Nat) (vg : List Bool) (vh : Int) (vi : List Int) (K0 : Int → Int → List Int → Int → Int → Int → Int → Int → List Int → Int → List Int → Bool → Nat → List Bool → Int → List Int → Option R) (K1 : Int → Int → List Int → Int → Int → Int → Int → Int → List Int → Int → List Int → Bool → Nat → List Bool → Int → List Int → Option R) : Option R :=
 sel (decide (v2 < v1))
 (sel (decide (0 ≤ v2))
 (sel (decide (v2 < (↑(List.length v0) : Int)))
 (fano_eachOne_1_l4_1 v2 (List.getD v0 (Int.toNat v2) 0) v0 v1 v2 v3 v4 v5 v6 v7 v8 v9 va vb vc vd ve vf vg vh vi
 K0
 (fun vz v10 v11 v12 v13 v14 v15 v16 v17 v18 v19 v1a v1b v1c v1d v1e v1f v1g v1h => rec vz v10 (addW .i64 v11 1) v12 v13 v14 v15 v16 v17 v18 v19 v1a v1b v1c v1d v1e v1f v1g v1h))
 (none))
 (none))
 (K1 v3 v4 v5 v6 v7 v8 v9 va vb vc vd ve vf vg vh vi)
noncomputable def fano_eachOne_1_l2_1_L {R : Type} (K0 : Int → Int → List Int → Int → Int → Int → Int → Int → List Int → Int → List Int → Bool → Nat → List Bool → Int → List Int → Option R) (K1 : Int → Int → List Int → Int → Int → Int → Int → Int → List Int → Int → List Int → Bool → Nat → List Bool → Int → List Int → Option R) : Nat → List Int → Int → Int → Int → Int → List Int → Int → Int → Int → Int → Int → List Int → Int → List Int → Bool → Nat → List Bool → Int → List Int → Option R
 | 0, _, _, _, _, _, _, _, _, _, _, _, _, _, _, _, _, _, _, _ => none
 | N + 1, v0, v1, v2, v3, v4, v5, v6, v7, v8, v9, va, vb, vc, vd, ve, vf, vg, vh, vi => fano_eachOne_1_l2_1_T (fano_eachOne_1_l2_1_L K0 K1 N) v0 v1 v2 v3 v4 v5 v6 v7 v8 v9 va vb vc vd ve vf vg vh vi K0 K1
noncomputable def fano_eachOne_1_l2_1_B {R : Type} (v0 : List Int) (v1 v2 v3 v4 : Int) (v5 : List Int) (v6 v7 v8 v9 va : Int) (vb : List Int) (vc : Int) (vd : List Int) (ve : Bool) (vf : Nat) (vg : List Bool) (vh : Int) (vi : List Int) (K0 : Int → Int → List Int → Int → Int → Int → Int → Int → List Int → Int → List Int → Bool → Nat → List Bool → Int → List Int → Option R) (K1 : Int → Int → List Int → Int → Int → Int → Int → Int → List Int → Int → List Int → Bool → Nat → List Bool → Int → List Int → Option R) : Option R :=
 fano_eachOne_1_l2_1_L K0 K1 NR v0 v1 v2 v3 v4 v5 v6 v7 v8 v9 va vb vc vd ve vf vg vh vi
noncomputable def fano_eachOne_1_l2_1 {R : Type} := shut (@fano_eachOne_1_l2_1_B R)
theorem fano_eachOne_1_l2_1_unf {R : Type} : @fano_eachOne_1_l2_1 R = @fano_eachOne_1_l2_1_B R := shut_eq _

noncomputable def fano_eachOne_1_r_1_B {R : Type} (v0 v1 : Int) (v2 : List Int) (v3 v4 v5 v6 v7 : Int) (v8 : List Int) (v9 : Int) (va : List Int) (vb : Bool) (vc : Nat) (vd : List Bool) (ve : Int) (vf : List Int) (K0 : Int → Int → List Int → Int → Int → Int → Int → Int → List Int → Int → List Int → Bool → Nat → List Bool → Int → List Int → Option R) : Option R :=
 fano_eachOne_1_l2_1 vf ((↑(List.length vf) : Int)) 0 v0 v1 v2 v3 v4 v5 v6 v7 v8 v9 va vb vc vd ve vf
 K0
 K0
noncomputable def fano_eachOne_1_r_1 {R : Type} := shut (@fano_eachOne_1_r_1_B R)
theorem fano_eachOne_1_r_1_unf {R : Type} : @fano_eachOne_1_r_1 R = @fano_eachOne_1_r_1_B R := shut_eq _

noncomputable def fano_row_j16_B {R : Type} (v0 : Bool) (v1 v2 : Int) (v3 : List Int) (K0 : Bool → Int → Option R) (K1 : Int → Int → List Int → Option R) : Option R :=
 sel v0
 (K0 false 0)
 (K1 v1 v2 v3)
noncomputable def fano_row_j16 {R : Type} := shut (@fano_row_j16_B R)
theorem fano_row_j16_unf {R : Type} : @fano_row_j16 R = @fano_row_j16_B R := shut_eq _

noncomputable def fano_row_j15_B {R : Type} (v0 : Int) (v1 : Bool) (v2 v3 : Int) (v4 : List Int) (K0 : Bool → Int → Option R) (K1 : Bool → Int → List Int → Option R) : Option R :=
 sel (!decide (v0 = 0))
 (fano_row_j16 true v2 v3 v4
 (fun v5 v6 => K0 v5 v6)
 (fun _ v8 v9 => K1 true v8 v9))
 (fano_row_j16 (!v1) v2 v3 v4
 (fun va vb => K0 va vb)
 (fun _ vd ve => K1 true vd ve))
noncomputable def fano_row_j15 {R : Type} := shut (@fano_row_j15_B R)
theorem fano_row_j15_unf {R : Type} : @fano_row_j15 R = @fano_row_j15_B R := shut_eq _

noncomputable def fano_row_j7_B {R : Type} (v0 v1 v2 v3 v4 : Int) (v5 : List Int) (v6 : Int) (v7 : List Int) (v8 v9 : Int) (va : List Int) (vb : Nat) (vc : List Bool) (K0 : Bool → Int → Option R) (K1 : Bool → Int → List Int → Option R) : Option R :=
 fano_eachOne_r v6 v7
 (fun vd ve => fano_eachOne_1_r_1 0 v9 va v0 v1 v2 v3 v4 v5 v6 v7 true vb vc vd ve
 (fun _ _ _ _ vj vk vl _ vn vo vp vq vr vs _ _ => sel (!vq)
 (K0 false 0)
 (sel (decide (vr = List.length vs))
 (sel (decide (vr = List.length vs))
 (bits_From vs
 (fun vv vw _ => fano_Build vv vw
 (fun _ vz v10 v11 _ v13 v14 v15 v16 => sel (decide (vj = vz))
 (sel (decide (vk = v10))
 (sel (decide (vl = v11))
 (slices_Equal_uint64_uint64 vn v13
 (fun v17 => sel v17
 (sel (decide (vo = v14))
 (slices_Equal_uint64_uint64 vp v15
 (fun v18 => fano_row_j15 v16 v18 v8 vv vw
 (fun v19 v1a => K0 v19 v1a)
 (fun v1b v1c v1d => K1 v1b v1c v1d)))
 (fano_row_j15 v16 false v8 vv vw
 (fun v1e v1f => K0 v1e v1f)
 (fun v1g v1h v1i => K1 v1g v1h v1i)))
 (fano_row_j15 v16 false v8 vv vw
 (fun v1j v1k => K0 v1j v1k)
 (fun v1l v1m v1n => K1 v1l v1m v1n))))
 (fano_row_j15 v16 false v8 vv vw
 (fun v1o v1p => K0 v1o v1p)
 (fun v1q v1r v1s => K1 v1q v1r v1s)))
 (fano_row_j15 v16 false v8 vv vw
 (fun v1t v1u => K0 v1t v1u)
 (fun v1v v1w v1x => K1 v1v v1w v1x)))
 (fano_row_j15 v16 false v8 vv vw
 (fun v1y v1z => K0 v1y v1z)
 (fun v20 v21 v22 => K1 v20 v21 v22)))))
 (none))
 (none))))
noncomputable def fano_row_j7 {R : Type} := shut (@fano_row_j7_B R)
theorem fano_row_j7_unf {R : Type} : @fano_row_j7 R = @fano_row_j7_B R := shut_eq _

noncomputable def fano_row_j4_B {R : Type} (v0 v1 v2 v3 v4 : Int) (v5 : List Int) (v6 : Int) (v7 : List Int) (v8 : Int) (K0 : Bool → Int → Option R) (K1 : Bool → Int → List Int → Option R) : Option R :=
 fano_width v0 v1
 (fun v9 => ints_List v2 v3 v4 v5
 (fun va => sel (decide (0 ≤ v0))
 (sel (decide (v0 ≤ v0))
 (sel (decide (v0 ≤ 281474976710656))
 (sel (decide ((↑1 : Int) * v0 ≤ 281474976710656))
 (letV (List.replicate (Int.toNat v0) false) (fun (vb : List Bool) =>
 fano_row_j7 v0 v1 v2 v3 v4 v5 v6 v7 v8 v9 va (Int.toNat v0) vb
 (fun vc vd => K0 vc vd)
 (fun ve vf vg => K1 ve vf vg)))
 (none))
 (none))
 (none))
 (none)))
noncomputable def fano_row_j4 {R : Type} := shut (@fano_row_j4_B R)
theorem fano_row_j4_unf {R : Type} : @fano_row_j4 R = @fano_row_j4_B R := shut_eq _

noncomputable def fano_row_B {R : Type} (v0 v1 v2 v3 v4 : Int) (v5 : List Int) (v6 : Int) (v7 : List Int) (K0 : Int → List Int → Bool → Option R) : Option R :=
 sel (decide (v0 < 0))
 (fano_row_j3 true v0 v1 v2 v3 v4 v5 v6 v7 0
 (fun v8 v9 => K0 v9 [] v8)
 (fun va vb vc vd ve vf vg vh vi => fano_row_j4 va vb vc vd ve vf vg vh vi
 (fun vj vk => K0 vk [] vj)
 (fun vl vm vn => K0 vm vn vl)))
 (sel (decide (1048576 < v0))
 (fano_row_j3 true v0 v1 v2 v3 v4 v5 v6 v7 0
 (fun vo vp => K0 vp [] vo)
 (fun vq vr vs vt vu vv vw vx vy => fano_row_j4 vq vr vs vt vu vv vw vx vy
 (fun vz v10 => K0 v10 [] vz)
 (fun v11 v12 v13 => K0 v12 v13 v11)))
 (sel (decide (v1 < 0))
 (fano_row_j3 true v0 v1 v2 v3 v4 v5 v6 v7 0
 (fun v14 v15 => K0 v15 [] v14)
 (fun v16 v17 v18 v19 v1a v1b v1c v1d v1e => fano_row_j4 v16 v17 v18 v19 v1a v1b v1c v1d v1e
 (fun v1f v1g => K0 v1g [] v1f)
 (fun v1h v1i v1j => K0 v1i v1j v1h)))
 (sel (decide (v0 < v1))
 (fano_row_j3 true v0 v1 v2 v3 v4 v5 v6 v7 0
 (fun v1k v1l => K0 v1l [] v1k)
 (fun v1m v1n v1o v1p v1q v1r v1s v1t v1u => fano_row_j4 v1m v1n v1o v1p v1q v1r v1s v1t v1u
 (fun v1v v1w => K0 v1w [] v1v)
 (fun v1x v1y v1z => K0 v1y v1z v1x)))
 (ints_Check v2 v3 v4 v5
 (fun v20 => sel (!v20)
 (fano_row_j3 true v0 v1 v2 v3 v4 v5 v6 v7 0
 (fun v21 v22 => K0 v22 [] v21)
 (fun v23 v24 v25 v26 v27 v28 v29 v2a v2b => fano_row_j4 v23 v24 v25 v26 v27 v28 v29 v2a v2b
 (fun v2c v2d => K0 v2d [] v2c)
 (fun v2e v2f v2g => K0 v2f v2g v2e)))
 (bits_Check v6 v7
 (fun v2h => fano_row_j3 (!v2h) v0 v1 v2 v3 v4 v5 v6 v7 0
 (fun v2i v2j => K0 v2j [] v2i)
 (fun v2k v2l v2m v2n v2o v2p v2q v2r v2s => fano_row_j4 v2k v2l v2m v2n v2o v2p v2q v2r v2s
 (fun v2t v2u => K0 v2u [] v2t)
 (fun v2v v2w v2x => K0 v2w v2x v2v)))))))))
noncomputable def fano_row {R : Type} := shut (@fano_row_B R)
theorem fano_row_unf {R : Type} : @fano_row R = @fano_row_B R := shut_eq _

noncomputable def fano_Check_B {R : Type} (v0 v1 v2 v3 v4 : Int) (v5 : List Int) (v6 : Int) (v7 : List Int) (K0 : Bool → Option R) : Option R :=
 fano_row v0 v1 v2 v3 v4 v5 v6 v7
 (fun _ _ va => K0 va)
noncomputable def fano_Check {R : Type} := shut (@fano_Check_B R)
theorem fano_Check_unf {R : Type} : @fano_Check R = @fano_Check_B R := shut_eq _

noncomputable def vector_Check_B {R : Type} (v0 v1 : Int) (v2 v3 v4 : List Int) (v5 v6 v7 v8 : Int) (v9 : List Int) (va : Int) (vb vc vd : List Int) (ve vf vg vh vi : Int) (vj : List Int) (vk : Int) (vl : List Int) (K0 : Bool → Option R) : Option R :=
 vector_spare v0 v1 v2 v3 v4 v5 v6 v7 v8 v9 va vb vc vd ve vf vg vh vi vj vk vl
 (fun vm => sel (!vm)
 (K0 false)
 (sel (decide (v0 = 1))
 (plain_Check v1 v2 v3 v4
 (fun vn => K0 vn))
 (sel (decide (v0 = 2))
 (rrr_Check v5 v6 v7 v8 v9 va vb vc vd
 (fun vo => K0 vo))
 (sel (decide (v0 = 3))
 (fano_Check ve vf vg vh vi vj vk vl
 (fun vp => K0 vp))
 (K0 false)))))
noncomputable def vector_Check {R : Type} := shut (@vector_Check_B R)
theorem vector_Check_unf {R : Type} : @vector_Check R = @vector_Check_B R := shut_eq _

noncomputable def bits_Get_j6_B {R : Type} (v0 _v1 : Int) (v2 : List Int) (K0 : Bool → Int → Option R) : Option R :=
 sel (decide (0 ≤ quoW .i64 v0 64))
 (sel (decide (quoW .i64 v0 64 < (↑(List.length v2) : Int)))
 (sel (decide (0 ≤ remW v0 64))
 (letV (decide (andW .u64 (shrW .u64 (List.getD v2 (Int.toNat (quoW .i64 v0 64)) 0) (remW v0 64)) 1 = 1)) (fun (v3 : Bool) =>
 K0 v3 0))
 (none))
 (none))
 (none)
noncomputable def bits_Get_j6 {R : Type} := shut (@bits_Get_j6_B R)
theorem bits_Get_j6_unf {R : Type} : @bits_Get_j6 R = @bits_Get_j6_B R := shut_eq _

noncomputable def bits_Get_B {R : Type} (v0 : Int) (v1 : List Int) (v2 : Int) (K0 : Bool → Int → Option R) : Option R :=
 bits_Check v0 v1
 (fun v3 => sel (!v3)
 (K0 false 2)
 (sel (decide (v2 < 0))
 (K0 false 3)
 (sel (decide (v0 ≤ v2))
 (K0 false 3)
 (bits_Get_j6 v2 v0 v1
 (fun v4 v5 => K0 v4 v5)))))
noncomputable def bits_Get {R : Type} := shut (@bits_Get_B R)
theorem bits_Get_unf {R : Type} : @bits_Get R = @bits_Get_B R := shut_eq _

noncomputable def plain_Access_B {R : Type} (v0 : Int) (v1 v2 v3 : List Int) (v4 : Int) (K0 : Bool → Int → Option R) : Option R :=
 plain_Check v0 v1 v2 v3
 (fun v5 => sel (!v5)
 (K0 false 2)
 (bits_Get v0 v1 v4
 (fun v6 v7 => K0 v6 v7)))
noncomputable def plain_Access {R : Type} := shut (@plain_Access_B R)
theorem plain_Access_unf {R : Type} : @plain_Access R = @plain_Access_B R := shut_eq _

noncomputable def ints_has_j5_B {R : Type} (v0 : Bool) (K0 : Int → Option R) (K1 : Unit → Option R) : Option R :=
 sel v0
 (K0 3)
 (K1 ())
noncomputable def ints_has_j5 {R : Type} := shut (@ints_has_j5_B R)
theorem ints_has_j5_unf {R : Type} : @ints_has_j5 R = @ints_has_j5_B R := shut_eq _

noncomputable def ints_has_B {R : Type} (v0 v1 v2 : Int) (v3 : List Int) (v4 : Int) (K0 : Int → Option R) (K1 : Unit → Option R) : Option R :=
 ints_Check v0 v1 v2 v3
 (fun v5 => sel (!v5)
 (K0 2)
 (sel (decide (v4 < 0))
 (ints_has_j5 true
 (fun v6 => K0 v6)
 (fun _ => K1 ()))
 (ints_has_j5 (decide (v0 ≤ v4))
 (fun v7 => K0 v7)
 (fun _ => K1 ()))))
noncomputable def ints_has {R : Type} := shut (@ints_has_B R)
theorem ints_has_unf {R : Type} : @ints_has R = @ints_has_B R := shut_eq _

noncomputable def ints_Get_B {R : Type} (v0 v1 v2 : Int) (v3 : List Int) (v4 : Int) (K0 : Int → Int → Option R) : Option R :=
 ints_has v0 v1 v2 v3 v4
 (fun v5 => K0 0 v5)
 (fun _ => bits_Slice v2 v3 (mulW .i64 v4 v1) v1
 (fun v6 v7 => K0 v6 v7))
noncomputable def ints_Get {R : Type} := shut (@ints_Get_B R)
theorem ints_Get_unf {R : Type} : @ints_Get R = @ints_Get_B R := shut_eq _

noncomputable def rrr_get_B {R : Type} (_v0 v1 v2 v3 : Int) (v4 : List Int) (v5 : Int) (v6 _v7 _v8 : List Int) (v9 va : Int) (K0 : Int → Int → Option R) : Option R :=
 ints_Get v1 v2 v3 v4 v9
 (fun vb _ => binom_Width 15 (cvtW .i64 vb)
 (fun vd => bits_Slice v5 v6 va vd
 (fun ve _ => binom_Block 15 (cvtW .i64 vb) ve
 (fun vg _ => K0 vg vd))))
noncomputable def rrr_get {R : Type} := shut (@rrr_get_B R)
theorem rrr_get_unf {R : Type} : @rrr_get R = @rrr_get_B R := shut_eq _

noncomputable def rrr_ones_1_r_B {R : Type} (v0 v1 v2 v3 _v4 : Int) (K0 : Bool → Int → Int → Option R) : Option R :=
 word_Rank v1 (subW .i64 v3 (mulW .i64 v0 15))
 (fun v5 => K0 (decide (mulW .i64 (addW .i64 v0 1) 15 < v3)) v3 (addW .i64 v2 v5))
noncomputable def rrr_ones_1_r {R : Type} := shut (@rrr_ones_1_r_B R)
theorem rrr_ones_1_r_unf {R : Type} : @rrr_ones_1_r R = @rrr_ones_1_r_B R := shut_eq _

noncomputable def rrr_walk_l5_T {R : Type} (rec : Int → Int → Int → Int → Int → Int → Int → Int → Int → List Int → Int → List Int → List Int → List Int → Option R) (v0 v1 v2 v3 v4 v5 v6 v7 v8 : Int) (v9 : List Int) (va : Int) (vb vc vd : List Int) (K0 : Int → Int → Option R) (K1 : Int → Int → Option R) : Option R :=
 sel (decide (v2 < v6))
 (rrr_get v5 v6 v7 v8 v9 va vb vc vd v2 v1
 (fun ve vf => rrr_ones_1_r v2 ve v0 v3 v4
 (fun vg vh vi => sel (!vg)
 (K0 vh vi)
 (word_Pop ve
 (fun vj => rec (addW .i64 v0 vj) (addW .i64 v1 vf) (addW .i64 v2 1) vh vi v5 v6 v7 v8 v9 va vb vc vd)))))
 (K1 v3 v4)
noncomputable def rrr_walk_l5_L {R : Type} (K0 : Int → Int → Option R) (K1 : Int → Int → Option R) : Nat → Int → Int → Int → Int → Int → Int → Int → Int → Int → List Int → Int → List Int → List Int → List Int → Option R
 | 0, _, _, _, _, _, _, _, _, _, _, _, _, _, _ => none
 | N + 1, v0, v1, v2, v3, v4, v5, v6, v7, v8, v9, va, vb, vc, vd => rrr_walk_l5_T (rrr_walk_l5_L K0 K1 N) v0 v1 v2 v3 v4 v5 v6 v7 v8 v9 va vb vc vd K0 K1
noncomputable def rrr_walk_l5_B {R : Type} (v0 v1 v2 v3 v4 v5 v6 v7 v8 : Int) (v9 : List Int) (va : Int) (vb vc vd : List Int) (K0 : Int → Int → Option R) (K1 : Int → Int → Option R) : Option R :=
 rrr_walk_l5_L K0 K1 NR v0 v1 v2 v3 v4 v5 v6 v7 v8 v9 va vb vc vd
noncomputable def rrr_walk_l5 {R : Type} := shut (@rrr_walk_l5_B R)
theorem rrr_walk_l5_unf {R : Type} : @rrr_walk_l5 R = @rrr_walk_l5_B R := shut_eq _

noncomputable def rrr_walk_r_B {R : Type} (v0 v1 v2 v3 : Int) (v4 : List Int) (v5 : Int) (v6 v7 v8 : List Int) (v9 va vb : Int) (K0 : Int → Int → Option R) : Option R :=
 sel (decide (0 ≤ quoW .i64 v9 8))
 (sel (decide (quoW .i64 v9 8 < (↑(List.length v7) : Int)))
 (sel (decide (0 ≤ quoW .i64 v9 8))
 (sel (decide (quoW .i64 v9 8 < (↑(List.length v8) : Int)))
 (rrr_walk_l5 (List.getD v7 (Int.toNat (quoW .i64 v9 8)) 0) (List.getD v8 (Int.toNat (quoW .i64 v9 8)) 0) (mulW .i64 (quoW .i64 v9 8) 8) va vb v0 v1 v2 v3 v4 v5 v6 v7 v8
 (fun vc vd => K0 vc vd)
 (fun ve vf => K0 ve vf))
 (none))
 (none))
 (none))
 (none)
noncomputable def rrr_walk_r {R : Type} := shut (@rrr_walk_r_B R)
theorem rrr_walk_r_unf {R : Type} : @rrr_walk_r R = @rrr_walk_r_B R := shut_eq _

noncomputable def rrr_ones_B {R : Type} (v0 v1 v2 v3 : Int) (v4 : List Int) (v5 : Int) (v6 v7 v8 : List Int) (v9 : Int) (K0 : Int → Option R) : Option R :=
 sel (decide (v9 = 0))
 (K0 0)
 (rrr_walk_r v0 v1 v2 v3 v4 v5 v6 v7 v8 (quoW .i64 (subW .i64 v9 1) 15) v9 0
 (fun _ vb => K0 vb))
noncomputable def rrr_ones {R : Type} := shut (@rrr_ones_B R)
theorem rrr_ones_unf {R : Type} : @rrr_ones R = @rrr_ones_B R := shut_eq _

noncomputable def rrr_Access_j6_B {R : Type} (v0 v1 v2 v3 v4 : Int) (v5 : List Int) (v6 : Int) (v7 v8 v9 : List Int) (K0 : Bool → Int → Option R) : Option R :=
 rrr_ones v1 v2 v3 v4 v5 v6 v7 v8 v9 (addW .i64 v0 1)
 (fun va => rrr_ones v1 v2 v3 v4 v5 v6 v7 v8 v9 v0
 (fun vb => K0 (decide (vb < va)) 0))
noncomputable def rrr_Access_j6 {R : Type} := shut (@rrr_Access_j6_B R)
theorem rrr_Access_j6_unf {R : Type} : @rrr_Access_j6 R = @rrr_Access_j6_B R := shut_eq _

noncomputable def rrr_Access_B {R : Type} (v0 v1 v2 v3 : Int) (v4 : List Int) (v5 : Int) (v6 v7 v8 : List Int) (v9 : Int) (K0 : Bool → Int → Option R) : Option R :=
 rrr_Check v0 v1 v2 v3 v4 v5 v6 v7 v8
 (fun va => sel (!va)
 (K0 false 2)
 (sel (decide (v9 < 0))
 (K0 false 3)
 (sel (decide (v0 ≤ v9))
 (K0 false 3)
 (rrr_Access_j6 v9 v0 v1 v2 v3 v4 v5 v6 v7 v8
 (fun vb vc => K0 vb vc)))))
noncomputable def rrr_Access {R : Type} := shut (@rrr_Access_B R)
theorem rrr_Access_unf {R : Type} : @rrr_Access R = @rrr_Access_B R := shut_eq _

noncomputable def fano_place_l5_T {R : Type} (rec : Int → Int → Int → Int → List Int → Int → Int → Int → Int → Int → Int → Int → List Int → Int → List Int → Option R) (v0 v1 v2 v3 : Int) (v4 : List Int) (v5 v6 v7 v8 v9 va vb : Int) (vc : List Int) (vd : Int) (ve : List Int) (K0 : Int → Int → Int → Int → Int → Int → Int → Int → List Int → Int → List Int → Option R) : Option R :=
 sel (decide (v6 < v5))
 (sel (decide (0 ≤ v6))
 (sel (decide (v6 < (↑(List.length v4) : Int)))
 (word_Pop (List.getD v4 (Int.toNat v6) 0)
 (fun vf => sel (decide (vf ≤ v2))
 (rec v0 v1 (subW .i64 v2 vf) (addW .i64 v3 64) v4 v5 (addW .i64 v6 1) v7 v8 v9 va vb vc vd ve)
 (word_Select (List.getD v4 (Int.toNat v6) 0) v2
 (fun vg => K0 v0 v1 (addW .i64 v3 vg) v7 v8 v9 va vb vc vd ve))))
 (none))
 (none))
 (K0 v0 v1 v3 v7 v8 v9 va vb vc vd ve)
noncomputable def fano_place_l5_L {R : Type} (K0 : Int → Int → Int → Int → Int → Int → Int → Int → List Int → Int → List Int → Option R) : Nat → Int → Int → Int → Int → List Int → Int → Int → Int → Int → Int → Int → Int → List Int → Int → List Int → Option R
 | 0, _, _, _, _, _, _, _, _, _, _, _, _, _, _, _ => none
 | N + 1, v0, v1, v2, v3, v4, v5, v6, v7, v8, v9, va, vb, vc, vd, ve => fano_place_l5_T (fano_place_l5_L K0 N) v0 v1 v2 v3 v4 v5 v6 v7 v8 v9 va vb vc vd ve K0
noncomputable def fano_place_l5_B {R : Type} (v0 v1 v2 v3 : Int) (v4 : List Int) (v5 v6 v7 v8 v9 va vb : Int) (vc : List Int) (vd : Int) (ve : List Int) (K0 : Int → Int → Int → Int → Int → Int → Int → Int → List Int → Int → List Int → Option R) : Option R :=
 fano_place_l5_L K0 NR v0 v1 v2 v3 v4 v5 v6 v7 v8 v9 va vb vc vd ve
noncomputable def fano_place_l5 {R : Type} := shut (@fano_place_l5_B R)
theorem fano_place_l5_unf {R : Type} : @fano_place_l5 R = @fano_place_l5_B R := shut_eq _

noncomputable def fano_place_B {R : Type} (v0 v1 v2 v3 v4 : Int) (v5 : List Int) (v6 : Int) (v7 : List Int) (v8 : Int) (K0 : Int → Option R) : Option R :=
 fano_width v0 v1
 (fun v9 => fano_place_l5 v8 v9 v8 0 v7 ((↑(List.length v7) : Int)) 0 v0 v1 v2 v3 v4 v5 v6 v7
 (fun va vb vc _ _ vf vg vh vi _ _ => sel (decide (0 ≤ vb))
 (sel (decide (0 < vb))
 (ints_Get vf vg vh vi va
 (fun vl _ => K0 (orW .i64 (shlW .i64 (subW .i64 vc va) vb) (cvtW .i64 vl))))
 (K0 (shlW .i64 (subW .i64 vc va) vb)))
 (none)))
noncomputable def fano_place {R : Type} := shut (@fano_place_B R)
theorem fano_place_unf {R : Type} : @fano_place R = @fano_place_B R := shut_eq _

noncomputable def fano_ones_l3_T {R : Type} (rec : Int → Int → Int → Int → Int → Int → Int → Int → List Int → Int → List Int → Option R) (v0 v1 v2 v3 v4 v5 v6 v7 : Int) (v8 : List Int) (v9 : Int) (va : List Int) (K0 : Int → Option R) : Option R :=
 sel (decide (v1 < v2))
 (fano_place v3 v4 v5 v6 v7 v8 v9 va (quoW .i64 (addW .i64 v1 v2) 2)
 (fun vb => sel (decide (vb < v0))
 (rec v0 (addW .i64 (quoW .i64 (addW .i64 v1 v2) 2) 1) v2 v3 v4 v5 v6 v7 v8 v9 va)
 (rec v0 v1 (quoW .i64 (addW .i64 v1 v2) 2) v3 v4 v5 v6 v7 v8 v9 va)))
 (K0 v1)
noncomputable def fano_ones_l3_L {R : Type} (K0 : Int → Option R) : Nat → Int → Int → Int → Int → Int → Int → Int → Int → List Int → Int → List Int → Option R
 | 0, _, _, _, _, _, _, _, _, _, _, _ => none
 | N + 1, v0, v1, v2, v3, v4, v5, v6, v7, v8, v9, va => fano_ones_l3_T (fano_ones_l3_L K0 N) v0 v1 v2 v3 v4 v5 v6 v7 v8 v9 va K0
noncomputable def fano_ones_l3_B {R : Type} (v0 v1 v2 v3 v4 v5 v6 v7 : Int) (v8 : List Int) (v9 : Int) (va : List Int) (K0 : Int → Option R) : Option R :=
 fano_ones_l3_L K0 NR v0 v1 v2 v3 v4 v5 v6 v7 v8 v9 va
noncomputable def fano_ones_l3 {R : Type} := shut (@fano_ones_l3_B R)
theorem fano_ones_l3_unf {R : Type} : @fano_ones_l3 R = @fano_ones_l3_B R := shut_eq _

noncomputable def fano_ones_B {R : Type} (v0 v1 v2 v3 v4 : Int) (v5 : List Int) (v6 : Int) (v7 : List Int) (v8 : Int) (K0 : Int → Option R) : Option R :=
 fano_ones_l3 v8 0 v1 v0 v1 v2 v3 v4 v5 v6 v7
 (fun v9 => K0 v9)
noncomputable def fano_ones {R : Type} := shut (@fano_ones_B R)
theorem fano_ones_unf {R : Type} : @fano_ones R = @fano_ones_B R := shut_eq _

noncomputable def fano_Access_j6_B {R : Type} (v0 v1 v2 v3 v4 v5 : Int) (v6 : List Int) (v7 : Int) (v8 : List Int) (K0 : Bool → Int → Option R) : Option R :=
 fano_ones v1 v2 v3 v4 v5 v6 v7 v8 (addW .i64 v0 1)
 (fun v9 => fano_ones v1 v2 v3 v4 v5 v6 v7 v8 v0
 (fun va => K0 (decide (va < v9)) 0))
noncomputable def fano_Access_j6 {R : Type} := shut (@fano_Access_j6_B R)
theorem fano_Access_j6_unf {R : Type} : @fano_Access_j6 R = @fano_Access_j6_B R := shut_eq _

noncomputable def fano_Access_B {R : Type} (v0 v1 v2 v3 v4 : Int) (v5 : List Int) (v6 : Int) (v7 : List Int) (v8 : Int) (K0 : Bool → Int → Option R) : Option R :=
 fano_Check v0 v1 v2 v3 v4 v5 v6 v7
 (fun v9 => sel (!v9)
 (K0 false 2)
 (sel (decide (v8 < 0))
 (K0 false 3)
 (sel (decide (v0 ≤ v8))
 (K0 false 3)
 (fano_Access_j6 v8 v0 v1 v2 v3 v4 v5 v6 v7
 (fun va vb => K0 va vb)))))
noncomputable def fano_Access {R : Type} := shut (@fano_Access_B R)
theorem fano_Access_unf {R : Type} : @fano_Access R = @fano_Access_B R := shut_eq _

noncomputable def vector_Access_B {R : Type} (v0 v1 : Int) (v2 v3 v4 : List Int) (v5 v6 v7 v8 : Int) (v9 : List Int) (va : Int) (vb vc vd : List Int) (ve vf vg vh vi : Int) (vj : List Int) (vk : Int) (vl : List Int) (vm : Int) (K0 : Bool → Int → Option R) : Option R :=
 vector_Check v0 v1 v2 v3 v4 v5 v6 v7 v8 v9 va vb vc vd ve vf vg vh vi vj vk vl
 (fun vn => sel (!vn)
 (K0 false 2)
 (sel (decide (v0 = 1))
 (plain_Access v1 v2 v3 v4 vm
 (fun vo vp => K0 vo vp))
 (sel (decide (v0 = 2))
 (rrr_Access v5 v6 v7 v8 v9 va vb vc vd vm
 (fun vq vr => K0 vq vr))
 (fano_Access ve vf vg vh vi vj vk vl vm
 (fun vs vt => K0 vs vt)))))
noncomputable def vector_Access {R : Type} := shut (@vector_Access_B R)
theorem vector_Access_unf {R : Type} : @vector_Access R = @vector_Access_B R := shut_eq _

noncomputable def plain_ones_B {R : Type} (v0 : Int) (v1 v2 v3 : List Int) (v4 : Int) (K0 : Int → Option R) : Option R :=
 sel (decide (quoW .i64 v4 64 = (↑(List.length v3) : Int)))
 (bits_Ones v0 v1 v4
 (fun v5 => K0 v5))
 (sel (decide (0 ≤ quoW .i64 (quoW .i64 v4 64) 8))
 (sel (decide (quoW .i64 (quoW .i64 v4 64) 8 < (↑(List.length v2) : Int)))
 (sel (decide (0 ≤ quoW .i64 v4 64))
 (sel (decide (quoW .i64 v4 64 < (↑(List.length v3) : Int)))
 (sel (decide (0 ≤ quoW .i64 v4 64))
 (sel (decide (quoW .i64 v4 64 < (↑(List.length v1) : Int)))
 (word_Rank (List.getD v1 (Int.toNat (quoW .i64 v4 64)) 0) (remW v4 64)
 (fun v6 => K0 (addW .i64 (addW .i64 (List.getD v2 (Int.toNat (quoW .i64 (quoW .i64 v4 64) 8)) 0) (List.getD v3 (Int.toNat (quoW .i64 v4 64)) 0)) v6)))
 (none))
 (none))
 (none))
 (none))
 (none))
 (none))
noncomputable def plain_ones {R : Type} := shut (@plain_ones_B R)
theorem plain_ones_unf {R : Type} : @plain_ones R = @plain_ones_B R := shut_eq _

noncomputable def plain_ahead_B {R : Type} (v0 : Int) (v1 v2 v3 : List Int) (v4 : Bool) (v5 : Int) (K0 : Int → Option R) : Option R :=
 sel v4
 (plain_ones v0 v1 v2 v3 v5
 (fun v6 => K0 v6))
 (plain_ones v0 v1 v2 v3 v5
 (fun v7 => K0 (subW .i64 v5 v7)))
noncomputable def plain_ahead {R : Type} := shut (@plain_ahead_B R)
theorem plain_ahead_unf {R : Type} : @plain_ahead R = @plain_ahead_B R := shut_eq _

noncomputable def plain_Rank_j6_B {R : Type} (v0 : Bool) (v1 v2 : Int) (v3 v4 v5 : List Int) (K0 : Int → Int → Option R) : Option R :=
 plain_ahead v2 v3 v4 v5 v0 v1
 (fun v6 => K0 v6 0)
noncomputable def plain_Rank_j6 {R : Type} := shut (@plain_Rank_j6_B R)
theorem plain_Rank_j6_unf {R : Type} : @plain_Rank_j6 R = @plain_Rank_j6_B R := shut_eq _

noncomputable def plain_Rank_B {R : Type} (v0 : Int) (v1 v2 v3 : List Int) (v4 : Bool) (v5 : Int) (K0 : Int → Int → Option R) : Option R :=
 plain_Check v0 v1 v2 v3
 (fun v6 => sel (!v6)
 (K0 0 2)
 (sel (decide (v5 < 0))
 (K0 0 3)
 (sel (decide (v0 < v5))
 (K0 0 3)
 (plain_Rank_j6 v4 v5 v0 v1 v2 v3
 (fun v7 v8 => K0 v7 v8)))))
noncomputable def plain_Rank {R : Type} := shut (@plain_Rank_B R)
theorem plain_Rank_unf {R : Type} : @plain_Rank R = @plain_Rank_B R := shut_eq _

noncomputable def rrr_ahead_B {R : Type} (v0 v1 v2 v3 : Int) (v4 : List Int) (v5 : Int) (v6 v7 v8 : List Int) (v9 : Bool) (va : Int) (K0 : Int → Option R) : Option R :=
 sel v9
 (rrr_ones v0 v1 v2 v3 v4 v5 v6 v7 v8 va
 (fun vb => K0 vb))
 (rrr_ones v0 v1 v2 v3 v4 v5 v6 v7 v8 va
 (fun vc => K0 (subW .i64 va vc)))
noncomputable def rrr_ahead {R : Type} := shut (@rrr_ahead_B R)
theorem rrr_ahead_unf {R : Type} : @rrr_ahead R = @rrr_ahead_B R := shut_eq _

noncomputable def rrr_Rank_j6_B {R : Type} (v0 : Bool) (v1 v2 v3 v4 v5 : Int) (v6 : List Int) (v7 : Int) (v8 v9 va : List Int) (K0 : Int → Int → Option R) : Option R :=
 rrr_ahead v2 v3 v4 v5 v6 v7 v8 v9 va v0 v1
 (fun vb => K0 vb 0)
noncomputable def rrr_Rank_j6 {R : Type} := shut (@rrr_Rank_j6_B R)
theorem rrr_Rank_j6_unf {R : Type} : @rrr_Rank_j6 R = @rrr_Rank_j6_B R := shut_eq _

noncomputable def rrr_Rank_B {R : Type} (v0 v1 v2 v3 : Int) (v4 : List Int) (v5 : Int) (v6 v7 v8 : List Int) (v9 : Bool) (va : Int) (K0 : Int → Int → Option R) : Option R :=
 rrr_Check v0 v1 v2 v3 v4 v5 v6 v7 v8
 (fun vb => sel (!vb)
 (K0 0 2)
 (sel (decide (va < 0))
 (K0 0 3)
 (sel (decide (v0 < va))
 (K0 0 3)
 (rrr_Rank_j6 v9 va v0 v1 v2 v3 v4 v5 v6 v7 v8
 (fun vc vd => K0 vc vd)))))
noncomputable def rrr_Rank {R : Type} := shut (@rrr_Rank_B R)
theorem rrr_Rank_unf {R : Type} : @rrr_Rank R = @rrr_Rank_B R := shut_eq _

noncomputable def fano_Rank_j6_B {R : Type} (v0 : Bool) (v1 v2 v3 v4 v5 v6 : Int) (v7 : List Int) (v8 : Int) (v9 : List Int) (K0 : Int → Int → Option R) : Option R :=
 fano_ones v2 v3 v4 v5 v6 v7 v8 v9 v1
 (fun va => sel (!v0)
 (K0 (subW .i64 v1 va) 0)
 (K0 va 0))
noncomputable def fano_Rank_j6 {R : Type} := shut (@fano_Rank_j6_B R)
theorem fano_Rank_j6_unf {R : Type} : @fano_Rank_j6 R = @fano_Rank_j6_B R := shut_eq _

noncomputable def fano_Rank_B {R : Type} (v0 v1 v2 v3 v4 : Int) (v5 : List Int) (v6 : Int) (v7 : List Int) (v8 : Bool) (v9 : Int) (K0 : Int → Int → Option R) : Option R :=
 fano_Check v0 v1 v2 v3 v4 v5 v6 v7
 (fun va => sel (!va)
 (K0 0 2)
 (sel (decide (v9 < 0))
 (K0 0 3)
 (sel (decide (v0 < v9))
 (K0 0 3)
 (fano_Rank_j6 v8 v9 v0 v1 v2 v3 v4 v5 v6 v7
 (fun vb vc => K0 vb vc)))))
noncomputable def fano_Rank {R : Type} := shut (@fano_Rank_B R)
theorem fano_Rank_unf {R : Type} : @fano_Rank R = @fano_Rank_B R := shut_eq _

noncomputable def vector_Rank_B {R : Type} (v0 v1 : Int) (v2 v3 v4 : List Int) (v5 v6 v7 v8 : Int) (v9 : List Int) (va : Int) (vb vc vd : List Int) (ve vf vg vh vi : Int) (vj : List Int) (vk : Int) (vl : List Int) (vm : Bool) (vn : Int) (K0 : Int → Int → Option R) : Option R :=
 vector_Check v0 v1 v2 v3 v4 v5 v6 v7 v8 v9 va vb vc vd ve vf vg vh vi vj vk vl
 (fun vo => sel (!vo)
 (K0 0 2)
 (sel (decide (v0 = 1))
 (plain_Rank v1 v2 v3 v4 vm vn
 (fun vp vq => K0 vp vq))
 (sel (decide (v0 = 2))
 (rrr_Rank v5 v6 v7 v8 v9 va vb vc vd vm vn
 (fun vr vs => K0 vr vs))
 (fano_Rank ve vf vg vh vi vj vk vl vm vn
 (fun vt vu => K0 vt vu)))))
noncomputable def vector_Rank {R : Type} := shut (@vector_Rank_B R)
theorem vector_Rank_unf {R : Type} : @vector_Rank R = @vector_Rank_B R := shut_eq _

noncomputable def plain_Select_l7_T {R : Type} (rec : Bool → Int → Int → Int → Int → List Int → List Int → List Int → Option R) (v0 : Bool) (v1 v2 v3 v4 : Int) (v5 v6 v7 : List Int) (K0 : Bool → Int → Int → Int → List Int → List Int → List Int → Option R) : Option R :=
 sel (decide (1 < subW .i64 v3 v2))
 (plain_ahead v4 v5 v6 v7 v0 (mulW .i64 (quoW .i64 (addW .i64 v2 v3) 2) 64)
 (fun v8 => sel (decide (v8 ≤ v1))
 (rec v0 v1 (quoW .i64 (addW .i64 v2 v3) 2) v3 v4 v5 v6 v7)
 (rec v0 v1 v2 (quoW .i64 (addW .i64 v2 v3) 2) v4 v5 v6 v7)))
 (K0 v0 v1 v2 v4 v5 v6 v7)
noncomputable def plain_Select_l7_L {R : Type} (K0 : Bool → Int → Int → Int → List Int → List Int → List Int → Option R) : Nat → Bool → Int → Int → Int → Int → List Int → List Int → List Int → Option R
 | 0, _, _, _, _, _, _, _, _ => none
 | N + 1, v0, v1, v2, v3, v4, v5, v6, v7 => plain_Select_l7_T (plain_Select_l7_L K0 N) v0 v1 v2 v3 v4 v5 v6 v7 K0
noncomputable def plain_Select_l7_B {R : Type} (v0 : Bool) (v1 v2 v3 v4 : Int) (v5 v6 v7 : List Int) (K0 : Bool → Int → Int → Int → List Int → List Int → List Int → Option R) : Option R :=
 plain_Select_l7_L K0 NR v0 v1 v2 v3 v4 v5 v6 v7
noncomputable def plain_Select_l7 {R : Type} := shut (@plain_Select_l7_B R)
theorem plain_Select_l7_unf {R : Type} : @plain_Select_l7 R = @plain_Select_l7_B R := shut_eq _

noncomputable def plain_Select_j15_B {R : Type} (v0 : Bool) (v1 v2 v3 v4 : Int) (v5 v6 v7 : List Int) (K0 : Int → Int → Option R) : Option R :=
 plain_ahead v4 v5 v6 v7 v0 (mulW .i64 v2 64)
 (fun v8 => word_Select v3 (subW .i64 v1 v8)
 (fun v9 => K0 (addW .i64 (mulW .i64 v2 64) v9) 0))
noncomputable def plain_Select_j15 {R : Type} := shut (@plain_Select_j15_B R)
theorem plain_Select_j15_unf {R : Type} : @plain_Select_j15 R = @plain_Select_j15_B R := shut_eq _

noncomputable def plain_Select_j6_B {R : Type} (v0 : Bool) (v1 v2 : Int) (v3 v4 v5 : List Int) (K0 : Int → Int → Option R) : Option R :=
 plain_Select_l7 v0 v1 0 ((↑(List.length v5) : Int)) v2 v3 v4 v5
 (fun v6 v7 v8 v9 va vb vc => sel (decide (0 ≤ v8))
 (sel (decide (v8 < (↑(List.length va) : Int)))
 (sel (!v6)
 (plain_Select_j15 v6 v7 v8 (notW .u64 (List.getD va (Int.toNat v8) 0)) v9 va vb vc
 (fun vd ve => K0 vd ve))
 (plain_Select_j15 v6 v7 v8 (List.getD va (Int.toNat v8) 0) v9 va vb vc
 (fun vf vg => K0 vf vg)))
 (none))
 (none))
noncomputable def plain_Select_j6 {R : Type} := shut (@plain_Select_j6_B R)
theorem plain_Select_j6_unf {R : Type} : @plain_Select_j6 R = @plain_Select_j6_B R := shut_eq _

noncomputable def plain_Select_B {R : Type} (v0 : Int) (v1 v2 v3 : List Int) (v4 : Bool) (v5 : Int) (K0 : Int → Int → Option R) : Option R :=
 plain_Check v0 v1 v2 v3
 (fun v6 => sel (!v6)
 (K0 0 2)
 (sel (decide (v5 < 0))
 (K0 0 3)
 (plain_ahead v0 v1 v2 v3 v4 v0
 (fun v7 => sel (decide (v7 ≤ v5))
 (K0 0 3)
 (plain_Select_j6 v4 v5 v0 v1 v2 v3
 (fun v8 v9 => K0 v8 v9))))))
noncomputable def plain_Select {R : Type} := shut (@plain_Select_B R)
theorem plain_Select_unf {R : Type} : @plain_Select R = @plain_Select_B R := shut_eq _

noncomputable def rrr_Select_l7_T {R : Type} (rec : Int → Int → Int → Int → Int → List Int → Int → List Int → List Int → List Int → Bool → Int → Option R) (v0 v1 v2 v3 v4 : Int) (v5 : List Int) (v6 : Int) (v7 v8 v9 : List Int) (va : Bool) (vb : Int) (K0 : Int → Int → Int → Int → Int → List Int → Int → List Int → List Int → List Int → Bool → Int → Option R) : Option R :=
 sel (decide (addW .i64 v0 1 < (↑(List.length v8) : Int)))
 (rrr_ahead v1 v2 v3 v4 v5 v6 v7 v8 v9 va (mulW .i64 (mulW .i64 (addW .i64 v0 1) 8) 15)
 (fun vc => sel (decide (vc ≤ vb))
 (rec (addW .i64 v0 1) v1 v2 v3 v4 v5 v6 v7 v8 v9 va vb)
 (K0 v0 v1 v2 v3 v4 v5 v6 v7 v8 v9 va vb)))
 (K0 v0 v1 v2 v3 v4 v5 v6 v7 v8 v9 va vb)
noncomputable def rrr_Select_l7_L {R : Type} (K0 : Int → Int → Int → Int → Int → List Int → Int → List Int → List Int → List Int → Bool → Int → Option R) : Nat → Int → Int → Int → Int → Int → List Int → Int → List Int → List Int → List Int → Bool → Int → Option R
 | 0, _, _, _, _, _, _, _, _, _, _, _, _ => none
 | N + 1, v0, v1, v2, v3, v4, v5, v6, v7, v8, v9, va, vb => rrr_Select_l7_T (rrr_Select_l7_L K0 N) v0 v1 v2 v3 v4 v5 v6 v7 v8 v9 va vb K0
noncomputable def rrr_Select_l7_B {R : Type} (v0 v1 v2 v3 v4 : Int) (v5 : List Int) (v6 : Int) (v7 v8 v9 : List Int) (va : Bool) (vb : Int) (K0 : Int → Int → Int → Int → Int → List Int → Int → List Int → List Int → List Int → Bool → Int → Option R) : Option R :=
 rrr_Select_l7_L K0 NR v0 v1 v2 v3 v4 v5 v6 v7 v8 v9 va vb
noncomputable def rrr_Select_l7 {R : Type} := shut (@rrr_Select_l7_B R)
theorem rrr_Select_l7_unf {R : Type} : @rrr_Select_l7 R = @rrr_Select_l7_B R := shut_eq _

noncomputable def rrr_Select_1_j4_B {R : Type} (v0 v1 v2 : Int) (v3 : Bool) (v4 _v5 : Int) (K0 : Bool → Bool → Int → Int → Option R) : Option R :=
 word_Select v1 (subW .i64 v4 v2)
 (fun v6 => word_Pop v1
 (fun v7 => K0 (decide (addW .i64 v2 v7 ≤ v4)) v3 v4 (addW .i64 (mulW .i64 v0 15) v6)))
noncomputable def rrr_Select_1_j4 {R : Type} := shut (@rrr_Select_1_j4_B R)
theorem rrr_Select_1_j4_unf {R : Type} : @rrr_Select_1_j4 R = @rrr_Select_1_j4_B R := shut_eq _

noncomputable def rrr_Select_1_r_B {R : Type} (v0 v1 v2 : Int) (v3 : Bool) (v4 v5 : Int) (K0 : Bool → Bool → Int → Int → Option R) : Option R :=
 sel (!v3)
 (word_Mask 15
 (fun v6 => rrr_Select_1_j4 v0 (andW .u64 (notW .u64 v1) v6) (subW .i64 (mulW .i64 v0 15) v2) v3 v4 v5
 (fun v7 v8 v9 va => K0 v7 v8 v9 va)))
 (rrr_Select_1_j4 v0 v1 v2 v3 v4 v5
 (fun vb vc vd ve => K0 vb vc vd ve))
noncomputable def rrr_Select_1_r {R : Type} := shut (@rrr_Select_1_r_B R)
theorem rrr_Select_1_r_unf {R : Type} : @rrr_Select_1_r R = @rrr_Select_1_r_B R := shut_eq _

noncomputable def rrr_walk_l5_1_T {R : Type} (rec : Int → Int → Int → Bool → Int → Int → Int → Int → Int → Int → List Int → Int → List Int → List Int → List Int → Option R) (v0 v1 v2 : Int) (v3 : Bool) (v4 v5 v6 v7 v8 v9 : Int) (va : List Int) (vb : Int) (vc vd ve : List Int) (K0 : Bool → Int → Int → Option R) (K1 : Bool → Int → Int → Option R) : Option R :=
 sel (decide (v2 < v7))
 (rrr_get v6 v7 v8 v9 va vb vc vd ve v2 v1
 (fun vf vg => rrr_Select_1_r v2 vf v0 v3 v4 v5
 (fun vh vi vj vk => sel (!vh)
 (K0 vi vj vk)
 (word_Pop vf
 (fun vl => rec (addW .i64 v0 vl) (addW .i64 v1 vg) (addW .i64 v2 1) vi vj vk v6 v7 v8 v9 va vb vc vd ve)))))
 (K1 v3 v4 v5)
noncomputable def rrr_walk_l5_1_L {R : Type} (K0 : Bool → Int → Int → Option R) (K1 : Bool → Int → Int → Option R) : Nat → Int → Int → Int → Bool → Int → Int → Int → Int → Int → Int → List Int → Int → List Int → List Int → List Int → Option R
 | 0, _, _, _, _, _, _, _, _, _, _, _, _, _, _, _ => none
 | N + 1, v0, v1, v2, v3, v4, v5, v6, v7, v8, v9, va, vb, vc, vd, ve => rrr_walk_l5_1_T (rrr_walk_l5_1_L K0 K1 N) v0 v1 v2 v3 v4 v5 v6 v7 v8 v9 va vb vc vd ve K0 K1
noncomputable def rrr_walk_l5_1_B {R : Type} (v0 v1 v2 : Int) (v3 : Bool) (v4 v5 v6 v7 v8 v9 : Int) (va : List Int) (vb : Int) (vc vd ve : List Int) (K0 : Bool → Int → Int → Option R) (K1 : Bool → Int → Int → Option R) : Option R :=
 rrr_walk_l5_1_L K0 K1 NR v0 v1 v2 v3 v4 v5 v6 v7 v8 v9 va vb vc vd ve
noncomputable def rrr_walk_l5_1 {R : Type} := shut (@rrr_walk_l5_1_B R)
theorem rrr_walk_l5_1_unf {R : Type} : @rrr_walk_l5_1 R = @rrr_walk_l5_1_B R := shut_eq _

noncomputable def rrr_walk_r_1_B {R : Type} (v0 v1 v2 v3 : Int) (v4 : List Int) (v5 : Int) (v6 v7 v8 : List Int) (v9 : Int) (va : Bool) (vb vc : Int) (K0 : Bool → Int → Int → Option R) : Option R :=
 sel (decide (0 ≤ quoW .i64 v9 8))
 (sel (decide (quoW .i64 v9 8 < (↑(List.length v7) : Int)))
 (sel (decide (0 ≤ quoW .i64 v9 8))
 (sel (decide (quoW .i64 v9 8 < (↑(List.length v8) : Int)))
 (rrr_walk_l5_1 (List.getD v7 (Int.toNat (quoW .i64 v9 8)) 0) (List.getD v8 (Int.toNat (quoW .i64 v9 8)) 0) (mulW .i64 (quoW .i64 v9 8) 8) va vb vc v0 v1 v2 v3 v4 v5 v6 v7 v8
 (fun vd ve vf => K0 vd ve vf)
 (fun vg vh vi => K0 vg vh vi))
 (none))
 (none))
 (none))
 (none)
noncomputable def rrr_walk_r_1 {R : Type} := shut (@rrr_walk_r_1_B R)
theorem rrr_walk_r_1_unf {R : Type} : @rrr_walk_r_1 R = @rrr_walk_r_1_B R := shut_eq _

noncomputable def rrr_Select_j6_B {R : Type} (v0 v1 v2 v3 : Int) (v4 : List Int) (v5 : Int) (v6 v7 v8 : List Int) (v9 : Bool) (va : Int) (K0 : Int → Int → Option R) : Option R :=
 rrr_Select_l7 0 v0 v1 v2 v3 v4 v5 v6 v7 v8 v9 va
 (fun vb vc vd ve vf vg vh vi vj vk vl vm => rrr_walk_r_1 vc vd ve vf vg vh vi vj vk (mulW .i64 vb 8) vl vm 0
 (fun _ _ vp => K0 vp 0))
noncomputable def rrr_Select_j6 {R : Type} := shut (@rrr_Select_j6_B R)
theorem rrr_Select_j6_unf {R : Type} : @rrr_Select_j6 R = @rrr_Select_j6_B R := shut_eq _

noncomputable def rrr_Select_B {R : Type} (v0 v1 v2 v3 : Int) (v4 : List Int) (v5 : Int) (v6 v7 v8 : List Int) (v9 : Bool) (va : Int) (K0 : Int → Int → Option R) : Option R :=
 rrr_Check v0 v1 v2 v3 v4 v5 v6 v7 v8
 (fun vb => sel (!vb)
 (K0 0 2)
 (sel (decide (va < 0))
 (K0 0 3)
 (rrr_ahead v0 v1 v2 v3 v4 v5 v6 v7 v8 v9 v0
 (fun vc => sel (decide (vc ≤ va))
 (K0 0 3)
 (rrr_Select_j6 v0 v1 v2 v3 v4 v5 v6 v7 v8 v9 va
 (fun vd ve => K0 vd ve))))))
noncomputable def rrr_Select {R : Type} := shut (@rrr_Select_B R)
theorem rrr_Select_unf {R : Type} : @rrr_Select R = @rrr_Select_B R := shut_eq _

noncomputable def fano_Select_j8_B {R : Type} (v0 : Bool) (v1 : Int) (v2 : Bool) (v3 v4 v5 v6 v7 : Int) (v8 : List Int) (v9 : Int) (va : List Int) (K0 : Int → Int → Option R) (K1 : Int → Int → Int → Int → Int → Int → List Int → Int → List Int → Option R) : Option R :=
 sel v2
 (K0 0 3)
 (sel v0
 (fano_place v3 v4 v5 v6 v7 v8 v9 va v1
 (fun vb => K0 vb 0))
 (K1 v1 v3 v4 v5 v6 v7 v8 v9 va))
noncomputable def fano_Select_j8 {R : Type} := shut (@fano_Select_j8_B R)
theorem fano_Select_j8_unf {R : Type} : @fano_Select_j8 R = @fano_Select_j8_B R := shut_eq _

noncomputable def fano_Select_l12_T {R : Type} (rec : Int → Int → Int → Int → Int → Int → Int → Int → List Int → Int → List Int → Option R) (v0 v1 v2 v3 v4 v5 v6 v7 : Int) (v8 : List Int) (v9 : Int) (va : List Int) (K0 : Int → Option R) : Option R :=
 sel (decide (v1 < v2))
 (fano_ones v3 v4 v5 v6 v7 v8 v9 va (addW .i64 (quoW .i64 (addW .i64 v1 v2) 2) 1)
 (fun vb => sel (decide (subW .i64 (addW .i64 (quoW .i64 (addW .i64 v1 v2) 2) 1) vb ≤ v0))
 (rec v0 (addW .i64 (quoW .i64 (addW .i64 v1 v2) 2) 1) v2 v3 v4 v5 v6 v7 v8 v9 va)
 (rec v0 v1 (quoW .i64 (addW .i64 v1 v2) 2) v3 v4 v5 v6 v7 v8 v9 va)))
 (K0 v1)
noncomputable def fano_Select_l12_L {R : Type} (K0 : Int → Option R) : Nat → Int → Int → Int → Int → Int → Int → Int → Int → List Int → Int → List Int → Option R
 | 0, _, _, _, _, _, _, _, _, _, _, _ => none
 | N + 1, v0, v1, v2, v3, v4, v5, v6, v7, v8, v9, va => fano_Select_l12_T (fano_Select_l12_L K0 N) v0 v1 v2 v3 v4 v5 v6 v7 v8 v9 va K0
noncomputable def fano_Select_l12_B {R : Type} (v0 v1 v2 v3 v4 v5 v6 v7 : Int) (v8 : List Int) (v9 : Int) (va : List Int) (K0 : Int → Option R) : Option R :=
 fano_Select_l12_L K0 NR v0 v1 v2 v3 v4 v5 v6 v7 v8 v9 va
noncomputable def fano_Select_l12 {R : Type} := shut (@fano_Select_l12_B R)
theorem fano_Select_l12_unf {R : Type} : @fano_Select_l12 R = @fano_Select_l12_B R := shut_eq _

noncomputable def fano_Select_j11_B {R : Type} (v0 v1 v2 v3 v4 v5 : Int) (v6 : List Int) (v7 : Int) (v8 : List Int) (K0 : Int → Int → Option R) : Option R :=
 fano_Select_l12 v0 0 (subW .i64 v1 1) v1 v2 v3 v4 v5 v6 v7 v8
 (fun v9 => K0 v9 0)
noncomputable def fano_Select_j11 {R : Type} := shut (@fano_Select_j11_B R)
theorem fano_Select_j11_unf {R : Type} : @fano_Select_j11 R = @fano_Select_j11_B R := shut_eq _

noncomputable def fano_Select_j5_B {R : Type} (v0 : Bool) (v1 v2 v3 v4 v5 v6 v7 : Int) (v8 : List Int) (v9 : Int) (va : List Int) (K0 : Int → Int → Option R) : Option R :=
 fano_Check v3 v4 v5 v6 v7 v8 v9 va
 (fun vb => sel (!vb)
 (K0 0 2)
 (sel (decide (v1 < 0))
 (fano_Select_j8 v0 v1 true v3 v4 v5 v6 v7 v8 v9 va
 (fun vc vd => K0 vc vd)
 (fun ve vf vg vh vi vj vk vl vm => fano_Select_j11 ve vf vg vh vi vj vk vl vm
 (fun vn vo => K0 vn vo)))
 (fano_Select_j8 v0 v1 (decide (v2 ≤ v1)) v3 v4 v5 v6 v7 v8 v9 va
 (fun vp vq => K0 vp vq)
 (fun vr vs vt vu vv vw vx vy vz => fano_Select_j11 vr vs vt vu vv vw vx vy vz
 (fun v10 v11 => K0 v10 v11)))))
noncomputable def fano_Select_j5 {R : Type} := shut (@fano_Select_j5_B R)
theorem fano_Select_j5_unf {R : Type} : @fano_Select_j5 R = @fano_Select_j5_B R := shut_eq _

noncomputable def fano_Select_B {R : Type} (v0 v1 v2 v3 v4 : Int) (v5 : List Int) (v6 : Int) (v7 : List Int) (v8 : Bool) (v9 : Int) (K0 : Int → Int → Option R) : Option R :=
 sel (!v8)
 (fano_Select_j5 v8 v9 (subW .i64 v0 v1) v0 v1 v2 v3 v4 v5 v6 v7
 (fun va vb => K0 va vb))
 (fano_Select_j5 v8 v9 v1 v0 v1 v2 v3 v4 v5 v6 v7
 (fun vc vd => K0 vc vd))
noncomputable def fano_Select {R : Type} := shut (@fano_Select_B R)
theorem fano_Select_unf {R : Type} : @fano_Select R = @fano_Select_B R := shut_eq _

noncomputable def vector_Select_B {R : Type} (v0 v1 : Int) (v2 v3 v4 : List Int) (v5 v6 v7 v8 : Int) (v9 : List Int) (va : Int) (vb vc vd : List Int) (ve vf vg vh vi : Int) (vj : List Int) (vk : Int) (vl : List Int) (vm : Bool) (vn : Int) (K0 : Int → Int → Option R) : Option R :=
 vector_Check v0 v1 v2 v3 v4 v5 v6 v7 v8 v9 va vb vc vd ve vf vg vh vi vj vk vl
 (fun vo => sel (!vo)
 (K0 0 2)
 (sel (decide (v0 = 1))
 (plain_Select v1 v2 v3 v4 vm vn
 (fun vp vq => K0 vp vq))
 (sel (decide (v0 = 2))
 (rrr_Select v5 v6 v7 v8 v9 va vb vc vd vm vn
 (fun vr vs => K0 vr vs))
 (fano_Select ve vf vg vh vi vj vk vl vm vn
 (fun vt vu => K0 vt vu)))))
noncomputable def vector_Select {R : Type} := shut (@vector_Select_B R)
theorem vector_Select_unf {R : Type} : @vector_Select R = @vector_Select_B R := shut_eq _

noncomputable def plain_Size_B {R : Type} (v0 : Int) (v1 v2 v3 : List Int) (K0 : Int → Option R) : Option R :=
 plain_Check v0 v1 v2 v3
 (fun v4 => sel (!v4)
 (K0 0)
 (K0 (addW .i64 (addW .i64 v0 (mulW .i64 32 (↑(List.length v2) : Int))) (mulW .i64 16 (↑(List.length v3) : Int)))))
noncomputable def plain_Size {R : Type} := shut (@plain_Size_B R)
theorem plain_Size_unf {R : Type} : @plain_Size R = @plain_Size_B R := shut_eq _

noncomputable def rrr_Size_B {R : Type} (v0 v1 v2 v3 : Int) (v4 : List Int) (v5 : Int) (v6 v7 v8 : List Int) (K0 : Int → Option R) : Option R :=
 rrr_Check v0 v1 v2 v3 v4 v5 v6 v7 v8
 (fun v9 => sel (!v9)
 (K0 0)
 (K0 (addW .i64 (addW .i64 v3 v5) (mulW .i64 64 (↑(List.length v7) : Int)))))
noncomputable def rrr_Size {R : Type} := shut (@rrr_Size_B R)
theorem rrr_Size_unf {R : Type} : @rrr_Size R = @rrr_Size_B R := shut_eq _

noncomputable def fano_Size_B {R : Type} (v0 v1 v2 v3 v4 : Int) (v5 : List Int) (v6 : Int) (v7 : List Int) (K0 : Int → Option R) : Option R :=
 fano_Check v0 v1 v2 v3 v4 v5 v6 v7
 (fun v8 => sel (!v8)
 (K0 0)
 (K0 (addW .i64 (addW .i64 v4 v6) 64)))
noncomputable def fano_Size {R : Type} := shut (@fano_Size_B R)
theorem fano_Size_unf {R : Type} : @fano_Size R = @fano_Size_B R := shut_eq _

noncomputable def vector_Size_B {R : Type} (v0 v1 : Int) (v2 v3 v4 : List Int) (v5 v6 v7 v8 : Int) (v9 : List Int) (va : Int) (vb vc vd : List Int) (ve vf vg vh vi : Int) (vj : List Int) (vk : Int) (vl : List Int) (K0 : Int → Option R) : Option R :=
 vector_Check v0 v1 v2 v3 v4 v5 v6 v7 v8 v9 va vb vc vd ve vf vg vh vi vj vk vl
 (fun vm => sel (!vm)
 (K0 0)
 (sel (decide (v0 = 1))
 (plain_Size v1 v2 v3 v4
 (fun vn => K0 vn))
 (sel (decide (v0 = 2))
 (rrr_Size v5 v6 v7 v8 v9 va vb vc vd
 (fun vo => K0 vo))
 (fano_Size ve vf vg vh vi vj vk vl
 (fun vp => K0 vp)))))
noncomputable def vector_Size {R : Type} := shut (@vector_Size_B R)
theorem vector_Size_unf {R : Type} : @vector_Size R = @vector_Size_B R := shut_eq _

noncomputable def plain_Bits_B {R : Type} (v0 : Int) (v1 v2 v3 : List Int) (K0 : Int → List Int → Option R) : Option R :=
 plain_Check v0 v1 v2 v3
 (fun v4 => sel (!v4)
 (K0 0 [])
 (K0 v0 v1))
noncomputable def plain_Bits {R : Type} := shut (@plain_Bits_B R)
theorem plain_Bits_unf {R : Type} : @plain_Bits R = @plain_Bits_B R := shut_eq _

noncomputable def rrr_Bits_B {R : Type} (v0 v1 v2 v3 : Int) (v4 : List Int) (v5 : Int) (v6 v7 v8 : List Int) (K0 : Int → List Int → Option R) : Option R :=
 rrr_whole v0 v1 v2 v3 v4 v5 v6 v7 v8
 (fun v9 va _ => K0 v9 va)
noncomputable def rrr_Bits {R : Type} := shut (@rrr_Bits_B R)
theorem rrr_Bits_unf {R : Type} : @rrr_Bits R = @rrr_Bits_B R := shut_eq _

noncomputable def fano_Bits_B {R : Type} (v0 v1 v2 v3 v4 : Int) (v5 : List Int) (v6 : Int) (v7 : List Int) (K0 : Int → List Int → Option R) : Option R :=
 fano_row v0 v1 v2 v3 v4 v5 v6 v7
 (fun v8 v9 _ => K0 v8 v9)
noncomputable def fano_Bits {R : Type} := shut (@fano_Bits_B R)
theorem fano_Bits_unf {R : Type} : @fano_Bits R = @fano_Bits_B R := shut_eq _

noncomputable def vector_Bits_B {R : Type} (v0 v1 : Int) (v2 v3 v4 : List Int) (v5 v6 v7 v8 : Int) (v9 : List Int) (va : Int) (vb vc vd : List Int) (ve vf vg vh vi : Int) (vj : List Int) (vk : Int) (vl : List Int) (K0 : Int → List Int → Option R) : Option R :=
 vector_Check v0 v1 v2 v3 v4 v5 v6 v7 v8 v9 va vb vc vd ve vf vg vh vi vj vk vl
 (fun vm => sel (!vm)
 (K0 0 [])
 (sel (decide (v0 = 1))
 (plain_Bits v1 v2 v3 v4
 (fun vn vo => K0 vn vo))
 (sel (decide (v0 = 2))
 (rrr_Bits v5 v6 v7 v8 v9 va vb vc vd
 (fun vp vq => K0 vp vq))
 (fano_Bits ve vf vg vh vi vj vk vl
 (fun vr vs => K0 vr vs)))))
noncomputable def vector_Bits {R : Type} := shut (@vector_Bits_B R)
theorem vector_Bits_unf {R : Type} : @vector_Bits R = @vector_Bits_B R := shut_eq _

noncomputable def haystackref02_Same_l5_T {R : Type} (rec : Int → Int → List Int → Int → List Int → Option R) (v0 v1 : Int) (v2 : List Int) (v3 : Int) (v4 : List Int) (K0 : Bool → Option R) (K1 : Unit → Option R) : Option R :=
 sel (decide (v0 < (↑(List.length v2) : Int)))
 (sel (decide (0 ≤ v0))
 (sel (decide (v0 < (↑(List.length v2) : Int)))
 (sel (decide (0 ≤ v0))
 (sel (decide (v0 < (↑(List.length v4) : Int)))
 (sel (!decide (List.getD v2 (Int.toNat v0) 0 = List.getD v4 (Int.toNat v0) 0))
 (K0 false)
 (rec (addW .i64 v0 1) v1 v2 v3 v4))
 (none))
 (none))
 (none))
 (none))
 (K1 ())
noncomputable def haystackref02_Same_l5_L {R : Type} (K0 : Bool → Option R) (K1 : Unit → Option R) : Nat → Int → Int → List Int → Int → List Int → Option R
 | 0, _, _, _, _, _ => none
 | N + 1, v0, v1, v2, v3, v4 => haystackref02_Same_l5_T (haystackref02_Same_l5_L K0 K1 N) v0 v1 v2 v3 v4 K0 K1
noncomputable def haystackref02_Same_l5_B {R : Type} (v0 v1 : Int) (v2 : List Int) (v3 : Int) (v4 : List Int) (K0 : Bool → Option R) (K1 : Unit → Option R) : Option R :=
 haystackref02_Same_l5_L K0 K1 NR v0 v1 v2 v3 v4
noncomputable def haystackref02_Same_l5 {R : Type} := shut (@haystackref02_Same_l5_B R)
theorem haystackref02_Same_l5_unf {R : Type} : @haystackref02_Same_l5 R = @haystackref02_Same_l5_B R := shut_eq _

noncomputable def haystackref02_Same_j4_B {R : Type} (v0 : Int) (v1 : List Int) (v2 : Int) (v3 : List Int) (K0 : Bool → Option R) : Option R :=
 haystackref02_Same_l5 0 v0 v1 v2 v3
 (fun v4 => K0 v4)
 (fun _ => K0 true)
noncomputable def haystackref02_Same_j4 {R : Type} := shut (@haystackref02_Same_j4_B R)
theorem haystackref02_Same_j4_unf {R : Type} : @haystackref02_Same_j4 R = @haystackref02_Same_j4_B R := shut_eq _

noncomputable def haystackref02_Same_B {R : Type} (v0 : Int) (v1 : List Int) (v2 : Int) (v3 : List Int) (K0 : Bool → Option R) : Option R :=
 sel (!decide (v0 = v2))
 (K0 false)
 (sel (!decide ((↑(List.length v1) : Int) = (↑(List.length v3) : Int)))
 (K0 false)
 (haystackref02_Same_j4 v0 v1 v2 v3
 (fun v4 => K0 v4)))
noncomputable def haystackref02_Same {R : Type} := shut (@haystackref02_Same_B R)
theorem haystackref02_Same_unf {R : Type} : @haystackref02_Same R = @haystackref02_Same_B R := shut_eq _

noncomputable def haystacklaw10_heads_j4_B {R : Type} (v0 : Int) (v1 : Bool) (v2 v3 v4 : Int) (v5 v6 v7 : List Int) (v8 v9 va vb : Int) (vc : List Int) (vd : Int) (ve vf vg : List Int) (vh vi vj vk vl : Int) (vm : List Int) (vn : Int) (vo : List Int) (K0 : Bool → Option R) : Option R :=
 vector_Rank v3 v4 v5 v6 v7 v8 v9 va vb vc vd ve vf vg vh vi vj vk vl vm vn vo true 4
 (fun vp vq => vector_Select v3 v4 v5 v6 v7 v8 v9 va vb vc vd ve vf vg vh vi vj vk vl vm vn vo true 2
 (fun vr vs => vector_Select v3 v4 v5 v6 v7 v8 v9 va vb vc vd ve vf vg vh vi vj vk vl vm vn vo false 1
 (fun vt vu => vector_Select v3 v4 v5 v6 v7 v8 v9 va vb vc vd ve vf vg vh vi vj vk vl vm vn vo true 3
 (fun _ vw => vector_Build 2 1 []
 (fun _ _ _ _ _ _ _ _ _ _ _ _ _ _ _ _ _ _ _ _ _ _ v1j => sel (decide (v0 = 0))
 (sel v1
 (sel (decide (v2 = 0))
 (sel (decide (vp = 2))
 (sel (decide (vq = 0))
 (sel (decide (vr = 4))
 (sel (decide (vs = 0))
 (sel (decide (vt = 3))
 (sel (decide (vu = 0))
 (sel (decide (vw = 3))
 (sel (decide (v1j = 2))
 (vector_Check v3 v4 v5 v6 v7 v8 v9 va vb vc vd ve vf vg vh vi vj vk vl vm vn vo
 (fun v1k => sel v1k
 (vector_Size v3 v4 v5 v6 v7 v8 v9 va vb vc vd ve vf vg vh vi vj vk vl vm vn vo
 (fun v1l => sel (decide (0 < v1l))
 (vector_Bits v3 v4 v5 v6 v7 v8 v9 va vb vc vd ve vf vg vh vi vj vk vl vm vn vo
 (fun v1m v1n => haystackref02_Same v1m v1n 5 ([22])
 (fun v1o => K0 v1o)))
 (none)))
 (none)))
 (none))
 (none))
 (none))
 (none))
 (none))
 (none))
 (none))
 (none))
 (none))
 (none))
 (none))))))
noncomputable def haystacklaw10_heads_j4 {R : Type} := shut (@haystacklaw10_heads_j4_B R)
theorem haystacklaw10_heads_j4_unf {R : Type} : @haystacklaw10_heads_j4 R = @haystacklaw10_heads_j4_B R := shut_eq _

noncomputable def haystacklaw10_heads_B {R : Type} (K0 : Bool → Option R) : Option R :=
 vector_Build 2 5 ([22])
 (fun v0 v1 v2 v3 v4 v5 v6 v7 v8 v9 va vb vc vd ve vf vg vh vi vj vk vl vm => vector_Access v0 v1 v2 v3 v4 v5 v6 v7 v8 v9 va vb vc vd ve vf vg vh vi vj vk vl 4
 (fun vn vo => haystacklaw10_heads_j4 vm vn vo v0 v1 v2 v3 v4 v5 v6 v7 v8 v9 va vb vc vd ve vf vg vh vi vj vk vl
 (fun vp => K0 vp)))
noncomputable def haystacklaw10_heads {R : Type} := shut (@haystacklaw10_heads_B R)
theorem haystacklaw10_heads_unf {R : Type} : @haystacklaw10_heads R = @haystacklaw10_heads_B R := shut_eq _

noncomputable def haystackref02_Words_B {R : Type} (v0 : Int) (K0 : Int → Option R) : Option R :=
 K0 (quoW .i64 (addW .i64 v0 63) 64)
noncomputable def haystackref02_Words {R : Type} := shut (@haystackref02_Words_B R)
theorem haystackref02_Words_unf {R : Type} : @haystackref02_Words R = @haystackref02_Words_B R := shut_eq _

noncomputable def haystackref01_Mask_j6_B {R : Type} (v0 v1 v2 : Int) (K0 : Int → Int → Int → Option R) : Option R :=
 sel (decide (0 ≤ cvtW .u64 v2))
 (K0 v0 (orW .u64 v1 (shlW .u64 1 (cvtW .u64 v2))) (addW .i64 v2 1))
 (none)
noncomputable def haystackref01_Mask_j6 {R : Type} := shut (@haystackref01_Mask_j6_B R)
theorem haystackref01_Mask_j6_unf {R : Type} : @haystackref01_Mask_j6 R = @haystackref01_Mask_j6_B R := shut_eq _

noncomputable def haystackref01_Mask_l4_T {R : Type} (rec : Int → Int → Int → Option R) (v0 v1 v2 : Int) (K0 : Int → Option R) : Option R :=
 sel (decide (v2 < 64))
 (sel (decide (v2 < v0))
 (haystackref01_Mask_j6 v0 v1 v2
 (fun v3 v4 v5 => rec v3 v4 v5))
 (K0 v1))
 (K0 v1)
noncomputable def haystackref01_Mask_l4_L {R : Type} (K0 : Int → Option R) : Nat → Int → Int → Int → Option R
 | 0, _, _, _ => none
 | N + 1, v0, v1, v2 => haystackref01_Mask_l4_T (haystackref01_Mask_l4_L K0 N) v0 v1 v2 K0
noncomputable def haystackref01_Mask_l4_B {R : Type} (v0 v1 v2 : Int) (K0 : Int → Option R) : Option R :=
 haystackref01_Mask_l4_L K0 NR v0 v1 v2
noncomputable def haystackref01_Mask_l4 {R : Type} := shut (@haystackref01_Mask_l4_B R)
theorem haystackref01_Mask_l4_unf {R : Type} : @haystackref01_Mask_l4 R = @haystackref01_Mask_l4_B R := shut_eq _

noncomputable def haystackref01_Mask_B {R : Type} (v0 : Int) (K0 : Int → Option R) : Option R :=
 haystackref01_Mask_l4 v0 0 0
 (fun v1 => K0 v1)
noncomputable def haystackref01_Mask {R : Type} := shut (@haystackref01_Mask_B R)
theorem haystackref01_Mask_unf {R : Type} : @haystackref01_Mask R = @haystackref01_Mask_B R := shut_eq _

noncomputable def haystackref02_Check_j4_B {R : Type} (v0 : Int) (v1 : List Int) (K0 : Bool → Option R) : Option R :=
 sel (decide (remW v0 64 = 0))
 (K0 true)
 (sel (decide (0 ≤ subW .i64 (↑(List.length v1) : Int) 1))
 (sel (decide (subW .i64 (↑(List.length v1) : Int) 1 < (↑(List.length v1) : Int)))
 (haystackref01_Mask (remW v0 64)
 (fun v2 => letV (decide (andNotW .u64 (List.getD v1 (Int.toNat (subW .i64 (↑(List.length v1) : Int) 1)) 0) v2 = 0)) (fun (v3 : Bool) =>
 K0 v3)))
 (none))
 (none))
noncomputable def haystackref02_Check_j4 {R : Type} := shut (@haystackref02_Check_j4_B R)
theorem haystackref02_Check_j4_unf {R : Type} : @haystackref02_Check_j4 R = @haystackref02_Check_j4_B R := shut_eq _

noncomputable def haystackref02_Check_B {R : Type} (v0 : Int) (v1 : List Int) (K0 : Bool → Option R) : Option R :=
 sel (decide (v0 < 0))
 (K0 false)
 (sel (decide (1048576 < v0))
 (K0 false)
 (haystackref02_Words v0
 (fun v2 => sel (!decide ((↑(List.length v1) : Int) = v2))
 (K0 false)
 (haystackref02_Check_j4 v0 v1
 (fun v3 => K0 v3)))))
noncomputable def haystackref02_Check {R : Type} := shut (@haystackref02_Check_B R)
theorem haystackref02_Check_unf {R : Type} : @haystackref02_Check R = @haystackref02_Check_B R := shut_eq _

noncomputable def haystacklaw10_VectorAlike_j8_B {R : Type} (v0 v1 v2 : Int) (v3 v4 v5 : List Int) (v6 v7 v8 v9 : Int) (va : List Int) (vb : Int) (vc vd ve : List Int) (vf vg vh vi vj : Int) (vk : List Int) (vl : Int) (vm : List Int) (vn vo : Int) (vp vq vr : List Int) (vs vt vu vv : Int) (vw : List Int) (vx : Int) (vy vz v10 : List Int) (v11 v12 v13 v14 v15 : Int) (v16 : List Int) (v17 : Int) (v18 : List Int) (K0 : Bool → Option R) : Option R :=
 vector_Access v1 v2 v3 v4 v5 v6 v7 v8 v9 va vb vc vd ve vf vg vh vi vj vk vl vm v0
 (fun v19 v1a => vector_Access vn vo vp vq vr vs vt vu vv vw vx vy vz v10 v11 v12 v13 v14 v15 v16 v17 v18 v0
 (fun v1b v1c => vector_Rank v1 v2 v3 v4 v5 v6 v7 v8 v9 va vb vc vd ve vf vg vh vi vj vk vl vm (decide (remW v0 2 = 0)) v0
 (fun v1d v1e => vector_Rank vn vo vp vq vr vs vt vu vv vw vx vy vz v10 v11 v12 v13 v14 v15 v16 v17 v18 (decide (remW v0 2 = 0)) v0
 (fun v1f v1g => vector_Select v1 v2 v3 v4 v5 v6 v7 v8 v9 va vb vc vd ve vf vg vh vi vj vk vl vm (decide (remW v0 2 = 0)) (quoW .i64 v0 2)
 (fun v1h v1i => vector_Select vn vo vp vq vr vs vt vu vv vw vx vy vz v10 v11 v12 v13 v14 v15 v16 v17 v18 (decide (remW v0 2 = 0)) (quoW .i64 v0 2)
 (fun v1j v1k => sel (v19 == v1b)
 (sel (decide (v1a = v1c))
 (sel (decide (v1d = v1f))
 (sel (decide (v1e = v1g))
 (sel (decide (v1h = v1j))
 (sel (decide (v1i = v1k))
 (haystacklaw10_heads 
 (fun v1l => K0 v1l))
 (K0 false))
 (K0 false))
 (K0 false))
 (K0 false))
 (K0 false))
 (K0 false)))))))
noncomputable def haystacklaw10_VectorAlike_j8 {R : Type} := shut (@haystacklaw10_VectorAlike_j8_B R)
theorem haystacklaw10_VectorAlike_j8_unf {R : Type} : @haystacklaw10_VectorAlike_j8 R = @haystacklaw10_VectorAlike_j8_B R := shut_eq _

noncomputable def haystacklaw10_VectorAlike_j4_B {R : Type} (v0 v1 v2 v3 : Int) (v4 : List Int) (K0 : Bool → Option R) : Option R :=
 vector_Build v0 v3 v4
 (fun v5 v6 v7 v8 v9 va vb vc vd ve vf vg vh vi vj vk vl vm vn vo vp vq vr => vector_Build v1 v3 v4
 (fun vs vt vu vv vw vx vy vz v10 v11 v12 v13 v14 v15 v16 v17 v18 v19 v1a v1b v1c v1d v1e => sel (!decide (vr = 0))
 (K0 false)
 (sel (!decide (v1e = 0))
 (K0 false)
 (haystacklaw10_VectorAlike_j8 v2 v5 v6 v7 v8 v9 va vb vc vd ve vf vg vh vi vj vk vl vm vn vo vp vq vs vt vu vv vw vx vy vz v10 v11 v12 v13 v14 v15 v16 v17 v18 v19 v1a v1b v1c v1d
 (fun v1f => K0 v1f)))))
noncomputable def haystacklaw10_VectorAlike_j4 {R : Type} := shut (@haystacklaw10_VectorAlike_j4_B R)
theorem haystacklaw10_VectorAlike_j4_unf {R : Type} : @haystacklaw10_VectorAlike_j4 R = @haystacklaw10_VectorAlike_j4_B R := shut_eq _

noncomputable def haystacklaw10_VectorAlike_B {R : Type} (v0 v1 v2 : Int) (v3 : List Int) (v4 : Int) (K0 : Bool → Option R) : Option R :=
 sel (decide (3000 < v2))
 (haystacklaw10_heads 
 (fun v5 => K0 v5))
 (sel (decide (3000 < (↑(List.length v3) : Int)))
 (haystacklaw10_heads 
 (fun v6 => K0 v6))
 (haystackref02_Check v2 v3
 (fun v7 => sel (!v7)
 (haystacklaw10_heads 
 (fun v8 => K0 v8))
 (sel (decide (v0 < 1))
 (haystacklaw10_heads 
 (fun v9 => K0 v9))
 (sel (decide (3 < v0))
 (haystacklaw10_heads 
 (fun va => K0 va))
 (sel (decide (v1 < 1))
 (haystacklaw10_heads 
 (fun vb => K0 vb))
 (sel (decide (3 < v1))
 (haystacklaw10_heads 
 (fun vc => K0 vc))
 (haystacklaw10_VectorAlike_j4 v0 v1 v4 v2 v3
 (fun vd => K0 vd)))))))))
noncomputable def haystacklaw10_VectorAlike {R : Type} := shut (@haystacklaw10_VectorAlike_B R)
theorem haystacklaw10_VectorAlike_unf {R : Type} : @haystacklaw10_VectorAlike R = @haystacklaw10_VectorAlike_B R := shut_eq _

noncomputable def haystacklaw10_VectorBack_j11_B {R : Type} (v0 : Bool) (v1 v2 v3 v4 v5 : Int) (v6 v7 v8 : List Int) (v9 va vb vc : Int) (vd : List Int) (ve : Int) (vf vg vh : List Int) (vi vj vk vl vm : Int) (vn : List Int) (vo : Int) (vp : List Int) (K0 : Bool → Option R) : Option R :=
 sel (!decide (v3 = 0))
 (sel (decide (v3 = 3))
 (haystacklaw10_heads 
 (fun vq => K0 vq))
 (K0 false))
 (vector_Rank v4 v5 v6 v7 v8 v9 va vb vc vd ve vf vg vh vi vj vk vl vm vn vo vp v0 v2
 (fun vr vs => vector_Access v4 v5 v6 v7 v8 v9 va vb vc vd ve vf vg vh vi vj vk vl vm vn vo vp v2
 (fun vt vu => sel (decide (vs = 0))
 (sel (decide (vr = v1))
 (sel (decide (vu = 0))
 (sel (vt == v0)
 (haystacklaw10_heads 
 (fun vv => K0 vv))
 (K0 false))
 (K0 false))
 (K0 false))
 (K0 false))))
noncomputable def haystacklaw10_VectorBack_j11 {R : Type} := shut (@haystacklaw10_VectorBack_j11_B R)
theorem haystacklaw10_VectorBack_j11_unf {R : Type} : @haystacklaw10_VectorBack_j11 R = @haystacklaw10_VectorBack_j11_B R := shut_eq _

noncomputable def haystacklaw10_VectorBack_j7_B {R : Type} (v0 : Bool) (v1 v2 : Int) (_v3 : List Int) (v4 v5 : Int) (v6 v7 v8 : List Int) (v9 va vb vc : Int) (vd : List Int) (ve : Int) (vf vg vh : List Int) (vi vj vk vl vm : Int) (vn : List Int) (vo : Int) (vp : List Int) (K0 : Bool → Option R) : Option R :=
 vector_Rank v4 v5 v6 v7 v8 v9 va vb vc vd ve vf vg vh vi vj vk vl vm vn vo vp v0 v2
 (fun vq vr => vector_Select v4 v5 v6 v7 v8 v9 va vb vc vd ve vf vg vh vi vj vk vl vm vn vo vp v0 v1
 (fun vs vt => sel (!decide (vr = 0))
 (K0 false)
 (sel (decide (0 ≤ v1))
 (sel (!decide (vt = 0) == decide (v1 < vq))
 (K0 false)
 (haystacklaw10_VectorBack_j11 v0 v1 vs vt v4 v5 v6 v7 v8 v9 va vb vc vd ve vf vg vh vi vj vk vl vm vn vo vp
 (fun vu => K0 vu)))
 (sel (!decide (vt = 0) == false)
 (K0 false)
 (haystacklaw10_VectorBack_j11 v0 v1 vs vt v4 v5 v6 v7 v8 v9 va vb vc vd ve vf vg vh vi vj vk vl vm vn vo vp
 (fun vv => K0 vv))))))
noncomputable def haystacklaw10_VectorBack_j7 {R : Type} := shut (@haystacklaw10_VectorBack_j7_B R)
theorem haystacklaw10_VectorBack_j7_unf {R : Type} : @haystacklaw10_VectorBack_j7 R = @haystacklaw10_VectorBack_j7_B R := shut_eq _

noncomputable def haystacklaw10_VectorBack_j5_B {R : Type} (v0 : Bool) (v1 v2 v3 : Int) (v4 : List Int) (v5 v6 : Int) (v7 v8 v9 : List Int) (va vb vc vd : Int) (ve : List Int) (vf : Int) (vg vh vi : List Int) (vj vk vl vm vn : Int) (vo : List Int) (vp : Int) (vq : List Int) (K0 : Bool → Option R) : Option R :=
 sel (!decide (v2 = 0))
 (K0 false)
 (vector_Check v5 v6 v7 v8 v9 va vb vc vd ve vf vg vh vi vj vk vl vm vn vo vp vq
 (fun vr => sel (!vr)
 (K0 false)
 (vector_Bits v5 v6 v7 v8 v9 va vb vc vd ve vf vg vh vi vj vk vl vm vn vo vp vq
 (fun vs vt => haystackref02_Same vs vt v3 v4
 (fun vu => sel (!vu)
 (K0 false)
 (haystacklaw10_VectorBack_j7 v0 v1 v3 v4 v5 v6 v7 v8 v9 va vb vc vd ve vf vg vh vi vj vk vl vm vn vo vp vq
 (fun vv => K0 vv)))))))
noncomputable def haystacklaw10_VectorBack_j5 {R : Type} := shut (@haystacklaw10_VectorBack_j5_B R)
theorem haystacklaw10_VectorBack_j5_unf {R : Type} : @haystacklaw10_VectorBack_j5 R = @haystacklaw10_VectorBack_j5_B R := shut_eq _

noncomputable def haystacklaw10_VectorBack_j4_B {R : Type} (v0 : Int) (v1 : Bool) (v2 v3 : Int) (v4 : List Int) (K0 : Bool → Option R) : Option R :=
 vector_Build v0 v3 v4
 (fun v5 v6 v7 v8 v9 va vb vc vd ve vf vg vh vi vj vk vl vm vn vo vp vq vr => haystacklaw10_VectorBack_j5 v1 v2 vr v3 v4 v5 v6 v7 v8 v9 va vb vc vd ve vf vg vh vi vj vk vl vm vn vo vp vq
 (fun vs => K0 vs))
noncomputable def haystacklaw10_VectorBack_j4 {R : Type} := shut (@haystacklaw10_VectorBack_j4_B R)
theorem haystacklaw10_VectorBack_j4_unf {R : Type} : @haystacklaw10_VectorBack_j4 R = @haystacklaw10_VectorBack_j4_B R := shut_eq _

noncomputable def haystacklaw10_VectorBack_B {R : Type} (v0 v1 : Int) (v2 : List Int) (v3 : Bool) (v4 : Int) (K0 : Bool → Option R) : Option R :=
 sel (decide (3000 < v1))
 (haystacklaw10_heads 
 (fun v5 => K0 v5))
 (sel (decide (3000 < (↑(List.length v2) : Int)))
 (haystacklaw10_heads 
 (fun v6 => K0 v6))
 (haystackref02_Check v1 v2
 (fun v7 => sel (!v7)
 (haystacklaw10_heads 
 (fun v8 => K0 v8))
 (sel (decide (v0 < 1))
 (haystacklaw10_heads 
 (fun v9 => K0 v9))
 (sel (decide (3 < v0))
 (haystacklaw10_heads 
 (fun va => K0 va))
 (haystacklaw10_VectorBack_j4 v0 v3 v4 v1 v2
 (fun vb => K0 vb)))))))
noncomputable def haystacklaw10_VectorBack {R : Type} := shut (@haystacklaw10_VectorBack_B R)
theorem haystacklaw10_VectorBack_unf {R : Type} : @haystacklaw10_VectorBack R = @haystacklaw10_VectorBack_B R := shut_eq _

/-- what is kept where -/
def kpt : List (Nat × List (Nat × List Nat)) := [(3, [(8002, [8]), (8001, [8]), (8000, [3, 9, 11]), (4002, [8]), (4001, [8]), (4000, [0, 1, 3, 6])]), (6, [(11002, [8]), (11001, [8]), (11000, [2, 3, 9, 13, 14]), (7002, [8]), (7001, [8]), (7000, [2, 3, 5, 9]), (5002, [8]), (5001, [8]), (5000, [2, 3, 5, 9, 10]), (4002, [8]), (4001, [8]), (4000, [0, 2, 3, 5])]), (12, [(4002, [2]), (4001, [2]), (4000, [1])]), (13, [(999999999, []), (999999998, []), (9000, [1, 2, 3, 4, 5, 6, 7, 8, 9, 10, 12, 14, 999999]), (8000, [1, 2, 3, 4, 5, 6, 7, 8, 9, 10, 12, 999999]), (7000, [1, 2, 3, 4, 5, 6, 7, 8, 9, 10, 999999]), (6000, [1, 2, 3, 4, 5, 6, 7, 8, 999999]), (5000, [1, 2, 3, 4, 5, 6, 999999]), (4002, [0]), (4001, [0]), (4000, [1, 2, 3, 4, 999999]), (3000, [1, 2, 999999]), (2000, [999999])]), (14, [(999999998, []), (10002, [4, 5]), (10001, [4, 5]), (10000, [4, 6, 7, 4000006003, 2000006004, 2000006005, 4000006010, 4000006012, 2000006013, 2000006014, 4000006020, 4000006022])]), (15, [(999999998, [])]), (16, [(999999998, [])]), (17, [(999999998, [])]), (20, [(999999998, [])]), (26, [(999999998, [])]), (28, [(5403, []), (5402, [4]), (5401, []), (5400, [2, 3, 5]), (4002, [4]), (4001, [4]), (4000, [2, 3])]), (29, [(999999998, [])]), (49, [(6003, [3]), (6002, [2]), (6001, [0, 3, 4]), (6000, [0, 3, 4]), (4403, [3]), (4402, [2]), (4401, []), (4400, [0, 3, 4])]), (50, [(999999998, []), (11003, [2, 4]), (11004, [1, 2, 4, 5, 16, 17]), (11002, [2, 3]), (11001, [1, 2, 4, 5, 16, 17]), (11000, [1, 2, 4, 5, 6, 16, 17]), (10003, [2, 4]), (10004, [1, 2, 4, 5, 16, 17]), (10002, [2, 3]), (10001, [1, 2, 4, 5, 6, 16, 17]), (10000, [1, 2, 4, 5, 6, 16, 17, 29]), (7403, [2, 4]), (7402, [2, 3]), (7401, []), (7400, [1, 2, 4, 5, 16, 17, 3000004003, 3000004004])]), (51, [(999999998, []), (18003, [2, 4, 5]), (18004, [1, 2, 4, 5, 6, 7]), (18002, [2, 3]), (18001, [1, 2, 4, 5, 6, 7]), (18000, [1, 2, 4, 5, 6, 7, 10, 4000004007]), (12003, [2, 4, 5]), (12004, [1, 2, 4, 5, 6, 7]), (12002, [2, 3]), (12001, [1, 2, 4, 5, 6, 7]), (12000, [1, 2, 4, 5, 6, 7, 3000004008, 3000004009]), (10003, [2, 4, 5]), (10002, [2, 3]), (10001, [1, 2, 4, 5, 6, 7]), (10000, [1, 2, 4, 5, 6, 7]), (8403, [2, 4, 5]), (8402, [2, 3]), (8401, []), (8400, [1, 2, 4, 5, 6, 7, 4000004007, 3000004008, 3000004009, 5000005000]), (5002, [2, 3]), (5001, [2, 3]), (5000, [1, 2, 4])]), (52, [(999999998, []), (14002, [2, 3]), (14001, [2, 4]), (14000, [2, 4, 59])]), (53, [(999999998, [])]), (54, [(999999998, []), (6002, [4, 5]), (6001, [4, 5]), (6000, [1, 2])]), (55, [(999999998, []), (6002, [4, 5]), (6001, [4, 5]), (6000, [1, 2])]), (56, [(999999998, []), (6002, [6, 7]), (6001, [6, 7]), (6000, [1, 2, 3])]), (57, [(999999998, []), (6002, [6, 7]), (6001, [6, 7]), (6000, [1, 2, 3])]), (58, [(999999998, []), (6002, [6, 7]), (6001, [6, 7]), (6000, [1, 2, 3])]), (59, [(999999998, []), (15002, [6, 7]), (15001, [6, 7]), (15000, [1, 2, 3, 8, 11]), (7404, [1, 2, 3, 8]), (7402, [6, 7]), (7401, []), (7400, [1, 2, 3, 8, 9]), (6002, [6, 7]), (6001, [6, 7]), (6000, [1, 2, 3])]), (60, [(999999998, []), (7404, [3, 4, 5, 8]), (7402, [6, 7]), (7401, []), (7400, [3, 4, 5, 8]), (6002, [6, 7]), (6001, [6, 7]), (6000, [3, 4, 5])]), (61, [(999999998, []), (12404, [9]), (12402, [6, 7]), (12401, []), (12400, [2, 3, 9, 10]), (11002, [6, 7]), (11001, [6, 7]), (11000, [2, 3]), (8003, [2, 3]), (8002, [6, 7]), (8001, [2, 3]), (8000, [1, 2, 3, 25]), (5002, [6, 7]), (5001, [6, 7]), (5000, [1, 2, 3, 8])]), (68, [(999999998, [])]), (69, [(999999998, [])]), (70, [(999999998, [])]), (79, [(999999998, []), (6002, [2]), (6001, [2]), (6000, [1, 6, 7, 8]), (5002, [2]), (5001, [2]), (5000, [1, 5, 6, 7]), (4002, [2]), (4001, [2]), (4000, [1, 4, 5, 6])]), (80, [(999999998, [])]), (81, [(999999998, [])]), (82, [(999999998, [])]), (83, [(999999998, [])]), (84, [(999999998, [])]), (85, [(999999998, [])]), (88, [(6403, [2, 4]), (6402, [2, 3]), (6401, []), (6400, [2, 4, 18, 19, 20])]), (89, [(7403, [1, 2, 5]), (7402, [4]), (7401, []), (7400, [1, 2, 5, 20, 21, 22])]), (99, [(4002, [2]), (4001, [2]), (4000, [1])]), (101, [(12002, [6, 7]), (12001, [6, 7]), (12000, [2, 10]), (8002, [6, 7]), (8001, [6, 7]), (8000, [1, 2, 3]), (5003, [1, 2, 3]), (5002, [6, 7]), (5001, [1, 2, 3]), (5000, [1, 2, 3, 23]), (3003, [1, 2, 3]), (3002, [6, 7]), (3001, [1, 2, 3]), (3000, [1, 2, 3, 11])]), (102, [(999999998, [])]), (103, [(999999998, [])]), (104, [(4002, [6, 7]), (4001, [6, 7]), (4000, [1, 2, 3, 6]), (3002, [6, 7]), (3001, [1, 2, 3, 6]), (3000, [1, 2, 3, 6, 26])]), (106, [(6403, [0, 1, 4, 6]), (6402, [4, 5]), (6401, []), (6400, [0, 1, 4, 6, 34, 35, 36]), (4002, [4, 5]), (4001, [4, 5]), (4000, [0, 1, 4]), (3002, [4, 5]), (3001, [0, 1, 4]), (3000, [0, 1, 4, 28])]), (107, [(999999998, [])]), (108, [(999999998, [])]), (109, [(999999998, []), (5002, [6]), (5001, [6]), (5000, [3])]), (111, [(6002, [4, 5]), (6001, [4, 5]), (6000, [1, 2])]), (112, [(999999998, [])]), (113, [(999999998, []), (3403, [5]), (3402, [4]), (3401, []), (3400, [1, 2, 5, 6])]), (114, [(999999998, [])]), (115, [(999999998, [])]), (116, [(5403, [0]), (5402, [4]), (5401, []), (5400, [0, 13, 14]), (4002, [4]), (4001, [4]), (4000, [0, 1])]), (117, [(999999998, []), (5403, []), (5402, []), (5401, []), (5400, [2, 3, 7, 8, 9])]), (118, [(999999998, []), (4002, [9]), (4001, [9]), (4000, [0, 1, 2, 4, 5])]), (119, [(999999998, []), (5403, [1, 2, 5, 7]), (5402, [4]), (5401, []), (5400, [1, 2, 5, 6, 7, 22, 23, 24])]), (135, [(999999998, []), (3403, []), (3402, [2]), (3401, []), (3400, [5, 6, 7])]), (136, [(5403, []), (5402, [4]), (5401, []), (5400, [0, 1, 12, 13])]), (137, [(999999998, [])]), (138, [(999999998, []), (16002, [2, 3]), (16001, [2, 9]), (16000, [2, 9, 133]), (15002, [2, 3]), (15001, [2, 3]), (15000, [2, 9, 12, 13]), (7002, [2, 3]), (7001, [2, 3]), (7000, [1, 2, 4, 5, 6]), (4002, [2, 3]), (4001, [2, 3]), (4000, [1, 2]), (3002, [2, 3]), (3001, [1, 2]), (3000, [1, 2, 45])]), (139, [(4002, [2, 3]), (4001, [2, 3]), (4000, [0, 2]), (3002, [2, 3]), (3001, [0, 2]), (3000, [0, 2, 9])]), (148, [(14003, [6, 8]), (14004, [0, 6, 7, 8, 9]), (14002, [4, 5]), (14001, [0, 6, 7, 8, 9]), (14000, [0, 6, 7, 8, 9, 10]), (9403, [6, 8]), (9402, [4, 5]), (9401, []), (9400, [0, 6, 7, 8, 9]), (4002, [4, 5]), (4001, [4, 5]), (4000, [0, 1])]), (150, [(6002, []), (6001, []), (6000, [2, 3, 6, 7, 36]), (5002, []), (5001, []), (5000, [2, 3, 6, 7])]), (151, [(6403, [1, 5]), (6402, [4]), (6401, []), (6400, [1, 5, 23, 24]), (4002, [4]), (4001, [4]), (4000, [0, 1])]), (153, [(4403, [3]), (4402, [2]), (4401, []), (4400, [3, 6, 7, 8])]), (154, [(999999998, []), (4403, []), (4404, [0, 6, 7, 8]), (4405, [0, 6, 7, 8]), (4402, []), (4401, []), (4400, [0, 3, 4, 6, 7, 8, 5000000401]), (2403, []), (2402, []), (2401, []), (2400, [0, 6, 7, 8, 5000000401])]), (155, [(999999998, [])]), (156, [(999999998, [])]), (158, [(999999998, [])]), (170, [(999999998, []), (17003, [2, 4]), (17004, [1, 2, 4, 5, 48, 49, 50]), (17002, [2, 3]), (17001, [1, 2, 4, 5, 48, 49, 50]), (17000, [1, 2, 4, 5, 8, 11, 13, 48, 49, 50]), (16003, [2, 4]), (16004, [1, 2, 4, 5, 48, 49, 50]), (16002, [2, 3]), (16001, [1, 2, 4, 5, 8, 11, 13, 48, 49, 50]), (16000, [1, 2, 4, 5, 8, 11, 13, 48, 49, 50, 92]), (7403, [2, 4]), (7402, [2, 3]), (7401, []), (7400, [1, 2, 4, 5, 48, 49, 50, 4000004002]), (4002, [2, 3]), (4001, [2, 3]), (4000, [1, 2]), (3002, [2, 3]), (3001, [1, 2]), (3000, [1, 2, 44])]), (171, [(999999998, []), (4002, [4]), (4001, [4]), (4000, [2, 3, 5, 6]), (3002, [4]), (3001, [4]), (3000, [2, 3, 5])]), (173, [(6403, [3]), (6402, [2]), (6401, []), (6400, [1, 3, 12, 13])]), (174, [(999999998, []), (8002, [8]), (8001, [8]), (8000, [1, 5]), (6002, [8]), (6001, [8]), (6000, [1, 5, 6, 9]), (5002, [8]), (5001, [8]), (5000, [1, 4, 5, 6, 9]), (4002, [8]), (4001, [1, 4, 5, 6, 9]), (4000, [1, 2, 3, 4, 5, 6, 9, 22])]), (175, [(5403, []), (5402, [4]), (5401, []), (5400, [0, 1, 12, 13])]), (177, [(10000, [4, 999999]), (9000, [3, 4, 9, 10, 999999]), (8000, [3, 4, 5, 9, 10, 999999]), (7000, [3, 4, 5, 9, 10, 999999]), (6000, [3, 4, 9, 10, 11, 999999]), (5403, [4]), (5402, [2]), (5401, []), (5400, [3, 4, 9, 10]), (5000, [3, 4, 9, 10, 999999]), (4000, [0, 3, 4, 999999]), (3000, [0, 3, 999999]), (2000, [0, 999999])]), (178, [(2403, []), (2402, []), (2401, []), (2400, [0, 4])]), (179, [(11002, [2]), (11001, [2]), (11000, [0, 2]), (8002, [2]), (8001, [2]), (8000, [0, 2]), (5002, [2]), (5001, [2]), (5000, [0, 2])]), (180, [(13201, [0, 1, 2, 8, 9]), (13003, [9]), (13004, [1, 2, 8, 9, 10]), (13002, [6, 7]), (13001, [1, 2, 8, 9, 10]), (13000, [1, 2, 8, 9, 10, 11]), (7601, [0, 1, 2, 8, 9]), (7403, [9]), (7402, [6, 7]), (7401, []), (7400, [1, 2, 8, 9, 10]), (6702, [6, 7]), (6701, [6, 7]), (6700, [0, 1, 2, 8, 9])]), (181, [(5003, []), (5002, [4]), (5001, []), (5000, [12])])]
/-- what is handed back open -/
def lvt : List (Nat × List Nat) := [(104, [149]), (88, [139]), (52, [108]), (138, [108])]
noncomputable def V (f : FuncId) : Env := env (keepOf kpt) (vsOf (match lkN lvt f with | some l => l | none => []))
theorem D0 : Dom B0 V B0 T0 0 := Dom.nil base_nat

noncomputable def sp146 : Ev.Spec := fun args _ K => match args with
 | ([Ai v0]) => bits_words v0 (fun v1 => K (Ai v1))
 | _ => none
noncomputable def S146 := addS 146 sp146 B0
theorem D1 : Dom B0 V S146 T0 1 := Dom.s (m := 0) (n := 0) D0 D0 (O := (fun _ => none)) (fun _ _ _ _ => OrcOk.none _ _) fun args R K r h => by
 unfold sp146 at h; split at h
 · rw [bits_words_unf] at h; exact Eq.trans (by kernel_rfl) h
 · cases h

noncomputable def sp110 : Ev.Spec := fun args _ K => match args with
 | ([Ai v0]) => word_Mask v0 (fun v1 => K (Au v1))
 | _ => none
noncomputable def S110 := addS 110 sp110 S146
theorem D2 : Dom B0 V S110 T0 2 := Dom.s (m := 1) (n := 0) D1 D1 (O := (fun _ => none)) (fun _ _ _ _ => OrcOk.none _ _) fun args R K r h => by
 unfold sp110 at h; split at h
 · rw [word_Mask_unf] at h; exact Eq.trans (by kernel_rfl) h
 · cases h

noncomputable def o99_4000_in {R : Type} (K : Ex → St → Option R) (vs : List AV) (hh : H) : Option R := match vs, hh with
 | [Ap 0 0], [HA [Ai v0, Fu v1]] => bits_Check_j4 v0 v1 (fun v2 => K (Ex.ret) (St.mk (spread 40 0 [2] [Ab v2]) []))
 | _, _ => none

noncomputable def o99 : Nat → Option PSpec := lkN [(4000, fun st _ K => pickM 40 [1] st (o99_4000_in K))]
noncomputable def q99 : CallF := evFun (V 99) S110 T0 10

noncomputable def c99_4000 : Code := subC [1, 1] (bodyOf Tryz.f99)

theorem p99_4000 : PieceOk (V 99) q99 o99 99 0 (3998, 0, c99_4000) := .s (size := 40) (ss := [1]) (F := @o99_4000_in) (by kernel_rfl) fun R r K vs hh h => by
  unfold o99_4000_in at h; split at h
  · rw [bits_Check_j4_unf] at h; exact Eq.trans (by kernel_rfl) h
  · cases h

theorem pc99 : ∀ x ∈ [(3998, 0, c99_4000)], PieceOk (V 99) q99 o99 99 0 x := List.forall_mem_cons.2 ⟨p99_4000, fun _ h => nomatch h⟩

noncomputable def sp99 : Ev.Spec := fun args _ K => match args with
 | ([AV.agg (Blk.any [Ai v0, Fu v1])]) => bits_Check v0 v1 (fun v2 => K (Ab v2))
 | _ => none
noncomputable def S99 := addS 99 sp99 S110
theorem D3 : Dom B0 V S99 T0 3 := Dom.s (m := 2) (n := 0) D2 D2 (O := o99) (OrcOk.fn (fn0 := Tryz.f99) (by kernel_rfl) (by kernel_rfl) pc99) fun args R K r h => by
 unfold sp99 at h; split at h
 · rw [bits_Check_unf] at h; exact Eq.trans (by kernel_rfl) h
 · cases h

theorem math_bits_OnesCount64_eq {R : Type} (K : AV → Option R) (v0 : Int) : evSpec (V 147) S99 T0 (fun _ => none) 10 147 ([Au v0]) R K = math_bits_OnesCount64_B v0 (fun v1 => K (Ai v1)) := by kernel_rfl

noncomputable def sp147 : Ev.Spec := fun args _ K => match args with
 | ([Au v0]) => math_bits_OnesCount64 v0 (fun v1 => K (Ai v1))
 | _ => none
noncomputable def S147 := addS 147 sp147 S99
theorem D4 : Dom B0 V S147 T0 4 := Dom.s (m := 3) (n := 0) D3 D3 (O := (fun _ => none)) (fun _ _ _ _ => OrcOk.none _ _) fun args R K r h => by
 unfold sp147 at h; split at h
 · rw [math_bits_OnesCount64_unf] at h; exact (math_bits_OnesCount64_eq K _).trans h
 · cases h

noncomputable def sp100 : Ev.Spec := fun args _ K => match args with
 | ([Au v0]) => word_Pop v0 (fun v1 => K (Ai v1))
 | _ => none
noncomputable def S100 := addS 100 sp100 S147
theorem D5 : Dom B0 V S100 T0 5 := Dom.s (m := 4) (n := 0) D4 D4 (O := (fun _ => none)) (fun _ _ _ _ => OrcOk.none _ _) fun args R K r h => by
 unfold sp100 at h; split at h
 · rw [word_Pop_unf] at h; exact Eq.trans (by kernel_rfl) h
 · cases h

noncomputable def o50_7400_in {R : Type} (K : Ex → St → Option R) (vs : List AV) (hh : H) : Option R := match vs, hh with
 | [Ap 0 0, Ap 1 0, Ap 2 0, Ai v0, Ai v1, Ai v2], [HA [Ai v3, Fu v4], HA [Ai v5, AV.esl, AV.esl, AV.esl], HA [Ai v6, Fu v7, AV.sl 3 0 v8 1, AV.sl 4 0 v9 1], HB.live (Blk.ints .i64 va), HB.live (Blk.ints .i64 vb)] => plain_Build_l7 v0 v1 v2 v3 v4 v5 v6 v7 v8 v9 va vb (fun vc vd ve vf vg vh vi => K (Ex.exit 0) (St.mk (spread 64 0 [2, 4] [Ap 0 0, Ap 1 0]) [HA [Ai vc, AV.esl, AV.esl, AV.esl], HA [Ai vd, Fu ve, AV.sl 2 0 vf 1, AV.sl 3 0 vg 1], HB.live (Blk.ints .i64 vh), HB.live (Blk.ints .i64 vi)]))
 | _, _ => none

noncomputable def o50_10000_in {R : Type} (K : Ex → St → Option R) (vs : List AV) (hh : H) : Option R := match vs, hh with
 | [Ap 0 0, Ap 1 0, Ap 2 0, Ai v0, Ai v1, Ai v2, Ai v3, Ab v4], [HA [Ai v5, Fu v6], HA [Ai v7, AV.esl, AV.esl, AV.esl], HA [Ai v8, Fu v9, AV.sl 3 0 va 1, AV.sl 4 0 vb 1], HB.live (Blk.ints .i64 vc), HB.live (Blk.ints .i64 vd)] => plain_Build_j10 v0 v1 v2 v3 v4 v5 v6 v7 v8 v9 va vb vc vd (fun ve vf vg vh vi vj vk vl vm vn vo vp vq => K (Ex.normal) (St.mk (spread 64 0 [1, 2, 4, 5, 6, 16, 17] [Ap 0 0, Ap 1 0, Ap 2 0, Ai ve, Ai vf, Ai vg, Ai vh]) [HA [Ai vi, Fu vj], HA [Ai vk, AV.esl, AV.esl, AV.esl], HA [Ai vl, Fu vm, AV.sl 3 0 vn 1, AV.sl 4 0 vo 1], HB.live (Blk.ints .i64 vp), HB.live (Blk.ints .i64 vq)]))
 | _, _ => none

noncomputable def o50_11000_in {R : Type} (K : Ex → St → Option R) (vs : List AV) (hh : H) : Option R := match vs, hh with
 | [Ap 0 0, Ap 1 0, Ap 2 0, Ai v0, Ai v1, Ai v2, Ai v3], [HA [Ai v4, Fu v5], HA [Ai v6, AV.esl, AV.esl, AV.esl], HA [Ai v7, Fu v8, AV.sl 3 0 v9 1, AV.sl 4 0 va 1], HB.live (Blk.ints .i64 vb), HB.live (Blk.ints .i64 vc)] => plain_Build_j11 v0 v1 v2 v3 v4 v5 v6 v7 v8 v9 va vb vc (fun vd ve vf vg vh vi vj vk vl vm vn vo => K (Ex.normal) (St.mk (spread 64 0 [1, 2, 4, 5, 16, 17] [Ap 0 0, Ap 1 0, Ap 2 0, Ai vd, Ai ve, Ai vf]) [HA [Ai vg, Fu vh], HA [Ai vi, AV.esl, AV.esl, AV.esl], HA [Ai vj, Fu vk, AV.sl 3 0 vl 1, AV.sl 4 0 vm 1], HB.live (Blk.ints .i64 vn), HB.live (Blk.ints .i64 vo)]))
 | _, _ => none

noncomputable def o50 : Nat → Option PSpec := lkN [(7400, fun st _ K => pickM 64 [1, 2, 4, 5, 16, 17] st (o50_7400_in K)), (10000, fun st _ K => pickM 64 [1, 2, 4, 5, 6, 16, 17, 29] st (o50_10000_in K)), (11000, fun st _ K => pickM 64 [1, 2, 4, 5, 6, 16, 17] st (o50_11000_in K))]
noncomputable def q50 : CallF := evFun (V 50) S100 T0 10

noncomputable def c50_7400 : Code := subC [1, 1, 1, 1, 0, 1, 0, 0] (bodyOf Tryz.f50)

noncomputable def lp50_7400 {R : Type} (N : Nat) (st : St) (K : Ex → St → Option R) : Option R := evLoop (norm ((V 50).keep 50 (Ev.keyOf c50_7400 * 1000 + 400)) 0) (evCode (V 50) q50 o50 50 0 3992 c50_7400) N st (kOut (V 50) 50 0 (Ev.keyOf c50_7400 * 1000 + 401) K)

noncomputable def c50_11000 : Code := subC [1, 1, 1, 1, 0, 1, 0, 0, 1, 1, 0, 0, 1, 1] (bodyOf Tryz.f50)

noncomputable def c50_10000 : Code := subC [1, 1, 1, 1, 0, 1, 0, 0, 1, 1, 0, 0, 1, 0, 1] (bodyOf Tryz.f50)

theorem plain_Build_l7_L_eq {R : Type} (K : Ex → St → Option R) : ∀ N : Nat, (fun (v0 v1 v2 v3 : Int) (v4 : List Int) (v5 v6 : Int) (v7 : List Int) (v8 v9 : Nat) (va vb : List Int) => lp50_7400 N (St.mk (spread 64 0 [1, 2, 4, 5, 16, 17] [Ap 0 0, Ap 1 0, Ap 2 0, Ai v0, Ai v1, Ai v2]) [HA [Ai v3, Fu v4], HA [Ai v5, AV.esl, AV.esl, AV.esl], HA [Ai v6, Fu v7, AV.sl 3 0 v8 1, AV.sl 4 0 v9 1], HB.live (Blk.ints .i64 va), HB.live (Blk.ints .i64 vb)]) K) = plain_Build_l7_L (fun vc vd ve vf vg vh vi => K (Ex.exit 0) (St.mk (spread 64 0 [2, 4] [Ap 0 0, Ap 1 0]) [HA [Ai vc, AV.esl, AV.esl, AV.esl], HA [Ai vd, Fu ve, AV.sl 2 0 vf 1, AV.sl 3 0 vg 1], HB.live (Blk.ints .i64 vh), HB.live (Blk.ints .i64 vi)])) N
  | 0 => by funext v0 v1 v2 v3 v4 v5 v6 v7 v8 v9 va vb; rfl
  | N + 1 => by
    funext v0 v1 v2 v3 v4 v5 v6 v7 v8 v9 va vb
    simp only [plain_Build_l7_L]
    rw [← plain_Build_l7_L_eq K N]
    kernel_rfl

theorem p50_7400 : PieceOk (V 50) q50 o50 50 0 (3992, 1, c50_7400) := .l (size := 64) (ss := [1, 2, 4, 5, 16, 17]) (F := @o50_7400_in) (by kernel_rfl) (by kernel_rfl) fun R r K vs hh h => by
  unfold o50_7400_in at h; split at h
  · rw [plain_Build_l7_unf] at h; unfold plain_Build_l7_B at h; rw [← plain_Build_l7_L_eq K NR] at h; exact h
  · cases h

theorem p50_11000 : PieceOk (V 50) q50 o50 50 0 (3986, 0, c50_11000) := .s (size := 64) (ss := [1, 2, 4, 5, 6, 16, 17]) (F := @o50_11000_in) (by kernel_rfl) fun R r K vs hh h => by
  unfold o50_11000_in at h; split at h
  · rw [plain_Build_j11_unf] at h; exact Eq.trans (by kernel_rfl) h
  · cases h

theorem p50_10000 : PieceOk (V 50) q50 o50 50 0 (3985, 0, c50_10000) := .s (size := 64) (ss := [1, 2, 4, 5, 6, 16, 17, 29]) (F := @o50_10000_in) (by kernel_rfl) fun R r K vs hh h => by
  unfold o50_10000_in at h; split at h
  · rw [plain_Build_j10_unf] at h; exact Eq.trans (by kernel_rfl) h
  · cases h

theorem pc50 : ∀ x ∈ [(3992, 1, c50_7400), (3986, 0, c50_11000), (3985, 0, c50_10000)], PieceOk (V 50) q50 o50 50 0 x := List.forall_mem_cons.2 ⟨p50_7400, List.forall_mem_cons.2 ⟨p50_11000, List.forall_mem_cons.2 ⟨p50_10000, fun _ h => nomatch h⟩⟩⟩

noncomputable def sp50 : Ev.Spec := fun args _ K => match args with
 | ([AV.agg (Blk.any [Ai v0, Fu v1])]) => plain_Build v0 v1 (fun v2 v3 v4 v5 v6 => K (AV.tup [AV.agg (Blk.any [Ai v2, Fu v3, AV.fsl (Blk.ints .i64 v4), AV.fsl (Blk.ints .i64 v5)]), Ai v6]))
 | _ => none
noncomputable def S50 := addS 50 sp50 S100
theorem D6 : Dom B0 V S50 T0 6 := Dom.s (m := 5) (n := 0) D5 D5 (O := o50) (OrcOk.fn (fn0 := Tryz.f50) (by kernel_rfl) (by kernel_rfl) pc50) fun args R K r h => by
 unfold sp50 at h; split at h
 · rw [plain_Build_unf] at h; exact Eq.trans (by kernel_rfl) h
 · cases h

noncomputable def o179_5000_in {R : Type} (K : Ex → St → Option R) (vs : List AV) (hh : H) : Option R := match vs, hh with
 | [Au v0, Ai v1], [] => math_bits_Len64_j5 v0 v1 (fun v2 => K (Ex.ret) (St.mk (spread 25 0 [2] [Ai v2]) []))
 | _, _ => none

noncomputable def o179_8000_in {R : Type} (K : Ex → St → Option R) (vs : List AV) (hh : H) : Option R := match vs, hh with
 | [Au v0, Ai v1], [] => math_bits_Len64_j8 v0 v1 (fun v2 => K (Ex.ret) (St.mk (spread 25 0 [2] [Ai v2]) []))
 | _, _ => none

noncomputable def o179_11000_in {R : Type} (K : Ex → St → Option R) (vs : List AV) (hh : H) : Option R := match vs, hh with
 | [Au v0, Ai v1], [] => math_bits_Len64_j11 v0 v1 (fun v2 => K (Ex.ret) (St.mk (spread 25 0 [2] [Ai v2]) []))
 | _, _ => none

noncomputable def o179 : Nat → Option PSpec := lkN [(5000, fun st _ K => pickM 25 [0, 2] st (o179_5000_in K)), (8000, fun st _ K => pickM 25 [0, 2] st (o179_8000_in K)), (11000, fun st _ K => pickM 25 [0, 2] st (o179_11000_in K))]
noncomputable def q179 : CallF := evFun (V 179) S50 T0 10

noncomputable def c179_5000 : Code := subC [1, 1] (bodyOf Tryz.f179)

noncomputable def c179_8000 : Code := subC [1, 1, 1] (bodyOf Tryz.f179)

noncomputable def c179_11000 : Code := subC [1, 1, 1, 1] (bodyOf Tryz.f179)

theorem math_bits_Len64_j11_eq {R : Type} (K : Ex → St → Option R) (v0 v1 : Int) : evCode (V 179) q179 o179 179 0 3996 c179_11000 (St.mk (spread 25 0 [0, 2] [Au v0, Ai v1]) []) (kOut (V 179) 179 0 (Ev.keyOf c179_11000 * 1000 + 1) K) = math_bits_Len64_j11_B v0 v1 (fun v2 => K (Ex.ret) (St.mk (spread 25 0 [2] [Ai v2]) [])) := by kernel_rfl

theorem p179_5000 : PieceOk (V 179) q179 o179 179 0 (3998, 0, c179_5000) := .s (size := 25) (ss := [0, 2]) (F := @o179_5000_in) (by kernel_rfl) fun R r K vs hh h => by
  unfold o179_5000_in at h; split at h
  · rw [math_bits_Len64_j5_unf] at h; exact Eq.trans (by kernel_rfl) h
  · cases h

theorem p179_8000 : PieceOk (V 179) q179 o179 179 0 (3997, 0, c179_8000) := .s (size := 25) (ss := [0, 2]) (F := @o179_8000_in) (by kernel_rfl) fun R r K vs hh h => by
  unfold o179_8000_in at h; split at h
  · rw [math_bits_Len64_j8_unf] at h; exact Eq.trans (by kernel_rfl) h
  · cases h

theorem p179_11000 : PieceOk (V 179) q179 o179 179 0 (3996, 0, c179_11000) := .s (size := 25) (ss := [0, 2]) (F := @o179_11000_in) (by kernel_rfl) fun R r K vs hh h => by
  unfold o179_11000_in at h; split at h
  · rw [math_bits_Len64_j11_unf] at h; exact (math_bits_Len64_j11_eq K _ _).trans h
  · cases h

theorem pc179 : ∀ x ∈ [(3998, 0, c179_5000), (3997, 0, c179_8000), (3996, 0, c179_11000)], PieceOk (V 179) q179 o179 179 0 x := List.forall_mem_cons.2 ⟨p179_5000, List.forall_mem_cons.2 ⟨p179_8000, List.forall_mem_cons.2 ⟨p179_11000, fun _ h => nomatch h⟩⟩⟩

noncomputable def sp179 : Ev.Spec := fun args _ K => match args with
 | ([Au v0]) => math_bits_Len64 v0 (fun v1 => K (Ai v1))
 | _ => none
noncomputable def S179 := addS 179 sp179 S50
theorem D7 : Dom B0 V S179 T0 7 := Dom.s (m := 6) (n := 0) D6 D6 (O := o179) (OrcOk.fn (fn0 := Tryz.f179) (by kernel_rfl) (by kernel_rfl) pc179) fun args R K r h => by
 unfold sp179 at h; split at h
 · rw [math_bits_Len64_unf] at h; exact Eq.trans (by kernel_rfl) h
 · cases h

noncomputable def sp152 : Ev.Spec := fun args _ K => match args with
 | ([Au v0]) => word_Len v0 (fun v1 => K (Ai v1))
 | _ => none
noncomputable def S152 := addS 152 sp152 S179
theorem D8 : Dom B0 V S152 T0 8 := Dom.s (m := 7) (n := 0) D7 D7 (O := (fun _ => none)) (fun _ _ _ _ => OrcOk.none _ _) fun args R K r h => by
 unfold sp152 at h; split at h
 · rw [word_Len_unf] at h; exact Eq.trans (by kernel_rfl) h
 · cases h

noncomputable def o153_4400_in {R : Type} (K : Ex → St → Option R) (vs : List AV) (hh : H) : Option R := match vs, hh with
 | [Ai v0, Fu v1, Ai v2, Ai v3], [] => ints_width_l4 v0 v1 v2 v3 (fun v4 => K (Ex.exit 0) (St.mk (spread 18 0 [3] [Ai v4]) []))
 | _, _ => none

noncomputable def o153 : Nat → Option PSpec := lkN [(4400, fun st _ K => pickM 18 [3, 6, 7, 8] st (o153_4400_in K))]
noncomputable def q153 : CallF := evFun (V 153) S152 T0 10

noncomputable def c153_4400 : Code := subC [1, 1, 0, 1, 0, 0] (bodyOf Tryz.f153)

noncomputable def lp153_4400 {R : Type} (N : Nat) (st : St) (K : Ex → St → Option R) : Option R := evLoop (norm ((V 153).keep 153 (Ev.keyOf c153_4400 * 1000 + 400)) 0) (evCode (V 153) q153 o153 153 0 3994 c153_4400) N st (kOut (V 153) 153 0 (Ev.keyOf c153_4400 * 1000 + 401) K)

theorem ints_width_l4_L_eq {R : Type} (K : Ex → St → Option R) : ∀ N : Nat, (fun (v0 : Int) (v1 : List Int) (v2 v3 : Int) => lp153_4400 N (St.mk (spread 18 0 [3, 6, 7, 8] [Ai v0, Fu v1, Ai v2, Ai v3]) []) K) = ints_width_l4_L (fun v4 => K (Ex.exit 0) (St.mk (spread 18 0 [3] [Ai v4]) [])) N
  | 0 => by funext v0 v1 v2 v3; rfl
  | N + 1 => by
    funext v0 v1 v2 v3
    simp only [ints_width_l4_L]
    rw [← ints_width_l4_L_eq K N]
    kernel_rfl

theorem p153_4400 : PieceOk (V 153) q153 o153 153 0 (3994, 1, c153_4400) := .l (size := 18) (ss := [3, 6, 7, 8]) (F := @o153_4400_in) (by kernel_rfl) (by kernel_rfl) fun R r K vs hh h => by
  unfold o153_4400_in at h; split at h
  · rw [ints_width_l4_unf] at h; unfold ints_width_l4_B at h; rw [← ints_width_l4_L_eq K NR] at h; exact h
  · cases h

theorem pc153 : ∀ x ∈ [(3994, 1, c153_4400)], PieceOk (V 153) q153 o153 153 0 x := List.forall_mem_cons.2 ⟨p153_4400, fun _ h => nomatch h⟩

noncomputable def sp153 : Ev.Spec := fun args _ K => match args with
 | ([Fu v0]) => ints_width v0 (fun v1 => K (Ai v1))
 | _ => none
noncomputable def S153 := addS 153 sp153 S152
theorem D9 : Dom B0 V S153 T0 9 := Dom.s (m := 8) (n := 0) D8 D8 (O := o153) (OrcOk.fn (fn0 := Tryz.f153) (by kernel_rfl) (by kernel_rfl) pc153) fun args R K r h => by
 unfold sp153 at h; split at h
 · rw [ints_width_unf] at h; exact Eq.trans (by kernel_rfl) h
 · cases h

noncomputable def o139r0_3000_in {R : Type} (K : Ex → St → Option R) (vs : List AV) (hh : H) : Option R := match vs, hh with
 | [Ai v0, Ap 0 0, Ab v1], [HA [Ai v2, AV.esl]] => bits_New_j3 v0 v1 v2 (fun v3 v4 => K (Ex.ret) (St.mk (spread 16 0 [2, 3] [Ap 0 0, Ai v3]) [HA [Ai v4, AV.esl]])) (fun v3 v4 => K (Ex.normal) (St.mk (spread 16 0 [0, 2] [Ai v3, Ap 0 0]) [HA [Ai v4, AV.esl]]))
 | _, _ => none

noncomputable def o139r0_4000_in {R : Type} (K : Ex → St → Option R) (vs : List AV) (hh : H) : Option R := match vs, hh with
 | [Ai v0, Ap 0 0], [HA [Ai v1, AV.esl]] => bits_New_j4 v0 v1 (fun v2 v3 v4 v5 => K (Ex.ret) (St.mk (spread 16 0 [2, 3] [Ap 0 0, Ai v2]) [HA [Ai v3, AV.sl 1 0 v4 1], HU v5]))
 | _, _ => none

noncomputable def o139r0 : Nat → Option PSpec := lkN [(3000, fun st _ K => pickM 16 [0, 2, 9] st (o139r0_3000_in K)), (4000, fun st _ K => pickM 16 [0, 2] st (o139r0_4000_in K))]
noncomputable def q139r0 : CallF := evFun (V 139) S153 T0 10

noncomputable def c139r0_4000 : Code := subC [1, 1] (bodyOf Tryz.f139)

noncomputable def c139r0_3000 : Code := subC [1, 0, 1] (bodyOf Tryz.f139)

theorem p139r0_4000 : PieceOk (V 139) q139r0 o139r0 139 0 (3998, 0, c139r0_4000) := .s (size := 16) (ss := [0, 2]) (F := @o139r0_4000_in) (by kernel_rfl) fun R r K vs hh h => by
  unfold o139r0_4000_in at h; split at h
  · rw [bits_New_j4_unf] at h; exact Eq.trans (by kernel_rfl) h
  · cases h

theorem p139r0_3000 : PieceOk (V 139) q139r0 o139r0 139 0 (3997, 0, c139r0_3000) := .s (size := 16) (ss := [0, 2, 9]) (F := @o139r0_3000_in) (by kernel_rfl) fun R r K vs hh h => by
  unfold o139r0_3000_in at h; split at h
  · rw [bits_New_j3_unf] at h; exact Eq.trans (by kernel_rfl) h
  · cases h

theorem pc139r0 : ∀ x ∈ [(3998, 0, c139r0_4000), (3997, 0, c139r0_3000)], PieceOk (V 139) q139r0 o139r0 139 0 x := List.forall_mem_cons.2 ⟨p139r0_4000, List.forall_mem_cons.2 ⟨p139r0_3000, fun _ h => nomatch h⟩⟩

noncomputable def hs139 : HSpec := fun args h _ K => match args, h with
 | [Ai v0], [] => bits_New_r v0 (fun v1 v2 => K (AV.tup [AV.agg (Blk.any [Ai v1, AV.esl]), Ai v2]) []) (fun v1 v2 v3 v4 => K (AV.tup [AV.agg (Blk.any [Ai v1, AV.sl 0 0 v2 1]), Ai v3]) ([HU v4]))
 | _, _ => none
noncomputable def T139 := addT 139 hs139 T0
theorem D10 : Dom B0 V S153 T139 10 := Dom.t D9 fun args hh R K r h => by
 unfold hs139 at h; split at h
 · rw [bits_New_r_unf] at h; exact ⟨o139r0, (OrcOk.fn (fn0 := Tryz.f139) (by kernel_rfl) (by kernel_rfl) pc139r0), Eq.trans (by kernel_rfl) h⟩
 · cases h

noncomputable def sp139 : Ev.Spec := fun args _ K => match args with
 | ([Ai v0]) => bits_New v0 (fun v1 v2 v3 => K (AV.tup [AV.agg (Blk.any [Ai v1, Fu v2]), Ai v3]))
 | _ => none
noncomputable def S139 := addS 139 sp139 S153
theorem D11 : Dom B0 V S139 T139 11 := Dom.s (m := 9) (n := 1) D10 D9 (O := o139r0) (OrcOk.fn (fn0 := Tryz.f139) (by kernel_rfl) (by kernel_rfl) pc139r0) fun args R K r h => by
 unfold sp139 at h; split at h
 · rw [bits_New_unf] at h; exact Eq.trans (by kernel_rfl) h
 · cases h

theorem bits_own_r_eq {R : Type} (K : AV → H → Option R) (v0 : Int) (v1 : List Int) (v2 : Int) : evH (V 149) S139 T139 (fun _ => none) 10 149 [AV.agg (Blk.any [Ai v0, Fu v1]), Ai v2] [] R K = bits_own_r_B v0 v1 v2 (fun v3 v4 v5 => K (AV.agg (Blk.any [Ai v3, AV.sl 0 0 v4 1])) ([HU v5])) := by kernel_rfl

noncomputable def hs149 : HSpec := fun args h _ K => match args, h with
 | [AV.agg (Blk.any [Ai v0, Fu v1]), Ai v2], [] => bits_own_r v0 v1 v2 (fun v3 v4 v5 => K (AV.agg (Blk.any [Ai v3, AV.sl 0 0 v4 1])) ([HU v5]))
 | _, _ => none
noncomputable def T149 := addT 149 hs149 T139
theorem D12 : Dom B0 V S139 T149 12 := Dom.t D11 fun args hh R K r h => by
 unfold hs149 at h; split at h
 · rw [bits_own_r_unf] at h; exact ⟨(fun _ => none), (fun _ _ _ _ => OrcOk.none _ _), (bits_own_r_eq K _ _ _).trans h⟩
 · cases h

noncomputable def o150r1_5000_in {R : Type} (K : Ex → St → Option R) (vs : List AV) (hh : H) : Option R := match vs, hh with
 | [Au v0, Ap 1 0, Ai v1, Ai v2], [HU v3, HA [Ai v4, AV.sl 0 0 v5 1]] => bits_fill_j5 v0 v1 v2 v3 v4 v5 (fun v6 => K (Ex.normal) (St.mk (spread 49 0 [] []) [HU v6]))
 | _, _ => none

noncomputable def o150r1_6000_in {R : Type} (K : Ex → St → Option R) (vs : List AV) (hh : H) : Option R := match vs, hh with
 | [Au v0, Ap 1 0, Ai v1, Ai v2, Ab v3], [HU v4, HA [Ai v5, AV.sl 0 0 v6 1]] => bits_fill_j6 v0 v1 v2 v3 v4 v5 v6 (fun v7 => K (Ex.normal) (St.mk (spread 49 0 [] []) [HU v7]))
 | _, _ => none

noncomputable def o150r1 : Nat → Option PSpec := lkN [(5000, fun st _ K => pickM 49 [2, 3, 6, 7] st (o150r1_5000_in K)), (6000, fun st _ K => pickM 49 [2, 3, 6, 7, 36] st (o150r1_6000_in K))]
noncomputable def q150r1 : CallF := evFun (V 150) S139 T149 10

noncomputable def c150r1_5000 : Code := subC [1, 1, 1] (bodyOf Tryz.f150)

noncomputable def c150r1_6000 : Code := subC [1, 1, 1, 1] (bodyOf Tryz.f150)

theorem p150r1_5000 : PieceOk (V 150) q150r1 o150r1 150 1 (3997, 0, c150r1_5000) := .s (size := 49) (ss := [2, 3, 6, 7]) (F := @o150r1_5000_in) (by kernel_rfl) fun R r K vs hh h => by
  unfold o150r1_5000_in at h; split at h
  · rw [bits_fill_j5_unf] at h; exact Eq.trans (by kernel_rfl) h
  · cases h

theorem p150r1_6000 : PieceOk (V 150) q150r1 o150r1 150 1 (3996, 0, c150r1_6000) := .s (size := 49) (ss := [2, 3, 6, 7, 36]) (F := @o150r1_6000_in) (by kernel_rfl) fun R r K vs hh h => by
  unfold o150r1_6000_in at h; split at h
  · rw [bits_fill_j6_unf] at h; exact Eq.trans (by kernel_rfl) h
  · cases h

theorem pc150r1 : ∀ x ∈ [(3997, 0, c150r1_5000), (3996, 0, c150r1_6000)], PieceOk (V 150) q150r1 o150r1 150 1 x := List.forall_mem_cons.2 ⟨p150r1_5000, List.forall_mem_cons.2 ⟨p150r1_6000, fun _ h => nomatch h⟩⟩

theorem bits_fill_r_eq {R : Type} (K : AV → H → Option R) (v0 : Int) (v1 : Nat) (v2 v3 : Int) (v4 : List Int) : evH (V 150) S139 T149 o150r1 10 150 [AV.agg (Blk.any [Ai v0, AV.sl 0 0 v1 1]), Ai v2, Au v3] [HU v4] R K = bits_fill_r_B v0 v1 v2 v3 v4 (fun v5 => K (AV.tup []) ([HU v5])) := by kernel_rfl

noncomputable def hs150 : HSpec := fun args h _ K => match args, h with
 | [AV.agg (Blk.any [Ai v0, AV.sl 0 0 v1 1]), Ai v2, Au v3], [HU v4] => bits_fill_r v0 v1 v2 v3 v4 (fun v5 => K (AV.tup []) ([HU v5]))
 | _, _ => none
noncomputable def T150 := addT 150 hs150 T149
theorem D13 : Dom B0 V S139 T150 13 := Dom.t D12 fun args hh R K r h => by
 unfold hs150 at h; split at h
 · rw [bits_fill_r_unf] at h; exact ⟨o150r1, (OrcOk.fn (fn0 := Tryz.f150) (by kernel_rfl) (by kernel_rfl) pc150r1), (bits_fill_r_eq K _ _ _ _ _).trans h⟩
 · cases h

noncomputable def o104_3000_in {R : Type} (K : Ex → St → Option R) (vs : List AV) (hh : H) : Option R := match vs, hh with
 | [Au v0, Ai v1, Ap 0 0, Ap 1 0, Ab v2], [HA [Ai v3, Fu v4], HA [Ai v5, AV.esl]] => bits_Append_j3 v0 v1 v2 v3 v4 v5 (fun v6 v7 v8 => K (Ex.ret) (St.mk (spread 43 0 [6, 7] [Ap 0 0, Ai v6]) [HA [Ai v7, Fu v8]])) (fun v6 v7 v8 v9 va => K (Ex.normal) (St.mk (spread 43 0 [1, 2, 3, 6] [Au v6, Ai v7, Ap 0 0, Ap 1 0]) [HA [Ai v8, Fu v9], HA [Ai va, AV.esl]]))
 | _, _ => none

noncomputable def o104_4000_in {R : Type} (K : Ex → St → Option R) (vs : List AV) (hh : H) : Option R := match vs, hh with
 | [Au v0, Ai v1, Ap 0 0, Ap 1 0], [HA [Ai v2, Fu v3], HA [Ai v4, AV.esl]] => bits_Append_j4 v0 v1 v2 v3 v4 (fun v5 v6 v7 v8 => K (Ex.ret) (St.mk (spread 43 0 [6, 7] [Ap 0 0, Ai v5]) [HA [Ai v6, AV.sl 1 0 v7 1], HU v8]))
 | _, _ => none

noncomputable def o104 : Nat → Option PSpec := lkN [(3000, fun st _ K => pickM 43 [1, 2, 3, 6, 26] st (o104_3000_in K)), (4000, fun st _ K => pickM 43 [1, 2, 3, 6] st (o104_4000_in K))]
noncomputable def q104 : CallF := evFun (V 104) S139 T150 10

noncomputable def c104_4000 : Code := subC [1, 1] (bodyOf Tryz.f104)

noncomputable def c104_3000 : Code := subC [1, 0, 1] (bodyOf Tryz.f104)

theorem p104_4000 : PieceOk (V 104) q104 o104 104 0 (3998, 0, c104_4000) := .s (size := 43) (ss := [1, 2, 3, 6]) (F := @o104_4000_in) (by kernel_rfl) fun R r K vs hh h => by
  unfold o104_4000_in at h; split at h
  · rw [bits_Append_j4_unf] at h; exact Eq.trans (by kernel_rfl) h
  · cases h

theorem p104_3000 : PieceOk (V 104) q104 o104 104 0 (3997, 0, c104_3000) := .s (size := 43) (ss := [1, 2, 3, 6, 26]) (F := @o104_3000_in) (by kernel_rfl) fun R r K vs hh h => by
  unfold o104_3000_in at h; split at h
  · rw [bits_Append_j3_unf] at h; exact Eq.trans (by kernel_rfl) h
  · cases h

theorem pc104 : ∀ x ∈ [(3998, 0, c104_4000), (3997, 0, c104_3000)], PieceOk (V 104) q104 o104 104 0 x := List.forall_mem_cons.2 ⟨p104_4000, List.forall_mem_cons.2 ⟨p104_3000, fun _ h => nomatch h⟩⟩

theorem bits_Append_eq {R : Type} (K : AV → Option R) (v0 : Int) (v1 : List Int) (v2 v3 : Int) : evSpec (V 104) S139 T150 o104 10 104 ([AV.agg (Blk.any [Ai v0, Fu v1]), Au v2, Ai v3]) R K = bits_Append_B v0 v1 v2 v3 (fun v4 v5 v6 => K (AV.tup [AV.agg (Blk.any [Ai v4, Fu v5]), Ai v6])) := by kernel_rfl

noncomputable def sp104 : Ev.Spec := fun args _ K => match args with
 | ([AV.agg (Blk.any [Ai v0, Fu v1]), Au v2, Ai v3]) => bits_Append v0 v1 v2 v3 (fun v4 v5 v6 => K (AV.tup [AV.agg (Blk.any [Ai v4, Fu v5]), Ai v6]))
 | _ => none
noncomputable def S104 := addS 104 sp104 S139
theorem D14 : Dom B0 V S104 T150 14 := Dom.s (m := 13) (n := 0) D13 D13 (O := o104) (OrcOk.fn (fn0 := Tryz.f104) (by kernel_rfl) (by kernel_rfl) pc104) fun args R K r h => by
 unfold sp104 at h; split at h
 · rw [bits_Append_unf] at h; exact (bits_Append_eq K _ _ _ _).trans h
 · cases h

noncomputable def o106_3000_in {R : Type} (K : Ex → St → Option R) (vs : List AV) (hh : H) : Option R := match vs, hh with
 | [Ai v0, Fu v1, Ap 0 0, Ab v2], [HA [Ai v3, Ai v4, Ai v5, AV.esl]] => ints_Make_j3 v0 v1 v2 v3 v4 v5 (fun v6 v7 v8 v9 => K (Ex.ret) (St.mk (spread 53 0 [4, 5] [Ap 0 0, Ai v6]) [HA [Ai v7, Ai v8, Ai v9, AV.esl]])) (fun v6 v7 v8 v9 va => K (Ex.normal) (St.mk (spread 53 0 [0, 1, 4] [Ai v6, Fu v7, Ap 0 0]) [HA [Ai v8, Ai v9, Ai va, AV.esl]]))
 | _, _ => none

noncomputable def o106_4000_in {R : Type} (K : Ex → St → Option R) (vs : List AV) (hh : H) : Option R := match vs, hh with
 | [Ai v0, Fu v1, Ap 0 0], [HA [Ai v2, Ai v3, Ai v4, AV.esl]] => ints_Make_j4 v0 v1 v2 v3 v4 (fun v5 v6 v7 v8 v9 => K (Ex.ret) (St.mk (spread 53 0 [4, 5] [Ap 0 0, Ai v5]) [HA [Ai v6, Ai v7, Ai v8, Fu v9]]))
 | _, _ => none

noncomputable def o106_6400_in {R : Type} (K : Ex → St → Option R) (vs : List AV) (hh : H) : Option R := match vs, hh with
 | [Ai v0, Fu v1, Ap 0 0, Ap 1 0, Fu v2, Ai v3, Ai v4], [HA [Ai v5, Ai v6, Ai v7, AV.esl], HA [Ai v8, Fu v9]] => ints_Make_l6 v0 v1 v2 v3 v4 v5 v6 v7 v8 v9 (fun va vb vc vd ve vf vg => K (Ex.exit 0) (St.mk (spread 53 0 [0, 1, 4, 6] [Ai va, Fu vb, Ap 0 0, Ap 1 0]) [HA [Ai vc, Ai vd, Ai ve, AV.esl], HA [Ai vf, Fu vg]]))
 | _, _ => none

noncomputable def o106 : Nat → Option PSpec := lkN [(3000, fun st _ K => pickM 53 [0, 1, 4, 28] st (o106_3000_in K)), (4000, fun st _ K => pickM 53 [0, 1, 4] st (o106_4000_in K)), (6400, fun st _ K => pickM 53 [0, 1, 4, 6, 34, 35, 36] st (o106_6400_in K))]
noncomputable def q106 : CallF := evFun (V 106) S104 T150 10

noncomputable def c106_4000 : Code := subC [1, 1] (bodyOf Tryz.f106)

noncomputable def c106_3000 : Code := subC [1, 0, 1] (bodyOf Tryz.f106)

noncomputable def c106_6400 : Code := subC [1, 1, 1, 0, 1, 0, 0] (bodyOf Tryz.f106)

noncomputable def lp106_6400 {R : Type} (N : Nat) (st : St) (K : Ex → St → Option R) : Option R := evLoop (norm ((V 106).keep 106 (Ev.keyOf c106_6400 * 1000 + 400)) 0) (evCode (V 106) q106 o106 106 0 3993 c106_6400) N st (kOut (V 106) 106 0 (Ev.keyOf c106_6400 * 1000 + 401) K)

theorem ints_Make_l6_L_eq {R : Type} (K : Ex → St → Option R) : ∀ N : Nat, (fun (v0 : Int) (v1 v2 : List Int) (v3 v4 v5 v6 v7 v8 : Int) (v9 : List Int) => lp106_6400 N (St.mk (spread 53 0 [0, 1, 4, 6, 34, 35, 36] [Ai v0, Fu v1, Ap 0 0, Ap 1 0, Fu v2, Ai v3, Ai v4]) [HA [Ai v5, Ai v6, Ai v7, AV.esl], HA [Ai v8, Fu v9]]) K) = ints_Make_l6_L (fun va vb vc vd ve vf vg => K (Ex.exit 0) (St.mk (spread 53 0 [0, 1, 4, 6] [Ai va, Fu vb, Ap 0 0, Ap 1 0]) [HA [Ai vc, Ai vd, Ai ve, AV.esl], HA [Ai vf, Fu vg]])) N
  | 0 => by funext v0 v1 v2 v3 v4 v5 v6 v7 v8 v9; rfl
  | N + 1 => by
    funext v0 v1 v2 v3 v4 v5 v6 v7 v8 v9
    simp only [ints_Make_l6_L]
    rw [← ints_Make_l6_L_eq K N]
    kernel_rfl

theorem p106_4000 : PieceOk (V 106) q106 o106 106 0 (3998, 0, c106_4000) := .s (size := 53) (ss := [0, 1, 4]) (F := @o106_4000_in) (by kernel_rfl) fun R r K vs hh h => by
  unfold o106_4000_in at h; split at h
  · rw [ints_Make_j4_unf] at h; exact Eq.trans (by kernel_rfl) h
  · cases h

theorem p106_3000 : PieceOk (V 106) q106 o106 106 0 (3997, 0, c106_3000) := .s (size := 53) (ss := [0, 1, 4, 28]) (F := @o106_3000_in) (by kernel_rfl) fun R r K vs hh h => by
  unfold o106_3000_in at h; split at h
  · rw [ints_Make_j3_unf] at h; exact Eq.trans (by kernel_rfl) h
  · cases h

theorem p106_6400 : PieceOk (V 106) q106 o106 106 0 (3993, 1, c106_6400) := .l (size := 53) (ss := [0, 1, 4, 6, 34, 35, 36]) (F := @o106_6400_in) (by kernel_rfl) (by kernel_rfl) fun R r K vs hh h => by
  unfold o106_6400_in at h; split at h
  · rw [ints_Make_l6_unf] at h; unfold ints_Make_l6_B at h; rw [← ints_Make_l6_L_eq K NR] at h; exact h
  · cases h

theorem pc106 : ∀ x ∈ [(3998, 0, c106_4000), (3997, 0, c106_3000), (3993, 1, c106_6400)], PieceOk (V 106) q106 o106 106 0 x := List.forall_mem_cons.2 ⟨p106_4000, List.forall_mem_cons.2 ⟨p106_3000, List.forall_mem_cons.2 ⟨p106_6400, fun _ h => nomatch h⟩⟩⟩

theorem ints_Make_eq {R : Type} (K : AV → Option R) (v0 : Int) (v1 : List Int) : evSpec (V 106) S104 T150 o106 10 106 ([Ai v0, Fu v1]) R K = ints_Make_B v0 v1 (fun v2 v3 v4 v5 v6 => K (AV.tup [AV.agg (Blk.any [Ai v2, Ai v3, Ai v4, Fu v5]), Ai v6])) := by kernel_rfl

noncomputable def sp106 : Ev.Spec := fun args _ K => match args with
 | ([Ai v0, Fu v1]) => ints_Make v0 v1 (fun v2 v3 v4 v5 v6 => K (AV.tup [AV.agg (Blk.any [Ai v2, Ai v3, Ai v4, Fu v5]), Ai v6]))
 | _ => none
noncomputable def S106 := addS 106 sp106 S104
theorem D15 : Dom B0 V S106 T150 15 := Dom.s (m := 14) (n := 0) D14 D14 (O := o106) (OrcOk.fn (fn0 := Tryz.f106) (by kernel_rfl) (by kernel_rfl) pc106) fun args R K r h => by
 unfold sp106 at h; split at h
 · rw [ints_Make_unf] at h; exact (ints_Make_eq K _ _).trans h
 · cases h

noncomputable def o101_3000_in {R : Type} (K : Ex → St → Option R) (vs : List AV) (hh : H) : Option R := match vs, hh with
 | [Ai v0, Ai v1, Ap 0 0, Ab v2], [HA [Ai v3, Fu v4]] => bits_Slice_j3 v0 v1 v2 v3 v4 (fun v5 v6 => K (Ex.ret) (St.mk (spread 73 0 [6, 7] [Au v5, Ai v6]) [])) (fun v5 v6 v7 v8 => K (Ex.normal) (St.mk (spread 73 0 [1, 2, 3] [Ai v5, Ai v6, Ap 0 0]) [HA [Ai v7, Fu v8]]))
 | _, _ => none

noncomputable def o101_5000_in {R : Type} (K : Ex → St → Option R) (vs : List AV) (hh : H) : Option R := match vs, hh with
 | [Ai v0, Ai v1, Ap 0 0, Ab v2], [HA [Ai v3, Fu v4]] => bits_Slice_j5 v0 v1 v2 v3 v4 (fun v5 v6 => K (Ex.ret) (St.mk (spread 73 0 [6, 7] [Au v5, Ai v6]) [])) (fun v5 v6 v7 v8 => K (Ex.normal) (St.mk (spread 73 0 [1, 2, 3] [Ai v5, Ai v6, Ap 0 0]) [HA [Ai v7, Fu v8]]))
 | _, _ => none

noncomputable def o101_8000_in {R : Type} (K : Ex → St → Option R) (vs : List AV) (hh : H) : Option R := match vs, hh with
 | [Ai v0, Ai v1, Ap 0 0], [HA [Ai v2, Fu v3]] => bits_Slice_j8 v0 v1 v2 v3 (fun v4 v5 => K (Ex.ret) (St.mk (spread 73 0 [6, 7] [Au v4, Ai v5]) []))
 | _, _ => none

noncomputable def o101_12000_in {R : Type} (K : Ex → St → Option R) (vs : List AV) (hh : H) : Option R := match vs, hh with
 | [Ai v0, Au v1], [] => bits_Slice_j12 v0 v1 (fun v2 v3 => K (Ex.ret) (St.mk (spread 73 0 [6, 7] [Au v2, Ai v3]) []))
 | _, _ => none

noncomputable def o101 : Nat → Option PSpec := lkN [(3000, fun st _ K => pickM 73 [1, 2, 3, 11] st (o101_3000_in K)), (5000, fun st _ K => pickM 73 [1, 2, 3, 23] st (o101_5000_in K)), (8000, fun st _ K => pickM 73 [1, 2, 3] st (o101_8000_in K)), (12000, fun st _ K => pickM 73 [2, 10] st (o101_12000_in K))]
noncomputable def q101 : CallF := evFun (V 101) S106 T150 10

noncomputable def c101_8000 : Code := subC [1, 1] (bodyOf Tryz.f101)

noncomputable def c101_3000 : Code := subC [1, 0, 0, 1] (bodyOf Tryz.f101)

noncomputable def c101_5000 : Code := subC [1, 0, 0, 1, 1, 1] (bodyOf Tryz.f101)

noncomputable def c101_12000 : Code := subC [1, 1, 1, 1, 1] (bodyOf Tryz.f101)

theorem bits_Slice_j8_eq {R : Type} (K : Ex → St → Option R) (v0 v1 v2 : Int) (v3 : List Int) : evCode (V 101) q101 o101 101 0 3998 c101_8000 (St.mk (spread 73 0 [1, 2, 3] [Ai v0, Ai v1, Ap 0 0]) [HA [Ai v2, Fu v3]]) (kOut (V 101) 101 0 (Ev.keyOf c101_8000 * 1000 + 1) K) = bits_Slice_j8_B v0 v1 v2 v3 (fun v4 v5 => K (Ex.ret) (St.mk (spread 73 0 [6, 7] [Au v4, Ai v5]) [])) := by kernel_rfl

theorem p101_8000 : PieceOk (V 101) q101 o101 101 0 (3998, 0, c101_8000) := .s (size := 73) (ss := [1, 2, 3]) (F := @o101_8000_in) (by kernel_rfl) fun R r K vs hh h => by
  unfold o101_8000_in at h; split at h
  · rw [bits_Slice_j8_unf] at h; exact (bits_Slice_j8_eq K _ _ _ _).trans h
  · cases h

theorem p101_3000 : PieceOk (V 101) q101 o101 101 0 (3996, 0, c101_3000) := .s (size := 73) (ss := [1, 2, 3, 11]) (F := @o101_3000_in) (by kernel_rfl) fun R r K vs hh h => by
  unfold o101_3000_in at h; split at h
  · rw [bits_Slice_j3_unf] at h; exact Eq.trans (by kernel_rfl) h
  · cases h

theorem p101_5000 : PieceOk (V 101) q101 o101 101 0 (3994, 0, c101_5000) := .s (size := 73) (ss := [1, 2, 3, 23]) (F := @o101_5000_in) (by kernel_rfl) fun R r K vs hh h => by
  unfold o101_5000_in at h; split at h
  · rw [bits_Slice_j5_unf] at h; exact Eq.trans (by kernel_rfl) h
  · cases h

theorem p101_12000 : PieceOk (V 101) q101 o101 101 0 (3995, 0, c101_12000) := .s (size := 73) (ss := [2, 10]) (F := @o101_12000_in) (by kernel_rfl) fun R r K vs hh h => by
  unfold o101_12000_in at h; split at h
  · rw [bits_Slice_j12_unf] at h; exact Eq.trans (by kernel_rfl) h
  · cases h

theorem pc101 : ∀ x ∈ [(3998, 0, c101_8000), (3996, 0, c101_3000), (3994, 0, c101_5000), (3995, 0, c101_12000)], PieceOk (V 101) q101 o101 101 0 x := List.forall_mem_cons.2 ⟨p101_8000, List.forall_mem_cons.2 ⟨p101_3000, List.forall_mem_cons.2 ⟨p101_5000, List.forall_mem_cons.2 ⟨p101_12000, fun _ h => nomatch h⟩⟩⟩⟩

noncomputable def sp101 : Ev.Spec := fun args _ K => match args with
 | ([AV.agg (Blk.any [Ai v0, Fu v1]), Ai v2, Ai v3]) => bits_Slice v0 v1 v2 v3 (fun v4 v5 => K (AV.tup [Au v4, Ai v5]))
 | _ => none
noncomputable def S101 := addS 101 sp101 S106
theorem D16 : Dom B0 V S101 T150 16 := Dom.s (m := 15) (n := 0) D15 D15 (O := o101) (OrcOk.fn (fn0 := Tryz.f101) (by kernel_rfl) (by kernel_rfl) pc101) fun args R K r h => by
 unfold sp101 at h; split at h
 · rw [bits_Slice_unf] at h; exact Eq.trans (by kernel_rfl) h
 · cases h

noncomputable def sp103 : Ev.Spec := fun args _ K => match args with
 | [] => rrr_none (fun v0 v1 => K (AV.agg (Blk.any [Ai v0, Au v1])))
 | _ => none
noncomputable def S103 := addS 103 sp103 S101
theorem D17 : Dom B0 V S103 T150 17 := Dom.s (m := 16) (n := 0) D16 D16 (O := (fun _ => none)) (fun _ _ _ _ => OrcOk.none _ _) fun args R K r h => by
 unfold sp103 at h; split at h
 · rw [rrr_none_unf] at h; exact Eq.trans (by kernel_rfl) h
 · cases h

noncomputable def o178r1_2400_in {R : Type} (K : Ex → St → Option R) (vs : List AV) (hh : H) : Option R := match vs, hh with
 | [Ap 0 0, Ai v0], [HU v1] => binom_row_next_l2 v0 v1 (fun v2 => K (Ex.exit 0) (St.mk (spread 25 0 [] []) [HU v2]))
 | _, _ => none

noncomputable def o178r1 : Nat → Option PSpec := lkN [(2400, fun st _ K => pickM 25 [0, 4] st (o178r1_2400_in K))]
noncomputable def q178r1 : CallF := evFun (V 178) S103 T150 10

noncomputable def c178r1_2400 : Code := subC [1, 0, 0] (bodyOf Tryz.f178)

noncomputable def lp178r1_2400 {R : Type} (N : Nat) (st : St) (K : Ex → St → Option R) : Option R := evLoop (norm ((V 178).keep 178 (Ev.keyOf c178r1_2400 * 1000 + 400)) 1) (evCode (V 178) q178r1 o178r1 178 1 3997 c178r1_2400) N st (kOut (V 178) 178 1 (Ev.keyOf c178r1_2400 * 1000 + 401) K)

theorem binom_row_next_l2_L_eq {R : Type} (K : Ex → St → Option R) : ∀ N : Nat, (fun (v0 : Int) (v1 : List Int) => lp178r1_2400 N (St.mk (spread 25 0 [0, 4] [Ap 0 0, Ai v0]) [HU v1]) K) = binom_row_next_l2_L (fun v2 => K (Ex.exit 0) (St.mk (spread 25 0 [] []) [HU v2])) N
  | 0 => by funext v0 v1; rfl
  | N + 1 => by
    funext v0 v1
    simp only [binom_row_next_l2_L]
    rw [← binom_row_next_l2_L_eq K N]
    kernel_rfl

theorem p178r1_2400 : PieceOk (V 178) q178r1 o178r1 178 1 (3997, 1, c178r1_2400) := .l (size := 25) (ss := [0, 4]) (F := @o178r1_2400_in) (by kernel_rfl) (by kernel_rfl) fun R r K vs hh h => by
  unfold o178r1_2400_in at h; split at h
  · rw [binom_row_next_l2_unf] at h; unfold binom_row_next_l2_B at h; rw [← binom_row_next_l2_L_eq K NR] at h; exact h
  · cases h

theorem pc178r1 : ∀ x ∈ [(3997, 1, c178r1_2400)], PieceOk (V 178) q178r1 o178r1 178 1 x := List.forall_mem_cons.2 ⟨p178r1_2400, fun _ h => nomatch h⟩

noncomputable def hs178 : HSpec := fun args h _ K => match args, h with
 | [Ap 0 0, Ai v0], [HU v1] => binom_row_next_r v0 v1 (fun v2 => K (AV.tup []) ([HU v2]))
 | _, _ => none
noncomputable def T178 := addT 178 hs178 T150
theorem D18 : Dom B0 V S103 T178 18 := Dom.t D17 fun args hh R K r h => by
 unfold hs178 at h; split at h
 · rw [binom_row_next_r_unf] at h; exact ⟨o178r1, (OrcOk.fn (fn0 := Tryz.f178) (by kernel_rfl) (by kernel_rfl) pc178r1), Eq.trans (by kernel_rfl) h⟩
 · cases h

noncomputable def o177_5400_in {R : Type} (K : Ex → St → Option R) (vs : List AV) (hh : H) : Option R := match vs, hh with
 | [Ap 0 0, AV.sl 1 0 v0 1, Ai v1, Ai v2], [HU v3, HB.live (Blk.cols [Col.fints .u64 v4] [])] => binom_rows_l5 v0 v1 v2 v3 v4 (fun v5 v6 => K (Ex.exit 0) (St.mk (spread 25 0 [4] [AV.sl 0 0 v5 1]) [HB.live (Blk.cols [Col.fints .u64 v6] [])]))
 | _, _ => none

noncomputable def o177 : Nat → Option PSpec := lkN [(5400, fun st _ K => pickM 25 [3, 4, 9, 10] st (o177_5400_in K))]
noncomputable def q177 : CallF := evFun (V 177) S103 T178 10

noncomputable def c177_5400 : Code := subC [1, 1, 1, 0, 1, 0, 0] (bodyOf Tryz.f177)

noncomputable def lp177_5400 {R : Type} (N : Nat) (st : St) (K : Ex → St → Option R) : Option R := evLoop (norm ((V 177).keep 177 (Ev.keyOf c177_5400 * 1000 + 400)) 0) (evCode (V 177) q177 o177 177 0 3993 c177_5400) N st (kOut (V 177) 177 0 (Ev.keyOf c177_5400 * 1000 + 401) K)

theorem binom_rows_l5_L_eq {R : Type} (K : Ex → St → Option R) : ∀ N : Nat, (fun (v0 : Nat) (v1 v2 : Int) (v3 : List Int) (v4 : List (List Int)) => lp177_5400 N (St.mk (spread 25 0 [3, 4, 9, 10] [Ap 0 0, AV.sl 1 0 v0 1, Ai v1, Ai v2]) [HU v3, HB.live (Blk.cols [Col.fints .u64 v4] [])]) K) = binom_rows_l5_L (fun v5 v6 => K (Ex.exit 0) (St.mk (spread 25 0 [4] [AV.sl 0 0 v5 1]) [HB.live (Blk.cols [Col.fints .u64 v6] [])])) N
  | 0 => by funext v0 v1 v2 v3 v4; rfl
  | N + 1 => by
    funext v0 v1 v2 v3 v4
    simp only [binom_rows_l5_L]
    rw [← binom_rows_l5_L_eq K N]
    kernel_rfl

theorem p177_5400 : PieceOk (V 177) q177 o177 177 0 (3993, 1, c177_5400) := .l (size := 25) (ss := [3, 4, 9, 10]) (F := @o177_5400_in) (by kernel_rfl) (by kernel_rfl) fun R r K vs hh h => by
  unfold o177_5400_in at h; split at h
  · rw [binom_rows_l5_unf] at h; unfold binom_rows_l5_B at h; rw [← binom_rows_l5_L_eq K NR] at h; exact h
  · cases h

theorem pc177 : ∀ x ∈ [(3993, 1, c177_5400)], PieceOk (V 177) q177 o177 177 0 x := List.forall_mem_cons.2 ⟨p177_5400, fun _ h => nomatch h⟩

noncomputable def sp177 : Ev.Spec := fun args _ K => match args with
 | ([Ai v0]) => binom_rows v0 (fun v1 => K (AV.fsl (Blk.cols [Col.fints .u64 v1] [])))
 | _ => none
noncomputable def S177 := addS 177 sp177 S103
theorem D19 : Dom B0 V S177 T178 19 := Dom.s (m := 18) (n := 0) D18 D18 (O := o177) (OrcOk.fn (fn0 := Tryz.f177) (by kernel_rfl) (by kernel_rfl) pc177) fun args R K r h => by
 unfold sp177 at h; split at h
 · rw [binom_rows_unf] at h; exact Eq.trans (by kernel_rfl) h
 · cases h

noncomputable def o148_4000_in {R : Type} (K : Ex → St → Option R) (vs : List AV) (hh : H) : Option R := match vs, hh with
 | [Au v0, Ai v1], [] => binom_Offset_j4 v0 v1 (fun v2 v3 => K (Ex.ret) (St.mk (spread 51 0 [4, 5] [Ai v2, Au v3]) []))
 | _, _ => none

noncomputable def o148_9400_in {R : Type} (K : Ex → St → Option R) (vs : List AV) (hh : H) : Option R := match vs, hh with
 | [Au v0, Ai v1, AV.fsl (Blk.cols [Col.fints .u64 v2] []), Au v3, Ai v4], [] => binom_Offset_l9 v0 v1 v2 v3 v4 (fun v5 v6 => K (Ex.exit 0) (St.mk (spread 51 0 [6, 8] [Ai v5, Au v6]) []))
 | _, _ => none

noncomputable def o148_14000_in {R : Type} (K : Ex → St → Option R) (vs : List AV) (hh : H) : Option R := match vs, hh with
 | [Au v0, Ai v1, AV.fsl (Blk.cols [Col.fints .u64 v2] []), Au v3, Ai v4, Ai v5], [] => binom_Offset_j14 v0 v1 v2 v3 v4 v5 (fun v6 v7 v8 v9 va => K (Ex.normal) (St.mk (spread 51 0 [0, 6, 7, 8, 9] [Au v6, Ai v7, AV.fsl (Blk.cols [Col.fints .u64 v8] []), Au v9, Ai va]) []))
 | _, _ => none

noncomputable def o148 : Nat → Option PSpec := lkN [(4000, fun st _ K => pickM 51 [0, 1] st (o148_4000_in K)), (9400, fun st _ K => pickM 51 [0, 6, 7, 8, 9] st (o148_9400_in K)), (14000, fun st _ K => pickM 51 [0, 6, 7, 8, 9, 10] st (o148_14000_in K))]
noncomputable def q148 : CallF := evFun (V 148) S177 T178 10

noncomputable def c148_4000 : Code := subC [1, 1] (bodyOf Tryz.f148)

noncomputable def c148_9400 : Code := subC [1, 1, 1, 1, 1, 1, 0, 1, 0, 0] (bodyOf Tryz.f148)

noncomputable def lp148_9400 {R : Type} (N : Nat) (st : St) (K : Ex → St → Option R) : Option R := evLoop (norm ((V 148).keep 148 (Ev.keyOf c148_9400 * 1000 + 400)) 0) (evCode (V 148) q148 o148 148 0 3990 c148_9400) N st (kOut (V 148) 148 0 (Ev.keyOf c148_9400 * 1000 + 401) K)

noncomputable def c148_14000 : Code := subC [1, 1, 1, 1, 1, 1, 0, 1, 0, 0, 1, 0, 0, 1, 1] (bodyOf Tryz.f148)

theorem binom_Offset_l9_L_eq {R : Type} (K : Ex → St → Option R) : ∀ N : Nat, (fun (v0 v1 : Int) (v2 : List (List Int)) (v3 v4 : Int) => lp148_9400 N (St.mk (spread 51 0 [0, 6, 7, 8, 9] [Au v0, Ai v1, AV.fsl (Blk.cols [Col.fints .u64 v2] []), Au v3, Ai v4]) []) K) = binom_Offset_l9_L (fun v5 v6 => K (Ex.exit 0) (St.mk (spread 51 0 [6, 8] [Ai v5, Au v6]) [])) N
  | 0 => by funext v0 v1 v2 v3 v4; rfl
  | N + 1 => by
    funext v0 v1 v2 v3 v4
    simp only [binom_Offset_l9_L]
    rw [← binom_Offset_l9_L_eq K N]
    kernel_rfl

theorem p148_4000 : PieceOk (V 148) q148 o148 148 0 (3998, 0, c148_4000) := .s (size := 51) (ss := [0, 1]) (F := @o148_4000_in) (by kernel_rfl) fun R r K vs hh h => by
  unfold o148_4000_in at h; split at h
  · rw [binom_Offset_j4_unf] at h; exact Eq.trans (by kernel_rfl) h
  · cases h

theorem p148_9400 : PieceOk (V 148) q148 o148 148 0 (3990, 1, c148_9400) := .l (size := 51) (ss := [0, 6, 7, 8, 9]) (F := @o148_9400_in) (by kernel_rfl) (by kernel_rfl) fun R r K vs hh h => by
  unfold o148_9400_in at h; split at h
  · rw [binom_Offset_l9_unf] at h; unfold binom_Offset_l9_B at h; rw [← binom_Offset_l9_L_eq K NR] at h; exact h
  · cases h

theorem p148_14000 : PieceOk (V 148) q148 o148 148 0 (3985, 0, c148_14000) := .s (size := 51) (ss := [0, 6, 7, 8, 9, 10]) (F := @o148_14000_in) (by kernel_rfl) fun R r K vs hh h => by
  unfold o148_14000_in at h; split at h
  · rw [binom_Offset_j14_unf] at h; exact Eq.trans (by kernel_rfl) h
  · cases h

theorem pc148 : ∀ x ∈ [(3998, 0, c148_4000), (3990, 1, c148_9400), (3985, 0, c148_14000)], PieceOk (V 148) q148 o148 148 0 x := List.forall_mem_cons.2 ⟨p148_4000, List.forall_mem_cons.2 ⟨p148_9400, List.forall_mem_cons.2 ⟨p148_14000, fun _ h => nomatch h⟩⟩⟩

noncomputable def sp148 : Ev.Spec := fun args _ K => match args with
 | ([Au v0, Ai v1]) => binom_Offset v0 v1 (fun v2 v3 => K (AV.tup [Ai v2, Au v3]))
 | _ => none
noncomputable def S148 := addS 148 sp148 S177
theorem D20 : Dom B0 V S148 T178 20 := Dom.s (m := 19) (n := 0) D19 D19 (O := o148) (OrcOk.fn (fn0 := Tryz.f148) (by kernel_rfl) (by kernel_rfl) pc148) fun args R K r h => by
 unfold sp148 at h; split at h
 · rw [binom_Offset_unf] at h; exact Eq.trans (by kernel_rfl) h
 · cases h

noncomputable def sp102 : Ev.Spec := fun args _ K => match args with
 | ([Au v0]) => rrr_blockOf v0 (fun v1 v2 => K (AV.agg (Blk.any [Ai v1, Au v2])))
 | _ => none
noncomputable def S102 := addS 102 sp102 S148
theorem D21 : Dom B0 V S102 T178 21 := Dom.s (m := 20) (n := 0) D20 D20 (O := (fun _ => none)) (fun _ _ _ _ => OrcOk.none _ _) fun args R K r h => by
 unfold sp102 at h; split at h
 · rw [rrr_blockOf_unf] at h; exact Eq.trans (by kernel_rfl) h
 · cases h

noncomputable def o151_4000_in {R : Type} (K : Ex → St → Option R) (vs : List AV) (hh : H) : Option R := match vs, hh with
 | [Ai v0, Ai v1], [] => binom_Choose_j4 v0 v1 (fun v2 => K (Ex.ret) (St.mk (spread 33 0 [4] [Au v2]) []))
 | _, _ => none

noncomputable def o151_6400_in {R : Type} (K : Ex → St → Option R) (vs : List AV) (hh : H) : Option R := match vs, hh with
 | [Ai v0, Ap 0 0, Ai v1, Ai v2], [HU v3] => binom_Choose_l6 v0 v1 v2 v3 (fun v4 v5 => K (Ex.exit 0) (St.mk (spread 33 0 [1, 5] [Ai v4, Ap 0 0]) [HU v5]))
 | _, _ => none

noncomputable def o151 : Nat → Option PSpec := lkN [(4000, fun st _ K => pickM 33 [0, 1] st (o151_4000_in K)), (6400, fun st _ K => pickM 33 [1, 5, 23, 24] st (o151_6400_in K))]
noncomputable def q151 : CallF := evFun (V 151) S102 T178 10

noncomputable def c151_4000 : Code := subC [1, 1] (bodyOf Tryz.f151)

noncomputable def c151_6400 : Code := subC [1, 1, 1, 0, 1, 0, 0] (bodyOf Tryz.f151)

noncomputable def lp151_6400 {R : Type} (N : Nat) (st : St) (K : Ex → St → Option R) : Option R := evLoop (norm ((V 151).keep 151 (Ev.keyOf c151_6400 * 1000 + 400)) 0) (evCode (V 151) q151 o151 151 0 3993 c151_6400) N st (kOut (V 151) 151 0 (Ev.keyOf c151_6400 * 1000 + 401) K)

theorem binom_Choose_l6_L_eq {R : Type} (K : Ex → St → Option R) : ∀ N : Nat, (fun (v0 v1 v2 : Int) (v3 : List Int) => lp151_6400 N (St.mk (spread 33 0 [1, 5, 23, 24] [Ai v0, Ap 0 0, Ai v1, Ai v2]) [HU v3]) K) = binom_Choose_l6_L (fun v4 v5 => K (Ex.exit 0) (St.mk (spread 33 0 [1, 5] [Ai v4, Ap 0 0]) [HU v5])) N
  | 0 => by funext v0 v1 v2 v3; rfl
  | N + 1 => by
    funext v0 v1 v2 v3
    simp only [binom_Choose_l6_L]
    rw [← binom_Choose_l6_L_eq K N]
    kernel_rfl

theorem p151_4000 : PieceOk (V 151) q151 o151 151 0 (3998, 0, c151_4000) := .s (size := 33) (ss := [0, 1]) (F := @o151_4000_in) (by kernel_rfl) fun R r K vs hh h => by
  unfold o151_4000_in at h; split at h
  · rw [binom_Choose_j4_unf] at h; exact Eq.trans (by kernel_rfl) h
  · cases h

theorem p151_6400 : PieceOk (V 151) q151 o151 151 0 (3993, 1, c151_6400) := .l (size := 33) (ss := [1, 5, 23, 24]) (F := @o151_6400_in) (by kernel_rfl) (by kernel_rfl) fun R r K vs hh h => by
  unfold o151_6400_in at h; split at h
  · rw [binom_Choose_l6_unf] at h; unfold binom_Choose_l6_B at h; rw [← binom_Choose_l6_L_eq K NR] at h; exact h
  · cases h

theorem pc151 : ∀ x ∈ [(3998, 0, c151_4000), (3993, 1, c151_6400)], PieceOk (V 151) q151 o151 151 0 x := List.forall_mem_cons.2 ⟨p151_4000, List.forall_mem_cons.2 ⟨p151_6400, fun _ h => nomatch h⟩⟩

noncomputable def sp151 : Ev.Spec := fun args _ K => match args with
 | ([Ai v0, Ai v1]) => binom_Choose v0 v1 (fun v2 => K (Au v2))
 | _ => none
noncomputable def S151 := addS 151 sp151 S102
theorem D22 : Dom B0 V S151 T178 22 := Dom.s (m := 21) (n := 0) D21 D21 (O := o151) (OrcOk.fn (fn0 := Tryz.f151) (by kernel_rfl) (by kernel_rfl) pc151) fun args R K r h => by
 unfold sp151 at h; split at h
 · rw [binom_Choose_unf] at h; exact Eq.trans (by kernel_rfl) h
 · cases h

noncomputable def sp105 : Ev.Spec := fun args _ K => match args with
 | ([Ai v0, Ai v1]) => binom_Width v0 v1 (fun v2 => K (Ai v2))
 | _ => none
noncomputable def S105 := addS 105 sp105 S151
theorem D23 : Dom B0 V S105 T178 23 := Dom.s (m := 22) (n := 0) D22 D22 (O := (fun _ => none)) (fun _ _ _ _ => OrcOk.none _ _) fun args R K r h => by
 unfold sp105 at h; split at h
 · rw [binom_Width_unf] at h; exact Eq.trans (by kernel_rfl) h
 · cases h

noncomputable def o51_5000_in {R : Type} (K : Ex → St → Option R) (vs : List AV) (hh : H) : Option R := match vs, hh with
 | [Ap 0 0, Ap 1 0, Ap 2 0], [HA [Ai v0, Fu v1], HA [Ai v2, Ai v3, Ai v4, Ai v5, AV.esl, Ai v6, AV.esl, AV.esl, AV.esl], HA [Ai v7, Ai v8, Ai v9, Ai va, AV.esl, Ai vb, AV.esl, AV.esl, AV.esl]] => rrr_Build_j5 v0 v1 v2 v3 v4 v5 v6 v7 v8 v9 va vb (fun vc vd ve vf vg vh vi vj vk vl vm vn => K (Ex.ret) (St.mk (spread 94 0 [2, 3] [Ap 0 0, Ai vc]) [HA [Ai vd, Ai ve, Ai vf, Ai vg, Fu vh, Ai vi, Fu vj, AV.sl 1 0 vk 1, AV.sl 2 0 vl 1], HB.live (Blk.ints .i64 vm), HB.live (Blk.ints .i64 vn)]))
 | _, _ => none

noncomputable def o51_8400_in {R : Type} (K : Ex → St → Option R) (vs : List AV) (hh : H) : Option R := match vs, hh with
 | [Ap 0 0, Ap 1 0, Ap 2 0, AV.sl 5 0 v0 1, Ai v1, Ai v2], [HA [Ai v3, Fu v4], HA [Ai v5, Ai v6, Ai v7, Ai v8, AV.esl, Ai v9, AV.esl, AV.esl, AV.esl], HA [Ai va, Ai vb, Ai vc, Ai vd, AV.esl, Ai ve, Fu vf, AV.sl 3 0 vg 1, AV.sl 4 0 vh 1], HB.live (Blk.ints .i64 vi), HB.live (Blk.ints .i64 vj), HU vk] => rrr_Build_l8 v0 v1 v2 v3 v4 v5 v6 v7 v8 v9 va vb vc vd ve vf vg vh vi vj vk (fun vl vm vn vo vp vq vr vs vt vu vv vw vx vy vz v10 v11 => K (Ex.exit 0) (St.mk (spread 94 0 [2, 4, 5] [Ap 0 0, Ap 1 0, AV.sl 4 0 vl 1]) [HA [Ai vm, Ai vn, Ai vo, Ai vp, AV.esl, Ai vq, AV.esl, AV.esl, AV.esl], HA [Ai vr, Ai vs, Ai vt, Ai vu, AV.esl, Ai vv, Fu vw, AV.sl 2 0 vx 1, AV.sl 3 0 vy 1], HB.live (Blk.ints .i64 vz), HB.live (Blk.ints .i64 v10), HU v11]))
 | _, _ => none

noncomputable def o51_10000_in {R : Type} (K : Ex → St → Option R) (vs : List AV) (hh : H) : Option R := match vs, hh with
 | [Ap 0 0, Ap 1 0, Ap 2 0, AV.sl 5 0 v0 1, Ai v1, Ai v2], [HA [Ai v3, Fu v4], HA [Ai v5, Ai v6, Ai v7, Ai v8, AV.esl, Ai v9, AV.esl, AV.esl, AV.esl], HA [Ai va, Ai vb, Ai vc, Ai vd, AV.esl, Ai ve, Fu vf, AV.sl 3 0 vg 1, AV.sl 4 0 vh 1], HB.live (Blk.ints .i64 vi), HB.live (Blk.ints .i64 vj), HU vk] => rrr_Build_j10 v0 v1 v2 v3 v4 v5 v6 v7 v8 v9 va vb vc vd ve vf vg vh vi vj vk (fun vl vm vn vo vp vq vr vs vt vu vv vw vx vy vz v10 v11 => K (Ex.exit 0) (St.mk (spread 94 0 [2, 4, 5] [Ap 0 0, Ap 1 0, AV.sl 4 0 vl 1]) [HA [Ai vm, Ai vn, Ai vo, Ai vp, AV.esl, Ai vq, AV.esl, AV.esl, AV.esl], HA [Ai vr, Ai vs, Ai vt, Ai vu, AV.esl, Ai vv, Fu vw, AV.sl 2 0 vx 1, AV.sl 3 0 vy 1], HB.live (Blk.ints .i64 vz), HB.live (Blk.ints .i64 v10), HU v11])) (fun vl vm vn vo vp vq vr vs vt vu vv vw vx vy vz v10 v11 v12 v13 v14 v15 => K (Ex.normal) (St.mk (spread 94 0 [1, 2, 4, 5, 6, 7] [Ap 0 0, Ap 1 0, Ap 2 0, AV.sl 5 0 vl 1, Ai vm, Ai vn]) [HA [Ai vo, Fu vp], HA [Ai vq, Ai vr, Ai vs, Ai vt, AV.esl, Ai vu, AV.esl, AV.esl, AV.esl], HA [Ai vv, Ai vw, Ai vx, Ai vy, AV.esl, Ai vz, Fu v10, AV.sl 3 0 v11 1, AV.sl 4 0 v12 1], HB.live (Blk.ints .i64 v13), HB.live (Blk.ints .i64 v14), HU v15]))
 | _, _ => none

noncomputable def o51_12000_in {R : Type} (K : Ex → St → Option R) (vs : List AV) (hh : H) : Option R := match vs, hh with
 | [Ap 0 0, Ap 1 0, Ap 2 0, AV.sl 5 0 v0 1, Ai v1, Ai v2], [HA [Ai v3, Fu v4], HA [Ai v5, Ai v6, Ai v7, Ai v8, AV.esl, Ai v9, AV.esl, AV.esl, AV.esl], HA [Ai va, Ai vb, Ai vc, Ai vd, AV.esl, Ai ve, Fu vf, AV.sl 3 0 vg 1, AV.sl 4 0 vh 1], HB.live (Blk.ints .i64 vi), HB.live (Blk.ints .i64 vj), HU vk] => rrr_Build_j12 v0 v1 v2 v3 v4 v5 v6 v7 v8 v9 va vb vc vd ve vf vg vh vi vj vk (fun vl vm vn vo vp vq vr vs vt vu vv vw vx vy vz v10 v11 => K (Ex.exit 0) (St.mk (spread 94 0 [2, 4, 5] [Ap 0 0, Ap 1 0, AV.sl 4 0 vl 1]) [HA [Ai vm, Ai vn, Ai vo, Ai vp, AV.esl, Ai vq, AV.esl, AV.esl, AV.esl], HA [Ai vr, Ai vs, Ai vt, Ai vu, AV.esl, Ai vv, Fu vw, AV.sl 2 0 vx 1, AV.sl 3 0 vy 1], HB.live (Blk.ints .i64 vz), HB.live (Blk.ints .i64 v10), HU v11])) (fun vl vm vn vo vp vq vr vs vt vu vv vw vx vy vz v10 v11 v12 v13 v14 v15 => K (Ex.normal) (St.mk (spread 94 0 [1, 2, 4, 5, 6, 7] [Ap 0 0, Ap 1 0, Ap 2 0, AV.sl 5 0 vl 1, Ai vm, Ai vn]) [HA [Ai vo, Fu vp], HA [Ai vq, Ai vr, Ai vs, Ai vt, AV.esl, Ai vu, AV.esl, AV.esl, AV.esl], HA [Ai vv, Ai vw, Ai vx, Ai vy, AV.esl, Ai vz, Fu v10, AV.sl 3 0 v11 1, AV.sl 4 0 v12 1], HB.live (Blk.ints .i64 v13), HB.live (Blk.ints .i64 v14), HU v15]))
 | _, _ => none

noncomputable def o51_18000_in {R : Type} (K : Ex → St → Option R) (vs : List AV) (hh : H) : Option R := match vs, hh with
 | [Ap 0 0, Ap 1 0, Ap 2 0, AV.sl 5 0 v0 1, Ai v1, Ai v2, Ap 6 0], [HA [Ai v3, Fu v4], HA [Ai v5, Ai v6, Ai v7, Ai v8, AV.esl, Ai v9, AV.esl, AV.esl, AV.esl], HA [Ai va, Ai vb, Ai vc, Ai vd, AV.esl, Ai ve, Fu vf, AV.sl 3 0 vg 1, AV.sl 4 0 vh 1], HB.live (Blk.ints .i64 vi), HB.live (Blk.ints .i64 vj), HU vk, HA [Ai vl, Au vm]] => rrr_Build_j18 v0 v1 v2 v3 v4 v5 v6 v7 v8 v9 va vb vc vd ve vf vg vh vi vj vk vl vm (fun vn vo vp vq vr vs vt vu vv vw vx vy vz v10 v11 v12 v13 v14 v15 v16 v17 => K (Ex.normal) (St.mk (spread 94 0 [1, 2, 4, 5, 6, 7] [Ap 0 0, Ap 1 0, Ap 2 0, AV.sl 5 0 vn 1, Ai vo, Ai vp]) [HA [Ai vq, Fu vr], HA [Ai vs, Ai vt, Ai vu, Ai vv, AV.esl, Ai vw, AV.esl, AV.esl, AV.esl], HA [Ai vx, Ai vy, Ai vz, Ai v10, AV.esl, Ai v11, Fu v12, AV.sl 3 0 v13 1, AV.sl 4 0 v14 1], HB.live (Blk.ints .i64 v15), HB.live (Blk.ints .i64 v16), HU v17]))
 | _, _ => none

noncomputable def o51 : Nat → Option PSpec := lkN [(5000, fun st _ K => pickM 94 [1, 2, 4] st (o51_5000_in K)), (8400, fun st _ K => pickM 94 [1, 2, 4, 5, 6, 7] st (o51_8400_in K)), (10000, fun st _ K => pickM 94 [1, 2, 4, 5, 6, 7] st (o51_10000_in K)), (12000, fun st _ K => pickM 94 [1, 2, 4, 5, 6, 7] st (o51_12000_in K)), (18000, fun st _ K => pickM 94 [1, 2, 4, 5, 6, 7, 10] st (o51_18000_in K))]
noncomputable def q51 : CallF := evFun (V 51) S105 T178 10

noncomputable def c51_5000 : Code := subC [1, 1, 1] (bodyOf Tryz.f51)

noncomputable def c51_8400 : Code := subC [1, 1, 1, 1, 1, 0, 1, 0, 0] (bodyOf Tryz.f51)

noncomputable def lp51_8400 {R : Type} (N : Nat) (st : St) (K : Ex → St → Option R) : Option R := evLoop (norm ((V 51).keep 51 (Ev.keyOf c51_8400 * 1000 + 400)) 0) (evCode (V 51) q51 o51 51 0 3991 c51_8400) N st (kOut (V 51) 51 0 (Ev.keyOf c51_8400 * 1000 + 401) K)

noncomputable def c51_10000 : Code := subC [1, 1, 1, 1, 1, 0, 1, 0, 0, 1] (bodyOf Tryz.f51)

noncomputable def c51_12000 : Code := subC [1, 1, 1, 1, 1, 0, 1, 0, 0, 1, 0, 0, 1] (bodyOf Tryz.f51)

noncomputable def c51_18000 : Code := subC [1, 1, 1, 1, 1, 0, 1, 0, 0, 1, 0, 0, 1, 1, 1, 1, 1, 1] (bodyOf Tryz.f51)

theorem rrr_Build_l8_L_eq {R : Type} (K : Ex → St → Option R) : ∀ N : Nat, (fun (v0 : Nat) (v1 v2 v3 : Int) (v4 : List Int) (v5 v6 v7 v8 v9 va vb vc vd ve : Int) (vf : List Int) (vg vh : Nat) (vi vj vk : List Int) => lp51_8400 N (St.mk (spread 94 0 [1, 2, 4, 5, 6, 7] [Ap 0 0, Ap 1 0, Ap 2 0, AV.sl 5 0 v0 1, Ai v1, Ai v2]) [HA [Ai v3, Fu v4], HA [Ai v5, Ai v6, Ai v7, Ai v8, AV.esl, Ai v9, AV.esl, AV.esl, AV.esl], HA [Ai va, Ai vb, Ai vc, Ai vd, AV.esl, Ai ve, Fu vf, AV.sl 3 0 vg 1, AV.sl 4 0 vh 1], HB.live (Blk.ints .i64 vi), HB.live (Blk.ints .i64 vj), HU vk]) K) = rrr_Build_l8_L (fun vl vm vn vo vp vq vr vs vt vu vv vw vx vy vz v10 v11 => K (Ex.exit 0) (St.mk (spread 94 0 [2, 4, 5] [Ap 0 0, Ap 1 0, AV.sl 4 0 vl 1]) [HA [Ai vm, Ai vn, Ai vo, Ai vp, AV.esl, Ai vq, AV.esl, AV.esl, AV.esl], HA [Ai vr, Ai vs, Ai vt, Ai vu, AV.esl, Ai vv, Fu vw, AV.sl 2 0 vx 1, AV.sl 3 0 vy 1], HB.live (Blk.ints .i64 vz), HB.live (Blk.ints .i64 v10), HU v11])) N
  | 0 => by funext v0 v1 v2 v3 v4 v5 v6 v7 v8 v9 va vb vc vd ve vf vg vh vi vj vk; rfl
  | N + 1 => by
    funext v0 v1 v2 v3 v4 v5 v6 v7 v8 v9 va vb vc vd ve vf vg vh vi vj vk
    simp only [rrr_Build_l8_L]
    rw [← rrr_Build_l8_L_eq K N]
    kernel_rfl

theorem rrr_Build_j12_eq {R : Type} (K : Ex → St → Option R) (v0 : Nat) (v1 v2 v3 : Int) (v4 : List Int) (v5 v6 v7 v8 v9 va vb vc vd ve : Int) (vf : List Int) (vg vh : Nat) (vi vj vk : List Int) : evCode (V 51) q51 o51 51 0 3987 c51_12000 (St.mk (spread 94 0 [1, 2, 4, 5, 6, 7] [Ap 0 0, Ap 1 0, Ap 2 0, AV.sl 5 0 v0 1, Ai v1, Ai v2]) [HA [Ai v3, Fu v4], HA [Ai v5, Ai v6, Ai v7, Ai v8, AV.esl, Ai v9, AV.esl, AV.esl, AV.esl], HA [Ai va, Ai vb, Ai vc, Ai vd, AV.esl, Ai ve, Fu vf, AV.sl 3 0 vg 1, AV.sl 4 0 vh 1], HB.live (Blk.ints .i64 vi), HB.live (Blk.ints .i64 vj), HU vk]) (kOut (V 51) 51 0 (Ev.keyOf c51_12000 * 1000 + 1) K) = rrr_Build_j12_B v0 v1 v2 v3 v4 v5 v6 v7 v8 v9 va vb vc vd ve vf vg vh vi vj vk (fun vl vm vn vo vp vq vr vs vt vu vv vw vx vy vz v10 v11 => K (Ex.exit 0) (St.mk (spread 94 0 [2, 4, 5] [Ap 0 0, Ap 1 0, AV.sl 4 0 vl 1]) [HA [Ai vm, Ai vn, Ai vo, Ai vp, AV.esl, Ai vq, AV.esl, AV.esl, AV.esl], HA [Ai vr, Ai vs, Ai vt, Ai vu, AV.esl, Ai vv, Fu vw, AV.sl 2 0 vx 1, AV.sl 3 0 vy 1], HB.live (Blk.ints .i64 vz), HB.live (Blk.ints .i64 v10), HU v11])) (fun vl vm vn vo vp vq vr vs vt vu vv vw vx vy vz v10 v11 v12 v13 v14 v15 => K (Ex.normal) (St.mk (spread 94 0 [1, 2, 4, 5, 6, 7] [Ap 0 0, Ap 1 0, Ap 2 0, AV.sl 5 0 vl 1, Ai vm, Ai vn]) [HA [Ai vo, Fu vp], HA [Ai vq, Ai vr, Ai vs, Ai vt, AV.esl, Ai vu, AV.esl, AV.esl, AV.esl], HA [Ai vv, Ai vw, Ai vx, Ai vy, AV.esl, Ai vz, Fu v10, AV.sl 3 0 v11 1, AV.sl 4 0 v12 1], HB.live (Blk.ints .i64 v13), HB.live (Blk.ints .i64 v14), HU v15])) := by kernel_rfl

theorem rrr_Build_j10_eq {R : Type} (K : Ex → St → Option R) (v0 : Nat) (v1 v2 v3 : Int) (v4 : List Int) (v5 v6 v7 v8 v9 va vb vc vd ve : Int) (vf : List Int) (vg vh : Nat) (vi vj vk : List Int) : evCode (V 51) q51 o51 51 0 3990 c51_10000 (St.mk (spread 94 0 [1, 2, 4, 5, 6, 7] [Ap 0 0, Ap 1 0, Ap 2 0, AV.sl 5 0 v0 1, Ai v1, Ai v2]) [HA [Ai v3, Fu v4], HA [Ai v5, Ai v6, Ai v7, Ai v8, AV.esl, Ai v9, AV.esl, AV.esl, AV.esl], HA [Ai va, Ai vb, Ai vc, Ai vd, AV.esl, Ai ve, Fu vf, AV.sl 3 0 vg 1, AV.sl 4 0 vh 1], HB.live (Blk.ints .i64 vi), HB.live (Blk.ints .i64 vj), HU vk]) (kOut (V 51) 51 0 (Ev.keyOf c51_10000 * 1000 + 1) K) = rrr_Build_j10_B v0 v1 v2 v3 v4 v5 v6 v7 v8 v9 va vb vc vd ve vf vg vh vi vj vk (fun vl vm vn vo vp vq vr vs vt vu vv vw vx vy vz v10 v11 => K (Ex.exit 0) (St.mk (spread 94 0 [2, 4, 5] [Ap 0 0, Ap 1 0, AV.sl 4 0 vl 1]) [HA [Ai vm, Ai vn, Ai vo, Ai vp, AV.esl, Ai vq, AV.esl, AV.esl, AV.esl], HA [Ai vr, Ai vs, Ai vt, Ai vu, AV.esl, Ai vv, Fu vw, AV.sl 2 0 vx 1, AV.sl 3 0 vy 1], HB.live (Blk.ints .i64 vz), HB.live (Blk.ints .i64 v10), HU v11])) (fun vl vm vn vo vp vq vr vs vt vu vv vw vx vy vz v10 v11 v12 v13 v14 v15 => K (Ex.normal) (St.mk (spread 94 0 [1, 2, 4, 5, 6, 7] [Ap 0 0, Ap 1 0, Ap 2 0, AV.sl 5 0 vl 1, Ai vm, Ai vn]) [HA [Ai vo, Fu vp], HA [Ai vq, Ai vr, Ai vs, Ai vt, AV.esl, Ai vu, AV.esl, AV.esl, AV.esl], HA [Ai vv, Ai vw, Ai vx, Ai vy, AV.esl, Ai vz, Fu v10, AV.sl 3 0 v11 1, AV.sl 4 0 v12 1], HB.live (Blk.ints .i64 v13), HB.live (Blk.ints .i64 v14), HU v15])) := by kernel_rfl

theorem p51_5000 : PieceOk (V 51) q51 o51 51 0 (3997, 0, c51_5000) := .s (size := 94) (ss := [1, 2, 4]) (F := @o51_5000_in) (by kernel_rfl) fun R r K vs hh h => by
  unfold o51_5000_in at h; split at h
  · rw [rrr_Build_j5_unf] at h; exact Eq.trans (by kernel_rfl) h
  · cases h

theorem p51_8400 : PieceOk (V 51) q51 o51 51 0 (3991, 1, c51_8400) := .l (size := 94) (ss := [1, 2, 4, 5, 6, 7]) (F := @o51_8400_in) (by kernel_rfl) (by kernel_rfl) fun R r K vs hh h => by
  unfold o51_8400_in at h; split at h
  · rw [rrr_Build_l8_unf] at h; unfold rrr_Build_l8_B at h; rw [← rrr_Build_l8_L_eq K NR] at h; exact h
  · cases h

theorem p51_10000 : PieceOk (V 51) q51 o51 51 0 (3990, 0, c51_10000) := .s (size := 94) (ss := [1, 2, 4, 5, 6, 7]) (F := @o51_10000_in) (by kernel_rfl) fun R r K vs hh h => by
  unfold o51_10000_in at h; split at h
  · rw [rrr_Build_j10_unf] at h; exact (rrr_Build_j10_eq K _ _ _ _ _ _ _ _ _ _ _ _ _ _ _ _ _ _ _ _ _).trans h
  · cases h

theorem p51_12000 : PieceOk (V 51) q51 o51 51 0 (3987, 0, c51_12000) := .s (size := 94) (ss := [1, 2, 4, 5, 6, 7]) (F := @o51_12000_in) (by kernel_rfl) fun R r K vs hh h => by
  unfold o51_12000_in at h; split at h
  · rw [rrr_Build_j12_unf] at h; exact (rrr_Build_j12_eq K _ _ _ _ _ _ _ _ _ _ _ _ _ _ _ _ _ _ _ _ _).trans h
  · cases h

theorem p51_18000 : PieceOk (V 51) q51 o51 51 0 (3982, 0, c51_18000) := .s (size := 94) (ss := [1, 2, 4, 5, 6, 7, 10]) (F := @o51_18000_in) (by kernel_rfl) fun R r K vs hh h => by
  unfold o51_18000_in at h; split at h
  · rw [rrr_Build_j18_unf] at h; exact Eq.trans (by kernel_rfl) h
  · cases h

theorem pc51 : ∀ x ∈ [(3997, 0, c51_5000), (3991, 1, c51_8400), (3990, 0, c51_10000), (3987, 0, c51_12000), (3982, 0, c51_18000)], PieceOk (V 51) q51 o51 51 0 x := List.forall_mem_cons.2 ⟨p51_5000, List.forall_mem_cons.2 ⟨p51_8400, List.forall_mem_cons.2 ⟨p51_10000, List.forall_mem_cons.2 ⟨p51_12000, List.forall_mem_cons.2 ⟨p51_18000, fun _ h => nomatch h⟩⟩⟩⟩⟩

noncomputable def sp51 : Ev.Spec := fun args _ K => match args with
 | ([AV.agg (Blk.any [Ai v0, Fu v1])]) => rrr_Build v0 v1 (fun v2 v3 v4 v5 v6 v7 v8 v9 va vb => K (AV.tup [AV.agg (Blk.any [Ai v2, Ai v3, Ai v4, Ai v5, Fu v6, Ai v7, Fu v8, AV.fsl (Blk.ints .i64 v9), AV.fsl (Blk.ints .i64 va)]), Ai vb]))
 | _ => none
noncomputable def S51 := addS 51 sp51 S105
theorem D24 : Dom B0 V S51 T178 24 := Dom.s (m := 23) (n := 0) D23 D23 (O := o51) (OrcOk.fn (fn0 := Tryz.f51) (by kernel_rfl) (by kernel_rfl) pc51) fun args R K r h => by
 unfold sp51 at h; split at h
 · rw [rrr_Build_unf] at h; exact Eq.trans (by kernel_rfl) h
 · cases h

noncomputable def sp140 : Ev.Spec := fun args _ K => match args with
 | ([Au v0, Ai v1]) => word_Rank v0 v1 (fun v2 => K (Ai v2))
 | _ => none
noncomputable def S140 := addS 140 sp140 S51
theorem D25 : Dom B0 V S140 T178 25 := Dom.s (m := 24) (n := 0) D24 D24 (O := (fun _ => none)) (fun _ _ _ _ => OrcOk.none _ _) fun args R K r h => by
 unfold sp140 at h; split at h
 · rw [word_Rank_unf] at h; exact Eq.trans (by kernel_rfl) h
 · cases h

noncomputable def o89_7400_in {R : Type} (K : Ex → St → Option R) (vs : List AV) (hh : H) : Option R := match vs, hh with
 | [Ai v0, Ap 0 0, Ai v1, Fu v2, Ai v3, Ai v4], [HA [Ai v5, Fu v6]] => bits_Ones_l7 v0 v1 v2 v3 v4 v5 v6 (fun v7 v8 v9 va => K (Ex.exit 0) (St.mk (spread 46 0 [1, 2, 5] [Ai v7, Ap 0 0, Ai v8]) [HA [Ai v9, Fu va]]))
 | _, _ => none

noncomputable def o89 : Nat → Option PSpec := lkN [(7400, fun st _ K => pickM 46 [1, 2, 5, 20, 21, 22] st (o89_7400_in K))]
noncomputable def q89 : CallF := evFun (V 89) S140 T178 10

noncomputable def c89_7400 : Code := subC [1, 1, 1, 1, 0, 1, 0, 0] (bodyOf Tryz.f89)

noncomputable def lp89_7400 {R : Type} (N : Nat) (st : St) (K : Ex → St → Option R) : Option R := evLoop (norm ((V 89).keep 89 (Ev.keyOf c89_7400 * 1000 + 400)) 0) (evCode (V 89) q89 o89 89 0 3992 c89_7400) N st (kOut (V 89) 89 0 (Ev.keyOf c89_7400 * 1000 + 401) K)

theorem bits_Ones_l7_L_eq {R : Type} (K : Ex → St → Option R) : ∀ N : Nat, (fun (v0 v1 : Int) (v2 : List Int) (v3 v4 v5 : Int) (v6 : List Int) => lp89_7400 N (St.mk (spread 46 0 [1, 2, 5, 20, 21, 22] [Ai v0, Ap 0 0, Ai v1, Fu v2, Ai v3, Ai v4]) [HA [Ai v5, Fu v6]]) K) = bits_Ones_l7_L (fun v7 v8 v9 va => K (Ex.exit 0) (St.mk (spread 46 0 [1, 2, 5] [Ai v7, Ap 0 0, Ai v8]) [HA [Ai v9, Fu va]])) N
  | 0 => by funext v0 v1 v2 v3 v4 v5 v6; rfl
  | N + 1 => by
    funext v0 v1 v2 v3 v4 v5 v6
    simp only [bits_Ones_l7_L]
    rw [← bits_Ones_l7_L_eq K N]
    kernel_rfl

theorem p89_7400 : PieceOk (V 89) q89 o89 89 0 (3992, 1, c89_7400) := .l (size := 46) (ss := [1, 2, 5, 20, 21, 22]) (F := @o89_7400_in) (by kernel_rfl) (by kernel_rfl) fun R r K vs hh h => by
  unfold o89_7400_in at h; split at h
  · rw [bits_Ones_l7_unf] at h; unfold bits_Ones_l7_B at h; rw [← bits_Ones_l7_L_eq K NR] at h; exact h
  · cases h

theorem pc89 : ∀ x ∈ [(3992, 1, c89_7400)], PieceOk (V 89) q89 o89 89 0 x := List.forall_mem_cons.2 ⟨p89_7400, fun _ h => nomatch h⟩

noncomputable def sp89 : Ev.Spec := fun args _ K => match args with
 | ([AV.agg (Blk.any [Ai v0, Fu v1]), Ai v2]) => bits_Ones v0 v1 v2 (fun v3 => K (Ai v3))
 | _ => none
noncomputable def S89 := addS 89 sp89 S140
theorem D26 : Dom B0 V S89 T178 26 := Dom.s (m := 25) (n := 0) D25 D25 (O := o89) (OrcOk.fn (fn0 := Tryz.f89) (by kernel_rfl) (by kernel_rfl) pc89) fun args R K r h => by
 unfold sp89 at h; split at h
 · rw [bits_Ones_unf] at h; exact Eq.trans (by kernel_rfl) h
 · cases h

noncomputable def sp107 : Ev.Spec := fun args _ K => match args with
 | ([Ai v0, Ai v1]) => fano_width v0 v1 (fun v2 => K (Ai v2))
 | _ => none
noncomputable def S107 := addS 107 sp107 S89
theorem D27 : Dom B0 V S107 T178 27 := Dom.s (m := 26) (n := 0) D26 D26 (O := (fun _ => none)) (fun _ _ _ _ => OrcOk.none _ _) fun args R K r h => by
 unfold sp107 at h; split at h
 · rw [fano_width_unf] at h; exact Eq.trans (by kernel_rfl) h
 · cases h

noncomputable def hs108 : HSpec := fun args h _ K => match args, h with
 | [AV.agg (Blk.any [Ai v0, Fu v1])], [] => fano_eachOne_r v0 v1 (fun v2 v3 => K (AV.fn 154 [Ap 0 0]) ([HA [Ai v2, Fu v3]]))
 | _, _ => none
noncomputable def T108 := addT 108 hs108 T178
theorem D28 : Dom B0 V S107 T108 28 := Dom.t D27 fun args hh R K r h => by
 unfold hs108 at h; split at h
 · rw [fano_eachOne_r_unf] at h; exact ⟨(fun _ => none), (fun _ _ _ _ => OrcOk.none _ _), Eq.trans (by kernel_rfl) h⟩
 · cases h

noncomputable def sp157 : Ev.Spec := fun args _ K => match args with
 | ([Au v0]) => math_bits_TrailingZeros64 v0 (fun v1 => K (Ai v1))
 | _ => none
noncomputable def S157 := addS 157 sp157 S107
theorem D29 : Dom B0 V S157 T108 29 := Dom.s (m := 28) (n := 0) D28 D28 (O := (fun _ => none)) (fun _ _ _ _ => OrcOk.none _ _) fun args R K r h => by
 unfold sp157 at h; split at h
 · rw [math_bits_TrailingZeros64_unf] at h; exact Eq.trans (by kernel_rfl) h
 · cases h

noncomputable def o116_4000_in {R : Type} (K : Ex → St → Option R) (vs : List AV) (hh : H) : Option R := match vs, hh with
 | [Au v0, Ai v1], [] => word_Select_j4 v0 v1 (fun v2 => K (Ex.ret) (St.mk (spread 23 0 [4] [Ai v2]) []))
 | _, _ => none

noncomputable def o116_5400_in {R : Type} (K : Ex → St → Option R) (vs : List AV) (hh : H) : Option R := match vs, hh with
 | [Au v0, Ai v1, Ai v2], [] => word_Select_l5 v0 v1 v2 (fun v3 => K (Ex.exit 0) (St.mk (spread 23 0 [0] [Au v3]) []))
 | _, _ => none

noncomputable def o116 : Nat → Option PSpec := lkN [(4000, fun st _ K => pickM 23 [0, 1] st (o116_4000_in K)), (5400, fun st _ K => pickM 23 [0, 13, 14] st (o116_5400_in K))]
noncomputable def q116 : CallF := evFun (V 116) S157 T108 10

noncomputable def c116_4000 : Code := subC [1, 1] (bodyOf Tryz.f116)

noncomputable def c116_5400 : Code := subC [1, 1, 0, 1, 0, 0] (bodyOf Tryz.f116)

noncomputable def lp116_5400 {R : Type} (N : Nat) (st : St) (K : Ex → St → Option R) : Option R := evLoop (norm ((V 116).keep 116 (Ev.keyOf c116_5400 * 1000 + 400)) 0) (evCode (V 116) q116 o116 116 0 3994 c116_5400) N st (kOut (V 116) 116 0 (Ev.keyOf c116_5400 * 1000 + 401) K)

theorem word_Select_l5_L_eq {R : Type} (K : Ex → St → Option R) : ∀ N : Nat, (fun (v0 v1 v2 : Int) => lp116_5400 N (St.mk (spread 23 0 [0, 13, 14] [Au v0, Ai v1, Ai v2]) []) K) = word_Select_l5_L (fun v3 => K (Ex.exit 0) (St.mk (spread 23 0 [0] [Au v3]) [])) N
  | 0 => by funext v0 v1 v2; rfl
  | N + 1 => by
    funext v0 v1 v2
    simp only [word_Select_l5_L]
    rw [← word_Select_l5_L_eq K N]
    kernel_rfl

theorem p116_4000 : PieceOk (V 116) q116 o116 116 0 (3998, 0, c116_4000) := .s (size := 23) (ss := [0, 1]) (F := @o116_4000_in) (by kernel_rfl) fun R r K vs hh h => by
  unfold o116_4000_in at h; split at h
  · rw [word_Select_j4_unf] at h; exact Eq.trans (by kernel_rfl) h
  · cases h

theorem p116_5400 : PieceOk (V 116) q116 o116 116 0 (3994, 1, c116_5400) := .l (size := 23) (ss := [0, 13, 14]) (F := @o116_5400_in) (by kernel_rfl) (by kernel_rfl) fun R r K vs hh h => by
  unfold o116_5400_in at h; split at h
  · rw [word_Select_l5_unf] at h; unfold word_Select_l5_B at h; rw [← word_Select_l5_L_eq K NR] at h; exact h
  · cases h
end Go.Proofs.YtofblchonjfdbaaGreatDoor
