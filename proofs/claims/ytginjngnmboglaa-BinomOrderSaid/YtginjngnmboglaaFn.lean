/- The functions that this seat's laws reach, as plain functions, and that they are what the program does. Printed by a program of this repo (wip/Prt). -/
import Derived.Test.YtginjngnmboglaaBase
import Derived.Test.YtginjngnmboglaaEnv
import Derived.Test.YtginjngnmboglaaEvC
import Derived.KernelRfl
namespace Go.Proofs.Ytginjngnmboglaa
open Go Go.Ev
def txt__14a5d8 : ByteArray := ByteArray.mk (List.toArray (List.append (List.append [0, 1, 2, 2, 3, 3, 3, 3, 4, 4, 4, 4, 4, 4, 4, 4, 5, 5, 5, 5, 5, 5, 5, 5, 5, 5, 5, 5, 5, 5, 5, 5, 6, 6, 6, 6, 6, 6, 6, 6, 6, 6, 6, 6, 6, 6, 6, 6, 6, 6, 6, 6, 6, 6, 6, 6, 6, 6, 6, 6, 6, 6, 6, 6] [7, 7, 7, 7, 7, 7, 7, 7, 7, 7, 7, 7, 7, 7, 7, 7, 7, 7, 7, 7, 7, 7, 7, 7, 7, 7, 7, 7, 7, 7, 7, 7, 7, 7, 7, 7, 7, 7, 7, 7, 7, 7, 7, 7, 7, 7, 7, 7, 7, 7, 7, 7, 7, 7, 7, 7, 7, 7, 7, 7, 7, 7, 7, 7]) (List.append [8, 8, 8, 8, 8, 8, 8, 8, 8, 8, 8, 8, 8, 8, 8, 8, 8, 8, 8, 8, 8, 8, 8, 8, 8, 8, 8, 8, 8, 8, 8, 8, 8, 8, 8, 8, 8, 8, 8, 8, 8, 8, 8, 8, 8, 8, 8, 8, 8, 8, 8, 8, 8, 8, 8, 8, 8, 8, 8, 8, 8, 8, 8, 8] [8, 8, 8, 8, 8, 8, 8, 8, 8, 8, 8, 8, 8, 8, 8, 8, 8, 8, 8, 8, 8, 8, 8, 8, 8, 8, 8, 8, 8, 8, 8, 8, 8, 8, 8, 8, 8, 8, 8, 8, 8, 8, 8, 8, 8, 8, 8, 8, 8, 8, 8, 8, 8, 8, 8, 8, 8, 8, 8, 8, 8, 8, 8, 8])))
set_option maxRecDepth 100000


noncomputable def binom_row_next_l2_T {R : Type} (rec : Int → List Int → Option R) (n13 : Int) (xs14 : List Int) (K0 : List Int → Option R) : Option R :=
 sel (decide (0 < n13))
  (sel (decide (0 ≤ n13))
   (sel (decide (n13 < (↑63 : Int)))
    (sel (decide (Int.toNat n13 < List.length xs14))
     (sel (decide (0 ≤ subW .i64 n13 1))
      (sel (decide (subW .i64 n13 1 < (↑63 : Int)))
       (sel (decide (Int.toNat (subW .i64 n13 1) < List.length xs14))
        (sel (decide (0 ≤ n13))
         (sel (decide (n13 < (↑63 : Int)))
          (sel (decide (Int.toNat n13 < List.length xs14))
           (letV (List.set xs14 (Int.toNat n13) (addW .u64 (List.getD xs14 (Int.toNat n13) 0) (List.getD xs14 (Int.toNat (subW .i64 n13 1)) 0))) (fun (xs15 : List Int) =>
           rec (subW .i64 n13 1) (xs15)))
           (none))
          (none))
         (none))
        (none))
       (none))
      (none))
     (none))
    (none))
   (none))
  (K0 (xs14))
noncomputable def binom_row_next_l2_L {R : Type} (K0 : List Int → Option R) : Nat → Int → List Int → Option R
  | 0, _, _ => none
  | N + 1, n13, xs14 => binom_row_next_l2_T (binom_row_next_l2_L K0 N) n13 xs14 K0
noncomputable def binom_row_next_l2_B {R : Type} (n13 : Int) (xs14 : List Int) (K0 : List Int → Option R) : Option R :=
 binom_row_next_l2_L K0 NR n13 xs14
noncomputable def binom_row_next_l2 {R : Type} := shut (@binom_row_next_l2_B R)
theorem binom_row_next_l2_unf {R : Type} : @binom_row_next_l2 R = @binom_row_next_l2_B R := shut_eq _

noncomputable def binom_row_next_r_B {R : Type} (n11 : Int) (xs12 : List Int) (K0 : List Int → Option R) : Option R :=
 binom_row_next_l2 (addW .i64 n11 1) (xs12)
  (fun xs16 => K0 (xs16))
noncomputable def binom_row_next_r {R : Type} := shut (@binom_row_next_r_B R)
theorem binom_row_next_r_unf {R : Type} : @binom_row_next_r R = @binom_row_next_r_B R := shut_eq _

noncomputable def binom_Choose_l6_T {R : Type} (rec : Int → Int → Int → List Int → Option R) (n7 : Int) (n8 : Int) (n9 : Int) (xs10 : List Int) (K0 : Int → List Int → Option R) : Option R :=
 sel (decide (n9 < n8))
  (binom_row_next_r (n9) (xs10)
   (fun xs17 => rec (n7) (n8) (addW .i64 n9 1) (xs17)))
  (K0 (n7) (xs10))
noncomputable def binom_Choose_l6_L {R : Type} (K0 : Int → List Int → Option R) : Nat → Int → Int → Int → List Int → Option R
  | 0, _, _, _, _ => none
  | N + 1, n7, n8, n9, xs10 => binom_Choose_l6_T (binom_Choose_l6_L K0 N) n7 n8 n9 xs10 K0
noncomputable def binom_Choose_l6_B {R : Type} (n7 : Int) (n8 : Int) (n9 : Int) (xs10 : List Int) (K0 : Int → List Int → Option R) : Option R :=
 binom_Choose_l6_L K0 NR n7 n8 n9 xs10
noncomputable def binom_Choose_l6 {R : Type} := shut (@binom_Choose_l6_B R)
theorem binom_Choose_l6_unf {R : Type} : @binom_Choose_l6 R = @binom_Choose_l6_B R := shut_eq _

noncomputable def binom_Choose_j4_B {R : Type} (n5 : Int) (n6 : Int) (K0 : Int → Option R) : Option R :=
 binom_Choose_l6 (n6) (n5) (0) (List.take 0 (List.replicate 63 0) ++ ([1, 0, 0, 0, 0, 0, 0, 0, 0, 0, 0, 0, 0, 0, 0, 0, 0, 0, 0, 0, 0, 0, 0, 0, 0, 0, 0, 0, 0, 0, 0, 0, 0, 0, 0, 0, 0, 0, 0, 0, 0, 0, 0, 0, 0, 0, 0, 0, 0, 0, 0, 0, 0, 0, 0, 0, 0, 0, 0, 0, 0, 0, 0] ++ List.drop (0 + List.length [1, 0, 0, 0, 0, 0, 0, 0, 0, 0, 0, 0, 0, 0, 0, 0, 0, 0, 0, 0, 0, 0, 0, 0, 0, 0, 0, 0, 0, 0, 0, 0, 0, 0, 0, 0, 0, 0, 0, 0, 0, 0, 0, 0, 0, 0, 0, 0, 0, 0, 0, 0, 0, 0, 0, 0, 0, 0, 0, 0, 0, 0, 0]) (List.replicate 63 0)))
  (fun n18 xs19 => sel (decide (0 ≤ n18))
   (sel (decide (n18 < (↑63 : Int)))
    (sel (decide (Int.toNat n18 < List.length xs19))
     (K0 (List.getD xs19 (Int.toNat n18) 0))
     (none))
    (none))
   (none))
noncomputable def binom_Choose_j4 {R : Type} := shut (@binom_Choose_j4_B R)
theorem binom_Choose_j4_unf {R : Type} : @binom_Choose_j4 R = @binom_Choose_j4_B R := shut_eq _

noncomputable def binom_Choose_B {R : Type} (n3 : Int) (n4 : Int) (K0 : Int → Option R) : Option R :=
 sel (decide (n3 < 0))
  (K0 (0))
  (sel (decide (62 < n3))
   (K0 (0))
   (sel (decide (n4 < 0))
    (K0 (0))
    (sel (decide (n3 < n4))
     (K0 (0))
     (binom_Choose_j4 (n3) (n4)
      (fun n20 => K0 (n20))))))
noncomputable def binom_Choose {R : Type} := shut (@binom_Choose_B R)
theorem binom_Choose_unf {R : Type} : @binom_Choose R = @binom_Choose_B R := shut_eq _

noncomputable def word_Mask_B {R : Type} (n26 : Int) (K0 : Int → Option R) : Option R :=
 sel (decide (n26 ≤ 0))
  (K0 (0))
  (sel (decide (0 ≤ max2 0 (subW .i64 64 n26)))
   (K0 (shrW .u64 18446744073709551615 (max2 0 (subW .i64 64 n26))))
   (none))
noncomputable def word_Mask {R : Type} := shut (@word_Mask_B R)
theorem word_Mask_unf {R : Type} : @word_Mask R = @word_Mask_B R := shut_eq _

noncomputable def math_bits_OnesCount64_B {R : Type} (n29 : Int) (K0 : Int → Option R) : Option R :=
 letV (shrW .u64 (addW .u64 (andW .u64 (shrW .u64 (addW .u64 (andW .u64 (shrW .u64 n29 1) 6148914691236517205) (andW .u64 n29 6148914691236517205)) 2) 3689348814741910323) (andW .u64 (addW .u64 (andW .u64 (shrW .u64 n29 1) 6148914691236517205) (andW .u64 n29 6148914691236517205)) 3689348814741910323)) 4) (fun (n30 : Int) =>
 letV (addW .u64 n30 (addW .u64 (andW .u64 (shrW .u64 (addW .u64 (andW .u64 (shrW .u64 n29 1) 6148914691236517205) (andW .u64 n29 6148914691236517205)) 2) 3689348814741910323) (andW .u64 (addW .u64 (andW .u64 (shrW .u64 n29 1) 6148914691236517205) (andW .u64 n29 6148914691236517205)) 3689348814741910323))) (fun (n31 : Int) =>
 letV (addW .u64 (addW .u64 (addW .u64 (andW .u64 n31 1085102592571150095) (shrW .u64 (andW .u64 n31 1085102592571150095) 8)) (shrW .u64 (addW .u64 (andW .u64 n31 1085102592571150095) (shrW .u64 (andW .u64 n31 1085102592571150095) 8)) 16)) (shrW .u64 (addW .u64 (addW .u64 (andW .u64 n31 1085102592571150095) (shrW .u64 (andW .u64 n31 1085102592571150095) 8)) (shrW .u64 (addW .u64 (andW .u64 n31 1085102592571150095) (shrW .u64 (andW .u64 n31 1085102592571150095) 8)) 16)) 32)) (fun (n32 : Int) =>
 K0 (andW .i64 (cvtW .i64 n32) 127))))
noncomputable def math_bits_OnesCount64 {R : Type} := shut (@math_bits_OnesCount64_B R)
theorem math_bits_OnesCount64_unf {R : Type} : @math_bits_OnesCount64 R = @math_bits_OnesCount64_B R := shut_eq _

noncomputable def word_Pop_B {R : Type} (n28 : Int) (K0 : Int → Option R) : Option R :=
 math_bits_OnesCount64 (n28)
  (fun n33 => K0 (n33))
noncomputable def word_Pop {R : Type} := shut (@word_Pop_B R)
theorem word_Pop_unf {R : Type} : @word_Pop R = @word_Pop_B R := shut_eq _

noncomputable def binom_rows_l5_T {R : Type} (rec : Nat → Int → Int → List Int → List (List Int) → Option R) (l36 : Nat) (n37 : Int) (n38 : Int) (xs39 : List Int) (xss40 : List (List Int)) (K0 : Nat → List (List Int) → Option R) : Option R :=
 sel (decide (n38 < n37))
  (binom_row_next_r (n38) (xs39)
   (fun xs41 => sel (decide (0 + 63 * 1 ≤ List.length xs41))
    (sel (decide (0 ≤ addW .i64 n38 2))
     (sel (decide (addW .i64 n38 2 ≤ (↑63 : Int)))
      (sel (decide (Int.toNat (addW .i64 n38 2) - Int.toNat 0 = List.length xs41))
       (sel (decide ((Int.toNat (addW .i64 n38 2) - Int.toNat 0) * 8 ≤ 140737488355328))
        (sel (decide (List.length xss40 = l36))
         (sel (decide ((l36 + 1) * 24 ≤ 140737488355328))
          (sel (decide (Int.toNat (addW .i64 n38 2) - Int.toNat 0 = List.length xs41))
           (sel (decide (Int.toNat (addW .i64 n38 2) - Int.toNat 0 = List.length xs41))
            (letV (xss40 ++ [xs41]) (fun (xss42 : List (List Int)) =>
            rec (l36 + 1) (n37) (addW .i64 n38 1) (xs41) (xss42)))
            (none))
           (none))
          (none))
         (none))
        (none))
       (sel (decide (0 + Nat.sub (Int.toNat (addW .i64 n38 2)) (Int.toNat 0) ≤ List.length xs41))
        (sel (decide ((Int.toNat (addW .i64 n38 2) - Int.toNat 0) * 8 ≤ 140737488355328))
         (letV (List.take (Nat.sub (Int.toNat (addW .i64 n38 2)) (Int.toNat 0)) (List.drop 0 xs41)) (fun (xs43 : List Int) =>
         sel (decide (List.length xss40 = l36))
          (sel (decide ((l36 + 1) * 24 ≤ 140737488355328))
           (sel (decide (Int.toNat (addW .i64 n38 2) - Int.toNat 0 = List.length xs43))
            (sel (decide (Int.toNat (addW .i64 n38 2) - Int.toNat 0 = List.length xs43))
             (letV (xss40 ++ [xs43]) (fun (xss44 : List (List Int)) =>
             rec (l36 + 1) (n37) (addW .i64 n38 1) (xs41) (xss44)))
             (none))
            (none))
           (none))
          (none)))
         (none))
        (none)))
      (none))
     (none))
    (none)))
  (K0 (l36) (xss40))
noncomputable def binom_rows_l5_L {R : Type} (K0 : Nat → List (List Int) → Option R) : Nat → Nat → Int → Int → List Int → List (List Int) → Option R
  | 0, _, _, _, _, _ => none
  | N + 1, l36, n37, n38, xs39, xss40 => binom_rows_l5_T (binom_rows_l5_L K0 N) l36 n37 n38 xs39 xss40 K0
noncomputable def binom_rows_l5_B {R : Type} (l36 : Nat) (n37 : Int) (n38 : Int) (xs39 : List Int) (xss40 : List (List Int)) (K0 : Nat → List (List Int) → Option R) : Option R :=
 binom_rows_l5_L K0 NR l36 n37 n38 xs39 xss40
noncomputable def binom_rows_l5 {R : Type} := shut (@binom_rows_l5_B R)
theorem binom_rows_l5_unf {R : Type} : @binom_rows_l5 R = @binom_rows_l5_B R := shut_eq _

noncomputable def binom_rows_B {R : Type} (n35 : Int) (K0 : List (List Int) → Option R) : Option R :=
 binom_rows_l5 (1) (n35) (0) (List.take 0 (List.replicate 63 0) ++ ([1, 0, 0, 0, 0, 0, 0, 0, 0, 0, 0, 0, 0, 0, 0, 0, 0, 0, 0, 0, 0, 0, 0, 0, 0, 0, 0, 0, 0, 0, 0, 0, 0, 0, 0, 0, 0, 0, 0, 0, 0, 0, 0, 0, 0, 0, 0, 0, 0, 0, 0, 0, 0, 0, 0, 0, 0, 0, 0, 0, 0, 0, 0] ++ List.drop (0 + List.length [1, 0, 0, 0, 0, 0, 0, 0, 0, 0, 0, 0, 0, 0, 0, 0, 0, 0, 0, 0, 0, 0, 0, 0, 0, 0, 0, 0, 0, 0, 0, 0, 0, 0, 0, 0, 0, 0, 0, 0, 0, 0, 0, 0, 0, 0, 0, 0, 0, 0, 0, 0, 0, 0, 0, 0, 0, 0, 0, 0, 0, 0, 0]) (List.replicate 63 0))) ([[1]])
  (fun l45 xss46 => sel (decide (l45 = colN [Col.fints .u64 xss46]))
   (K0 (xss46))
   (none))
noncomputable def binom_rows {R : Type} := shut (@binom_rows_B R)
theorem binom_rows_unf {R : Type} : @binom_rows R = @binom_rows_B R := shut_eq _

noncomputable def math_bits_Len64_j11_B {R : Type} (n59 : Int) (n60 : Int) (K0 : Int → Option R) : Option R :=
 sel (decide (0 ≤ cvtW .u8 n59))
  (sel (decide (cvtW .u8 n59 < (↑(ByteArray.size (txt__14a5d8)) : Int)))
   (letV ((↑(UInt8.toNat (List.getD (Array.toList (ByteArray.data (txt__14a5d8))) (Int.toNat (cvtW .u8 n59)) 0)) : Int)) (fun (n61 : Int) =>
   K0 (addW .i64 n60 (cvtW .i64 n61))))
   (none))
  (none)
noncomputable def math_bits_Len64_j11 {R : Type} := shut (@math_bits_Len64_j11_B R)
theorem math_bits_Len64_j11_unf {R : Type} : @math_bits_Len64_j11 R = @math_bits_Len64_j11_B R := shut_eq _

noncomputable def math_bits_Len64_j8_B {R : Type} (n57 : Int) (n58 : Int) (K0 : Int → Option R) : Option R :=
 sel (decide (256 ≤ n57))
  (math_bits_Len64_j11 (shrW .u64 n57 8) (addW .i64 n58 8)
   (fun n62 => K0 (n62)))
  (math_bits_Len64_j11 (n57) (n58)
   (fun n63 => K0 (n63)))
noncomputable def math_bits_Len64_j8 {R : Type} := shut (@math_bits_Len64_j8_B R)
theorem math_bits_Len64_j8_unf {R : Type} : @math_bits_Len64_j8 R = @math_bits_Len64_j8_B R := shut_eq _

noncomputable def math_bits_Len64_j5_B {R : Type} (n55 : Int) (n56 : Int) (K0 : Int → Option R) : Option R :=
 sel (decide (65536 ≤ n55))
  (math_bits_Len64_j8 (shrW .u64 n55 16) (addW .i64 n56 16)
   (fun n64 => K0 (n64)))
  (math_bits_Len64_j8 (n55) (n56)
   (fun n65 => K0 (n65)))
noncomputable def math_bits_Len64_j5 {R : Type} := shut (@math_bits_Len64_j5_B R)
theorem math_bits_Len64_j5_unf {R : Type} : @math_bits_Len64_j5 R = @math_bits_Len64_j5_B R := shut_eq _

noncomputable def math_bits_Len64_B {R : Type} (n54 : Int) (K0 : Int → Option R) : Option R :=
 sel (decide (4294967296 ≤ n54))
  (math_bits_Len64_j5 (shrW .u64 n54 32) (32)
   (fun n66 => K0 (n66)))
  (math_bits_Len64_j5 (n54) (0)
   (fun n67 => K0 (n67)))
noncomputable def math_bits_Len64 {R : Type} := shut (@math_bits_Len64_B R)
theorem math_bits_Len64_unf {R : Type} : @math_bits_Len64 R = @math_bits_Len64_B R := shut_eq _

noncomputable def word_Len_B {R : Type} (n53 : Int) (K0 : Int → Option R) : Option R :=
 math_bits_Len64 (n53)
  (fun n68 => K0 (n68))
noncomputable def word_Len {R : Type} := shut (@word_Len_B R)
theorem word_Len_unf {R : Type} : @word_Len R = @word_Len_B R := shut_eq _

noncomputable def binom_Offset_j14_B {R : Type} (n71 : Int) (n72 : Int) (xss73 : List (List Int)) (n74 : Int) (n75 : Int) (n76 : Int) (K0 : Int → Int → List (List Int) → Int → Int → Option R) : Option R :=
 sel (decide (0 ≤ n76))
  (K0 (andNotW .u64 n71 (shlW .u64 1 n76)) (n72) (xss73) (n74) (n75))
  (none)
noncomputable def binom_Offset_j14 {R : Type} := shut (@binom_Offset_j14_B R)
theorem binom_Offset_j14_unf {R : Type} : @binom_Offset_j14 R = @binom_Offset_j14_B R := shut_eq _

noncomputable def binom_Offset_l9_T {R : Type} (rec : Int → Int → List (List Int) → Int → Int → Option R) (n48 : Int) (n49 : Int) (xss50 : List (List Int)) (n51 : Int) (n52 : Int) (K0 : Int → Int → Option R) : Option R :=
 sel (decide (0 < n48))
  (word_Len (n48)
   (fun n69 => sel (decide (n52 ≤ subW .i64 n69 1))
    (sel (decide (0 ≤ subW .i64 n69 1))
     (sel (decide (subW .i64 n69 1 < (↑(List.length xss50) : Int)))
      (letV (List.getD xss50 (Int.toNat (subW .i64 n69 1)) []) (fun (xs70 : List Int) =>
      sel (decide (0 ≤ n52))
       (sel (decide (n52 < (↑(List.length xs70) : Int)))
        (binom_Offset_j14 (n48) (n49) (xss50) (addW .u64 n51 (List.getD xs70 (Int.toNat n52) 0)) (n52) (subW .i64 n69 1)
         (fun n77 n78 xss79 n80 n81 => rec (n77) (n78) (xss79) (n80) (subW .i64 n81 1)))
        (none))
       (none)))
      (none))
     (none))
    (binom_Offset_j14 (n48) (n49) (xss50) (n51) (n52) (subW .i64 n69 1)
     (fun n82 n83 xss84 n85 n86 => rec (n82) (n83) (xss84) (n85) (subW .i64 n86 1)))))
  (K0 (n49) (n51))
noncomputable def binom_Offset_l9_L {R : Type} (K0 : Int → Int → Option R) : Nat → Int → Int → List (List Int) → Int → Int → Option R
  | 0, _, _, _, _, _ => none
  | N + 1, n48, n49, xss50, n51, n52 => binom_Offset_l9_T (binom_Offset_l9_L K0 N) n48 n49 xss50 n51 n52 K0
noncomputable def binom_Offset_l9_B {R : Type} (n48 : Int) (n49 : Int) (xss50 : List (List Int)) (n51 : Int) (n52 : Int) (K0 : Int → Int → Option R) : Option R :=
 binom_Offset_l9_L K0 NR n48 n49 xss50 n51 n52
noncomputable def binom_Offset_l9 {R : Type} := shut (@binom_Offset_l9_B R)
theorem binom_Offset_l9_unf {R : Type} : @binom_Offset_l9 R = @binom_Offset_l9_B R := shut_eq _

noncomputable def binom_Offset_j4_B {R : Type} (n24 : Int) (n25 : Int) (K0 : Int → Int → Option R) : Option R :=
 word_Mask (n25)
  (fun n27 => word_Pop (andW .u64 n24 n27)
   (fun n34 => binom_rows (n25)
    (fun xss47 => binom_Offset_l9 (andW .u64 n24 n27) (n34) (xss47) (0) (n34)
     (fun n87 n88 => K0 (n87) (n88)))))
noncomputable def binom_Offset_j4 {R : Type} := shut (@binom_Offset_j4_B R)
theorem binom_Offset_j4_unf {R : Type} : @binom_Offset_j4 R = @binom_Offset_j4_B R := shut_eq _

noncomputable def binom_Offset_B {R : Type} (n22 : Int) (n23 : Int) (K0 : Int → Int → Option R) : Option R :=
 sel (decide (n23 < 0))
  (K0 (0) (0))
  (sel (decide (62 < n23))
   (K0 (0) (0))
   (binom_Offset_j4 (n22) (n23)
    (fun n89 n90 => K0 (n89) (n90))))
noncomputable def binom_Offset {R : Type} := shut (@binom_Offset_B R)
theorem binom_Offset_unf {R : Type} : @binom_Offset R = @binom_Offset_B R := shut_eq _

noncomputable def binom_Block_j13_B {R : Type} (n104 : Int) (n105 : Int) (xss106 : List (List Int)) (n107 : Int) (n108 : Int) (n109 : Int) (K0 : Int → Int → List (List Int) → Int → Int → Option R) : Option R :=
 sel (decide (n109 ≤ n105))
  (sel (decide (0 ≤ n108))
   (K0 (subW .i64 n104 1) (subW .u64 n105 n109) (xss106) (orW .u64 n107 (shlW .u64 1 n108)) (n108))
   (none))
  (K0 (n104) (n105) (xss106) (n107) (n108))
noncomputable def binom_Block_j13 {R : Type} := shut (@binom_Block_j13_B R)
theorem binom_Block_j13_unf {R : Type} : @binom_Block_j13 R = @binom_Block_j13_B R := shut_eq _

noncomputable def binom_Block_l7_T {R : Type} (rec : Int → Int → List (List Int) → Int → Int → Option R) (n98 : Int) (n99 : Int) (xss100 : List (List Int)) (n101 : Int) (n102 : Int) (K0 : Int → Option R) : Option R :=
 sel (decide (0 ≤ n102))
  (sel (decide (n98 = 0))
   (K0 (n101))
   (sel (decide (n98 ≤ n102))
    (sel (decide (0 ≤ n102))
     (sel (decide (n102 < (↑(List.length xss100) : Int)))
      (letV (List.getD xss100 (Int.toNat n102) []) (fun (xs103 : List Int) =>
      sel (decide (0 ≤ n98))
       (sel (decide (n98 < (↑(List.length xs103) : Int)))
        (binom_Block_j13 (n98) (n99) (xss100) (n101) (n102) (List.getD xs103 (Int.toNat n98) 0)
         (fun n110 n111 xss112 n113 n114 => rec (n110) (n111) (xss112) (n113) (subW .i64 n114 1)))
        (none))
       (none)))
      (none))
     (none))
    (binom_Block_j13 (n98) (n99) (xss100) (n101) (n102) (0)
     (fun n115 n116 xss117 n118 n119 => rec (n115) (n116) (xss117) (n118) (subW .i64 n119 1)))))
  (K0 (n101))
noncomputable def binom_Block_l7_L {R : Type} (K0 : Int → Option R) : Nat → Int → Int → List (List Int) → Int → Int → Option R
  | 0, _, _, _, _, _ => none
  | N + 1, n98, n99, xss100, n101, n102 => binom_Block_l7_T (binom_Block_l7_L K0 N) n98 n99 xss100 n101 n102 K0
noncomputable def binom_Block_l7_B {R : Type} (n98 : Int) (n99 : Int) (xss100 : List (List Int)) (n101 : Int) (n102 : Int) (K0 : Int → Option R) : Option R :=
 binom_Block_l7_L K0 NR n98 n99 xss100 n101 n102
noncomputable def binom_Block_l7 {R : Type} := shut (@binom_Block_l7_B R)
theorem binom_Block_l7_unf {R : Type} : @binom_Block_l7 R = @binom_Block_l7_B R := shut_eq _

noncomputable def binom_Block_B {R : Type} (n93 : Int) (n94 : Int) (n95 : Int) (K0 : Int → Bool → Option R) : Option R :=
 binom_Choose (n93) (n94)
  (fun n96 => sel (decide (n96 ≤ n95))
   (K0 (0) (false))
   (binom_rows (n93)
    (fun xss97 => binom_Block_l7 (n94) (n95) (xss97) (0) (subW .i64 n93 1)
     (fun n120 => K0 (n120) (true)))))
noncomputable def binom_Block {R : Type} := shut (@binom_Block_B R)
theorem binom_Block_unf {R : Type} : @binom_Block R = @binom_Block_B R := shut_eq _

noncomputable def binom_Width_B {R : Type} (n127 : Int) (n128 : Int) (K0 : Int → Option R) : Option R :=
 binom_Choose (n127) (n128)
  (fun n129 => sel (decide (n129 = 0))
   (K0 (0))
   (word_Len (subW .u64 n129 1)
    (fun n130 => K0 (n130))))
noncomputable def binom_Width {R : Type} := shut (@binom_Width_B R)
theorem binom_Width_unf {R : Type} : @binom_Width R = @binom_Width_B R := shut_eq _

noncomputable def haystacklaw06_heads_B {R : Type} (K0 : Bool → Option R) : Option R :=
 binom_Offset (6) (3)
  (fun n91 n92 => binom_Block (3) (2) (2)
   (fun n121 b122 => binom_Block (3) (2) (3)
    (fun n123 b124 => binom_Choose (5) (2)
     (fun n125 => sel (decide (n125 = 10))
      (binom_Choose (62) (31)
       (fun n126 => sel (decide (n126 = 465428353255261088))
        (binom_Width (5) (2)
         (fun n131 => sel (decide (n131 = 4))
          (sel (decide (n91 = 2))
           (sel (decide (n92 = 2))
            (sel (decide (n121 = 6))
             (sel (b122)
              (K0 (!b124))
              (none))
             (none))
            (none))
           (none))
          (none)))
        (none)))
      (none)))))
noncomputable def haystacklaw06_heads {R : Type} := shut (@haystacklaw06_heads_B R)
theorem haystacklaw06_heads_unf {R : Type} : @haystacklaw06_heads R = @haystacklaw06_heads_B R := shut_eq _

noncomputable def haystacklaw06_BinomAll_j3_B {R : Type} (n1 : Int) (b2 : Bool) (K0 : Bool → Option R) (K1 : Int → Option R) : Option R :=
 sel (b2)
  (binom_Choose (n1) (0)
   (fun n21 => sel (decide (n21 = 0))
    (haystacklaw06_heads 
     (fun b132 => K0 (b132)))
    (K0 (false))))
  (K1 (n1))
noncomputable def haystacklaw06_BinomAll_j3 {R : Type} := shut (@haystacklaw06_BinomAll_j3_B R)
theorem haystacklaw06_BinomAll_j3_unf {R : Type} : @haystacklaw06_BinomAll_j3 R = @haystacklaw06_BinomAll_j3_B R := shut_eq _

noncomputable def haystacklaw06_BinomAll_j12_B {R : Type} (n141 : Int) (n142 : Int) (n143 : Int) (n144 : Int) (K0 : Int → Int → Int → Option R) : Option R :=
 K0 (n141) (addW .u64 n142 n144) (n143)
noncomputable def haystacklaw06_BinomAll_j12 {R : Type} := shut (@haystacklaw06_BinomAll_j12_B R)
theorem haystacklaw06_BinomAll_j12_unf {R : Type} : @haystacklaw06_BinomAll_j12 R = @haystacklaw06_BinomAll_j12_B R := shut_eq _

noncomputable def haystacklaw06_BinomAll_l6_T {R : Type} (rec : Int → Int → Int → Option R) (n136 : Int) (n137 : Int) (n138 : Int) (K0 : Bool → Option R) (K1 : Int → Int → Option R) : Option R :=
 sel (decide (n138 ≤ n136))
  (binom_Choose (n136) (n138)
   (fun n139 => binom_Width (n136) (n138)
    (fun n140 => sel (decide (n139 = 0))
     (K0 (false))
     (sel (decide (n140 < 0))
      (K0 (false))
      (sel (decide (62 < n140))
       (K0 (false))
       (sel (decide (0 ≤ cvtW .u64 n140))
        (sel (!decide (shrW .u64 (subW .u64 n139 1) (cvtW .u64 n140) = 0))
         (K0 (false))
         (sel (decide (0 < n140))
          (sel (decide (0 ≤ cvtW .u64 (subW .i64 n140 1)))
           (sel (decide (shrW .u64 (subW .u64 n139 1) (cvtW .u64 (subW .i64 n140 1)) = 0))
            (K0 (false))
            (haystacklaw06_BinomAll_j12 (n136) (n137) (n138) (n139)
             (fun n145 n146 n147 => rec (n145) (n146) (addW .i64 n147 1))))
           (none))
          (haystacklaw06_BinomAll_j12 (n136) (n137) (n138) (n139)
           (fun n148 n149 n150 => rec (n148) (n149) (addW .i64 n150 1)))))
        (none)))))))
  (K1 (n136) (n137))
noncomputable def haystacklaw06_BinomAll_l6_L {R : Type} (K0 : Bool → Option R) (K1 : Int → Int → Option R) : Nat → Int → Int → Int → Option R
  | 0, _, _, _ => none
  | N + 1, n136, n137, n138 => haystacklaw06_BinomAll_l6_T (haystacklaw06_BinomAll_l6_L K0 K1 N) n136 n137 n138 K0 K1
noncomputable def haystacklaw06_BinomAll_l6_B {R : Type} (n136 : Int) (n137 : Int) (n138 : Int) (K0 : Bool → Option R) (K1 : Int → Int → Option R) : Option R :=
 haystacklaw06_BinomAll_l6_L K0 K1 NR n136 n137 n138
noncomputable def haystacklaw06_BinomAll_l6 {R : Type} := shut (@haystacklaw06_BinomAll_l6_B R)
theorem haystacklaw06_BinomAll_l6_unf {R : Type} : @haystacklaw06_BinomAll_l6 R = @haystacklaw06_BinomAll_l6_B R := shut_eq _

noncomputable def haystacklaw06_BinomAll_j4_B {R : Type} (n135 : Int) (K0 : Bool → Option R) : Option R :=
 haystacklaw06_BinomAll_l6 (n135) (0) (0)
  (fun b151 => K0 (b151))
  (fun n152 n153 => sel (decide (0 ≤ cvtW .u64 n152))
   (sel (decide (n153 = shlW .u64 1 (cvtW .u64 n152)))
    (haystacklaw06_heads 
     (fun b154 => K0 (b154)))
    (K0 (false)))
   (none))
noncomputable def haystacklaw06_BinomAll_j4 {R : Type} := shut (@haystacklaw06_BinomAll_j4_B R)
theorem haystacklaw06_BinomAll_j4_unf {R : Type} : @haystacklaw06_BinomAll_j4 R = @haystacklaw06_BinomAll_j4_B R := shut_eq _

noncomputable def haystacklaw06_BinomAll_B {R : Type} (n0 : Int) (K0 : Bool → Option R) : Option R :=
 sel (decide (n0 < 0))
  (haystacklaw06_BinomAll_j3 (n0) (true)
   (fun b133 => K0 (b133))
   (fun n134 => haystacklaw06_BinomAll_j4 (n134)
    (fun b155 => K0 (b155))))
  (haystacklaw06_BinomAll_j3 (n0) (decide (62 < n0))
   (fun b156 => K0 (b156))
   (fun n157 => haystacklaw06_BinomAll_j4 (n157)
    (fun b158 => K0 (b158))))
noncomputable def haystacklaw06_BinomAll {R : Type} := shut (@haystacklaw06_BinomAll_B R)
theorem haystacklaw06_BinomAll_unf {R : Type} : @haystacklaw06_BinomAll R = @haystacklaw06_BinomAll_B R := shut_eq _

noncomputable def haystacklaw06_BinomEnds_j4_B {R : Type} (n165 : Int) (n166 : Int) (K0 : Bool → Option R) : Option R :=
 sel (decide (0 ≤ cvtW .u64 n166))
  (binom_Block (n165) (n166) (0)
   (fun n167 b168 => binom_Choose (n165) (n166)
    (fun n169 => binom_Block (n165) (n166) (subW .u64 n169 1)
     (fun n170 b171 => binom_Choose (n165) (n166)
      (fun n172 => binom_Block (n165) (n166) (n172)
       (fun n173 b174 => sel (b168)
        (sel (b171)
         (sel (!b174)
          (sel (decide (n167 = subW .u64 (shlW .u64 1 (cvtW .u64 n166)) 1))
           (sel (decide (0 ≤ cvtW .u64 (subW .i64 n165 n166)))
            (letV (decide (n170 = shlW .u64 (subW .u64 (shlW .u64 1 (cvtW .u64 n166)) 1) (cvtW .u64 (subW .i64 n165 n166)))) (fun (b175 : Bool) =>
            sel (b175)
             (haystacklaw06_heads 
              (fun b176 => K0 (b176)))
             (K0 (false))))
            (none))
           (K0 (false)))
          (K0 (false)))
         (K0 (false)))
        (K0 (false))))))))
  (none)
noncomputable def haystacklaw06_BinomEnds_j4 {R : Type} := shut (@haystacklaw06_BinomEnds_j4_B R)
theorem haystacklaw06_BinomEnds_j4_unf {R : Type} : @haystacklaw06_BinomEnds_j4 R = @haystacklaw06_BinomEnds_j4_B R := shut_eq _

noncomputable def haystacklaw06_BinomEnds_B {R : Type} (n159 : Int) (n160 : Int) (K0 : Bool → Option R) : Option R :=
 sel (decide (n159 < 0))
  (haystacklaw06_heads 
   (fun b161 => K0 (b161)))
  (sel (decide (62 < n159))
   (haystacklaw06_heads 
    (fun b162 => K0 (b162)))
   (sel (decide (n160 < 0))
    (haystacklaw06_heads 
     (fun b163 => K0 (b163)))
    (sel (decide (n159 < n160))
     (haystacklaw06_heads 
      (fun b164 => K0 (b164)))
     (haystacklaw06_BinomEnds_j4 (n159) (n160)
      (fun b177 => K0 (b177))))))
noncomputable def haystacklaw06_BinomEnds {R : Type} := shut (@haystacklaw06_BinomEnds_B R)
theorem haystacklaw06_BinomEnds_unf {R : Type} : @haystacklaw06_BinomEnds R = @haystacklaw06_BinomEnds_B R := shut_eq _

noncomputable def haystackref01_Rank_j6_B {R : Type} (n194 : Int) (n195 : Int) (n196 : Int) (n197 : Int) (K0 : Int → Int → Int → Int → Option R) : Option R :=
 sel (decide (0 ≤ cvtW .u64 n197))
  (sel (decide (remW (shrW .u64 n194 (cvtW .u64 n197)) 2 = 1))
   (K0 (n194) (n195) (addW .i64 n196 1) (addW .i64 n197 1))
   (K0 (n194) (n195) (n196) (addW .i64 n197 1)))
  (none)
noncomputable def haystackref01_Rank_j6 {R : Type} := shut (@haystackref01_Rank_j6_B R)
theorem haystackref01_Rank_j6_unf {R : Type} : @haystackref01_Rank_j6 R = @haystackref01_Rank_j6_B R := shut_eq _

noncomputable def haystackref01_Rank_l4_T {R : Type} (rec : Int → Int → Int → Int → Option R) (n190 : Int) (n191 : Int) (n192 : Int) (n193 : Int) (K0 : Int → Option R) : Option R :=
 sel (decide (n193 < 64))
  (sel (decide (n193 < n191))
   (haystackref01_Rank_j6 (n190) (n191) (n192) (n193)
    (fun n198 n199 n200 n201 => rec (n198) (n199) (n200) (n201)))
   (K0 (n192)))
  (K0 (n192))
noncomputable def haystackref01_Rank_l4_L {R : Type} (K0 : Int → Option R) : Nat → Int → Int → Int → Int → Option R
  | 0, _, _, _, _ => none
  | N + 1, n190, n191, n192, n193 => haystackref01_Rank_l4_T (haystackref01_Rank_l4_L K0 N) n190 n191 n192 n193 K0
noncomputable def haystackref01_Rank_l4_B {R : Type} (n190 : Int) (n191 : Int) (n192 : Int) (n193 : Int) (K0 : Int → Option R) : Option R :=
 haystackref01_Rank_l4_L K0 NR n190 n191 n192 n193
noncomputable def haystackref01_Rank_l4 {R : Type} := shut (@haystackref01_Rank_l4_B R)
theorem haystackref01_Rank_l4_unf {R : Type} : @haystackref01_Rank_l4 R = @haystackref01_Rank_l4_B R := shut_eq _

noncomputable def haystackref01_Rank_B {R : Type} (n188 : Int) (n189 : Int) (K0 : Int → Option R) : Option R :=
 haystackref01_Rank_l4 (n188) (n189) (0) (0)
  (fun n202 => K0 (n202))
noncomputable def haystackref01_Rank {R : Type} := shut (@haystackref01_Rank_B R)
theorem haystackref01_Rank_unf {R : Type} : @haystackref01_Rank R = @haystackref01_Rank_B R := shut_eq _

noncomputable def haystackref06_Choose_l10_T {R : Type} (rec : Int → Int → Nat → Int → Int → List Int → Option R) (n220 : Int) (n221 : Int) (l222 : Nat) (n223 : Int) (n224 : Int) (xs225 : List Int) (K0 : Int → Int → Nat → Int → List Int → Option R) : Option R :=
 sel (decide (0 < n224))
  (sel (decide (0 ≤ n224))
   (sel (decide (n224 < (↑l222 : Int)))
    (sel (decide (Int.toNat n224 < List.length xs225))
     (sel (decide (0 ≤ subW .i64 n224 1))
      (sel (decide (subW .i64 n224 1 < (↑l222 : Int)))
       (sel (decide (Int.toNat (subW .i64 n224 1) < List.length xs225))
        (sel (decide (0 ≤ n224))
         (sel (decide (n224 < (↑l222 : Int)))
          (sel (decide (Int.toNat n224 < List.length xs225))
           (letV (List.set xs225 (Int.toNat n224) (addW .u64 (List.getD xs225 (Int.toNat n224) 0) (List.getD xs225 (Int.toNat (subW .i64 n224 1)) 0))) (fun (xs226 : List Int) =>
           rec (n220) (n221) (l222) (n223) (subW .i64 n224 1) (xs226)))
           (none))
          (none))
         (none))
        (none))
       (none))
      (none))
     (none))
    (none))
   (none))
  (K0 (n220) (n221) (l222) (n223) (xs225))
noncomputable def haystackref06_Choose_l10_L {R : Type} (K0 : Int → Int → Nat → Int → List Int → Option R) : Nat → Int → Int → Nat → Int → Int → List Int → Option R
  | 0, _, _, _, _, _, _ => none
  | N + 1, n220, n221, l222, n223, n224, xs225 => haystackref06_Choose_l10_T (haystackref06_Choose_l10_L K0 N) n220 n221 l222 n223 n224 xs225 K0
noncomputable def haystackref06_Choose_l10_B {R : Type} (n220 : Int) (n221 : Int) (l222 : Nat) (n223 : Int) (n224 : Int) (xs225 : List Int) (K0 : Int → Int → Nat → Int → List Int → Option R) : Option R :=
 haystackref06_Choose_l10_L K0 NR n220 n221 l222 n223 n224 xs225
noncomputable def haystackref06_Choose_l10 {R : Type} := shut (@haystackref06_Choose_l10_B R)
theorem haystackref06_Choose_l10_unf {R : Type} : @haystackref06_Choose_l10 R = @haystackref06_Choose_l10_B R := shut_eq _

noncomputable def haystackref06_Choose_l7_T {R : Type} (rec : Int → Int → Nat → Int → List Int → Option R) (n215 : Int) (n216 : Int) (l217 : Nat) (n218 : Int) (xs219 : List Int) (K0 : Int → Nat → List Int → Option R) : Option R :=
 sel (decide (n218 ≤ n215))
  (haystackref06_Choose_l10 (n215) (n216) (l217) (n218) (n218) (xs219)
   (fun n227 n228 l229 n230 xs231 => rec (n227) (n228) (l229) (addW .i64 n230 1) (xs231)))
  (K0 (n216) (l217) (xs219))
noncomputable def haystackref06_Choose_l7_L {R : Type} (K0 : Int → Nat → List Int → Option R) : Nat → Int → Int → Nat → Int → List Int → Option R
  | 0, _, _, _, _, _ => none
  | N + 1, n215, n216, l217, n218, xs219 => haystackref06_Choose_l7_T (haystackref06_Choose_l7_L K0 N) n215 n216 l217 n218 xs219 K0
noncomputable def haystackref06_Choose_l7_B {R : Type} (n215 : Int) (n216 : Int) (l217 : Nat) (n218 : Int) (xs219 : List Int) (K0 : Int → Nat → List Int → Option R) : Option R :=
 haystackref06_Choose_l7_L K0 NR n215 n216 l217 n218 xs219
noncomputable def haystackref06_Choose_l7 {R : Type} := shut (@haystackref06_Choose_l7_B R)
theorem haystackref06_Choose_l7_unf {R : Type} : @haystackref06_Choose_l7 R = @haystackref06_Choose_l7_B R := shut_eq _

noncomputable def haystackref06_Choose_j4_B {R : Type} (n211 : Int) (n212 : Int) (K0 : Int → Option R) : Option R :=
 sel (decide (0 ≤ addW .i64 n211 1))
  (sel (decide (addW .i64 n211 1 ≤ addW .i64 n211 1))
   (sel (decide (addW .i64 n211 1 ≤ 281474976710656))
    (sel (decide ((↑8 : Int) * addW .i64 n211 1 ≤ 281474976710656))
     (letV (List.replicate (Int.toNat (addW .i64 n211 1)) 0) (fun (xs213 : List Int) =>
     sel (decide (0 < (↑(Int.toNat (addW .i64 n211 1)) : Int)))
      (sel (decide (0 < List.length xs213))
       (letV (List.set xs213 0 1) (fun (xs214 : List Int) =>
       haystackref06_Choose_l7 (n211) (n212) (Int.toNat (addW .i64 n211 1)) (1) (xs214)
        (fun n232 l233 xs234 => sel (decide (0 ≤ n232))
         (sel (decide (n232 < (↑l233 : Int)))
          (sel (decide (Int.toNat n232 < List.length xs234))
           (K0 (List.getD xs234 (Int.toNat n232) 0))
           (none))
          (none))
         (none))))
       (none))
      (none)))
     (none))
    (none))
   (none))
  (none)
noncomputable def haystackref06_Choose_j4 {R : Type} := shut (@haystackref06_Choose_j4_B R)
theorem haystackref06_Choose_j4_unf {R : Type} : @haystackref06_Choose_j4 R = @haystackref06_Choose_j4_B R := shut_eq _

noncomputable def haystackref06_Choose_B {R : Type} (n209 : Int) (n210 : Int) (K0 : Int → Option R) : Option R :=
 sel (decide (n209 < 0))
  (K0 (0))
  (sel (decide (62 < n209))
   (K0 (0))
   (sel (decide (n210 < 0))
    (K0 (0))
    (sel (decide (n209 < n210))
     (K0 (0))
     (haystackref06_Choose_j4 (n209) (n210)
      (fun n235 => K0 (n235))))))
noncomputable def haystackref06_Choose {R : Type} := shut (@haystackref06_Choose_B R)
theorem haystackref06_Choose_unf {R : Type} : @haystackref06_Choose R = @haystackref06_Choose_B R := shut_eq _

noncomputable def haystackref06_Offset_l8_T {R : Type} (rec : Int → Int → Int → Int → Int → Option R) (n204 : Int) (n205 : Int) (n206 : Int) (n207 : Int) (n208 : Int) (K0 : Int → Int → Option R) : Option R :=
 sel (decide (0 ≤ n208))
  (sel (decide (0 ≤ cvtW .u64 n208))
   (sel (decide (remW (shrW .u64 n204 (cvtW .u64 n208)) 2 = 1))
    (haystackref06_Choose (n208) (n207)
     (fun n236 => rec (n204) (n205) (addW .u64 n206 n236) (subW .i64 n207 1) (subW .i64 n208 1)))
    (rec (n204) (n205) (n206) (n207) (subW .i64 n208 1)))
   (none))
  (K0 (n205) (n206))
noncomputable def haystackref06_Offset_l8_L {R : Type} (K0 : Int → Int → Option R) : Nat → Int → Int → Int → Int → Int → Option R
  | 0, _, _, _, _, _ => none
  | N + 1, n204, n205, n206, n207, n208 => haystackref06_Offset_l8_T (haystackref06_Offset_l8_L K0 N) n204 n205 n206 n207 n208 K0
noncomputable def haystackref06_Offset_l8_B {R : Type} (n204 : Int) (n205 : Int) (n206 : Int) (n207 : Int) (n208 : Int) (K0 : Int → Int → Option R) : Option R :=
 haystackref06_Offset_l8_L K0 NR n204 n205 n206 n207 n208
noncomputable def haystackref06_Offset_l8 {R : Type} := shut (@haystackref06_Offset_l8_B R)
theorem haystackref06_Offset_l8_unf {R : Type} : @haystackref06_Offset_l8 R = @haystackref06_Offset_l8_B R := shut_eq _

noncomputable def haystackref06_Offset_j4_B {R : Type} (n186 : Int) (n187 : Int) (K0 : Int → Int → Option R) : Option R :=
 haystackref01_Rank (n186) (n187)
  (fun n203 => haystackref06_Offset_l8 (n186) (n203) (0) (n203) (subW .i64 n187 1)
   (fun n237 n238 => K0 (n237) (n238)))
noncomputable def haystackref06_Offset_j4 {R : Type} := shut (@haystackref06_Offset_j4_B R)
theorem haystackref06_Offset_j4_unf {R : Type} : @haystackref06_Offset_j4 R = @haystackref06_Offset_j4_B R := shut_eq _

noncomputable def haystackref06_Offset_B {R : Type} (n184 : Int) (n185 : Int) (K0 : Int → Int → Option R) : Option R :=
 sel (decide (n185 < 0))
  (K0 (0) (0))
  (sel (decide (62 < n185))
   (K0 (0) (0))
   (haystackref06_Offset_j4 (n184) (n185)
    (fun n239 n240 => K0 (n239) (n240))))
noncomputable def haystackref06_Offset {R : Type} := shut (@haystackref06_Offset_B R)
theorem haystackref06_Offset_unf {R : Type} : @haystackref06_Offset R = @haystackref06_Offset_B R := shut_eq _

noncomputable def haystackref06_Block_j8_B {R : Type} (n253 : Int) (n254 : Int) (n255 : Int) (n256 : Int) (K0 : Int → Int → Int → Int → Option R) : Option R :=
 haystackref06_Choose (n256) (n253)
  (fun n257 => sel (decide (n257 ≤ n254))
   (sel (decide (0 ≤ cvtW .u64 n256))
    (K0 (subW .i64 n253 1) (subW .u64 n254 n257) (orW .u64 n255 (shlW .u64 1 (cvtW .u64 n256))) (subW .i64 n256 1))
    (none))
   (K0 (n253) (n254) (n255) (subW .i64 n256 1)))
noncomputable def haystackref06_Block_j8 {R : Type} := shut (@haystackref06_Block_j8_B R)
theorem haystackref06_Block_j8_unf {R : Type} : @haystackref06_Block_j8 R = @haystackref06_Block_j8_B R := shut_eq _

noncomputable def haystackref06_Block_l6_T {R : Type} (rec : Int → Int → Int → Int → Option R) (n249 : Int) (n250 : Int) (n251 : Int) (n252 : Int) (K0 : Int → Option R) : Option R :=
 sel (decide (0 ≤ n252))
  (sel (decide (0 < n249))
   (haystackref06_Block_j8 (n249) (n250) (n251) (n252)
    (fun n258 n259 n260 n261 => rec (n258) (n259) (n260) (n261)))
   (K0 (n251)))
  (K0 (n251))
noncomputable def haystackref06_Block_l6_L {R : Type} (K0 : Int → Option R) : Nat → Int → Int → Int → Int → Option R
  | 0, _, _, _, _ => none
  | N + 1, n249, n250, n251, n252 => haystackref06_Block_l6_T (haystackref06_Block_l6_L K0 N) n249 n250 n251 n252 K0
noncomputable def haystackref06_Block_l6_B {R : Type} (n249 : Int) (n250 : Int) (n251 : Int) (n252 : Int) (K0 : Int → Option R) : Option R :=
 haystackref06_Block_l6_L K0 NR n249 n250 n251 n252
noncomputable def haystackref06_Block_l6 {R : Type} := shut (@haystackref06_Block_l6_B R)
theorem haystackref06_Block_l6_unf {R : Type} : @haystackref06_Block_l6 R = @haystackref06_Block_l6_B R := shut_eq _

noncomputable def haystackref06_Block_B {R : Type} (n245 : Int) (n246 : Int) (n247 : Int) (K0 : Int → Bool → Option R) : Option R :=
 haystackref06_Choose (n245) (n246)
  (fun n248 => sel (decide (n248 ≤ n247))
   (K0 (0) (false))
   (haystackref06_Block_l6 (n246) (n247) (0) (subW .i64 n245 1)
    (fun n262 => K0 (n262) (true))))
noncomputable def haystackref06_Block {R : Type} := shut (@haystackref06_Block_B R)
theorem haystackref06_Block_unf {R : Type} : @haystackref06_Block R = @haystackref06_Block_B R := shut_eq _

noncomputable def haystackref01_Len_l3_T {R : Type} (rec : Int → Int → Option R) (n272 : Int) (n273 : Int) (K0 : Int → Option R) (K1 : Unit → Option R) : Option R :=
 sel (decide (0 < n273))
  (sel (decide (0 ≤ cvtW .u64 (subW .i64 n273 1)))
   (sel (decide (remW (shrW .u64 n272 (cvtW .u64 (subW .i64 n273 1))) 2 = 1))
    (K0 (n273))
    (rec (n272) (subW .i64 n273 1)))
   (none))
  (K1 ())
noncomputable def haystackref01_Len_l3_L {R : Type} (K0 : Int → Option R) (K1 : Unit → Option R) : Nat → Int → Int → Option R
  | 0, _, _ => none
  | N + 1, n272, n273 => haystackref01_Len_l3_T (haystackref01_Len_l3_L K0 K1 N) n272 n273 K0 K1
noncomputable def haystackref01_Len_l3_B {R : Type} (n272 : Int) (n273 : Int) (K0 : Int → Option R) (K1 : Unit → Option R) : Option R :=
 haystackref01_Len_l3_L K0 K1 NR n272 n273
noncomputable def haystackref01_Len_l3 {R : Type} := shut (@haystackref01_Len_l3_B R)
theorem haystackref01_Len_l3_unf {R : Type} : @haystackref01_Len_l3 R = @haystackref01_Len_l3_B R := shut_eq _

noncomputable def haystackref01_Len_B {R : Type} (n271 : Int) (K0 : Int → Option R) : Option R :=
 haystackref01_Len_l3 (n271) (64)
  (fun n274 => K0 (n274))
  (fun _ => K0 (0))
noncomputable def haystackref01_Len {R : Type} := shut (@haystackref01_Len_B R)
theorem haystackref01_Len_unf {R : Type} : @haystackref01_Len R = @haystackref01_Len_B R := shut_eq _

noncomputable def haystackref06_Width_B {R : Type} (n268 : Int) (n269 : Int) (K0 : Int → Option R) : Option R :=
 haystackref06_Choose (n268) (n269)
  (fun n270 => sel (decide (n270 = 0))
   (K0 (0))
   (haystackref01_Len (subW .u64 n270 1)
    (fun n275 => K0 (n275))))
noncomputable def haystackref06_Width {R : Type} := shut (@haystackref06_Width_B R)
theorem haystackref06_Width_unf {R : Type} : @haystackref06_Width R = @haystackref06_Width_B R := shut_eq _

noncomputable def haystacklaw06_BinomTells_B {R : Type} (n178 : Int) (n179 : Int) (n180 : Int) (n181 : Int) (K0 : Bool → Option R) : Option R :=
 binom_Offset (n180) (n178)
  (fun n182 n183 => haystackref06_Offset (n180) (n178)
   (fun n241 n242 => binom_Block (n178) (n179) (n181)
    (fun n243 b244 => haystackref06_Block (n178) (n179) (n181)
     (fun n263 b264 => binom_Choose (n178) (n179)
      (fun n265 => haystackref06_Choose (n178) (n179)
       (fun n266 => sel (decide (n265 = n266))
        (binom_Width (n178) (n179)
         (fun n267 => haystackref06_Width (n178) (n179)
          (fun n276 => sel (decide (n267 = n276))
           (sel (decide (n182 = n241))
            (sel (decide (n183 = n242))
             (sel (decide (n243 = n263))
              (sel (b244 == b264)
               (haystacklaw06_heads 
                (fun b277 => K0 (b277)))
               (K0 (false)))
              (K0 (false)))
             (K0 (false)))
            (K0 (false)))
           (K0 (false)))))
        (K0 (false))))))))
noncomputable def haystacklaw06_BinomTells {R : Type} := shut (@haystacklaw06_BinomTells_B R)
theorem haystacklaw06_BinomTells_unf {R : Type} : @haystacklaw06_BinomTells R = @haystacklaw06_BinomTells_B R := shut_eq _

noncomputable def haystacklaw06_BinomBack_j4_B {R : Type} (n282 : Int) (n283 : Int) (K0 : Bool → Option R) : Option R :=
 binom_Offset (n282) (n283)
  (fun n284 n285 => binom_Block (n283) (n284) (n285)
   (fun n286 b287 => sel (b287)
    (sel (decide (0 ≤ cvtW .u64 n283))
     (sel (decide (n286 = andW .u64 n282 (subW .u64 (shlW .u64 1 (cvtW .u64 n283)) 1)))
      (binom_Choose (n283) (n284)
       (fun n288 => sel (decide (n285 < n288))
        (haystackref01_Len (n285)
         (fun n289 => binom_Width (n283) (n284)
          (fun n290 => sel (decide (n289 ≤ n290))
           (haystacklaw06_heads 
            (fun b291 => K0 (b291)))
           (K0 (false)))))
        (K0 (false))))
      (K0 (false)))
     (none))
    (K0 (false))))
noncomputable def haystacklaw06_BinomBack_j4 {R : Type} := shut (@haystacklaw06_BinomBack_j4_B R)
theorem haystacklaw06_BinomBack_j4_unf {R : Type} : @haystacklaw06_BinomBack_j4 R = @haystacklaw06_BinomBack_j4_B R := shut_eq _

noncomputable def haystacklaw06_BinomBack_B {R : Type} (n278 : Int) (n279 : Int) (K0 : Bool → Option R) : Option R :=
 sel (decide (n279 < 0))
  (haystacklaw06_heads 
   (fun b280 => K0 (b280)))
  (sel (decide (62 < n279))
   (haystacklaw06_heads 
    (fun b281 => K0 (b281)))
   (haystacklaw06_BinomBack_j4 (n278) (n279)
    (fun b292 => K0 (b292))))
noncomputable def haystacklaw06_BinomBack {R : Type} := shut (@haystacklaw06_BinomBack_B R)
theorem haystacklaw06_BinomBack_unf {R : Type} : @haystacklaw06_BinomBack R = @haystacklaw06_BinomBack_B R := shut_eq _

noncomputable def haystacklaw06_BinomOrder_j4_B {R : Type} (n298 : Int) (n299 : Int) (n300 : Int) (K0 : Bool → Option R) : Option R :=
 sel (decide (0 ≤ cvtW .u64 n300))
  (sel (decide (0 ≤ cvtW .u64 n300))
   (binom_Offset (andW .u64 n298 (subW .u64 (shlW .u64 1 (cvtW .u64 n300)) 1)) (n300)
    (fun n301 n302 => binom_Offset (andW .u64 n299 (subW .u64 (shlW .u64 1 (cvtW .u64 n300)) 1)) (n300)
     (fun n303 n304 => sel (!decide (n301 = n303))
      (haystacklaw06_heads 
       (fun b305 => K0 (b305)))
      (letV (decide (andW .u64 n298 (subW .u64 (shlW .u64 1 (cvtW .u64 n300)) 1) < andW .u64 n299 (subW .u64 (shlW .u64 1 (cvtW .u64 n300)) 1))) (fun (b306 : Bool) =>
      sel (b306 == decide (n302 < n304))
       (letV (decide (andW .u64 n298 (subW .u64 (shlW .u64 1 (cvtW .u64 n300)) 1) = andW .u64 n299 (subW .u64 (shlW .u64 1 (cvtW .u64 n300)) 1))) (fun (b307 : Bool) =>
       sel (b307 == decide (n302 = n304))
        (haystacklaw06_heads 
         (fun b308 => K0 (b308)))
        (K0 (false))))
       (K0 (false)))))))
   (none))
  (none)
noncomputable def haystacklaw06_BinomOrder_j4 {R : Type} := shut (@haystacklaw06_BinomOrder_j4_B R)
theorem haystacklaw06_BinomOrder_j4_unf {R : Type} : @haystacklaw06_BinomOrder_j4 R = @haystacklaw06_BinomOrder_j4_B R := shut_eq _

noncomputable def haystacklaw06_BinomOrder_B {R : Type} (n293 : Int) (n294 : Int) (n295 : Int) (K0 : Bool → Option R) : Option R :=
 sel (decide (n295 < 0))
  (haystacklaw06_heads 
   (fun b296 => K0 (b296)))
  (sel (decide (62 < n295))
   (haystacklaw06_heads 
    (fun b297 => K0 (b297)))
   (haystacklaw06_BinomOrder_j4 (n293) (n294) (n295)
    (fun b309 => K0 (b309))))
noncomputable def haystacklaw06_BinomOrder {R : Type} := shut (@haystacklaw06_BinomOrder_B R)
theorem haystacklaw06_BinomOrder_unf {R : Type} : @haystacklaw06_BinomOrder R = @haystacklaw06_BinomOrder_B R := shut_eq _

noncomputable def haystacklaw06_BinomSums_j3_B {R : Type} (n312 : Int) (n313 : Int) (b314 : Bool) (K0 : Bool → Option R) (K1 : Int → Int → Option R) : Option R :=
 sel (b314)
  (binom_Choose (63) (1)
   (fun n315 => sel (decide (n315 = 0))
    (binom_Choose (5) (6)
     (fun n316 => sel (decide (n316 = 0))
      (haystacklaw06_heads 
       (fun b317 => K0 (b317)))
      (K0 (false))))
    (K0 (false))))
  (K1 (n312) (n313))
noncomputable def haystacklaw06_BinomSums_j3 {R : Type} := shut (@haystacklaw06_BinomSums_j3_B R)
theorem haystacklaw06_BinomSums_j3_unf {R : Type} : @haystacklaw06_BinomSums_j3 R = @haystacklaw06_BinomSums_j3_B R := shut_eq _

noncomputable def haystacklaw06_BinomSums_j4_B {R : Type} (n321 : Int) (n322 : Int) (K0 : Bool → Option R) : Option R :=
 binom_Choose (n321) (n322)
  (fun n323 => binom_Choose (subW .i64 n321 1) (n322)
   (fun n324 => binom_Choose (subW .i64 n321 1) (subW .i64 n322 1)
    (fun n325 => sel (decide (n323 = addW .u64 n324 n325))
     (binom_Choose (n321) (n322)
      (fun n326 => binom_Choose (n321) (subW .i64 n321 n322)
       (fun n327 => sel (decide (n326 = n327))
        (haystacklaw06_heads 
         (fun b328 => K0 (b328)))
        (K0 (false)))))
     (K0 (false)))))
noncomputable def haystacklaw06_BinomSums_j4 {R : Type} := shut (@haystacklaw06_BinomSums_j4_B R)
theorem haystacklaw06_BinomSums_j4_unf {R : Type} : @haystacklaw06_BinomSums_j4 R = @haystacklaw06_BinomSums_j4_B R := shut_eq _

noncomputable def haystacklaw06_BinomSums_B {R : Type} (n310 : Int) (n311 : Int) (K0 : Bool → Option R) : Option R :=
 sel (decide (n310 < 1))
  (haystacklaw06_BinomSums_j3 (n310) (n311) (true)
   (fun b318 => K0 (b318))
   (fun n319 n320 => haystacklaw06_BinomSums_j4 (n319) (n320)
    (fun b329 => K0 (b329))))
  (sel (decide (62 < n310))
   (haystacklaw06_BinomSums_j3 (n310) (n311) (true)
    (fun b330 => K0 (b330))
    (fun n331 n332 => haystacklaw06_BinomSums_j4 (n331) (n332)
     (fun b333 => K0 (b333))))
   (sel (decide (n311 < 0))
    (haystacklaw06_BinomSums_j3 (n310) (n311) (true)
     (fun b334 => K0 (b334))
     (fun n335 n336 => haystacklaw06_BinomSums_j4 (n335) (n336)
      (fun b337 => K0 (b337))))
    (haystacklaw06_BinomSums_j3 (n310) (n311) (decide (n310 < n311))
     (fun b338 => K0 (b338))
     (fun n339 n340 => haystacklaw06_BinomSums_j4 (n339) (n340)
      (fun b341 => K0 (b341))))))
noncomputable def haystacklaw06_BinomSums {R : Type} := shut (@haystacklaw06_BinomSums_B R)
theorem haystacklaw06_BinomSums_unf {R : Type} : @haystacklaw06_BinomSums R = @haystacklaw06_BinomSums_B R := shut_eq _

/-- what is kept where -/
def kpt : List (Nat × List (Nat × List Nat)) := [(3, [(13000, [0, 3, 999999]), (7000, [0, 3, 4, 999999]), (12003, [0, 3]), (12004, [0, 3, 4]), (12002, [2]), (12001, [0, 3, 4]), (12000, [0, 3, 4, 5, 999999]), (11000, [0, 3, 4, 5, 60, 999999]), (10000, [0, 3, 4, 5, 6, 999999]), (9000, [0, 3, 4, 5, 999999]), (8000, [0, 3, 4, 999999]), (6403, [0, 3]), (6402, [2]), (6401, []), (6400, [0, 3, 4]), (6000, [0, 3, 4, 999999]), (5000, [0, 3, 999999]), (4002, [2]), (4001, [2]), (4000, [0, 999999]), (3002, [2]), (3001, [0]), (3000, [0, 12, 999999]), (2000, [0, 999999])]), (4, [(8000, [0, 1, 5, 6, 7, 8, 9, 11, 999999]), (7000, [0, 1, 5, 6, 7, 8, 9, 999999]), (6000, [0, 1, 5, 6, 7, 999999]), (5000, [0, 1, 5, 999999]), (4002, [4]), (4001, [4]), (4000, [0, 1, 999999]), (3000, [0, 1, 26, 999999]), (2000, [0, 1, 999999])]), (5, [(6000, [0, 1, 9, 10, 11, 12, 13, 14, 15, 16, 999999]), (5000, [0, 1, 3, 9, 10, 11, 12, 13, 14, 999999]), (4000, [0, 1, 3, 9, 10, 11, 12, 999999]), (3000, [0, 1, 2, 3, 9, 10, 999999]), (2000, [0, 1, 2, 3, 999999])]), (6, [(6000, [0, 1, 5, 6, 7, 8, 999999]), (5000, [0, 1, 5, 6, 999999]), (4002, [4]), (4001, [4]), (4000, [0, 1, 999999]), (3000, [0, 1, 14, 999999]), (2000, [0, 1, 999999])]), (7, [(7000, [7, 8, 9, 10, 11, 12, 999999]), (6000, [2, 7, 8, 9, 10, 999999]), (5000, [2, 7, 8, 999999]), (4002, [6]), (4001, [6]), (4000, [0, 1, 2, 999999]), (3000, [0, 1, 2, 18, 999999]), (2000, [0, 1, 2, 999999])]), (8, [(4002, [4]), (4001, [4]), (4000, [0, 1, 999999]), (3002, [4]), (3001, [0, 1]), (3000, [0, 1, 19, 999999]), (2000, [0, 1, 999999])]), (9, [(6403, [1, 5]), (6402, [4]), (6401, []), (6400, [1, 5, 23, 24]), (4002, [4]), (4001, [4]), (4000, [0, 1])]), (10, [(999999999, []), (5000, [1, 2, 3, 4, 6, 999999]), (4000, [1, 2, 3, 4, 999999]), (3000, [1, 2, 999999]), (2000, [999999])]), (12, [(13201, [0, 1, 2, 8, 9]), (13003, [9]), (13004, [1, 2, 8, 9, 10]), (13002, [6, 7]), (13001, [1, 2, 8, 9, 10]), (13000, [1, 2, 8, 9, 10, 11]), (7601, [0, 1, 2, 8, 9]), (7403, [9]), (7402, [6, 7]), (7401, []), (7400, [1, 2, 8, 9, 10]), (6702, [6, 7]), (6701, [6, 7]), (6700, [0, 1, 2, 8, 9])]), (13, [(14003, [6, 8]), (14004, [0, 6, 7, 8, 9]), (14002, [4, 5]), (14001, [0, 6, 7, 8, 9]), (14000, [0, 6, 7, 8, 9, 10]), (9403, [6, 8]), (9402, [4, 5]), (9401, []), (9400, [0, 6, 7, 8, 9]), (4002, [4, 5]), (4001, [4, 5]), (4000, [0, 1])]), (14, [(8403, [6, 7]), (8402, [4, 5]), (8401, []), (8400, [0, 6, 7, 8, 9]), (4002, [4, 5]), (4001, [4, 5]), (4000, [0, 1])]), (15, [(8003, [8]), (8002, [6, 7]), (8001, [1, 2, 8, 9]), (8000, [1, 2, 8, 9]), (6403, [8]), (6402, [6, 7]), (6401, []), (6400, [1, 2, 8, 9])]), (16, [(10403, [1, 5]), (10404, [0, 1, 5, 6]), (10405, [0, 1, 5, 6]), (10402, [4]), (10401, []), (10400, [0, 1, 5, 6, 7]), (7403, [1, 5]), (7402, [4]), (7401, []), (7400, [0, 1, 5, 6]), (4002, [4]), (4001, [4]), (4000, [0, 1])]), (18, [(3403, []), (3402, [2]), (3401, []), (3400, [0, 3])]), (19, [(2403, []), (2402, []), (2401, []), (2400, [0, 4])]), (21, [(10000, [4, 999999]), (9000, [3, 4, 9, 10, 999999]), (8000, [3, 4, 5, 9, 10, 999999]), (7000, [3, 4, 5, 9, 10, 999999]), (6000, [3, 4, 9, 10, 11, 999999]), (5403, [4]), (5402, [2]), (5401, []), (5400, [3, 4, 9, 10]), (5000, [3, 4, 9, 10, 999999]), (4000, [0, 3, 4, 999999]), (3000, [0, 3, 999999]), (2000, [0, 999999])]), (24, [(6003, [5]), (6002, [4]), (6001, [0, 1, 5, 6]), (6000, [0, 1, 5, 6]), (4403, [5]), (4402, [4]), (4401, []), (4400, [0, 1, 5, 6])]), (25, [(11002, [2]), (11001, [2]), (11000, [0, 2]), (8002, [2]), (8001, [2]), (8000, [0, 2]), (5002, [2]), (5001, [2]), (5000, [0, 2])])]
/-- what is handed back open -/
def lvt : List (Nat × List Nat) := []
noncomputable def V (f : FuncId) : Env := env (keepOf kpt) (vsOf (match lkN lvt f with | some l => l | none => []))
theorem D0 : Dom B0 V B0 T0 0 := Dom.nil base_nat

noncomputable def o19r1_2400_in {R : Type} (K : Ex → St → Option R) (vs : List AV) (hh : H) : Option R := match vs, hh with
  | [AV.ptr 0 0, AV.int .i64 n13], [HB.live (Blk.ints .u64 xs14)] => binom_row_next_l2 n13 xs14 (fun x0 => K (Ex.exit 0) (St.mk (spread 25 0 [] []) [HB.live (Blk.ints .u64 x0)]))
  | _, _ => none

noncomputable def o19r1 : Nat → Option PSpec := lkN [(2400, fun st _ K => pickM 25 [0, 4] st (o19r1_2400_in K))]
noncomputable def q19r1 : CallF := evFun (V 19) B0 T0 10

noncomputable def c19r1_2400 : Code := subC [1, 0, 0] (bodyOf Try.f19)

noncomputable def lp19r1_2400 {R : Type} (N : Nat) (st : St) (K : Ex → St → Option R) : Option R := evLoop (norm ((V 19).keep 19 (Ev.keyOf c19r1_2400 * 1000 + 400)) 1) (evCode (V 19) q19r1 o19r1 19 1 3997 c19r1_2400) N st (kOut (V 19) 19 1 (Ev.keyOf c19r1_2400 * 1000 + 401) K)

theorem binom_row_next_l2_L_eq {R : Type} (K : Ex → St → Option R) : ∀ N : Nat, (fun (n13 : Int) (xs14 : List Int) => lp19r1_2400 N (St.mk (spread 25 0 [0, 4] [AV.ptr 0 0, AV.int .i64 n13]) [HB.live (Blk.ints .u64 xs14)]) K) = binom_row_next_l2_L (fun x0 => K (Ex.exit 0) (St.mk (spread 25 0 [] []) [HB.live (Blk.ints .u64 x0)])) N
  | 0 => by funext n13 xs14; rfl
  | N + 1 => by
    funext n13 xs14
    simp only [binom_row_next_l2_L]
    rw [← binom_row_next_l2_L_eq K N]
    kernel_rfl

theorem p19r1_2400 : PieceOk (V 19) q19r1 o19r1 19 1 (3997, 1, c19r1_2400) := .l (size := 25) (ss := [0, 4]) (F := @o19r1_2400_in) (by kernel_rfl) (by kernel_rfl) fun R r K vs hh h => by
  unfold o19r1_2400_in at h; split at h
  · rw [binom_row_next_l2_unf] at h; unfold binom_row_next_l2_B at h; rw [← binom_row_next_l2_L_eq K NR] at h; exact h
  · cases h

theorem pc19r1 : ∀ x ∈ [(3997, 1, c19r1_2400)], PieceOk (V 19) q19r1 o19r1 19 1 x := List.forall_mem_cons.2 ⟨p19r1_2400, fun _ h => nomatch h⟩

noncomputable def hs19 : HSpec := fun args h _ K => match args, h with
  | [AV.ptr 0 0, AV.int .i64 n11], [HB.live (Blk.ints .u64 xs12)] => binom_row_next_r n11 xs12 (fun x0 => K (AV.tup []) ([HB.live (Blk.ints .u64 x0)]))
  | _, _ => none
noncomputable def T19 := addT 19 hs19 T0
theorem D1 : Dom B0 V B0 T19 1 := Dom.t D0 fun args hh R K r h => by
  unfold hs19 at h; split at h
  · rw [binom_row_next_r_unf] at h; exact ⟨o19r1, (OrcOk.fn (fn0 := Try.f19) (by kernel_rfl) (by kernel_rfl) pc19r1), Eq.trans (by kernel_rfl) h⟩
  · cases h

noncomputable def o9_4000_in {R : Type} (K : Ex → St → Option R) (vs : List AV) (hh : H) : Option R := match vs, hh with
  | [AV.int .i64 n5, AV.int .i64 n6], [] => binom_Choose_j4 n5 n6 (fun x0 => K (Ex.ret) (St.mk (spread 33 0 [4] [AV.int .u64 x0]) []))
  | _, _ => none

noncomputable def o9_6400_in {R : Type} (K : Ex → St → Option R) (vs : List AV) (hh : H) : Option R := match vs, hh with
  | [AV.int .i64 n7, AV.ptr 0 0, AV.int .i64 n8, AV.int .i64 n9], [HB.live (Blk.ints .u64 xs10)] => binom_Choose_l6 n7 n8 n9 xs10 (fun x0 x1 => K (Ex.exit 0) (St.mk (spread 33 0 [1, 5] [AV.int .i64 x0, AV.ptr 0 0]) [HB.live (Blk.ints .u64 x1)]))
  | _, _ => none

noncomputable def o9 : Nat → Option PSpec := lkN [(4000, fun st _ K => pickM 33 [0, 1] st (o9_4000_in K)), (6400, fun st _ K => pickM 33 [1, 5, 23, 24] st (o9_6400_in K))]
noncomputable def q9 : CallF := evFun (V 9) B0 T19 10

noncomputable def c9_4000 : Code := subC [1, 1] (bodyOf Try.f9)

noncomputable def c9_6400 : Code := subC [1, 1, 1, 0, 1, 0, 0] (bodyOf Try.f9)

noncomputable def lp9_6400 {R : Type} (N : Nat) (st : St) (K : Ex → St → Option R) : Option R := evLoop (norm ((V 9).keep 9 (Ev.keyOf c9_6400 * 1000 + 400)) 0) (evCode (V 9) q9 o9 9 0 3993 c9_6400) N st (kOut (V 9) 9 0 (Ev.keyOf c9_6400 * 1000 + 401) K)

theorem binom_Choose_l6_L_eq {R : Type} (K : Ex → St → Option R) : ∀ N : Nat, (fun (n7 : Int) (n8 : Int) (n9 : Int) (xs10 : List Int) => lp9_6400 N (St.mk (spread 33 0 [1, 5, 23, 24] [AV.int .i64 n7, AV.ptr 0 0, AV.int .i64 n8, AV.int .i64 n9]) [HB.live (Blk.ints .u64 xs10)]) K) = binom_Choose_l6_L (fun x0 x1 => K (Ex.exit 0) (St.mk (spread 33 0 [1, 5] [AV.int .i64 x0, AV.ptr 0 0]) [HB.live (Blk.ints .u64 x1)])) N
  | 0 => by funext n7 n8 n9 xs10; rfl
  | N + 1 => by
    funext n7 n8 n9 xs10
    simp only [binom_Choose_l6_L]
    rw [← binom_Choose_l6_L_eq K N]
    kernel_rfl

theorem p9_4000 : PieceOk (V 9) q9 o9 9 0 (3998, 0, c9_4000) := .s (size := 33) (ss := [0, 1]) (F := @o9_4000_in) (by kernel_rfl) fun R r K vs hh h => by
  unfold o9_4000_in at h; split at h
  · rw [binom_Choose_j4_unf] at h; exact Eq.trans (by kernel_rfl) h
  · cases h

theorem p9_6400 : PieceOk (V 9) q9 o9 9 0 (3993, 1, c9_6400) := .l (size := 33) (ss := [1, 5, 23, 24]) (F := @o9_6400_in) (by kernel_rfl) (by kernel_rfl) fun R r K vs hh h => by
  unfold o9_6400_in at h; split at h
  · rw [binom_Choose_l6_unf] at h; unfold binom_Choose_l6_B at h; rw [← binom_Choose_l6_L_eq K NR] at h; exact h
  · cases h

theorem pc9 : ∀ x ∈ [(3998, 0, c9_4000), (3993, 1, c9_6400)], PieceOk (V 9) q9 o9 9 0 x := List.forall_mem_cons.2 ⟨p9_4000, List.forall_mem_cons.2 ⟨p9_6400, fun _ h => nomatch h⟩⟩

noncomputable def sp9 : Ev.Spec := fun args _ K => match args with
  | ([AV.int .i64 n3, AV.int .i64 n4]) => binom_Choose n3 n4 (fun x0 => K (AV.int .u64 x0))
  | _ => none
noncomputable def S9 := addS 9 sp9 B0
theorem D2 : Dom B0 V S9 T19 2 := Dom.s (m := 1) (n := 0) D1 D1 (O := o9) (OrcOk.fn (fn0 := Try.f9) (by kernel_rfl) (by kernel_rfl) pc9) fun args R K r h => by
  unfold sp9 at h; split at h
  · rw [binom_Choose_unf] at h; exact Eq.trans (by kernel_rfl) h
  · cases h

noncomputable def sp22 : Ev.Spec := fun args _ K => match args with
  | ([AV.int .i64 n26]) => word_Mask n26 (fun x0 => K (AV.int .u64 x0))
  | _ => none
noncomputable def S22 := addS 22 sp22 S9
theorem D3 : Dom B0 V S22 T19 3 := Dom.s (m := 2) (n := 0) D2 D2 (O := (fun _ => none)) (fun _ _ _ _ => OrcOk.none _ _) fun args R K r h => by
  unfold sp22 at h; split at h
  · rw [word_Mask_unf] at h; exact Eq.trans (by kernel_rfl) h
  · cases h

theorem math_bits_OnesCount64_eq {R : Type} (K : AV → Option R) (n29 : Int) : evSpec (V 26) S22 T19 (fun _ => none) 10 26 ([AV.int .u64 n29]) R K = math_bits_OnesCount64_B n29 (fun x0 => K (AV.int .i64 x0)) := by kernel_rfl

noncomputable def sp26 : Ev.Spec := fun args _ K => match args with
  | ([AV.int .u64 n29]) => math_bits_OnesCount64 n29 (fun x0 => K (AV.int .i64 x0))
  | _ => none
noncomputable def S26 := addS 26 sp26 S22
theorem D4 : Dom B0 V S26 T19 4 := Dom.s (m := 3) (n := 0) D3 D3 (O := (fun _ => none)) (fun _ _ _ _ => OrcOk.none _ _) fun args R K r h => by
  unfold sp26 at h; split at h
  · rw [math_bits_OnesCount64_unf] at h; exact (math_bits_OnesCount64_eq K _).trans h
  · cases h

noncomputable def sp23 : Ev.Spec := fun args _ K => match args with
  | ([AV.int .u64 n28]) => word_Pop n28 (fun x0 => K (AV.int .i64 x0))
  | _ => none
noncomputable def S23 := addS 23 sp23 S26
theorem D5 : Dom B0 V S23 T19 5 := Dom.s (m := 4) (n := 0) D4 D4 (O := (fun _ => none)) (fun _ _ _ _ => OrcOk.none _ _) fun args R K r h => by
  unfold sp23 at h; split at h
  · rw [word_Pop_unf] at h; exact Eq.trans (by kernel_rfl) h
  · cases h

noncomputable def o21_5400_in {R : Type} (K : Ex → St → Option R) (vs : List AV) (hh : H) : Option R := match vs, hh with
  | [AV.ptr 0 0, AV.sl 1 0 l36 1, AV.int .i64 n37, AV.int .i64 n38], [HB.live (Blk.ints .u64 xs39), HB.live (Blk.cols [Col.fints .u64 xss40] [])] => binom_rows_l5 l36 n37 n38 xs39 xss40 (fun x0 x1 => K (Ex.exit 0) (St.mk (spread 25 0 [4] [AV.sl 0 0 x0 1]) [HB.live (Blk.cols [Col.fints .u64 x1] [])]))
  | _, _ => none

noncomputable def o21 : Nat → Option PSpec := lkN [(5400, fun st _ K => pickM 25 [3, 4, 9, 10] st (o21_5400_in K))]
noncomputable def q21 : CallF := evFun (V 21) S23 T19 10

noncomputable def c21_5400 : Code := subC [1, 1, 1, 0, 1, 0, 0] (bodyOf Try.f21)

noncomputable def lp21_5400 {R : Type} (N : Nat) (st : St) (K : Ex → St → Option R) : Option R := evLoop (norm ((V 21).keep 21 (Ev.keyOf c21_5400 * 1000 + 400)) 0) (evCode (V 21) q21 o21 21 0 3993 c21_5400) N st (kOut (V 21) 21 0 (Ev.keyOf c21_5400 * 1000 + 401) K)

theorem binom_rows_l5_L_eq {R : Type} (K : Ex → St → Option R) : ∀ N : Nat, (fun (l36 : Nat) (n37 : Int) (n38 : Int) (xs39 : List Int) (xss40 : List (List Int)) => lp21_5400 N (St.mk (spread 25 0 [3, 4, 9, 10] [AV.ptr 0 0, AV.sl 1 0 l36 1, AV.int .i64 n37, AV.int .i64 n38]) [HB.live (Blk.ints .u64 xs39), HB.live (Blk.cols [Col.fints .u64 xss40] [])]) K) = binom_rows_l5_L (fun x0 x1 => K (Ex.exit 0) (St.mk (spread 25 0 [4] [AV.sl 0 0 x0 1]) [HB.live (Blk.cols [Col.fints .u64 x1] [])])) N
  | 0 => by funext l36 n37 n38 xs39 xss40; rfl
  | N + 1 => by
    funext l36 n37 n38 xs39 xss40
    simp only [binom_rows_l5_L]
    rw [← binom_rows_l5_L_eq K N]
    kernel_rfl

theorem p21_5400 : PieceOk (V 21) q21 o21 21 0 (3993, 1, c21_5400) := .l (size := 25) (ss := [3, 4, 9, 10]) (F := @o21_5400_in) (by kernel_rfl) (by kernel_rfl) fun R r K vs hh h => by
  unfold o21_5400_in at h; split at h
  · rw [binom_rows_l5_unf] at h; unfold binom_rows_l5_B at h; rw [← binom_rows_l5_L_eq K NR] at h; exact h
  · cases h

theorem pc21 : ∀ x ∈ [(3993, 1, c21_5400)], PieceOk (V 21) q21 o21 21 0 x := List.forall_mem_cons.2 ⟨p21_5400, fun _ h => nomatch h⟩

noncomputable def sp21 : Ev.Spec := fun args _ K => match args with
  | ([AV.int .i64 n35]) => binom_rows n35 (fun x0 => K (AV.fsl (Blk.cols [Col.fints .u64 x0] [])))
  | _ => none
noncomputable def S21 := addS 21 sp21 S23
theorem D6 : Dom B0 V S21 T19 6 := Dom.s (m := 5) (n := 0) D5 D5 (O := o21) (OrcOk.fn (fn0 := Try.f21) (by kernel_rfl) (by kernel_rfl) pc21) fun args R K r h => by
  unfold sp21 at h; split at h
  · rw [binom_rows_unf] at h; exact Eq.trans (by kernel_rfl) h
  · cases h

noncomputable def o25_5000_in {R : Type} (K : Ex → St → Option R) (vs : List AV) (hh : H) : Option R := match vs, hh with
  | [AV.int .u64 n55, AV.int .i64 n56], [] => math_bits_Len64_j5 n55 n56 (fun x0 => K (Ex.ret) (St.mk (spread 25 0 [2] [AV.int .i64 x0]) []))
  | _, _ => none

noncomputable def o25_8000_in {R : Type} (K : Ex → St → Option R) (vs : List AV) (hh : H) : Option R := match vs, hh with
  | [AV.int .u64 n57, AV.int .i64 n58], [] => math_bits_Len64_j8 n57 n58 (fun x0 => K (Ex.ret) (St.mk (spread 25 0 [2] [AV.int .i64 x0]) []))
  | _, _ => none

noncomputable def o25_11000_in {R : Type} (K : Ex → St → Option R) (vs : List AV) (hh : H) : Option R := match vs, hh with
  | [AV.int .u64 n59, AV.int .i64 n60], [] => math_bits_Len64_j11 n59 n60 (fun x0 => K (Ex.ret) (St.mk (spread 25 0 [2] [AV.int .i64 x0]) []))
  | _, _ => none

noncomputable def o25 : Nat → Option PSpec := lkN [(5000, fun st _ K => pickM 25 [0, 2] st (o25_5000_in K)), (8000, fun st _ K => pickM 25 [0, 2] st (o25_8000_in K)), (11000, fun st _ K => pickM 25 [0, 2] st (o25_11000_in K))]
noncomputable def q25 : CallF := evFun (V 25) S21 T19 10

noncomputable def c25_5000 : Code := subC [1, 1] (bodyOf Try.f25)

noncomputable def c25_8000 : Code := subC [1, 1, 1] (bodyOf Try.f25)

noncomputable def c25_11000 : Code := subC [1, 1, 1, 1] (bodyOf Try.f25)

theorem math_bits_Len64_j11_eq {R : Type} (K : Ex → St → Option R) (n59 : Int) (n60 : Int) : evCode (V 25) q25 o25 25 0 3996 c25_11000 (St.mk (spread 25 0 [0, 2] [AV.int .u64 n59, AV.int .i64 n60]) []) (kOut (V 25) 25 0 (Ev.keyOf c25_11000 * 1000 + 1) K) = math_bits_Len64_j11_B n59 n60 (fun x0 => K (Ex.ret) (St.mk (spread 25 0 [2] [AV.int .i64 x0]) [])) := by kernel_rfl

theorem p25_5000 : PieceOk (V 25) q25 o25 25 0 (3998, 0, c25_5000) := .s (size := 25) (ss := [0, 2]) (F := @o25_5000_in) (by kernel_rfl) fun R r K vs hh h => by
  unfold o25_5000_in at h; split at h
  · rw [math_bits_Len64_j5_unf] at h; exact Eq.trans (by kernel_rfl) h
  · cases h

theorem p25_8000 : PieceOk (V 25) q25 o25 25 0 (3997, 0, c25_8000) := .s (size := 25) (ss := [0, 2]) (F := @o25_8000_in) (by kernel_rfl) fun R r K vs hh h => by
  unfold o25_8000_in at h; split at h
  · rw [math_bits_Len64_j8_unf] at h; exact Eq.trans (by kernel_rfl) h
  · cases h

theorem p25_11000 : PieceOk (V 25) q25 o25 25 0 (3996, 0, c25_11000) := .s (size := 25) (ss := [0, 2]) (F := @o25_11000_in) (by kernel_rfl) fun R r K vs hh h => by
  unfold o25_11000_in at h; split at h
  · rw [math_bits_Len64_j11_unf] at h; exact (math_bits_Len64_j11_eq K _ _).trans h
  · cases h

theorem pc25 : ∀ x ∈ [(3998, 0, c25_5000), (3997, 0, c25_8000), (3996, 0, c25_11000)], PieceOk (V 25) q25 o25 25 0 x := List.forall_mem_cons.2 ⟨p25_5000, List.forall_mem_cons.2 ⟨p25_8000, List.forall_mem_cons.2 ⟨p25_11000, fun _ h => nomatch h⟩⟩⟩

noncomputable def sp25 : Ev.Spec := fun args _ K => match args with
  | ([AV.int .u64 n54]) => math_bits_Len64 n54 (fun x0 => K (AV.int .i64 x0))
  | _ => none
noncomputable def S25 := addS 25 sp25 S21
theorem D7 : Dom B0 V S25 T19 7 := Dom.s (m := 6) (n := 0) D6 D6 (O := o25) (OrcOk.fn (fn0 := Try.f25) (by kernel_rfl) (by kernel_rfl) pc25) fun args R K r h => by
  unfold sp25 at h; split at h
  · rw [math_bits_Len64_unf] at h; exact Eq.trans (by kernel_rfl) h
  · cases h

noncomputable def sp20 : Ev.Spec := fun args _ K => match args with
  | ([AV.int .u64 n53]) => word_Len n53 (fun x0 => K (AV.int .i64 x0))
  | _ => none
noncomputable def S20 := addS 20 sp20 S25
theorem D8 : Dom B0 V S20 T19 8 := Dom.s (m := 7) (n := 0) D7 D7 (O := (fun _ => none)) (fun _ _ _ _ => OrcOk.none _ _) fun args R K r h => by
  unfold sp20 at h; split at h
  · rw [word_Len_unf] at h; exact Eq.trans (by kernel_rfl) h
  · cases h

noncomputable def o13_4000_in {R : Type} (K : Ex → St → Option R) (vs : List AV) (hh : H) : Option R := match vs, hh with
  | [AV.int .u64 n24, AV.int .i64 n25], [] => binom_Offset_j4 n24 n25 (fun x0 x1 => K (Ex.ret) (St.mk (spread 51 0 [4, 5] [AV.int .i64 x0, AV.int .u64 x1]) []))
  | _, _ => none

noncomputable def o13_9400_in {R : Type} (K : Ex → St → Option R) (vs : List AV) (hh : H) : Option R := match vs, hh with
  | [AV.int .u64 n48, AV.int .i64 n49, AV.fsl (Blk.cols [Col.fints .u64 xss50] []), AV.int .u64 n51, AV.int .i64 n52], [] => binom_Offset_l9 n48 n49 xss50 n51 n52 (fun x0 x1 => K (Ex.exit 0) (St.mk (spread 51 0 [6, 8] [AV.int .i64 x0, AV.int .u64 x1]) []))
  | _, _ => none

noncomputable def o13_14000_in {R : Type} (K : Ex → St → Option R) (vs : List AV) (hh : H) : Option R := match vs, hh with
  | [AV.int .u64 n71, AV.int .i64 n72, AV.fsl (Blk.cols [Col.fints .u64 xss73] []), AV.int .u64 n74, AV.int .i64 n75, AV.int .i64 n76], [] => binom_Offset_j14 n71 n72 xss73 n74 n75 n76 (fun x0 x1 x2 x3 x4 => K (Ex.normal) (St.mk (spread 51 0 [0, 6, 7, 8, 9] [AV.int .u64 x0, AV.int .i64 x1, AV.fsl (Blk.cols [Col.fints .u64 x2] []), AV.int .u64 x3, AV.int .i64 x4]) []))
  | _, _ => none

noncomputable def o13 : Nat → Option PSpec := lkN [(4000, fun st _ K => pickM 51 [0, 1] st (o13_4000_in K)), (9400, fun st _ K => pickM 51 [0, 6, 7, 8, 9] st (o13_9400_in K)), (14000, fun st _ K => pickM 51 [0, 6, 7, 8, 9, 10] st (o13_14000_in K))]
noncomputable def q13 : CallF := evFun (V 13) S20 T19 10

noncomputable def c13_4000 : Code := subC [1, 1] (bodyOf Try.f13)

noncomputable def c13_9400 : Code := subC [1, 1, 1, 1, 1, 1, 0, 1, 0, 0] (bodyOf Try.f13)

noncomputable def lp13_9400 {R : Type} (N : Nat) (st : St) (K : Ex → St → Option R) : Option R := evLoop (norm ((V 13).keep 13 (Ev.keyOf c13_9400 * 1000 + 400)) 0) (evCode (V 13) q13 o13 13 0 3990 c13_9400) N st (kOut (V 13) 13 0 (Ev.keyOf c13_9400 * 1000 + 401) K)

noncomputable def c13_14000 : Code := subC [1, 1, 1, 1, 1, 1, 0, 1, 0, 0, 1, 0, 0, 1, 1] (bodyOf Try.f13)

theorem binom_Offset_l9_L_eq {R : Type} (K : Ex → St → Option R) : ∀ N : Nat, (fun (n48 : Int) (n49 : Int) (xss50 : List (List Int)) (n51 : Int) (n52 : Int) => lp13_9400 N (St.mk (spread 51 0 [0, 6, 7, 8, 9] [AV.int .u64 n48, AV.int .i64 n49, AV.fsl (Blk.cols [Col.fints .u64 xss50] []), AV.int .u64 n51, AV.int .i64 n52]) []) K) = binom_Offset_l9_L (fun x0 x1 => K (Ex.exit 0) (St.mk (spread 51 0 [6, 8] [AV.int .i64 x0, AV.int .u64 x1]) [])) N
  | 0 => by funext n48 n49 xss50 n51 n52; rfl
  | N + 1 => by
    funext n48 n49 xss50 n51 n52
    simp only [binom_Offset_l9_L]
    rw [← binom_Offset_l9_L_eq K N]
    kernel_rfl

theorem p13_4000 : PieceOk (V 13) q13 o13 13 0 (3998, 0, c13_4000) := .s (size := 51) (ss := [0, 1]) (F := @o13_4000_in) (by kernel_rfl) fun R r K vs hh h => by
  unfold o13_4000_in at h; split at h
  · rw [binom_Offset_j4_unf] at h; exact Eq.trans (by kernel_rfl) h
  · cases h

theorem p13_9400 : PieceOk (V 13) q13 o13 13 0 (3990, 1, c13_9400) := .l (size := 51) (ss := [0, 6, 7, 8, 9]) (F := @o13_9400_in) (by kernel_rfl) (by kernel_rfl) fun R r K vs hh h => by
  unfold o13_9400_in at h; split at h
  · rw [binom_Offset_l9_unf] at h; unfold binom_Offset_l9_B at h; rw [← binom_Offset_l9_L_eq K NR] at h; exact h
  · cases h

theorem p13_14000 : PieceOk (V 13) q13 o13 13 0 (3985, 0, c13_14000) := .s (size := 51) (ss := [0, 6, 7, 8, 9, 10]) (F := @o13_14000_in) (by kernel_rfl) fun R r K vs hh h => by
  unfold o13_14000_in at h; split at h
  · rw [binom_Offset_j14_unf] at h; exact Eq.trans (by kernel_rfl) h
  · cases h

theorem pc13 : ∀ x ∈ [(3998, 0, c13_4000), (3990, 1, c13_9400), (3985, 0, c13_14000)], PieceOk (V 13) q13 o13 13 0 x := List.forall_mem_cons.2 ⟨p13_4000, List.forall_mem_cons.2 ⟨p13_9400, List.forall_mem_cons.2 ⟨p13_14000, fun _ h => nomatch h⟩⟩⟩

noncomputable def sp13 : Ev.Spec := fun args _ K => match args with
  | ([AV.int .u64 n22, AV.int .i64 n23]) => binom_Offset n22 n23 (fun x0 x1 => K (AV.tup [AV.int .i64 x0, AV.int .u64 x1]))
  | _ => none
noncomputable def S13 := addS 13 sp13 S20
theorem D9 : Dom B0 V S13 T19 9 := Dom.s (m := 8) (n := 0) D8 D8 (O := o13) (OrcOk.fn (fn0 := Try.f13) (by kernel_rfl) (by kernel_rfl) pc13) fun args R K r h => by
  unfold sp13 at h; split at h
  · rw [binom_Offset_unf] at h; exact Eq.trans (by kernel_rfl) h
  · cases h

noncomputable def o12_7400_in {R : Type} (K : Ex → St → Option R) (vs : List AV) (hh : H) : Option R := match vs, hh with
  | [AV.int .i64 n98, AV.int .u64 n99, AV.fsl (Blk.cols [Col.fints .u64 xss100] []), AV.int .u64 n101, AV.int .i64 n102], [] => binom_Block_l7 n98 n99 xss100 n101 n102 (fun x0 => K (Ex.exit 0) (St.mk (spread 50 0 [9] [AV.int .u64 x0]) []))
  | _, _ => none

noncomputable def o12_13000_in {R : Type} (K : Ex → St → Option R) (vs : List AV) (hh : H) : Option R := match vs, hh with
  | [AV.int .i64 n104, AV.int .u64 n105, AV.fsl (Blk.cols [Col.fints .u64 xss106] []), AV.int .u64 n107, AV.int .i64 n108, AV.int .u64 n109], [] => binom_Block_j13 n104 n105 xss106 n107 n108 n109 (fun x0 x1 x2 x3 x4 => K (Ex.normal) (St.mk (spread 50 0 [1, 2, 8, 9, 10] [AV.int .i64 x0, AV.int .u64 x1, AV.fsl (Blk.cols [Col.fints .u64 x2] []), AV.int .u64 x3, AV.int .i64 x4]) []))
  | _, _ => none

noncomputable def o12 : Nat → Option PSpec := lkN [(7400, fun st _ K => pickM 50 [1, 2, 8, 9, 10] st (o12_7400_in K)), (13000, fun st _ K => pickM 50 [1, 2, 8, 9, 10, 11] st (o12_13000_in K))]
noncomputable def q12 : CallF := evFun (V 12) S13 T19 10

noncomputable def c12_7400 : Code := subC [1, 0, 1, 1, 1, 1, 0, 1, 0, 0] (bodyOf Try.f12)

noncomputable def lp12_7400 {R : Type} (N : Nat) (st : St) (K : Ex → St → Option R) : Option R := evLoop (norm ((V 12).keep 12 (Ev.keyOf c12_7400 * 1000 + 400)) 0) (evCode (V 12) q12 o12 12 0 3990 c12_7400) N st (kOut (V 12) 12 0 (Ev.keyOf c12_7400 * 1000 + 401) K)

noncomputable def c12_13000 : Code := subC [1, 0, 1, 1, 1, 1, 0, 1, 0, 0, 1, 0, 0, 1, 1, 1] (bodyOf Try.f12)

noncomputable def lp12_7400_3993 {R : Type} (N : Nat) (st : St) (K : Ex → St → Option R) : Option R := evLoop (norm ((V 12).keep 12 (Ev.keyOf c12_7400 * 1000 + 400)) 0) (evCode (V 12) q12 o12 12 0 3993 c12_7400) N st (kOut (V 12) 12 0 (Ev.keyOf c12_7400 * 1000 + 401) K)

theorem binom_Block_l7_L_eq {R : Type} (K : Ex → St → Option R) : ∀ N : Nat, (fun (n98 : Int) (n99 : Int) (xss100 : List (List Int)) (n101 : Int) (n102 : Int) => lp12_7400 N (St.mk (spread 50 0 [1, 2, 8, 9, 10] [AV.int .i64 n98, AV.int .u64 n99, AV.fsl (Blk.cols [Col.fints .u64 xss100] []), AV.int .u64 n101, AV.int .i64 n102]) []) K) = binom_Block_l7_L (fun x0 => K (Ex.exit 0) (St.mk (spread 50 0 [9] [AV.int .u64 x0]) [])) N
  | 0 => by funext n98 n99 xss100 n101 n102; rfl
  | N + 1 => by
    funext n98 n99 xss100 n101 n102
    simp only [binom_Block_l7_L]
    rw [← binom_Block_l7_L_eq K N]
    kernel_rfl

theorem binom_Block_l7_L_eq_3993 {R : Type} (K : Ex → St → Option R) : ∀ N : Nat, (fun (n98 : Int) (n99 : Int) (xss100 : List (List Int)) (n101 : Int) (n102 : Int) => lp12_7400_3993 N (St.mk (spread 50 0 [1, 2, 8, 9, 10] [AV.int .i64 n98, AV.int .u64 n99, AV.fsl (Blk.cols [Col.fints .u64 xss100] []), AV.int .u64 n101, AV.int .i64 n102]) []) K) = binom_Block_l7_L (fun x0 => K (Ex.exit 0) (St.mk (spread 50 0 [9] [AV.int .u64 x0]) [])) N
  | 0 => by funext n98 n99 xss100 n101 n102; rfl
  | N + 1 => by
    funext n98 n99 xss100 n101 n102
    simp only [binom_Block_l7_L]
    rw [← binom_Block_l7_L_eq_3993 K N]
    kernel_rfl

theorem p12_7400 : PieceOk (V 12) q12 o12 12 0 (3990, 1, c12_7400) := .l (size := 50) (ss := [1, 2, 8, 9, 10]) (F := @o12_7400_in) (by kernel_rfl) (by kernel_rfl) fun R r K vs hh h => by
  unfold o12_7400_in at h; split at h
  · rw [binom_Block_l7_unf] at h; unfold binom_Block_l7_B at h; rw [← binom_Block_l7_L_eq K NR] at h; exact h
  · cases h

theorem p12_13000 : PieceOk (V 12) q12 o12 12 0 (3984, 0, c12_13000) := .s (size := 50) (ss := [1, 2, 8, 9, 10, 11]) (F := @o12_13000_in) (by kernel_rfl) fun R r K vs hh h => by
  unfold o12_13000_in at h; split at h
  · rw [binom_Block_j13_unf] at h; exact Eq.trans (by kernel_rfl) h
  · cases h

theorem p12_7400_3993 : PieceOk (V 12) q12 o12 12 0 (3993, 1, c12_7400) := .l (size := 50) (ss := [1, 2, 8, 9, 10]) (F := @o12_7400_in) (by kernel_rfl) (by kernel_rfl) fun R r K vs hh h => by
  unfold o12_7400_in at h; split at h
  · rw [binom_Block_l7_unf] at h; unfold binom_Block_l7_B at h; rw [← binom_Block_l7_L_eq_3993 K NR] at h; exact h
  · cases h

theorem p12_13000_3987 : PieceOk (V 12) q12 o12 12 0 (3987, 0, c12_13000) := .s (size := 50) (ss := [1, 2, 8, 9, 10, 11]) (F := @o12_13000_in) (by kernel_rfl) fun R r K vs hh h => by
  unfold o12_13000_in at h; split at h
  · rw [binom_Block_j13_unf] at h; exact Eq.trans (by kernel_rfl) h
  · cases h

theorem pc12 : ∀ x ∈ [(3990, 1, c12_7400), (3984, 0, c12_13000), (3993, 1, c12_7400), (3987, 0, c12_13000)], PieceOk (V 12) q12 o12 12 0 x := List.forall_mem_cons.2 ⟨p12_7400, List.forall_mem_cons.2 ⟨p12_13000, List.forall_mem_cons.2 ⟨p12_7400_3993, List.forall_mem_cons.2 ⟨p12_13000_3987, fun _ h => nomatch h⟩⟩⟩⟩

noncomputable def sp12 : Ev.Spec := fun args _ K => match args with
  | ([AV.int .i64 n93, AV.int .i64 n94, AV.int .u64 n95]) => binom_Block n93 n94 n95 (fun x0 x1 => K (AV.tup [AV.int .u64 x0, AV.bool x1]))
  | _ => none
noncomputable def S12 := addS 12 sp12 S13
theorem D10 : Dom B0 V S12 T19 10 := Dom.s (m := 9) (n := 0) D9 D9 (O := o12) (OrcOk.fn (fn0 := Try.f12) (by kernel_rfl) (by kernel_rfl) pc12) fun args R K r h => by
  unfold sp12 at h; split at h
  · rw [binom_Block_unf] at h; exact Eq.trans (by kernel_rfl) h
  · cases h

noncomputable def sp11 : Ev.Spec := fun args _ K => match args with
  | ([AV.int .i64 n127, AV.int .i64 n128]) => binom_Width n127 n128 (fun x0 => K (AV.int .i64 x0))
  | _ => none
noncomputable def S11 := addS 11 sp11 S12
theorem D11 : Dom B0 V S11 T19 11 := Dom.s (m := 10) (n := 0) D10 D10 (O := (fun _ => none)) (fun _ _ _ _ => OrcOk.none _ _) fun args R K r h => by
  unfold sp11 at h; split at h
  · rw [binom_Width_unf] at h; exact Eq.trans (by kernel_rfl) h
  · cases h

noncomputable def sp10 : Ev.Spec := fun args _ K => match args with
  | ([]) => haystacklaw06_heads (fun x0 => K (AV.bool x0))
  | _ => none
noncomputable def S10 := addS 10 sp10 S11
theorem D12 : Dom B0 V S10 T19 12 := Dom.s (m := 11) (n := 0) D11 D11 (O := (fun _ => none)) (fun _ _ _ _ => OrcOk.none _ _) fun args R K r h => by
  unfold sp10 at h; split at h
  · rw [haystacklaw06_heads_unf] at h; exact Eq.trans (by kernel_rfl) h
  · cases h

noncomputable def o3_3000_in {R : Type} (K : Ex → St → Option R) (vs : List AV) (hh : H) : Option R := match vs, hh with
  | [AV.int .i64 n1, AV.bool b2], [] => haystacklaw06_BinomAll_j3 n1 b2 (fun x0 => K (Ex.ret) (St.mk (spread 72 0 [2] [AV.bool x0]) [])) (fun x0 => K (Ex.normal) (St.mk (spread 72 0 [0] [AV.int .i64 x0]) []))
  | _, _ => none

noncomputable def o3_4000_in {R : Type} (K : Ex → St → Option R) (vs : List AV) (hh : H) : Option R := match vs, hh with
  | [AV.int .i64 n135], [] => haystacklaw06_BinomAll_j4 n135 (fun x0 => K (Ex.ret) (St.mk (spread 72 0 [2] [AV.bool x0]) []))
  | _, _ => none

noncomputable def o3_6400_in {R : Type} (K : Ex → St → Option R) (vs : List AV) (hh : H) : Option R := match vs, hh with
  | [AV.int .i64 n136, AV.int .u64 n137, AV.int .i64 n138], [] => haystacklaw06_BinomAll_l6 n136 n137 n138 (fun x0 => K (Ex.ret) (St.mk (spread 72 0 [2] [AV.bool x0]) [])) (fun x0 x1 => K (Ex.exit 0) (St.mk (spread 72 0 [0, 3] [AV.int .i64 x0, AV.int .u64 x1]) []))
  | _, _ => none

noncomputable def o3_12000_in {R : Type} (K : Ex → St → Option R) (vs : List AV) (hh : H) : Option R := match vs, hh with
  | [AV.int .i64 n141, AV.int .u64 n142, AV.int .i64 n143, AV.int .u64 n144], [] => haystacklaw06_BinomAll_j12 n141 n142 n143 n144 (fun x0 x1 x2 => K (Ex.normal) (St.mk (spread 72 0 [0, 3, 4] [AV.int .i64 x0, AV.int .u64 x1, AV.int .i64 x2]) []))
  | _, _ => none

noncomputable def o3 : Nat → Option PSpec := lkN [(3000, fun st _ K => pickM 72 [0, 12] st (o3_3000_in K)), (4000, fun st _ K => pickM 72 [0] st (o3_4000_in K)), (6400, fun st _ K => pickM 72 [0, 3, 4] st (o3_6400_in K)), (12000, fun st _ K => pickM 72 [0, 3, 4, 5] st (o3_12000_in K))]
noncomputable def q3 : CallF := evFun (V 3) S10 T19 10

noncomputable def c3_4000 : Code := subC [1, 1] (bodyOf Try.f3)

noncomputable def c3_3000 : Code := subC [1, 0, 1] (bodyOf Try.f3)

noncomputable def c3_6400 : Code := subC [1, 1, 1, 0, 1, 0, 0] (bodyOf Try.f3)

noncomputable def lp3_6400 {R : Type} (N : Nat) (st : St) (K : Ex → St → Option R) : Option R := evLoop (norm ((V 3).keep 3 (Ev.keyOf c3_6400 * 1000 + 400)) 0) (evCode (V 3) q3 o3 3 0 3993 c3_6400) N st (kOut (V 3) 3 0 (Ev.keyOf c3_6400 * 1000 + 401) K)

noncomputable def c3_12000 : Code := subC [1, 1, 1, 0, 1, 0, 0, 1, 0, 0, 1, 1, 1] (bodyOf Try.f3)

theorem haystacklaw06_BinomAll_l6_L_eq {R : Type} (K : Ex → St → Option R) : ∀ N : Nat, (fun (n136 : Int) (n137 : Int) (n138 : Int) => lp3_6400 N (St.mk (spread 72 0 [0, 3, 4] [AV.int .i64 n136, AV.int .u64 n137, AV.int .i64 n138]) []) K) = haystacklaw06_BinomAll_l6_L (fun x0 => K (Ex.ret) (St.mk (spread 72 0 [2] [AV.bool x0]) [])) (fun x0 x1 => K (Ex.exit 0) (St.mk (spread 72 0 [0, 3] [AV.int .i64 x0, AV.int .u64 x1]) [])) N
  | 0 => by funext n136 n137 n138; rfl
  | N + 1 => by
    funext n136 n137 n138
    simp only [haystacklaw06_BinomAll_l6_L]
    rw [← haystacklaw06_BinomAll_l6_L_eq K N]
    kernel_rfl

theorem p3_4000 : PieceOk (V 3) q3 o3 3 0 (3998, 0, c3_4000) := .s (size := 72) (ss := [0]) (F := @o3_4000_in) (by kernel_rfl) fun R r K vs hh h => by
  unfold o3_4000_in at h; split at h
  · rw [haystacklaw06_BinomAll_j4_unf] at h; exact Eq.trans (by kernel_rfl) h
  · cases h

theorem p3_3000 : PieceOk (V 3) q3 o3 3 0 (3997, 0, c3_3000) := .s (size := 72) (ss := [0, 12]) (F := @o3_3000_in) (by kernel_rfl) fun R r K vs hh h => by
  unfold o3_3000_in at h; split at h
  · rw [haystacklaw06_BinomAll_j3_unf] at h; exact Eq.trans (by kernel_rfl) h
  · cases h

theorem p3_6400 : PieceOk (V 3) q3 o3 3 0 (3993, 1, c3_6400) := .l (size := 72) (ss := [0, 3, 4]) (F := @o3_6400_in) (by kernel_rfl) (by kernel_rfl) fun R r K vs hh h => by
  unfold o3_6400_in at h; split at h
  · rw [haystacklaw06_BinomAll_l6_unf] at h; unfold haystacklaw06_BinomAll_l6_B at h; rw [← haystacklaw06_BinomAll_l6_L_eq K NR] at h; exact h
  · cases h

theorem p3_12000 : PieceOk (V 3) q3 o3 3 0 (3987, 0, c3_12000) := .s (size := 72) (ss := [0, 3, 4, 5]) (F := @o3_12000_in) (by kernel_rfl) fun R r K vs hh h => by
  unfold o3_12000_in at h; split at h
  · rw [haystacklaw06_BinomAll_j12_unf] at h; exact Eq.trans (by kernel_rfl) h
  · cases h

theorem pc3 : ∀ x ∈ [(3998, 0, c3_4000), (3997, 0, c3_3000), (3993, 1, c3_6400), (3987, 0, c3_12000)], PieceOk (V 3) q3 o3 3 0 x := List.forall_mem_cons.2 ⟨p3_4000, List.forall_mem_cons.2 ⟨p3_3000, List.forall_mem_cons.2 ⟨p3_6400, List.forall_mem_cons.2 ⟨p3_12000, fun _ h => nomatch h⟩⟩⟩⟩

noncomputable def sp3 : Ev.Spec := fun args _ K => match args with
  | ([AV.int .i64 n0]) => haystacklaw06_BinomAll n0 (fun x0 => K (AV.bool x0))
  | _ => none
noncomputable def S3 := addS 3 sp3 S10
theorem D13 : Dom B0 V S3 T19 13 := Dom.s (m := 12) (n := 0) D12 D12 (O := o3) (OrcOk.fn (fn0 := Try.f3) (by kernel_rfl) (by kernel_rfl) pc3) fun args R K r h => by
  unfold sp3 at h; split at h
  · rw [haystacklaw06_BinomAll_unf] at h; exact Eq.trans (by kernel_rfl) h
  · cases h

noncomputable def o4_4000_in {R : Type} (K : Ex → St → Option R) (vs : List AV) (hh : H) : Option R := match vs, hh with
  | [AV.int .i64 n165, AV.int .i64 n166], [] => haystacklaw06_BinomEnds_j4 n165 n166 (fun x0 => K (Ex.ret) (St.mk (spread 83 0 [4] [AV.bool x0]) []))
  | _, _ => none

noncomputable def o4 : Nat → Option PSpec := lkN [(4000, fun st _ K => pickM 83 [0, 1] st (o4_4000_in K))]
noncomputable def q4 : CallF := evFun (V 4) S3 T19 10

noncomputable def c4_4000 : Code := subC [1, 1] (bodyOf Try.f4)

theorem p4_4000 : PieceOk (V 4) q4 o4 4 0 (3998, 0, c4_4000) := .s (size := 83) (ss := [0, 1]) (F := @o4_4000_in) (by kernel_rfl) fun R r K vs hh h => by
  unfold o4_4000_in at h; split at h
  · rw [haystacklaw06_BinomEnds_j4_unf] at h; exact Eq.trans (by kernel_rfl) h
  · cases h

theorem pc4 : ∀ x ∈ [(3998, 0, c4_4000)], PieceOk (V 4) q4 o4 4 0 x := List.forall_mem_cons.2 ⟨p4_4000, fun _ h => nomatch h⟩

noncomputable def sp4 : Ev.Spec := fun args _ K => match args with
  | ([AV.int .i64 n159, AV.int .i64 n160]) => haystacklaw06_BinomEnds n159 n160 (fun x0 => K (AV.bool x0))
  | _ => none
noncomputable def S4 := addS 4 sp4 S3
theorem D14 : Dom B0 V S4 T19 14 := Dom.s (m := 13) (n := 0) D13 D13 (O := o4) (OrcOk.fn (fn0 := Try.f4) (by kernel_rfl) (by kernel_rfl) pc4) fun args R K r h => by
  unfold sp4 at h; split at h
  · rw [haystacklaw06_BinomEnds_unf] at h; exact Eq.trans (by kernel_rfl) h
  · cases h

noncomputable def o24_4400_in {R : Type} (K : Ex → St → Option R) (vs : List AV) (hh : H) : Option R := match vs, hh with
  | [AV.int .u64 n190, AV.int .i64 n191, AV.int .i64 n192, AV.int .i64 n193], [] => haystackref01_Rank_l4 n190 n191 n192 n193 (fun x0 => K (Ex.exit 0) (St.mk (spread 25 0 [5] [AV.int .i64 x0]) []))
  | _, _ => none

noncomputable def o24_6000_in {R : Type} (K : Ex → St → Option R) (vs : List AV) (hh : H) : Option R := match vs, hh with
  | [AV.int .u64 n194, AV.int .i64 n195, AV.int .i64 n196, AV.int .i64 n197], [] => haystackref01_Rank_j6 n194 n195 n196 n197 (fun x0 x1 x2 x3 => K (Ex.normal) (St.mk (spread 25 0 [0, 1, 5, 6] [AV.int .u64 x0, AV.int .i64 x1, AV.int .i64 x2, AV.int .i64 x3]) []))
  | _, _ => none

noncomputable def o24 : Nat → Option PSpec := lkN [(4400, fun st _ K => pickM 25 [0, 1, 5, 6] st (o24_4400_in K)), (6000, fun st _ K => pickM 25 [0, 1, 5, 6] st (o24_6000_in K))]
noncomputable def q24 : CallF := evFun (V 24) S4 T19 10

noncomputable def c24_4400 : Code := subC [1, 1, 0, 1, 0, 0] (bodyOf Try.f24)

noncomputable def lp24_4400 {R : Type} (N : Nat) (st : St) (K : Ex → St → Option R) : Option R := evLoop (norm ((V 24).keep 24 (Ev.keyOf c24_4400 * 1000 + 400)) 0) (evCode (V 24) q24 o24 24 0 3994 c24_4400) N st (kOut (V 24) 24 0 (Ev.keyOf c24_4400 * 1000 + 401) K)

noncomputable def c24_6000 : Code := subC [1, 1, 0, 1, 0, 0, 1] (bodyOf Try.f24)

theorem haystackref01_Rank_l4_L_eq {R : Type} (K : Ex → St → Option R) : ∀ N : Nat, (fun (n190 : Int) (n191 : Int) (n192 : Int) (n193 : Int) => lp24_4400 N (St.mk (spread 25 0 [0, 1, 5, 6] [AV.int .u64 n190, AV.int .i64 n191, AV.int .i64 n192, AV.int .i64 n193]) []) K) = haystackref01_Rank_l4_L (fun x0 => K (Ex.exit 0) (St.mk (spread 25 0 [5] [AV.int .i64 x0]) [])) N
  | 0 => by funext n190 n191 n192 n193; rfl
  | N + 1 => by
    funext n190 n191 n192 n193
    simp only [haystackref01_Rank_l4_L]
    rw [← haystackref01_Rank_l4_L_eq K N]
    kernel_rfl

theorem p24_4400 : PieceOk (V 24) q24 o24 24 0 (3994, 1, c24_4400) := .l (size := 25) (ss := [0, 1, 5, 6]) (F := @o24_4400_in) (by kernel_rfl) (by kernel_rfl) fun R r K vs hh h => by
  unfold o24_4400_in at h; split at h
  · rw [haystackref01_Rank_l4_unf] at h; unfold haystackref01_Rank_l4_B at h; rw [← haystackref01_Rank_l4_L_eq K NR] at h; exact h
  · cases h

theorem p24_6000 : PieceOk (V 24) q24 o24 24 0 (3993, 0, c24_6000) := .s (size := 25) (ss := [0, 1, 5, 6]) (F := @o24_6000_in) (by kernel_rfl) fun R r K vs hh h => by
  unfold o24_6000_in at h; split at h
  · rw [haystackref01_Rank_j6_unf] at h; exact Eq.trans (by kernel_rfl) h
  · cases h

theorem pc24 : ∀ x ∈ [(3994, 1, c24_4400), (3993, 0, c24_6000)], PieceOk (V 24) q24 o24 24 0 x := List.forall_mem_cons.2 ⟨p24_4400, List.forall_mem_cons.2 ⟨p24_6000, fun _ h => nomatch h⟩⟩

noncomputable def sp24 : Ev.Spec := fun args _ K => match args with
  | ([AV.int .u64 n188, AV.int .i64 n189]) => haystackref01_Rank n188 n189 (fun x0 => K (AV.int .i64 x0))
  | _ => none
noncomputable def S24 := addS 24 sp24 S4
theorem D15 : Dom B0 V S24 T19 15 := Dom.s (m := 14) (n := 0) D14 D14 (O := o24) (OrcOk.fn (fn0 := Try.f24) (by kernel_rfl) (by kernel_rfl) pc24) fun args R K r h => by
  unfold sp24 at h; split at h
  · rw [haystackref01_Rank_unf] at h; exact Eq.trans (by kernel_rfl) h
  · cases h

noncomputable def o16_4000_in {R : Type} (K : Ex → St → Option R) (vs : List AV) (hh : H) : Option R := match vs, hh with
  | [AV.int .i64 n211, AV.int .i64 n212], [] => haystackref06_Choose_j4 n211 n212 (fun x0 => K (Ex.ret) (St.mk (spread 55 0 [4] [AV.int .u64 x0]) []))
  | _, _ => none

noncomputable def o16_7400_in {R : Type} (K : Ex → St → Option R) (vs : List AV) (hh : H) : Option R := match vs, hh with
  | [AV.int .i64 n215, AV.int .i64 n216, AV.sl 0 0 l217 1, AV.int .i64 n218], [HB.live (Blk.ints .u64 xs219)] => haystackref06_Choose_l7 n215 n216 l217 n218 xs219 (fun x0 x1 x2 => K (Ex.exit 0) (St.mk (spread 55 0 [1, 5] [AV.int .i64 x0, AV.sl 0 0 x1 1]) [HB.live (Blk.ints .u64 x2)]))
  | _, _ => none

noncomputable def o16_10400_in {R : Type} (K : Ex → St → Option R) (vs : List AV) (hh : H) : Option R := match vs, hh with
  | [AV.int .i64 n220, AV.int .i64 n221, AV.sl 0 0 l222 1, AV.int .i64 n223, AV.int .i64 n224], [HB.live (Blk.ints .u64 xs225)] => haystackref06_Choose_l10 n220 n221 l222 n223 n224 xs225 (fun x0 x1 x2 x3 x4 => K (Ex.exit 2) (St.mk (spread 55 0 [0, 1, 5, 6] [AV.int .i64 x0, AV.int .i64 x1, AV.sl 0 0 x2 1, AV.int .i64 x3]) [HB.live (Blk.ints .u64 x4)]))
  | _, _ => none

noncomputable def o16 : Nat → Option PSpec := lkN [(4000, fun st _ K => pickM 55 [0, 1] st (o16_4000_in K)), (7400, fun st _ K => pickM 55 [0, 1, 5, 6] st (o16_7400_in K)), (10400, fun st _ K => pickM 55 [0, 1, 5, 6, 7] st (o16_10400_in K))]
noncomputable def q16 : CallF := evFun (V 16) S24 T19 10

noncomputable def c16_4000 : Code := subC [1, 1] (bodyOf Try.f16)

noncomputable def c16_7400 : Code := subC [1, 1, 1, 1, 0, 1, 0, 0] (bodyOf Try.f16)

noncomputable def lp16_7400 {R : Type} (N : Nat) (st : St) (K : Ex → St → Option R) : Option R := evLoop (norm ((V 16).keep 16 (Ev.keyOf c16_7400 * 1000 + 400)) 0) (evCode (V 16) q16 o16 16 0 3992 c16_7400) N st (kOut (V 16) 16 0 (Ev.keyOf c16_7400 * 1000 + 401) K)

noncomputable def c16_10400 : Code := subC [1, 1, 1, 1, 0, 1, 0, 0, 1, 0, 0, 1, 0, 0] (bodyOf Try.f16)

noncomputable def lp16_10400 {R : Type} (N : Nat) (st : St) (K : Ex → St → Option R) : Option R := evLoop (norm ((V 16).keep 16 (Ev.keyOf c16_10400 * 1000 + 400)) 0) (evCode (V 16) q16 o16 16 0 3986 c16_10400) N st (kOut (V 16) 16 0 (Ev.keyOf c16_10400 * 1000 + 401) K)

theorem haystackref06_Choose_l10_L_eq {R : Type} (K : Ex → St → Option R) : ∀ N : Nat, (fun (n220 : Int) (n221 : Int) (l222 : Nat) (n223 : Int) (n224 : Int) (xs225 : List Int) => lp16_10400 N (St.mk (spread 55 0 [0, 1, 5, 6, 7] [AV.int .i64 n220, AV.int .i64 n221, AV.sl 0 0 l222 1, AV.int .i64 n223, AV.int .i64 n224]) [HB.live (Blk.ints .u64 xs225)]) K) = haystackref06_Choose_l10_L (fun x0 x1 x2 x3 x4 => K (Ex.exit 2) (St.mk (spread 55 0 [0, 1, 5, 6] [AV.int .i64 x0, AV.int .i64 x1, AV.sl 0 0 x2 1, AV.int .i64 x3]) [HB.live (Blk.ints .u64 x4)])) N
  | 0 => by funext n220 n221 l222 n223 n224 xs225; rfl
  | N + 1 => by
    funext n220 n221 l222 n223 n224 xs225
    simp only [haystackref06_Choose_l10_L]
    rw [← haystackref06_Choose_l10_L_eq K N]
    kernel_rfl

theorem haystackref06_Choose_l7_L_eq {R : Type} (K : Ex → St → Option R) : ∀ N : Nat, (fun (n215 : Int) (n216 : Int) (l217 : Nat) (n218 : Int) (xs219 : List Int) => lp16_7400 N (St.mk (spread 55 0 [0, 1, 5, 6] [AV.int .i64 n215, AV.int .i64 n216, AV.sl 0 0 l217 1, AV.int .i64 n218]) [HB.live (Blk.ints .u64 xs219)]) K) = haystackref06_Choose_l7_L (fun x0 x1 x2 => K (Ex.exit 0) (St.mk (spread 55 0 [1, 5] [AV.int .i64 x0, AV.sl 0 0 x1 1]) [HB.live (Blk.ints .u64 x2)])) N
  | 0 => by funext n215 n216 l217 n218 xs219; rfl
  | N + 1 => by
    funext n215 n216 l217 n218 xs219
    simp only [haystackref06_Choose_l7_L]
    rw [← haystackref06_Choose_l7_L_eq K N]
    kernel_rfl

theorem p16_4000 : PieceOk (V 16) q16 o16 16 0 (3998, 0, c16_4000) := .s (size := 55) (ss := [0, 1]) (F := @o16_4000_in) (by kernel_rfl) fun R r K vs hh h => by
  unfold o16_4000_in at h; split at h
  · rw [haystackref06_Choose_j4_unf] at h; exact Eq.trans (by kernel_rfl) h
  · cases h

theorem p16_7400 : PieceOk (V 16) q16 o16 16 0 (3992, 1, c16_7400) := .l (size := 55) (ss := [0, 1, 5, 6]) (F := @o16_7400_in) (by kernel_rfl) (by kernel_rfl) fun R r K vs hh h => by
  unfold o16_7400_in at h; split at h
  · rw [haystackref06_Choose_l7_unf] at h; unfold haystackref06_Choose_l7_B at h; rw [← haystackref06_Choose_l7_L_eq K NR] at h; exact h
  · cases h

theorem p16_10400 : PieceOk (V 16) q16 o16 16 0 (3986, 1, c16_10400) := .l (size := 55) (ss := [0, 1, 5, 6, 7]) (F := @o16_10400_in) (by kernel_rfl) (by kernel_rfl) fun R r K vs hh h => by
  unfold o16_10400_in at h; split at h
  · rw [haystackref06_Choose_l10_unf] at h; unfold haystackref06_Choose_l10_B at h; rw [← haystackref06_Choose_l10_L_eq K NR] at h; exact h
  · cases h

theorem pc16 : ∀ x ∈ [(3998, 0, c16_4000), (3992, 1, c16_7400), (3986, 1, c16_10400)], PieceOk (V 16) q16 o16 16 0 x := List.forall_mem_cons.2 ⟨p16_4000, List.forall_mem_cons.2 ⟨p16_7400, List.forall_mem_cons.2 ⟨p16_10400, fun _ h => nomatch h⟩⟩⟩

noncomputable def sp16 : Ev.Spec := fun args _ K => match args with
  | ([AV.int .i64 n209, AV.int .i64 n210]) => haystackref06_Choose n209 n210 (fun x0 => K (AV.int .u64 x0))
  | _ => none
noncomputable def S16 := addS 16 sp16 S24
theorem D16 : Dom B0 V S16 T19 16 := Dom.s (m := 15) (n := 0) D15 D15 (O := o16) (OrcOk.fn (fn0 := Try.f16) (by kernel_rfl) (by kernel_rfl) pc16) fun args R K r h => by
  unfold sp16 at h; split at h
  · rw [haystackref06_Choose_unf] at h; exact Eq.trans (by kernel_rfl) h
  · cases h

noncomputable def o14_4000_in {R : Type} (K : Ex → St → Option R) (vs : List AV) (hh : H) : Option R := match vs, hh with
  | [AV.int .u64 n186, AV.int .i64 n187], [] => haystackref06_Offset_j4 n186 n187 (fun x0 x1 => K (Ex.ret) (St.mk (spread 41 0 [4, 5] [AV.int .i64 x0, AV.int .u64 x1]) []))
  | _, _ => none

noncomputable def o14_8400_in {R : Type} (K : Ex → St → Option R) (vs : List AV) (hh : H) : Option R := match vs, hh with
  | [AV.int .u64 n204, AV.int .i64 n205, AV.int .u64 n206, AV.int .i64 n207, AV.int .i64 n208], [] => haystackref06_Offset_l8 n204 n205 n206 n207 n208 (fun x0 x1 => K (Ex.exit 0) (St.mk (spread 41 0 [6, 7] [AV.int .i64 x0, AV.int .u64 x1]) []))
  | _, _ => none

noncomputable def o14 : Nat → Option PSpec := lkN [(4000, fun st _ K => pickM 41 [0, 1] st (o14_4000_in K)), (8400, fun st _ K => pickM 41 [0, 6, 7, 8, 9] st (o14_8400_in K))]
noncomputable def q14 : CallF := evFun (V 14) S16 T19 10

noncomputable def c14_4000 : Code := subC [1, 1] (bodyOf Try.f14)

noncomputable def c14_8400 : Code := subC [1, 1, 1, 1, 1, 0, 1, 0, 0] (bodyOf Try.f14)

noncomputable def lp14_8400 {R : Type} (N : Nat) (st : St) (K : Ex → St → Option R) : Option R := evLoop (norm ((V 14).keep 14 (Ev.keyOf c14_8400 * 1000 + 400)) 0) (evCode (V 14) q14 o14 14 0 3991 c14_8400) N st (kOut (V 14) 14 0 (Ev.keyOf c14_8400 * 1000 + 401) K)

theorem haystackref06_Offset_l8_L_eq {R : Type} (K : Ex → St → Option R) : ∀ N : Nat, (fun (n204 : Int) (n205 : Int) (n206 : Int) (n207 : Int) (n208 : Int) => lp14_8400 N (St.mk (spread 41 0 [0, 6, 7, 8, 9] [AV.int .u64 n204, AV.int .i64 n205, AV.int .u64 n206, AV.int .i64 n207, AV.int .i64 n208]) []) K) = haystackref06_Offset_l8_L (fun x0 x1 => K (Ex.exit 0) (St.mk (spread 41 0 [6, 7] [AV.int .i64 x0, AV.int .u64 x1]) [])) N
  | 0 => by funext n204 n205 n206 n207 n208; rfl
  | N + 1 => by
    funext n204 n205 n206 n207 n208
    simp only [haystackref06_Offset_l8_L]
    rw [← haystackref06_Offset_l8_L_eq K N]
    kernel_rfl

theorem p14_4000 : PieceOk (V 14) q14 o14 14 0 (3998, 0, c14_4000) := .s (size := 41) (ss := [0, 1]) (F := @o14_4000_in) (by kernel_rfl) fun R r K vs hh h => by
  unfold o14_4000_in at h; split at h
  · rw [haystackref06_Offset_j4_unf] at h; exact Eq.trans (by kernel_rfl) h
  · cases h

theorem p14_8400 : PieceOk (V 14) q14 o14 14 0 (3991, 1, c14_8400) := .l (size := 41) (ss := [0, 6, 7, 8, 9]) (F := @o14_8400_in) (by kernel_rfl) (by kernel_rfl) fun R r K vs hh h => by
  unfold o14_8400_in at h; split at h
  · rw [haystackref06_Offset_l8_unf] at h; unfold haystackref06_Offset_l8_B at h; rw [← haystackref06_Offset_l8_L_eq K NR] at h; exact h
  · cases h

theorem pc14 : ∀ x ∈ [(3998, 0, c14_4000), (3991, 1, c14_8400)], PieceOk (V 14) q14 o14 14 0 x := List.forall_mem_cons.2 ⟨p14_4000, List.forall_mem_cons.2 ⟨p14_8400, fun _ h => nomatch h⟩⟩

noncomputable def sp14 : Ev.Spec := fun args _ K => match args with
  | ([AV.int .u64 n184, AV.int .i64 n185]) => haystackref06_Offset n184 n185 (fun x0 x1 => K (AV.tup [AV.int .i64 x0, AV.int .u64 x1]))
  | _ => none
noncomputable def S14 := addS 14 sp14 S16
theorem D17 : Dom B0 V S14 T19 17 := Dom.s (m := 16) (n := 0) D16 D16 (O := o14) (OrcOk.fn (fn0 := Try.f14) (by kernel_rfl) (by kernel_rfl) pc14) fun args R K r h => by
  unfold sp14 at h; split at h
  · rw [haystackref06_Offset_unf] at h; exact Eq.trans (by kernel_rfl) h
  · cases h

noncomputable def o15_6400_in {R : Type} (K : Ex → St → Option R) (vs : List AV) (hh : H) : Option R := match vs, hh with
  | [AV.int .i64 n249, AV.int .u64 n250, AV.int .u64 n251, AV.int .i64 n252], [] => haystackref06_Block_l6 n249 n250 n251 n252 (fun x0 => K (Ex.exit 0) (St.mk (spread 43 0 [8] [AV.int .u64 x0]) []))
  | _, _ => none

noncomputable def o15_8000_in {R : Type} (K : Ex → St → Option R) (vs : List AV) (hh : H) : Option R := match vs, hh with
  | [AV.int .i64 n253, AV.int .u64 n254, AV.int .u64 n255, AV.int .i64 n256], [] => haystackref06_Block_j8 n253 n254 n255 n256 (fun x0 x1 x2 x3 => K (Ex.normal) (St.mk (spread 43 0 [1, 2, 8, 9] [AV.int .i64 x0, AV.int .u64 x1, AV.int .u64 x2, AV.int .i64 x3]) []))
  | _, _ => none

noncomputable def o15 : Nat → Option PSpec := lkN [(6400, fun st _ K => pickM 43 [1, 2, 8, 9] st (o15_6400_in K)), (8000, fun st _ K => pickM 43 [1, 2, 8, 9] st (o15_8000_in K))]
noncomputable def q15 : CallF := evFun (V 15) S14 T19 10

noncomputable def c15_6400 : Code := subC [1, 1, 1, 0, 1, 0, 0] (bodyOf Try.f15)

noncomputable def lp15_6400 {R : Type} (N : Nat) (st : St) (K : Ex → St → Option R) : Option R := evLoop (norm ((V 15).keep 15 (Ev.keyOf c15_6400 * 1000 + 400)) 0) (evCode (V 15) q15 o15 15 0 3993 c15_6400) N st (kOut (V 15) 15 0 (Ev.keyOf c15_6400 * 1000 + 401) K)

noncomputable def c15_8000 : Code := subC [1, 1, 1, 0, 1, 0, 0, 1] (bodyOf Try.f15)

theorem haystackref06_Block_l6_L_eq {R : Type} (K : Ex → St → Option R) : ∀ N : Nat, (fun (n249 : Int) (n250 : Int) (n251 : Int) (n252 : Int) => lp15_6400 N (St.mk (spread 43 0 [1, 2, 8, 9] [AV.int .i64 n249, AV.int .u64 n250, AV.int .u64 n251, AV.int .i64 n252]) []) K) = haystackref06_Block_l6_L (fun x0 => K (Ex.exit 0) (St.mk (spread 43 0 [8] [AV.int .u64 x0]) [])) N
  | 0 => by funext n249 n250 n251 n252; rfl
  | N + 1 => by
    funext n249 n250 n251 n252
    simp only [haystackref06_Block_l6_L]
    rw [← haystackref06_Block_l6_L_eq K N]
    kernel_rfl

theorem p15_6400 : PieceOk (V 15) q15 o15 15 0 (3993, 1, c15_6400) := .l (size := 43) (ss := [1, 2, 8, 9]) (F := @o15_6400_in) (by kernel_rfl) (by kernel_rfl) fun R r K vs hh h => by
  unfold o15_6400_in at h; split at h
  · rw [haystackref06_Block_l6_unf] at h; unfold haystackref06_Block_l6_B at h; rw [← haystackref06_Block_l6_L_eq K NR] at h; exact h
  · cases h

theorem p15_8000 : PieceOk (V 15) q15 o15 15 0 (3992, 0, c15_8000) := .s (size := 43) (ss := [1, 2, 8, 9]) (F := @o15_8000_in) (by kernel_rfl) fun R r K vs hh h => by
  unfold o15_8000_in at h; split at h
  · rw [haystackref06_Block_j8_unf] at h; exact Eq.trans (by kernel_rfl) h
  · cases h

theorem pc15 : ∀ x ∈ [(3993, 1, c15_6400), (3992, 0, c15_8000)], PieceOk (V 15) q15 o15 15 0 x := List.forall_mem_cons.2 ⟨p15_6400, List.forall_mem_cons.2 ⟨p15_8000, fun _ h => nomatch h⟩⟩

noncomputable def sp15 : Ev.Spec := fun args _ K => match args with
  | ([AV.int .i64 n245, AV.int .i64 n246, AV.int .u64 n247]) => haystackref06_Block n245 n246 n247 (fun x0 x1 => K (AV.tup [AV.int .u64 x0, AV.bool x1]))
  | _ => none
noncomputable def S15 := addS 15 sp15 S14
theorem D18 : Dom B0 V S15 T19 18 := Dom.s (m := 17) (n := 0) D17 D17 (O := o15) (OrcOk.fn (fn0 := Try.f15) (by kernel_rfl) (by kernel_rfl) pc15) fun args R K r h => by
  unfold sp15 at h; split at h
  · rw [haystackref06_Block_unf] at h; exact Eq.trans (by kernel_rfl) h
  · cases h

noncomputable def o18_3400_in {R : Type} (K : Ex → St → Option R) (vs : List AV) (hh : H) : Option R := match vs, hh with
  | [AV.int .u64 n272, AV.int .i64 n273], [] => haystackref01_Len_l3 n272 n273 (fun x0 => K (Ex.ret) (St.mk (spread 16 0 [2] [AV.int .i64 x0]) [])) (fun _ => K (Ex.exit 0) (St.mk (spread 16 0 [] []) []))
  | _, _ => none

noncomputable def o18 : Nat → Option PSpec := lkN [(3400, fun st _ K => pickM 16 [0, 3] st (o18_3400_in K))]
noncomputable def q18 : CallF := evFun (V 18) S15 T19 10

noncomputable def c18_3400 : Code := subC [1, 0, 1, 0, 0] (bodyOf Try.f18)

noncomputable def lp18_3400 {R : Type} (N : Nat) (st : St) (K : Ex → St → Option R) : Option R := evLoop (norm ((V 18).keep 18 (Ev.keyOf c18_3400 * 1000 + 400)) 0) (evCode (V 18) q18 o18 18 0 3995 c18_3400) N st (kOut (V 18) 18 0 (Ev.keyOf c18_3400 * 1000 + 401) K)

theorem haystackref01_Len_l3_L_eq {R : Type} (K : Ex → St → Option R) : ∀ N : Nat, (fun (n272 : Int) (n273 : Int) => lp18_3400 N (St.mk (spread 16 0 [0, 3] [AV.int .u64 n272, AV.int .i64 n273]) []) K) = haystackref01_Len_l3_L (fun x0 => K (Ex.ret) (St.mk (spread 16 0 [2] [AV.int .i64 x0]) [])) (fun _ => K (Ex.exit 0) (St.mk (spread 16 0 [] []) [])) N
  | 0 => by funext n272 n273; rfl
  | N + 1 => by
    funext n272 n273
    simp only [haystackref01_Len_l3_L]
    rw [← haystackref01_Len_l3_L_eq K N]
    kernel_rfl

theorem p18_3400 : PieceOk (V 18) q18 o18 18 0 (3995, 1, c18_3400) := .l (size := 16) (ss := [0, 3]) (F := @o18_3400_in) (by kernel_rfl) (by kernel_rfl) fun R r K vs hh h => by
  unfold o18_3400_in at h; split at h
  · rw [haystackref01_Len_l3_unf] at h; unfold haystackref01_Len_l3_B at h; rw [← haystackref01_Len_l3_L_eq K NR] at h; exact h
  · cases h

theorem pc18 : ∀ x ∈ [(3995, 1, c18_3400)], PieceOk (V 18) q18 o18 18 0 x := List.forall_mem_cons.2 ⟨p18_3400, fun _ h => nomatch h⟩

noncomputable def sp18 : Ev.Spec := fun args _ K => match args with
  | ([AV.int .u64 n271]) => haystackref01_Len n271 (fun x0 => K (AV.int .i64 x0))
  | _ => none
noncomputable def S18 := addS 18 sp18 S15
theorem D19 : Dom B0 V S18 T19 19 := Dom.s (m := 18) (n := 0) D18 D18 (O := o18) (OrcOk.fn (fn0 := Try.f18) (by kernel_rfl) (by kernel_rfl) pc18) fun args R K r h => by
  unfold sp18 at h; split at h
  · rw [haystackref01_Len_unf] at h; exact Eq.trans (by kernel_rfl) h
  · cases h

noncomputable def sp17 : Ev.Spec := fun args _ K => match args with
  | ([AV.int .i64 n268, AV.int .i64 n269]) => haystackref06_Width n268 n269 (fun x0 => K (AV.int .i64 x0))
  | _ => none
noncomputable def S17 := addS 17 sp17 S18
theorem D20 : Dom B0 V S17 T19 20 := Dom.s (m := 19) (n := 0) D19 D19 (O := (fun _ => none)) (fun _ _ _ _ => OrcOk.none _ _) fun args R K r h => by
  unfold sp17 at h; split at h
  · rw [haystackref06_Width_unf] at h; exact Eq.trans (by kernel_rfl) h
  · cases h

noncomputable def sp5 : Ev.Spec := fun args _ K => match args with
  | ([AV.int .i64 n178, AV.int .i64 n179, AV.int .u64 n180, AV.int .u64 n181]) => haystacklaw06_BinomTells n178 n179 n180 n181 (fun x0 => K (AV.bool x0))
  | _ => none
noncomputable def S5 := addS 5 sp5 S17
theorem D21 : Dom B0 V S5 T19 21 := Dom.s (m := 20) (n := 0) D20 D20 (O := (fun _ => none)) (fun _ _ _ _ => OrcOk.none _ _) fun args R K r h => by
  unfold sp5 at h; split at h
  · rw [haystacklaw06_BinomTells_unf] at h; exact Eq.trans (by kernel_rfl) h
  · cases h

noncomputable def o6_4000_in {R : Type} (K : Ex → St → Option R) (vs : List AV) (hh : H) : Option R := match vs, hh with
  | [AV.int .u64 n282, AV.int .i64 n283], [] => haystacklaw06_BinomBack_j4 n282 n283 (fun x0 => K (Ex.ret) (St.mk (spread 58 0 [4] [AV.bool x0]) []))
  | _, _ => none

noncomputable def o6 : Nat → Option PSpec := lkN [(4000, fun st _ K => pickM 58 [0, 1] st (o6_4000_in K))]
noncomputable def q6 : CallF := evFun (V 6) S5 T19 10

noncomputable def c6_4000 : Code := subC [1, 1] (bodyOf Try.f6)

theorem p6_4000 : PieceOk (V 6) q6 o6 6 0 (3998, 0, c6_4000) := .s (size := 58) (ss := [0, 1]) (F := @o6_4000_in) (by kernel_rfl) fun R r K vs hh h => by
  unfold o6_4000_in at h; split at h
  · rw [haystacklaw06_BinomBack_j4_unf] at h; exact Eq.trans (by kernel_rfl) h
  · cases h

theorem pc6 : ∀ x ∈ [(3998, 0, c6_4000)], PieceOk (V 6) q6 o6 6 0 x := List.forall_mem_cons.2 ⟨p6_4000, fun _ h => nomatch h⟩

noncomputable def sp6 : Ev.Spec := fun args _ K => match args with
  | ([AV.int .u64 n278, AV.int .i64 n279]) => haystacklaw06_BinomBack n278 n279 (fun x0 => K (AV.bool x0))
  | _ => none
noncomputable def S6 := addS 6 sp6 S5
theorem D22 : Dom B0 V S6 T19 22 := Dom.s (m := 21) (n := 0) D21 D21 (O := o6) (OrcOk.fn (fn0 := Try.f6) (by kernel_rfl) (by kernel_rfl) pc6) fun args R K r h => by
  unfold sp6 at h; split at h
  · rw [haystacklaw06_BinomBack_unf] at h; exact Eq.trans (by kernel_rfl) h
  · cases h

noncomputable def o7_4000_in {R : Type} (K : Ex → St → Option R) (vs : List AV) (hh : H) : Option R := match vs, hh with
  | [AV.int .u64 n298, AV.int .u64 n299, AV.int .i64 n300], [] => haystacklaw06_BinomOrder_j4 n298 n299 n300 (fun x0 => K (Ex.ret) (St.mk (spread 68 0 [6] [AV.bool x0]) []))
  | _, _ => none

noncomputable def o7 : Nat → Option PSpec := lkN [(4000, fun st _ K => pickM 68 [0, 1, 2] st (o7_4000_in K))]
noncomputable def q7 : CallF := evFun (V 7) S6 T19 10

noncomputable def c7_4000 : Code := subC [1, 1] (bodyOf Try.f7)

theorem haystacklaw06_BinomOrder_j4_eq {R : Type} (K : Ex → St → Option R) (n298 : Int) (n299 : Int) (n300 : Int) : evCode (V 7) q7 o7 7 0 3998 c7_4000 (St.mk (spread 68 0 [0, 1, 2] [AV.int .u64 n298, AV.int .u64 n299, AV.int .i64 n300]) []) (kOut (V 7) 7 0 (Ev.keyOf c7_4000 * 1000 + 1) K) = haystacklaw06_BinomOrder_j4_B n298 n299 n300 (fun x0 => K (Ex.ret) (St.mk (spread 68 0 [6] [AV.bool x0]) [])) := by kernel_rfl

theorem p7_4000 : PieceOk (V 7) q7 o7 7 0 (3998, 0, c7_4000) := .s (size := 68) (ss := [0, 1, 2]) (F := @o7_4000_in) (by kernel_rfl) fun R r K vs hh h => by
  unfold o7_4000_in at h; split at h
  · rw [haystacklaw06_BinomOrder_j4_unf] at h; exact (haystacklaw06_BinomOrder_j4_eq K _ _ _).trans h
  · cases h

theorem pc7 : ∀ x ∈ [(3998, 0, c7_4000)], PieceOk (V 7) q7 o7 7 0 x := List.forall_mem_cons.2 ⟨p7_4000, fun _ h => nomatch h⟩

noncomputable def sp7 : Ev.Spec := fun args _ K => match args with
  | ([AV.int .u64 n293, AV.int .u64 n294, AV.int .i64 n295]) => haystacklaw06_BinomOrder n293 n294 n295 (fun x0 => K (AV.bool x0))
  | _ => none
noncomputable def S7 := addS 7 sp7 S6
theorem D23 : Dom B0 V S7 T19 23 := Dom.s (m := 22) (n := 0) D22 D22 (O := o7) (OrcOk.fn (fn0 := Try.f7) (by kernel_rfl) (by kernel_rfl) pc7) fun args R K r h => by
  unfold sp7 at h; split at h
  · rw [haystacklaw06_BinomOrder_unf] at h; exact Eq.trans (by kernel_rfl) h
  · cases h

noncomputable def o8_3000_in {R : Type} (K : Ex → St → Option R) (vs : List AV) (hh : H) : Option R := match vs, hh with
  | [AV.int .i64 n312, AV.int .i64 n313, AV.bool b314], [] => haystacklaw06_BinomSums_j3 n312 n313 b314 (fun x0 => K (Ex.ret) (St.mk (spread 57 0 [4] [AV.bool x0]) [])) (fun x0 x1 => K (Ex.normal) (St.mk (spread 57 0 [0, 1] [AV.int .i64 x0, AV.int .i64 x1]) []))
  | _, _ => none

noncomputable def o8_4000_in {R : Type} (K : Ex → St → Option R) (vs : List AV) (hh : H) : Option R := match vs, hh with
  | [AV.int .i64 n321, AV.int .i64 n322], [] => haystacklaw06_BinomSums_j4 n321 n322 (fun x0 => K (Ex.ret) (St.mk (spread 57 0 [4] [AV.bool x0]) []))
  | _, _ => none

noncomputable def o8 : Nat → Option PSpec := lkN [(3000, fun st _ K => pickM 57 [0, 1, 19] st (o8_3000_in K)), (4000, fun st _ K => pickM 57 [0, 1] st (o8_4000_in K))]
noncomputable def q8 : CallF := evFun (V 8) S7 T19 10

noncomputable def c8_4000 : Code := subC [1, 1] (bodyOf Try.f8)

noncomputable def c8_3000 : Code := subC [1, 0, 1] (bodyOf Try.f8)

theorem p8_4000 : PieceOk (V 8) q8 o8 8 0 (3998, 0, c8_4000) := .s (size := 57) (ss := [0, 1]) (F := @o8_4000_in) (by kernel_rfl) fun R r K vs hh h => by
  unfold o8_4000_in at h; split at h
  · rw [haystacklaw06_BinomSums_j4_unf] at h; exact Eq.trans (by kernel_rfl) h
  · cases h

theorem p8_3000 : PieceOk (V 8) q8 o8 8 0 (3997, 0, c8_3000) := .s (size := 57) (ss := [0, 1, 19]) (F := @o8_3000_in) (by kernel_rfl) fun R r K vs hh h => by
  unfold o8_3000_in at h; split at h
  · rw [haystacklaw06_BinomSums_j3_unf] at h; exact Eq.trans (by kernel_rfl) h
  · cases h

theorem pc8 : ∀ x ∈ [(3998, 0, c8_4000), (3997, 0, c8_3000)], PieceOk (V 8) q8 o8 8 0 x := List.forall_mem_cons.2 ⟨p8_4000, List.forall_mem_cons.2 ⟨p8_3000, fun _ h => nomatch h⟩⟩

noncomputable def sp8 : Ev.Spec := fun args _ K => match args with
  | ([AV.int .i64 n310, AV.int .i64 n311]) => haystacklaw06_BinomSums n310 n311 (fun x0 => K (AV.bool x0))
  | _ => none
noncomputable def S8 := addS 8 sp8 S7
theorem D24 : Dom B0 V S8 T19 24 := Dom.s (m := 23) (n := 0) D23 D23 (O := o8) (OrcOk.fn (fn0 := Try.f8) (by kernel_rfl) (by kernel_rfl) pc8) fun args R K r h => by
  unfold sp8 at h; split at h
  · rw [haystacklaw06_BinomSums_unf] at h; exact Eq.trans (by kernel_rfl) h
  · cases h

theorem ok3 : ∃ sp, SpecOk Try.prog (V 3) 3 sp ∧ ∀ args z, sp3 args AV some = some z → sp args AV some = some z := by
  obtain ⟨sp, h1, h2⟩ := Dom.law (P := Try.prog) (V := V) (fun f sp h _ => base_ok _ _ f sp h) (fun _ => env_types _ _) (fun _ => env_funs _ _) (fun _ _ => rfl) D24 (f := 3) (sp := sp3) (by kernel_rfl)
  exact ⟨sp, h1, fun args z => h2 args AV some z⟩

theorem ok4 : ∃ sp, SpecOk Try.prog (V 4) 4 sp ∧ ∀ args z, sp4 args AV some = some z → sp args AV some = some z := by
  obtain ⟨sp, h1, h2⟩ := Dom.law (P := Try.prog) (V := V) (fun f sp h _ => base_ok _ _ f sp h) (fun _ => env_types _ _) (fun _ => env_funs _ _) (fun _ _ => rfl) D24 (f := 4) (sp := sp4) (by kernel_rfl)
  exact ⟨sp, h1, fun args z => h2 args AV some z⟩

theorem ok5 : ∃ sp, SpecOk Try.prog (V 5) 5 sp ∧ ∀ args z, sp5 args AV some = some z → sp args AV some = some z := by
  obtain ⟨sp, h1, h2⟩ := Dom.law (P := Try.prog) (V := V) (fun f sp h _ => base_ok _ _ f sp h) (fun _ => env_types _ _) (fun _ => env_funs _ _) (fun _ _ => rfl) D24 (f := 5) (sp := sp5) (by kernel_rfl)
  exact ⟨sp, h1, fun args z => h2 args AV some z⟩

theorem ok6 : ∃ sp, SpecOk Try.prog (V 6) 6 sp ∧ ∀ args z, sp6 args AV some = some z → sp args AV some = some z := by
  obtain ⟨sp, h1, h2⟩ := Dom.law (P := Try.prog) (V := V) (fun f sp h _ => base_ok _ _ f sp h) (fun _ => env_types _ _) (fun _ => env_funs _ _) (fun _ _ => rfl) D24 (f := 6) (sp := sp6) (by kernel_rfl)
  exact ⟨sp, h1, fun args z => h2 args AV some z⟩

theorem ok7 : ∃ sp, SpecOk Try.prog (V 7) 7 sp ∧ ∀ args z, sp7 args AV some = some z → sp args AV some = some z := by
  obtain ⟨sp, h1, h2⟩ := Dom.law (P := Try.prog) (V := V) (fun f sp h _ => base_ok _ _ f sp h) (fun _ => env_types _ _) (fun _ => env_funs _ _) (fun _ _ => rfl) D24 (f := 7) (sp := sp7) (by kernel_rfl)
  exact ⟨sp, h1, fun args z => h2 args AV some z⟩

theorem ok8 : ∃ sp, SpecOk Try.prog (V 8) 8 sp ∧ ∀ args z, sp8 args AV some = some z → sp args AV some = some z := by
  obtain ⟨sp, h1, h2⟩ := Dom.law (P := Try.prog) (V := V) (fun f sp h _ => base_ok _ _ f sp h) (fun _ => env_types _ _) (fun _ => env_funs _ _) (fun _ _ => rfl) D24 (f := 8) (sp := sp8) (by kernel_rfl)
  exact ⟨sp, h1, fun args z => h2 args AV some z⟩

end Go.Proofs.Ytginjngnmboglaa
