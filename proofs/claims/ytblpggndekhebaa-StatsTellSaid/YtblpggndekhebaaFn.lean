/- The functions that this seat's laws reach, as plain functions, and that they are what the program does. Printed by a program of this repo (wip/Prt). -/
import Derived.Test.YtblpggndekhebaaBase
import Derived.Test.YtblpggndekhebaaEnv
import Derived.Test.YtblpggndekhebaaEvC
import Derived.KernelRfl
namespace Go.Proofs.Ytblpggndekhebaa
open Go Go.Ev
def txt__14a5d8 : ByteArray := ByteArray.mk (List.toArray (List.append (List.append [0, 1, 2, 2, 3, 3, 3, 3, 4, 4, 4, 4, 4, 4, 4, 4, 5, 5, 5, 5, 5, 5, 5, 5, 5, 5, 5, 5, 5, 5, 5, 5, 6, 6, 6, 6, 6, 6, 6, 6, 6, 6, 6, 6, 6, 6, 6, 6, 6, 6, 6, 6, 6, 6, 6, 6, 6, 6, 6, 6, 6, 6, 6, 6] [7, 7, 7, 7, 7, 7, 7, 7, 7, 7, 7, 7, 7, 7, 7, 7, 7, 7, 7, 7, 7, 7, 7, 7, 7, 7, 7, 7, 7, 7, 7, 7, 7, 7, 7, 7, 7, 7, 7, 7, 7, 7, 7, 7, 7, 7, 7, 7, 7, 7, 7, 7, 7, 7, 7, 7, 7, 7, 7, 7, 7, 7, 7, 7]) (List.append [8, 8, 8, 8, 8, 8, 8, 8, 8, 8, 8, 8, 8, 8, 8, 8, 8, 8, 8, 8, 8, 8, 8, 8, 8, 8, 8, 8, 8, 8, 8, 8, 8, 8, 8, 8, 8, 8, 8, 8, 8, 8, 8, 8, 8, 8, 8, 8, 8, 8, 8, 8, 8, 8, 8, 8, 8, 8, 8, 8, 8, 8, 8, 8] [8, 8, 8, 8, 8, 8, 8, 8, 8, 8, 8, 8, 8, 8, 8, 8, 8, 8, 8, 8, 8, 8, 8, 8, 8, 8, 8, 8, 8, 8, 8, 8, 8, 8, 8, 8, 8, 8, 8, 8, 8, 8, 8, 8, 8, 8, 8, 8, 8, 8, 8, 8, 8, 8, 8, 8, 8, 8, 8, 8, 8, 8, 8, 8])))
set_option maxRecDepth 100000


noncomputable def stats_Counts_l4_T {R : Type} (rec : Nat → Int → Int → List Int → List Int → Option R) (l3 : Nat) (n4 : Int) (n5 : Int) (xs6 : List Int) (xs7 : List Int) (K0 : List Int → List Int → Option R) : Option R :=
 sel (decide (n5 < n4))
  (sel (decide (0 ≤ n5))
   (sel (decide (n5 < (↑l3 : Int)))
    (sel (decide (Int.toNat n5 < List.length xs6))
     (sel (decide (0 ≤ List.getD xs6 (Int.toNat n5) 0))
      (sel (decide (List.getD xs6 (Int.toNat n5) 0 < (↑256 : Int)))
       (sel (decide (Int.toNat (List.getD xs6 (Int.toNat n5) 0) < List.length xs7))
        (sel (decide (0 ≤ List.getD xs6 (Int.toNat n5) 0))
         (sel (decide (List.getD xs6 (Int.toNat n5) 0 < (↑256 : Int)))
          (sel (decide (Int.toNat (List.getD xs6 (Int.toNat n5) 0) < List.length xs7))
           (letV (List.set xs7 (Int.toNat (List.getD xs6 (Int.toNat n5) 0)) (addW .i64 (List.getD xs7 (Int.toNat (List.getD xs6 (Int.toNat n5) 0)) 0) 1)) (fun (xs8 : List Int) =>
           rec (l3) (n4) (addW .i64 n5 1) (xs6) (xs8)))
           (none))
          (none))
         (none))
        (none))
       (none))
      (none))
     (none))
    (none))
   (none))
  (K0 (xs6) (xs7))
noncomputable def stats_Counts_l4_L {R : Type} (K0 : List Int → List Int → Option R) : Nat → Nat → Int → Int → List Int → List Int → Option R
  | 0, _, _, _, _, _ => none
  | N + 1, l3, n4, n5, xs6, xs7 => stats_Counts_l4_T (stats_Counts_l4_L K0 N) l3 n4 n5 xs6 xs7 K0
noncomputable def stats_Counts_l4_B {R : Type} (l3 : Nat) (n4 : Int) (n5 : Int) (xs6 : List Int) (xs7 : List Int) (K0 : List Int → List Int → Option R) : Option R :=
 stats_Counts_l4_L K0 NR l3 n4 n5 xs6 xs7
noncomputable def stats_Counts_l4 {R : Type} := shut (@stats_Counts_l4_B R)
theorem stats_Counts_l4_unf {R : Type} : @stats_Counts_l4 R = @stats_Counts_l4_B R := shut_eq _

noncomputable def stats_Counts_r_B {R : Type} (l1 : Nat) (xs2 : List Int) (K0 : Nat → List Int → List Int → Option R) : Option R :=
 stats_Counts_l4 (l1) ((↑l1 : Int)) (0) (xs2) (List.replicate 256 0)
  (fun xs9 xs10 => sel (decide (0 + 256 * 1 ≤ List.length xs10))
   (K0 (Int.toNat (↑256 : Int) - Int.toNat 0) (xs9) (xs10))
   (none))
noncomputable def stats_Counts_r {R : Type} := shut (@stats_Counts_r_B R)
theorem stats_Counts_r_unf {R : Type} : @stats_Counts_r R = @stats_Counts_r_B R := shut_eq _

noncomputable def math_bits_Len64_j11_B {R : Type} (n22 : Int) (n23 : Int) (K0 : Int → Option R) : Option R :=
 sel (decide (0 ≤ cvtW .u8 n22))
  (sel (decide (cvtW .u8 n22 < (↑(ByteArray.size (txt__14a5d8)) : Int)))
   (letV ((↑(UInt8.toNat (List.getD (Array.toList (ByteArray.data (txt__14a5d8))) (Int.toNat (cvtW .u8 n22)) 0)) : Int)) (fun (n24 : Int) =>
   K0 (addW .i64 n23 (cvtW .i64 n24))))
   (none))
  (none)
noncomputable def math_bits_Len64_j11 {R : Type} := shut (@math_bits_Len64_j11_B R)
theorem math_bits_Len64_j11_unf {R : Type} : @math_bits_Len64_j11 R = @math_bits_Len64_j11_B R := shut_eq _

noncomputable def math_bits_Len64_j8_B {R : Type} (n20 : Int) (n21 : Int) (K0 : Int → Option R) : Option R :=
 sel (decide (256 ≤ n20))
  (math_bits_Len64_j11 (shrW .u64 n20 8) (addW .i64 n21 8)
   (fun n25 => K0 (n25)))
  (math_bits_Len64_j11 (n20) (n21)
   (fun n26 => K0 (n26)))
noncomputable def math_bits_Len64_j8 {R : Type} := shut (@math_bits_Len64_j8_B R)
theorem math_bits_Len64_j8_unf {R : Type} : @math_bits_Len64_j8 R = @math_bits_Len64_j8_B R := shut_eq _

noncomputable def math_bits_Len64_j5_B {R : Type} (n18 : Int) (n19 : Int) (K0 : Int → Option R) : Option R :=
 sel (decide (65536 ≤ n18))
  (math_bits_Len64_j8 (shrW .u64 n18 16) (addW .i64 n19 16)
   (fun n27 => K0 (n27)))
  (math_bits_Len64_j8 (n18) (n19)
   (fun n28 => K0 (n28)))
noncomputable def math_bits_Len64_j5 {R : Type} := shut (@math_bits_Len64_j5_B R)
theorem math_bits_Len64_j5_unf {R : Type} : @math_bits_Len64_j5 R = @math_bits_Len64_j5_B R := shut_eq _

noncomputable def math_bits_Len64_B {R : Type} (n17 : Int) (K0 : Int → Option R) : Option R :=
 sel (decide (4294967296 ≤ n17))
  (math_bits_Len64_j5 (shrW .u64 n17 32) (32)
   (fun n29 => K0 (n29)))
  (math_bits_Len64_j5 (n17) (0)
   (fun n30 => K0 (n30)))
noncomputable def math_bits_Len64 {R : Type} := shut (@math_bits_Len64_B R)
theorem math_bits_Len64_unf {R : Type} : @math_bits_Len64 R = @math_bits_Len64_B R := shut_eq _

noncomputable def word_Len_B {R : Type} (n16 : Int) (K0 : Int → Option R) : Option R :=
 math_bits_Len64 (n16)
  (fun n31 => K0 (n31))
noncomputable def word_Len {R : Type} := shut (@word_Len_B R)
theorem word_Len_unf {R : Type} : @word_Len R = @word_Len_B R := shut_eq _

noncomputable def stats_Log_l7_T {R : Type} (rec : Int → Int → Int → Option R) (n33 : Int) (n34 : Int) (n35 : Int) (K0 : Int → Option R) : Option R :=
 sel (decide (n35 < 16))
  (sel (decide (0 ≤ shrW .u64 (shrW .u64 (mulW .u64 n34 n34) 31) 32))
   (rec (orW .i64 (shlW .i64 n33 1) (cvtW .i64 (shrW .u64 (shrW .u64 (mulW .u64 n34 n34) 31) 32))) (shrW .u64 (shrW .u64 (mulW .u64 n34 n34) 31) (shrW .u64 (shrW .u64 (mulW .u64 n34 n34) 31) 32)) (addW .i64 n35 1))
   (none))
  (K0 (n33))
noncomputable def stats_Log_l7_L {R : Type} (K0 : Int → Option R) : Nat → Int → Int → Int → Option R
  | 0, _, _, _ => none
  | N + 1, n33, n34, n35 => stats_Log_l7_T (stats_Log_l7_L K0 N) n33 n34 n35 K0
noncomputable def stats_Log_l7_B {R : Type} (n33 : Int) (n34 : Int) (n35 : Int) (K0 : Int → Option R) : Option R :=
 stats_Log_l7_L K0 NR n33 n34 n35
noncomputable def stats_Log_l7 {R : Type} := shut (@stats_Log_l7_B R)
theorem stats_Log_l7_unf {R : Type} : @stats_Log_l7 R = @stats_Log_l7_B R := shut_eq _

noncomputable def stats_Log_j4_B {R : Type} (n15 : Int) (K0 : Int → Option R) : Option R :=
 word_Len (cvtW .u64 n15)
  (fun n32 => sel (decide (0 ≤ subW .i64 31 (subW .i64 n32 1)))
   (stats_Log_l7 (subW .i64 n32 1) (shlW .u64 (cvtW .u64 n15) (subW .i64 31 (subW .i64 n32 1))) (0)
    (fun n36 => K0 (n36)))
   (none))
noncomputable def stats_Log_j4 {R : Type} := shut (@stats_Log_j4_B R)
theorem stats_Log_j4_unf {R : Type} : @stats_Log_j4 R = @stats_Log_j4_B R := shut_eq _

noncomputable def stats_Log_B {R : Type} (n14 : Int) (K0 : Int → Option R) : Option R :=
 sel (decide (n14 < 1))
  (K0 (0))
  (sel (decide (1073741824 < n14))
   (K0 (0))
   (stats_Log_j4 (n14)
    (fun n37 => K0 (n37))))
noncomputable def stats_Log {R : Type} := shut (@stats_Log_B R)
theorem stats_Log_unf {R : Type} : @stats_Log R = @stats_Log_B R := shut_eq _

noncomputable def stats_Entropy_j10_B {R : Type} (xs46 : List Int) (n47 : Int) (n48 : Int) (xs49 : List Int) (n50 : Int) (n51 : Int) (K0 : List Int → Int → List Int → Int → Int → Option R) : Option R :=
 K0 (xs46) (addW .i64 n47 n48) (xs49) (n50) (n51)
noncomputable def stats_Entropy_j10 {R : Type} := shut (@stats_Entropy_j10_B R)
theorem stats_Entropy_j10_unf {R : Type} : @stats_Entropy_j10 R = @stats_Entropy_j10_B R := shut_eq _

noncomputable def stats_Entropy_l6_T {R : Type} (rec : List Int → Int → List Int → Int → Int → Option R) (xs41 : List Int) (n42 : Int) (xs43 : List Int) (n44 : Int) (n45 : Int) (K0 : Int → Option R) (K1 : List Int → Int → Option R) : Option R :=
 sel (decide (n45 < n44))
  (sel (decide (0 ≤ n45))
   (sel (decide (n45 < (↑(List.length xs43) : Int)))
    (sel (decide (List.getD xs43 (Int.toNat n45) 0 < 0))
     (K0 (0))
     (sel (decide (65536 < List.getD xs43 (Int.toNat n45) 0))
      (K0 (0))
      (stats_Entropy_j10 (xs41) (n42) (List.getD xs43 (Int.toNat n45) 0) (xs43) (n44) (n45)
       (fun xs52 n53 xs54 n55 n56 => rec (xs52) (n53) (xs54) (n55) (addW .i64 n56 1)))))
    (none))
   (none))
  (K1 (xs41) (n42))
noncomputable def stats_Entropy_l6_L {R : Type} (K0 : Int → Option R) (K1 : List Int → Int → Option R) : Nat → List Int → Int → List Int → Int → Int → Option R
  | 0, _, _, _, _, _ => none
  | N + 1, xs41, n42, xs43, n44, n45 => stats_Entropy_l6_T (stats_Entropy_l6_L K0 K1 N) xs41 n42 xs43 n44 n45 K0 K1
noncomputable def stats_Entropy_l6_B {R : Type} (xs41 : List Int) (n42 : Int) (xs43 : List Int) (n44 : Int) (n45 : Int) (K0 : Int → Option R) (K1 : List Int → Int → Option R) : Option R :=
 stats_Entropy_l6_L K0 K1 NR xs41 n42 xs43 n44 n45
noncomputable def stats_Entropy_l6 {R : Type} := shut (@stats_Entropy_l6_B R)
theorem stats_Entropy_l6_unf {R : Type} : @stats_Entropy_l6 R = @stats_Entropy_l6_B R := shut_eq _

noncomputable def stats_Entropy_l14_T {R : Type} (rec : Int → Int → List Int → Int → Int → Option R) (n60 : Int) (n61 : Int) (xs62 : List Int) (n63 : Int) (n64 : Int) (K0 : Int → Option R) : Option R :=
 sel (decide (n64 < n63))
  (sel (decide (0 ≤ n64))
   (sel (decide (n64 < (↑(List.length xs62) : Int)))
    (stats_Log (n60)
     (fun n65 => stats_Log (List.getD xs62 (Int.toNat n64) 0)
      (fun n66 => rec (n60) (addW .i64 n61 (mulW .i64 (List.getD xs62 (Int.toNat n64) 0) (max2 0 (subW .i64 n65 n66)))) (xs62) (n63) (addW .i64 n64 1))))
    (none))
   (none))
  (K0 (n61))
noncomputable def stats_Entropy_l14_L {R : Type} (K0 : Int → Option R) : Nat → Int → Int → List Int → Int → Int → Option R
  | 0, _, _, _, _, _ => none
  | N + 1, n60, n61, xs62, n63, n64 => stats_Entropy_l14_T (stats_Entropy_l14_L K0 N) n60 n61 xs62 n63 n64 K0
noncomputable def stats_Entropy_l14_B {R : Type} (n60 : Int) (n61 : Int) (xs62 : List Int) (n63 : Int) (n64 : Int) (K0 : Int → Option R) : Option R :=
 stats_Entropy_l14_L K0 NR n60 n61 xs62 n63 n64
noncomputable def stats_Entropy_l14 {R : Type} := shut (@stats_Entropy_l14_B R)
theorem stats_Entropy_l14_unf {R : Type} : @stats_Entropy_l14 R = @stats_Entropy_l14_B R := shut_eq _

noncomputable def stats_Entropy_B {R : Type} (xs40 : List Int) (K0 : Int → Option R) : Option R :=
 sel (!decide ((↑(List.length xs40) : Int) = 256))
  (K0 (0))
  (stats_Entropy_l6 (xs40) (0) (xs40) ((↑(List.length xs40) : Int)) (0)
   (fun n57 => K0 (n57))
   (fun xs58 n59 => stats_Entropy_l14 (n59) (65535) (xs58) ((↑(List.length xs58) : Int)) (0)
    (fun n67 => K0 (shrW .i64 n67 16))))
noncomputable def stats_Entropy {R : Type} := shut (@stats_Entropy_B R)
theorem stats_Entropy_unf {R : Type} : @stats_Entropy R = @stats_Entropy_B R := shut_eq _

noncomputable def stats_Distinct_l5_T {R : Type} (rec : Int → List Int → Int → Int → Option R) (n70 : Int) (xs71 : List Int) (n72 : Int) (n73 : Int) (K0 : Int → Option R) : Option R :=
 sel (decide (n73 < n72))
  (sel (decide (0 ≤ n73))
   (sel (decide (n73 < (↑(List.length xs71) : Int)))
    (rec (addW .i64 n70 (min2 1 (max2 0 (List.getD xs71 (Int.toNat n73) 0)))) (xs71) (n72) (addW .i64 n73 1))
    (none))
   (none))
  (K0 (n70))
noncomputable def stats_Distinct_l5_L {R : Type} (K0 : Int → Option R) : Nat → Int → List Int → Int → Int → Option R
  | 0, _, _, _, _ => none
  | N + 1, n70, xs71, n72, n73 => stats_Distinct_l5_T (stats_Distinct_l5_L K0 N) n70 xs71 n72 n73 K0
noncomputable def stats_Distinct_l5_B {R : Type} (n70 : Int) (xs71 : List Int) (n72 : Int) (n73 : Int) (K0 : Int → Option R) : Option R :=
 stats_Distinct_l5_L K0 NR n70 xs71 n72 n73
noncomputable def stats_Distinct_l5 {R : Type} := shut (@stats_Distinct_l5_B R)
theorem stats_Distinct_l5_unf {R : Type} : @stats_Distinct_l5 R = @stats_Distinct_l5_B R := shut_eq _

noncomputable def stats_Distinct_B {R : Type} (xs69 : List Int) (K0 : Int → Option R) : Option R :=
 sel (decide ((↑(List.length xs69) : Int) = 256))
  (stats_Distinct_l5 (0) (xs69) ((↑(List.length xs69) : Int)) (0)
   (fun n74 => K0 (n74)))
  (K0 (0))
noncomputable def stats_Distinct {R : Type} := shut (@stats_Distinct_B R)
theorem stats_Distinct_unf {R : Type} : @stats_Distinct R = @stats_Distinct_B R := shut_eq _

noncomputable def stats_Second_l6_T {R : Type} (rec : Nat → Int → Int → List Int → List Int → Option R) (l78 : Nat) (n79 : Int) (n80 : Int) (xs81 : List Int) (xs82 : List Int) (K0 : List Int → List Int → Option R) : Option R :=
 sel (decide (n80 < n79))
  (sel (decide (0 ≤ n80))
   (sel (decide (n80 < (↑l78 : Int)))
    (sel (decide (Int.toNat n80 < List.length xs81))
     (sel (decide (0 ≤ addW .i64 n80 1))
      (sel (decide (addW .i64 n80 1 < (↑l78 : Int)))
       (sel (decide (Int.toNat (addW .i64 n80 1) < List.length xs81))
        (sel (decide (0 ≤ List.getD xs81 (Int.toNat n80) 0))
         (sel (decide (List.getD xs81 (Int.toNat n80) 0 < (↑256 : Int)))
          (sel (decide (0 ≤ List.getD xs81 (Int.toNat (addW .i64 n80 1)) 0))
           (sel (decide (List.getD xs81 (Int.toNat (addW .i64 n80 1)) 0 < (↑256 : Int)))
            (sel (decide
  ((match Nat.add (Nat.mul (Int.toNat (List.getD xs81 (Int.toNat n80) 0)) 255) (Int.toNat (List.getD xs81 (Int.toNat n80) 0)) with
    | 0 => Int.toNat (List.getD xs81 (Int.toNat (addW .i64 n80 1)) 0)
    | Nat.succ a => a + 1 + Int.toNat (List.getD xs81 (Int.toNat (addW .i64 n80 1)) 0)) <
    List.length xs82))
             (sel (decide (0 ≤ List.getD xs81 (Int.toNat n80) 0))
              (sel (decide (List.getD xs81 (Int.toNat n80) 0 < (↑256 : Int)))
               (sel (decide (0 ≤ List.getD xs81 (Int.toNat (addW .i64 n80 1)) 0))
                (sel (decide (List.getD xs81 (Int.toNat (addW .i64 n80 1)) 0 < (↑256 : Int)))
                 (sel (decide
  ((match Nat.add (Nat.mul (Int.toNat (List.getD xs81 (Int.toNat n80) 0)) 255) (Int.toNat (List.getD xs81 (Int.toNat n80) 0)) with
    | 0 => Int.toNat (List.getD xs81 (Int.toNat (addW .i64 n80 1)) 0)
    | Nat.succ a => a + 1 + Int.toNat (List.getD xs81 (Int.toNat (addW .i64 n80 1)) 0)) <
    List.length xs82))
                  (letV (List.set xs82
  (match Nat.add (Nat.mul (Int.toNat (List.getD xs81 (Int.toNat n80) 0)) 255) (Int.toNat (List.getD xs81 (Int.toNat n80) 0)) with
  | 0 => Int.toNat (List.getD xs81 (Int.toNat (addW .i64 n80 1)) 0)
  | Nat.succ a => a + 1 + Int.toNat (List.getD xs81 (Int.toNat (addW .i64 n80 1)) 0))
  (addW .i64
    (List.getD xs82
      (match Nat.add (Nat.mul (Int.toNat (List.getD xs81 (Int.toNat n80) 0)) 255) (Int.toNat (List.getD xs81 (Int.toNat n80) 0)) with
      | 0 => Int.toNat (List.getD xs81 (Int.toNat (addW .i64 n80 1)) 0)
      | Nat.succ a => a + 1 + Int.toNat (List.getD xs81 (Int.toNat (addW .i64 n80 1)) 0))
      0)
    1)) (fun (xs83 : List Int) =>
                  rec (l78) (n79) (addW .i64 n80 1) (xs81) (xs83)))
                  (none))
                 (none))
                (none))
               (none))
              (none))
             (none))
            (none))
           (none))
          (none))
         (none))
        (none))
       (none))
      (none))
     (none))
    (none))
   (none))
  (K0 (xs81) (xs82))
noncomputable def stats_Second_l6_L {R : Type} (K0 : List Int → List Int → Option R) : Nat → Nat → Int → Int → List Int → List Int → Option R
  | 0, _, _, _, _, _ => none
  | N + 1, l78, n79, n80, xs81, xs82 => stats_Second_l6_T (stats_Second_l6_L K0 N) l78 n79 n80 xs81 xs82 K0
noncomputable def stats_Second_l6_B {R : Type} (l78 : Nat) (n79 : Int) (n80 : Int) (xs81 : List Int) (xs82 : List Int) (K0 : List Int → List Int → Option R) : Option R :=
 stats_Second_l6_L K0 NR l78 n79 n80 xs81 xs82
noncomputable def stats_Second_l6 {R : Type} := shut (@stats_Second_l6_B R)
theorem stats_Second_l6_unf {R : Type} : @stats_Second_l6 R = @stats_Second_l6_B R := shut_eq _

noncomputable def stats_Entropy_j10_1_B {R : Type} (l101 : Nat) (l102 : Nat) (n103 : Int) (n104 : Int) (l105 : Nat) (l106 : Nat) (n107 : Int) (n108 : Int) (xs109 : List Int) (K0 : Nat → Nat → Int → Nat → Nat → Int → Int → List Int → Option R) : Option R :=
 K0 (l101) (l102) (addW .i64 n103 n104) (l105) (l106) (n107) (n108) (xs109)
noncomputable def stats_Entropy_j10_1 {R : Type} := shut (@stats_Entropy_j10_1_B R)
theorem stats_Entropy_j10_1_unf {R : Type} : @stats_Entropy_j10_1 R = @stats_Entropy_j10_1_B R := shut_eq _

noncomputable def stats_Entropy_l6_1_T {R : Type} (rec : Nat → Nat → Int → Nat → Nat → Int → Int → List Int → Option R) (l93 : Nat) (l94 : Nat) (n95 : Int) (l96 : Nat) (l97 : Nat) (n98 : Int) (n99 : Int) (xs100 : List Int) (K0 : Int → List Int → Option R) (K1 : Nat → Nat → Int → List Int → Option R) : Option R :=
 sel (decide (n99 < n98))
  (sel (decide (0 ≤ n99))
   (sel (decide (n99 < (↑l97 : Int)))
    (sel (decide
  ((match l96 with
    | 0 => Int.toNat n99
    | Nat.succ a => a + 1 + Int.toNat n99) <
    List.length xs100))
     (sel (decide
  (List.getD xs100
      (match l96 with
      | 0 => Int.toNat n99
      | Nat.succ a => a + 1 + Int.toNat n99)
      0 <
    0))
      (K0 (0) (xs100))
      (sel (decide
  (65536 <
    List.getD xs100
      (match l96 with
      | 0 => Int.toNat n99
      | Nat.succ a => a + 1 + Int.toNat n99)
      0))
       (K0 (0) (xs100))
       (stats_Entropy_j10_1 (l93) (l94) (n95) (List.getD xs100
  (match l96 with
  | 0 => Int.toNat n99
  | Nat.succ a => a + 1 + Int.toNat n99)
  0) (l96) (l97) (n98) (n99) (xs100)
        (fun l110 l111 n112 l113 l114 n115 n116 xs117 => rec (l110) (l111) (n112) (l113) (l114) (n115) (addW .i64 n116 1) (xs117)))))
     (none))
    (none))
   (none))
  (K1 (l93) (l94) (n95) (xs100))
noncomputable def stats_Entropy_l6_1_L {R : Type} (K0 : Int → List Int → Option R) (K1 : Nat → Nat → Int → List Int → Option R) : Nat → Nat → Nat → Int → Nat → Nat → Int → Int → List Int → Option R
  | 0, _, _, _, _, _, _, _, _ => none
  | N + 1, l93, l94, n95, l96, l97, n98, n99, xs100 => stats_Entropy_l6_1_T (stats_Entropy_l6_1_L K0 K1 N) l93 l94 n95 l96 l97 n98 n99 xs100 K0 K1
noncomputable def stats_Entropy_l6_1_B {R : Type} (l93 : Nat) (l94 : Nat) (n95 : Int) (l96 : Nat) (l97 : Nat) (n98 : Int) (n99 : Int) (xs100 : List Int) (K0 : Int → List Int → Option R) (K1 : Nat → Nat → Int → List Int → Option R) : Option R :=
 stats_Entropy_l6_1_L K0 K1 NR l93 l94 n95 l96 l97 n98 n99 xs100
noncomputable def stats_Entropy_l6_1 {R : Type} := shut (@stats_Entropy_l6_1_B R)
theorem stats_Entropy_l6_1_unf {R : Type} : @stats_Entropy_l6_1 R = @stats_Entropy_l6_1_B R := shut_eq _

noncomputable def stats_Entropy_l14_1_T {R : Type} (rec : Int → Int → Nat → Nat → Int → Int → List Int → Option R) (n124 : Int) (n125 : Int) (l126 : Nat) (l127 : Nat) (n128 : Int) (n129 : Int) (xs130 : List Int) (K0 : Int → List Int → Option R) : Option R :=
 sel (decide (n129 < n128))
  (sel (decide (0 ≤ n129))
   (sel (decide (n129 < (↑l127 : Int)))
    (sel (decide
  ((match l126 with
    | 0 => Int.toNat n129
    | Nat.succ a => a + 1 + Int.toNat n129) <
    List.length xs130))
     (stats_Log (n124)
      (fun n131 => stats_Log (List.getD xs130
  (match l126 with
  | 0 => Int.toNat n129
  | Nat.succ a => a + 1 + Int.toNat n129)
  0)
       (fun n132 => rec (n124) (addW .i64 n125
  (mulW .i64
    (List.getD xs130
      (match l126 with
      | 0 => Int.toNat n129
      | Nat.succ a => a + 1 + Int.toNat n129)
      0)
    (max2 0 (subW .i64 n131 n132)))) (l126) (l127) (n128) (addW .i64 n129 1) (xs130))))
     (none))
    (none))
   (none))
  (K0 (n125) (xs130))
noncomputable def stats_Entropy_l14_1_L {R : Type} (K0 : Int → List Int → Option R) : Nat → Int → Int → Nat → Nat → Int → Int → List Int → Option R
  | 0, _, _, _, _, _, _, _ => none
  | N + 1, n124, n125, l126, l127, n128, n129, xs130 => stats_Entropy_l14_1_T (stats_Entropy_l14_1_L K0 N) n124 n125 l126 l127 n128 n129 xs130 K0
noncomputable def stats_Entropy_l14_1_B {R : Type} (n124 : Int) (n125 : Int) (l126 : Nat) (l127 : Nat) (n128 : Int) (n129 : Int) (xs130 : List Int) (K0 : Int → List Int → Option R) : Option R :=
 stats_Entropy_l14_1_L K0 NR n124 n125 l126 l127 n128 n129 xs130
noncomputable def stats_Entropy_l14_1 {R : Type} := shut (@stats_Entropy_l14_1_B R)
theorem stats_Entropy_l14_1_unf {R : Type} : @stats_Entropy_l14_1 R = @stats_Entropy_l14_1_B R := shut_eq _

noncomputable def stats_Entropy_r_B {R : Type} (l90 : Nat) (l91 : Nat) (xs92 : List Int) (K0 : Int → List Int → Option R) : Option R :=
 sel (!decide ((↑l91 : Int) = 256))
  (K0 (0) (xs92))
  (stats_Entropy_l6_1 (l90) (l91) (0) (l90) (l91) ((↑l91 : Int)) (0) (xs92)
   (fun n118 xs119 => K0 (n118) (xs119))
   (fun l120 l121 n122 xs123 => stats_Entropy_l14_1 (n122) (65535) (l120) (l121) ((↑l121 : Int)) (0) (xs123)
    (fun n133 xs134 => K0 (shrW .i64 n133 16) (xs134))))
noncomputable def stats_Entropy_r {R : Type} := shut (@stats_Entropy_r_B R)
theorem stats_Entropy_r_unf {R : Type} : @stats_Entropy_r R = @stats_Entropy_r_B R := shut_eq _

noncomputable def stats_Second_l12_T {R : Type} (rec : Int → Int → List Int → List Int → Option R) (n86 : Int) (n87 : Int) (xs88 : List Int) (xs89 : List Int) (K0 : Int → List Int → Option R) : Option R :=
 sel (decide (n87 < 256))
  (sel (decide (0 ≤ n87))
   (sel (decide (n87 < (↑256 : Int)))
    (sel (decide (Nat.add (Nat.mul (Int.toNat n87) 255) (Int.toNat n87) + 256 * 1 ≤ List.length xs89))
     (stats_Entropy_r (match Nat.add (Nat.mul (Int.toNat n87) 255) (Int.toNat n87) with
| 0 => Int.toNat 0
| Nat.succ a => a + 1 + Int.toNat 0) (Int.toNat (↑256 : Int) - Int.toNat 0) (xs89)
      (fun n135 xs136 => rec (addW .i64 n86 n135) (addW .i64 n87 1) (xs88) (xs136)))
     (none))
    (none))
   (none))
  (K0 (n86) (xs88))
noncomputable def stats_Second_l12_L {R : Type} (K0 : Int → List Int → Option R) : Nat → Int → Int → List Int → List Int → Option R
  | 0, _, _, _, _ => none
  | N + 1, n86, n87, xs88, xs89 => stats_Second_l12_T (stats_Second_l12_L K0 N) n86 n87 xs88 xs89 K0
noncomputable def stats_Second_l12_B {R : Type} (n86 : Int) (n87 : Int) (xs88 : List Int) (xs89 : List Int) (K0 : Int → List Int → Option R) : Option R :=
 stats_Second_l12_L K0 NR n86 n87 xs88 xs89
noncomputable def stats_Second_l12 {R : Type} := shut (@stats_Second_l12_B R)
theorem stats_Second_l12_unf {R : Type} : @stats_Second_l12 R = @stats_Second_l12_B R := shut_eq _

noncomputable def stats_Second_r_B {R : Type} (l76 : Nat) (xs77 : List Int) (K0 : Int → List Int → Option R) : Option R :=
 sel (decide (8192 < (↑l76 : Int)))
  (K0 (0) (xs77))
  (stats_Second_l6 (l76) (max2 0 (subW .i64 (↑l76 : Int) 1)) (0) (xs77) (List.replicate 65536 0)
   (fun xs84 xs85 => stats_Second_l12 (0) (0) (xs84) (xs85)
    (fun n137 xs138 => K0 (n137) (xs138))))
noncomputable def stats_Second_r {R : Type} := shut (@stats_Second_r_B R)
theorem stats_Second_r_unf {R : Type} : @stats_Second_r R = @stats_Second_r_B R := shut_eq _

noncomputable def haystacklaw19_heads_B {R : Type} (K0 : Bool → Option R) : Option R :=
 stats_Counts_r (8) ([97, 98, 97, 98, 97, 98, 97, 98])
  (fun l11 xs12 xs13 => sel (decide (l11 = List.length xs13))
   (sel (decide ((↑(List.length xs13) : Int) = 256))
    (sel (decide (97 < (↑(List.length xs13) : Int)))
     (sel (decide (List.getD xs13 (Int.toNat 97) 0 = 4))
      (stats_Log (8)
       (fun n38 => sel (decide (n38 = 196608))
        (stats_Log (0)
         (fun n39 => sel (decide (n39 = 0))
          (stats_Entropy (xs13)
           (fun n68 => sel (decide (n68 = 8))
            (stats_Distinct (xs13)
             (fun n75 => sel (decide (n75 = 2))
              (stats_Second_r (8) ([97, 98, 97, 98, 97, 98, 97, 98])
               (fun n139 xs140 => sel (decide (n139 = 0))
                (stats_Entropy ([])
                 (fun n141 => sel (decide (n141 = 0))
                  (stats_Log (3)
                   (fun n142 => K0 (decide (n142 = 103872))))
                  (none)))
                (none)))
              (none)))
            (none)))
          (none)))
        (none)))
      (none))
     (none))
    (none))
   (none))
noncomputable def haystacklaw19_heads {R : Type} := shut (@haystacklaw19_heads_B R)
theorem haystacklaw19_heads_unf {R : Type} : @haystacklaw19_heads R = @haystacklaw19_heads_B R := shut_eq _

noncomputable def stats_Counts_l4_1_T {R : Type} (rec : List Int → Int → Int → List Int → Option R) (xs145 : List Int) (n146 : Int) (n147 : Int) (xs148 : List Int) (K0 : List Int → Option R) : Option R :=
 sel (decide (n147 < n146))
  (sel (decide (0 ≤ n147))
   (sel (decide (n147 < (↑(List.length xs145) : Int)))
    (sel (decide (0 ≤ List.getD xs145 (Int.toNat n147) 0))
     (sel (decide (List.getD xs145 (Int.toNat n147) 0 < (↑256 : Int)))
      (sel (decide (Int.toNat (List.getD xs145 (Int.toNat n147) 0) < List.length xs148))
       (sel (decide (0 ≤ List.getD xs145 (Int.toNat n147) 0))
        (sel (decide (List.getD xs145 (Int.toNat n147) 0 < (↑256 : Int)))
         (sel (decide (Int.toNat (List.getD xs145 (Int.toNat n147) 0) < List.length xs148))
          (letV (List.set xs148 (Int.toNat (List.getD xs145 (Int.toNat n147) 0)) (addW .i64 (List.getD xs148 (Int.toNat (List.getD xs145 (Int.toNat n147) 0)) 0) 1)) (fun (xs149 : List Int) =>
          rec (xs145) (n146) (addW .i64 n147 1) (xs149)))
          (none))
         (none))
        (none))
       (none))
      (none))
     (none))
    (none))
   (none))
  (K0 (xs148))
noncomputable def stats_Counts_l4_1_L {R : Type} (K0 : List Int → Option R) : Nat → List Int → Int → Int → List Int → Option R
  | 0, _, _, _, _ => none
  | N + 1, xs145, n146, n147, xs148 => stats_Counts_l4_1_T (stats_Counts_l4_1_L K0 N) xs145 n146 n147 xs148 K0
noncomputable def stats_Counts_l4_1_B {R : Type} (xs145 : List Int) (n146 : Int) (n147 : Int) (xs148 : List Int) (K0 : List Int → Option R) : Option R :=
 stats_Counts_l4_1_L K0 NR xs145 n146 n147 xs148
noncomputable def stats_Counts_l4_1 {R : Type} := shut (@stats_Counts_l4_1_B R)
theorem stats_Counts_l4_1_unf {R : Type} : @stats_Counts_l4_1 R = @stats_Counts_l4_1_B R := shut_eq _

noncomputable def stats_Counts_B {R : Type} (xs144 : List Int) (K0 : List Int → Option R) : Option R :=
 stats_Counts_l4_1 (xs144) ((↑(List.length xs144) : Int)) (0) (List.replicate 256 0)
  (fun xs150 => sel (decide (0 + 256 * 1 ≤ List.length xs150))
   (sel (decide (Int.toNat (↑256 : Int) - Int.toNat 0 = List.length xs150))
    (K0 (xs150))
    (sel (decide (0 + Nat.sub (Int.toNat (↑256 : Int)) (Int.toNat 0) ≤ List.length xs150))
     (K0 (List.take (Nat.sub (Int.toNat (↑256 : Int)) (Int.toNat 0)) (List.drop 0 xs150)))
     (none)))
   (none))
noncomputable def stats_Counts {R : Type} := shut (@stats_Counts_B R)
theorem stats_Counts_unf {R : Type} : @stats_Counts R = @stats_Counts_B R := shut_eq _

noncomputable def stats_Second_l6_1_T {R : Type} (rec : List Int → Int → Int → List Int → Option R) (xs153 : List Int) (n154 : Int) (n155 : Int) (xs156 : List Int) (K0 : List Int → Option R) : Option R :=
 sel (decide (n155 < n154))
  (sel (decide (0 ≤ n155))
   (sel (decide (n155 < (↑(List.length xs153) : Int)))
    (sel (decide (0 ≤ addW .i64 n155 1))
     (sel (decide (addW .i64 n155 1 < (↑(List.length xs153) : Int)))
      (sel (decide (0 ≤ List.getD xs153 (Int.toNat n155) 0))
       (sel (decide (List.getD xs153 (Int.toNat n155) 0 < (↑256 : Int)))
        (sel (decide (0 ≤ List.getD xs153 (Int.toNat (addW .i64 n155 1)) 0))
         (sel (decide (List.getD xs153 (Int.toNat (addW .i64 n155 1)) 0 < (↑256 : Int)))
          (sel (decide
  ((match Nat.add (Nat.mul (Int.toNat (List.getD xs153 (Int.toNat n155) 0)) 255) (Int.toNat (List.getD xs153 (Int.toNat n155) 0)) with
    | 0 => Int.toNat (List.getD xs153 (Int.toNat (addW .i64 n155 1)) 0)
    | Nat.succ a => a + 1 + Int.toNat (List.getD xs153 (Int.toNat (addW .i64 n155 1)) 0)) <
    List.length xs156))
           (sel (decide (0 ≤ List.getD xs153 (Int.toNat n155) 0))
            (sel (decide (List.getD xs153 (Int.toNat n155) 0 < (↑256 : Int)))
             (sel (decide (0 ≤ List.getD xs153 (Int.toNat (addW .i64 n155 1)) 0))
              (sel (decide (List.getD xs153 (Int.toNat (addW .i64 n155 1)) 0 < (↑256 : Int)))
               (sel (decide
  ((match Nat.add (Nat.mul (Int.toNat (List.getD xs153 (Int.toNat n155) 0)) 255) (Int.toNat (List.getD xs153 (Int.toNat n155) 0)) with
    | 0 => Int.toNat (List.getD xs153 (Int.toNat (addW .i64 n155 1)) 0)
    | Nat.succ a => a + 1 + Int.toNat (List.getD xs153 (Int.toNat (addW .i64 n155 1)) 0)) <
    List.length xs156))
                (letV (List.set xs156
  (match Nat.add (Nat.mul (Int.toNat (List.getD xs153 (Int.toNat n155) 0)) 255) (Int.toNat (List.getD xs153 (Int.toNat n155) 0)) with
  | 0 => Int.toNat (List.getD xs153 (Int.toNat (addW .i64 n155 1)) 0)
  | Nat.succ a => a + 1 + Int.toNat (List.getD xs153 (Int.toNat (addW .i64 n155 1)) 0))
  (addW .i64
    (List.getD xs156
      (match Nat.add (Nat.mul (Int.toNat (List.getD xs153 (Int.toNat n155) 0)) 255) (Int.toNat (List.getD xs153 (Int.toNat n155) 0)) with
      | 0 => Int.toNat (List.getD xs153 (Int.toNat (addW .i64 n155 1)) 0)
      | Nat.succ a => a + 1 + Int.toNat (List.getD xs153 (Int.toNat (addW .i64 n155 1)) 0))
      0)
    1)) (fun (xs157 : List Int) =>
                rec (xs153) (n154) (addW .i64 n155 1) (xs157)))
                (none))
               (none))
              (none))
             (none))
            (none))
           (none))
          (none))
         (none))
        (none))
       (none))
      (none))
     (none))
    (none))
   (none))
  (K0 (xs156))
noncomputable def stats_Second_l6_1_L {R : Type} (K0 : List Int → Option R) : Nat → List Int → Int → Int → List Int → Option R
  | 0, _, _, _, _ => none
  | N + 1, xs153, n154, n155, xs156 => stats_Second_l6_1_T (stats_Second_l6_1_L K0 N) xs153 n154 n155 xs156 K0
noncomputable def stats_Second_l6_1_B {R : Type} (xs153 : List Int) (n154 : Int) (n155 : Int) (xs156 : List Int) (K0 : List Int → Option R) : Option R :=
 stats_Second_l6_1_L K0 NR xs153 n154 n155 xs156
noncomputable def stats_Second_l6_1 {R : Type} := shut (@stats_Second_l6_1_B R)
theorem stats_Second_l6_1_unf {R : Type} : @stats_Second_l6_1 R = @stats_Second_l6_1_B R := shut_eq _

noncomputable def stats_Second_l12_1_T {R : Type} (rec : Int → Int → List Int → Option R) (n159 : Int) (n160 : Int) (xs161 : List Int) (K0 : Int → Option R) : Option R :=
 sel (decide (n160 < 256))
  (sel (decide (0 ≤ n160))
   (sel (decide (n160 < (↑256 : Int)))
    (sel (decide (Nat.add (Nat.mul (Int.toNat n160) 255) (Int.toNat n160) + 256 * 1 ≤ List.length xs161))
     (stats_Entropy_r (match Nat.add (Nat.mul (Int.toNat n160) 255) (Int.toNat n160) with
| 0 => Int.toNat 0
| Nat.succ a => a + 1 + Int.toNat 0) (Int.toNat (↑256 : Int) - Int.toNat 0) (xs161)
      (fun n162 xs163 => rec (addW .i64 n159 n162) (addW .i64 n160 1) (xs163)))
     (none))
    (none))
   (none))
  (K0 (n159))
noncomputable def stats_Second_l12_1_L {R : Type} (K0 : Int → Option R) : Nat → Int → Int → List Int → Option R
  | 0, _, _, _ => none
  | N + 1, n159, n160, xs161 => stats_Second_l12_1_T (stats_Second_l12_1_L K0 N) n159 n160 xs161 K0
noncomputable def stats_Second_l12_1_B {R : Type} (n159 : Int) (n160 : Int) (xs161 : List Int) (K0 : Int → Option R) : Option R :=
 stats_Second_l12_1_L K0 NR n159 n160 xs161
noncomputable def stats_Second_l12_1 {R : Type} := shut (@stats_Second_l12_1_B R)
theorem stats_Second_l12_1_unf {R : Type} : @stats_Second_l12_1 R = @stats_Second_l12_1_B R := shut_eq _

noncomputable def stats_Second_B {R : Type} (xs152 : List Int) (K0 : Int → Option R) : Option R :=
 sel (decide (8192 < (↑(List.length xs152) : Int)))
  (K0 (0))
  (stats_Second_l6_1 (xs152) (max2 0 (subW .i64 (↑(List.length xs152) : Int) 1)) (0) (List.replicate 65536 0)
   (fun xs158 => stats_Second_l12_1 (0) (0) (xs158)
    (fun n164 => K0 (n164))))
noncomputable def stats_Second {R : Type} := shut (@stats_Second_B R)
theorem stats_Second_unf {R : Type} : @stats_Second R = @stats_Second_B R := shut_eq _

noncomputable def haystacklaw19_StatsContext_B {R : Type} (xs0 : List Int) (K0 : Bool → Option R) : Option R :=
 sel (decide (2000 < (↑(List.length xs0) : Int)))
  (haystacklaw19_heads 
   (fun b143 => K0 (b143)))
  (stats_Counts (xs0)
   (fun xs151 => stats_Second (xs0)
    (fun n165 => stats_Entropy (xs151)
     (fun n166 => stats_Distinct (xs151)
      (fun n167 => sel (decide (n165 ≤ addW .i64 (addW .i64 n166 n167) 2))
       (stats_Second (xs0)
        (fun n168 => sel (decide (0 ≤ n168))
         (haystacklaw19_heads 
          (fun b169 => K0 (b169)))
         (K0 (false))))
       (K0 (false)))))))
noncomputable def haystacklaw19_StatsContext {R : Type} := shut (@haystacklaw19_StatsContext_B R)
theorem haystacklaw19_StatsContext_unf {R : Type} : @haystacklaw19_StatsContext R = @haystacklaw19_StatsContext_B R := shut_eq _

noncomputable def haystackref19_Counts_l4_T {R : Type} (rec : List Int → Nat → Int → List Int → Option R) (xs180 : List Int) (l181 : Nat) (n182 : Int) (xs183 : List Int) (K0 : Nat → List Int → Option R) : Option R :=
 sel (decide (n182 < (↑(List.length xs180) : Int)))
  (sel (decide (0 ≤ n182))
   (sel (decide (n182 < (↑(List.length xs180) : Int)))
    (sel (decide (0 ≤ List.getD xs180 (Int.toNat n182) 0))
     (sel (decide (List.getD xs180 (Int.toNat n182) 0 < (↑l181 : Int)))
      (sel (decide (Int.toNat (List.getD xs180 (Int.toNat n182) 0) < List.length xs183))
       (sel (decide (0 ≤ List.getD xs180 (Int.toNat n182) 0))
        (sel (decide (List.getD xs180 (Int.toNat n182) 0 < (↑l181 : Int)))
         (sel (decide (Int.toNat (List.getD xs180 (Int.toNat n182) 0) < List.length xs183))
          (letV (List.set xs183 (Int.toNat (List.getD xs180 (Int.toNat n182) 0)) (addW .i64 (List.getD xs183 (Int.toNat (List.getD xs180 (Int.toNat n182) 0)) 0) 1)) (fun (xs184 : List Int) =>
          rec (xs180) (l181) (addW .i64 n182 1) (xs184)))
          (none))
         (none))
        (none))
       (none))
      (none))
     (none))
    (none))
   (none))
  (K0 (l181) (xs183))
noncomputable def haystackref19_Counts_l4_L {R : Type} (K0 : Nat → List Int → Option R) : Nat → List Int → Nat → Int → List Int → Option R
  | 0, _, _, _, _ => none
  | N + 1, xs180, l181, n182, xs183 => haystackref19_Counts_l4_T (haystackref19_Counts_l4_L K0 N) xs180 l181 n182 xs183 K0
noncomputable def haystackref19_Counts_l4_B {R : Type} (xs180 : List Int) (l181 : Nat) (n182 : Int) (xs183 : List Int) (K0 : Nat → List Int → Option R) : Option R :=
 haystackref19_Counts_l4_L K0 NR xs180 l181 n182 xs183
noncomputable def haystackref19_Counts_l4 {R : Type} := shut (@haystackref19_Counts_l4_B R)
theorem haystackref19_Counts_l4_unf {R : Type} : @haystackref19_Counts_l4 R = @haystackref19_Counts_l4_B R := shut_eq _

noncomputable def haystackref19_Counts_B {R : Type} (xs179 : List Int) (K0 : List Int → Option R) : Option R :=
 haystackref19_Counts_l4 (xs179) (Int.toNat 256) (0) (List.replicate (Int.toNat 256) 0)
  (fun l185 xs186 => sel (decide (l185 = List.length xs186))
   (K0 (xs186))
   (sel (decide (0 + l185 ≤ List.length xs186))
    (K0 (List.take l185 (List.drop 0 xs186)))
    (none)))
noncomputable def haystackref19_Counts {R : Type} := shut (@haystackref19_Counts_B R)
theorem haystackref19_Counts_unf {R : Type} : @haystackref19_Counts R = @haystackref19_Counts_B R := shut_eq _

noncomputable def haystackref07_Numbers_l5_T {R : Type} (rec : List Int → List Int → Int → Option R) (xs190 : List Int) (xs191 : List Int) (n192 : Int) (K0 : Bool → Option R) (K1 : Unit → Option R) : Option R :=
 sel (decide (n192 < (↑(List.length xs190) : Int)))
  (sel (decide (0 ≤ n192))
   (sel (decide (n192 < (↑(List.length xs190) : Int)))
    (sel (decide (0 ≤ n192))
     (sel (decide (n192 < (↑(List.length xs191) : Int)))
      (sel (!decide (List.getD xs190 (Int.toNat n192) 0 = List.getD xs191 (Int.toNat n192) 0))
       (K0 (false))
       (rec (xs190) (xs191) (addW .i64 n192 1)))
      (none))
     (none))
    (none))
   (none))
  (K1 ())
noncomputable def haystackref07_Numbers_l5_L {R : Type} (K0 : Bool → Option R) (K1 : Unit → Option R) : Nat → List Int → List Int → Int → Option R
  | 0, _, _, _ => none
  | N + 1, xs190, xs191, n192 => haystackref07_Numbers_l5_T (haystackref07_Numbers_l5_L K0 K1 N) xs190 xs191 n192 K0 K1
noncomputable def haystackref07_Numbers_l5_B {R : Type} (xs190 : List Int) (xs191 : List Int) (n192 : Int) (K0 : Bool → Option R) (K1 : Unit → Option R) : Option R :=
 haystackref07_Numbers_l5_L K0 K1 NR xs190 xs191 n192
noncomputable def haystackref07_Numbers_l5 {R : Type} := shut (@haystackref07_Numbers_l5_B R)
theorem haystackref07_Numbers_l5_unf {R : Type} : @haystackref07_Numbers_l5 R = @haystackref07_Numbers_l5_B R := shut_eq _

noncomputable def haystackref07_Numbers_B {R : Type} (xs188 : List Int) (xs189 : List Int) (K0 : Bool → Option R) : Option R :=
 sel (!decide ((↑(List.length xs188) : Int) = (↑(List.length xs189) : Int)))
  (K0 (false))
  (haystackref07_Numbers_l5 (xs188) (xs189) (0)
   (fun b193 => K0 (b193))
   (fun _ => K0 (true)))
noncomputable def haystackref07_Numbers {R : Type} := shut (@haystackref07_Numbers_B R)
theorem haystackref07_Numbers_unf {R : Type} : @haystackref07_Numbers R = @haystackref07_Numbers_B R := shut_eq _

noncomputable def haystackref01_Len_l3_T {R : Type} (rec : Int → Int → Option R) (n199 : Int) (n200 : Int) (K0 : Int → Option R) (K1 : Unit → Option R) : Option R :=
 sel (decide (0 < n200))
  (sel (decide (0 ≤ cvtW .u64 (subW .i64 n200 1)))
   (sel (decide (remW (shrW .u64 n199 (cvtW .u64 (subW .i64 n200 1))) 2 = 1))
    (K0 (n200))
    (rec (n199) (subW .i64 n200 1)))
   (none))
  (K1 ())
noncomputable def haystackref01_Len_l3_L {R : Type} (K0 : Int → Option R) (K1 : Unit → Option R) : Nat → Int → Int → Option R
  | 0, _, _ => none
  | N + 1, n199, n200 => haystackref01_Len_l3_T (haystackref01_Len_l3_L K0 K1 N) n199 n200 K0 K1
noncomputable def haystackref01_Len_l3_B {R : Type} (n199 : Int) (n200 : Int) (K0 : Int → Option R) (K1 : Unit → Option R) : Option R :=
 haystackref01_Len_l3_L K0 K1 NR n199 n200
noncomputable def haystackref01_Len_l3 {R : Type} := shut (@haystackref01_Len_l3_B R)
theorem haystackref01_Len_l3_unf {R : Type} : @haystackref01_Len_l3 R = @haystackref01_Len_l3_B R := shut_eq _

noncomputable def haystackref01_Len_B {R : Type} (n198 : Int) (K0 : Int → Option R) : Option R :=
 haystackref01_Len_l3 (n198) (64)
  (fun n201 => K0 (n201))
  (fun _ => K0 (0))
noncomputable def haystackref01_Len {R : Type} := shut (@haystackref01_Len_B R)
theorem haystackref01_Len_unf {R : Type} : @haystackref01_Len R = @haystackref01_Len_B R := shut_eq _

noncomputable def haystackref19_Log_l8_T {R : Type} (rec : Int → Int → Int → Option R) (n203 : Int) (n204 : Int) (n205 : Int) (K0 : Int → Option R) : Option R :=
 sel (decide (n205 < 16))
  (sel (decide (4294967296 ≤ shrW .u64 (mulW .u64 n203 n203) 31))
   (rec (shrW .u64 (shrW .u64 (mulW .u64 n203 n203) 31) 1) (addW .i64 (mulW .i64 2 n204) 1) (addW .i64 n205 1))
   (rec (shrW .u64 (mulW .u64 n203 n203) 31) (mulW .i64 2 n204) (addW .i64 n205 1)))
  (K0 (n204))
noncomputable def haystackref19_Log_l8_L {R : Type} (K0 : Int → Option R) : Nat → Int → Int → Int → Option R
  | 0, _, _, _ => none
  | N + 1, n203, n204, n205 => haystackref19_Log_l8_T (haystackref19_Log_l8_L K0 N) n203 n204 n205 K0
noncomputable def haystackref19_Log_l8_B {R : Type} (n203 : Int) (n204 : Int) (n205 : Int) (K0 : Int → Option R) : Option R :=
 haystackref19_Log_l8_L K0 NR n203 n204 n205
noncomputable def haystackref19_Log_l8 {R : Type} := shut (@haystackref19_Log_l8_B R)
theorem haystackref19_Log_l8_unf {R : Type} : @haystackref19_Log_l8 R = @haystackref19_Log_l8_B R := shut_eq _

noncomputable def haystackref19_Log_j4_B {R : Type} (n197 : Int) (K0 : Int → Option R) : Option R :=
 haystackref01_Len (cvtW .u64 n197)
  (fun n202 => sel (decide (0 ≤ cvtW .u64 (subW .i64 31 (subW .i64 n202 1))))
   (haystackref19_Log_l8 (shlW .u64 (cvtW .u64 n197) (cvtW .u64 (subW .i64 31 (subW .i64 n202 1)))) (subW .i64 n202 1) (0)
    (fun n206 => K0 (n206)))
   (none))
noncomputable def haystackref19_Log_j4 {R : Type} := shut (@haystackref19_Log_j4_B R)
theorem haystackref19_Log_j4_unf {R : Type} : @haystackref19_Log_j4 R = @haystackref19_Log_j4_B R := shut_eq _

noncomputable def haystackref19_Log_B {R : Type} (n196 : Int) (K0 : Int → Option R) : Option R :=
 sel (decide (n196 < 1))
  (K0 (0))
  (sel (decide (1073741824 < n196))
   (K0 (0))
   (haystackref19_Log_j4 (n196)
    (fun n207 => K0 (n207))))
noncomputable def haystackref19_Log {R : Type} := shut (@haystackref19_Log_B R)
theorem haystackref19_Log_unf {R : Type} : @haystackref19_Log R = @haystackref19_Log_B R := shut_eq _

noncomputable def haystackref19_Entropy_j10_B {R : Type} (xs214 : List Int) (n215 : Int) (n216 : Int) (K0 : List Int → Int → Int → Option R) : Option R :=
 sel (decide (0 ≤ n216))
  (sel (decide (n216 < (↑(List.length xs214) : Int)))
   (K0 (xs214) (addW .i64 n215 (List.getD xs214 (Int.toNat n216) 0)) (n216))
   (none))
  (none)
noncomputable def haystackref19_Entropy_j10 {R : Type} := shut (@haystackref19_Entropy_j10_B R)
theorem haystackref19_Entropy_j10_unf {R : Type} : @haystackref19_Entropy_j10 R = @haystackref19_Entropy_j10_B R := shut_eq _

noncomputable def haystackref19_Entropy_l6_T {R : Type} (rec : List Int → Int → Int → Option R) (xs211 : List Int) (n212 : Int) (n213 : Int) (K0 : Int → Option R) (K1 : List Int → Int → Option R) : Option R :=
 sel (decide (n213 < (↑(List.length xs211) : Int)))
  (sel (decide (0 ≤ n213))
   (sel (decide (n213 < (↑(List.length xs211) : Int)))
    (sel (decide (List.getD xs211 (Int.toNat n213) 0 < 0))
     (K0 (0))
     (sel (decide (0 ≤ n213))
      (sel (decide (n213 < (↑(List.length xs211) : Int)))
       (sel (decide (65536 < List.getD xs211 (Int.toNat n213) 0))
        (K0 (0))
        (haystackref19_Entropy_j10 (xs211) (n212) (n213)
         (fun xs217 n218 n219 => rec (xs217) (n218) (addW .i64 n219 1))))
       (none))
      (none)))
    (none))
   (none))
  (K1 (xs211) (n212))
noncomputable def haystackref19_Entropy_l6_L {R : Type} (K0 : Int → Option R) (K1 : List Int → Int → Option R) : Nat → List Int → Int → Int → Option R
  | 0, _, _, _ => none
  | N + 1, xs211, n212, n213 => haystackref19_Entropy_l6_T (haystackref19_Entropy_l6_L K0 K1 N) xs211 n212 n213 K0 K1
noncomputable def haystackref19_Entropy_l6_B {R : Type} (xs211 : List Int) (n212 : Int) (n213 : Int) (K0 : Int → Option R) (K1 : List Int → Int → Option R) : Option R :=
 haystackref19_Entropy_l6_L K0 K1 NR xs211 n212 n213
noncomputable def haystackref19_Entropy_l6 {R : Type} := shut (@haystackref19_Entropy_l6_B R)
theorem haystackref19_Entropy_l6_unf {R : Type} : @haystackref19_Entropy_l6 R = @haystackref19_Entropy_l6_B R := shut_eq _

noncomputable def haystackref19_Entropy_l13_T {R : Type} (rec : List Int → Int → Int → Int → Option R) (xs223 : List Int) (n224 : Int) (n225 : Int) (n226 : Int) (K0 : Int → Option R) : Option R :=
 sel (decide (n226 < (↑(List.length xs223) : Int)))
  (sel (decide (0 ≤ n226))
   (sel (decide (n226 < (↑(List.length xs223) : Int)))
    (sel (decide (0 < List.getD xs223 (Int.toNat n226) 0))
     (sel (decide (0 ≤ n226))
      (sel (decide (n226 < (↑(List.length xs223) : Int)))
       (haystackref19_Log (n224)
        (fun n227 => sel (decide (0 ≤ n226))
         (sel (decide (n226 < (↑(List.length xs223) : Int)))
          (haystackref19_Log (List.getD xs223 (Int.toNat n226) 0)
           (fun n228 => rec (xs223) (n224) (addW .i64 n225 (mulW .i64 (List.getD xs223 (Int.toNat n226) 0) (max2 0 (subW .i64 n227 n228)))) (addW .i64 n226 1)))
          (none))
         (none)))
       (none))
      (none))
     (rec (xs223) (n224) (n225) (addW .i64 n226 1)))
    (none))
   (none))
  (K0 (n225))
noncomputable def haystackref19_Entropy_l13_L {R : Type} (K0 : Int → Option R) : Nat → List Int → Int → Int → Int → Option R
  | 0, _, _, _, _ => none
  | N + 1, xs223, n224, n225, n226 => haystackref19_Entropy_l13_T (haystackref19_Entropy_l13_L K0 N) xs223 n224 n225 n226 K0
noncomputable def haystackref19_Entropy_l13_B {R : Type} (xs223 : List Int) (n224 : Int) (n225 : Int) (n226 : Int) (K0 : Int → Option R) : Option R :=
 haystackref19_Entropy_l13_L K0 NR xs223 n224 n225 n226
noncomputable def haystackref19_Entropy_l13 {R : Type} := shut (@haystackref19_Entropy_l13_B R)
theorem haystackref19_Entropy_l13_unf {R : Type} : @haystackref19_Entropy_l13 R = @haystackref19_Entropy_l13_B R := shut_eq _

noncomputable def haystackref19_Entropy_B {R : Type} (xs210 : List Int) (K0 : Int → Option R) : Option R :=
 sel (!decide ((↑(List.length xs210) : Int) = 256))
  (K0 (0))
  (haystackref19_Entropy_l6 (xs210) (0) (0)
   (fun n220 => K0 (n220))
   (fun xs221 n222 => haystackref19_Entropy_l13 (xs221) (n222) (0) (0)
    (fun n229 => K0 (quoW .i64 (subW .i64 (addW .i64 n229 65536) 1) 65536))))
noncomputable def haystackref19_Entropy {R : Type} := shut (@haystackref19_Entropy_B R)
theorem haystackref19_Entropy_unf {R : Type} : @haystackref19_Entropy R = @haystackref19_Entropy_B R := shut_eq _

noncomputable def haystackref19_Second_l10_1_T {R : Type} (rec : List Int → Int → Int → Nat → Int → List Int → Option R) (xs241 : List Int) (n242 : Int) (n243 : Int) (l244 : Nat) (n245 : Int) (xs246 : List Int) (K0 : List Int → Int → Int → Nat → List Int → Option R) : Option R :=
 sel (decide (addW .i64 n245 1 < (↑(List.length xs241) : Int)))
  (sel (decide (0 ≤ n245))
   (sel (decide (n245 < (↑(List.length xs241) : Int)))
    (sel (decide (cvtW .i64 (List.getD xs241 (Int.toNat n245) 0) = n243))
     (sel (decide (0 ≤ addW .i64 n245 1))
      (sel (decide (addW .i64 n245 1 < (↑(List.length xs241) : Int)))
       (letV ([List.getD xs241 (Int.toNat (addW .i64 n245 1)) 0]) (fun (xs247 : List Int) =>
       sel (decide (1 = List.length xs247))
        (sel (decide (List.length xs246 = l244))
         (sel (decide ((l244 + 1) * 1 ≤ 140737488355328))
          (letV (xs246 ++ xs247) (fun (xs248 : List Int) =>
          rec (xs241) (n242) (n243) (l244 + 1) (addW .i64 n245 1) (xs248)))
          (none))
         (none))
        (sel (decide (0 + 1 ≤ List.length xs247))
         (sel (decide (List.length xs246 = l244))
          (sel (decide ((l244 + 1) * 1 ≤ 140737488355328))
           (letV (xs246 ++ List.take 1 (List.drop 0 xs247)) (fun (xs249 : List Int) =>
           rec (xs241) (n242) (n243) (l244 + 1) (addW .i64 n245 1) (xs249)))
           (none))
          (none))
         (none))))
       (none))
      (none))
     (rec (xs241) (n242) (n243) (l244) (addW .i64 n245 1) (xs246)))
    (none))
   (none))
  (K0 (xs241) (n242) (n243) (l244) (xs246))
noncomputable def haystackref19_Second_l10_1_L {R : Type} (K0 : List Int → Int → Int → Nat → List Int → Option R) : Nat → List Int → Int → Int → Nat → Int → List Int → Option R
  | 0, _, _, _, _, _, _ => none
  | N + 1, xs241, n242, n243, l244, n245, xs246 => haystackref19_Second_l10_1_T (haystackref19_Second_l10_1_L K0 N) xs241 n242 n243 l244 n245 xs246 K0
noncomputable def haystackref19_Second_l10_1_B {R : Type} (xs241 : List Int) (n242 : Int) (n243 : Int) (l244 : Nat) (n245 : Int) (xs246 : List Int) (K0 : List Int → Int → Int → Nat → List Int → Option R) : Option R :=
 haystackref19_Second_l10_1_L K0 NR xs241 n242 n243 l244 n245 xs246
noncomputable def haystackref19_Second_l10_1 {R : Type} := shut (@haystackref19_Second_l10_1_B R)
theorem haystackref19_Second_l10_1_unf {R : Type} : @haystackref19_Second_l10_1 R = @haystackref19_Second_l10_1_B R := shut_eq _

noncomputable def haystackref19_Second_l10_T {R : Type} (rec : List Int → Int → Int → Int → Option R) (rec0 : List Int → Int → Int → Nat → Int → List Int → Option R) (xs236 : List Int) (n237 : Int) (n238 : Int) (n239 : Int) (K0 : List Int → Int → Int → Nat → List Int → Option R) (K1 : List Int → Int → Int → Option R) : Option R :=
 sel (decide (addW .i64 n239 1 < (↑(List.length xs236) : Int)))
  (sel (decide (0 ≤ n239))
   (sel (decide (n239 < (↑(List.length xs236) : Int)))
    (sel (decide (cvtW .i64 (List.getD xs236 (Int.toNat n239) 0) = n238))
     (sel (decide (0 ≤ addW .i64 n239 1))
      (sel (decide (addW .i64 n239 1 < (↑(List.length xs236) : Int)))
       (letV ([List.getD xs236 (Int.toNat (addW .i64 n239 1)) 0]) (fun (xs240 : List Int) =>
       sel (decide (1 = List.length xs240))
        (rec0 (xs236) (n237) (n238) (1) (addW .i64 n239 1) (xs240))
        (sel (decide (0 + 1 ≤ List.length xs240))
         (letV (List.take 1 (List.drop 0 xs240)) (fun (xs250 : List Int) =>
         rec0 (xs236) (n237) (n238) (1) (addW .i64 n239 1) (xs250)))
         (none))))
       (none))
      (none))
     (rec (xs236) (n237) (n238) (addW .i64 n239 1)))
    (none))
   (none))
  (K1 (xs236) (n237) (n238))
noncomputable def haystackref19_Second_l10_L {R : Type} (K0 : List Int → Int → Int → Nat → List Int → Option R) (K1 : List Int → Int → Int → Option R) : Nat → List Int → Int → Int → Int → Option R
  | 0, _, _, _, _ => none
  | N + 1, xs236, n237, n238, n239 => haystackref19_Second_l10_T (haystackref19_Second_l10_L K0 K1 N) (haystackref19_Second_l10_1_L K0 N) xs236 n237 n238 n239 K0 K1
noncomputable def haystackref19_Second_l10_B {R : Type} (xs236 : List Int) (n237 : Int) (n238 : Int) (n239 : Int) (K0 : List Int → Int → Int → Nat → List Int → Option R) (K1 : List Int → Int → Int → Option R) : Option R :=
 haystackref19_Second_l10_L K0 K1 NR xs236 n237 n238 n239
noncomputable def haystackref19_Second_l10 {R : Type} := shut (@haystackref19_Second_l10_B R)
theorem haystackref19_Second_l10_unf {R : Type} : @haystackref19_Second_l10 R = @haystackref19_Second_l10_B R := shut_eq _

noncomputable def haystackref19_Counts_l4_1_T {R : Type} (rec : Nat → Nat → Int → List Int → List Int → Option R) (l258 : Nat) (l259 : Nat) (n260 : Int) (xs261 : List Int) (xs262 : List Int) (K0 : Nat → List Int → List Int → Option R) : Option R :=
 sel (decide (n260 < (↑l258 : Int)))
  (sel (decide (0 ≤ n260))
   (sel (decide (n260 < (↑l258 : Int)))
    (sel (decide (Int.toNat n260 < List.length xs261))
     (sel (decide (0 ≤ List.getD xs261 (Int.toNat n260) 0))
      (sel (decide (List.getD xs261 (Int.toNat n260) 0 < (↑l259 : Int)))
       (sel (decide (Int.toNat (List.getD xs261 (Int.toNat n260) 0) < List.length xs262))
        (sel (decide (0 ≤ List.getD xs261 (Int.toNat n260) 0))
         (sel (decide (List.getD xs261 (Int.toNat n260) 0 < (↑l259 : Int)))
          (sel (decide (Int.toNat (List.getD xs261 (Int.toNat n260) 0) < List.length xs262))
           (letV (List.set xs262 (Int.toNat (List.getD xs261 (Int.toNat n260) 0)) (addW .i64 (List.getD xs262 (Int.toNat (List.getD xs261 (Int.toNat n260) 0)) 0) 1)) (fun (xs263 : List Int) =>
           rec (l258) (l259) (addW .i64 n260 1) (xs261) (xs263)))
           (none))
          (none))
         (none))
        (none))
       (none))
      (none))
     (none))
    (none))
   (none))
  (K0 (l259) (xs261) (xs262))
noncomputable def haystackref19_Counts_l4_1_L {R : Type} (K0 : Nat → List Int → List Int → Option R) : Nat → Nat → Nat → Int → List Int → List Int → Option R
  | 0, _, _, _, _, _ => none
  | N + 1, l258, l259, n260, xs261, xs262 => haystackref19_Counts_l4_1_T (haystackref19_Counts_l4_1_L K0 N) l258 l259 n260 xs261 xs262 K0
noncomputable def haystackref19_Counts_l4_1_B {R : Type} (l258 : Nat) (l259 : Nat) (n260 : Int) (xs261 : List Int) (xs262 : List Int) (K0 : Nat → List Int → List Int → Option R) : Option R :=
 haystackref19_Counts_l4_1_L K0 NR l258 l259 n260 xs261 xs262
noncomputable def haystackref19_Counts_l4_1 {R : Type} := shut (@haystackref19_Counts_l4_1_B R)
theorem haystackref19_Counts_l4_1_unf {R : Type} : @haystackref19_Counts_l4_1 R = @haystackref19_Counts_l4_1_B R := shut_eq _

noncomputable def haystackref19_Counts_r_B {R : Type} (l256 : Nat) (xs257 : List Int) (K0 : Nat → List Int → List Int → Option R) : Option R :=
 haystackref19_Counts_l4_1 (l256) (Int.toNat 256) (0) (xs257) (List.replicate (Int.toNat 256) 0)
  (fun l264 xs265 xs266 => K0 (l264) (xs265) (xs266))
noncomputable def haystackref19_Counts_r {R : Type} := shut (@haystackref19_Counts_r_B R)
theorem haystackref19_Counts_r_unf {R : Type} : @haystackref19_Counts_r R = @haystackref19_Counts_r_B R := shut_eq _

noncomputable def haystackref19_Entropy_j10_1_B {R : Type} (l276 : Nat) (n277 : Int) (n278 : Int) (xs279 : List Int) (K0 : Nat → Int → Int → List Int → Option R) : Option R :=
 sel (decide (0 ≤ n278))
  (sel (decide (n278 < (↑l276 : Int)))
   (sel (decide (Int.toNat n278 < List.length xs279))
    (K0 (l276) (addW .i64 n277 (List.getD xs279 (Int.toNat n278) 0)) (n278) (xs279))
    (none))
   (none))
  (none)
noncomputable def haystackref19_Entropy_j10_1 {R : Type} := shut (@haystackref19_Entropy_j10_1_B R)
theorem haystackref19_Entropy_j10_1_unf {R : Type} : @haystackref19_Entropy_j10_1 R = @haystackref19_Entropy_j10_1_B R := shut_eq _

noncomputable def haystackref19_Entropy_l6_1_T {R : Type} (rec : Nat → Int → Int → List Int → Option R) (l272 : Nat) (n273 : Int) (n274 : Int) (xs275 : List Int) (K0 : Int → List Int → Option R) (K1 : Nat → Int → List Int → Option R) : Option R :=
 sel (decide (n274 < (↑l272 : Int)))
  (sel (decide (0 ≤ n274))
   (sel (decide (n274 < (↑l272 : Int)))
    (sel (decide (Int.toNat n274 < List.length xs275))
     (sel (decide (List.getD xs275 (Int.toNat n274) 0 < 0))
      (K0 (0) (xs275))
      (sel (decide (0 ≤ n274))
       (sel (decide (n274 < (↑l272 : Int)))
        (sel (decide (Int.toNat n274 < List.length xs275))
         (sel (decide (65536 < List.getD xs275 (Int.toNat n274) 0))
          (K0 (0) (xs275))
          (haystackref19_Entropy_j10_1 (l272) (n273) (n274) (xs275)
           (fun l280 n281 n282 xs283 => rec (l280) (n281) (addW .i64 n282 1) (xs283))))
         (none))
        (none))
       (none)))
     (none))
    (none))
   (none))
  (K1 (l272) (n273) (xs275))
noncomputable def haystackref19_Entropy_l6_1_L {R : Type} (K0 : Int → List Int → Option R) (K1 : Nat → Int → List Int → Option R) : Nat → Nat → Int → Int → List Int → Option R
  | 0, _, _, _, _ => none
  | N + 1, l272, n273, n274, xs275 => haystackref19_Entropy_l6_1_T (haystackref19_Entropy_l6_1_L K0 K1 N) l272 n273 n274 xs275 K0 K1
noncomputable def haystackref19_Entropy_l6_1_B {R : Type} (l272 : Nat) (n273 : Int) (n274 : Int) (xs275 : List Int) (K0 : Int → List Int → Option R) (K1 : Nat → Int → List Int → Option R) : Option R :=
 haystackref19_Entropy_l6_1_L K0 K1 NR l272 n273 n274 xs275
noncomputable def haystackref19_Entropy_l6_1 {R : Type} := shut (@haystackref19_Entropy_l6_1_B R)
theorem haystackref19_Entropy_l6_1_unf {R : Type} : @haystackref19_Entropy_l6_1 R = @haystackref19_Entropy_l6_1_B R := shut_eq _

noncomputable def haystackref19_Entropy_l13_1_T {R : Type} (rec : Nat → Int → Int → Int → List Int → Option R) (l289 : Nat) (n290 : Int) (n291 : Int) (n292 : Int) (xs293 : List Int) (K0 : Int → List Int → Option R) : Option R :=
 sel (decide (n292 < (↑l289 : Int)))
  (sel (decide (0 ≤ n292))
   (sel (decide (n292 < (↑l289 : Int)))
    (sel (decide (Int.toNat n292 < List.length xs293))
     (sel (decide (0 < List.getD xs293 (Int.toNat n292) 0))
      (sel (decide (0 ≤ n292))
       (sel (decide (n292 < (↑l289 : Int)))
        (sel (decide (Int.toNat n292 < List.length xs293))
         (haystackref19_Log (n290)
          (fun n294 => sel (decide (0 ≤ n292))
           (sel (decide (n292 < (↑l289 : Int)))
            (sel (decide (Int.toNat n292 < List.length xs293))
             (haystackref19_Log (List.getD xs293 (Int.toNat n292) 0)
              (fun n295 => rec (l289) (n290) (addW .i64 n291 (mulW .i64 (List.getD xs293 (Int.toNat n292) 0) (max2 0 (subW .i64 n294 n295)))) (addW .i64 n292 1) (xs293)))
             (none))
            (none))
           (none)))
         (none))
        (none))
       (none))
      (rec (l289) (n290) (n291) (addW .i64 n292 1) (xs293)))
     (none))
    (none))
   (none))
  (K0 (n291) (xs293))
noncomputable def haystackref19_Entropy_l13_1_L {R : Type} (K0 : Int → List Int → Option R) : Nat → Nat → Int → Int → Int → List Int → Option R
  | 0, _, _, _, _, _ => none
  | N + 1, l289, n290, n291, n292, xs293 => haystackref19_Entropy_l13_1_T (haystackref19_Entropy_l13_1_L K0 N) l289 n290 n291 n292 xs293 K0
noncomputable def haystackref19_Entropy_l13_1_B {R : Type} (l289 : Nat) (n290 : Int) (n291 : Int) (n292 : Int) (xs293 : List Int) (K0 : Int → List Int → Option R) : Option R :=
 haystackref19_Entropy_l13_1_L K0 NR l289 n290 n291 n292 xs293
noncomputable def haystackref19_Entropy_l13_1 {R : Type} := shut (@haystackref19_Entropy_l13_1_B R)
theorem haystackref19_Entropy_l13_1_unf {R : Type} : @haystackref19_Entropy_l13_1 R = @haystackref19_Entropy_l13_1_B R := shut_eq _

noncomputable def haystackref19_Entropy_r_B {R : Type} (l270 : Nat) (xs271 : List Int) (K0 : Int → List Int → Option R) : Option R :=
 sel (!decide ((↑l270 : Int) = 256))
  (K0 (0) (xs271))
  (haystackref19_Entropy_l6_1 (l270) (0) (0) (xs271)
   (fun n284 xs285 => K0 (n284) (xs285))
   (fun l286 n287 xs288 => haystackref19_Entropy_l13_1 (l286) (n287) (0) (0) (xs288)
    (fun n296 xs297 => K0 (quoW .i64 (subW .i64 (addW .i64 n296 65536) 1) 65536) (xs297))))
noncomputable def haystackref19_Entropy_r {R : Type} := shut (@haystackref19_Entropy_r_B R)
theorem haystackref19_Entropy_r_unf {R : Type} : @haystackref19_Entropy_r R = @haystackref19_Entropy_r_B R := shut_eq _

noncomputable def haystackref19_Second_l6_T {R : Type} (rec : List Int → Int → Int → Option R) (xs233 : List Int) (n234 : Int) (n235 : Int) (K0 : Int → Option R) : Option R :=
 sel (decide (n235 < 256))
  (haystackref19_Second_l10 (xs233) (n234) (n235) (0)
   (fun xs251 n252 n253 l254 xs255 => sel (decide (0 < (↑l254 : Int)))
    (haystackref19_Counts_r (l254) (xs255)
     (fun l267 xs268 xs269 => haystackref19_Entropy_r (l267) (xs269)
      (fun n298 xs299 => rec (xs251) (addW .i64 n252 n298) (addW .i64 n253 1))))
    (rec (xs251) (n252) (addW .i64 n253 1)))
   (fun xs300 n301 n302 => rec (xs300) (n301) (addW .i64 n302 1)))
  (K0 (n234))
noncomputable def haystackref19_Second_l6_L {R : Type} (K0 : Int → Option R) : Nat → List Int → Int → Int → Option R
  | 0, _, _, _ => none
  | N + 1, xs233, n234, n235 => haystackref19_Second_l6_T (haystackref19_Second_l6_L K0 N) xs233 n234 n235 K0
noncomputable def haystackref19_Second_l6_B {R : Type} (xs233 : List Int) (n234 : Int) (n235 : Int) (K0 : Int → Option R) : Option R :=
 haystackref19_Second_l6_L K0 NR xs233 n234 n235
noncomputable def haystackref19_Second_l6 {R : Type} := shut (@haystackref19_Second_l6_B R)
theorem haystackref19_Second_l6_unf {R : Type} : @haystackref19_Second_l6 R = @haystackref19_Second_l6_B R := shut_eq _

noncomputable def haystackref19_Second_B {R : Type} (xs232 : List Int) (K0 : Int → Option R) : Option R :=
 sel (decide (8192 < (↑(List.length xs232) : Int)))
  (K0 (0))
  (haystackref19_Second_l6 (xs232) (0) (0)
   (fun n303 => K0 (n303)))
noncomputable def haystackref19_Second {R : Type} := shut (@haystackref19_Second_B R)
theorem haystackref19_Second_unf {R : Type} : @haystackref19_Second R = @haystackref19_Second_B R := shut_eq _

noncomputable def haystackref19_Distinct_j6_B {R : Type} (xs310 : List Int) (n311 : Int) (n312 : Int) (K0 : List Int → Int → Int → Option R) : Option R :=
 sel (decide (0 ≤ n312))
  (sel (decide (n312 < (↑(List.length xs310) : Int)))
   (sel (decide (0 < List.getD xs310 (Int.toNat n312) 0))
    (K0 (xs310) (addW .i64 n311 1) (addW .i64 n312 1))
    (K0 (xs310) (n311) (addW .i64 n312 1)))
   (none))
  (none)
noncomputable def haystackref19_Distinct_j6 {R : Type} := shut (@haystackref19_Distinct_j6_B R)
theorem haystackref19_Distinct_j6_unf {R : Type} : @haystackref19_Distinct_j6 R = @haystackref19_Distinct_j6_B R := shut_eq _

noncomputable def haystackref19_Distinct_l4_T {R : Type} (rec : List Int → Int → Int → Option R) (xs307 : List Int) (n308 : Int) (n309 : Int) (K0 : Int → Option R) : Option R :=
 sel (decide (n309 < (↑(List.length xs307) : Int)))
  (sel (decide ((↑(List.length xs307) : Int) = 256))
   (haystackref19_Distinct_j6 (xs307) (n308) (n309)
    (fun xs313 n314 n315 => rec (xs313) (n314) (n315)))
   (K0 (n308)))
  (K0 (n308))
noncomputable def haystackref19_Distinct_l4_L {R : Type} (K0 : Int → Option R) : Nat → List Int → Int → Int → Option R
  | 0, _, _, _ => none
  | N + 1, xs307, n308, n309 => haystackref19_Distinct_l4_T (haystackref19_Distinct_l4_L K0 N) xs307 n308 n309 K0
noncomputable def haystackref19_Distinct_l4_B {R : Type} (xs307 : List Int) (n308 : Int) (n309 : Int) (K0 : Int → Option R) : Option R :=
 haystackref19_Distinct_l4_L K0 NR xs307 n308 n309
noncomputable def haystackref19_Distinct_l4 {R : Type} := shut (@haystackref19_Distinct_l4_B R)
theorem haystackref19_Distinct_l4_unf {R : Type} : @haystackref19_Distinct_l4 R = @haystackref19_Distinct_l4_B R := shut_eq _

noncomputable def haystackref19_Distinct_B {R : Type} (xs306 : List Int) (K0 : Int → Option R) : Option R :=
 haystackref19_Distinct_l4 (xs306) (0) (0)
  (fun n316 => K0 (n316))
noncomputable def haystackref19_Distinct {R : Type} := shut (@haystackref19_Distinct_B R)
theorem haystackref19_Distinct_unf {R : Type} : @haystackref19_Distinct R = @haystackref19_Distinct_B R := shut_eq _

noncomputable def haystacklaw19_StatsTell_j4_B {R : Type} (xs175 : List Int) (n176 : Int) (xs177 : List Int) (K0 : Bool → Option R) : Option R :=
 stats_Counts (xs175)
  (fun xs178 => haystackref19_Counts (xs175)
   (fun xs187 => haystackref07_Numbers (xs178) (xs187)
    (fun b194 => sel (b194)
     (stats_Log (n176)
      (fun n195 => haystackref19_Log (n176)
       (fun n208 => sel (decide (n195 = n208))
        (stats_Entropy (xs177)
         (fun n209 => haystackref19_Entropy (xs177)
          (fun n230 => sel (decide (n209 = n230))
           (stats_Second (xs175)
            (fun n231 => haystackref19_Second (xs175)
             (fun n304 => sel (decide (n231 = n304))
              (stats_Distinct (xs177)
               (fun n305 => haystackref19_Distinct (xs177)
                (fun n317 => sel (decide (n305 = n317))
                 (haystacklaw19_heads 
                  (fun b318 => K0 (b318)))
                 (K0 (false)))))
              (K0 (false)))))
           (K0 (false)))))
        (K0 (false)))))
     (K0 (false)))))
noncomputable def haystacklaw19_StatsTell_j4 {R : Type} := shut (@haystacklaw19_StatsTell_j4_B R)
theorem haystacklaw19_StatsTell_j4_unf {R : Type} : @haystacklaw19_StatsTell_j4 R = @haystacklaw19_StatsTell_j4_B R := shut_eq _

noncomputable def haystacklaw19_StatsTell_B {R : Type} (xs170 : List Int) (n171 : Int) (xs172 : List Int) (K0 : Bool → Option R) : Option R :=
 sel (decide (2000 < (↑(List.length xs170) : Int)))
  (haystacklaw19_heads 
   (fun b173 => K0 (b173)))
  (sel (decide (1000 < (↑(List.length xs172) : Int)))
   (haystacklaw19_heads 
    (fun b174 => K0 (b174)))
   (haystacklaw19_StatsTell_j4 (xs170) (n171) (xs172)
    (fun b319 => K0 (b319))))
noncomputable def haystacklaw19_StatsTell {R : Type} := shut (@haystacklaw19_StatsTell_B R)
theorem haystacklaw19_StatsTell_unf {R : Type} : @haystacklaw19_StatsTell R = @haystacklaw19_StatsTell_B R := shut_eq _

noncomputable def haystacklaw19_StatsRise_j4_B {R : Type} (n325 : Int) (n326 : Int) (K0 : Bool → Option R) : Option R :=
 stats_Log (n325)
  (fun n327 => stats_Log (n326)
   (fun n328 => sel (decide (n327 ≤ n328))
    (stats_Log (mulW .i64 2 n325)
     (fun n329 => sel (decide (n329 = addW .i64 n327 65536))
      (sel (!decide (andW .i64 n325 (subW .i64 n325 1) = 0))
       (sel (decide (0 ≤ n327))
        (haystacklaw19_heads 
         (fun b330 => K0 (b330)))
        (K0 (false)))
       (sel (decide (remW n327 65536 = 0))
        (sel (decide (0 ≤ n327))
         (haystacklaw19_heads 
          (fun b331 => K0 (b331)))
         (K0 (false)))
        (K0 (false))))
      (K0 (false))))
    (K0 (false))))
noncomputable def haystacklaw19_StatsRise_j4 {R : Type} := shut (@haystacklaw19_StatsRise_j4_B R)
theorem haystacklaw19_StatsRise_j4_unf {R : Type} : @haystacklaw19_StatsRise_j4 R = @haystacklaw19_StatsRise_j4_B R := shut_eq _

noncomputable def haystacklaw19_StatsRise_B {R : Type} (n320 : Int) (n321 : Int) (K0 : Bool → Option R) : Option R :=
 sel (decide (n320 < 1))
  (haystacklaw19_heads 
   (fun b322 => K0 (b322)))
  (sel (decide (n321 < n320))
   (haystacklaw19_heads 
    (fun b323 => K0 (b323)))
   (sel (decide (536870912 < n321))
    (haystacklaw19_heads 
     (fun b324 => K0 (b324)))
    (haystacklaw19_StatsRise_j4 (n320) (n321)
     (fun b332 => K0 (b332)))))
noncomputable def haystacklaw19_StatsRise {R : Type} := shut (@haystacklaw19_StatsRise_B R)
theorem haystacklaw19_StatsRise_unf {R : Type} : @haystacklaw19_StatsRise R = @haystacklaw19_StatsRise_B R := shut_eq _

/-- what is kept where -/
def kpt : List (Nat × List (Nat × List Nat)) := [(3, [(5000, [0, 3, 999999]), (4000, [0, 999999]), (3000, [0, 6, 999999]), (2000, [0, 999999])]), (4, [(4002, [6]), (4001, [6]), (4000, [0, 1, 2, 999999]), (3000, [0, 1, 2, 14, 999999]), (2000, [0, 1, 2, 999999])]), (5, [(5000, [0, 5, 6, 999999]), (4002, [4]), (4001, [4]), (4000, [0, 1, 999999]), (3000, [0, 1, 17, 999999]), (2000, [0, 1, 999999])]), (7, [(999999999, []), (3000, [1, 999999]), (2000, [999999])]), (8, [(4403, [3]), (4402, [2]), (4401, []), (4400, [3, 6, 7, 8])]), (9, [(12405, [5]), (12402, [2]), (12401, []), (12400, [3, 5, 33]), (6403, [3]), (6402, [2]), (6401, []), (6400, [0, 3, 13, 14])]), (10, [(14405, [6]), (14402, [2]), (14401, []), (14400, [3, 6, 28, 29, 30]), (10003, [0, 3]), (10004, [0, 3, 12, 13, 14]), (10002, [2]), (10001, [0, 3, 12, 13, 14]), (10000, [0, 3, 5, 12, 13, 14]), (6403, [0, 3]), (6402, [2]), (6401, []), (6400, [0, 3, 12, 13, 14])]), (11, [(5403, [3]), (5402, [2]), (5401, []), (5400, [3, 9, 10, 11])]), (12, [(5403, []), (5402, [4]), (5401, []), (5400, [0, 1, 5])]), (13, [(4403, [3]), (4402, [2]), (4401, []), (4400, [0, 3, 4])]), (14, [(7403, [3]), (7402, [2]), (7401, []), (7400, [3, 4, 21]), (4002, [2]), (4001, [2]), (4000, [0])]), (15, [(8403, [5]), (8402, [2]), (8401, []), (8400, [4, 5, 6]), (4002, [2]), (4001, [2]), (4000, [0])]), (16, [(13405, [5]), (13402, [2]), (13401, []), (13400, [0, 3, 5, 6]), (10003, [0, 3]), (10004, [0, 3, 4]), (10002, [2]), (10001, [0, 3, 4]), (10000, [0, 3, 4]), (6403, [0, 3]), (6402, [2]), (6401, []), (6400, [0, 3, 4])]), (17, [(10403, [3]), (10404, [0, 3, 4]), (10405, [0, 3, 4, 5]), (10402, [2]), (10401, []), (10400, [0, 3, 4, 5, 6]), (6403, [3]), (6402, [2]), (6401, []), (6400, [0, 3, 4])]), (18, [(6003, [3]), (6002, [2]), (6001, [0, 3, 4]), (6000, [0, 3, 4]), (4403, [3]), (4402, [2]), (4401, []), (4400, [0, 3, 4])]), (22, [(3403, []), (3402, [2]), (3401, []), (3400, [0, 3])]), (26, [(11002, [2]), (11001, [2]), (11000, [0, 2]), (8002, [2]), (8001, [2]), (8000, [0, 2]), (5002, [2]), (5001, [2]), (5000, [0, 2])])]
/-- what is handed back open -/
def lvt : List (Nat × List Nat) := []
noncomputable def V (f : FuncId) : Env := env (keepOf kpt) (vsOf (match lkN lvt f with | some l => l | none => []))
theorem D0 : Dom B0 V B0 T0 0 := Dom.nil base_nat

noncomputable def o8r1_4400_in {R : Type} (K : Ex → St → Option R) (vs : List AV) (hh : H) : Option R := match vs, hh with
  | [AV.ptr 1 0, AV.sl 0 0 l3 1, AV.int .i64 n4, AV.int .i64 n5], [HB.live (Blk.ints .u8 xs6), HB.live (Blk.ints .i64 xs7)] => stats_Counts_l4 l3 n4 n5 xs6 xs7 (fun x0 x1 => K (Ex.exit 0) (St.mk (spread 19 0 [3] [AV.ptr 1 0]) [HB.live (Blk.ints .u8 x0), HB.live (Blk.ints .i64 x1)]))
  | _, _ => none

noncomputable def o8r1 : Nat → Option PSpec := lkN [(4400, fun st _ K => pickM 19 [3, 6, 7, 8] st (o8r1_4400_in K))]
noncomputable def q8r1 : CallF := evFun (V 8) B0 T0 10

noncomputable def c8r1_4400 : Code := subC [1, 1, 0, 1, 0, 0] (bodyOf Try.f8)

noncomputable def lp8r1_4400 {R : Type} (N : Nat) (st : St) (K : Ex → St → Option R) : Option R := evLoop (norm ((V 8).keep 8 (Ev.keyOf c8r1_4400 * 1000 + 400)) 1) (evCode (V 8) q8r1 o8r1 8 1 3994 c8r1_4400) N st (kOut (V 8) 8 1 (Ev.keyOf c8r1_4400 * 1000 + 401) K)

theorem stats_Counts_l4_L_eq {R : Type} (K : Ex → St → Option R) : ∀ N : Nat, (fun (l3 : Nat) (n4 : Int) (n5 : Int) (xs6 : List Int) (xs7 : List Int) => lp8r1_4400 N (St.mk (spread 19 0 [3, 6, 7, 8] [AV.ptr 1 0, AV.sl 0 0 l3 1, AV.int .i64 n4, AV.int .i64 n5]) [HB.live (Blk.ints .u8 xs6), HB.live (Blk.ints .i64 xs7)]) K) = stats_Counts_l4_L (fun x0 x1 => K (Ex.exit 0) (St.mk (spread 19 0 [3] [AV.ptr 1 0]) [HB.live (Blk.ints .u8 x0), HB.live (Blk.ints .i64 x1)])) N
  | 0 => by funext l3 n4 n5 xs6 xs7; rfl
  | N + 1 => by
    funext l3 n4 n5 xs6 xs7
    simp only [stats_Counts_l4_L]
    rw [← stats_Counts_l4_L_eq K N]
    kernel_rfl

theorem p8r1_4400 : PieceOk (V 8) q8r1 o8r1 8 1 (3994, 1, c8r1_4400) := .l (size := 19) (ss := [3, 6, 7, 8]) (F := @o8r1_4400_in) (by kernel_rfl) (by kernel_rfl) fun R r K vs hh h => by
  unfold o8r1_4400_in at h; split at h
  · rw [stats_Counts_l4_unf] at h; unfold stats_Counts_l4_B at h; rw [← stats_Counts_l4_L_eq K NR] at h; exact h
  · cases h

theorem pc8r1 : ∀ x ∈ [(3994, 1, c8r1_4400)], PieceOk (V 8) q8r1 o8r1 8 1 x := List.forall_mem_cons.2 ⟨p8r1_4400, fun _ h => nomatch h⟩

noncomputable def hs8 : HSpec := fun args h _ K => match args, h with
  | [AV.sl 0 0 l1 1], [HB.live (Blk.ints .u8 xs2)] => stats_Counts_r l1 xs2 (fun x0 x1 x2 => K (AV.sl 1 0 x0 1) ([HB.live (Blk.ints .u8 x1), HB.live (Blk.ints .i64 x2)]))
  | _, _ => none
noncomputable def T8 := addT 8 hs8 T0
theorem D1 : Dom B0 V B0 T8 1 := Dom.t D0 fun args hh R K r h => by
  unfold hs8 at h; split at h
  · rw [stats_Counts_r_unf] at h; exact ⟨o8r1, (OrcOk.fn (fn0 := Try.f8) (by kernel_rfl) (by kernel_rfl) pc8r1), Eq.trans (by kernel_rfl) h⟩
  · cases h

noncomputable def o26_5000_in {R : Type} (K : Ex → St → Option R) (vs : List AV) (hh : H) : Option R := match vs, hh with
  | [AV.int .u64 n18, AV.int .i64 n19], [] => math_bits_Len64_j5 n18 n19 (fun x0 => K (Ex.ret) (St.mk (spread 25 0 [2] [AV.int .i64 x0]) []))
  | _, _ => none

noncomputable def o26_8000_in {R : Type} (K : Ex → St → Option R) (vs : List AV) (hh : H) : Option R := match vs, hh with
  | [AV.int .u64 n20, AV.int .i64 n21], [] => math_bits_Len64_j8 n20 n21 (fun x0 => K (Ex.ret) (St.mk (spread 25 0 [2] [AV.int .i64 x0]) []))
  | _, _ => none

noncomputable def o26_11000_in {R : Type} (K : Ex → St → Option R) (vs : List AV) (hh : H) : Option R := match vs, hh with
  | [AV.int .u64 n22, AV.int .i64 n23], [] => math_bits_Len64_j11 n22 n23 (fun x0 => K (Ex.ret) (St.mk (spread 25 0 [2] [AV.int .i64 x0]) []))
  | _, _ => none

noncomputable def o26 : Nat → Option PSpec := lkN [(5000, fun st _ K => pickM 25 [0, 2] st (o26_5000_in K)), (8000, fun st _ K => pickM 25 [0, 2] st (o26_8000_in K)), (11000, fun st _ K => pickM 25 [0, 2] st (o26_11000_in K))]
noncomputable def q26 : CallF := evFun (V 26) B0 T8 10

noncomputable def c26_5000 : Code := subC [1, 1] (bodyOf Try.f26)

noncomputable def c26_8000 : Code := subC [1, 1, 1] (bodyOf Try.f26)

noncomputable def c26_11000 : Code := subC [1, 1, 1, 1] (bodyOf Try.f26)

theorem math_bits_Len64_j11_eq {R : Type} (K : Ex → St → Option R) (n22 : Int) (n23 : Int) : evCode (V 26) q26 o26 26 0 3996 c26_11000 (St.mk (spread 25 0 [0, 2] [AV.int .u64 n22, AV.int .i64 n23]) []) (kOut (V 26) 26 0 (Ev.keyOf c26_11000 * 1000 + 1) K) = math_bits_Len64_j11_B n22 n23 (fun x0 => K (Ex.ret) (St.mk (spread 25 0 [2] [AV.int .i64 x0]) [])) := by kernel_rfl

theorem p26_5000 : PieceOk (V 26) q26 o26 26 0 (3998, 0, c26_5000) := .s (size := 25) (ss := [0, 2]) (F := @o26_5000_in) (by kernel_rfl) fun R r K vs hh h => by
  unfold o26_5000_in at h; split at h
  · rw [math_bits_Len64_j5_unf] at h; exact Eq.trans (by kernel_rfl) h
  · cases h

theorem p26_8000 : PieceOk (V 26) q26 o26 26 0 (3997, 0, c26_8000) := .s (size := 25) (ss := [0, 2]) (F := @o26_8000_in) (by kernel_rfl) fun R r K vs hh h => by
  unfold o26_8000_in at h; split at h
  · rw [math_bits_Len64_j8_unf] at h; exact Eq.trans (by kernel_rfl) h
  · cases h

theorem p26_11000 : PieceOk (V 26) q26 o26 26 0 (3996, 0, c26_11000) := .s (size := 25) (ss := [0, 2]) (F := @o26_11000_in) (by kernel_rfl) fun R r K vs hh h => by
  unfold o26_11000_in at h; split at h
  · rw [math_bits_Len64_j11_unf] at h; exact (math_bits_Len64_j11_eq K _ _).trans h
  · cases h

theorem pc26 : ∀ x ∈ [(3998, 0, c26_5000), (3997, 0, c26_8000), (3996, 0, c26_11000)], PieceOk (V 26) q26 o26 26 0 x := List.forall_mem_cons.2 ⟨p26_5000, List.forall_mem_cons.2 ⟨p26_8000, List.forall_mem_cons.2 ⟨p26_11000, fun _ h => nomatch h⟩⟩⟩

noncomputable def sp26 : Ev.Spec := fun args _ K => match args with
  | ([AV.int .u64 n17]) => math_bits_Len64 n17 (fun x0 => K (AV.int .i64 x0))
  | _ => none
noncomputable def S26 := addS 26 sp26 B0
theorem D2 : Dom B0 V S26 T8 2 := Dom.s (m := 1) (n := 0) D1 D1 (O := o26) (OrcOk.fn (fn0 := Try.f26) (by kernel_rfl) (by kernel_rfl) pc26) fun args R K r h => by
  unfold sp26 at h; split at h
  · rw [math_bits_Len64_unf] at h; exact Eq.trans (by kernel_rfl) h
  · cases h

noncomputable def sp21 : Ev.Spec := fun args _ K => match args with
  | ([AV.int .u64 n16]) => word_Len n16 (fun x0 => K (AV.int .i64 x0))
  | _ => none
noncomputable def S21 := addS 21 sp21 S26
theorem D3 : Dom B0 V S21 T8 3 := Dom.s (m := 2) (n := 0) D2 D2 (O := (fun _ => none)) (fun _ _ _ _ => OrcOk.none _ _) fun args R K r h => by
  unfold sp21 at h; split at h
  · rw [word_Len_unf] at h; exact Eq.trans (by kernel_rfl) h
  · cases h

noncomputable def o14_4000_in {R : Type} (K : Ex → St → Option R) (vs : List AV) (hh : H) : Option R := match vs, hh with
  | [AV.int .i64 n15], [] => stats_Log_j4 n15 (fun x0 => K (Ex.ret) (St.mk (spread 39 0 [2] [AV.int .i64 x0]) []))
  | _, _ => none

noncomputable def o14_7400_in {R : Type} (K : Ex → St → Option R) (vs : List AV) (hh : H) : Option R := match vs, hh with
  | [AV.int .i64 n33, AV.int .u64 n34, AV.int .i64 n35], [] => stats_Log_l7 n33 n34 n35 (fun x0 => K (Ex.exit 0) (St.mk (spread 39 0 [3] [AV.int .i64 x0]) []))
  | _, _ => none

noncomputable def o14 : Nat → Option PSpec := lkN [(4000, fun st _ K => pickM 39 [0] st (o14_4000_in K)), (7400, fun st _ K => pickM 39 [3, 4, 21] st (o14_7400_in K))]
noncomputable def q14 : CallF := evFun (V 14) S21 T8 10

noncomputable def c14_4000 : Code := subC [1, 1] (bodyOf Try.f14)

noncomputable def c14_7400 : Code := subC [1, 1, 1, 1, 0, 1, 0, 0] (bodyOf Try.f14)

noncomputable def lp14_7400 {R : Type} (N : Nat) (st : St) (K : Ex → St → Option R) : Option R := evLoop (norm ((V 14).keep 14 (Ev.keyOf c14_7400 * 1000 + 400)) 0) (evCode (V 14) q14 o14 14 0 3992 c14_7400) N st (kOut (V 14) 14 0 (Ev.keyOf c14_7400 * 1000 + 401) K)

theorem stats_Log_l7_L_eq {R : Type} (K : Ex → St → Option R) : ∀ N : Nat, (fun (n33 : Int) (n34 : Int) (n35 : Int) => lp14_7400 N (St.mk (spread 39 0 [3, 4, 21] [AV.int .i64 n33, AV.int .u64 n34, AV.int .i64 n35]) []) K) = stats_Log_l7_L (fun x0 => K (Ex.exit 0) (St.mk (spread 39 0 [3] [AV.int .i64 x0]) [])) N
  | 0 => by funext n33 n34 n35; rfl
  | N + 1 => by
    funext n33 n34 n35
    simp only [stats_Log_l7_L]
    rw [← stats_Log_l7_L_eq K N]
    kernel_rfl

theorem p14_4000 : PieceOk (V 14) q14 o14 14 0 (3998, 0, c14_4000) := .s (size := 39) (ss := [0]) (F := @o14_4000_in) (by kernel_rfl) fun R r K vs hh h => by
  unfold o14_4000_in at h; split at h
  · rw [stats_Log_j4_unf] at h; exact Eq.trans (by kernel_rfl) h
  · cases h

theorem p14_7400 : PieceOk (V 14) q14 o14 14 0 (3992, 1, c14_7400) := .l (size := 39) (ss := [3, 4, 21]) (F := @o14_7400_in) (by kernel_rfl) (by kernel_rfl) fun R r K vs hh h => by
  unfold o14_7400_in at h; split at h
  · rw [stats_Log_l7_unf] at h; unfold stats_Log_l7_B at h; rw [← stats_Log_l7_L_eq K NR] at h; exact h
  · cases h

theorem pc14 : ∀ x ∈ [(3998, 0, c14_4000), (3992, 1, c14_7400)], PieceOk (V 14) q14 o14 14 0 x := List.forall_mem_cons.2 ⟨p14_4000, List.forall_mem_cons.2 ⟨p14_7400, fun _ h => nomatch h⟩⟩

noncomputable def sp14 : Ev.Spec := fun args _ K => match args with
  | ([AV.int .i64 n14]) => stats_Log n14 (fun x0 => K (AV.int .i64 x0))
  | _ => none
noncomputable def S14 := addS 14 sp14 S21
theorem D4 : Dom B0 V S14 T8 4 := Dom.s (m := 3) (n := 0) D3 D3 (O := o14) (OrcOk.fn (fn0 := Try.f14) (by kernel_rfl) (by kernel_rfl) pc14) fun args R K r h => by
  unfold sp14 at h; split at h
  · rw [stats_Log_unf] at h; exact Eq.trans (by kernel_rfl) h
  · cases h

noncomputable def o10_6400_in {R : Type} (K : Ex → St → Option R) (vs : List AV) (hh : H) : Option R := match vs, hh with
  | [AV.fsl (Blk.ints .i64 xs41), AV.int .i64 n42, AV.fsl (Blk.ints .i64 xs43), AV.int .i64 n44, AV.int .i64 n45], [] => stats_Entropy_l6 xs41 n42 xs43 n44 n45 (fun x0 => K (Ex.ret) (St.mk (spread 47 0 [2] [AV.int .i64 x0]) [])) (fun x0 x1 => K (Ex.exit 0) (St.mk (spread 47 0 [0, 3] [AV.fsl (Blk.ints .i64 x0), AV.int .i64 x1]) []))
  | _, _ => none

noncomputable def o10_10000_in {R : Type} (K : Ex → St → Option R) (vs : List AV) (hh : H) : Option R := match vs, hh with
  | [AV.fsl (Blk.ints .i64 xs46), AV.int .i64 n47, AV.int .i64 n48, AV.fsl (Blk.ints .i64 xs49), AV.int .i64 n50, AV.int .i64 n51], [] => stats_Entropy_j10 xs46 n47 n48 xs49 n50 n51 (fun x0 x1 x2 x3 x4 => K (Ex.normal) (St.mk (spread 47 0 [0, 3, 12, 13, 14] [AV.fsl (Blk.ints .i64 x0), AV.int .i64 x1, AV.fsl (Blk.ints .i64 x2), AV.int .i64 x3, AV.int .i64 x4]) []))
  | _, _ => none

noncomputable def o10_14400_in {R : Type} (K : Ex → St → Option R) (vs : List AV) (hh : H) : Option R := match vs, hh with
  | [AV.int .i64 n60, AV.int .i64 n61, AV.fsl (Blk.ints .i64 xs62), AV.int .i64 n63, AV.int .i64 n64], [] => stats_Entropy_l14 n60 n61 xs62 n63 n64 (fun x0 => K (Ex.exit 2) (St.mk (spread 47 0 [6] [AV.int .i64 x0]) []))
  | _, _ => none

noncomputable def o10 : Nat → Option PSpec := lkN [(6400, fun st _ K => pickM 47 [0, 3, 12, 13, 14] st (o10_6400_in K)), (10000, fun st _ K => pickM 47 [0, 3, 5, 12, 13, 14] st (o10_10000_in K)), (14400, fun st _ K => pickM 47 [3, 6, 28, 29, 30] st (o10_14400_in K))]
noncomputable def q10 : CallF := evFun (V 10) S14 T8 10

noncomputable def c10_6400 : Code := subC [1, 1, 1, 0, 1, 0, 0] (bodyOf Try.f10)

noncomputable def lp10_6400 {R : Type} (N : Nat) (st : St) (K : Ex → St → Option R) : Option R := evLoop (norm ((V 10).keep 10 (Ev.keyOf c10_6400 * 1000 + 400)) 0) (evCode (V 10) q10 o10 10 0 3993 c10_6400) N st (kOut (V 10) 10 0 (Ev.keyOf c10_6400 * 1000 + 401) K)

noncomputable def c10_10000 : Code := subC [1, 1, 1, 0, 1, 0, 0, 1, 1, 0, 0, 1, 1] (bodyOf Try.f10)

noncomputable def c10_14400 : Code := subC [1, 1, 1, 1, 1, 0, 1, 0, 0] (bodyOf Try.f10)

noncomputable def lp10_14400 {R : Type} (N : Nat) (st : St) (K : Ex → St → Option R) : Option R := evLoop (norm ((V 10).keep 10 (Ev.keyOf c10_14400 * 1000 + 400)) 0) (evCode (V 10) q10 o10 10 0 3991 c10_14400) N st (kOut (V 10) 10 0 (Ev.keyOf c10_14400 * 1000 + 401) K)

theorem stats_Entropy_l6_L_eq {R : Type} (K : Ex → St → Option R) : ∀ N : Nat, (fun (xs41 : List Int) (n42 : Int) (xs43 : List Int) (n44 : Int) (n45 : Int) => lp10_6400 N (St.mk (spread 47 0 [0, 3, 12, 13, 14] [AV.fsl (Blk.ints .i64 xs41), AV.int .i64 n42, AV.fsl (Blk.ints .i64 xs43), AV.int .i64 n44, AV.int .i64 n45]) []) K) = stats_Entropy_l6_L (fun x0 => K (Ex.ret) (St.mk (spread 47 0 [2] [AV.int .i64 x0]) [])) (fun x0 x1 => K (Ex.exit 0) (St.mk (spread 47 0 [0, 3] [AV.fsl (Blk.ints .i64 x0), AV.int .i64 x1]) [])) N
  | 0 => by funext xs41 n42 xs43 n44 n45; rfl
  | N + 1 => by
    funext xs41 n42 xs43 n44 n45
    simp only [stats_Entropy_l6_L]
    rw [← stats_Entropy_l6_L_eq K N]
    kernel_rfl

theorem stats_Entropy_l14_L_eq {R : Type} (K : Ex → St → Option R) : ∀ N : Nat, (fun (n60 : Int) (n61 : Int) (xs62 : List Int) (n63 : Int) (n64 : Int) => lp10_14400 N (St.mk (spread 47 0 [3, 6, 28, 29, 30] [AV.int .i64 n60, AV.int .i64 n61, AV.fsl (Blk.ints .i64 xs62), AV.int .i64 n63, AV.int .i64 n64]) []) K) = stats_Entropy_l14_L (fun x0 => K (Ex.exit 2) (St.mk (spread 47 0 [6] [AV.int .i64 x0]) [])) N
  | 0 => by funext n60 n61 xs62 n63 n64; rfl
  | N + 1 => by
    funext n60 n61 xs62 n63 n64
    simp only [stats_Entropy_l14_L]
    rw [← stats_Entropy_l14_L_eq K N]
    kernel_rfl

theorem p10_6400 : PieceOk (V 10) q10 o10 10 0 (3993, 1, c10_6400) := .l (size := 47) (ss := [0, 3, 12, 13, 14]) (F := @o10_6400_in) (by kernel_rfl) (by kernel_rfl) fun R r K vs hh h => by
  unfold o10_6400_in at h; split at h
  · rw [stats_Entropy_l6_unf] at h; unfold stats_Entropy_l6_B at h; rw [← stats_Entropy_l6_L_eq K NR] at h; exact h
  · cases h

theorem p10_10000 : PieceOk (V 10) q10 o10 10 0 (3987, 0, c10_10000) := .s (size := 47) (ss := [0, 3, 5, 12, 13, 14]) (F := @o10_10000_in) (by kernel_rfl) fun R r K vs hh h => by
  unfold o10_10000_in at h; split at h
  · rw [stats_Entropy_j10_unf] at h; exact Eq.trans (by kernel_rfl) h
  · cases h

theorem p10_14400 : PieceOk (V 10) q10 o10 10 0 (3991, 1, c10_14400) := .l (size := 47) (ss := [3, 6, 28, 29, 30]) (F := @o10_14400_in) (by kernel_rfl) (by kernel_rfl) fun R r K vs hh h => by
  unfold o10_14400_in at h; split at h
  · rw [stats_Entropy_l14_unf] at h; unfold stats_Entropy_l14_B at h; rw [← stats_Entropy_l14_L_eq K NR] at h; exact h
  · cases h

theorem pc10 : ∀ x ∈ [(3993, 1, c10_6400), (3987, 0, c10_10000), (3991, 1, c10_14400)], PieceOk (V 10) q10 o10 10 0 x := List.forall_mem_cons.2 ⟨p10_6400, List.forall_mem_cons.2 ⟨p10_10000, List.forall_mem_cons.2 ⟨p10_14400, fun _ h => nomatch h⟩⟩⟩

noncomputable def sp10 : Ev.Spec := fun args _ K => match args with
  | ([AV.fsl (Blk.ints .i64 xs40)]) => stats_Entropy xs40 (fun x0 => K (AV.int .i64 x0))
  | _ => none
noncomputable def S10 := addS 10 sp10 S14
theorem D5 : Dom B0 V S10 T8 5 := Dom.s (m := 4) (n := 0) D4 D4 (O := o10) (OrcOk.fn (fn0 := Try.f10) (by kernel_rfl) (by kernel_rfl) pc10) fun args R K r h => by
  unfold sp10 at h; split at h
  · rw [stats_Entropy_unf] at h; exact Eq.trans (by kernel_rfl) h
  · cases h

noncomputable def o11_5400_in {R : Type} (K : Ex → St → Option R) (vs : List AV) (hh : H) : Option R := match vs, hh with
  | [AV.int .i64 n70, AV.fsl (Blk.ints .i64 xs71), AV.int .i64 n72, AV.int .i64 n73], [] => stats_Distinct_l5 n70 xs71 n72 n73 (fun x0 => K (Ex.exit 0) (St.mk (spread 22 0 [3] [AV.int .i64 x0]) []))
  | _, _ => none

noncomputable def o11 : Nat → Option PSpec := lkN [(5400, fun st _ K => pickM 22 [3, 9, 10, 11] st (o11_5400_in K))]
noncomputable def q11 : CallF := evFun (V 11) S10 T8 10

noncomputable def c11_5400 : Code := subC [1, 1, 0, 1, 0, 1, 0, 0] (bodyOf Try.f11)

noncomputable def lp11_5400 {R : Type} (N : Nat) (st : St) (K : Ex → St → Option R) : Option R := evLoop (norm ((V 11).keep 11 (Ev.keyOf c11_5400 * 1000 + 400)) 0) (evCode (V 11) q11 o11 11 0 3992 c11_5400) N st (kOut (V 11) 11 0 (Ev.keyOf c11_5400 * 1000 + 401) K)

theorem stats_Distinct_l5_L_eq {R : Type} (K : Ex → St → Option R) : ∀ N : Nat, (fun (n70 : Int) (xs71 : List Int) (n72 : Int) (n73 : Int) => lp11_5400 N (St.mk (spread 22 0 [3, 9, 10, 11] [AV.int .i64 n70, AV.fsl (Blk.ints .i64 xs71), AV.int .i64 n72, AV.int .i64 n73]) []) K) = stats_Distinct_l5_L (fun x0 => K (Ex.exit 0) (St.mk (spread 22 0 [3] [AV.int .i64 x0]) [])) N
  | 0 => by funext n70 xs71 n72 n73; rfl
  | N + 1 => by
    funext n70 xs71 n72 n73
    simp only [stats_Distinct_l5_L]
    rw [← stats_Distinct_l5_L_eq K N]
    kernel_rfl

theorem p11_5400 : PieceOk (V 11) q11 o11 11 0 (3992, 1, c11_5400) := .l (size := 22) (ss := [3, 9, 10, 11]) (F := @o11_5400_in) (by kernel_rfl) (by kernel_rfl) fun R r K vs hh h => by
  unfold o11_5400_in at h; split at h
  · rw [stats_Distinct_l5_unf] at h; unfold stats_Distinct_l5_B at h; rw [← stats_Distinct_l5_L_eq K NR] at h; exact h
  · cases h

theorem pc11 : ∀ x ∈ [(3992, 1, c11_5400)], PieceOk (V 11) q11 o11 11 0 x := List.forall_mem_cons.2 ⟨p11_5400, fun _ h => nomatch h⟩

noncomputable def sp11 : Ev.Spec := fun args _ K => match args with
  | ([AV.fsl (Blk.ints .i64 xs69)]) => stats_Distinct xs69 (fun x0 => K (AV.int .i64 x0))
  | _ => none
noncomputable def S11 := addS 11 sp11 S10
theorem D6 : Dom B0 V S11 T8 6 := Dom.s (m := 5) (n := 0) D5 D5 (O := o11) (OrcOk.fn (fn0 := Try.f11) (by kernel_rfl) (by kernel_rfl) pc11) fun args R K r h => by
  unfold sp11 at h; split at h
  · rw [stats_Distinct_unf] at h; exact Eq.trans (by kernel_rfl) h
  · cases h

noncomputable def o10r1_6400_in {R : Type} (K : Ex → St → Option R) (vs : List AV) (hh : H) : Option R := match vs, hh with
  | [AV.sl 0 l93 l94 1, AV.int .i64 n95, AV.sl 0 l96 l97 1, AV.int .i64 n98, AV.int .i64 n99], [HB.live (Blk.ints .i64 xs100)] => stats_Entropy_l6_1 l93 l94 n95 l96 l97 n98 n99 xs100 (fun x0 x1 => K (Ex.ret) (St.mk (spread 47 0 [2] [AV.int .i64 x0]) [HB.live (Blk.ints .i64 x1)])) (fun x0 x1 x2 x3 => K (Ex.exit 0) (St.mk (spread 47 0 [0, 3] [AV.sl 0 x0 x1 1, AV.int .i64 x2]) [HB.live (Blk.ints .i64 x3)]))
  | _, _ => none

noncomputable def o10r1_10000_in {R : Type} (K : Ex → St → Option R) (vs : List AV) (hh : H) : Option R := match vs, hh with
  | [AV.sl 0 l101 l102 1, AV.int .i64 n103, AV.int .i64 n104, AV.sl 0 l105 l106 1, AV.int .i64 n107, AV.int .i64 n108], [HB.live (Blk.ints .i64 xs109)] => stats_Entropy_j10_1 l101 l102 n103 n104 l105 l106 n107 n108 xs109 (fun x0 x1 x2 x3 x4 x5 x6 x7 => K (Ex.normal) (St.mk (spread 47 0 [0, 3, 12, 13, 14] [AV.sl 0 x0 x1 1, AV.int .i64 x2, AV.sl 0 x3 x4 1, AV.int .i64 x5, AV.int .i64 x6]) [HB.live (Blk.ints .i64 x7)]))
  | _, _ => none

noncomputable def o10r1_14400_in {R : Type} (K : Ex → St → Option R) (vs : List AV) (hh : H) : Option R := match vs, hh with
  | [AV.int .i64 n124, AV.int .i64 n125, AV.sl 0 l126 l127 1, AV.int .i64 n128, AV.int .i64 n129], [HB.live (Blk.ints .i64 xs130)] => stats_Entropy_l14_1 n124 n125 l126 l127 n128 n129 xs130 (fun x0 x1 => K (Ex.exit 2) (St.mk (spread 47 0 [6] [AV.int .i64 x0]) [HB.live (Blk.ints .i64 x1)]))
  | _, _ => none

noncomputable def o10r1 : Nat → Option PSpec := lkN [(6400, fun st _ K => pickM 47 [0, 3, 12, 13, 14] st (o10r1_6400_in K)), (10000, fun st _ K => pickM 47 [0, 3, 5, 12, 13, 14] st (o10r1_10000_in K)), (14400, fun st _ K => pickM 47 [3, 6, 28, 29, 30] st (o10r1_14400_in K))]
noncomputable def q10r1 : CallF := evFun (V 10) S11 T8 10

noncomputable def c10r1_6400 : Code := subC [1, 1, 1, 0, 1, 0, 0] (bodyOf Try.f10)

noncomputable def lp10r1_6400 {R : Type} (N : Nat) (st : St) (K : Ex → St → Option R) : Option R := evLoop (norm ((V 10).keep 10 (Ev.keyOf c10r1_6400 * 1000 + 400)) 1) (evCode (V 10) q10r1 o10r1 10 1 3993 c10r1_6400) N st (kOut (V 10) 10 1 (Ev.keyOf c10r1_6400 * 1000 + 401) K)

noncomputable def c10r1_10000 : Code := subC [1, 1, 1, 0, 1, 0, 0, 1, 1, 0, 0, 1, 1] (bodyOf Try.f10)

noncomputable def c10r1_14400 : Code := subC [1, 1, 1, 1, 1, 0, 1, 0, 0] (bodyOf Try.f10)

noncomputable def lp10r1_14400 {R : Type} (N : Nat) (st : St) (K : Ex → St → Option R) : Option R := evLoop (norm ((V 10).keep 10 (Ev.keyOf c10r1_14400 * 1000 + 400)) 1) (evCode (V 10) q10r1 o10r1 10 1 3991 c10r1_14400) N st (kOut (V 10) 10 1 (Ev.keyOf c10r1_14400 * 1000 + 401) K)

theorem stats_Entropy_l6_1_L_eq {R : Type} (K : Ex → St → Option R) : ∀ N : Nat, (fun (l93 : Nat) (l94 : Nat) (n95 : Int) (l96 : Nat) (l97 : Nat) (n98 : Int) (n99 : Int) (xs100 : List Int) => lp10r1_6400 N (St.mk (spread 47 0 [0, 3, 12, 13, 14] [AV.sl 0 l93 l94 1, AV.int .i64 n95, AV.sl 0 l96 l97 1, AV.int .i64 n98, AV.int .i64 n99]) [HB.live (Blk.ints .i64 xs100)]) K) = stats_Entropy_l6_1_L (fun x0 x1 => K (Ex.ret) (St.mk (spread 47 0 [2] [AV.int .i64 x0]) [HB.live (Blk.ints .i64 x1)])) (fun x0 x1 x2 x3 => K (Ex.exit 0) (St.mk (spread 47 0 [0, 3] [AV.sl 0 x0 x1 1, AV.int .i64 x2]) [HB.live (Blk.ints .i64 x3)])) N
  | 0 => by funext l93 l94 n95 l96 l97 n98 n99 xs100; rfl
  | N + 1 => by
    funext l93 l94 n95 l96 l97 n98 n99 xs100
    simp only [stats_Entropy_l6_1_L]
    rw [← stats_Entropy_l6_1_L_eq K N]
    kernel_rfl

theorem stats_Entropy_l14_1_L_eq {R : Type} (K : Ex → St → Option R) : ∀ N : Nat, (fun (n124 : Int) (n125 : Int) (l126 : Nat) (l127 : Nat) (n128 : Int) (n129 : Int) (xs130 : List Int) => lp10r1_14400 N (St.mk (spread 47 0 [3, 6, 28, 29, 30] [AV.int .i64 n124, AV.int .i64 n125, AV.sl 0 l126 l127 1, AV.int .i64 n128, AV.int .i64 n129]) [HB.live (Blk.ints .i64 xs130)]) K) = stats_Entropy_l14_1_L (fun x0 x1 => K (Ex.exit 2) (St.mk (spread 47 0 [6] [AV.int .i64 x0]) [HB.live (Blk.ints .i64 x1)])) N
  | 0 => by funext n124 n125 l126 l127 n128 n129 xs130; rfl
  | N + 1 => by
    funext n124 n125 l126 l127 n128 n129 xs130
    simp only [stats_Entropy_l14_1_L]
    rw [← stats_Entropy_l14_1_L_eq K N]
    kernel_rfl

theorem p10r1_6400 : PieceOk (V 10) q10r1 o10r1 10 1 (3993, 1, c10r1_6400) := .l (size := 47) (ss := [0, 3, 12, 13, 14]) (F := @o10r1_6400_in) (by kernel_rfl) (by kernel_rfl) fun R r K vs hh h => by
  unfold o10r1_6400_in at h; split at h
  · rw [stats_Entropy_l6_1_unf] at h; unfold stats_Entropy_l6_1_B at h; rw [← stats_Entropy_l6_1_L_eq K NR] at h; exact h
  · cases h

theorem p10r1_10000 : PieceOk (V 10) q10r1 o10r1 10 1 (3987, 0, c10r1_10000) := .s (size := 47) (ss := [0, 3, 5, 12, 13, 14]) (F := @o10r1_10000_in) (by kernel_rfl) fun R r K vs hh h => by
  unfold o10r1_10000_in at h; split at h
  · rw [stats_Entropy_j10_1_unf] at h; exact Eq.trans (by kernel_rfl) h
  · cases h

theorem p10r1_14400 : PieceOk (V 10) q10r1 o10r1 10 1 (3991, 1, c10r1_14400) := .l (size := 47) (ss := [3, 6, 28, 29, 30]) (F := @o10r1_14400_in) (by kernel_rfl) (by kernel_rfl) fun R r K vs hh h => by
  unfold o10r1_14400_in at h; split at h
  · rw [stats_Entropy_l14_1_unf] at h; unfold stats_Entropy_l14_1_B at h; rw [← stats_Entropy_l14_1_L_eq K NR] at h; exact h
  · cases h

theorem pc10r1 : ∀ x ∈ [(3993, 1, c10r1_6400), (3987, 0, c10r1_10000), (3991, 1, c10r1_14400)], PieceOk (V 10) q10r1 o10r1 10 1 x := List.forall_mem_cons.2 ⟨p10r1_6400, List.forall_mem_cons.2 ⟨p10r1_10000, List.forall_mem_cons.2 ⟨p10r1_14400, fun _ h => nomatch h⟩⟩⟩

noncomputable def hs10 : HSpec := fun args h _ K => match args, h with
  | [AV.sl 0 l90 l91 1], [HB.live (Blk.ints .i64 xs92)] => stats_Entropy_r l90 l91 xs92 (fun x0 x1 => K (AV.int .i64 x0) ([HB.live (Blk.ints .i64 x1)]))
  | _, _ => none
noncomputable def T10 := addT 10 hs10 T8
theorem D7 : Dom B0 V S11 T10 7 := Dom.t D6 fun args hh R K r h => by
  unfold hs10 at h; split at h
  · rw [stats_Entropy_r_unf] at h; exact ⟨o10r1, (OrcOk.fn (fn0 := Try.f10) (by kernel_rfl) (by kernel_rfl) pc10r1), Eq.trans (by kernel_rfl) h⟩
  · cases h

noncomputable def o9r1_6400_in {R : Type} (K : Ex → St → Option R) (vs : List AV) (hh : H) : Option R := match vs, hh with
  | [AV.sl 0 0 l78 1, AV.ptr 1 0, AV.int .i64 n79, AV.int .i64 n80], [HB.live (Blk.ints .u8 xs81), HB.live (Blk.ints .i64 xs82)] => stats_Second_l6 l78 n79 n80 xs81 xs82 (fun x0 x1 => K (Ex.exit 0) (St.mk (spread 44 0 [3] [AV.ptr 1 0]) [HB.live (Blk.ints .u8 x0), HB.live (Blk.ints .i64 x1)]))
  | _, _ => none

noncomputable def o9r1_12400_in {R : Type} (K : Ex → St → Option R) (vs : List AV) (hh : H) : Option R := match vs, hh with
  | [AV.ptr 1 0, AV.int .i64 n86, AV.int .i64 n87], [HB.live (Blk.ints .u8 xs88), HB.live (Blk.ints .i64 xs89)] => stats_Second_l12 n86 n87 xs88 xs89 (fun x0 x1 => K (Ex.exit 2) (St.mk (spread 44 0 [5] [AV.int .i64 x0]) [HB.live (Blk.ints .u8 x1)]))
  | _, _ => none

noncomputable def o9r1 : Nat → Option PSpec := lkN [(6400, fun st _ K => pickM 44 [0, 3, 13, 14] st (o9r1_6400_in K)), (12400, fun st _ K => pickM 44 [3, 5, 33] st (o9r1_12400_in K))]
noncomputable def q9r1 : CallF := evFun (V 9) S11 T10 10

noncomputable def c9r1_6400 : Code := subC [1, 1, 1, 0, 1, 0, 0] (bodyOf Try.f9)

noncomputable def lp9r1_6400 {R : Type} (N : Nat) (st : St) (K : Ex → St → Option R) : Option R := evLoop (norm ((V 9).keep 9 (Ev.keyOf c9r1_6400 * 1000 + 400)) 1) (evCode (V 9) q9r1 o9r1 9 1 3993 c9r1_6400) N st (kOut (V 9) 9 1 (Ev.keyOf c9r1_6400 * 1000 + 401) K)

noncomputable def c9r1_12400 : Code := subC [1, 1, 1, 1, 1, 0, 1, 0, 0] (bodyOf Try.f9)

noncomputable def lp9r1_12400 {R : Type} (N : Nat) (st : St) (K : Ex → St → Option R) : Option R := evLoop (norm ((V 9).keep 9 (Ev.keyOf c9r1_12400 * 1000 + 400)) 1) (evCode (V 9) q9r1 o9r1 9 1 3991 c9r1_12400) N st (kOut (V 9) 9 1 (Ev.keyOf c9r1_12400 * 1000 + 401) K)

theorem stats_Second_l6_L_eq {R : Type} (K : Ex → St → Option R) : ∀ N : Nat, (fun (l78 : Nat) (n79 : Int) (n80 : Int) (xs81 : List Int) (xs82 : List Int) => lp9r1_6400 N (St.mk (spread 44 0 [0, 3, 13, 14] [AV.sl 0 0 l78 1, AV.ptr 1 0, AV.int .i64 n79, AV.int .i64 n80]) [HB.live (Blk.ints .u8 xs81), HB.live (Blk.ints .i64 xs82)]) K) = stats_Second_l6_L (fun x0 x1 => K (Ex.exit 0) (St.mk (spread 44 0 [3] [AV.ptr 1 0]) [HB.live (Blk.ints .u8 x0), HB.live (Blk.ints .i64 x1)])) N
  | 0 => by funext l78 n79 n80 xs81 xs82; rfl
  | N + 1 => by
    funext l78 n79 n80 xs81 xs82
    simp only [stats_Second_l6_L]
    rw [← stats_Second_l6_L_eq K N]
    kernel_rfl

theorem stats_Second_l12_L_eq {R : Type} (K : Ex → St → Option R) : ∀ N : Nat, (fun (n86 : Int) (n87 : Int) (xs88 : List Int) (xs89 : List Int) => lp9r1_12400 N (St.mk (spread 44 0 [3, 5, 33] [AV.ptr 1 0, AV.int .i64 n86, AV.int .i64 n87]) [HB.live (Blk.ints .u8 xs88), HB.live (Blk.ints .i64 xs89)]) K) = stats_Second_l12_L (fun x0 x1 => K (Ex.exit 2) (St.mk (spread 44 0 [5] [AV.int .i64 x0]) [HB.live (Blk.ints .u8 x1)])) N
  | 0 => by funext n86 n87 xs88 xs89; rfl
  | N + 1 => by
    funext n86 n87 xs88 xs89
    simp only [stats_Second_l12_L]
    rw [← stats_Second_l12_L_eq K N]
    kernel_rfl

theorem p9r1_6400 : PieceOk (V 9) q9r1 o9r1 9 1 (3993, 1, c9r1_6400) := .l (size := 44) (ss := [0, 3, 13, 14]) (F := @o9r1_6400_in) (by kernel_rfl) (by kernel_rfl) fun R r K vs hh h => by
  unfold o9r1_6400_in at h; split at h
  · rw [stats_Second_l6_unf] at h; unfold stats_Second_l6_B at h; rw [← stats_Second_l6_L_eq K NR] at h; exact h
  · cases h

theorem p9r1_12400 : PieceOk (V 9) q9r1 o9r1 9 1 (3991, 1, c9r1_12400) := .l (size := 44) (ss := [3, 5, 33]) (F := @o9r1_12400_in) (by kernel_rfl) (by kernel_rfl) fun R r K vs hh h => by
  unfold o9r1_12400_in at h; split at h
  · rw [stats_Second_l12_unf] at h; unfold stats_Second_l12_B at h; rw [← stats_Second_l12_L_eq K NR] at h; exact h
  · cases h

theorem pc9r1 : ∀ x ∈ [(3993, 1, c9r1_6400), (3991, 1, c9r1_12400)], PieceOk (V 9) q9r1 o9r1 9 1 x := List.forall_mem_cons.2 ⟨p9r1_6400, List.forall_mem_cons.2 ⟨p9r1_12400, fun _ h => nomatch h⟩⟩

noncomputable def hs9 : HSpec := fun args h _ K => match args, h with
  | [AV.sl 0 0 l76 1], [HB.live (Blk.ints .u8 xs77)] => stats_Second_r l76 xs77 (fun x0 x1 => K (AV.int .i64 x0) ([HB.live (Blk.ints .u8 x1)]))
  | _, _ => none
noncomputable def T9 := addT 9 hs9 T10
theorem D8 : Dom B0 V S11 T9 8 := Dom.t D7 fun args hh R K r h => by
  unfold hs9 at h; split at h
  · rw [stats_Second_r_unf] at h; exact ⟨o9r1, (OrcOk.fn (fn0 := Try.f9) (by kernel_rfl) (by kernel_rfl) pc9r1), Eq.trans (by kernel_rfl) h⟩
  · cases h

noncomputable def sp7 : Ev.Spec := fun args _ K => match args with
  | ([]) => haystacklaw19_heads (fun x0 => K (AV.bool x0))
  | _ => none
noncomputable def S7 := addS 7 sp7 S11
theorem D9 : Dom B0 V S7 T9 9 := Dom.s (m := 8) (n := 0) D8 D8 (O := (fun _ => none)) (fun _ _ _ _ => OrcOk.none _ _) fun args R K r h => by
  unfold sp7 at h; split at h
  · rw [haystacklaw19_heads_unf] at h; exact Eq.trans (by kernel_rfl) h
  · cases h

noncomputable def o8_4400_in {R : Type} (K : Ex → St → Option R) (vs : List AV) (hh : H) : Option R := match vs, hh with
  | [AV.ptr 0 0, AV.fsl (Blk.ints .u8 xs145), AV.int .i64 n146, AV.int .i64 n147], [HB.live (Blk.ints .i64 xs148)] => stats_Counts_l4_1 xs145 n146 n147 xs148 (fun x0 => K (Ex.exit 0) (St.mk (spread 19 0 [3] [AV.ptr 0 0]) [HB.live (Blk.ints .i64 x0)]))
  | _, _ => none

noncomputable def o8 : Nat → Option PSpec := lkN [(4400, fun st _ K => pickM 19 [3, 6, 7, 8] st (o8_4400_in K))]
noncomputable def q8 : CallF := evFun (V 8) S7 T9 10

noncomputable def c8_4400 : Code := subC [1, 1, 0, 1, 0, 0] (bodyOf Try.f8)

noncomputable def lp8_4400 {R : Type} (N : Nat) (st : St) (K : Ex → St → Option R) : Option R := evLoop (norm ((V 8).keep 8 (Ev.keyOf c8_4400 * 1000 + 400)) 0) (evCode (V 8) q8 o8 8 0 3994 c8_4400) N st (kOut (V 8) 8 0 (Ev.keyOf c8_4400 * 1000 + 401) K)

theorem stats_Counts_l4_1_L_eq {R : Type} (K : Ex → St → Option R) : ∀ N : Nat, (fun (xs145 : List Int) (n146 : Int) (n147 : Int) (xs148 : List Int) => lp8_4400 N (St.mk (spread 19 0 [3, 6, 7, 8] [AV.ptr 0 0, AV.fsl (Blk.ints .u8 xs145), AV.int .i64 n146, AV.int .i64 n147]) [HB.live (Blk.ints .i64 xs148)]) K) = stats_Counts_l4_1_L (fun x0 => K (Ex.exit 0) (St.mk (spread 19 0 [3] [AV.ptr 0 0]) [HB.live (Blk.ints .i64 x0)])) N
  | 0 => by funext xs145 n146 n147 xs148; rfl
  | N + 1 => by
    funext xs145 n146 n147 xs148
    simp only [stats_Counts_l4_1_L]
    rw [← stats_Counts_l4_1_L_eq K N]
    kernel_rfl

theorem p8_4400 : PieceOk (V 8) q8 o8 8 0 (3994, 1, c8_4400) := .l (size := 19) (ss := [3, 6, 7, 8]) (F := @o8_4400_in) (by kernel_rfl) (by kernel_rfl) fun R r K vs hh h => by
  unfold o8_4400_in at h; split at h
  · rw [stats_Counts_l4_1_unf] at h; unfold stats_Counts_l4_1_B at h; rw [← stats_Counts_l4_1_L_eq K NR] at h; exact h
  · cases h

theorem pc8 : ∀ x ∈ [(3994, 1, c8_4400)], PieceOk (V 8) q8 o8 8 0 x := List.forall_mem_cons.2 ⟨p8_4400, fun _ h => nomatch h⟩

noncomputable def sp8 : Ev.Spec := fun args _ K => match args with
  | ([AV.fsl (Blk.ints .u8 xs144)]) => stats_Counts xs144 (fun x0 => K (AV.fsl (Blk.ints .i64 x0)))
  | _ => none
noncomputable def S8 := addS 8 sp8 S7
theorem D10 : Dom B0 V S8 T9 10 := Dom.s (m := 9) (n := 0) D9 D9 (O := o8) (OrcOk.fn (fn0 := Try.f8) (by kernel_rfl) (by kernel_rfl) pc8) fun args R K r h => by
  unfold sp8 at h; split at h
  · rw [stats_Counts_unf] at h; exact Eq.trans (by kernel_rfl) h
  · cases h

noncomputable def o9_6400_in {R : Type} (K : Ex → St → Option R) (vs : List AV) (hh : H) : Option R := match vs, hh with
  | [AV.fsl (Blk.ints .u8 xs153), AV.ptr 0 0, AV.int .i64 n154, AV.int .i64 n155], [HB.live (Blk.ints .i64 xs156)] => stats_Second_l6_1 xs153 n154 n155 xs156 (fun x0 => K (Ex.exit 0) (St.mk (spread 44 0 [3] [AV.ptr 0 0]) [HB.live (Blk.ints .i64 x0)]))
  | _, _ => none

noncomputable def o9_12400_in {R : Type} (K : Ex → St → Option R) (vs : List AV) (hh : H) : Option R := match vs, hh with
  | [AV.ptr 0 0, AV.int .i64 n159, AV.int .i64 n160], [HB.live (Blk.ints .i64 xs161)] => stats_Second_l12_1 n159 n160 xs161 (fun x0 => K (Ex.exit 2) (St.mk (spread 44 0 [5] [AV.int .i64 x0]) []))
  | _, _ => none

noncomputable def o9 : Nat → Option PSpec := lkN [(6400, fun st _ K => pickM 44 [0, 3, 13, 14] st (o9_6400_in K)), (12400, fun st _ K => pickM 44 [3, 5, 33] st (o9_12400_in K))]
noncomputable def q9 : CallF := evFun (V 9) S8 T9 10

noncomputable def c9_6400 : Code := subC [1, 1, 1, 0, 1, 0, 0] (bodyOf Try.f9)

noncomputable def lp9_6400 {R : Type} (N : Nat) (st : St) (K : Ex → St → Option R) : Option R := evLoop (norm ((V 9).keep 9 (Ev.keyOf c9_6400 * 1000 + 400)) 0) (evCode (V 9) q9 o9 9 0 3993 c9_6400) N st (kOut (V 9) 9 0 (Ev.keyOf c9_6400 * 1000 + 401) K)

noncomputable def c9_12400 : Code := subC [1, 1, 1, 1, 1, 0, 1, 0, 0] (bodyOf Try.f9)

noncomputable def lp9_12400 {R : Type} (N : Nat) (st : St) (K : Ex → St → Option R) : Option R := evLoop (norm ((V 9).keep 9 (Ev.keyOf c9_12400 * 1000 + 400)) 0) (evCode (V 9) q9 o9 9 0 3991 c9_12400) N st (kOut (V 9) 9 0 (Ev.keyOf c9_12400 * 1000 + 401) K)

theorem stats_Second_l6_1_L_eq {R : Type} (K : Ex → St → Option R) : ∀ N : Nat, (fun (xs153 : List Int) (n154 : Int) (n155 : Int) (xs156 : List Int) => lp9_6400 N (St.mk (spread 44 0 [0, 3, 13, 14] [AV.fsl (Blk.ints .u8 xs153), AV.ptr 0 0, AV.int .i64 n154, AV.int .i64 n155]) [HB.live (Blk.ints .i64 xs156)]) K) = stats_Second_l6_1_L (fun x0 => K (Ex.exit 0) (St.mk (spread 44 0 [3] [AV.ptr 0 0]) [HB.live (Blk.ints .i64 x0)])) N
  | 0 => by funext xs153 n154 n155 xs156; rfl
  | N + 1 => by
    funext xs153 n154 n155 xs156
    simp only [stats_Second_l6_1_L]
    rw [← stats_Second_l6_1_L_eq K N]
    kernel_rfl

theorem stats_Second_l12_1_L_eq {R : Type} (K : Ex → St → Option R) : ∀ N : Nat, (fun (n159 : Int) (n160 : Int) (xs161 : List Int) => lp9_12400 N (St.mk (spread 44 0 [3, 5, 33] [AV.ptr 0 0, AV.int .i64 n159, AV.int .i64 n160]) [HB.live (Blk.ints .i64 xs161)]) K) = stats_Second_l12_1_L (fun x0 => K (Ex.exit 2) (St.mk (spread 44 0 [5] [AV.int .i64 x0]) [])) N
  | 0 => by funext n159 n160 xs161; rfl
  | N + 1 => by
    funext n159 n160 xs161
    simp only [stats_Second_l12_1_L]
    rw [← stats_Second_l12_1_L_eq K N]
    kernel_rfl

theorem p9_6400 : PieceOk (V 9) q9 o9 9 0 (3993, 1, c9_6400) := .l (size := 44) (ss := [0, 3, 13, 14]) (F := @o9_6400_in) (by kernel_rfl) (by kernel_rfl) fun R r K vs hh h => by
  unfold o9_6400_in at h; split at h
  · rw [stats_Second_l6_1_unf] at h; unfold stats_Second_l6_1_B at h; rw [← stats_Second_l6_1_L_eq K NR] at h; exact h
  · cases h

theorem p9_12400 : PieceOk (V 9) q9 o9 9 0 (3991, 1, c9_12400) := .l (size := 44) (ss := [3, 5, 33]) (F := @o9_12400_in) (by kernel_rfl) (by kernel_rfl) fun R r K vs hh h => by
  unfold o9_12400_in at h; split at h
  · rw [stats_Second_l12_1_unf] at h; unfold stats_Second_l12_1_B at h; rw [← stats_Second_l12_1_L_eq K NR] at h; exact h
  · cases h

theorem pc9 : ∀ x ∈ [(3993, 1, c9_6400), (3991, 1, c9_12400)], PieceOk (V 9) q9 o9 9 0 x := List.forall_mem_cons.2 ⟨p9_6400, List.forall_mem_cons.2 ⟨p9_12400, fun _ h => nomatch h⟩⟩

noncomputable def sp9 : Ev.Spec := fun args _ K => match args with
  | ([AV.fsl (Blk.ints .u8 xs152)]) => stats_Second xs152 (fun x0 => K (AV.int .i64 x0))
  | _ => none
noncomputable def S9 := addS 9 sp9 S8
theorem D11 : Dom B0 V S9 T9 11 := Dom.s (m := 10) (n := 0) D10 D10 (O := o9) (OrcOk.fn (fn0 := Try.f9) (by kernel_rfl) (by kernel_rfl) pc9) fun args R K r h => by
  unfold sp9 at h; split at h
  · rw [stats_Second_unf] at h; exact Eq.trans (by kernel_rfl) h
  · cases h

noncomputable def sp3 : Ev.Spec := fun args _ K => match args with
  | ([AV.fsl (Blk.ints .u8 xs0)]) => haystacklaw19_StatsContext xs0 (fun x0 => K (AV.bool x0))
  | _ => none
noncomputable def S3 := addS 3 sp3 S9
theorem D12 : Dom B0 V S3 T9 12 := Dom.s (m := 11) (n := 0) D11 D11 (O := (fun _ => none)) (fun _ _ _ _ => OrcOk.none _ _) fun args R K r h => by
  unfold sp3 at h; split at h
  · rw [haystacklaw19_StatsContext_unf] at h; exact Eq.trans (by kernel_rfl) h
  · cases h

noncomputable def o13_4400_in {R : Type} (K : Ex → St → Option R) (vs : List AV) (hh : H) : Option R := match vs, hh with
  | [AV.fsl (Blk.ints .u8 xs180), AV.sl 0 0 l181 1, AV.int .i64 n182], [HB.live (Blk.ints .i64 xs183)] => haystackref19_Counts_l4 xs180 l181 n182 xs183 (fun x0 x1 => K (Ex.exit 0) (St.mk (spread 22 0 [3] [AV.sl 0 0 x0 1]) [HB.live (Blk.ints .i64 x1)]))
  | _, _ => none

noncomputable def o13 : Nat → Option PSpec := lkN [(4400, fun st _ K => pickM 22 [0, 3, 4] st (o13_4400_in K))]
noncomputable def q13 : CallF := evFun (V 13) S3 T9 10

noncomputable def c13_4400 : Code := subC [1, 1, 0, 1, 0, 0] (bodyOf Try.f13)

noncomputable def lp13_4400 {R : Type} (N : Nat) (st : St) (K : Ex → St → Option R) : Option R := evLoop (norm ((V 13).keep 13 (Ev.keyOf c13_4400 * 1000 + 400)) 0) (evCode (V 13) q13 o13 13 0 3994 c13_4400) N st (kOut (V 13) 13 0 (Ev.keyOf c13_4400 * 1000 + 401) K)

theorem haystackref19_Counts_l4_L_eq {R : Type} (K : Ex → St → Option R) : ∀ N : Nat, (fun (xs180 : List Int) (l181 : Nat) (n182 : Int) (xs183 : List Int) => lp13_4400 N (St.mk (spread 22 0 [0, 3, 4] [AV.fsl (Blk.ints .u8 xs180), AV.sl 0 0 l181 1, AV.int .i64 n182]) [HB.live (Blk.ints .i64 xs183)]) K) = haystackref19_Counts_l4_L (fun x0 x1 => K (Ex.exit 0) (St.mk (spread 22 0 [3] [AV.sl 0 0 x0 1]) [HB.live (Blk.ints .i64 x1)])) N
  | 0 => by funext xs180 l181 n182 xs183; rfl
  | N + 1 => by
    funext xs180 l181 n182 xs183
    simp only [haystackref19_Counts_l4_L]
    rw [← haystackref19_Counts_l4_L_eq K N]
    kernel_rfl

theorem p13_4400 : PieceOk (V 13) q13 o13 13 0 (3994, 1, c13_4400) := .l (size := 22) (ss := [0, 3, 4]) (F := @o13_4400_in) (by kernel_rfl) (by kernel_rfl) fun R r K vs hh h => by
  unfold o13_4400_in at h; split at h
  · rw [haystackref19_Counts_l4_unf] at h; unfold haystackref19_Counts_l4_B at h; rw [← haystackref19_Counts_l4_L_eq K NR] at h; exact h
  · cases h

theorem pc13 : ∀ x ∈ [(3994, 1, c13_4400)], PieceOk (V 13) q13 o13 13 0 x := List.forall_mem_cons.2 ⟨p13_4400, fun _ h => nomatch h⟩

noncomputable def sp13 : Ev.Spec := fun args _ K => match args with
  | ([AV.fsl (Blk.ints .u8 xs179)]) => haystackref19_Counts xs179 (fun x0 => K (AV.fsl (Blk.ints .i64 x0)))
  | _ => none
noncomputable def S13 := addS 13 sp13 S3
theorem D13 : Dom B0 V S13 T9 13 := Dom.s (m := 12) (n := 0) D12 D12 (O := o13) (OrcOk.fn (fn0 := Try.f13) (by kernel_rfl) (by kernel_rfl) pc13) fun args R K r h => by
  unfold sp13 at h; split at h
  · rw [haystackref19_Counts_unf] at h; exact Eq.trans (by kernel_rfl) h
  · cases h

noncomputable def o12_5400_in {R : Type} (K : Ex → St → Option R) (vs : List AV) (hh : H) : Option R := match vs, hh with
  | [AV.fsl (Blk.ints .i64 xs190), AV.fsl (Blk.ints .i64 xs191), AV.int .i64 n192], [] => haystackref07_Numbers_l5 xs190 xs191 n192 (fun x0 => K (Ex.ret) (St.mk (spread 26 0 [4] [AV.bool x0]) [])) (fun _ => K (Ex.exit 0) (St.mk (spread 26 0 [] []) []))
  | _, _ => none

noncomputable def o12 : Nat → Option PSpec := lkN [(5400, fun st _ K => pickM 26 [0, 1, 5] st (o12_5400_in K))]
noncomputable def q12 : CallF := evFun (V 12) S13 T9 10

noncomputable def c12_5400 : Code := subC [1, 1, 0, 1, 0, 0] (bodyOf Try.f12)

noncomputable def lp12_5400 {R : Type} (N : Nat) (st : St) (K : Ex → St → Option R) : Option R := evLoop (norm ((V 12).keep 12 (Ev.keyOf c12_5400 * 1000 + 400)) 0) (evCode (V 12) q12 o12 12 0 3994 c12_5400) N st (kOut (V 12) 12 0 (Ev.keyOf c12_5400 * 1000 + 401) K)

theorem haystackref07_Numbers_l5_L_eq {R : Type} (K : Ex → St → Option R) : ∀ N : Nat, (fun (xs190 : List Int) (xs191 : List Int) (n192 : Int) => lp12_5400 N (St.mk (spread 26 0 [0, 1, 5] [AV.fsl (Blk.ints .i64 xs190), AV.fsl (Blk.ints .i64 xs191), AV.int .i64 n192]) []) K) = haystackref07_Numbers_l5_L (fun x0 => K (Ex.ret) (St.mk (spread 26 0 [4] [AV.bool x0]) [])) (fun _ => K (Ex.exit 0) (St.mk (spread 26 0 [] []) [])) N
  | 0 => by funext xs190 xs191 n192; rfl
  | N + 1 => by
    funext xs190 xs191 n192
    simp only [haystackref07_Numbers_l5_L]
    rw [← haystackref07_Numbers_l5_L_eq K N]
    kernel_rfl

theorem p12_5400 : PieceOk (V 12) q12 o12 12 0 (3994, 1, c12_5400) := .l (size := 26) (ss := [0, 1, 5]) (F := @o12_5400_in) (by kernel_rfl) (by kernel_rfl) fun R r K vs hh h => by
  unfold o12_5400_in at h; split at h
  · rw [haystackref07_Numbers_l5_unf] at h; unfold haystackref07_Numbers_l5_B at h; rw [← haystackref07_Numbers_l5_L_eq K NR] at h; exact h
  · cases h

theorem pc12 : ∀ x ∈ [(3994, 1, c12_5400)], PieceOk (V 12) q12 o12 12 0 x := List.forall_mem_cons.2 ⟨p12_5400, fun _ h => nomatch h⟩

noncomputable def sp12 : Ev.Spec := fun args _ K => match args with
  | ([AV.fsl (Blk.ints .i64 xs188), AV.fsl (Blk.ints .i64 xs189)]) => haystackref07_Numbers xs188 xs189 (fun x0 => K (AV.bool x0))
  | _ => none
noncomputable def S12 := addS 12 sp12 S13
theorem D14 : Dom B0 V S12 T9 14 := Dom.s (m := 13) (n := 0) D13 D13 (O := o12) (OrcOk.fn (fn0 := Try.f12) (by kernel_rfl) (by kernel_rfl) pc12) fun args R K r h => by
  unfold sp12 at h; split at h
  · rw [haystackref07_Numbers_unf] at h; exact Eq.trans (by kernel_rfl) h
  · cases h

noncomputable def o22_3400_in {R : Type} (K : Ex → St → Option R) (vs : List AV) (hh : H) : Option R := match vs, hh with
  | [AV.int .u64 n199, AV.int .i64 n200], [] => haystackref01_Len_l3 n199 n200 (fun x0 => K (Ex.ret) (St.mk (spread 16 0 [2] [AV.int .i64 x0]) [])) (fun _ => K (Ex.exit 0) (St.mk (spread 16 0 [] []) []))
  | _, _ => none

noncomputable def o22 : Nat → Option PSpec := lkN [(3400, fun st _ K => pickM 16 [0, 3] st (o22_3400_in K))]
noncomputable def q22 : CallF := evFun (V 22) S12 T9 10

noncomputable def c22_3400 : Code := subC [1, 0, 1, 0, 0] (bodyOf Try.f22)

noncomputable def lp22_3400 {R : Type} (N : Nat) (st : St) (K : Ex → St → Option R) : Option R := evLoop (norm ((V 22).keep 22 (Ev.keyOf c22_3400 * 1000 + 400)) 0) (evCode (V 22) q22 o22 22 0 3995 c22_3400) N st (kOut (V 22) 22 0 (Ev.keyOf c22_3400 * 1000 + 401) K)

theorem haystackref01_Len_l3_L_eq {R : Type} (K : Ex → St → Option R) : ∀ N : Nat, (fun (n199 : Int) (n200 : Int) => lp22_3400 N (St.mk (spread 16 0 [0, 3] [AV.int .u64 n199, AV.int .i64 n200]) []) K) = haystackref01_Len_l3_L (fun x0 => K (Ex.ret) (St.mk (spread 16 0 [2] [AV.int .i64 x0]) [])) (fun _ => K (Ex.exit 0) (St.mk (spread 16 0 [] []) [])) N
  | 0 => by funext n199 n200; rfl
  | N + 1 => by
    funext n199 n200
    simp only [haystackref01_Len_l3_L]
    rw [← haystackref01_Len_l3_L_eq K N]
    kernel_rfl

theorem p22_3400 : PieceOk (V 22) q22 o22 22 0 (3995, 1, c22_3400) := .l (size := 16) (ss := [0, 3]) (F := @o22_3400_in) (by kernel_rfl) (by kernel_rfl) fun R r K vs hh h => by
  unfold o22_3400_in at h; split at h
  · rw [haystackref01_Len_l3_unf] at h; unfold haystackref01_Len_l3_B at h; rw [← haystackref01_Len_l3_L_eq K NR] at h; exact h
  · cases h

theorem pc22 : ∀ x ∈ [(3995, 1, c22_3400)], PieceOk (V 22) q22 o22 22 0 x := List.forall_mem_cons.2 ⟨p22_3400, fun _ h => nomatch h⟩

noncomputable def sp22 : Ev.Spec := fun args _ K => match args with
  | ([AV.int .u64 n198]) => haystackref01_Len n198 (fun x0 => K (AV.int .i64 x0))
  | _ => none
noncomputable def S22 := addS 22 sp22 S12
theorem D15 : Dom B0 V S22 T9 15 := Dom.s (m := 14) (n := 0) D14 D14 (O := o22) (OrcOk.fn (fn0 := Try.f22) (by kernel_rfl) (by kernel_rfl) pc22) fun args R K r h => by
  unfold sp22 at h; split at h
  · rw [haystackref01_Len_unf] at h; exact Eq.trans (by kernel_rfl) h
  · cases h

noncomputable def o15_4000_in {R : Type} (K : Ex → St → Option R) (vs : List AV) (hh : H) : Option R := match vs, hh with
  | [AV.int .i64 n197], [] => haystackref19_Log_j4 n197 (fun x0 => K (Ex.ret) (St.mk (spread 41 0 [2] [AV.int .i64 x0]) []))
  | _, _ => none

noncomputable def o15_8400_in {R : Type} (K : Ex → St → Option R) (vs : List AV) (hh : H) : Option R := match vs, hh with
  | [AV.int .u64 n203, AV.int .i64 n204, AV.int .i64 n205], [] => haystackref19_Log_l8 n203 n204 n205 (fun x0 => K (Ex.exit 0) (St.mk (spread 41 0 [5] [AV.int .i64 x0]) []))
  | _, _ => none

noncomputable def o15 : Nat → Option PSpec := lkN [(4000, fun st _ K => pickM 41 [0] st (o15_4000_in K)), (8400, fun st _ K => pickM 41 [4, 5, 6] st (o15_8400_in K))]
noncomputable def q15 : CallF := evFun (V 15) S22 T9 10

noncomputable def c15_4000 : Code := subC [1, 1] (bodyOf Try.f15)

noncomputable def c15_8400 : Code := subC [1, 1, 1, 1, 1, 0, 1, 0, 0] (bodyOf Try.f15)

noncomputable def lp15_8400 {R : Type} (N : Nat) (st : St) (K : Ex → St → Option R) : Option R := evLoop (norm ((V 15).keep 15 (Ev.keyOf c15_8400 * 1000 + 400)) 0) (evCode (V 15) q15 o15 15 0 3991 c15_8400) N st (kOut (V 15) 15 0 (Ev.keyOf c15_8400 * 1000 + 401) K)

theorem haystackref19_Log_l8_L_eq {R : Type} (K : Ex → St → Option R) : ∀ N : Nat, (fun (n203 : Int) (n204 : Int) (n205 : Int) => lp15_8400 N (St.mk (spread 41 0 [4, 5, 6] [AV.int .u64 n203, AV.int .i64 n204, AV.int .i64 n205]) []) K) = haystackref19_Log_l8_L (fun x0 => K (Ex.exit 0) (St.mk (spread 41 0 [5] [AV.int .i64 x0]) [])) N
  | 0 => by funext n203 n204 n205; rfl
  | N + 1 => by
    funext n203 n204 n205
    simp only [haystackref19_Log_l8_L]
    rw [← haystackref19_Log_l8_L_eq K N]
    kernel_rfl

theorem p15_4000 : PieceOk (V 15) q15 o15 15 0 (3998, 0, c15_4000) := .s (size := 41) (ss := [0]) (F := @o15_4000_in) (by kernel_rfl) fun R r K vs hh h => by
  unfold o15_4000_in at h; split at h
  · rw [haystackref19_Log_j4_unf] at h; exact Eq.trans (by kernel_rfl) h
  · cases h

theorem p15_8400 : PieceOk (V 15) q15 o15 15 0 (3991, 1, c15_8400) := .l (size := 41) (ss := [4, 5, 6]) (F := @o15_8400_in) (by kernel_rfl) (by kernel_rfl) fun R r K vs hh h => by
  unfold o15_8400_in at h; split at h
  · rw [haystackref19_Log_l8_unf] at h; unfold haystackref19_Log_l8_B at h; rw [← haystackref19_Log_l8_L_eq K NR] at h; exact h
  · cases h

theorem pc15 : ∀ x ∈ [(3998, 0, c15_4000), (3991, 1, c15_8400)], PieceOk (V 15) q15 o15 15 0 x := List.forall_mem_cons.2 ⟨p15_4000, List.forall_mem_cons.2 ⟨p15_8400, fun _ h => nomatch h⟩⟩

noncomputable def sp15 : Ev.Spec := fun args _ K => match args with
  | ([AV.int .i64 n196]) => haystackref19_Log n196 (fun x0 => K (AV.int .i64 x0))
  | _ => none
noncomputable def S15 := addS 15 sp15 S22
theorem D16 : Dom B0 V S15 T9 16 := Dom.s (m := 15) (n := 0) D15 D15 (O := o15) (OrcOk.fn (fn0 := Try.f15) (by kernel_rfl) (by kernel_rfl) pc15) fun args R K r h => by
  unfold sp15 at h; split at h
  · rw [haystackref19_Log_unf] at h; exact Eq.trans (by kernel_rfl) h
  · cases h

noncomputable def o16_6400_in {R : Type} (K : Ex → St → Option R) (vs : List AV) (hh : H) : Option R := match vs, hh with
  | [AV.fsl (Blk.ints .i64 xs211), AV.int .i64 n212, AV.int .i64 n213], [] => haystackref19_Entropy_l6 xs211 n212 n213 (fun x0 => K (Ex.ret) (St.mk (spread 65 0 [2] [AV.int .i64 x0]) [])) (fun x0 x1 => K (Ex.exit 0) (St.mk (spread 65 0 [0, 3] [AV.fsl (Blk.ints .i64 x0), AV.int .i64 x1]) []))
  | _, _ => none

noncomputable def o16_10000_in {R : Type} (K : Ex → St → Option R) (vs : List AV) (hh : H) : Option R := match vs, hh with
  | [AV.fsl (Blk.ints .i64 xs214), AV.int .i64 n215, AV.int .i64 n216], [] => haystackref19_Entropy_j10 xs214 n215 n216 (fun x0 x1 x2 => K (Ex.normal) (St.mk (spread 65 0 [0, 3, 4] [AV.fsl (Blk.ints .i64 x0), AV.int .i64 x1, AV.int .i64 x2]) []))
  | _, _ => none

noncomputable def o16_13400_in {R : Type} (K : Ex → St → Option R) (vs : List AV) (hh : H) : Option R := match vs, hh with
  | [AV.fsl (Blk.ints .i64 xs223), AV.int .i64 n224, AV.int .i64 n225, AV.int .i64 n226], [] => haystackref19_Entropy_l13 xs223 n224 n225 n226 (fun x0 => K (Ex.exit 2) (St.mk (spread 65 0 [5] [AV.int .i64 x0]) []))
  | _, _ => none

noncomputable def o16 : Nat → Option PSpec := lkN [(6400, fun st _ K => pickM 65 [0, 3, 4] st (o16_6400_in K)), (10000, fun st _ K => pickM 65 [0, 3, 4] st (o16_10000_in K)), (13400, fun st _ K => pickM 65 [0, 3, 5, 6] st (o16_13400_in K))]
noncomputable def q16 : CallF := evFun (V 16) S15 T9 10

noncomputable def c16_6400 : Code := subC [1, 1, 1, 0, 1, 0, 0] (bodyOf Try.f16)

noncomputable def lp16_6400 {R : Type} (N : Nat) (st : St) (K : Ex → St → Option R) : Option R := evLoop (norm ((V 16).keep 16 (Ev.keyOf c16_6400 * 1000 + 400)) 0) (evCode (V 16) q16 o16 16 0 3993 c16_6400) N st (kOut (V 16) 16 0 (Ev.keyOf c16_6400 * 1000 + 401) K)

noncomputable def c16_10000 : Code := subC [1, 1, 1, 0, 1, 0, 0, 1, 0, 0, 1] (bodyOf Try.f16)

noncomputable def c16_13400 : Code := subC [1, 1, 1, 1, 1, 0, 1, 0, 0] (bodyOf Try.f16)

noncomputable def lp16_13400 {R : Type} (N : Nat) (st : St) (K : Ex → St → Option R) : Option R := evLoop (norm ((V 16).keep 16 (Ev.keyOf c16_13400 * 1000 + 400)) 0) (evCode (V 16) q16 o16 16 0 3991 c16_13400) N st (kOut (V 16) 16 0 (Ev.keyOf c16_13400 * 1000 + 401) K)

theorem haystackref19_Entropy_l6_L_eq {R : Type} (K : Ex → St → Option R) : ∀ N : Nat, (fun (xs211 : List Int) (n212 : Int) (n213 : Int) => lp16_6400 N (St.mk (spread 65 0 [0, 3, 4] [AV.fsl (Blk.ints .i64 xs211), AV.int .i64 n212, AV.int .i64 n213]) []) K) = haystackref19_Entropy_l6_L (fun x0 => K (Ex.ret) (St.mk (spread 65 0 [2] [AV.int .i64 x0]) [])) (fun x0 x1 => K (Ex.exit 0) (St.mk (spread 65 0 [0, 3] [AV.fsl (Blk.ints .i64 x0), AV.int .i64 x1]) [])) N
  | 0 => by funext xs211 n212 n213; rfl
  | N + 1 => by
    funext xs211 n212 n213
    simp only [haystackref19_Entropy_l6_L]
    rw [← haystackref19_Entropy_l6_L_eq K N]
    kernel_rfl

theorem haystackref19_Entropy_l13_L_eq {R : Type} (K : Ex → St → Option R) : ∀ N : Nat, (fun (xs223 : List Int) (n224 : Int) (n225 : Int) (n226 : Int) => lp16_13400 N (St.mk (spread 65 0 [0, 3, 5, 6] [AV.fsl (Blk.ints .i64 xs223), AV.int .i64 n224, AV.int .i64 n225, AV.int .i64 n226]) []) K) = haystackref19_Entropy_l13_L (fun x0 => K (Ex.exit 2) (St.mk (spread 65 0 [5] [AV.int .i64 x0]) [])) N
  | 0 => by funext xs223 n224 n225 n226; rfl
  | N + 1 => by
    funext xs223 n224 n225 n226
    simp only [haystackref19_Entropy_l13_L]
    rw [← haystackref19_Entropy_l13_L_eq K N]
    kernel_rfl

theorem p16_6400 : PieceOk (V 16) q16 o16 16 0 (3993, 1, c16_6400) := .l (size := 65) (ss := [0, 3, 4]) (F := @o16_6400_in) (by kernel_rfl) (by kernel_rfl) fun R r K vs hh h => by
  unfold o16_6400_in at h; split at h
  · rw [haystackref19_Entropy_l6_unf] at h; unfold haystackref19_Entropy_l6_B at h; rw [← haystackref19_Entropy_l6_L_eq K NR] at h; exact h
  · cases h

theorem p16_10000 : PieceOk (V 16) q16 o16 16 0 (3989, 0, c16_10000) := .s (size := 65) (ss := [0, 3, 4]) (F := @o16_10000_in) (by kernel_rfl) fun R r K vs hh h => by
  unfold o16_10000_in at h; split at h
  · rw [haystackref19_Entropy_j10_unf] at h; exact Eq.trans (by kernel_rfl) h
  · cases h

theorem p16_13400 : PieceOk (V 16) q16 o16 16 0 (3991, 1, c16_13400) := .l (size := 65) (ss := [0, 3, 5, 6]) (F := @o16_13400_in) (by kernel_rfl) (by kernel_rfl) fun R r K vs hh h => by
  unfold o16_13400_in at h; split at h
  · rw [haystackref19_Entropy_l13_unf] at h; unfold haystackref19_Entropy_l13_B at h; rw [← haystackref19_Entropy_l13_L_eq K NR] at h; exact h
  · cases h

theorem pc16 : ∀ x ∈ [(3993, 1, c16_6400), (3989, 0, c16_10000), (3991, 1, c16_13400)], PieceOk (V 16) q16 o16 16 0 x := List.forall_mem_cons.2 ⟨p16_6400, List.forall_mem_cons.2 ⟨p16_10000, List.forall_mem_cons.2 ⟨p16_13400, fun _ h => nomatch h⟩⟩⟩

noncomputable def sp16 : Ev.Spec := fun args _ K => match args with
  | ([AV.fsl (Blk.ints .i64 xs210)]) => haystackref19_Entropy xs210 (fun x0 => K (AV.int .i64 x0))
  | _ => none
noncomputable def S16 := addS 16 sp16 S15
theorem D17 : Dom B0 V S16 T9 17 := Dom.s (m := 16) (n := 0) D16 D16 (O := o16) (OrcOk.fn (fn0 := Try.f16) (by kernel_rfl) (by kernel_rfl) pc16) fun args R K r h => by
  unfold sp16 at h; split at h
  · rw [haystackref19_Entropy_unf] at h; exact Eq.trans (by kernel_rfl) h
  · cases h

noncomputable def o13r1_4400_in {R : Type} (K : Ex → St → Option R) (vs : List AV) (hh : H) : Option R := match vs, hh with
  | [AV.sl 0 0 l258 1, AV.sl 1 0 l259 1, AV.int .i64 n260], [HB.live (Blk.ints .u8 xs261), HB.live (Blk.ints .i64 xs262)] => haystackref19_Counts_l4_1 l258 l259 n260 xs261 xs262 (fun x0 x1 x2 => K (Ex.exit 0) (St.mk (spread 22 0 [3] [AV.sl 1 0 x0 1]) [HB.live (Blk.ints .u8 x1), HB.live (Blk.ints .i64 x2)]))
  | _, _ => none

noncomputable def o13r1 : Nat → Option PSpec := lkN [(4400, fun st _ K => pickM 22 [0, 3, 4] st (o13r1_4400_in K))]
noncomputable def q13r1 : CallF := evFun (V 13) S16 T9 10

noncomputable def c13r1_4400 : Code := subC [1, 1, 0, 1, 0, 0] (bodyOf Try.f13)

noncomputable def lp13r1_4400 {R : Type} (N : Nat) (st : St) (K : Ex → St → Option R) : Option R := evLoop (norm ((V 13).keep 13 (Ev.keyOf c13r1_4400 * 1000 + 400)) 1) (evCode (V 13) q13r1 o13r1 13 1 3994 c13r1_4400) N st (kOut (V 13) 13 1 (Ev.keyOf c13r1_4400 * 1000 + 401) K)

theorem haystackref19_Counts_l4_1_L_eq {R : Type} (K : Ex → St → Option R) : ∀ N : Nat, (fun (l258 : Nat) (l259 : Nat) (n260 : Int) (xs261 : List Int) (xs262 : List Int) => lp13r1_4400 N (St.mk (spread 22 0 [0, 3, 4] [AV.sl 0 0 l258 1, AV.sl 1 0 l259 1, AV.int .i64 n260]) [HB.live (Blk.ints .u8 xs261), HB.live (Blk.ints .i64 xs262)]) K) = haystackref19_Counts_l4_1_L (fun x0 x1 x2 => K (Ex.exit 0) (St.mk (spread 22 0 [3] [AV.sl 1 0 x0 1]) [HB.live (Blk.ints .u8 x1), HB.live (Blk.ints .i64 x2)])) N
  | 0 => by funext l258 l259 n260 xs261 xs262; rfl
  | N + 1 => by
    funext l258 l259 n260 xs261 xs262
    simp only [haystackref19_Counts_l4_1_L]
    rw [← haystackref19_Counts_l4_1_L_eq K N]
    kernel_rfl

theorem p13r1_4400 : PieceOk (V 13) q13r1 o13r1 13 1 (3994, 1, c13r1_4400) := .l (size := 22) (ss := [0, 3, 4]) (F := @o13r1_4400_in) (by kernel_rfl) (by kernel_rfl) fun R r K vs hh h => by
  unfold o13r1_4400_in at h; split at h
  · rw [haystackref19_Counts_l4_1_unf] at h; unfold haystackref19_Counts_l4_1_B at h; rw [← haystackref19_Counts_l4_1_L_eq K NR] at h; exact h
  · cases h

theorem pc13r1 : ∀ x ∈ [(3994, 1, c13r1_4400)], PieceOk (V 13) q13r1 o13r1 13 1 x := List.forall_mem_cons.2 ⟨p13r1_4400, fun _ h => nomatch h⟩

noncomputable def hs13 : HSpec := fun args h _ K => match args, h with
  | [AV.sl 0 0 l256 1], [HB.live (Blk.ints .u8 xs257)] => haystackref19_Counts_r l256 xs257 (fun x0 x1 x2 => K (AV.sl 1 0 x0 1) ([HB.live (Blk.ints .u8 x1), HB.live (Blk.ints .i64 x2)]))
  | _, _ => none
noncomputable def T13 := addT 13 hs13 T9
theorem D18 : Dom B0 V S16 T13 18 := Dom.t D17 fun args hh R K r h => by
  unfold hs13 at h; split at h
  · rw [haystackref19_Counts_r_unf] at h; exact ⟨o13r1, (OrcOk.fn (fn0 := Try.f13) (by kernel_rfl) (by kernel_rfl) pc13r1), Eq.trans (by kernel_rfl) h⟩
  · cases h

noncomputable def o16r1_6400_in {R : Type} (K : Ex → St → Option R) (vs : List AV) (hh : H) : Option R := match vs, hh with
  | [AV.sl 0 0 l272 1, AV.int .i64 n273, AV.int .i64 n274], [HB.live (Blk.ints .i64 xs275)] => haystackref19_Entropy_l6_1 l272 n273 n274 xs275 (fun x0 x1 => K (Ex.ret) (St.mk (spread 65 0 [2] [AV.int .i64 x0]) [HB.live (Blk.ints .i64 x1)])) (fun x0 x1 x2 => K (Ex.exit 0) (St.mk (spread 65 0 [0, 3] [AV.sl 0 0 x0 1, AV.int .i64 x1]) [HB.live (Blk.ints .i64 x2)]))
  | _, _ => none

noncomputable def o16r1_10000_in {R : Type} (K : Ex → St → Option R) (vs : List AV) (hh : H) : Option R := match vs, hh with
  | [AV.sl 0 0 l276 1, AV.int .i64 n277, AV.int .i64 n278], [HB.live (Blk.ints .i64 xs279)] => haystackref19_Entropy_j10_1 l276 n277 n278 xs279 (fun x0 x1 x2 x3 => K (Ex.normal) (St.mk (spread 65 0 [0, 3, 4] [AV.sl 0 0 x0 1, AV.int .i64 x1, AV.int .i64 x2]) [HB.live (Blk.ints .i64 x3)]))
  | _, _ => none

noncomputable def o16r1_13400_in {R : Type} (K : Ex → St → Option R) (vs : List AV) (hh : H) : Option R := match vs, hh with
  | [AV.sl 0 0 l289 1, AV.int .i64 n290, AV.int .i64 n291, AV.int .i64 n292], [HB.live (Blk.ints .i64 xs293)] => haystackref19_Entropy_l13_1 l289 n290 n291 n292 xs293 (fun x0 x1 => K (Ex.exit 2) (St.mk (spread 65 0 [5] [AV.int .i64 x0]) [HB.live (Blk.ints .i64 x1)]))
  | _, _ => none

noncomputable def o16r1 : Nat → Option PSpec := lkN [(6400, fun st _ K => pickM 65 [0, 3, 4] st (o16r1_6400_in K)), (10000, fun st _ K => pickM 65 [0, 3, 4] st (o16r1_10000_in K)), (13400, fun st _ K => pickM 65 [0, 3, 5, 6] st (o16r1_13400_in K))]
noncomputable def q16r1 : CallF := evFun (V 16) S16 T13 10

noncomputable def c16r1_6400 : Code := subC [1, 1, 1, 0, 1, 0, 0] (bodyOf Try.f16)

noncomputable def lp16r1_6400 {R : Type} (N : Nat) (st : St) (K : Ex → St → Option R) : Option R := evLoop (norm ((V 16).keep 16 (Ev.keyOf c16r1_6400 * 1000 + 400)) 1) (evCode (V 16) q16r1 o16r1 16 1 3993 c16r1_6400) N st (kOut (V 16) 16 1 (Ev.keyOf c16r1_6400 * 1000 + 401) K)

noncomputable def c16r1_10000 : Code := subC [1, 1, 1, 0, 1, 0, 0, 1, 0, 0, 1] (bodyOf Try.f16)

noncomputable def c16r1_13400 : Code := subC [1, 1, 1, 1, 1, 0, 1, 0, 0] (bodyOf Try.f16)

noncomputable def lp16r1_13400 {R : Type} (N : Nat) (st : St) (K : Ex → St → Option R) : Option R := evLoop (norm ((V 16).keep 16 (Ev.keyOf c16r1_13400 * 1000 + 400)) 1) (evCode (V 16) q16r1 o16r1 16 1 3991 c16r1_13400) N st (kOut (V 16) 16 1 (Ev.keyOf c16r1_13400 * 1000 + 401) K)

theorem haystackref19_Entropy_l6_1_L_eq {R : Type} (K : Ex → St → Option R) : ∀ N : Nat, (fun (l272 : Nat) (n273 : Int) (n274 : Int) (xs275 : List Int) => lp16r1_6400 N (St.mk (spread 65 0 [0, 3, 4] [AV.sl 0 0 l272 1, AV.int .i64 n273, AV.int .i64 n274]) [HB.live (Blk.ints .i64 xs275)]) K) = haystackref19_Entropy_l6_1_L (fun x0 x1 => K (Ex.ret) (St.mk (spread 65 0 [2] [AV.int .i64 x0]) [HB.live (Blk.ints .i64 x1)])) (fun x0 x1 x2 => K (Ex.exit 0) (St.mk (spread 65 0 [0, 3] [AV.sl 0 0 x0 1, AV.int .i64 x1]) [HB.live (Blk.ints .i64 x2)])) N
  | 0 => by funext l272 n273 n274 xs275; rfl
  | N + 1 => by
    funext l272 n273 n274 xs275
    simp only [haystackref19_Entropy_l6_1_L]
    rw [← haystackref19_Entropy_l6_1_L_eq K N]
    kernel_rfl

theorem haystackref19_Entropy_l13_1_L_eq {R : Type} (K : Ex → St → Option R) : ∀ N : Nat, (fun (l289 : Nat) (n290 : Int) (n291 : Int) (n292 : Int) (xs293 : List Int) => lp16r1_13400 N (St.mk (spread 65 0 [0, 3, 5, 6] [AV.sl 0 0 l289 1, AV.int .i64 n290, AV.int .i64 n291, AV.int .i64 n292]) [HB.live (Blk.ints .i64 xs293)]) K) = haystackref19_Entropy_l13_1_L (fun x0 x1 => K (Ex.exit 2) (St.mk (spread 65 0 [5] [AV.int .i64 x0]) [HB.live (Blk.ints .i64 x1)])) N
  | 0 => by funext l289 n290 n291 n292 xs293; rfl
  | N + 1 => by
    funext l289 n290 n291 n292 xs293
    simp only [haystackref19_Entropy_l13_1_L]
    rw [← haystackref19_Entropy_l13_1_L_eq K N]
    kernel_rfl

theorem p16r1_6400 : PieceOk (V 16) q16r1 o16r1 16 1 (3993, 1, c16r1_6400) := .l (size := 65) (ss := [0, 3, 4]) (F := @o16r1_6400_in) (by kernel_rfl) (by kernel_rfl) fun R r K vs hh h => by
  unfold o16r1_6400_in at h; split at h
  · rw [haystackref19_Entropy_l6_1_unf] at h; unfold haystackref19_Entropy_l6_1_B at h; rw [← haystackref19_Entropy_l6_1_L_eq K NR] at h; exact h
  · cases h

theorem p16r1_10000 : PieceOk (V 16) q16r1 o16r1 16 1 (3989, 0, c16r1_10000) := .s (size := 65) (ss := [0, 3, 4]) (F := @o16r1_10000_in) (by kernel_rfl) fun R r K vs hh h => by
  unfold o16r1_10000_in at h; split at h
  · rw [haystackref19_Entropy_j10_1_unf] at h; exact Eq.trans (by kernel_rfl) h
  · cases h

theorem p16r1_13400 : PieceOk (V 16) q16r1 o16r1 16 1 (3991, 1, c16r1_13400) := .l (size := 65) (ss := [0, 3, 5, 6]) (F := @o16r1_13400_in) (by kernel_rfl) (by kernel_rfl) fun R r K vs hh h => by
  unfold o16r1_13400_in at h; split at h
  · rw [haystackref19_Entropy_l13_1_unf] at h; unfold haystackref19_Entropy_l13_1_B at h; rw [← haystackref19_Entropy_l13_1_L_eq K NR] at h; exact h
  · cases h

theorem pc16r1 : ∀ x ∈ [(3993, 1, c16r1_6400), (3989, 0, c16r1_10000), (3991, 1, c16r1_13400)], PieceOk (V 16) q16r1 o16r1 16 1 x := List.forall_mem_cons.2 ⟨p16r1_6400, List.forall_mem_cons.2 ⟨p16r1_10000, List.forall_mem_cons.2 ⟨p16r1_13400, fun _ h => nomatch h⟩⟩⟩

noncomputable def hs16 : HSpec := fun args h _ K => match args, h with
  | [AV.sl 0 0 l270 1], [HB.live (Blk.ints .i64 xs271)] => haystackref19_Entropy_r l270 xs271 (fun x0 x1 => K (AV.int .i64 x0) ([HB.live (Blk.ints .i64 x1)]))
  | _, _ => none
noncomputable def T16 := addT 16 hs16 T13
theorem D19 : Dom B0 V S16 T16 19 := Dom.t D18 fun args hh R K r h => by
  unfold hs16 at h; split at h
  · rw [haystackref19_Entropy_r_unf] at h; exact ⟨o16r1, (OrcOk.fn (fn0 := Try.f16) (by kernel_rfl) (by kernel_rfl) pc16r1), Eq.trans (by kernel_rfl) h⟩
  · cases h

noncomputable def o17_6400_in {R : Type} (K : Ex → St → Option R) (vs : List AV) (hh : H) : Option R := match vs, hh with
  | [AV.fsl (Blk.ints .u8 xs233), AV.int .i64 n234, AV.int .i64 n235], [] => haystackref19_Second_l6 xs233 n234 n235 (fun x0 => K (Ex.exit 0) (St.mk (spread 45 0 [3] [AV.int .i64 x0]) []))
  | _, _ => none

noncomputable def o17_10400_in {R : Type} (K : Ex → St → Option R) (vs : List AV) (hh : H) : Option R := match vs, hh with
  | [AV.fsl (Blk.ints .u8 xs236), AV.int .i64 n237, AV.int .i64 n238, AV.esl, AV.int .i64 n239], [] => haystackref19_Second_l10 xs236 n237 n238 n239 (fun x0 x1 x2 x3 x4 => K (Ex.exit 2) (St.mk (spread 45 0 [0, 3, 4, 5] [AV.fsl (Blk.ints .u8 x0), AV.int .i64 x1, AV.int .i64 x2, AV.sl 0 0 x3 1]) [HB.live (Blk.ints .u8 x4)])) (fun x0 x1 x2 => K (Ex.exit 2) (St.mk (spread 45 0 [0, 3, 4, 5] [AV.fsl (Blk.ints .u8 x0), AV.int .i64 x1, AV.int .i64 x2, AV.esl]) []))
  | [AV.fsl (Blk.ints .u8 xs241), AV.int .i64 n242, AV.int .i64 n243, AV.sl 0 0 l244 1, AV.int .i64 n245], [HB.live (Blk.ints .u8 xs246)] => haystackref19_Second_l10_1 xs241 n242 n243 l244 n245 xs246 (fun x0 x1 x2 x3 x4 => K (Ex.exit 2) (St.mk (spread 45 0 [0, 3, 4, 5] [AV.fsl (Blk.ints .u8 x0), AV.int .i64 x1, AV.int .i64 x2, AV.sl 0 0 x3 1]) [HB.live (Blk.ints .u8 x4)]))
  | _, _ => none

noncomputable def o17 : Nat → Option PSpec := lkN [(6400, fun st _ K => pickM 45 [0, 3, 4] st (o17_6400_in K)), (10400, fun st _ K => pickM 45 [0, 3, 4, 5, 6] st (o17_10400_in K))]
noncomputable def q17 : CallF := evFun (V 17) S16 T16 10

noncomputable def c17_6400 : Code := subC [1, 1, 1, 0, 1, 0, 0] (bodyOf Try.f17)

noncomputable def lp17_6400 {R : Type} (N : Nat) (st : St) (K : Ex → St → Option R) : Option R := evLoop (norm ((V 17).keep 17 (Ev.keyOf c17_6400 * 1000 + 400)) 0) (evCode (V 17) q17 o17 17 0 3993 c17_6400) N st (kOut (V 17) 17 0 (Ev.keyOf c17_6400 * 1000 + 401) K)

noncomputable def c17_10400 : Code := subC [1, 1, 1, 0, 1, 0, 0, 1, 0, 0, 1, 0, 1, 0, 0] (bodyOf Try.f17)

noncomputable def lp17_10400 {R : Type} (N : Nat) (st : St) (K : Ex → St → Option R) : Option R := evLoop (norm ((V 17).keep 17 (Ev.keyOf c17_10400 * 1000 + 400)) 0) (evCode (V 17) q17 o17 17 0 3985 c17_10400) N st (kOut (V 17) 17 0 (Ev.keyOf c17_10400 * 1000 + 401) K)

theorem haystackref19_Second_l10_1_L_eq {R : Type} (K : Ex → St → Option R) : ∀ N : Nat, (fun (xs241 : List Int) (n242 : Int) (n243 : Int) (l244 : Nat) (n245 : Int) (xs246 : List Int) => lp17_10400 N (St.mk (spread 45 0 [0, 3, 4, 5, 6] [AV.fsl (Blk.ints .u8 xs241), AV.int .i64 n242, AV.int .i64 n243, AV.sl 0 0 l244 1, AV.int .i64 n245]) [HB.live (Blk.ints .u8 xs246)]) K) = haystackref19_Second_l10_1_L (fun x0 x1 x2 x3 x4 => K (Ex.exit 2) (St.mk (spread 45 0 [0, 3, 4, 5] [AV.fsl (Blk.ints .u8 x0), AV.int .i64 x1, AV.int .i64 x2, AV.sl 0 0 x3 1]) [HB.live (Blk.ints .u8 x4)])) N
  | 0 => by funext xs241 n242 n243 l244 n245 xs246; rfl
  | N + 1 => by
    funext xs241 n242 n243 l244 n245 xs246
    simp only [haystackref19_Second_l10_1_L]
    rw [← haystackref19_Second_l10_1_L_eq K N]
    kernel_rfl

theorem haystackref19_Second_l10_L_eq {R : Type} (K : Ex → St → Option R) : ∀ N : Nat, (fun (xs236 : List Int) (n237 : Int) (n238 : Int) (n239 : Int) => lp17_10400 N (St.mk (spread 45 0 [0, 3, 4, 5, 6] [AV.fsl (Blk.ints .u8 xs236), AV.int .i64 n237, AV.int .i64 n238, AV.esl, AV.int .i64 n239]) []) K) = haystackref19_Second_l10_L (fun x0 x1 x2 x3 x4 => K (Ex.exit 2) (St.mk (spread 45 0 [0, 3, 4, 5] [AV.fsl (Blk.ints .u8 x0), AV.int .i64 x1, AV.int .i64 x2, AV.sl 0 0 x3 1]) [HB.live (Blk.ints .u8 x4)])) (fun x0 x1 x2 => K (Ex.exit 2) (St.mk (spread 45 0 [0, 3, 4, 5] [AV.fsl (Blk.ints .u8 x0), AV.int .i64 x1, AV.int .i64 x2, AV.esl]) [])) N
  | 0 => by funext xs236 n237 n238 n239; rfl
  | N + 1 => by
    funext xs236 n237 n238 n239
    simp only [haystackref19_Second_l10_L]
    rw [← haystackref19_Second_l10_L_eq K N, ← haystackref19_Second_l10_1_L_eq K N]
    kernel_rfl

theorem haystackref19_Second_l6_L_eq {R : Type} (K : Ex → St → Option R) : ∀ N : Nat, (fun (xs233 : List Int) (n234 : Int) (n235 : Int) => lp17_6400 N (St.mk (spread 45 0 [0, 3, 4] [AV.fsl (Blk.ints .u8 xs233), AV.int .i64 n234, AV.int .i64 n235]) []) K) = haystackref19_Second_l6_L (fun x0 => K (Ex.exit 0) (St.mk (spread 45 0 [3] [AV.int .i64 x0]) [])) N
  | 0 => by funext xs233 n234 n235; rfl
  | N + 1 => by
    funext xs233 n234 n235
    simp only [haystackref19_Second_l6_L]
    rw [← haystackref19_Second_l6_L_eq K N]
    kernel_rfl

theorem p17_6400 : PieceOk (V 17) q17 o17 17 0 (3993, 1, c17_6400) := .l (size := 45) (ss := [0, 3, 4]) (F := @o17_6400_in) (by kernel_rfl) (by kernel_rfl) fun R r K vs hh h => by
  unfold o17_6400_in at h; split at h
  · rw [haystackref19_Second_l6_unf] at h; unfold haystackref19_Second_l6_B at h; rw [← haystackref19_Second_l6_L_eq K NR] at h; exact h
  · cases h

theorem p17_10400 : PieceOk (V 17) q17 o17 17 0 (3985, 1, c17_10400) := .l (size := 45) (ss := [0, 3, 4, 5, 6]) (F := @o17_10400_in) (by kernel_rfl) (by kernel_rfl) fun R r K vs hh h => by
  unfold o17_10400_in at h; split at h
  · rw [haystackref19_Second_l10_unf] at h; unfold haystackref19_Second_l10_B at h; rw [← haystackref19_Second_l10_L_eq K NR] at h; exact h
  · rw [haystackref19_Second_l10_1_unf] at h; unfold haystackref19_Second_l10_1_B at h; rw [← haystackref19_Second_l10_1_L_eq K NR] at h; exact h
  · cases h

theorem pc17 : ∀ x ∈ [(3993, 1, c17_6400), (3985, 1, c17_10400)], PieceOk (V 17) q17 o17 17 0 x := List.forall_mem_cons.2 ⟨p17_6400, List.forall_mem_cons.2 ⟨p17_10400, fun _ h => nomatch h⟩⟩

noncomputable def sp17 : Ev.Spec := fun args _ K => match args with
  | ([AV.fsl (Blk.ints .u8 xs232)]) => haystackref19_Second xs232 (fun x0 => K (AV.int .i64 x0))
  | _ => none
noncomputable def S17 := addS 17 sp17 S16
theorem D20 : Dom B0 V S17 T16 20 := Dom.s (m := 19) (n := 0) D19 D19 (O := o17) (OrcOk.fn (fn0 := Try.f17) (by kernel_rfl) (by kernel_rfl) pc17) fun args R K r h => by
  unfold sp17 at h; split at h
  · rw [haystackref19_Second_unf] at h; exact Eq.trans (by kernel_rfl) h
  · cases h

noncomputable def o18_4400_in {R : Type} (K : Ex → St → Option R) (vs : List AV) (hh : H) : Option R := match vs, hh with
  | [AV.fsl (Blk.ints .i64 xs307), AV.int .i64 n308, AV.int .i64 n309], [] => haystackref19_Distinct_l4 xs307 n308 n309 (fun x0 => K (Ex.exit 0) (St.mk (spread 24 0 [3] [AV.int .i64 x0]) []))
  | _, _ => none

noncomputable def o18_6000_in {R : Type} (K : Ex → St → Option R) (vs : List AV) (hh : H) : Option R := match vs, hh with
  | [AV.fsl (Blk.ints .i64 xs310), AV.int .i64 n311, AV.int .i64 n312], [] => haystackref19_Distinct_j6 xs310 n311 n312 (fun x0 x1 x2 => K (Ex.normal) (St.mk (spread 24 0 [0, 3, 4] [AV.fsl (Blk.ints .i64 x0), AV.int .i64 x1, AV.int .i64 x2]) []))
  | _, _ => none

noncomputable def o18 : Nat → Option PSpec := lkN [(4400, fun st _ K => pickM 24 [0, 3, 4] st (o18_4400_in K)), (6000, fun st _ K => pickM 24 [0, 3, 4] st (o18_6000_in K))]
noncomputable def q18 : CallF := evFun (V 18) S17 T16 10

noncomputable def c18_4400 : Code := subC [1, 1, 0, 1, 0, 0] (bodyOf Try.f18)

noncomputable def lp18_4400 {R : Type} (N : Nat) (st : St) (K : Ex → St → Option R) : Option R := evLoop (norm ((V 18).keep 18 (Ev.keyOf c18_4400 * 1000 + 400)) 0) (evCode (V 18) q18 o18 18 0 3994 c18_4400) N st (kOut (V 18) 18 0 (Ev.keyOf c18_4400 * 1000 + 401) K)

noncomputable def c18_6000 : Code := subC [1, 1, 0, 1, 0, 0, 1] (bodyOf Try.f18)

theorem haystackref19_Distinct_l4_L_eq {R : Type} (K : Ex → St → Option R) : ∀ N : Nat, (fun (xs307 : List Int) (n308 : Int) (n309 : Int) => lp18_4400 N (St.mk (spread 24 0 [0, 3, 4] [AV.fsl (Blk.ints .i64 xs307), AV.int .i64 n308, AV.int .i64 n309]) []) K) = haystackref19_Distinct_l4_L (fun x0 => K (Ex.exit 0) (St.mk (spread 24 0 [3] [AV.int .i64 x0]) [])) N
  | 0 => by funext xs307 n308 n309; rfl
  | N + 1 => by
    funext xs307 n308 n309
    simp only [haystackref19_Distinct_l4_L]
    rw [← haystackref19_Distinct_l4_L_eq K N]
    kernel_rfl

theorem p18_4400 : PieceOk (V 18) q18 o18 18 0 (3994, 1, c18_4400) := .l (size := 24) (ss := [0, 3, 4]) (F := @o18_4400_in) (by kernel_rfl) (by kernel_rfl) fun R r K vs hh h => by
  unfold o18_4400_in at h; split at h
  · rw [haystackref19_Distinct_l4_unf] at h; unfold haystackref19_Distinct_l4_B at h; rw [← haystackref19_Distinct_l4_L_eq K NR] at h; exact h
  · cases h

theorem p18_6000 : PieceOk (V 18) q18 o18 18 0 (3993, 0, c18_6000) := .s (size := 24) (ss := [0, 3, 4]) (F := @o18_6000_in) (by kernel_rfl) fun R r K vs hh h => by
  unfold o18_6000_in at h; split at h
  · rw [haystackref19_Distinct_j6_unf] at h; exact Eq.trans (by kernel_rfl) h
  · cases h

theorem pc18 : ∀ x ∈ [(3994, 1, c18_4400), (3993, 0, c18_6000)], PieceOk (V 18) q18 o18 18 0 x := List.forall_mem_cons.2 ⟨p18_4400, List.forall_mem_cons.2 ⟨p18_6000, fun _ h => nomatch h⟩⟩

noncomputable def sp18 : Ev.Spec := fun args _ K => match args with
  | ([AV.fsl (Blk.ints .i64 xs306)]) => haystackref19_Distinct xs306 (fun x0 => K (AV.int .i64 x0))
  | _ => none
noncomputable def S18 := addS 18 sp18 S17
theorem D21 : Dom B0 V S18 T16 21 := Dom.s (m := 20) (n := 0) D20 D20 (O := o18) (OrcOk.fn (fn0 := Try.f18) (by kernel_rfl) (by kernel_rfl) pc18) fun args R K r h => by
  unfold sp18 at h; split at h
  · rw [haystackref19_Distinct_unf] at h; exact Eq.trans (by kernel_rfl) h
  · cases h

noncomputable def o4_4000_in {R : Type} (K : Ex → St → Option R) (vs : List AV) (hh : H) : Option R := match vs, hh with
  | [AV.fsl (Blk.ints .u8 xs175), AV.int .i64 n176, AV.fsl (Blk.ints .i64 xs177)], [] => haystacklaw19_StatsTell_j4 xs175 n176 xs177 (fun x0 => K (Ex.ret) (St.mk (spread 52 0 [6] [AV.bool x0]) []))
  | _, _ => none

noncomputable def o4 : Nat → Option PSpec := lkN [(4000, fun st _ K => pickM 52 [0, 1, 2] st (o4_4000_in K))]
noncomputable def q4 : CallF := evFun (V 4) S18 T16 10

noncomputable def c4_4000 : Code := subC [1, 1] (bodyOf Try.f4)

theorem p4_4000 : PieceOk (V 4) q4 o4 4 0 (3998, 0, c4_4000) := .s (size := 52) (ss := [0, 1, 2]) (F := @o4_4000_in) (by kernel_rfl) fun R r K vs hh h => by
  unfold o4_4000_in at h; split at h
  · rw [haystacklaw19_StatsTell_j4_unf] at h; exact Eq.trans (by kernel_rfl) h
  · cases h

theorem pc4 : ∀ x ∈ [(3998, 0, c4_4000)], PieceOk (V 4) q4 o4 4 0 x := List.forall_mem_cons.2 ⟨p4_4000, fun _ h => nomatch h⟩

noncomputable def sp4 : Ev.Spec := fun args _ K => match args with
  | ([AV.fsl (Blk.ints .u8 xs170), AV.int .i64 n171, AV.fsl (Blk.ints .i64 xs172)]) => haystacklaw19_StatsTell xs170 n171 xs172 (fun x0 => K (AV.bool x0))
  | _ => none
noncomputable def S4 := addS 4 sp4 S18
theorem D22 : Dom B0 V S4 T16 22 := Dom.s (m := 21) (n := 0) D21 D21 (O := o4) (OrcOk.fn (fn0 := Try.f4) (by kernel_rfl) (by kernel_rfl) pc4) fun args R K r h => by
  unfold sp4 at h; split at h
  · rw [haystacklaw19_StatsTell_unf] at h; exact Eq.trans (by kernel_rfl) h
  · cases h

noncomputable def o5_4000_in {R : Type} (K : Ex → St → Option R) (vs : List AV) (hh : H) : Option R := match vs, hh with
  | [AV.int .i64 n325, AV.int .i64 n326], [] => haystacklaw19_StatsRise_j4 n325 n326 (fun x0 => K (Ex.ret) (St.mk (spread 53 0 [4] [AV.bool x0]) []))
  | _, _ => none

noncomputable def o5 : Nat → Option PSpec := lkN [(4000, fun st _ K => pickM 53 [0, 1] st (o5_4000_in K))]
noncomputable def q5 : CallF := evFun (V 5) S4 T16 10

noncomputable def c5_4000 : Code := subC [1, 1] (bodyOf Try.f5)

theorem p5_4000 : PieceOk (V 5) q5 o5 5 0 (3998, 0, c5_4000) := .s (size := 53) (ss := [0, 1]) (F := @o5_4000_in) (by kernel_rfl) fun R r K vs hh h => by
  unfold o5_4000_in at h; split at h
  · rw [haystacklaw19_StatsRise_j4_unf] at h; exact Eq.trans (by kernel_rfl) h
  · cases h

theorem pc5 : ∀ x ∈ [(3998, 0, c5_4000)], PieceOk (V 5) q5 o5 5 0 x := List.forall_mem_cons.2 ⟨p5_4000, fun _ h => nomatch h⟩

noncomputable def sp5 : Ev.Spec := fun args _ K => match args with
  | ([AV.int .i64 n320, AV.int .i64 n321]) => haystacklaw19_StatsRise n320 n321 (fun x0 => K (AV.bool x0))
  | _ => none
noncomputable def S5 := addS 5 sp5 S4
theorem D23 : Dom B0 V S5 T16 23 := Dom.s (m := 22) (n := 0) D22 D22 (O := o5) (OrcOk.fn (fn0 := Try.f5) (by kernel_rfl) (by kernel_rfl) pc5) fun args R K r h => by
  unfold sp5 at h; split at h
  · rw [haystacklaw19_StatsRise_unf] at h; exact Eq.trans (by kernel_rfl) h
  · cases h

theorem ok3 : ∃ sp, SpecOk Try.prog (V 3) 3 sp ∧ ∀ args z, sp3 args AV some = some z → sp args AV some = some z := by
  obtain ⟨sp, h1, h2⟩ := Dom.law (P := Try.prog) (V := V) (fun f sp h _ => base_ok _ _ f sp h) (fun _ => env_types _ _) (fun _ => env_funs _ _) (fun _ _ => rfl) D23 (f := 3) (sp := sp3) (by kernel_rfl)
  exact ⟨sp, h1, fun args z => h2 args AV some z⟩

theorem ok4 : ∃ sp, SpecOk Try.prog (V 4) 4 sp ∧ ∀ args z, sp4 args AV some = some z → sp args AV some = some z := by
  obtain ⟨sp, h1, h2⟩ := Dom.law (P := Try.prog) (V := V) (fun f sp h _ => base_ok _ _ f sp h) (fun _ => env_types _ _) (fun _ => env_funs _ _) (fun _ _ => rfl) D23 (f := 4) (sp := sp4) (by kernel_rfl)
  exact ⟨sp, h1, fun args z => h2 args AV some z⟩

theorem ok5 : ∃ sp, SpecOk Try.prog (V 5) 5 sp ∧ ∀ args z, sp5 args AV some = some z → sp args AV some = some z := by
  obtain ⟨sp, h1, h2⟩ := Dom.law (P := Try.prog) (V := V) (fun f sp h _ => base_ok _ _ f sp h) (fun _ => env_types _ _) (fun _ => env_funs _ _) (fun _ _ => rfl) D23 (f := 5) (sp := sp5) (by kernel_rfl)
  exact ⟨sp, h1, fun args z => h2 args AV some z⟩

end Go.Proofs.Ytblpggndekhebaa
