/- The functions that this seat's laws reach, as plain functions, and that they are what the program does. Printed by a program of this repo (wip/Prt). -/
import Derived.Test.YtblpggndekhebaaDoorEnv
import Derived.Test.YtblpggndekhebaaDoorEv23
import Derived.KernelRfl
namespace Go.Proofs.YtblpggndekhebaaDoor
open Go Go.Ev
def txt__14a5d8 : ByteArray := ByteArray.mk (List.toArray (List.append (List.append [0, 1, 2, 2, 3, 3, 3, 3, 4, 4, 4, 4, 4, 4, 4, 4, 5, 5, 5, 5, 5, 5, 5, 5, 5, 5, 5, 5, 5, 5, 5, 5, 6, 6, 6, 6, 6, 6, 6, 6, 6, 6, 6, 6, 6, 6, 6, 6, 6, 6, 6, 6, 6, 6, 6, 6, 6, 6, 6, 6, 6, 6, 6, 6] [7, 7, 7, 7, 7, 7, 7, 7, 7, 7, 7, 7, 7, 7, 7, 7, 7, 7, 7, 7, 7, 7, 7, 7, 7, 7, 7, 7, 7, 7, 7, 7, 7, 7, 7, 7, 7, 7, 7, 7, 7, 7, 7, 7, 7, 7, 7, 7, 7, 7, 7, 7, 7, 7, 7, 7, 7, 7, 7, 7, 7, 7, 7, 7]) (List.append [8, 8, 8, 8, 8, 8, 8, 8, 8, 8, 8, 8, 8, 8, 8, 8, 8, 8, 8, 8, 8, 8, 8, 8, 8, 8, 8, 8, 8, 8, 8, 8, 8, 8, 8, 8, 8, 8, 8, 8, 8, 8, 8, 8, 8, 8, 8, 8, 8, 8, 8, 8, 8, 8, 8, 8, 8, 8, 8, 8, 8, 8, 8, 8] [8, 8, 8, 8, 8, 8, 8, 8, 8, 8, 8, 8, 8, 8, 8, 8, 8, 8, 8, 8, 8, 8, 8, 8, 8, 8, 8, 8, 8, 8, 8, 8, 8, 8, 8, 8, 8, 8, 8, 8, 8, 8, 8, 8, 8, 8, 8, 8, 8, 8, 8, 8, 8, 8, 8, 8, 8, 8, 8, 8, 8, 8, 8, 8])))
set_option maxRecDepth 100000

noncomputable def word_Mask_B {R : Type} (n2 : Int) (K0 : Int → Option R) : Option R :=
 sel (decide (n2 ≤ 0))
  (K0 (0))
  (sel (decide (0 ≤ max2 0 (subW .i64 64 n2)))
   (K0 (shrW .u64 18446744073709551615 (max2 0 (subW .i64 64 n2))))
   (none))
noncomputable def word_Mask {R : Type} (n2 : Int) (K0 : Int → Option R) : Option R := shut (@word_Mask_B R) n2 K0
theorem word_Mask_unf {R : Type} (n2 : Int) (K0 : Int → Option R) : word_Mask n2 K0 = word_Mask_B n2 K0 := by unfold word_Mask; rw [shut_eq]

noncomputable def math_bits_OnesCount64_B {R : Type} (n6 : Int) (K0 : Int → Option R) : Option R :=
 letV (shrW .u64 (addW .u64 (andW .u64 (shrW .u64 (addW .u64 (andW .u64 (shrW .u64 n6 1) 6148914691236517205) (andW .u64 n6 6148914691236517205)) 2) 3689348814741910323) (andW .u64 (addW .u64 (andW .u64 (shrW .u64 n6 1) 6148914691236517205) (andW .u64 n6 6148914691236517205)) 3689348814741910323)) 4) (fun (n7 : Int) =>
 letV (addW .u64 n7 (addW .u64 (andW .u64 (shrW .u64 (addW .u64 (andW .u64 (shrW .u64 n6 1) 6148914691236517205) (andW .u64 n6 6148914691236517205)) 2) 3689348814741910323) (andW .u64 (addW .u64 (andW .u64 (shrW .u64 n6 1) 6148914691236517205) (andW .u64 n6 6148914691236517205)) 3689348814741910323))) (fun (n8 : Int) =>
 letV (addW .u64 (addW .u64 (addW .u64 (andW .u64 n8 1085102592571150095) (shrW .u64 (andW .u64 n8 1085102592571150095) 8)) (shrW .u64 (addW .u64 (andW .u64 n8 1085102592571150095) (shrW .u64 (andW .u64 n8 1085102592571150095) 8)) 16)) (shrW .u64 (addW .u64 (addW .u64 (andW .u64 n8 1085102592571150095) (shrW .u64 (andW .u64 n8 1085102592571150095) 8)) (shrW .u64 (addW .u64 (andW .u64 n8 1085102592571150095) (shrW .u64 (andW .u64 n8 1085102592571150095) 8)) 16)) 32)) (fun (n9 : Int) =>
 K0 (andW .i64 (cvtW .i64 n9) 127))))
noncomputable def math_bits_OnesCount64 {R : Type} (n6 : Int) (K0 : Int → Option R) : Option R := shut (@math_bits_OnesCount64_B R) n6 K0
theorem math_bits_OnesCount64_unf {R : Type} (n6 : Int) (K0 : Int → Option R) : math_bits_OnesCount64 n6 K0 = math_bits_OnesCount64_B n6 K0 := by unfold math_bits_OnesCount64; rw [shut_eq]

noncomputable def word_Pop_B {R : Type} (n5 : Int) (K0 : Int → Option R) : Option R :=
 math_bits_OnesCount64 (n5)
  (fun (n10 : Int) => K0 (n10))
noncomputable def word_Pop {R : Type} (n5 : Int) (K0 : Int → Option R) : Option R := shut (@word_Pop_B R) n5 K0
theorem word_Pop_unf {R : Type} (n5 : Int) (K0 : Int → Option R) : word_Pop n5 K0 = word_Pop_B n5 K0 := by unfold word_Pop; rw [shut_eq]

noncomputable def word_Rank_B {R : Type} (n12 : Int) (n13 : Int) (K0 : Int → Option R) : Option R :=
 word_Mask (n13)
  (fun (n14 : Int) => word_Pop (andW .u64 n12 n14)
   (fun (n15 : Int) => K0 (n15)))
noncomputable def word_Rank {R : Type} (n12 : Int) (n13 : Int) (K0 : Int → Option R) : Option R := shut (@word_Rank_B R) n12 n13 K0
theorem word_Rank_unf {R : Type} (n12 : Int) (n13 : Int) (K0 : Int → Option R) : word_Rank n12 n13 K0 = word_Rank_B n12 n13 K0 := by unfold word_Rank; rw [shut_eq]

noncomputable def word_Select_l5_T {R : Type} (rec : Int → Int → Int → Option R) (n22 : Int) (n23 : Int) (n24 : Int) (K0 : Int → Option R) : Option R :=
 sel (decide (n24 < n23))
  (rec (andW .u64 n22 (subW .u64 n22 1)) (n23) (addW .i64 n24 1))
  (K0 (n22))
noncomputable def word_Select_l5_L {R : Type} (K0 : Int → Option R) : Nat → Int → Int → Int → Option R
  | 0, _, _, _ => none
  | N + 1, n22, n23, n24 => word_Select_l5_T (word_Select_l5_L K0 N) n22 n23 n24 K0
noncomputable def word_Select_l5_B {R : Type} (n22 : Int) (n23 : Int) (n24 : Int) (K0 : Int → Option R) : Option R :=
 word_Select_l5_L K0 NR n22 n23 n24
noncomputable def word_Select_l5 {R : Type} (n22 : Int) (n23 : Int) (n24 : Int) (K0 : Int → Option R) : Option R := shut (@word_Select_l5_B R) n22 n23 n24 K0
theorem word_Select_l5_unf {R : Type} (n22 : Int) (n23 : Int) (n24 : Int) (K0 : Int → Option R) : word_Select_l5 n22 n23 n24 K0 = word_Select_l5_B n22 n23 n24 K0 := by unfold word_Select_l5; rw [shut_eq]

noncomputable def math_bits_TrailingZeros64_B {R : Type} (n26 : Int) (K0 : Int → Option R) : Option R :=
 sel (decide (n26 = 0))
  (K0 (64))
  (sel (decide (0 ≤ shrW .u64 (mulW .u64 (andW .u64 n26 (negW .u64 n26)) 285870213051353865) 58))
   (sel (decide (shrW .u64 (mulW .u64 (andW .u64 n26 (negW .u64 n26)) 285870213051353865) 58 < (↑64 : Int)))
    (K0 (cvtW .i64 (List.getD tzTab (Int.toNat (shrW .u64 (mulW .u64 (andW .u64 n26 (negW .u64 n26)) 285870213051353865) 58)) 0)))
    (none))
   (none))
noncomputable def math_bits_TrailingZeros64 {R : Type} (n26 : Int) (K0 : Int → Option R) : Option R := shut (@math_bits_TrailingZeros64_B R) n26 K0
theorem math_bits_TrailingZeros64_unf {R : Type} (n26 : Int) (K0 : Int → Option R) : math_bits_TrailingZeros64 n26 K0 = math_bits_TrailingZeros64_B n26 K0 := by unfold math_bits_TrailingZeros64; rw [shut_eq]

noncomputable def word_Select_j4_B {R : Type} (n20 : Int) (n21 : Int) (K0 : Int → Option R) : Option R :=
 word_Select_l5 (n20) (n21) (0)
  (fun (n25 : Int) => math_bits_TrailingZeros64 (n25)
   (fun (n27 : Int) => K0 (n27)))
noncomputable def word_Select_j4 {R : Type} (n20 : Int) (n21 : Int) (K0 : Int → Option R) : Option R := shut (@word_Select_j4_B R) n20 n21 K0
theorem word_Select_j4_unf {R : Type} (n20 : Int) (n21 : Int) (K0 : Int → Option R) : word_Select_j4 n20 n21 K0 = word_Select_j4_B n20 n21 K0 := by unfold word_Select_j4; rw [shut_eq]

noncomputable def word_Select_B {R : Type} (n17 : Int) (n18 : Int) (K0 : Int → Option R) : Option R :=
 sel (decide (n18 < 0))
  (K0 (64))
  (word_Pop (n17)
   (fun (n19 : Int) => sel (decide (n19 ≤ n18))
    (K0 (64))
    (word_Select_j4 (n17) (n18)
     (fun (n28 : Int) => K0 (n28)))))
noncomputable def word_Select {R : Type} (n17 : Int) (n18 : Int) (K0 : Int → Option R) : Option R := shut (@word_Select_B R) n17 n18 K0
theorem word_Select_unf {R : Type} (n17 : Int) (n18 : Int) (K0 : Int → Option R) : word_Select n17 n18 K0 = word_Select_B n17 n18 K0 := by unfold word_Select; rw [shut_eq]

noncomputable def math_bits_Len64_j11_B {R : Type} (n37 : Int) (n38 : Int) (K0 : Int → Option R) : Option R :=
 sel (decide (0 ≤ cvtW .u8 n37))
  (sel (decide (cvtW .u8 n37 < (↑(ByteArray.size (txt__14a5d8)) : Int)))
   (letV ((↑(UInt8.toNat (List.getD (Array.toList (ByteArray.data (txt__14a5d8))) (Int.toNat (cvtW .u8 n37)) 0)) : Int)) (fun (n39 : Int) =>
   K0 (addW .i64 n38 (cvtW .i64 n39))))
   (none))
  (none)
noncomputable def math_bits_Len64_j11 {R : Type} (n37 : Int) (n38 : Int) (K0 : Int → Option R) : Option R := shut (@math_bits_Len64_j11_B R) n37 n38 K0
theorem math_bits_Len64_j11_unf {R : Type} (n37 : Int) (n38 : Int) (K0 : Int → Option R) : math_bits_Len64_j11 n37 n38 K0 = math_bits_Len64_j11_B n37 n38 K0 := by unfold math_bits_Len64_j11; rw [shut_eq]

noncomputable def math_bits_Len64_j8_B {R : Type} (n35 : Int) (n36 : Int) (K0 : Int → Option R) : Option R :=
 sel (decide (256 ≤ n35))
  (math_bits_Len64_j11 (shrW .u64 n35 8) (addW .i64 n36 8)
   (fun (n40 : Int) => K0 (n40)))
  (math_bits_Len64_j11 (n35) (n36)
   (fun (n41 : Int) => K0 (n41)))
noncomputable def math_bits_Len64_j8 {R : Type} (n35 : Int) (n36 : Int) (K0 : Int → Option R) : Option R := shut (@math_bits_Len64_j8_B R) n35 n36 K0
theorem math_bits_Len64_j8_unf {R : Type} (n35 : Int) (n36 : Int) (K0 : Int → Option R) : math_bits_Len64_j8 n35 n36 K0 = math_bits_Len64_j8_B n35 n36 K0 := by unfold math_bits_Len64_j8; rw [shut_eq]

noncomputable def math_bits_Len64_j5_B {R : Type} (n33 : Int) (n34 : Int) (K0 : Int → Option R) : Option R :=
 sel (decide (65536 ≤ n33))
  (math_bits_Len64_j8 (shrW .u64 n33 16) (addW .i64 n34 16)
   (fun (n42 : Int) => K0 (n42)))
  (math_bits_Len64_j8 (n33) (n34)
   (fun (n43 : Int) => K0 (n43)))
noncomputable def math_bits_Len64_j5 {R : Type} (n33 : Int) (n34 : Int) (K0 : Int → Option R) : Option R := shut (@math_bits_Len64_j5_B R) n33 n34 K0
theorem math_bits_Len64_j5_unf {R : Type} (n33 : Int) (n34 : Int) (K0 : Int → Option R) : math_bits_Len64_j5 n33 n34 K0 = math_bits_Len64_j5_B n33 n34 K0 := by unfold math_bits_Len64_j5; rw [shut_eq]

noncomputable def math_bits_Len64_B {R : Type} (n32 : Int) (K0 : Int → Option R) : Option R :=
 sel (decide (4294967296 ≤ n32))
  (math_bits_Len64_j5 (shrW .u64 n32 32) (32)
   (fun (n44 : Int) => K0 (n44)))
  (math_bits_Len64_j5 (n32) (0)
   (fun (n45 : Int) => K0 (n45)))
noncomputable def math_bits_Len64 {R : Type} (n32 : Int) (K0 : Int → Option R) : Option R := shut (@math_bits_Len64_B R) n32 K0
theorem math_bits_Len64_unf {R : Type} (n32 : Int) (K0 : Int → Option R) : math_bits_Len64 n32 K0 = math_bits_Len64_B n32 K0 := by unfold math_bits_Len64; rw [shut_eq]

noncomputable def word_Len_B {R : Type} (n31 : Int) (K0 : Int → Option R) : Option R :=
 math_bits_Len64 (n31)
  (fun (n46 : Int) => K0 (n46))
noncomputable def word_Len {R : Type} (n31 : Int) (K0 : Int → Option R) : Option R := shut (@word_Len_B R) n31 K0
theorem word_Len_unf {R : Type} (n31 : Int) (K0 : Int → Option R) : word_Len n31 K0 = word_Len_B n31 K0 := by unfold word_Len; rw [shut_eq]

noncomputable def haystacklaw01_heads_B {R : Type} (K0 : Bool → Option R) : Option R :=
 word_Mask (3)
  (fun (n3 : Int) => sel (decide (n3 = 7))
   (word_Mask (64)
    (fun (n4 : Int) => sel (decide (n4 = 18446744073709551615))
     (word_Pop (8070450532247928832)
      (fun (n11 : Int) => sel (decide (n11 = 3))
       (word_Rank (22) (3)
        (fun (n16 : Int) => sel (decide (n16 = 2))
         (word_Select (22) (2)
          (fun (n29 : Int) => sel (decide (n29 = 4))
           (word_Select (1) (1)
            (fun (n30 : Int) => sel (decide (n30 = 64))
             (word_Len (8)
              (fun (n47 : Int) => sel (decide (n47 = 4))
               (word_Len (0)
                (fun (n48 : Int) => K0 (decide (n48 = 0))))
               (K0 (false))))
             (K0 (false))))
           (K0 (false))))
         (K0 (false))))
       (K0 (false))))
     (K0 (false))))
   (K0 (false)))
noncomputable def haystacklaw01_heads {R : Type} (K0 : Bool → Option R) : Option R := shut (@haystacklaw01_heads_B R) K0
theorem haystacklaw01_heads_unf {R : Type} (K0 : Bool → Option R) : haystacklaw01_heads K0 = haystacklaw01_heads_B K0 := by unfold haystacklaw01_heads; rw [shut_eq]

noncomputable def haystacklaw01_WordRises_j4_B {R : Type} (n51 : Int) (n52 : Int) (K0 : Bool → Option R) : Option R :=
 word_Select (n51) (n52)
  (fun (n53 : Int) => word_Select (n51) (addW .i64 n52 1)
   (fun (n54 : Int) => sel (decide (n53 = 64))
    (sel (decide (n54 = 64))
     (haystacklaw01_heads 
      (fun (b55 : Bool) => K0 (b55)))
     (K0 (false)))
    (sel (decide (n53 < n54))
     (word_Rank (n51) (n54)
      (fun (n56 : Int) => word_Rank (n51) (n53)
       (fun (n57 : Int) => sel (decide (subW .i64 n56 n57 = 1))
        (haystacklaw01_heads 
         (fun (b58 : Bool) => K0 (b58)))
        (K0 (false)))))
     (K0 (false)))))
noncomputable def haystacklaw01_WordRises_j4 {R : Type} (n51 : Int) (n52 : Int) (K0 : Bool → Option R) : Option R := shut (@haystacklaw01_WordRises_j4_B R) n51 n52 K0
theorem haystacklaw01_WordRises_j4_unf {R : Type} (n51 : Int) (n52 : Int) (K0 : Bool → Option R) : haystacklaw01_WordRises_j4 n51 n52 K0 = haystacklaw01_WordRises_j4_B n51 n52 K0 := by unfold haystacklaw01_WordRises_j4; rw [shut_eq]

noncomputable def haystacklaw01_WordRises_B {R : Type} (n0 : Int) (n1 : Int) (K0 : Bool → Option R) : Option R :=
 sel (decide (n1 < 0))
  (haystacklaw01_heads 
   (fun (b49 : Bool) => K0 (b49)))
  (sel (decide (100 < n1))
   (haystacklaw01_heads 
    (fun (b50 : Bool) => K0 (b50)))
   (haystacklaw01_WordRises_j4 (n0) (n1)
    (fun (b59 : Bool) => K0 (b59))))
noncomputable def haystacklaw01_WordRises {R : Type} (n0 : Int) (n1 : Int) (K0 : Bool → Option R) : Option R := shut (@haystacklaw01_WordRises_B R) n0 n1 K0
theorem haystacklaw01_WordRises_unf {R : Type} (n0 : Int) (n1 : Int) (K0 : Bool → Option R) : haystacklaw01_WordRises n0 n1 K0 = haystacklaw01_WordRises_B n0 n1 K0 := by unfold haystacklaw01_WordRises; rw [shut_eq]

noncomputable def haystacklaw01_WordMasks_j3_B {R : Type} (n61 : Int) (b62 : Bool) (K0 : Bool → Option R) (K1 : Int → Option R) : Option R :=
 sel (b62)
  (word_Mask (-1)
   (fun (n63 : Int) => sel (decide (n63 = 0))
    (word_Mask (99)
     (fun (n64 : Int) => sel (decide (n64 = 18446744073709551615))
      (haystacklaw01_heads 
       (fun (b65 : Bool) => K0 (b65)))
      (K0 (false))))
    (K0 (false))))
  (K1 (n61))
noncomputable def haystacklaw01_WordMasks_j3 {R : Type} (n61 : Int) (b62 : Bool) (K0 : Bool → Option R) (K1 : Int → Option R) : Option R := shut (@haystacklaw01_WordMasks_j3_B R) n61 b62 K0 K1
theorem haystacklaw01_WordMasks_j3_unf {R : Type} (n61 : Int) (b62 : Bool) (K0 : Bool → Option R) (K1 : Int → Option R) : haystacklaw01_WordMasks_j3 n61 b62 K0 K1 = haystacklaw01_WordMasks_j3_B n61 b62 K0 K1 := by unfold haystacklaw01_WordMasks_j3; rw [shut_eq]

noncomputable def haystacklaw01_WordMasks_j4_B {R : Type} (n68 : Int) (K0 : Bool → Option R) : Option R :=
 word_Mask (addW .i64 n68 1)
  (fun (n69 : Int) => word_Mask (n68)
   (fun (n70 : Int) => sel (decide (n69 = orW .u64 (shlW .u64 n70 1) 1))
    (word_Mask (n68)
     (fun (n71 : Int) => word_Pop (n71)
      (fun (n72 : Int) => sel (decide (n72 = n68))
       (word_Mask (n68)
        (fun (n73 : Int) => word_Len (n73)
         (fun (n74 : Int) => sel (decide (n74 = n68))
          (haystacklaw01_heads 
           (fun (b75 : Bool) => K0 (b75)))
          (K0 (false)))))
       (K0 (false)))))
    (K0 (false))))
noncomputable def haystacklaw01_WordMasks_j4 {R : Type} (n68 : Int) (K0 : Bool → Option R) : Option R := shut (@haystacklaw01_WordMasks_j4_B R) n68 K0
theorem haystacklaw01_WordMasks_j4_unf {R : Type} (n68 : Int) (K0 : Bool → Option R) : haystacklaw01_WordMasks_j4 n68 K0 = haystacklaw01_WordMasks_j4_B n68 K0 := by unfold haystacklaw01_WordMasks_j4; rw [shut_eq]

noncomputable def haystacklaw01_WordMasks_B {R : Type} (n60 : Int) (K0 : Bool → Option R) : Option R :=
 sel (decide (n60 < 0))
  (haystacklaw01_WordMasks_j3 (n60) (true)
   (fun (b66 : Bool) => K0 (b66))
   (fun (n67 : Int) => haystacklaw01_WordMasks_j4 (n67)
    (fun (b76 : Bool) => K0 (b76))))
  (haystacklaw01_WordMasks_j3 (n60) (decide (63 < n60))
   (fun (b77 : Bool) => K0 (b77))
   (fun (n78 : Int) => haystacklaw01_WordMasks_j4 (n78)
    (fun (b79 : Bool) => K0 (b79))))
noncomputable def haystacklaw01_WordMasks {R : Type} (n60 : Int) (K0 : Bool → Option R) : Option R := shut (@haystacklaw01_WordMasks_B R) n60 K0
theorem haystacklaw01_WordMasks_unf {R : Type} (n60 : Int) (K0 : Bool → Option R) : haystacklaw01_WordMasks n60 K0 = haystacklaw01_WordMasks_B n60 K0 := by unfold haystacklaw01_WordMasks; rw [shut_eq]

noncomputable def haystackref01_Mask_j6_B {R : Type} (n88 : Int) (n89 : Int) (n90 : Int) (K0 : Int → Int → Int → Option R) : Option R :=
 sel (decide (0 ≤ cvtW .u64 n90))
  (K0 (n88) (orW .u64 n89 (shlW .u64 1 (cvtW .u64 n90))) (addW .i64 n90 1))
  (none)
noncomputable def haystackref01_Mask_j6 {R : Type} (n88 : Int) (n89 : Int) (n90 : Int) (K0 : Int → Int → Int → Option R) : Option R := shut (@haystackref01_Mask_j6_B R) n88 n89 n90 K0
theorem haystackref01_Mask_j6_unf {R : Type} (n88 : Int) (n89 : Int) (n90 : Int) (K0 : Int → Int → Int → Option R) : haystackref01_Mask_j6 n88 n89 n90 K0 = haystackref01_Mask_j6_B n88 n89 n90 K0 := by unfold haystackref01_Mask_j6; rw [shut_eq]

noncomputable def haystackref01_Mask_l4_T {R : Type} (rec : Int → Int → Int → Option R) (n85 : Int) (n86 : Int) (n87 : Int) (K0 : Int → Option R) : Option R :=
 sel (decide (n87 < 64))
  (sel (decide (n87 < n85))
   (haystackref01_Mask_j6 (n85) (n86) (n87)
    (fun (n91 : Int) (n92 : Int) (n93 : Int) => rec (n91) (n92) (n93)))
   (K0 (n86)))
  (K0 (n86))
noncomputable def haystackref01_Mask_l4_L {R : Type} (K0 : Int → Option R) : Nat → Int → Int → Int → Option R
  | 0, _, _, _ => none
  | N + 1, n85, n86, n87 => haystackref01_Mask_l4_T (haystackref01_Mask_l4_L K0 N) n85 n86 n87 K0
noncomputable def haystackref01_Mask_l4_B {R : Type} (n85 : Int) (n86 : Int) (n87 : Int) (K0 : Int → Option R) : Option R :=
 haystackref01_Mask_l4_L K0 NR n85 n86 n87
noncomputable def haystackref01_Mask_l4 {R : Type} (n85 : Int) (n86 : Int) (n87 : Int) (K0 : Int → Option R) : Option R := shut (@haystackref01_Mask_l4_B R) n85 n86 n87 K0
theorem haystackref01_Mask_l4_unf {R : Type} (n85 : Int) (n86 : Int) (n87 : Int) (K0 : Int → Option R) : haystackref01_Mask_l4 n85 n86 n87 K0 = haystackref01_Mask_l4_B n85 n86 n87 K0 := by unfold haystackref01_Mask_l4; rw [shut_eq]

noncomputable def haystackref01_Mask_B {R : Type} (n84 : Int) (K0 : Int → Option R) : Option R :=
 haystackref01_Mask_l4 (n84) (0) (0)
  (fun (n94 : Int) => K0 (n94))
noncomputable def haystackref01_Mask {R : Type} (n84 : Int) (K0 : Int → Option R) : Option R := shut (@haystackref01_Mask_B R) n84 K0
theorem haystackref01_Mask_unf {R : Type} (n84 : Int) (K0 : Int → Option R) : haystackref01_Mask n84 K0 = haystackref01_Mask_B n84 K0 := by unfold haystackref01_Mask; rw [shut_eq]

noncomputable def haystackref01_Rank_j6_B {R : Type} (n104 : Int) (n105 : Int) (n106 : Int) (n107 : Int) (K0 : Int → Int → Int → Int → Option R) : Option R :=
 sel (decide (0 ≤ cvtW .u64 n107))
  (sel (decide (remW (shrW .u64 n104 (cvtW .u64 n107)) 2 = 1))
   (K0 (n104) (n105) (addW .i64 n106 1) (addW .i64 n107 1))
   (K0 (n104) (n105) (n106) (addW .i64 n107 1)))
  (none)
noncomputable def haystackref01_Rank_j6 {R : Type} (n104 : Int) (n105 : Int) (n106 : Int) (n107 : Int) (K0 : Int → Int → Int → Int → Option R) : Option R := shut (@haystackref01_Rank_j6_B R) n104 n105 n106 n107 K0
theorem haystackref01_Rank_j6_unf {R : Type} (n104 : Int) (n105 : Int) (n106 : Int) (n107 : Int) (K0 : Int → Int → Int → Int → Option R) : haystackref01_Rank_j6 n104 n105 n106 n107 K0 = haystackref01_Rank_j6_B n104 n105 n106 n107 K0 := by unfold haystackref01_Rank_j6; rw [shut_eq]

noncomputable def haystackref01_Rank_l4_T {R : Type} (rec : Int → Int → Int → Int → Option R) (n100 : Int) (n101 : Int) (n102 : Int) (n103 : Int) (K0 : Int → Option R) : Option R :=
 sel (decide (n103 < 64))
  (sel (decide (n103 < n101))
   (haystackref01_Rank_j6 (n100) (n101) (n102) (n103)
    (fun (n108 : Int) (n109 : Int) (n110 : Int) (n111 : Int) => rec (n108) (n109) (n110) (n111)))
   (K0 (n102)))
  (K0 (n102))
noncomputable def haystackref01_Rank_l4_L {R : Type} (K0 : Int → Option R) : Nat → Int → Int → Int → Int → Option R
  | 0, _, _, _, _ => none
  | N + 1, n100, n101, n102, n103 => haystackref01_Rank_l4_T (haystackref01_Rank_l4_L K0 N) n100 n101 n102 n103 K0
noncomputable def haystackref01_Rank_l4_B {R : Type} (n100 : Int) (n101 : Int) (n102 : Int) (n103 : Int) (K0 : Int → Option R) : Option R :=
 haystackref01_Rank_l4_L K0 NR n100 n101 n102 n103
noncomputable def haystackref01_Rank_l4 {R : Type} (n100 : Int) (n101 : Int) (n102 : Int) (n103 : Int) (K0 : Int → Option R) : Option R := shut (@haystackref01_Rank_l4_B R) n100 n101 n102 n103 K0
theorem haystackref01_Rank_l4_unf {R : Type} (n100 : Int) (n101 : Int) (n102 : Int) (n103 : Int) (K0 : Int → Option R) : haystackref01_Rank_l4 n100 n101 n102 n103 K0 = haystackref01_Rank_l4_B n100 n101 n102 n103 K0 := by unfold haystackref01_Rank_l4; rw [shut_eq]

noncomputable def haystackref01_Rank_B {R : Type} (n98 : Int) (n99 : Int) (K0 : Int → Option R) : Option R :=
 haystackref01_Rank_l4 (n98) (n99) (0) (0)
  (fun (n112 : Int) => K0 (n112))
noncomputable def haystackref01_Rank {R : Type} (n98 : Int) (n99 : Int) (K0 : Int → Option R) : Option R := shut (@haystackref01_Rank_B R) n98 n99 K0
theorem haystackref01_Rank_unf {R : Type} (n98 : Int) (n99 : Int) (K0 : Int → Option R) : haystackref01_Rank n98 n99 K0 = haystackref01_Rank_B n98 n99 K0 := by unfold haystackref01_Rank; rw [shut_eq]

noncomputable def haystackref01_Pop_B {R : Type} (n97 : Int) (K0 : Int → Option R) : Option R :=
 haystackref01_Rank (n97) (64)
  (fun (n113 : Int) => K0 (n113))
noncomputable def haystackref01_Pop {R : Type} (n97 : Int) (K0 : Int → Option R) : Option R := shut (@haystackref01_Pop_B R) n97 K0
theorem haystackref01_Pop_unf {R : Type} (n97 : Int) (K0 : Int → Option R) : haystackref01_Pop n97 K0 = haystackref01_Pop_B n97 K0 := by unfold haystackref01_Pop; rw [shut_eq]

noncomputable def haystackref01_Select_l4_T {R : Type} (rec : Int → Int → Int → Int → Option R) (n120 : Int) (n121 : Int) (n122 : Int) (n123 : Int) (K0 : Int → Option R) (K1 : Unit → Option R) : Option R :=
 sel (decide (n123 < 64))
  (sel (decide (0 ≤ cvtW .u64 n123))
   (sel (decide (remW (shrW .u64 n120 (cvtW .u64 n123)) 2 = 1))
    (sel (decide (n122 = n121))
     (K0 (n123))
     (rec (n120) (n121) (addW .i64 n122 1) (addW .i64 n123 1)))
    (rec (n120) (n121) (n122) (addW .i64 n123 1)))
   (none))
  (K1 ())
noncomputable def haystackref01_Select_l4_L {R : Type} (K0 : Int → Option R) (K1 : Unit → Option R) : Nat → Int → Int → Int → Int → Option R
  | 0, _, _, _, _ => none
  | N + 1, n120, n121, n122, n123 => haystackref01_Select_l4_T (haystackref01_Select_l4_L K0 K1 N) n120 n121 n122 n123 K0 K1
noncomputable def haystackref01_Select_l4_B {R : Type} (n120 : Int) (n121 : Int) (n122 : Int) (n123 : Int) (K0 : Int → Option R) (K1 : Unit → Option R) : Option R :=
 haystackref01_Select_l4_L K0 K1 NR n120 n121 n122 n123
noncomputable def haystackref01_Select_l4 {R : Type} (n120 : Int) (n121 : Int) (n122 : Int) (n123 : Int) (K0 : Int → Option R) (K1 : Unit → Option R) : Option R := shut (@haystackref01_Select_l4_B R) n120 n121 n122 n123 K0 K1
theorem haystackref01_Select_l4_unf {R : Type} (n120 : Int) (n121 : Int) (n122 : Int) (n123 : Int) (K0 : Int → Option R) (K1 : Unit → Option R) : haystackref01_Select_l4 n120 n121 n122 n123 K0 K1 = haystackref01_Select_l4_B n120 n121 n122 n123 K0 K1 := by unfold haystackref01_Select_l4; rw [shut_eq]

noncomputable def haystackref01_Select_B {R : Type} (n118 : Int) (n119 : Int) (K0 : Int → Option R) : Option R :=
 haystackref01_Select_l4 (n118) (n119) (0) (0)
  (fun (n124 : Int) => K0 (n124))
  (fun _ => K0 (64))
noncomputable def haystackref01_Select {R : Type} (n118 : Int) (n119 : Int) (K0 : Int → Option R) : Option R := shut (@haystackref01_Select_B R) n118 n119 K0
theorem haystackref01_Select_unf {R : Type} (n118 : Int) (n119 : Int) (K0 : Int → Option R) : haystackref01_Select n118 n119 K0 = haystackref01_Select_B n118 n119 K0 := by unfold haystackref01_Select; rw [shut_eq]

noncomputable def haystackref01_Len_l3_T {R : Type} (rec : Int → Int → Option R) (n128 : Int) (n129 : Int) (K0 : Int → Option R) (K1 : Unit → Option R) : Option R :=
 sel (decide (0 < n129))
  (sel (decide (0 ≤ cvtW .u64 (subW .i64 n129 1)))
   (sel (decide (remW (shrW .u64 n128 (cvtW .u64 (subW .i64 n129 1))) 2 = 1))
    (K0 (n129))
    (rec (n128) (subW .i64 n129 1)))
   (none))
  (K1 ())
noncomputable def haystackref01_Len_l3_L {R : Type} (K0 : Int → Option R) (K1 : Unit → Option R) : Nat → Int → Int → Option R
  | 0, _, _ => none
  | N + 1, n128, n129 => haystackref01_Len_l3_T (haystackref01_Len_l3_L K0 K1 N) n128 n129 K0 K1
noncomputable def haystackref01_Len_l3_B {R : Type} (n128 : Int) (n129 : Int) (K0 : Int → Option R) (K1 : Unit → Option R) : Option R :=
 haystackref01_Len_l3_L K0 K1 NR n128 n129
noncomputable def haystackref01_Len_l3 {R : Type} (n128 : Int) (n129 : Int) (K0 : Int → Option R) (K1 : Unit → Option R) : Option R := shut (@haystackref01_Len_l3_B R) n128 n129 K0 K1
theorem haystackref01_Len_l3_unf {R : Type} (n128 : Int) (n129 : Int) (K0 : Int → Option R) (K1 : Unit → Option R) : haystackref01_Len_l3 n128 n129 K0 K1 = haystackref01_Len_l3_B n128 n129 K0 K1 := by unfold haystackref01_Len_l3; rw [shut_eq]

noncomputable def haystackref01_Len_B {R : Type} (n127 : Int) (K0 : Int → Option R) : Option R :=
 haystackref01_Len_l3 (n127) (64)
  (fun (n130 : Int) => K0 (n130))
  (fun _ => K0 (0))
noncomputable def haystackref01_Len {R : Type} (n127 : Int) (K0 : Int → Option R) : Option R := shut (@haystackref01_Len_B R) n127 K0
theorem haystackref01_Len_unf {R : Type} (n127 : Int) (K0 : Int → Option R) : haystackref01_Len n127 K0 = haystackref01_Len_B n127 K0 := by unfold haystackref01_Len; rw [shut_eq]

noncomputable def haystacklaw01_WordTells_B {R : Type} (n80 : Int) (n81 : Int) (n82 : Int) (K0 : Bool → Option R) : Option R :=
 word_Mask (n81)
  (fun (n83 : Int) => haystackref01_Mask (n81)
   (fun (n95 : Int) => sel (decide (n83 = n95))
    (word_Pop (n80)
     (fun (n96 : Int) => haystackref01_Pop (n80)
      (fun (n114 : Int) => sel (decide (n96 = n114))
       (word_Rank (n80) (n81)
        (fun (n115 : Int) => haystackref01_Rank (n80) (n81)
         (fun (n116 : Int) => sel (decide (n115 = n116))
          (word_Select (n80) (n82)
           (fun (n117 : Int) => haystackref01_Select (n80) (n82)
            (fun (n125 : Int) => sel (decide (n117 = n125))
             (word_Len (n80)
              (fun (n126 : Int) => haystackref01_Len (n80)
               (fun (n131 : Int) => sel (decide (n126 = n131))
                (haystacklaw01_heads 
                 (fun (b132 : Bool) => K0 (b132)))
                (K0 (false)))))
             (K0 (false)))))
          (K0 (false)))))
       (K0 (false)))))
    (K0 (false))))
noncomputable def haystacklaw01_WordTells {R : Type} (n80 : Int) (n81 : Int) (n82 : Int) (K0 : Bool → Option R) : Option R := shut (@haystacklaw01_WordTells_B R) n80 n81 n82 K0
theorem haystacklaw01_WordTells_unf {R : Type} (n80 : Int) (n81 : Int) (n82 : Int) (K0 : Bool → Option R) : haystacklaw01_WordTells n80 n81 n82 K0 = haystacklaw01_WordTells_B n80 n81 n82 K0 := by unfold haystacklaw01_WordTells; rw [shut_eq]

noncomputable def haystacklaw01_WordBack_B {R : Type} (n133 : Int) (n134 : Int) (K0 : Bool → Option R) : Option R :=
 word_Select (n133) (n134)
  (fun (n135 : Int) => sel (decide (n135 = 64))
   (sel (decide (n134 < 0))
    (haystacklaw01_heads 
     (fun (b136 : Bool) => K0 (b136)))
    (word_Pop (n133)
     (fun (n137 : Int) => sel (decide (n137 ≤ n134))
      (haystacklaw01_heads 
       (fun (b138 : Bool) => K0 (b138)))
      (K0 (false)))))
   (sel (decide (0 ≤ n135))
    (sel (decide (n135 < 64))
     (sel (decide (0 ≤ cvtW .u64 n135))
      (sel (decide (andW .u64 (shrW .u64 n133 (cvtW .u64 n135)) 1 = 1))
       (word_Rank (n133) (n135)
        (fun (n139 : Int) => sel (decide (n139 = n134))
         (word_Rank (n133) (addW .i64 n135 1)
          (fun (n140 : Int) => sel (decide (n140 = addW .i64 n134 1))
           (haystacklaw01_heads 
            (fun (b141 : Bool) => K0 (b141)))
           (K0 (false))))
         (K0 (false))))
       (K0 (false)))
      (none))
     (K0 (false)))
    (K0 (false))))
noncomputable def haystacklaw01_WordBack {R : Type} (n133 : Int) (n134 : Int) (K0 : Bool → Option R) : Option R := shut (@haystacklaw01_WordBack_B R) n133 n134 K0
theorem haystacklaw01_WordBack_unf {R : Type} (n133 : Int) (n134 : Int) (K0 : Bool → Option R) : haystacklaw01_WordBack n133 n134 K0 = haystacklaw01_WordBack_B n133 n134 K0 := by unfold haystacklaw01_WordBack; rw [shut_eq]

noncomputable def haystacklaw01_WordParts_j4_B {R : Type} (n146 : Int) (n147 : Int) (K0 : Bool → Option R) : Option R :=
 word_Rank (n146) (n147)
  (fun (n148 : Int) => sel (decide (0 ≤ cvtW .u64 n147))
   (word_Pop (shrW .u64 n146 (cvtW .u64 n147))
    (fun (n149 : Int) => word_Pop (n146)
     (fun (n150 : Int) => sel (decide (addW .i64 n148 n149 = n150))
      (word_Mask (n147)
       (fun (n151 : Int) => word_Pop (andW .u64 n146 n151)
        (fun (n152 : Int) => word_Rank (n146) (n147)
         (fun (n153 : Int) => sel (decide (n152 = n153))
          (word_Pop (notW .u64 n146)
           (fun (n154 : Int) => word_Pop (n146)
            (fun (n155 : Int) => sel (decide (n154 = subW .i64 64 n155))
             (haystacklaw01_heads 
              (fun (b156 : Bool) => K0 (b156)))
             (K0 (false)))))
          (K0 (false))))))
      (K0 (false)))))
   (none))
noncomputable def haystacklaw01_WordParts_j4 {R : Type} (n146 : Int) (n147 : Int) (K0 : Bool → Option R) : Option R := shut (@haystacklaw01_WordParts_j4_B R) n146 n147 K0
theorem haystacklaw01_WordParts_j4_unf {R : Type} (n146 : Int) (n147 : Int) (K0 : Bool → Option R) : haystacklaw01_WordParts_j4 n146 n147 K0 = haystacklaw01_WordParts_j4_B n146 n147 K0 := by unfold haystacklaw01_WordParts_j4; rw [shut_eq]

noncomputable def haystacklaw01_WordParts_B {R : Type} (n142 : Int) (n143 : Int) (K0 : Bool → Option R) : Option R :=
 sel (decide (n143 < 0))
  (haystacklaw01_heads 
   (fun (b144 : Bool) => K0 (b144)))
  (sel (decide (63 < n143))
   (haystacklaw01_heads 
    (fun (b145 : Bool) => K0 (b145)))
   (haystacklaw01_WordParts_j4 (n142) (n143)
    (fun (b157 : Bool) => K0 (b157))))
noncomputable def haystacklaw01_WordParts {R : Type} (n142 : Int) (n143 : Int) (K0 : Bool → Option R) : Option R := shut (@haystacklaw01_WordParts_B R) n142 n143 K0
theorem haystacklaw01_WordParts_unf {R : Type} (n142 : Int) (n143 : Int) (K0 : Bool → Option R) : haystacklaw01_WordParts n142 n143 K0 = haystacklaw01_WordParts_B n142 n143 K0 := by unfold haystacklaw01_WordParts; rw [shut_eq]

noncomputable def haystacklaw01_WordLong_B {R : Type} (n158 : Int) (K0 : Bool → Option R) : Option R :=
 word_Len (n158)
  (fun (n159 : Int) => sel (decide (n158 = 0))
   (sel (decide (n159 = 0))
    (haystacklaw01_heads 
     (fun (b160 : Bool) => K0 (b160)))
    (K0 (false)))
   (sel (decide (1 ≤ n159))
    (sel (decide (n159 ≤ 64))
     (sel (decide (0 ≤ cvtW .u64 (subW .i64 n159 1)))
      (sel (decide (shrW .u64 n158 (cvtW .u64 (subW .i64 n159 1)) = 1))
       (word_Mask (n159)
        (fun (n161 : Int) => sel (decide (andNotW .u64 n158 n161 = 0))
         (haystacklaw01_heads 
          (fun (b162 : Bool) => K0 (b162)))
         (K0 (false))))
       (K0 (false)))
      (none))
     (K0 (false)))
    (K0 (false))))
noncomputable def haystacklaw01_WordLong {R : Type} (n158 : Int) (K0 : Bool → Option R) : Option R := shut (@haystacklaw01_WordLong_B R) n158 K0
theorem haystacklaw01_WordLong_unf {R : Type} (n158 : Int) (K0 : Bool → Option R) : haystacklaw01_WordLong n158 K0 = haystacklaw01_WordLong_B n158 K0 := by unfold haystacklaw01_WordLong; rw [shut_eq]

theorem word_Mask_push {R S : Type} {J : R → Option S} (n2 : Int) {K0 : Int → Option R} {Q0 : Int → Option S} (h0 : ∀ x0, (K0 x0).bind J = Q0 x0) : (word_Mask n2 K0).bind J = word_Mask n2 Q0 := by
  rw [word_Mask_unf, word_Mask_unf]
  unfold word_Mask_B
  repeat' first | intro _ | with_reducible exact h0 _ | with_reducible apply sel_push | with_reducible apply letV_push | with_reducible exact none_bind' _

theorem math_bits_OnesCount64_push {R S : Type} {J : R → Option S} (n6 : Int) {K0 : Int → Option R} {Q0 : Int → Option S} (h0 : ∀ x0, (K0 x0).bind J = Q0 x0) : (math_bits_OnesCount64 n6 K0).bind J = math_bits_OnesCount64 n6 Q0 := by
  rw [math_bits_OnesCount64_unf, math_bits_OnesCount64_unf]
  unfold math_bits_OnesCount64_B
  repeat' first | intro _ | with_reducible exact h0 _ | with_reducible apply sel_push | with_reducible apply letV_push | with_reducible exact none_bind' _

theorem word_Pop_push {R S : Type} {J : R → Option S} (n5 : Int) {K0 : Int → Option R} {Q0 : Int → Option S} (h0 : ∀ x0, (K0 x0).bind J = Q0 x0) : (word_Pop n5 K0).bind J = word_Pop n5 Q0 := by
  rw [word_Pop_unf, word_Pop_unf]
  unfold word_Pop_B
  repeat' first | intro _ | with_reducible exact h0 _ | with_reducible apply sel_push | with_reducible apply letV_push | with_reducible apply math_bits_OnesCount64_push | with_reducible exact none_bind' _

theorem word_Rank_push {R S : Type} {J : R → Option S} (n12 : Int) (n13 : Int) {K0 : Int → Option R} {Q0 : Int → Option S} (h0 : ∀ x0, (K0 x0).bind J = Q0 x0) : (word_Rank n12 n13 K0).bind J = word_Rank n12 n13 Q0 := by
  rw [word_Rank_unf, word_Rank_unf]
  unfold word_Rank_B
  repeat' first | intro _ | with_reducible exact h0 _ | with_reducible apply sel_push | with_reducible apply letV_push | with_reducible apply word_Mask_push | with_reducible apply word_Pop_push | with_reducible exact none_bind' _

theorem word_Select_l5_T_push {R S : Type} {J : R → Option S} {r : Int → Int → Int → Option R} {r' : Int → Int → Int → Option S} (hr : ∀ x0 x1 x2, (r x0 x1 x2).bind J = r' x0 x1 x2) (n22 : Int) (n23 : Int) (n24 : Int) {K0 : Int → Option R} {Q0 : Int → Option S} (h0 : ∀ x0, (K0 x0).bind J = Q0 x0) : (word_Select_l5_T r n22 n23 n24 K0).bind J = word_Select_l5_T r' n22 n23 n24 Q0 := by
  unfold word_Select_l5_T
  repeat' first | intro _ | with_reducible exact h0 _ | with_reducible apply sel_push | with_reducible apply letV_push | with_reducible exact none_bind' _ | with_reducible exact hr _ _ _

theorem word_Select_l5_L_push {R S : Type} {J : R → Option S} {K0 : Int → Option R} {Q0 : Int → Option S} (h0 : ∀ x0, (K0 x0).bind J = Q0 x0) : ∀ (N : Nat) (n22 : Int) (n23 : Int) (n24 : Int), (word_Select_l5_L K0 N n22 n23 n24).bind J = word_Select_l5_L Q0 N n22 n23 n24
  | 0, _, _, _ => rfl
  | N + 1, n22, n23, n24 => word_Select_l5_T_push (word_Select_l5_L_push h0 N) n22 n23 n24 h0

theorem word_Select_l5_push {R S : Type} {J : R → Option S} (n22 : Int) (n23 : Int) (n24 : Int) {K0 : Int → Option R} {Q0 : Int → Option S} (h0 : ∀ x0, (K0 x0).bind J = Q0 x0) : (word_Select_l5 n22 n23 n24 K0).bind J = word_Select_l5 n22 n23 n24 Q0 := by
  rw [word_Select_l5_unf, word_Select_l5_unf]
  unfold word_Select_l5_B
  exact word_Select_l5_L_push h0 NR n22 n23 n24

theorem math_bits_TrailingZeros64_push {R S : Type} {J : R → Option S} (n26 : Int) {K0 : Int → Option R} {Q0 : Int → Option S} (h0 : ∀ x0, (K0 x0).bind J = Q0 x0) : (math_bits_TrailingZeros64 n26 K0).bind J = math_bits_TrailingZeros64 n26 Q0 := by
  rw [math_bits_TrailingZeros64_unf, math_bits_TrailingZeros64_unf]
  unfold math_bits_TrailingZeros64_B
  repeat' first | intro _ | with_reducible exact h0 _ | with_reducible apply sel_push | with_reducible apply letV_push | with_reducible exact none_bind' _

theorem word_Select_j4_push {R S : Type} {J : R → Option S} (n20 : Int) (n21 : Int) {K0 : Int → Option R} {Q0 : Int → Option S} (h0 : ∀ x0, (K0 x0).bind J = Q0 x0) : (word_Select_j4 n20 n21 K0).bind J = word_Select_j4 n20 n21 Q0 := by
  rw [word_Select_j4_unf, word_Select_j4_unf]
  unfold word_Select_j4_B
  repeat' first | intro _ | with_reducible exact h0 _ | with_reducible apply sel_push | with_reducible apply letV_push | with_reducible apply word_Select_l5_push | with_reducible apply math_bits_TrailingZeros64_push | with_reducible exact none_bind' _

theorem word_Select_push {R S : Type} {J : R → Option S} (n17 : Int) (n18 : Int) {K0 : Int → Option R} {Q0 : Int → Option S} (h0 : ∀ x0, (K0 x0).bind J = Q0 x0) : (word_Select n17 n18 K0).bind J = word_Select n17 n18 Q0 := by
  rw [word_Select_unf, word_Select_unf]
  unfold word_Select_B
  repeat' first | intro _ | with_reducible exact h0 _ | with_reducible apply sel_push | with_reducible apply letV_push | with_reducible apply word_Pop_push | with_reducible apply word_Select_j4_push | with_reducible exact none_bind' _

theorem math_bits_Len64_j11_push {R S : Type} {J : R → Option S} (n37 : Int) (n38 : Int) {K0 : Int → Option R} {Q0 : Int → Option S} (h0 : ∀ x0, (K0 x0).bind J = Q0 x0) : (math_bits_Len64_j11 n37 n38 K0).bind J = math_bits_Len64_j11 n37 n38 Q0 := by
  rw [math_bits_Len64_j11_unf, math_bits_Len64_j11_unf]
  unfold math_bits_Len64_j11_B
  repeat' first | intro _ | with_reducible exact h0 _ | with_reducible apply sel_push | with_reducible apply letV_push | with_reducible exact none_bind' _

theorem math_bits_Len64_j8_push {R S : Type} {J : R → Option S} (n35 : Int) (n36 : Int) {K0 : Int → Option R} {Q0 : Int → Option S} (h0 : ∀ x0, (K0 x0).bind J = Q0 x0) : (math_bits_Len64_j8 n35 n36 K0).bind J = math_bits_Len64_j8 n35 n36 Q0 := by
  rw [math_bits_Len64_j8_unf, math_bits_Len64_j8_unf]
  unfold math_bits_Len64_j8_B
  repeat' first | intro _ | with_reducible exact h0 _ | with_reducible apply sel_push | with_reducible apply letV_push | with_reducible apply math_bits_Len64_j11_push | with_reducible exact none_bind' _

theorem math_bits_Len64_j5_push {R S : Type} {J : R → Option S} (n33 : Int) (n34 : Int) {K0 : Int → Option R} {Q0 : Int → Option S} (h0 : ∀ x0, (K0 x0).bind J = Q0 x0) : (math_bits_Len64_j5 n33 n34 K0).bind J = math_bits_Len64_j5 n33 n34 Q0 := by
  rw [math_bits_Len64_j5_unf, math_bits_Len64_j5_unf]
  unfold math_bits_Len64_j5_B
  repeat' first | intro _ | with_reducible exact h0 _ | with_reducible apply sel_push | with_reducible apply letV_push | with_reducible apply math_bits_Len64_j8_push | with_reducible exact none_bind' _

theorem math_bits_Len64_push {R S : Type} {J : R → Option S} (n32 : Int) {K0 : Int → Option R} {Q0 : Int → Option S} (h0 : ∀ x0, (K0 x0).bind J = Q0 x0) : (math_bits_Len64 n32 K0).bind J = math_bits_Len64 n32 Q0 := by
  rw [math_bits_Len64_unf, math_bits_Len64_unf]
  unfold math_bits_Len64_B
  repeat' first | intro _ | with_reducible exact h0 _ | with_reducible apply sel_push | with_reducible apply letV_push | with_reducible apply math_bits_Len64_j5_push | with_reducible exact none_bind' _

theorem word_Len_push {R S : Type} {J : R → Option S} (n31 : Int) {K0 : Int → Option R} {Q0 : Int → Option S} (h0 : ∀ x0, (K0 x0).bind J = Q0 x0) : (word_Len n31 K0).bind J = word_Len n31 Q0 := by
  rw [word_Len_unf, word_Len_unf]
  unfold word_Len_B
  repeat' first | intro _ | with_reducible exact h0 _ | with_reducible apply sel_push | with_reducible apply letV_push | with_reducible apply math_bits_Len64_push | with_reducible exact none_bind' _

theorem haystacklaw01_heads_push {R S : Type} {J : R → Option S} {K0 : Bool → Option R} {Q0 : Bool → Option S} (h0 : ∀ x0, (K0 x0).bind J = Q0 x0) : (haystacklaw01_heads K0).bind J = haystacklaw01_heads Q0 := by
  rw [haystacklaw01_heads_unf, haystacklaw01_heads_unf]
  unfold haystacklaw01_heads_B
  repeat' first | intro _ | with_reducible exact h0 _ | with_reducible apply sel_push | with_reducible apply letV_push | with_reducible apply word_Mask_push | with_reducible apply word_Pop_push | with_reducible apply word_Rank_push | with_reducible apply word_Select_push | with_reducible apply word_Len_push | with_reducible exact none_bind' _

theorem haystacklaw01_WordRises_j4_push {R S : Type} {J : R → Option S} (n51 : Int) (n52 : Int) {K0 : Bool → Option R} {Q0 : Bool → Option S} (h0 : ∀ x0, (K0 x0).bind J = Q0 x0) : (haystacklaw01_WordRises_j4 n51 n52 K0).bind J = haystacklaw01_WordRises_j4 n51 n52 Q0 := by
  rw [haystacklaw01_WordRises_j4_unf, haystacklaw01_WordRises_j4_unf]
  unfold haystacklaw01_WordRises_j4_B
  repeat' first | intro _ | with_reducible exact h0 _ | with_reducible apply sel_push | with_reducible apply letV_push | with_reducible apply word_Select_push | with_reducible apply haystacklaw01_heads_push | with_reducible apply word_Rank_push | with_reducible exact none_bind' _

theorem haystacklaw01_WordRises_push {R S : Type} {J : R → Option S} (n0 : Int) (n1 : Int) {K0 : Bool → Option R} {Q0 : Bool → Option S} (h0 : ∀ x0, (K0 x0).bind J = Q0 x0) : (haystacklaw01_WordRises n0 n1 K0).bind J = haystacklaw01_WordRises n0 n1 Q0 := by
  rw [haystacklaw01_WordRises_unf, haystacklaw01_WordRises_unf]
  unfold haystacklaw01_WordRises_B
  repeat' first | intro _ | with_reducible exact h0 _ | with_reducible apply sel_push | with_reducible apply letV_push | with_reducible apply haystacklaw01_heads_push | with_reducible apply haystacklaw01_WordRises_j4_push | with_reducible exact none_bind' _

theorem haystacklaw01_WordMasks_j3_push {R S : Type} {J : R → Option S} (n61 : Int) (b62 : Bool) {K0 : Bool → Option R} {Q0 : Bool → Option S} (h0 : ∀ x0, (K0 x0).bind J = Q0 x0) {K1 : Int → Option R} {Q1 : Int → Option S} (h1 : ∀ x0, (K1 x0).bind J = Q1 x0) : (haystacklaw01_WordMasks_j3 n61 b62 K0 K1).bind J = haystacklaw01_WordMasks_j3 n61 b62 Q0 Q1 := by
  rw [haystacklaw01_WordMasks_j3_unf, haystacklaw01_WordMasks_j3_unf]
  unfold haystacklaw01_WordMasks_j3_B
  repeat' first | intro _ | with_reducible exact h0 _ | with_reducible exact h1 _ | with_reducible apply sel_push | with_reducible apply letV_push | with_reducible apply word_Mask_push | with_reducible apply haystacklaw01_heads_push | with_reducible exact none_bind' _

theorem haystacklaw01_WordMasks_j4_push {R S : Type} {J : R → Option S} (n68 : Int) {K0 : Bool → Option R} {Q0 : Bool → Option S} (h0 : ∀ x0, (K0 x0).bind J = Q0 x0) : (haystacklaw01_WordMasks_j4 n68 K0).bind J = haystacklaw01_WordMasks_j4 n68 Q0 := by
  rw [haystacklaw01_WordMasks_j4_unf, haystacklaw01_WordMasks_j4_unf]
  unfold haystacklaw01_WordMasks_j4_B
  repeat' first | intro _ | with_reducible exact h0 _ | with_reducible apply sel_push | with_reducible apply letV_push | with_reducible apply word_Mask_push | with_reducible apply word_Pop_push | with_reducible apply word_Len_push | with_reducible apply haystacklaw01_heads_push | with_reducible exact none_bind' _

theorem haystacklaw01_WordMasks_push {R S : Type} {J : R → Option S} (n60 : Int) {K0 : Bool → Option R} {Q0 : Bool → Option S} (h0 : ∀ x0, (K0 x0).bind J = Q0 x0) : (haystacklaw01_WordMasks n60 K0).bind J = haystacklaw01_WordMasks n60 Q0 := by
  rw [haystacklaw01_WordMasks_unf, haystacklaw01_WordMasks_unf]
  unfold haystacklaw01_WordMasks_B
  repeat' first | intro _ | with_reducible exact h0 _ | with_reducible apply sel_push | with_reducible apply letV_push | with_reducible apply haystacklaw01_WordMasks_j3_push | with_reducible apply haystacklaw01_WordMasks_j4_push | with_reducible exact none_bind' _

theorem haystackref01_Mask_j6_push {R S : Type} {J : R → Option S} (n88 : Int) (n89 : Int) (n90 : Int) {K0 : Int → Int → Int → Option R} {Q0 : Int → Int → Int → Option S} (h0 : ∀ x0 x1 x2, (K0 x0 x1 x2).bind J = Q0 x0 x1 x2) : (haystackref01_Mask_j6 n88 n89 n90 K0).bind J = haystackref01_Mask_j6 n88 n89 n90 Q0 := by
  rw [haystackref01_Mask_j6_unf, haystackref01_Mask_j6_unf]
  unfold haystackref01_Mask_j6_B
  repeat' first | intro _ | with_reducible exact h0 _ _ _ | with_reducible apply sel_push | with_reducible apply letV_push | with_reducible exact none_bind' _

theorem haystackref01_Mask_l4_T_push {R S : Type} {J : R → Option S} {r : Int → Int → Int → Option R} {r' : Int → Int → Int → Option S} (hr : ∀ x0 x1 x2, (r x0 x1 x2).bind J = r' x0 x1 x2) (n85 : Int) (n86 : Int) (n87 : Int) {K0 : Int → Option R} {Q0 : Int → Option S} (h0 : ∀ x0, (K0 x0).bind J = Q0 x0) : (haystackref01_Mask_l4_T r n85 n86 n87 K0).bind J = haystackref01_Mask_l4_T r' n85 n86 n87 Q0 := by
  unfold haystackref01_Mask_l4_T
  repeat' first | intro _ | with_reducible exact h0 _ | with_reducible apply sel_push | with_reducible apply letV_push | with_reducible apply haystackref01_Mask_j6_push | with_reducible exact none_bind' _ | with_reducible exact hr _ _ _

theorem haystackref01_Mask_l4_L_push {R S : Type} {J : R → Option S} {K0 : Int → Option R} {Q0 : Int → Option S} (h0 : ∀ x0, (K0 x0).bind J = Q0 x0) : ∀ (N : Nat) (n85 : Int) (n86 : Int) (n87 : Int), (haystackref01_Mask_l4_L K0 N n85 n86 n87).bind J = haystackref01_Mask_l4_L Q0 N n85 n86 n87
  | 0, _, _, _ => rfl
  | N + 1, n85, n86, n87 => haystackref01_Mask_l4_T_push (haystackref01_Mask_l4_L_push h0 N) n85 n86 n87 h0

theorem haystackref01_Mask_l4_push {R S : Type} {J : R → Option S} (n85 : Int) (n86 : Int) (n87 : Int) {K0 : Int → Option R} {Q0 : Int → Option S} (h0 : ∀ x0, (K0 x0).bind J = Q0 x0) : (haystackref01_Mask_l4 n85 n86 n87 K0).bind J = haystackref01_Mask_l4 n85 n86 n87 Q0 := by
  rw [haystackref01_Mask_l4_unf, haystackref01_Mask_l4_unf]
  unfold haystackref01_Mask_l4_B
  exact haystackref01_Mask_l4_L_push h0 NR n85 n86 n87

theorem haystackref01_Mask_push {R S : Type} {J : R → Option S} (n84 : Int) {K0 : Int → Option R} {Q0 : Int → Option S} (h0 : ∀ x0, (K0 x0).bind J = Q0 x0) : (haystackref01_Mask n84 K0).bind J = haystackref01_Mask n84 Q0 := by
  rw [haystackref01_Mask_unf, haystackref01_Mask_unf]
  unfold haystackref01_Mask_B
  repeat' first | intro _ | with_reducible exact h0 _ | with_reducible apply sel_push | with_reducible apply letV_push | with_reducible apply haystackref01_Mask_l4_push | with_reducible exact none_bind' _

theorem haystackref01_Rank_j6_push {R S : Type} {J : R → Option S} (n104 : Int) (n105 : Int) (n106 : Int) (n107 : Int) {K0 : Int → Int → Int → Int → Option R} {Q0 : Int → Int → Int → Int → Option S} (h0 : ∀ x0 x1 x2 x3, (K0 x0 x1 x2 x3).bind J = Q0 x0 x1 x2 x3) : (haystackref01_Rank_j6 n104 n105 n106 n107 K0).bind J = haystackref01_Rank_j6 n104 n105 n106 n107 Q0 := by
  rw [haystackref01_Rank_j6_unf, haystackref01_Rank_j6_unf]
  unfold haystackref01_Rank_j6_B
  repeat' first | intro _ | with_reducible exact h0 _ _ _ _ | with_reducible apply sel_push | with_reducible apply letV_push | with_reducible exact none_bind' _

theorem haystackref01_Rank_l4_T_push {R S : Type} {J : R → Option S} {r : Int → Int → Int → Int → Option R} {r' : Int → Int → Int → Int → Option S} (hr : ∀ x0 x1 x2 x3, (r x0 x1 x2 x3).bind J = r' x0 x1 x2 x3) (n100 : Int) (n101 : Int) (n102 : Int) (n103 : Int) {K0 : Int → Option R} {Q0 : Int → Option S} (h0 : ∀ x0, (K0 x0).bind J = Q0 x0) : (haystackref01_Rank_l4_T r n100 n101 n102 n103 K0).bind J = haystackref01_Rank_l4_T r' n100 n101 n102 n103 Q0 := by
  unfold haystackref01_Rank_l4_T
  repeat' first | intro _ | with_reducible exact h0 _ | with_reducible apply sel_push | with_reducible apply letV_push | with_reducible apply haystackref01_Rank_j6_push | with_reducible exact none_bind' _ | with_reducible exact hr _ _ _ _

theorem haystackref01_Rank_l4_L_push {R S : Type} {J : R → Option S} {K0 : Int → Option R} {Q0 : Int → Option S} (h0 : ∀ x0, (K0 x0).bind J = Q0 x0) : ∀ (N : Nat) (n100 : Int) (n101 : Int) (n102 : Int) (n103 : Int), (haystackref01_Rank_l4_L K0 N n100 n101 n102 n103).bind J = haystackref01_Rank_l4_L Q0 N n100 n101 n102 n103
  | 0, _, _, _, _ => rfl
  | N + 1, n100, n101, n102, n103 => haystackref01_Rank_l4_T_push (haystackref01_Rank_l4_L_push h0 N) n100 n101 n102 n103 h0

theorem haystackref01_Rank_l4_push {R S : Type} {J : R → Option S} (n100 : Int) (n101 : Int) (n102 : Int) (n103 : Int) {K0 : Int → Option R} {Q0 : Int → Option S} (h0 : ∀ x0, (K0 x0).bind J = Q0 x0) : (haystackref01_Rank_l4 n100 n101 n102 n103 K0).bind J = haystackref01_Rank_l4 n100 n101 n102 n103 Q0 := by
  rw [haystackref01_Rank_l4_unf, haystackref01_Rank_l4_unf]
  unfold haystackref01_Rank_l4_B
  exact haystackref01_Rank_l4_L_push h0 NR n100 n101 n102 n103

theorem haystackref01_Rank_push {R S : Type} {J : R → Option S} (n98 : Int) (n99 : Int) {K0 : Int → Option R} {Q0 : Int → Option S} (h0 : ∀ x0, (K0 x0).bind J = Q0 x0) : (haystackref01_Rank n98 n99 K0).bind J = haystackref01_Rank n98 n99 Q0 := by
  rw [haystackref01_Rank_unf, haystackref01_Rank_unf]
  unfold haystackref01_Rank_B
  repeat' first | intro _ | with_reducible exact h0 _ | with_reducible apply sel_push | with_reducible apply letV_push | with_reducible apply haystackref01_Rank_l4_push | with_reducible exact none_bind' _

theorem haystackref01_Pop_push {R S : Type} {J : R → Option S} (n97 : Int) {K0 : Int → Option R} {Q0 : Int → Option S} (h0 : ∀ x0, (K0 x0).bind J = Q0 x0) : (haystackref01_Pop n97 K0).bind J = haystackref01_Pop n97 Q0 := by
  rw [haystackref01_Pop_unf, haystackref01_Pop_unf]
  unfold haystackref01_Pop_B
  repeat' first | intro _ | with_reducible exact h0 _ | with_reducible apply sel_push | with_reducible apply letV_push | with_reducible apply haystackref01_Rank_push | with_reducible exact none_bind' _

theorem haystackref01_Select_l4_T_push {R S : Type} {J : R → Option S} {r : Int → Int → Int → Int → Option R} {r' : Int → Int → Int → Int → Option S} (hr : ∀ x0 x1 x2 x3, (r x0 x1 x2 x3).bind J = r' x0 x1 x2 x3) (n120 : Int) (n121 : Int) (n122 : Int) (n123 : Int) {K0 : Int → Option R} {Q0 : Int → Option S} (h0 : ∀ x0, (K0 x0).bind J = Q0 x0) {K1 : Unit → Option R} {Q1 : Unit → Option S} (h1 : ∀ u, (K1 u).bind J = Q1 u) : (haystackref01_Select_l4_T r n120 n121 n122 n123 K0 K1).bind J = haystackref01_Select_l4_T r' n120 n121 n122 n123 Q0 Q1 := by
  unfold haystackref01_Select_l4_T
  repeat' first | intro _ | with_reducible exact h0 _ | with_reducible exact h1 _ | with_reducible apply sel_push | with_reducible apply letV_push | with_reducible exact none_bind' _ | with_reducible exact hr _ _ _ _

theorem haystackref01_Select_l4_L_push {R S : Type} {J : R → Option S} {K0 : Int → Option R} {Q0 : Int → Option S} (h0 : ∀ x0, (K0 x0).bind J = Q0 x0) {K1 : Unit → Option R} {Q1 : Unit → Option S} (h1 : ∀ u, (K1 u).bind J = Q1 u) : ∀ (N : Nat) (n120 : Int) (n121 : Int) (n122 : Int) (n123 : Int), (haystackref01_Select_l4_L K0 K1 N n120 n121 n122 n123).bind J = haystackref01_Select_l4_L Q0 Q1 N n120 n121 n122 n123
  | 0, _, _, _, _ => rfl
  | N + 1, n120, n121, n122, n123 => haystackref01_Select_l4_T_push (haystackref01_Select_l4_L_push h0 h1 N) n120 n121 n122 n123 h0 h1

theorem haystackref01_Select_l4_push {R S : Type} {J : R → Option S} (n120 : Int) (n121 : Int) (n122 : Int) (n123 : Int) {K0 : Int → Option R} {Q0 : Int → Option S} (h0 : ∀ x0, (K0 x0).bind J = Q0 x0) {K1 : Unit → Option R} {Q1 : Unit → Option S} (h1 : ∀ u, (K1 u).bind J = Q1 u) : (haystackref01_Select_l4 n120 n121 n122 n123 K0 K1).bind J = haystackref01_Select_l4 n120 n121 n122 n123 Q0 Q1 := by
  rw [haystackref01_Select_l4_unf, haystackref01_Select_l4_unf]
  unfold haystackref01_Select_l4_B
  exact haystackref01_Select_l4_L_push h0 h1 NR n120 n121 n122 n123

theorem haystackref01_Select_push {R S : Type} {J : R → Option S} (n118 : Int) (n119 : Int) {K0 : Int → Option R} {Q0 : Int → Option S} (h0 : ∀ x0, (K0 x0).bind J = Q0 x0) : (haystackref01_Select n118 n119 K0).bind J = haystackref01_Select n118 n119 Q0 := by
  rw [haystackref01_Select_unf, haystackref01_Select_unf]
  unfold haystackref01_Select_B
  repeat' first | intro _ | with_reducible exact h0 _ | with_reducible apply sel_push | with_reducible apply letV_push | with_reducible apply haystackref01_Select_l4_push | with_reducible exact none_bind' _

theorem haystackref01_Len_l3_T_push {R S : Type} {J : R → Option S} {r : Int → Int → Option R} {r' : Int → Int → Option S} (hr : ∀ x0 x1, (r x0 x1).bind J = r' x0 x1) (n128 : Int) (n129 : Int) {K0 : Int → Option R} {Q0 : Int → Option S} (h0 : ∀ x0, (K0 x0).bind J = Q0 x0) {K1 : Unit → Option R} {Q1 : Unit → Option S} (h1 : ∀ u, (K1 u).bind J = Q1 u) : (haystackref01_Len_l3_T r n128 n129 K0 K1).bind J = haystackref01_Len_l3_T r' n128 n129 Q0 Q1 := by
  unfold haystackref01_Len_l3_T
  repeat' first | intro _ | with_reducible exact h0 _ | with_reducible exact h1 _ | with_reducible apply sel_push | with_reducible apply letV_push | with_reducible exact none_bind' _ | with_reducible exact hr _ _

theorem haystackref01_Len_l3_L_push {R S : Type} {J : R → Option S} {K0 : Int → Option R} {Q0 : Int → Option S} (h0 : ∀ x0, (K0 x0).bind J = Q0 x0) {K1 : Unit → Option R} {Q1 : Unit → Option S} (h1 : ∀ u, (K1 u).bind J = Q1 u) : ∀ (N : Nat) (n128 : Int) (n129 : Int), (haystackref01_Len_l3_L K0 K1 N n128 n129).bind J = haystackref01_Len_l3_L Q0 Q1 N n128 n129
  | 0, _, _ => rfl
  | N + 1, n128, n129 => haystackref01_Len_l3_T_push (haystackref01_Len_l3_L_push h0 h1 N) n128 n129 h0 h1

theorem haystackref01_Len_l3_push {R S : Type} {J : R → Option S} (n128 : Int) (n129 : Int) {K0 : Int → Option R} {Q0 : Int → Option S} (h0 : ∀ x0, (K0 x0).bind J = Q0 x0) {K1 : Unit → Option R} {Q1 : Unit → Option S} (h1 : ∀ u, (K1 u).bind J = Q1 u) : (haystackref01_Len_l3 n128 n129 K0 K1).bind J = haystackref01_Len_l3 n128 n129 Q0 Q1 := by
  rw [haystackref01_Len_l3_unf, haystackref01_Len_l3_unf]
  unfold haystackref01_Len_l3_B
  exact haystackref01_Len_l3_L_push h0 h1 NR n128 n129

theorem haystackref01_Len_push {R S : Type} {J : R → Option S} (n127 : Int) {K0 : Int → Option R} {Q0 : Int → Option S} (h0 : ∀ x0, (K0 x0).bind J = Q0 x0) : (haystackref01_Len n127 K0).bind J = haystackref01_Len n127 Q0 := by
  rw [haystackref01_Len_unf, haystackref01_Len_unf]
  unfold haystackref01_Len_B
  repeat' first | intro _ | with_reducible exact h0 _ | with_reducible apply sel_push | with_reducible apply letV_push | with_reducible apply haystackref01_Len_l3_push | with_reducible exact none_bind' _

theorem haystacklaw01_WordTells_push {R S : Type} {J : R → Option S} (n80 : Int) (n81 : Int) (n82 : Int) {K0 : Bool → Option R} {Q0 : Bool → Option S} (h0 : ∀ x0, (K0 x0).bind J = Q0 x0) : (haystacklaw01_WordTells n80 n81 n82 K0).bind J = haystacklaw01_WordTells n80 n81 n82 Q0 := by
  rw [haystacklaw01_WordTells_unf, haystacklaw01_WordTells_unf]
  unfold haystacklaw01_WordTells_B
  repeat' first | intro _ | with_reducible exact h0 _ | with_reducible apply sel_push | with_reducible apply letV_push | with_reducible apply word_Mask_push | with_reducible apply haystackref01_Mask_push | with_reducible apply word_Pop_push | with_reducible apply haystackref01_Pop_push | with_reducible apply word_Rank_push | with_reducible apply haystackref01_Rank_push | with_reducible apply word_Select_push | with_reducible apply haystackref01_Select_push | with_reducible apply word_Len_push | with_reducible apply haystackref01_Len_push | with_reducible apply haystacklaw01_heads_push | with_reducible exact none_bind' _

theorem haystacklaw01_WordBack_push {R S : Type} {J : R → Option S} (n133 : Int) (n134 : Int) {K0 : Bool → Option R} {Q0 : Bool → Option S} (h0 : ∀ x0, (K0 x0).bind J = Q0 x0) : (haystacklaw01_WordBack n133 n134 K0).bind J = haystacklaw01_WordBack n133 n134 Q0 := by
  rw [haystacklaw01_WordBack_unf, haystacklaw01_WordBack_unf]
  unfold haystacklaw01_WordBack_B
  repeat' first | intro _ | with_reducible exact h0 _ | with_reducible apply sel_push | with_reducible apply letV_push | with_reducible apply word_Select_push | with_reducible apply haystacklaw01_heads_push | with_reducible apply word_Pop_push | with_reducible apply word_Rank_push | with_reducible exact none_bind' _

theorem haystacklaw01_WordParts_j4_push {R S : Type} {J : R → Option S} (n146 : Int) (n147 : Int) {K0 : Bool → Option R} {Q0 : Bool → Option S} (h0 : ∀ x0, (K0 x0).bind J = Q0 x0) : (haystacklaw01_WordParts_j4 n146 n147 K0).bind J = haystacklaw01_WordParts_j4 n146 n147 Q0 := by
  rw [haystacklaw01_WordParts_j4_unf, haystacklaw01_WordParts_j4_unf]
  unfold haystacklaw01_WordParts_j4_B
  repeat' first | intro _ | with_reducible exact h0 _ | with_reducible apply sel_push | with_reducible apply letV_push | with_reducible apply word_Rank_push | with_reducible apply word_Pop_push | with_reducible apply word_Mask_push | with_reducible apply haystacklaw01_heads_push | with_reducible exact none_bind' _

theorem haystacklaw01_WordParts_push {R S : Type} {J : R → Option S} (n142 : Int) (n143 : Int) {K0 : Bool → Option R} {Q0 : Bool → Option S} (h0 : ∀ x0, (K0 x0).bind J = Q0 x0) : (haystacklaw01_WordParts n142 n143 K0).bind J = haystacklaw01_WordParts n142 n143 Q0 := by
  rw [haystacklaw01_WordParts_unf, haystacklaw01_WordParts_unf]
  unfold haystacklaw01_WordParts_B
  repeat' first | intro _ | with_reducible exact h0 _ | with_reducible apply sel_push | with_reducible apply letV_push | with_reducible apply haystacklaw01_heads_push | with_reducible apply haystacklaw01_WordParts_j4_push | with_reducible exact none_bind' _

theorem haystacklaw01_WordLong_push {R S : Type} {J : R → Option S} (n158 : Int) {K0 : Bool → Option R} {Q0 : Bool → Option S} (h0 : ∀ x0, (K0 x0).bind J = Q0 x0) : (haystacklaw01_WordLong n158 K0).bind J = haystacklaw01_WordLong n158 Q0 := by
  rw [haystacklaw01_WordLong_unf, haystacklaw01_WordLong_unf]
  unfold haystacklaw01_WordLong_B
  repeat' first | intro _ | with_reducible exact h0 _ | with_reducible apply sel_push | with_reducible apply letV_push | with_reducible apply word_Len_push | with_reducible apply haystacklaw01_heads_push | with_reducible apply word_Mask_push | with_reducible exact none_bind' _

/-- what is kept where -/
def kpt : List (Nat × List (Nat × List Nat)) := [(3, [(4002, [4]), (4001, [4]), (4000, [0, 1])]), (4, [(4002, [2]), (4001, [2]), (4000, [0]), (3002, [2]), (3001, [0]), (3000, [0, 8])]), (7, [(4002, [4]), (4001, [4]), (4000, [0, 1])]), (10, [(5403, [0]), (5402, [4]), (5401, []), (5400, [0, 13, 14]), (4002, [4]), (4001, [4]), (4000, [0, 1])]), (15, [(6003, [3]), (6002, [2]), (6001, [0, 3, 4]), (6000, [0, 3, 4]), (4403, [3]), (4402, [2]), (4401, []), (4400, [0, 3, 4])]), (17, [(6003, [5]), (6002, [4]), (6001, [0, 1, 5, 6]), (6000, [0, 1, 5, 6]), (4403, [5]), (4402, [4]), (4401, []), (4400, [0, 1, 5, 6])]), (18, [(4403, []), (4402, [4]), (4401, []), (4400, [0, 1, 5, 6])]), (19, [(3403, []), (3402, [2]), (3401, []), (3400, [0, 3])]), (22, [(11002, [2]), (11001, [2]), (11000, [0, 2]), (8002, [2]), (8001, [2]), (8000, [0, 2]), (5002, [2]), (5001, [2]), (5000, [0, 2])])]

noncomputable def S0 : FuncId → Option Ev.Spec := fun _ => none
theorem S0_ok : ∀ g sp, S0 g = some sp → SpecOk Tryd.prog (env (keepOf kpt)) g sp := fun _ _ h => nomatch h

theorem word_Mask_eq {R : Type} (n2 : Int) (K : AV → Option R) : evSpec (env (keepOf kpt)) S0 (fun _ => none) 10 12 ([AV.int .i64 n2]) R K = word_Mask n2 (fun x0 => K (AV.int .u64 x0)) := by
  rw [word_Mask_unf]; kernel_rfl

noncomputable def sp12 : Ev.Spec := fun args _ K => match args with
  | [AV.int .i64 n2] => word_Mask n2 (fun x0 => K (AV.int .u64 x0))
  | _ => none

theorem sp12_nat : SpecNat sp12 := fun args _ _ _ _ => by
  unfold sp12
  split
  · exact word_Mask_push _ (fun _ => rfl)
  · rfl

theorem ok12 : SpecOk Tryd.prog (env (keepOf kpt)) 12 sp12 :=
  SpecOk.of (evSpec_ok (env_types _) (env_funs _) S0_ok (O := (fun _ => none)) ONat.none 10 12 (fun _ _ _ _ => OrcOk.none _ _)) sp12_nat (fun args z h => by
    unfold sp12 at h
    split at h
    · exact (word_Mask_eq _ some).trans h
    · cases h)

noncomputable def S12 : FuncId → Option Ev.Spec := fun g => match g.beq 12 with | true => some sp12 | false => S0 g
theorem S12_ok : ∀ g sp, S12 g = some sp → SpecOk Tryd.prog (env (keepOf kpt)) g sp := fun g sp h => by
  unfold S12 at h
  split at h
  · rename_i hb; cases h; obtain rfl := Nat.eq_of_beq_eq_true hb; exact ok12
  · exact S0_ok g sp h

theorem math_bits_OnesCount64_eq {R : Type} (n6 : Int) (K : AV → Option R) : evSpec (env (keepOf kpt)) S12 (fun _ => none) 10 21 ([AV.int .u64 n6]) R K = math_bits_OnesCount64 n6 (fun x0 => K (AV.int .i64 x0)) := by
  rw [math_bits_OnesCount64_unf]; kernel_rfl

noncomputable def sp21 : Ev.Spec := fun args _ K => match args with
  | [AV.int .u64 n6] => math_bits_OnesCount64 n6 (fun x0 => K (AV.int .i64 x0))
  | _ => none

theorem sp21_nat : SpecNat sp21 := fun args _ _ _ _ => by
  unfold sp21
  split
  · exact math_bits_OnesCount64_push _ (fun _ => rfl)
  · rfl

theorem ok21 : SpecOk Tryd.prog (env (keepOf kpt)) 21 sp21 :=
  SpecOk.of (evSpec_ok (env_types _) (env_funs _) S12_ok (O := (fun _ => none)) ONat.none 10 21 (fun _ _ _ _ => OrcOk.none _ _)) sp21_nat (fun args z h => by
    unfold sp21 at h
    split at h
    · exact (math_bits_OnesCount64_eq _ some).trans h
    · cases h)

noncomputable def S21 : FuncId → Option Ev.Spec := fun g => match g.beq 21 with | true => some sp21 | false => S12 g
theorem S21_ok : ∀ g sp, S21 g = some sp → SpecOk Tryd.prog (env (keepOf kpt)) g sp := fun g sp h => by
  unfold S21 at h
  split at h
  · rename_i hb; cases h; obtain rfl := Nat.eq_of_beq_eq_true hb; exact ok21
  · exact S12_ok g sp h

theorem word_Pop_eq {R : Type} (n5 : Int) (K : AV → Option R) : evSpec (env (keepOf kpt)) S21 (fun _ => none) 10 13 ([AV.int .u64 n5]) R K = word_Pop n5 (fun x0 => K (AV.int .i64 x0)) := by
  rw [word_Pop_unf]; kernel_rfl

noncomputable def sp13 : Ev.Spec := fun args _ K => match args with
  | [AV.int .u64 n5] => word_Pop n5 (fun x0 => K (AV.int .i64 x0))
  | _ => none

theorem sp13_nat : SpecNat sp13 := fun args _ _ _ _ => by
  unfold sp13
  split
  · exact word_Pop_push _ (fun _ => rfl)
  · rfl

theorem ok13 : SpecOk Tryd.prog (env (keepOf kpt)) 13 sp13 :=
  SpecOk.of (evSpec_ok (env_types _) (env_funs _) S21_ok (O := (fun _ => none)) ONat.none 10 13 (fun _ _ _ _ => OrcOk.none _ _)) sp13_nat (fun args z h => by
    unfold sp13 at h
    split at h
    · exact (word_Pop_eq _ some).trans h
    · cases h)

noncomputable def S13 : FuncId → Option Ev.Spec := fun g => match g.beq 13 with | true => some sp13 | false => S21 g
theorem S13_ok : ∀ g sp, S13 g = some sp → SpecOk Tryd.prog (env (keepOf kpt)) g sp := fun g sp h => by
  unfold S13 at h
  split at h
  · rename_i hb; cases h; obtain rfl := Nat.eq_of_beq_eq_true hb; exact ok13
  · exact S21_ok g sp h

theorem word_Rank_eq {R : Type} (n12 : Int) (n13 : Int) (K : AV → Option R) : evSpec (env (keepOf kpt)) S13 (fun _ => none) 10 11 ([AV.int .u64 n12, AV.int .i64 n13]) R K = word_Rank n12 n13 (fun x0 => K (AV.int .i64 x0)) := by
  rw [word_Rank_unf]; kernel_rfl

noncomputable def sp11 : Ev.Spec := fun args _ K => match args with
  | [AV.int .u64 n12, AV.int .i64 n13] => word_Rank n12 n13 (fun x0 => K (AV.int .i64 x0))
  | _ => none

theorem sp11_nat : SpecNat sp11 := fun args _ _ _ _ => by
  unfold sp11
  split
  · exact word_Rank_push _ _ (fun _ => rfl)
  · rfl

theorem ok11 : SpecOk Tryd.prog (env (keepOf kpt)) 11 sp11 :=
  SpecOk.of (evSpec_ok (env_types _) (env_funs _) S13_ok (O := (fun _ => none)) ONat.none 10 11 (fun _ _ _ _ => OrcOk.none _ _)) sp11_nat (fun args z h => by
    unfold sp11 at h
    split at h
    · exact (word_Rank_eq _ _ some).trans h
    · cases h)

noncomputable def S11 : FuncId → Option Ev.Spec := fun g => match g.beq 11 with | true => some sp11 | false => S13 g
theorem S11_ok : ∀ g sp, S11 g = some sp → SpecOk Tryd.prog (env (keepOf kpt)) g sp := fun g sp h => by
  unfold S11 at h
  split at h
  · rename_i hb; cases h; obtain rfl := Nat.eq_of_beq_eq_true hb; exact ok11
  · exact S13_ok g sp h

theorem math_bits_TrailingZeros64_eq {R : Type} (n26 : Int) (K : AV → Option R) : evSpec (env (keepOf kpt)) S11 (fun _ => none) 10 20 ([AV.int .u64 n26]) R K = math_bits_TrailingZeros64 n26 (fun x0 => K (AV.int .i64 x0)) := by
  rw [math_bits_TrailingZeros64_unf]; kernel_rfl

noncomputable def sp20 : Ev.Spec := fun args _ K => match args with
  | [AV.int .u64 n26] => math_bits_TrailingZeros64 n26 (fun x0 => K (AV.int .i64 x0))
  | _ => none

theorem sp20_nat : SpecNat sp20 := fun args _ _ _ _ => by
  unfold sp20
  split
  · exact math_bits_TrailingZeros64_push _ (fun _ => rfl)
  · rfl

theorem ok20 : SpecOk Tryd.prog (env (keepOf kpt)) 20 sp20 :=
  SpecOk.of (evSpec_ok (env_types _) (env_funs _) S11_ok (O := (fun _ => none)) ONat.none 10 20 (fun _ _ _ _ => OrcOk.none _ _)) sp20_nat (fun args z h => by
    unfold sp20 at h
    split at h
    · exact (math_bits_TrailingZeros64_eq _ some).trans h
    · cases h)

noncomputable def S20 : FuncId → Option Ev.Spec := fun g => match g.beq 20 with | true => some sp20 | false => S11 g
theorem S20_ok : ∀ g sp, S20 g = some sp → SpecOk Tryd.prog (env (keepOf kpt)) g sp := fun g sp h => by
  unfold S20 at h
  split at h
  · rename_i hb; cases h; obtain rfl := Nat.eq_of_beq_eq_true hb; exact ok20
  · exact S11_ok g sp h

noncomputable def o10_4000_in {R : Type} (K : Ex → St → Option R) (vs : List AV) (hh : H) : Option R := match vs, hh with
  | [AV.int .u64 n20, AV.int .i64 n21], [] => word_Select_j4 n20 n21 (fun x0 => K (Ex.ret) (St.mk (spread 23 0 [4] [AV.int .i64 x0]) []))
  | _, _ => none
noncomputable def o10_4000 : PSpec := fun st _ K => pickM 23 [0, 1] st (o10_4000_in K)

theorem o10_4000_nat (st : St) (R S : Type) (K : Ex → St → Option R) (J : R → Option S) : (o10_4000 st R K).bind J = o10_4000 st S fun ex st => (K ex st).bind J := by
  unfold o10_4000
  refine pickM_push fun vs hh => ?_
  unfold o10_4000_in
  split
  · exact word_Select_j4_push _ _ (fun _ => rfl)
  · rfl

noncomputable def o10_5400_in {R : Type} (K : Ex → St → Option R) (vs : List AV) (hh : H) : Option R := match vs, hh with
  | [AV.int .u64 n22, AV.int .i64 n23, AV.int .i64 n24], [] => word_Select_l5 n22 n23 n24 (fun x0 => K (Ex.exit 0) (St.mk (spread 23 0 [0] [AV.int .u64 x0]) []))
  | _, _ => none
noncomputable def o10_5400 : PSpec := fun st _ K => pickM 23 [0, 13, 14] st (o10_5400_in K)

theorem o10_5400_nat (st : St) (R S : Type) (K : Ex → St → Option R) (J : R → Option S) : (o10_5400 st R K).bind J = o10_5400 st S fun ex st => (K ex st).bind J := by
  unfold o10_5400
  refine pickM_push fun vs hh => ?_
  unfold o10_5400_in
  split
  · exact word_Select_l5_push _ _ _ (fun _ => rfl)
  · rfl

noncomputable def o10 : Nat → Option PSpec := lkN [(4000, o10_4000), (5400, o10_5400)]

theorem o10_onat : ONat o10 := ONat.consT o10_4000_nat (ONat.consT o10_5400_nat (ONat.nilT))

noncomputable def c10_4000 : Code := subC [1, 1] (bodyOf Tryd.f10)

noncomputable def c10_5400 : Code := subC [1, 1, 0, 1, 0, 0] (bodyOf Tryd.f10)

noncomputable def lp10_5400 {R : Type} (N : Nat) (st : St) (K : Ex → St → Option R) : Option R := evLoop (norm ((env (keepOf kpt)).keep 10 (Ev.keyOf c10_5400 * 1000 + 400)) ([] : H).length) (evCode (env (keepOf kpt)) (evFun (env (keepOf kpt)) S20 10) o10 10 ([] : H).length 3994 c10_5400) N st (kOut (env (keepOf kpt)) 10 ([] : H).length (Ev.keyOf c10_5400 * 1000 + 401) K)

theorem word_Select_l5_step {R : Type} (N : Nat) (n22 : Int) (n23 : Int) (n24 : Int) (K : Ex → St → Option R) : lp10_5400 (N + 1) (St.mk (spread 23 0 [0, 13, 14] [AV.int .u64 n22, AV.int .i64 n23, AV.int .i64 n24]) []) K = word_Select_l5_T (fun n22 n23 n24 => lp10_5400 N (St.mk (spread 23 0 [0, 13, 14] [AV.int .u64 n22, AV.int .i64 n23, AV.int .i64 n24]) []) K) n22 n23 n24 (fun x0 => K (Ex.exit 0) (St.mk (spread 23 0 [0] [AV.int .u64 x0]) [])) := by kernel_rfl

theorem word_Select_l5_L_eq {R : Type} : ∀ (N : Nat) (n22 : Int) (n23 : Int) (n24 : Int) (K : Ex → St → Option R), lp10_5400 N (St.mk (spread 23 0 [0, 13, 14] [AV.int .u64 n22, AV.int .i64 n23, AV.int .i64 n24]) []) K = word_Select_l5_L (fun x0 => K (Ex.exit 0) (St.mk (spread 23 0 [0] [AV.int .u64 x0]) [])) N n22 n23 n24
  | 0, _, _, _, _ => rfl
  | N + 1, n22, n23, n24, K => by rw [word_Select_l5_step]; simp only [word_Select_l5_L_eq N]; rfl

theorem word_Select_j4_eq {R : Type} (n20 : Int) (n21 : Int) (K : Ex → St → Option R) : evCode (env (keepOf kpt)) (evFun (env (keepOf kpt)) S20 10) o10 10 ([] : H).length 3998 c10_4000 (St.mk (spread 23 0 [0, 1] [AV.int .u64 n20, AV.int .i64 n21]) []) (kOut (env (keepOf kpt)) 10 ([] : H).length (Ev.keyOf c10_4000 * 1000 + 1) K) = word_Select_j4 n20 n21 (fun x0 => K (Ex.ret) (St.mk (spread 23 0 [4] [AV.int .i64 x0]) [])) := by
  rw [word_Select_j4_unf]; kernel_rfl

theorem p10_4000 : ∀ sp, o10 (Ev.keyOf c10_4000 * 1000) = some sp → ∀ (R : Type) (r : R) st (K : Ex → St → Option R), sp st R K = some r → evCode (env (keepOf kpt)) (evFun (env (keepOf kpt)) S20 10) o10 10 ([] : H).length 3998 c10_4000 st (kOut (env (keepOf kpt)) 10 ([] : H).length (Ev.keyOf c10_4000 * 1000 + 1) K) = some r := by
    intro sp hsp R r st K h
    have h1 : o10 (Ev.keyOf c10_4000 * 1000) = some o10_4000 := by kernel_rfl
    obtain rfl := Option.some.inj (h1.symm.trans hsp)
    unfold o10_4000 at h
    obtain ⟨vs, hh, rfl, h2⟩ := pickM_some h
    unfold o10_4000_in at h2
    split at h2
    · exact (word_Select_j4_eq _ _ K).trans h2
    · cases h2

theorem p10_5400 : ∀ sp, o10 (Ev.keyOf c10_5400 * 1000 + 400) = some sp → ∀ (R : Type) (r : R) st (K : Ex → St → Option R), sp st R K = some r → lp10_5400 NR st K = some r := by
    intro sp hsp R r st K h
    have h1 : o10 (Ev.keyOf c10_5400 * 1000 + 400) = some o10_5400 := by kernel_rfl
    obtain rfl := Option.some.inj (h1.symm.trans hsp)
    unfold o10_5400 at h
    obtain ⟨vs, hh, rfl, h2⟩ := pickM_some h
    unfold o10_5400_in at h2
    split at h2
    · exact (word_Select_l5_L_eq NR _ _ _ K).trans (word_Select_l5_unf _ _ _ (fun x0 => K (Ex.exit 0) (St.mk (spread 23 0 [0] [AV.int .u64 x0]) []))).symm |>.trans h2
    · cases h2

theorem pc10 : ∀ x ∈ [(3998, false, c10_4000), (3994, true, c10_5400)], PieceOk (env (keepOf kpt)) (evFun (env (keepOf kpt)) S20 10) o10 10 ([] : H).length x := List.forall_mem_cons.2 ⟨p10_4000, List.forall_mem_cons.2 ⟨p10_5400, fun _ h => nomatch h⟩⟩

theorem word_Select_eq {R : Type} (n17 : Int) (n18 : Int) (K : AV → Option R) : evSpec (env (keepOf kpt)) S20 o10 10 10 ([AV.int .u64 n17, AV.int .i64 n18]) R K = word_Select n17 n18 (fun x0 => K (AV.int .i64 x0)) := by
  rw [word_Select_unf]; kernel_rfl

noncomputable def sp10 : Ev.Spec := fun args _ K => match args with
  | [AV.int .u64 n17, AV.int .i64 n18] => word_Select n17 n18 (fun x0 => K (AV.int .i64 x0))
  | _ => none

theorem sp10_nat : SpecNat sp10 := fun args _ _ _ _ => by
  unfold sp10
  split
  · exact word_Select_push _ _ (fun _ => rfl)
  · rfl

theorem ok10 : SpecOk Tryd.prog (env (keepOf kpt)) 10 sp10 :=
  SpecOk.of (evSpec_ok (env_types _) (env_funs _) S20_ok (O := o10) o10_onat 10 10 (fun fn c h1 h2 => by
    have e : (env (keepOf kpt)).F 10 = some Tryd.f10 := by kernel_rfl
    obtain rfl := Option.some.inj (e.symm.trans h1)
    obtain rfl := body_of h2
    exact OrcOk.of 4000 _ _ (show orcs o10 4000 (bodyOf Tryd.f10) = some [(3998, false, c10_4000), (3994, true, c10_5400)] by kernel_rfl) pc10)) sp10_nat (fun args z h => by
    unfold sp10 at h
    split at h
    · exact (word_Select_eq _ _ some).trans h
    · cases h)

noncomputable def S10 : FuncId → Option Ev.Spec := fun g => match g.beq 10 with | true => some sp10 | false => S20 g
theorem S10_ok : ∀ g sp, S10 g = some sp → SpecOk Tryd.prog (env (keepOf kpt)) g sp := fun g sp h => by
  unfold S10 at h
  split at h
  · rename_i hb; cases h; obtain rfl := Nat.eq_of_beq_eq_true hb; exact ok10
  · exact S20_ok g sp h

noncomputable def o22_5000_in {R : Type} (K : Ex → St → Option R) (vs : List AV) (hh : H) : Option R := match vs, hh with
  | [AV.int .u64 n33, AV.int .i64 n34], [] => math_bits_Len64_j5 n33 n34 (fun x0 => K (Ex.ret) (St.mk (spread 25 0 [2] [AV.int .i64 x0]) []))
  | _, _ => none
noncomputable def o22_5000 : PSpec := fun st _ K => pickM 25 [0, 2] st (o22_5000_in K)

theorem o22_5000_nat (st : St) (R S : Type) (K : Ex → St → Option R) (J : R → Option S) : (o22_5000 st R K).bind J = o22_5000 st S fun ex st => (K ex st).bind J := by
  unfold o22_5000
  refine pickM_push fun vs hh => ?_
  unfold o22_5000_in
  split
  · exact math_bits_Len64_j5_push _ _ (fun _ => rfl)
  · rfl

noncomputable def o22_8000_in {R : Type} (K : Ex → St → Option R) (vs : List AV) (hh : H) : Option R := match vs, hh with
  | [AV.int .u64 n35, AV.int .i64 n36], [] => math_bits_Len64_j8 n35 n36 (fun x0 => K (Ex.ret) (St.mk (spread 25 0 [2] [AV.int .i64 x0]) []))
  | _, _ => none
noncomputable def o22_8000 : PSpec := fun st _ K => pickM 25 [0, 2] st (o22_8000_in K)

theorem o22_8000_nat (st : St) (R S : Type) (K : Ex → St → Option R) (J : R → Option S) : (o22_8000 st R K).bind J = o22_8000 st S fun ex st => (K ex st).bind J := by
  unfold o22_8000
  refine pickM_push fun vs hh => ?_
  unfold o22_8000_in
  split
  · exact math_bits_Len64_j8_push _ _ (fun _ => rfl)
  · rfl

noncomputable def o22_11000_in {R : Type} (K : Ex → St → Option R) (vs : List AV) (hh : H) : Option R := match vs, hh with
  | [AV.int .u64 n37, AV.int .i64 n38], [] => math_bits_Len64_j11 n37 n38 (fun x0 => K (Ex.ret) (St.mk (spread 25 0 [2] [AV.int .i64 x0]) []))
  | _, _ => none
noncomputable def o22_11000 : PSpec := fun st _ K => pickM 25 [0, 2] st (o22_11000_in K)

theorem o22_11000_nat (st : St) (R S : Type) (K : Ex → St → Option R) (J : R → Option S) : (o22_11000 st R K).bind J = o22_11000 st S fun ex st => (K ex st).bind J := by
  unfold o22_11000
  refine pickM_push fun vs hh => ?_
  unfold o22_11000_in
  split
  · exact math_bits_Len64_j11_push _ _ (fun _ => rfl)
  · rfl

noncomputable def o22 : Nat → Option PSpec := lkN [(5000, o22_5000), (8000, o22_8000), (11000, o22_11000)]

theorem o22_onat : ONat o22 := ONat.consT o22_5000_nat (ONat.consT o22_8000_nat (ONat.consT o22_11000_nat (ONat.nilT)))

noncomputable def c22_5000 : Code := subC [1, 1] (bodyOf Tryd.f22)

noncomputable def c22_8000 : Code := subC [1, 1, 1] (bodyOf Tryd.f22)

noncomputable def c22_11000 : Code := subC [1, 1, 1, 1] (bodyOf Tryd.f22)

theorem math_bits_Len64_j11_eq {R : Type} (n37 : Int) (n38 : Int) (K : Ex → St → Option R) : evCode (env (keepOf kpt)) (evFun (env (keepOf kpt)) S10 10) o22 22 ([] : H).length 3996 c22_11000 (St.mk (spread 25 0 [0, 2] [AV.int .u64 n37, AV.int .i64 n38]) []) (kOut (env (keepOf kpt)) 22 ([] : H).length (Ev.keyOf c22_11000 * 1000 + 1) K) = math_bits_Len64_j11 n37 n38 (fun x0 => K (Ex.ret) (St.mk (spread 25 0 [2] [AV.int .i64 x0]) [])) := by
  rw [math_bits_Len64_j11_unf]; kernel_rfl

theorem math_bits_Len64_j8_eq {R : Type} (n35 : Int) (n36 : Int) (K : Ex → St → Option R) : evCode (env (keepOf kpt)) (evFun (env (keepOf kpt)) S10 10) o22 22 ([] : H).length 3997 c22_8000 (St.mk (spread 25 0 [0, 2] [AV.int .u64 n35, AV.int .i64 n36]) []) (kOut (env (keepOf kpt)) 22 ([] : H).length (Ev.keyOf c22_8000 * 1000 + 1) K) = math_bits_Len64_j8 n35 n36 (fun x0 => K (Ex.ret) (St.mk (spread 25 0 [2] [AV.int .i64 x0]) [])) := by
  rw [math_bits_Len64_j8_unf]; kernel_rfl

theorem math_bits_Len64_j5_eq {R : Type} (n33 : Int) (n34 : Int) (K : Ex → St → Option R) : evCode (env (keepOf kpt)) (evFun (env (keepOf kpt)) S10 10) o22 22 ([] : H).length 3998 c22_5000 (St.mk (spread 25 0 [0, 2] [AV.int .u64 n33, AV.int .i64 n34]) []) (kOut (env (keepOf kpt)) 22 ([] : H).length (Ev.keyOf c22_5000 * 1000 + 1) K) = math_bits_Len64_j5 n33 n34 (fun x0 => K (Ex.ret) (St.mk (spread 25 0 [2] [AV.int .i64 x0]) [])) := by
  rw [math_bits_Len64_j5_unf]; kernel_rfl

theorem p22_5000 : ∀ sp, o22 (Ev.keyOf c22_5000 * 1000) = some sp → ∀ (R : Type) (r : R) st (K : Ex → St → Option R), sp st R K = some r → evCode (env (keepOf kpt)) (evFun (env (keepOf kpt)) S10 10) o22 22 ([] : H).length 3998 c22_5000 st (kOut (env (keepOf kpt)) 22 ([] : H).length (Ev.keyOf c22_5000 * 1000 + 1) K) = some r := by
    intro sp hsp R r st K h
    have h1 : o22 (Ev.keyOf c22_5000 * 1000) = some o22_5000 := by kernel_rfl
    obtain rfl := Option.some.inj (h1.symm.trans hsp)
    unfold o22_5000 at h
    obtain ⟨vs, hh, rfl, h2⟩ := pickM_some h
    unfold o22_5000_in at h2
    split at h2
    · exact (math_bits_Len64_j5_eq _ _ K).trans h2
    · cases h2

theorem p22_8000 : ∀ sp, o22 (Ev.keyOf c22_8000 * 1000) = some sp → ∀ (R : Type) (r : R) st (K : Ex → St → Option R), sp st R K = some r → evCode (env (keepOf kpt)) (evFun (env (keepOf kpt)) S10 10) o22 22 ([] : H).length 3997 c22_8000 st (kOut (env (keepOf kpt)) 22 ([] : H).length (Ev.keyOf c22_8000 * 1000 + 1) K) = some r := by
    intro sp hsp R r st K h
    have h1 : o22 (Ev.keyOf c22_8000 * 1000) = some o22_8000 := by kernel_rfl
    obtain rfl := Option.some.inj (h1.symm.trans hsp)
    unfold o22_8000 at h
    obtain ⟨vs, hh, rfl, h2⟩ := pickM_some h
    unfold o22_8000_in at h2
    split at h2
    · exact (math_bits_Len64_j8_eq _ _ K).trans h2
    · cases h2

theorem p22_11000 : ∀ sp, o22 (Ev.keyOf c22_11000 * 1000) = some sp → ∀ (R : Type) (r : R) st (K : Ex → St → Option R), sp st R K = some r → evCode (env (keepOf kpt)) (evFun (env (keepOf kpt)) S10 10) o22 22 ([] : H).length 3996 c22_11000 st (kOut (env (keepOf kpt)) 22 ([] : H).length (Ev.keyOf c22_11000 * 1000 + 1) K) = some r := by
    intro sp hsp R r st K h
    have h1 : o22 (Ev.keyOf c22_11000 * 1000) = some o22_11000 := by kernel_rfl
    obtain rfl := Option.some.inj (h1.symm.trans hsp)
    unfold o22_11000 at h
    obtain ⟨vs, hh, rfl, h2⟩ := pickM_some h
    unfold o22_11000_in at h2
    split at h2
    · exact (math_bits_Len64_j11_eq _ _ K).trans h2
    · cases h2

theorem pc22 : ∀ x ∈ [(3998, false, c22_5000), (3997, false, c22_8000), (3996, false, c22_11000)], PieceOk (env (keepOf kpt)) (evFun (env (keepOf kpt)) S10 10) o22 22 ([] : H).length x := List.forall_mem_cons.2 ⟨p22_5000, List.forall_mem_cons.2 ⟨p22_8000, List.forall_mem_cons.2 ⟨p22_11000, fun _ h => nomatch h⟩⟩⟩

theorem math_bits_Len64_eq {R : Type} (n32 : Int) (K : AV → Option R) : evSpec (env (keepOf kpt)) S10 o22 10 22 ([AV.int .u64 n32]) R K = math_bits_Len64 n32 (fun x0 => K (AV.int .i64 x0)) := by
  rw [math_bits_Len64_unf]; kernel_rfl

noncomputable def sp22 : Ev.Spec := fun args _ K => match args with
  | [AV.int .u64 n32] => math_bits_Len64 n32 (fun x0 => K (AV.int .i64 x0))
  | _ => none

theorem sp22_nat : SpecNat sp22 := fun args _ _ _ _ => by
  unfold sp22
  split
  · exact math_bits_Len64_push _ (fun _ => rfl)
  · rfl

theorem ok22 : SpecOk Tryd.prog (env (keepOf kpt)) 22 sp22 :=
  SpecOk.of (evSpec_ok (env_types _) (env_funs _) S10_ok (O := o22) o22_onat 10 22 (fun fn c h1 h2 => by
    have e : (env (keepOf kpt)).F 22 = some Tryd.f22 := by kernel_rfl
    obtain rfl := Option.some.inj (e.symm.trans h1)
    obtain rfl := body_of h2
    exact OrcOk.of 4000 _ _ (show orcs o22 4000 (bodyOf Tryd.f22) = some [(3998, false, c22_5000), (3997, false, c22_8000), (3996, false, c22_11000)] by kernel_rfl) pc22)) sp22_nat (fun args z h => by
    unfold sp22 at h
    split at h
    · exact (math_bits_Len64_eq _ some).trans h
    · cases h)

noncomputable def S22 : FuncId → Option Ev.Spec := fun g => match g.beq 22 with | true => some sp22 | false => S10 g
theorem S22_ok : ∀ g sp, S22 g = some sp → SpecOk Tryd.prog (env (keepOf kpt)) g sp := fun g sp h => by
  unfold S22 at h
  split at h
  · rename_i hb; cases h; obtain rfl := Nat.eq_of_beq_eq_true hb; exact ok22
  · exact S10_ok g sp h

theorem word_Len_eq {R : Type} (n31 : Int) (K : AV → Option R) : evSpec (env (keepOf kpt)) S22 (fun _ => none) 10 14 ([AV.int .u64 n31]) R K = word_Len n31 (fun x0 => K (AV.int .i64 x0)) := by
  rw [word_Len_unf]; kernel_rfl

noncomputable def sp14 : Ev.Spec := fun args _ K => match args with
  | [AV.int .u64 n31] => word_Len n31 (fun x0 => K (AV.int .i64 x0))
  | _ => none

theorem sp14_nat : SpecNat sp14 := fun args _ _ _ _ => by
  unfold sp14
  split
  · exact word_Len_push _ (fun _ => rfl)
  · rfl

theorem ok14 : SpecOk Tryd.prog (env (keepOf kpt)) 14 sp14 :=
  SpecOk.of (evSpec_ok (env_types _) (env_funs _) S22_ok (O := (fun _ => none)) ONat.none 10 14 (fun _ _ _ _ => OrcOk.none _ _)) sp14_nat (fun args z h => by
    unfold sp14 at h
    split at h
    · exact (word_Len_eq _ some).trans h
    · cases h)

noncomputable def S14 : FuncId → Option Ev.Spec := fun g => match g.beq 14 with | true => some sp14 | false => S22 g
theorem S14_ok : ∀ g sp, S14 g = some sp → SpecOk Tryd.prog (env (keepOf kpt)) g sp := fun g sp h => by
  unfold S14 at h
  split at h
  · rename_i hb; cases h; obtain rfl := Nat.eq_of_beq_eq_true hb; exact ok14
  · exact S22_ok g sp h

theorem haystacklaw01_heads_eq {R : Type} (K : AV → Option R) : evSpec (env (keepOf kpt)) S14 (fun _ => none) 10 9 ([]) R K = haystacklaw01_heads (fun x0 => K (AV.bool x0)) := by
  rw [haystacklaw01_heads_unf]; kernel_rfl

noncomputable def sp9 : Ev.Spec := fun args _ K => match args with
  | [] => haystacklaw01_heads (fun x0 => K (AV.bool x0))
  | _ => none

theorem sp9_nat : SpecNat sp9 := fun args _ _ _ _ => by
  unfold sp9
  split
  · exact haystacklaw01_heads_push (fun _ => rfl)
  · rfl

theorem ok9 : SpecOk Tryd.prog (env (keepOf kpt)) 9 sp9 :=
  SpecOk.of (evSpec_ok (env_types _) (env_funs _) S14_ok (O := (fun _ => none)) ONat.none 10 9 (fun _ _ _ _ => OrcOk.none _ _)) sp9_nat (fun args z h => by
    unfold sp9 at h
    split at h
    · exact (haystacklaw01_heads_eq some).trans h
    · cases h)

noncomputable def S9 : FuncId → Option Ev.Spec := fun g => match g.beq 9 with | true => some sp9 | false => S14 g
theorem S9_ok : ∀ g sp, S9 g = some sp → SpecOk Tryd.prog (env (keepOf kpt)) g sp := fun g sp h => by
  unfold S9 at h
  split at h
  · rename_i hb; cases h; obtain rfl := Nat.eq_of_beq_eq_true hb; exact ok9
  · exact S14_ok g sp h

noncomputable def o3_4000_in {R : Type} (K : Ex → St → Option R) (vs : List AV) (hh : H) : Option R := match vs, hh with
  | [AV.int .u64 n51, AV.int .i64 n52], [] => haystacklaw01_WordRises_j4 n51 n52 (fun x0 => K (Ex.ret) (St.mk (spread 44 0 [4] [AV.bool x0]) []))
  | _, _ => none
noncomputable def o3_4000 : PSpec := fun st _ K => pickM 44 [0, 1] st (o3_4000_in K)

theorem o3_4000_nat (st : St) (R S : Type) (K : Ex → St → Option R) (J : R → Option S) : (o3_4000 st R K).bind J = o3_4000 st S fun ex st => (K ex st).bind J := by
  unfold o3_4000
  refine pickM_push fun vs hh => ?_
  unfold o3_4000_in
  split
  · exact haystacklaw01_WordRises_j4_push _ _ (fun _ => rfl)
  · rfl

noncomputable def o3 : Nat → Option PSpec := lkN [(4000, o3_4000)]

theorem o3_onat : ONat o3 := ONat.consT o3_4000_nat (ONat.nilT)

noncomputable def c3_4000 : Code := subC [1, 1] (bodyOf Tryd.f3)

theorem haystacklaw01_WordRises_j4_eq {R : Type} (n51 : Int) (n52 : Int) (K : Ex → St → Option R) : evCode (env (keepOf kpt)) (evFun (env (keepOf kpt)) S9 10) o3 3 ([] : H).length 3998 c3_4000 (St.mk (spread 44 0 [0, 1] [AV.int .u64 n51, AV.int .i64 n52]) []) (kOut (env (keepOf kpt)) 3 ([] : H).length (Ev.keyOf c3_4000 * 1000 + 1) K) = haystacklaw01_WordRises_j4 n51 n52 (fun x0 => K (Ex.ret) (St.mk (spread 44 0 [4] [AV.bool x0]) [])) := by
  rw [haystacklaw01_WordRises_j4_unf]; kernel_rfl

theorem p3_4000 : ∀ sp, o3 (Ev.keyOf c3_4000 * 1000) = some sp → ∀ (R : Type) (r : R) st (K : Ex → St → Option R), sp st R K = some r → evCode (env (keepOf kpt)) (evFun (env (keepOf kpt)) S9 10) o3 3 ([] : H).length 3998 c3_4000 st (kOut (env (keepOf kpt)) 3 ([] : H).length (Ev.keyOf c3_4000 * 1000 + 1) K) = some r := by
    intro sp hsp R r st K h
    have h1 : o3 (Ev.keyOf c3_4000 * 1000) = some o3_4000 := by kernel_rfl
    obtain rfl := Option.some.inj (h1.symm.trans hsp)
    unfold o3_4000 at h
    obtain ⟨vs, hh, rfl, h2⟩ := pickM_some h
    unfold o3_4000_in at h2
    split at h2
    · exact (haystacklaw01_WordRises_j4_eq _ _ K).trans h2
    · cases h2

theorem pc3 : ∀ x ∈ [(3998, false, c3_4000)], PieceOk (env (keepOf kpt)) (evFun (env (keepOf kpt)) S9 10) o3 3 ([] : H).length x := List.forall_mem_cons.2 ⟨p3_4000, fun _ h => nomatch h⟩

theorem haystacklaw01_WordRises_eq {R : Type} (n0 : Int) (n1 : Int) (K : AV → Option R) : evSpec (env (keepOf kpt)) S9 o3 10 3 ([AV.int .u64 n0, AV.int .i64 n1]) R K = haystacklaw01_WordRises n0 n1 (fun x0 => K (AV.bool x0)) := by
  rw [haystacklaw01_WordRises_unf]; kernel_rfl

noncomputable def sp3 : Ev.Spec := fun args _ K => match args with
  | [AV.int .u64 n0, AV.int .i64 n1] => haystacklaw01_WordRises n0 n1 (fun x0 => K (AV.bool x0))
  | _ => none

theorem sp3_nat : SpecNat sp3 := fun args _ _ _ _ => by
  unfold sp3
  split
  · exact haystacklaw01_WordRises_push _ _ (fun _ => rfl)
  · rfl

theorem ok3 : SpecOk Tryd.prog (env (keepOf kpt)) 3 sp3 :=
  SpecOk.of (evSpec_ok (env_types _) (env_funs _) S9_ok (O := o3) o3_onat 10 3 (fun fn c h1 h2 => by
    have e : (env (keepOf kpt)).F 3 = some Tryd.f3 := by kernel_rfl
    obtain rfl := Option.some.inj (e.symm.trans h1)
    obtain rfl := body_of h2
    exact OrcOk.of 4000 _ _ (show orcs o3 4000 (bodyOf Tryd.f3) = some [(3998, false, c3_4000)] by kernel_rfl) pc3)) sp3_nat (fun args z h => by
    unfold sp3 at h
    split at h
    · exact (haystacklaw01_WordRises_eq _ _ some).trans h
    · cases h)

noncomputable def S3 : FuncId → Option Ev.Spec := fun g => match g.beq 3 with | true => some sp3 | false => S9 g
theorem S3_ok : ∀ g sp, S3 g = some sp → SpecOk Tryd.prog (env (keepOf kpt)) g sp := fun g sp h => by
  unfold S3 at h
  split at h
  · rename_i hb; cases h; obtain rfl := Nat.eq_of_beq_eq_true hb; exact ok3
  · exact S9_ok g sp h

noncomputable def o4_3000_in {R : Type} (K : Ex → St → Option R) (vs : List AV) (hh : H) : Option R := match vs, hh with
  | [AV.int .i64 n61, AV.bool b62], [] => haystacklaw01_WordMasks_j3 n61 b62 (fun x0 => K (Ex.ret) (St.mk (spread 43 0 [2] [AV.bool x0]) [])) (fun x0 => K (Ex.normal) (St.mk (spread 43 0 [0] [AV.int .i64 x0]) []))
  | _, _ => none
noncomputable def o4_3000 : PSpec := fun st _ K => pickM 43 [0, 8] st (o4_3000_in K)

theorem o4_3000_nat (st : St) (R S : Type) (K : Ex → St → Option R) (J : R → Option S) : (o4_3000 st R K).bind J = o4_3000 st S fun ex st => (K ex st).bind J := by
  unfold o4_3000
  refine pickM_push fun vs hh => ?_
  unfold o4_3000_in
  split
  · exact haystacklaw01_WordMasks_j3_push _ _ (fun _ => rfl) (fun _ => rfl)
  · rfl

noncomputable def o4_4000_in {R : Type} (K : Ex → St → Option R) (vs : List AV) (hh : H) : Option R := match vs, hh with
  | [AV.int .i64 n68], [] => haystacklaw01_WordMasks_j4 n68 (fun x0 => K (Ex.ret) (St.mk (spread 43 0 [2] [AV.bool x0]) []))
  | _, _ => none
noncomputable def o4_4000 : PSpec := fun st _ K => pickM 43 [0] st (o4_4000_in K)

theorem o4_4000_nat (st : St) (R S : Type) (K : Ex → St → Option R) (J : R → Option S) : (o4_4000 st R K).bind J = o4_4000 st S fun ex st => (K ex st).bind J := by
  unfold o4_4000
  refine pickM_push fun vs hh => ?_
  unfold o4_4000_in
  split
  · exact haystacklaw01_WordMasks_j4_push _ (fun _ => rfl)
  · rfl

noncomputable def o4 : Nat → Option PSpec := lkN [(3000, o4_3000), (4000, o4_4000)]

theorem o4_onat : ONat o4 := ONat.consT o4_3000_nat (ONat.consT o4_4000_nat (ONat.nilT))

noncomputable def c4_4000 : Code := subC [1, 1] (bodyOf Tryd.f4)

noncomputable def c4_3000 : Code := subC [1, 0, 1] (bodyOf Tryd.f4)

theorem haystacklaw01_WordMasks_j3_eq {R : Type} (n61 : Int) (b62 : Bool) (K : Ex → St → Option R) : evCode (env (keepOf kpt)) (evFun (env (keepOf kpt)) S3 10) o4 4 ([] : H).length 3997 c4_3000 (St.mk (spread 43 0 [0, 8] [AV.int .i64 n61, AV.bool b62]) []) (kOut (env (keepOf kpt)) 4 ([] : H).length (Ev.keyOf c4_3000 * 1000 + 1) K) = haystacklaw01_WordMasks_j3 n61 b62 (fun x0 => K (Ex.ret) (St.mk (spread 43 0 [2] [AV.bool x0]) [])) (fun x0 => K (Ex.normal) (St.mk (spread 43 0 [0] [AV.int .i64 x0]) [])) := by
  rw [haystacklaw01_WordMasks_j3_unf]; kernel_rfl

theorem haystacklaw01_WordMasks_j4_eq {R : Type} (n68 : Int) (K : Ex → St → Option R) : evCode (env (keepOf kpt)) (evFun (env (keepOf kpt)) S3 10) o4 4 ([] : H).length 3998 c4_4000 (St.mk (spread 43 0 [0] [AV.int .i64 n68]) []) (kOut (env (keepOf kpt)) 4 ([] : H).length (Ev.keyOf c4_4000 * 1000 + 1) K) = haystacklaw01_WordMasks_j4 n68 (fun x0 => K (Ex.ret) (St.mk (spread 43 0 [2] [AV.bool x0]) [])) := by
  rw [haystacklaw01_WordMasks_j4_unf]; kernel_rfl

theorem p4_4000 : ∀ sp, o4 (Ev.keyOf c4_4000 * 1000) = some sp → ∀ (R : Type) (r : R) st (K : Ex → St → Option R), sp st R K = some r → evCode (env (keepOf kpt)) (evFun (env (keepOf kpt)) S3 10) o4 4 ([] : H).length 3998 c4_4000 st (kOut (env (keepOf kpt)) 4 ([] : H).length (Ev.keyOf c4_4000 * 1000 + 1) K) = some r := by
    intro sp hsp R r st K h
    have h1 : o4 (Ev.keyOf c4_4000 * 1000) = some o4_4000 := by kernel_rfl
    obtain rfl := Option.some.inj (h1.symm.trans hsp)
    unfold o4_4000 at h
    obtain ⟨vs, hh, rfl, h2⟩ := pickM_some h
    unfold o4_4000_in at h2
    split at h2
    · exact (haystacklaw01_WordMasks_j4_eq _ K).trans h2
    · cases h2

theorem p4_3000 : ∀ sp, o4 (Ev.keyOf c4_3000 * 1000) = some sp → ∀ (R : Type) (r : R) st (K : Ex → St → Option R), sp st R K = some r → evCode (env (keepOf kpt)) (evFun (env (keepOf kpt)) S3 10) o4 4 ([] : H).length 3997 c4_3000 st (kOut (env (keepOf kpt)) 4 ([] : H).length (Ev.keyOf c4_3000 * 1000 + 1) K) = some r := by
    intro sp hsp R r st K h
    have h1 : o4 (Ev.keyOf c4_3000 * 1000) = some o4_3000 := by kernel_rfl
    obtain rfl := Option.some.inj (h1.symm.trans hsp)
    unfold o4_3000 at h
    obtain ⟨vs, hh, rfl, h2⟩ := pickM_some h
    unfold o4_3000_in at h2
    split at h2
    · exact (haystacklaw01_WordMasks_j3_eq _ _ K).trans h2
    · cases h2

theorem pc4 : ∀ x ∈ [(3998, false, c4_4000), (3997, false, c4_3000)], PieceOk (env (keepOf kpt)) (evFun (env (keepOf kpt)) S3 10) o4 4 ([] : H).length x := List.forall_mem_cons.2 ⟨p4_4000, List.forall_mem_cons.2 ⟨p4_3000, fun _ h => nomatch h⟩⟩

theorem haystacklaw01_WordMasks_eq {R : Type} (n60 : Int) (K : AV → Option R) : evSpec (env (keepOf kpt)) S3 o4 10 4 ([AV.int .i64 n60]) R K = haystacklaw01_WordMasks n60 (fun x0 => K (AV.bool x0)) := by
  rw [haystacklaw01_WordMasks_unf]; kernel_rfl

noncomputable def sp4 : Ev.Spec := fun args _ K => match args with
  | [AV.int .i64 n60] => haystacklaw01_WordMasks n60 (fun x0 => K (AV.bool x0))
  | _ => none

theorem sp4_nat : SpecNat sp4 := fun args _ _ _ _ => by
  unfold sp4
  split
  · exact haystacklaw01_WordMasks_push _ (fun _ => rfl)
  · rfl

theorem ok4 : SpecOk Tryd.prog (env (keepOf kpt)) 4 sp4 :=
  SpecOk.of (evSpec_ok (env_types _) (env_funs _) S3_ok (O := o4) o4_onat 10 4 (fun fn c h1 h2 => by
    have e : (env (keepOf kpt)).F 4 = some Tryd.f4 := by kernel_rfl
    obtain rfl := Option.some.inj (e.symm.trans h1)
    obtain rfl := body_of h2
    exact OrcOk.of 4000 _ _ (show orcs o4 4000 (bodyOf Tryd.f4) = some [(3998, false, c4_4000), (3997, false, c4_3000)] by kernel_rfl) pc4)) sp4_nat (fun args z h => by
    unfold sp4 at h
    split at h
    · exact (haystacklaw01_WordMasks_eq _ some).trans h
    · cases h)

noncomputable def S4 : FuncId → Option Ev.Spec := fun g => match g.beq 4 with | true => some sp4 | false => S3 g
theorem S4_ok : ∀ g sp, S4 g = some sp → SpecOk Tryd.prog (env (keepOf kpt)) g sp := fun g sp h => by
  unfold S4 at h
  split at h
  · rename_i hb; cases h; obtain rfl := Nat.eq_of_beq_eq_true hb; exact ok4
  · exact S3_ok g sp h

noncomputable def o15_4400_in {R : Type} (K : Ex → St → Option R) (vs : List AV) (hh : H) : Option R := match vs, hh with
  | [AV.int .i64 n85, AV.int .u64 n86, AV.int .i64 n87], [] => haystackref01_Mask_l4 n85 n86 n87 (fun x0 => K (Ex.exit 0) (St.mk (spread 20 0 [3] [AV.int .u64 x0]) []))
  | _, _ => none
noncomputable def o15_4400 : PSpec := fun st _ K => pickM 20 [0, 3, 4] st (o15_4400_in K)

theorem o15_4400_nat (st : St) (R S : Type) (K : Ex → St → Option R) (J : R → Option S) : (o15_4400 st R K).bind J = o15_4400 st S fun ex st => (K ex st).bind J := by
  unfold o15_4400
  refine pickM_push fun vs hh => ?_
  unfold o15_4400_in
  split
  · exact haystackref01_Mask_l4_push _ _ _ (fun _ => rfl)
  · rfl

noncomputable def o15_6000_in {R : Type} (K : Ex → St → Option R) (vs : List AV) (hh : H) : Option R := match vs, hh with
  | [AV.int .i64 n88, AV.int .u64 n89, AV.int .i64 n90], [] => haystackref01_Mask_j6 n88 n89 n90 (fun x0 x1 x2 => K (Ex.normal) (St.mk (spread 20 0 [0, 3, 4] [AV.int .i64 x0, AV.int .u64 x1, AV.int .i64 x2]) []))
  | _, _ => none
noncomputable def o15_6000 : PSpec := fun st _ K => pickM 20 [0, 3, 4] st (o15_6000_in K)

theorem o15_6000_nat (st : St) (R S : Type) (K : Ex → St → Option R) (J : R → Option S) : (o15_6000 st R K).bind J = o15_6000 st S fun ex st => (K ex st).bind J := by
  unfold o15_6000
  refine pickM_push fun vs hh => ?_
  unfold o15_6000_in
  split
  · exact haystackref01_Mask_j6_push _ _ _ (fun _ _ _ => rfl)
  · rfl

noncomputable def o15 : Nat → Option PSpec := lkN [(4400, o15_4400), (6000, o15_6000)]

theorem o15_onat : ONat o15 := ONat.consT o15_4400_nat (ONat.consT o15_6000_nat (ONat.nilT))

noncomputable def c15_4400 : Code := subC [1, 1, 0, 1, 0, 0] (bodyOf Tryd.f15)

noncomputable def lp15_4400 {R : Type} (N : Nat) (st : St) (K : Ex → St → Option R) : Option R := evLoop (norm ((env (keepOf kpt)).keep 15 (Ev.keyOf c15_4400 * 1000 + 400)) ([] : H).length) (evCode (env (keepOf kpt)) (evFun (env (keepOf kpt)) S4 10) o15 15 ([] : H).length 3994 c15_4400) N st (kOut (env (keepOf kpt)) 15 ([] : H).length (Ev.keyOf c15_4400 * 1000 + 401) K)

noncomputable def c15_6000 : Code := subC [1, 1, 0, 1, 0, 0, 1] (bodyOf Tryd.f15)

theorem haystackref01_Mask_j6_eq {R : Type} (n88 : Int) (n89 : Int) (n90 : Int) (K : Ex → St → Option R) : evCode (env (keepOf kpt)) (evFun (env (keepOf kpt)) S4 10) o15 15 ([] : H).length 3993 c15_6000 (St.mk (spread 20 0 [0, 3, 4] [AV.int .i64 n88, AV.int .u64 n89, AV.int .i64 n90]) []) (kOut (env (keepOf kpt)) 15 ([] : H).length (Ev.keyOf c15_6000 * 1000 + 1) K) = haystackref01_Mask_j6 n88 n89 n90 (fun x0 x1 x2 => K (Ex.normal) (St.mk (spread 20 0 [0, 3, 4] [AV.int .i64 x0, AV.int .u64 x1, AV.int .i64 x2]) [])) := by
  rw [haystackref01_Mask_j6_unf]; kernel_rfl

theorem haystackref01_Mask_l4_step {R : Type} (N : Nat) (n85 : Int) (n86 : Int) (n87 : Int) (K : Ex → St → Option R) : lp15_4400 (N + 1) (St.mk (spread 20 0 [0, 3, 4] [AV.int .i64 n85, AV.int .u64 n86, AV.int .i64 n87]) []) K = haystackref01_Mask_l4_T (fun n85 n86 n87 => lp15_4400 N (St.mk (spread 20 0 [0, 3, 4] [AV.int .i64 n85, AV.int .u64 n86, AV.int .i64 n87]) []) K) n85 n86 n87 (fun x0 => K (Ex.exit 0) (St.mk (spread 20 0 [3] [AV.int .u64 x0]) [])) := by kernel_rfl

theorem haystackref01_Mask_l4_L_eq {R : Type} : ∀ (N : Nat) (n85 : Int) (n86 : Int) (n87 : Int) (K : Ex → St → Option R), lp15_4400 N (St.mk (spread 20 0 [0, 3, 4] [AV.int .i64 n85, AV.int .u64 n86, AV.int .i64 n87]) []) K = haystackref01_Mask_l4_L (fun x0 => K (Ex.exit 0) (St.mk (spread 20 0 [3] [AV.int .u64 x0]) [])) N n85 n86 n87
  | 0, _, _, _, _ => rfl
  | N + 1, n85, n86, n87, K => by rw [haystackref01_Mask_l4_step]; simp only [haystackref01_Mask_l4_L_eq N]; rfl

theorem p15_4400 : ∀ sp, o15 (Ev.keyOf c15_4400 * 1000 + 400) = some sp → ∀ (R : Type) (r : R) st (K : Ex → St → Option R), sp st R K = some r → lp15_4400 NR st K = some r := by
    intro sp hsp R r st K h
    have h1 : o15 (Ev.keyOf c15_4400 * 1000 + 400) = some o15_4400 := by kernel_rfl
    obtain rfl := Option.some.inj (h1.symm.trans hsp)
    unfold o15_4400 at h
    obtain ⟨vs, hh, rfl, h2⟩ := pickM_some h
    unfold o15_4400_in at h2
    split at h2
    · exact (haystackref01_Mask_l4_L_eq NR _ _ _ K).trans (haystackref01_Mask_l4_unf _ _ _ (fun x0 => K (Ex.exit 0) (St.mk (spread 20 0 [3] [AV.int .u64 x0]) []))).symm |>.trans h2
    · cases h2

theorem p15_6000 : ∀ sp, o15 (Ev.keyOf c15_6000 * 1000) = some sp → ∀ (R : Type) (r : R) st (K : Ex → St → Option R), sp st R K = some r → evCode (env (keepOf kpt)) (evFun (env (keepOf kpt)) S4 10) o15 15 ([] : H).length 3993 c15_6000 st (kOut (env (keepOf kpt)) 15 ([] : H).length (Ev.keyOf c15_6000 * 1000 + 1) K) = some r := by
    intro sp hsp R r st K h
    have h1 : o15 (Ev.keyOf c15_6000 * 1000) = some o15_6000 := by kernel_rfl
    obtain rfl := Option.some.inj (h1.symm.trans hsp)
    unfold o15_6000 at h
    obtain ⟨vs, hh, rfl, h2⟩ := pickM_some h
    unfold o15_6000_in at h2
    split at h2
    · exact (haystackref01_Mask_j6_eq _ _ _ K).trans h2
    · cases h2

theorem pc15 : ∀ x ∈ [(3994, true, c15_4400), (3993, false, c15_6000)], PieceOk (env (keepOf kpt)) (evFun (env (keepOf kpt)) S4 10) o15 15 ([] : H).length x := List.forall_mem_cons.2 ⟨p15_4400, List.forall_mem_cons.2 ⟨p15_6000, fun _ h => nomatch h⟩⟩

theorem haystackref01_Mask_eq {R : Type} (n84 : Int) (K : AV → Option R) : evSpec (env (keepOf kpt)) S4 o15 10 15 ([AV.int .i64 n84]) R K = haystackref01_Mask n84 (fun x0 => K (AV.int .u64 x0)) := by
  rw [haystackref01_Mask_unf]; kernel_rfl

noncomputable def sp15 : Ev.Spec := fun args _ K => match args with
  | [AV.int .i64 n84] => haystackref01_Mask n84 (fun x0 => K (AV.int .u64 x0))
  | _ => none

theorem sp15_nat : SpecNat sp15 := fun args _ _ _ _ => by
  unfold sp15
  split
  · exact haystackref01_Mask_push _ (fun _ => rfl)
  · rfl

theorem ok15 : SpecOk Tryd.prog (env (keepOf kpt)) 15 sp15 :=
  SpecOk.of (evSpec_ok (env_types _) (env_funs _) S4_ok (O := o15) o15_onat 10 15 (fun fn c h1 h2 => by
    have e : (env (keepOf kpt)).F 15 = some Tryd.f15 := by kernel_rfl
    obtain rfl := Option.some.inj (e.symm.trans h1)
    obtain rfl := body_of h2
    exact OrcOk.of 4000 _ _ (show orcs o15 4000 (bodyOf Tryd.f15) = some [(3994, true, c15_4400), (3993, false, c15_6000)] by kernel_rfl) pc15)) sp15_nat (fun args z h => by
    unfold sp15 at h
    split at h
    · exact (haystackref01_Mask_eq _ some).trans h
    · cases h)

noncomputable def S15 : FuncId → Option Ev.Spec := fun g => match g.beq 15 with | true => some sp15 | false => S4 g
theorem S15_ok : ∀ g sp, S15 g = some sp → SpecOk Tryd.prog (env (keepOf kpt)) g sp := fun g sp h => by
  unfold S15 at h
  split at h
  · rename_i hb; cases h; obtain rfl := Nat.eq_of_beq_eq_true hb; exact ok15
  · exact S4_ok g sp h

noncomputable def o17_4400_in {R : Type} (K : Ex → St → Option R) (vs : List AV) (hh : H) : Option R := match vs, hh with
  | [AV.int .u64 n100, AV.int .i64 n101, AV.int .i64 n102, AV.int .i64 n103], [] => haystackref01_Rank_l4 n100 n101 n102 n103 (fun x0 => K (Ex.exit 0) (St.mk (spread 25 0 [5] [AV.int .i64 x0]) []))
  | _, _ => none
noncomputable def o17_4400 : PSpec := fun st _ K => pickM 25 [0, 1, 5, 6] st (o17_4400_in K)

theorem o17_4400_nat (st : St) (R S : Type) (K : Ex → St → Option R) (J : R → Option S) : (o17_4400 st R K).bind J = o17_4400 st S fun ex st => (K ex st).bind J := by
  unfold o17_4400
  refine pickM_push fun vs hh => ?_
  unfold o17_4400_in
  split
  · exact haystackref01_Rank_l4_push _ _ _ _ (fun _ => rfl)
  · rfl

noncomputable def o17_6000_in {R : Type} (K : Ex → St → Option R) (vs : List AV) (hh : H) : Option R := match vs, hh with
  | [AV.int .u64 n104, AV.int .i64 n105, AV.int .i64 n106, AV.int .i64 n107], [] => haystackref01_Rank_j6 n104 n105 n106 n107 (fun x0 x1 x2 x3 => K (Ex.normal) (St.mk (spread 25 0 [0, 1, 5, 6] [AV.int .u64 x0, AV.int .i64 x1, AV.int .i64 x2, AV.int .i64 x3]) []))
  | _, _ => none
noncomputable def o17_6000 : PSpec := fun st _ K => pickM 25 [0, 1, 5, 6] st (o17_6000_in K)

theorem o17_6000_nat (st : St) (R S : Type) (K : Ex → St → Option R) (J : R → Option S) : (o17_6000 st R K).bind J = o17_6000 st S fun ex st => (K ex st).bind J := by
  unfold o17_6000
  refine pickM_push fun vs hh => ?_
  unfold o17_6000_in
  split
  · exact haystackref01_Rank_j6_push _ _ _ _ (fun _ _ _ _ => rfl)
  · rfl

noncomputable def o17 : Nat → Option PSpec := lkN [(4400, o17_4400), (6000, o17_6000)]

theorem o17_onat : ONat o17 := ONat.consT o17_4400_nat (ONat.consT o17_6000_nat (ONat.nilT))

noncomputable def c17_4400 : Code := subC [1, 1, 0, 1, 0, 0] (bodyOf Tryd.f17)

noncomputable def lp17_4400 {R : Type} (N : Nat) (st : St) (K : Ex → St → Option R) : Option R := evLoop (norm ((env (keepOf kpt)).keep 17 (Ev.keyOf c17_4400 * 1000 + 400)) ([] : H).length) (evCode (env (keepOf kpt)) (evFun (env (keepOf kpt)) S15 10) o17 17 ([] : H).length 3994 c17_4400) N st (kOut (env (keepOf kpt)) 17 ([] : H).length (Ev.keyOf c17_4400 * 1000 + 401) K)

noncomputable def c17_6000 : Code := subC [1, 1, 0, 1, 0, 0, 1] (bodyOf Tryd.f17)

theorem haystackref01_Rank_j6_eq {R : Type} (n104 : Int) (n105 : Int) (n106 : Int) (n107 : Int) (K : Ex → St → Option R) : evCode (env (keepOf kpt)) (evFun (env (keepOf kpt)) S15 10) o17 17 ([] : H).length 3993 c17_6000 (St.mk (spread 25 0 [0, 1, 5, 6] [AV.int .u64 n104, AV.int .i64 n105, AV.int .i64 n106, AV.int .i64 n107]) []) (kOut (env (keepOf kpt)) 17 ([] : H).length (Ev.keyOf c17_6000 * 1000 + 1) K) = haystackref01_Rank_j6 n104 n105 n106 n107 (fun x0 x1 x2 x3 => K (Ex.normal) (St.mk (spread 25 0 [0, 1, 5, 6] [AV.int .u64 x0, AV.int .i64 x1, AV.int .i64 x2, AV.int .i64 x3]) [])) := by
  rw [haystackref01_Rank_j6_unf]; kernel_rfl

theorem haystackref01_Rank_l4_step {R : Type} (N : Nat) (n100 : Int) (n101 : Int) (n102 : Int) (n103 : Int) (K : Ex → St → Option R) : lp17_4400 (N + 1) (St.mk (spread 25 0 [0, 1, 5, 6] [AV.int .u64 n100, AV.int .i64 n101, AV.int .i64 n102, AV.int .i64 n103]) []) K = haystackref01_Rank_l4_T (fun n100 n101 n102 n103 => lp17_4400 N (St.mk (spread 25 0 [0, 1, 5, 6] [AV.int .u64 n100, AV.int .i64 n101, AV.int .i64 n102, AV.int .i64 n103]) []) K) n100 n101 n102 n103 (fun x0 => K (Ex.exit 0) (St.mk (spread 25 0 [5] [AV.int .i64 x0]) [])) := by kernel_rfl

theorem haystackref01_Rank_l4_L_eq {R : Type} : ∀ (N : Nat) (n100 : Int) (n101 : Int) (n102 : Int) (n103 : Int) (K : Ex → St → Option R), lp17_4400 N (St.mk (spread 25 0 [0, 1, 5, 6] [AV.int .u64 n100, AV.int .i64 n101, AV.int .i64 n102, AV.int .i64 n103]) []) K = haystackref01_Rank_l4_L (fun x0 => K (Ex.exit 0) (St.mk (spread 25 0 [5] [AV.int .i64 x0]) [])) N n100 n101 n102 n103
  | 0, _, _, _, _, _ => rfl
  | N + 1, n100, n101, n102, n103, K => by rw [haystackref01_Rank_l4_step]; simp only [haystackref01_Rank_l4_L_eq N]; rfl

theorem p17_4400 : ∀ sp, o17 (Ev.keyOf c17_4400 * 1000 + 400) = some sp → ∀ (R : Type) (r : R) st (K : Ex → St → Option R), sp st R K = some r → lp17_4400 NR st K = some r := by
    intro sp hsp R r st K h
    have h1 : o17 (Ev.keyOf c17_4400 * 1000 + 400) = some o17_4400 := by kernel_rfl
    obtain rfl := Option.some.inj (h1.symm.trans hsp)
    unfold o17_4400 at h
    obtain ⟨vs, hh, rfl, h2⟩ := pickM_some h
    unfold o17_4400_in at h2
    split at h2
    · exact (haystackref01_Rank_l4_L_eq NR _ _ _ _ K).trans (haystackref01_Rank_l4_unf _ _ _ _ (fun x0 => K (Ex.exit 0) (St.mk (spread 25 0 [5] [AV.int .i64 x0]) []))).symm |>.trans h2
    · cases h2

theorem p17_6000 : ∀ sp, o17 (Ev.keyOf c17_6000 * 1000) = some sp → ∀ (R : Type) (r : R) st (K : Ex → St → Option R), sp st R K = some r → evCode (env (keepOf kpt)) (evFun (env (keepOf kpt)) S15 10) o17 17 ([] : H).length 3993 c17_6000 st (kOut (env (keepOf kpt)) 17 ([] : H).length (Ev.keyOf c17_6000 * 1000 + 1) K) = some r := by
    intro sp hsp R r st K h
    have h1 : o17 (Ev.keyOf c17_6000 * 1000) = some o17_6000 := by kernel_rfl
    obtain rfl := Option.some.inj (h1.symm.trans hsp)
    unfold o17_6000 at h
    obtain ⟨vs, hh, rfl, h2⟩ := pickM_some h
    unfold o17_6000_in at h2
    split at h2
    · exact (haystackref01_Rank_j6_eq _ _ _ _ K).trans h2
    · cases h2

theorem pc17 : ∀ x ∈ [(3994, true, c17_4400), (3993, false, c17_6000)], PieceOk (env (keepOf kpt)) (evFun (env (keepOf kpt)) S15 10) o17 17 ([] : H).length x := List.forall_mem_cons.2 ⟨p17_4400, List.forall_mem_cons.2 ⟨p17_6000, fun _ h => nomatch h⟩⟩

theorem haystackref01_Rank_eq {R : Type} (n98 : Int) (n99 : Int) (K : AV → Option R) : evSpec (env (keepOf kpt)) S15 o17 10 17 ([AV.int .u64 n98, AV.int .i64 n99]) R K = haystackref01_Rank n98 n99 (fun x0 => K (AV.int .i64 x0)) := by
  rw [haystackref01_Rank_unf]; kernel_rfl

noncomputable def sp17 : Ev.Spec := fun args _ K => match args with
  | [AV.int .u64 n98, AV.int .i64 n99] => haystackref01_Rank n98 n99 (fun x0 => K (AV.int .i64 x0))
  | _ => none

theorem sp17_nat : SpecNat sp17 := fun args _ _ _ _ => by
  unfold sp17
  split
  · exact haystackref01_Rank_push _ _ (fun _ => rfl)
  · rfl

theorem ok17 : SpecOk Tryd.prog (env (keepOf kpt)) 17 sp17 :=
  SpecOk.of (evSpec_ok (env_types _) (env_funs _) S15_ok (O := o17) o17_onat 10 17 (fun fn c h1 h2 => by
    have e : (env (keepOf kpt)).F 17 = some Tryd.f17 := by kernel_rfl
    obtain rfl := Option.some.inj (e.symm.trans h1)
    obtain rfl := body_of h2
    exact OrcOk.of 4000 _ _ (show orcs o17 4000 (bodyOf Tryd.f17) = some [(3994, true, c17_4400), (3993, false, c17_6000)] by kernel_rfl) pc17)) sp17_nat (fun args z h => by
    unfold sp17 at h
    split at h
    · exact (haystackref01_Rank_eq _ _ some).trans h
    · cases h)

noncomputable def S17 : FuncId → Option Ev.Spec := fun g => match g.beq 17 with | true => some sp17 | false => S15 g
theorem S17_ok : ∀ g sp, S17 g = some sp → SpecOk Tryd.prog (env (keepOf kpt)) g sp := fun g sp h => by
  unfold S17 at h
  split at h
  · rename_i hb; cases h; obtain rfl := Nat.eq_of_beq_eq_true hb; exact ok17
  · exact S15_ok g sp h

theorem haystackref01_Pop_eq {R : Type} (n97 : Int) (K : AV → Option R) : evSpec (env (keepOf kpt)) S17 (fun _ => none) 10 16 ([AV.int .u64 n97]) R K = haystackref01_Pop n97 (fun x0 => K (AV.int .i64 x0)) := by
  rw [haystackref01_Pop_unf]; kernel_rfl

noncomputable def sp16 : Ev.Spec := fun args _ K => match args with
  | [AV.int .u64 n97] => haystackref01_Pop n97 (fun x0 => K (AV.int .i64 x0))
  | _ => none

theorem sp16_nat : SpecNat sp16 := fun args _ _ _ _ => by
  unfold sp16
  split
  · exact haystackref01_Pop_push _ (fun _ => rfl)
  · rfl

theorem ok16 : SpecOk Tryd.prog (env (keepOf kpt)) 16 sp16 :=
  SpecOk.of (evSpec_ok (env_types _) (env_funs _) S17_ok (O := (fun _ => none)) ONat.none 10 16 (fun _ _ _ _ => OrcOk.none _ _)) sp16_nat (fun args z h => by
    unfold sp16 at h
    split at h
    · exact (haystackref01_Pop_eq _ some).trans h
    · cases h)

noncomputable def S16 : FuncId → Option Ev.Spec := fun g => match g.beq 16 with | true => some sp16 | false => S17 g
theorem S16_ok : ∀ g sp, S16 g = some sp → SpecOk Tryd.prog (env (keepOf kpt)) g sp := fun g sp h => by
  unfold S16 at h
  split at h
  · rename_i hb; cases h; obtain rfl := Nat.eq_of_beq_eq_true hb; exact ok16
  · exact S17_ok g sp h

noncomputable def o18_4400_in {R : Type} (K : Ex → St → Option R) (vs : List AV) (hh : H) : Option R := match vs, hh with
  | [AV.int .u64 n120, AV.int .i64 n121, AV.int .i64 n122, AV.int .i64 n123], [] => haystackref01_Select_l4 n120 n121 n122 n123 (fun x0 => K (Ex.ret) (St.mk (spread 23 0 [4] [AV.int .i64 x0]) [])) (fun _ => K (Ex.exit 0) (St.mk (spread 23 0 [] []) []))
  | _, _ => none
noncomputable def o18_4400 : PSpec := fun st _ K => pickM 23 [0, 1, 5, 6] st (o18_4400_in K)

theorem o18_4400_nat (st : St) (R S : Type) (K : Ex → St → Option R) (J : R → Option S) : (o18_4400 st R K).bind J = o18_4400 st S fun ex st => (K ex st).bind J := by
  unfold o18_4400
  refine pickM_push fun vs hh => ?_
  unfold o18_4400_in
  split
  · exact haystackref01_Select_l4_push _ _ _ _ (fun _ => rfl) (fun _ => rfl)
  · rfl

noncomputable def o18 : Nat → Option PSpec := lkN [(4400, o18_4400)]

theorem o18_onat : ONat o18 := ONat.consT o18_4400_nat (ONat.nilT)

noncomputable def c18_4400 : Code := subC [1, 1, 0, 1, 0, 0] (bodyOf Tryd.f18)

noncomputable def lp18_4400 {R : Type} (N : Nat) (st : St) (K : Ex → St → Option R) : Option R := evLoop (norm ((env (keepOf kpt)).keep 18 (Ev.keyOf c18_4400 * 1000 + 400)) ([] : H).length) (evCode (env (keepOf kpt)) (evFun (env (keepOf kpt)) S16 10) o18 18 ([] : H).length 3994 c18_4400) N st (kOut (env (keepOf kpt)) 18 ([] : H).length (Ev.keyOf c18_4400 * 1000 + 401) K)

theorem haystackref01_Select_l4_step {R : Type} (N : Nat) (n120 : Int) (n121 : Int) (n122 : Int) (n123 : Int) (K : Ex → St → Option R) : lp18_4400 (N + 1) (St.mk (spread 23 0 [0, 1, 5, 6] [AV.int .u64 n120, AV.int .i64 n121, AV.int .i64 n122, AV.int .i64 n123]) []) K = haystackref01_Select_l4_T (fun n120 n121 n122 n123 => lp18_4400 N (St.mk (spread 23 0 [0, 1, 5, 6] [AV.int .u64 n120, AV.int .i64 n121, AV.int .i64 n122, AV.int .i64 n123]) []) K) n120 n121 n122 n123 (fun x0 => K (Ex.ret) (St.mk (spread 23 0 [4] [AV.int .i64 x0]) [])) (fun _ => K (Ex.exit 0) (St.mk (spread 23 0 [] []) [])) := by kernel_rfl

theorem haystackref01_Select_l4_L_eq {R : Type} : ∀ (N : Nat) (n120 : Int) (n121 : Int) (n122 : Int) (n123 : Int) (K : Ex → St → Option R), lp18_4400 N (St.mk (spread 23 0 [0, 1, 5, 6] [AV.int .u64 n120, AV.int .i64 n121, AV.int .i64 n122, AV.int .i64 n123]) []) K = haystackref01_Select_l4_L (fun x0 => K (Ex.ret) (St.mk (spread 23 0 [4] [AV.int .i64 x0]) [])) (fun _ => K (Ex.exit 0) (St.mk (spread 23 0 [] []) [])) N n120 n121 n122 n123
  | 0, _, _, _, _, _ => rfl
  | N + 1, n120, n121, n122, n123, K => by rw [haystackref01_Select_l4_step]; simp only [haystackref01_Select_l4_L_eq N]; rfl

theorem p18_4400 : ∀ sp, o18 (Ev.keyOf c18_4400 * 1000 + 400) = some sp → ∀ (R : Type) (r : R) st (K : Ex → St → Option R), sp st R K = some r → lp18_4400 NR st K = some r := by
    intro sp hsp R r st K h
    have h1 : o18 (Ev.keyOf c18_4400 * 1000 + 400) = some o18_4400 := by kernel_rfl
    obtain rfl := Option.some.inj (h1.symm.trans hsp)
    unfold o18_4400 at h
    obtain ⟨vs, hh, rfl, h2⟩ := pickM_some h
    unfold o18_4400_in at h2
    split at h2
    · exact (haystackref01_Select_l4_L_eq NR _ _ _ _ K).trans (haystackref01_Select_l4_unf _ _ _ _ (fun x0 => K (Ex.ret) (St.mk (spread 23 0 [4] [AV.int .i64 x0]) [])) (fun _ => K (Ex.exit 0) (St.mk (spread 23 0 [] []) []))).symm |>.trans h2
    · cases h2

theorem pc18 : ∀ x ∈ [(3994, true, c18_4400)], PieceOk (env (keepOf kpt)) (evFun (env (keepOf kpt)) S16 10) o18 18 ([] : H).length x := List.forall_mem_cons.2 ⟨p18_4400, fun _ h => nomatch h⟩

theorem haystackref01_Select_eq {R : Type} (n118 : Int) (n119 : Int) (K : AV → Option R) : evSpec (env (keepOf kpt)) S16 o18 10 18 ([AV.int .u64 n118, AV.int .i64 n119]) R K = haystackref01_Select n118 n119 (fun x0 => K (AV.int .i64 x0)) := by
  rw [haystackref01_Select_unf]; kernel_rfl

noncomputable def sp18 : Ev.Spec := fun args _ K => match args with
  | [AV.int .u64 n118, AV.int .i64 n119] => haystackref01_Select n118 n119 (fun x0 => K (AV.int .i64 x0))
  | _ => none

theorem sp18_nat : SpecNat sp18 := fun args _ _ _ _ => by
  unfold sp18
  split
  · exact haystackref01_Select_push _ _ (fun _ => rfl)
  · rfl

theorem ok18 : SpecOk Tryd.prog (env (keepOf kpt)) 18 sp18 :=
  SpecOk.of (evSpec_ok (env_types _) (env_funs _) S16_ok (O := o18) o18_onat 10 18 (fun fn c h1 h2 => by
    have e : (env (keepOf kpt)).F 18 = some Tryd.f18 := by kernel_rfl
    obtain rfl := Option.some.inj (e.symm.trans h1)
    obtain rfl := body_of h2
    exact OrcOk.of 4000 _ _ (show orcs o18 4000 (bodyOf Tryd.f18) = some [(3994, true, c18_4400)] by kernel_rfl) pc18)) sp18_nat (fun args z h => by
    unfold sp18 at h
    split at h
    · exact (haystackref01_Select_eq _ _ some).trans h
    · cases h)

noncomputable def S18 : FuncId → Option Ev.Spec := fun g => match g.beq 18 with | true => some sp18 | false => S16 g
theorem S18_ok : ∀ g sp, S18 g = some sp → SpecOk Tryd.prog (env (keepOf kpt)) g sp := fun g sp h => by
  unfold S18 at h
  split at h
  · rename_i hb; cases h; obtain rfl := Nat.eq_of_beq_eq_true hb; exact ok18
  · exact S16_ok g sp h

noncomputable def o19_3400_in {R : Type} (K : Ex → St → Option R) (vs : List AV) (hh : H) : Option R := match vs, hh with
  | [AV.int .u64 n128, AV.int .i64 n129], [] => haystackref01_Len_l3 n128 n129 (fun x0 => K (Ex.ret) (St.mk (spread 16 0 [2] [AV.int .i64 x0]) [])) (fun _ => K (Ex.exit 0) (St.mk (spread 16 0 [] []) []))
  | _, _ => none
noncomputable def o19_3400 : PSpec := fun st _ K => pickM 16 [0, 3] st (o19_3400_in K)

theorem o19_3400_nat (st : St) (R S : Type) (K : Ex → St → Option R) (J : R → Option S) : (o19_3400 st R K).bind J = o19_3400 st S fun ex st => (K ex st).bind J := by
  unfold o19_3400
  refine pickM_push fun vs hh => ?_
  unfold o19_3400_in
  split
  · exact haystackref01_Len_l3_push _ _ (fun _ => rfl) (fun _ => rfl)
  · rfl

noncomputable def o19 : Nat → Option PSpec := lkN [(3400, o19_3400)]

theorem o19_onat : ONat o19 := ONat.consT o19_3400_nat (ONat.nilT)

noncomputable def c19_3400 : Code := subC [1, 0, 1, 0, 0] (bodyOf Tryd.f19)

noncomputable def lp19_3400 {R : Type} (N : Nat) (st : St) (K : Ex → St → Option R) : Option R := evLoop (norm ((env (keepOf kpt)).keep 19 (Ev.keyOf c19_3400 * 1000 + 400)) ([] : H).length) (evCode (env (keepOf kpt)) (evFun (env (keepOf kpt)) S18 10) o19 19 ([] : H).length 3995 c19_3400) N st (kOut (env (keepOf kpt)) 19 ([] : H).length (Ev.keyOf c19_3400 * 1000 + 401) K)

theorem haystackref01_Len_l3_step {R : Type} (N : Nat) (n128 : Int) (n129 : Int) (K : Ex → St → Option R) : lp19_3400 (N + 1) (St.mk (spread 16 0 [0, 3] [AV.int .u64 n128, AV.int .i64 n129]) []) K = haystackref01_Len_l3_T (fun n128 n129 => lp19_3400 N (St.mk (spread 16 0 [0, 3] [AV.int .u64 n128, AV.int .i64 n129]) []) K) n128 n129 (fun x0 => K (Ex.ret) (St.mk (spread 16 0 [2] [AV.int .i64 x0]) [])) (fun _ => K (Ex.exit 0) (St.mk (spread 16 0 [] []) [])) := by kernel_rfl

theorem haystackref01_Len_l3_L_eq {R : Type} : ∀ (N : Nat) (n128 : Int) (n129 : Int) (K : Ex → St → Option R), lp19_3400 N (St.mk (spread 16 0 [0, 3] [AV.int .u64 n128, AV.int .i64 n129]) []) K = haystackref01_Len_l3_L (fun x0 => K (Ex.ret) (St.mk (spread 16 0 [2] [AV.int .i64 x0]) [])) (fun _ => K (Ex.exit 0) (St.mk (spread 16 0 [] []) [])) N n128 n129
  | 0, _, _, _ => rfl
  | N + 1, n128, n129, K => by rw [haystackref01_Len_l3_step]; simp only [haystackref01_Len_l3_L_eq N]; rfl

theorem p19_3400 : ∀ sp, o19 (Ev.keyOf c19_3400 * 1000 + 400) = some sp → ∀ (R : Type) (r : R) st (K : Ex → St → Option R), sp st R K = some r → lp19_3400 NR st K = some r := by
    intro sp hsp R r st K h
    have h1 : o19 (Ev.keyOf c19_3400 * 1000 + 400) = some o19_3400 := by kernel_rfl
    obtain rfl := Option.some.inj (h1.symm.trans hsp)
    unfold o19_3400 at h
    obtain ⟨vs, hh, rfl, h2⟩ := pickM_some h
    unfold o19_3400_in at h2
    split at h2
    · exact (haystackref01_Len_l3_L_eq NR _ _ K).trans (haystackref01_Len_l3_unf _ _ (fun x0 => K (Ex.ret) (St.mk (spread 16 0 [2] [AV.int .i64 x0]) [])) (fun _ => K (Ex.exit 0) (St.mk (spread 16 0 [] []) []))).symm |>.trans h2
    · cases h2

theorem pc19 : ∀ x ∈ [(3995, true, c19_3400)], PieceOk (env (keepOf kpt)) (evFun (env (keepOf kpt)) S18 10) o19 19 ([] : H).length x := List.forall_mem_cons.2 ⟨p19_3400, fun _ h => nomatch h⟩

theorem haystackref01_Len_eq {R : Type} (n127 : Int) (K : AV → Option R) : evSpec (env (keepOf kpt)) S18 o19 10 19 ([AV.int .u64 n127]) R K = haystackref01_Len n127 (fun x0 => K (AV.int .i64 x0)) := by
  rw [haystackref01_Len_unf]; kernel_rfl

noncomputable def sp19 : Ev.Spec := fun args _ K => match args with
  | [AV.int .u64 n127] => haystackref01_Len n127 (fun x0 => K (AV.int .i64 x0))
  | _ => none

theorem sp19_nat : SpecNat sp19 := fun args _ _ _ _ => by
  unfold sp19
  split
  · exact haystackref01_Len_push _ (fun _ => rfl)
  · rfl

theorem ok19 : SpecOk Tryd.prog (env (keepOf kpt)) 19 sp19 :=
  SpecOk.of (evSpec_ok (env_types _) (env_funs _) S18_ok (O := o19) o19_onat 10 19 (fun fn c h1 h2 => by
    have e : (env (keepOf kpt)).F 19 = some Tryd.f19 := by kernel_rfl
    obtain rfl := Option.some.inj (e.symm.trans h1)
    obtain rfl := body_of h2
    exact OrcOk.of 4000 _ _ (show orcs o19 4000 (bodyOf Tryd.f19) = some [(3995, true, c19_3400)] by kernel_rfl) pc19)) sp19_nat (fun args z h => by
    unfold sp19 at h
    split at h
    · exact (haystackref01_Len_eq _ some).trans h
    · cases h)

noncomputable def S19 : FuncId → Option Ev.Spec := fun g => match g.beq 19 with | true => some sp19 | false => S18 g
theorem S19_ok : ∀ g sp, S19 g = some sp → SpecOk Tryd.prog (env (keepOf kpt)) g sp := fun g sp h => by
  unfold S19 at h
  split at h
  · rename_i hb; cases h; obtain rfl := Nat.eq_of_beq_eq_true hb; exact ok19
  · exact S18_ok g sp h

theorem haystacklaw01_WordTells_eq {R : Type} (n80 : Int) (n81 : Int) (n82 : Int) (K : AV → Option R) : evSpec (env (keepOf kpt)) S19 (fun _ => none) 10 5 ([AV.int .u64 n80, AV.int .i64 n81, AV.int .i64 n82]) R K = haystacklaw01_WordTells n80 n81 n82 (fun x0 => K (AV.bool x0)) := by
  rw [haystacklaw01_WordTells_unf]; kernel_rfl

noncomputable def sp5 : Ev.Spec := fun args _ K => match args with
  | [AV.int .u64 n80, AV.int .i64 n81, AV.int .i64 n82] => haystacklaw01_WordTells n80 n81 n82 (fun x0 => K (AV.bool x0))
  | _ => none

theorem sp5_nat : SpecNat sp5 := fun args _ _ _ _ => by
  unfold sp5
  split
  · exact haystacklaw01_WordTells_push _ _ _ (fun _ => rfl)
  · rfl

theorem ok5 : SpecOk Tryd.prog (env (keepOf kpt)) 5 sp5 :=
  SpecOk.of (evSpec_ok (env_types _) (env_funs _) S19_ok (O := (fun _ => none)) ONat.none 10 5 (fun _ _ _ _ => OrcOk.none _ _)) sp5_nat (fun args z h => by
    unfold sp5 at h
    split at h
    · exact (haystacklaw01_WordTells_eq _ _ _ some).trans h
    · cases h)

noncomputable def S5 : FuncId → Option Ev.Spec := fun g => match g.beq 5 with | true => some sp5 | false => S19 g
theorem S5_ok : ∀ g sp, S5 g = some sp → SpecOk Tryd.prog (env (keepOf kpt)) g sp := fun g sp h => by
  unfold S5 at h
  split at h
  · rename_i hb; cases h; obtain rfl := Nat.eq_of_beq_eq_true hb; exact ok5
  · exact S19_ok g sp h

theorem haystacklaw01_WordBack_eq {R : Type} (n133 : Int) (n134 : Int) (K : AV → Option R) : evSpec (env (keepOf kpt)) S5 (fun _ => none) 10 6 ([AV.int .u64 n133, AV.int .i64 n134]) R K = haystacklaw01_WordBack n133 n134 (fun x0 => K (AV.bool x0)) := by
  rw [haystacklaw01_WordBack_unf]; kernel_rfl

noncomputable def sp6 : Ev.Spec := fun args _ K => match args with
  | [AV.int .u64 n133, AV.int .i64 n134] => haystacklaw01_WordBack n133 n134 (fun x0 => K (AV.bool x0))
  | _ => none

theorem sp6_nat : SpecNat sp6 := fun args _ _ _ _ => by
  unfold sp6
  split
  · exact haystacklaw01_WordBack_push _ _ (fun _ => rfl)
  · rfl

theorem ok6 : SpecOk Tryd.prog (env (keepOf kpt)) 6 sp6 :=
  SpecOk.of (evSpec_ok (env_types _) (env_funs _) S5_ok (O := (fun _ => none)) ONat.none 10 6 (fun _ _ _ _ => OrcOk.none _ _)) sp6_nat (fun args z h => by
    unfold sp6 at h
    split at h
    · exact (haystacklaw01_WordBack_eq _ _ some).trans h
    · cases h)

noncomputable def S6 : FuncId → Option Ev.Spec := fun g => match g.beq 6 with | true => some sp6 | false => S5 g
theorem S6_ok : ∀ g sp, S6 g = some sp → SpecOk Tryd.prog (env (keepOf kpt)) g sp := fun g sp h => by
  unfold S6 at h
  split at h
  · rename_i hb; cases h; obtain rfl := Nat.eq_of_beq_eq_true hb; exact ok6
  · exact S5_ok g sp h

noncomputable def o7_4000_in {R : Type} (K : Ex → St → Option R) (vs : List AV) (hh : H) : Option R := match vs, hh with
  | [AV.int .u64 n146, AV.int .i64 n147], [] => haystacklaw01_WordParts_j4 n146 n147 (fun x0 => K (Ex.ret) (St.mk (spread 47 0 [4] [AV.bool x0]) []))
  | _, _ => none
noncomputable def o7_4000 : PSpec := fun st _ K => pickM 47 [0, 1] st (o7_4000_in K)

theorem o7_4000_nat (st : St) (R S : Type) (K : Ex → St → Option R) (J : R → Option S) : (o7_4000 st R K).bind J = o7_4000 st S fun ex st => (K ex st).bind J := by
  unfold o7_4000
  refine pickM_push fun vs hh => ?_
  unfold o7_4000_in
  split
  · exact haystacklaw01_WordParts_j4_push _ _ (fun _ => rfl)
  · rfl

noncomputable def o7 : Nat → Option PSpec := lkN [(4000, o7_4000)]

theorem o7_onat : ONat o7 := ONat.consT o7_4000_nat (ONat.nilT)

noncomputable def c7_4000 : Code := subC [1, 1] (bodyOf Tryd.f7)

theorem haystacklaw01_WordParts_j4_eq {R : Type} (n146 : Int) (n147 : Int) (K : Ex → St → Option R) : evCode (env (keepOf kpt)) (evFun (env (keepOf kpt)) S6 10) o7 7 ([] : H).length 3998 c7_4000 (St.mk (spread 47 0 [0, 1] [AV.int .u64 n146, AV.int .i64 n147]) []) (kOut (env (keepOf kpt)) 7 ([] : H).length (Ev.keyOf c7_4000 * 1000 + 1) K) = haystacklaw01_WordParts_j4 n146 n147 (fun x0 => K (Ex.ret) (St.mk (spread 47 0 [4] [AV.bool x0]) [])) := by
  rw [haystacklaw01_WordParts_j4_unf]; kernel_rfl

theorem p7_4000 : ∀ sp, o7 (Ev.keyOf c7_4000 * 1000) = some sp → ∀ (R : Type) (r : R) st (K : Ex → St → Option R), sp st R K = some r → evCode (env (keepOf kpt)) (evFun (env (keepOf kpt)) S6 10) o7 7 ([] : H).length 3998 c7_4000 st (kOut (env (keepOf kpt)) 7 ([] : H).length (Ev.keyOf c7_4000 * 1000 + 1) K) = some r := by
    intro sp hsp R r st K h
    have h1 : o7 (Ev.keyOf c7_4000 * 1000) = some o7_4000 := by kernel_rfl
    obtain rfl := Option.some.inj (h1.symm.trans hsp)
    unfold o7_4000 at h
    obtain ⟨vs, hh, rfl, h2⟩ := pickM_some h
    unfold o7_4000_in at h2
    split at h2
    · exact (haystacklaw01_WordParts_j4_eq _ _ K).trans h2
    · cases h2

theorem pc7 : ∀ x ∈ [(3998, false, c7_4000)], PieceOk (env (keepOf kpt)) (evFun (env (keepOf kpt)) S6 10) o7 7 ([] : H).length x := List.forall_mem_cons.2 ⟨p7_4000, fun _ h => nomatch h⟩

theorem haystacklaw01_WordParts_eq {R : Type} (n142 : Int) (n143 : Int) (K : AV → Option R) : evSpec (env (keepOf kpt)) S6 o7 10 7 ([AV.int .u64 n142, AV.int .i64 n143]) R K = haystacklaw01_WordParts n142 n143 (fun x0 => K (AV.bool x0)) := by
  rw [haystacklaw01_WordParts_unf]; kernel_rfl

noncomputable def sp7 : Ev.Spec := fun args _ K => match args with
  | [AV.int .u64 n142, AV.int .i64 n143] => haystacklaw01_WordParts n142 n143 (fun x0 => K (AV.bool x0))
  | _ => none

theorem sp7_nat : SpecNat sp7 := fun args _ _ _ _ => by
  unfold sp7
  split
  · exact haystacklaw01_WordParts_push _ _ (fun _ => rfl)
  · rfl

theorem ok7 : SpecOk Tryd.prog (env (keepOf kpt)) 7 sp7 :=
  SpecOk.of (evSpec_ok (env_types _) (env_funs _) S6_ok (O := o7) o7_onat 10 7 (fun fn c h1 h2 => by
    have e : (env (keepOf kpt)).F 7 = some Tryd.f7 := by kernel_rfl
    obtain rfl := Option.some.inj (e.symm.trans h1)
    obtain rfl := body_of h2
    exact OrcOk.of 4000 _ _ (show orcs o7 4000 (bodyOf Tryd.f7) = some [(3998, false, c7_4000)] by kernel_rfl) pc7)) sp7_nat (fun args z h => by
    unfold sp7 at h
    split at h
    · exact (haystacklaw01_WordParts_eq _ _ some).trans h
    · cases h)

noncomputable def S7 : FuncId → Option Ev.Spec := fun g => match g.beq 7 with | true => some sp7 | false => S6 g
theorem S7_ok : ∀ g sp, S7 g = some sp → SpecOk Tryd.prog (env (keepOf kpt)) g sp := fun g sp h => by
  unfold S7 at h
  split at h
  · rename_i hb; cases h; obtain rfl := Nat.eq_of_beq_eq_true hb; exact ok7
  · exact S6_ok g sp h

theorem haystacklaw01_WordLong_eq {R : Type} (n158 : Int) (K : AV → Option R) : evSpec (env (keepOf kpt)) S7 (fun _ => none) 10 8 ([AV.int .u64 n158]) R K = haystacklaw01_WordLong n158 (fun x0 => K (AV.bool x0)) := by
  rw [haystacklaw01_WordLong_unf]; kernel_rfl

noncomputable def sp8 : Ev.Spec := fun args _ K => match args with
  | [AV.int .u64 n158] => haystacklaw01_WordLong n158 (fun x0 => K (AV.bool x0))
  | _ => none

theorem sp8_nat : SpecNat sp8 := fun args _ _ _ _ => by
  unfold sp8
  split
  · exact haystacklaw01_WordLong_push _ (fun _ => rfl)
  · rfl

theorem ok8 : SpecOk Tryd.prog (env (keepOf kpt)) 8 sp8 :=
  SpecOk.of (evSpec_ok (env_types _) (env_funs _) S7_ok (O := (fun _ => none)) ONat.none 10 8 (fun _ _ _ _ => OrcOk.none _ _)) sp8_nat (fun args z h => by
    unfold sp8 at h
    split at h
    · exact (haystacklaw01_WordLong_eq _ some).trans h
    · cases h)

noncomputable def S8 : FuncId → Option Ev.Spec := fun g => match g.beq 8 with | true => some sp8 | false => S7 g
theorem S8_ok : ∀ g sp, S8 g = some sp → SpecOk Tryd.prog (env (keepOf kpt)) g sp := fun g sp h => by
  unfold S8 at h
  split at h
  · rename_i hb; cases h; obtain rfl := Nat.eq_of_beq_eq_true hb; exact ok8
  · exact S7_ok g sp h

end Go.Proofs.YtblpggndekhebaaDoor
