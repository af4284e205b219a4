/- The functions that this seat's laws reach, as plain functions, and that they are what the program does. Printed by a program of this repo (wip/Prt). -/
import Derived.Test.YtkjadjdcbpiebaaEnv
import Derived.Test.YtkjadjdcbpiebaaEv23
import Derived.KernelRfl
namespace Go.Proofs.Ytkjadjdcbpiebaa
open Go Go.Ev
set_option maxRecDepth 100000


noncomputable def haystacklaw02_small_B {R : Type} (n3 : Int) (xs4 : List Int) (K0 : Bool → Option R) : Option R :=
 sel (decide (n3 ≤ 5000))
  (K0 (decide ((↑(List.length xs4) : Int) ≤ 5000)))
  (K0 (false))
noncomputable def haystacklaw02_small {R : Type} (n3 : Int) (xs4 : List Int) (K0 : Bool → Option R) : Option R := shut (@haystacklaw02_small_B R) n3 xs4 K0
theorem haystacklaw02_small_unf {R : Type} (n3 : Int) (xs4 : List Int) (K0 : Bool → Option R) : haystacklaw02_small n3 xs4 K0 = haystacklaw02_small_B n3 xs4 K0 := by unfold haystacklaw02_small; rw [shut_eq]

noncomputable def bits_words_B {R : Type} (n12 : Int) (K0 : Int → Option R) : Option R :=
 K0 (quoW .i64 (subW .i64 (addW .i64 n12 64) 1) 64)
noncomputable def bits_words {R : Type} (n12 : Int) (K0 : Int → Option R) : Option R := shut (@bits_words_B R) n12 K0
theorem bits_words_unf {R : Type} (n12 : Int) (K0 : Int → Option R) : bits_words n12 K0 = bits_words_B n12 K0 := by unfold bits_words; rw [shut_eq]

noncomputable def word_Mask_B {R : Type} (n16 : Int) (K0 : Int → Option R) : Option R :=
 sel (decide (n16 ≤ 0))
  (K0 (0))
  (sel (decide (0 ≤ max2 0 (subW .i64 64 n16)))
   (K0 (shrW .u64 18446744073709551615 (max2 0 (subW .i64 64 n16))))
   (none))
noncomputable def word_Mask {R : Type} (n16 : Int) (K0 : Int → Option R) : Option R := shut (@word_Mask_B R) n16 K0
theorem word_Mask_unf {R : Type} (n16 : Int) (K0 : Int → Option R) : word_Mask n16 K0 = word_Mask_B n16 K0 := by unfold word_Mask; rw [shut_eq]

noncomputable def bits_Check_j4_B {R : Type} (n14 : Int) (xs15 : List Int) (K0 : Bool → Option R) : Option R :=
 sel (decide (remW n14 64 = 0))
  (K0 (true))
  (sel (decide (0 ≤ subW .i64 (↑(List.length xs15) : Int) 1))
   (sel (decide (subW .i64 (↑(List.length xs15) : Int) 1 < (↑(List.length xs15) : Int)))
    (word_Mask (remW n14 64)
     (fun (n17 : Int) => letV (decide (andNotW .u64 (List.getD xs15 (Int.toNat (subW .i64 (↑(List.length xs15) : Int) 1)) 0) n17 = 0)) (fun (b18 : Bool) =>
     K0 (b18))))
    (none))
   (none))
noncomputable def bits_Check_j4 {R : Type} (n14 : Int) (xs15 : List Int) (K0 : Bool → Option R) : Option R := shut (@bits_Check_j4_B R) n14 xs15 K0
theorem bits_Check_j4_unf {R : Type} (n14 : Int) (xs15 : List Int) (K0 : Bool → Option R) : bits_Check_j4 n14 xs15 K0 = bits_Check_j4_B n14 xs15 K0 := by unfold bits_Check_j4; rw [shut_eq]

noncomputable def bits_Check_B {R : Type} (n10 : Int) (xs11 : List Int) (K0 : Bool → Option R) : Option R :=
 sel (decide (n10 < 0))
  (K0 (false))
  (sel (decide (1048576 < n10))
   (K0 (false))
   (bits_words (n10)
    (fun (n13 : Int) => sel (!decide ((↑(List.length xs11) : Int) = n13))
     (K0 (false))
     (bits_Check_j4 (n10) (xs11)
      (fun (b19 : Bool) => K0 (b19))))))
noncomputable def bits_Check {R : Type} (n10 : Int) (xs11 : List Int) (K0 : Bool → Option R) : Option R := shut (@bits_Check_B R) n10 xs11 K0
theorem bits_Check_unf {R : Type} (n10 : Int) (xs11 : List Int) (K0 : Bool → Option R) : bits_Check n10 xs11 K0 = bits_Check_B n10 xs11 K0 := by unfold bits_Check; rw [shut_eq]

noncomputable def bits_Append_j3_B {R : Type} (n21 : Int) (n22 : Int) (b23 : Bool) (n24 : Int) (xs25 : List Int) (n26 : Int) (K0 : Int → Int → List Int → Option R) (K1 : Int → Int → Int → List Int → Int → Option R) : Option R :=
 sel (b23)
  (K0 (2) (n24) (xs25))
  (K1 (n21) (n22) (n24) (xs25) (n26))
noncomputable def bits_Append_j3 {R : Type} (n21 : Int) (n22 : Int) (b23 : Bool) (n24 : Int) (xs25 : List Int) (n26 : Int) (K0 : Int → Int → List Int → Option R) (K1 : Int → Int → Int → List Int → Int → Option R) : Option R := shut (@bits_Append_j3_B R) n21 n22 b23 n24 xs25 n26 K0 K1
theorem bits_Append_j3_unf {R : Type} (n21 : Int) (n22 : Int) (b23 : Bool) (n24 : Int) (xs25 : List Int) (n26 : Int) (K0 : Int → Int → List Int → Option R) (K1 : Int → Int → Int → List Int → Int → Option R) : bits_Append_j3 n21 n22 b23 n24 xs25 n26 K0 K1 = bits_Append_j3_B n21 n22 b23 n24 xs25 n26 K0 K1 := by unfold bits_Append_j3; rw [shut_eq]

noncomputable def bits_own_r_B {R : Type} (_n40 : Int) (xs41 : List Int) (n42 : Int) (K0 : Int → Nat → List Int → Option R) : Option R :=
 bits_words (n42)
  (fun (n43 : Int) => sel (decide (0 ≤ n43))
   (sel (decide (n43 ≤ n43))
    (sel (decide (n43 ≤ 281474976710656))
     (sel (decide ((↑8 : Int) * n43 ≤ 281474976710656))
      (letV (List.replicate (Int.toNat n43) 0) (fun (xs44 : List Int) =>
      sel (decide (0 + Int.toNat n43 ≤ List.length xs44))
       (sel (decide (List.length xs41 ≤ Int.toNat n43))
        (sel (decide (0 + List.length xs41 ≤ List.length xs44))
         (letV (List.take 0 xs44 ++ (xs41 ++ List.drop (0 + List.length xs41) xs44)) (fun (xs45 : List Int) =>
         K0 (n42) (Int.toNat n43) (xs45)))
         (none))
        (sel (decide (0 + Int.toNat n43 ≤ List.length xs41))
         (sel (decide (0 + List.length (List.take (Int.toNat n43) (List.drop 0 xs41)) ≤ List.length xs44))
          (letV (List.take 0 xs44 ++ (List.take (Int.toNat n43) (List.drop 0 xs41) ++ List.drop (0 + List.length (List.take (Int.toNat n43) (List.drop 0 xs41))) xs44)) (fun (xs46 : List Int) =>
          K0 (n42) (Int.toNat n43) (xs46)))
          (none))
         (none)))
       (none)))
      (none))
     (none))
    (none))
   (none))
noncomputable def bits_own_r {R : Type} (n40 : Int) (xs41 : List Int) (n42 : Int) (K0 : Int → Nat → List Int → Option R) : Option R := shut (@bits_own_r_B R) n40 xs41 n42 K0
theorem bits_own_r_unf {R : Type} (n40 : Int) (xs41 : List Int) (n42 : Int) (K0 : Int → Nat → List Int → Option R) : bits_own_r n40 xs41 n42 K0 = bits_own_r_B n40 xs41 n42 K0 := by unfold bits_own_r; rw [shut_eq]

noncomputable def bits_fill_j6_B {R : Type} (n63 : Int) (n64 : Int) (n65 : Int) (b66 : Bool) (xs67 : List Int) (_n68 : Int) (l69 : Nat) (K0 : List Int → Option R) : Option R :=
 sel (b66)
  (sel (decide (0 ≤ addW .i64 n64 1))
   (sel (decide (addW .i64 n64 1 < (↑l69 : Int)))
    (sel (decide (Int.toNat (addW .i64 n64 1) < List.length xs67))
     (sel (decide (0 ≤ subW .i64 64 n65))
      (sel (decide (0 ≤ addW .i64 n64 1))
       (sel (decide (addW .i64 n64 1 < (↑l69 : Int)))
        (sel (decide (Int.toNat (addW .i64 n64 1) < List.length xs67))
         (letV (List.set xs67 (Int.toNat (addW .i64 n64 1)) (orW .u64 (List.getD xs67 (Int.toNat (addW .i64 n64 1)) 0) (shrW .u64 n63 (subW .i64 64 n65)))) (fun (xs70 : List Int) =>
         K0 (xs70)))
         (none))
        (none))
       (none))
      (none))
     (none))
    (none))
   (none))
  (K0 (xs67))
noncomputable def bits_fill_j6 {R : Type} (n63 : Int) (n64 : Int) (n65 : Int) (b66 : Bool) (xs67 : List Int) (n68 : Int) (l69 : Nat) (K0 : List Int → Option R) : Option R := shut (@bits_fill_j6_B R) n63 n64 n65 b66 xs67 n68 l69 K0
theorem bits_fill_j6_unf {R : Type} (n63 : Int) (n64 : Int) (n65 : Int) (b66 : Bool) (xs67 : List Int) (n68 : Int) (l69 : Nat) (K0 : List Int → Option R) : bits_fill_j6 n63 n64 n65 b66 xs67 n68 l69 K0 = bits_fill_j6_B n63 n64 n65 b66 xs67 n68 l69 K0 := by unfold bits_fill_j6; rw [shut_eq]

noncomputable def bits_fill_j5_B {R : Type} (n57 : Int) (n58 : Int) (n59 : Int) (xs60 : List Int) (n61 : Int) (l62 : Nat) (K0 : List Int → Option R) : Option R :=
 sel (decide (0 < n59))
  (bits_fill_j6 (n57) (n58) (n59) (decide (addW .i64 n58 1 < (↑l62 : Int))) (xs60) (n61) (l62)
   (fun (xs71 : List Int) => K0 (xs71)))
  (bits_fill_j6 (n57) (n58) (n59) (false) (xs60) (n61) (l62)
   (fun (xs72 : List Int) => K0 (xs72)))
noncomputable def bits_fill_j5 {R : Type} (n57 : Int) (n58 : Int) (n59 : Int) (xs60 : List Int) (n61 : Int) (l62 : Nat) (K0 : List Int → Option R) : Option R := shut (@bits_fill_j5_B R) n57 n58 n59 xs60 n61 l62 K0
theorem bits_fill_j5_unf {R : Type} (n57 : Int) (n58 : Int) (n59 : Int) (xs60 : List Int) (n61 : Int) (l62 : Nat) (K0 : List Int → Option R) : bits_fill_j5 n57 n58 n59 xs60 n61 l62 K0 = bits_fill_j5_B n57 n58 n59 xs60 n61 l62 K0 := by unfold bits_fill_j5; rw [shut_eq]

noncomputable def bits_fill_r_B {R : Type} (n51 : Int) (l52 : Nat) (n53 : Int) (n54 : Int) (xs55 : List Int) (K0 : List Int → Option R) : Option R :=
 sel (decide (quoW .i64 n53 64 < (↑l52 : Int)))
  (sel (decide (0 ≤ quoW .i64 n53 64))
   (sel (decide (quoW .i64 n53 64 < (↑l52 : Int)))
    (sel (decide (Int.toNat (quoW .i64 n53 64) < List.length xs55))
     (sel (decide (0 ≤ remW n53 64))
      (sel (decide (0 ≤ quoW .i64 n53 64))
       (sel (decide (quoW .i64 n53 64 < (↑l52 : Int)))
        (sel (decide (Int.toNat (quoW .i64 n53 64) < List.length xs55))
         (letV (List.set xs55 (Int.toNat (quoW .i64 n53 64)) (orW .u64 (List.getD xs55 (Int.toNat (quoW .i64 n53 64)) 0) (shlW .u64 n54 (remW n53 64)))) (fun (xs56 : List Int) =>
         bits_fill_j5 (n54) (quoW .i64 n53 64) (remW n53 64) (xs56) (n51) (l52)
          (fun (xs73 : List Int) => K0 (xs73))))
         (none))
        (none))
       (none))
      (none))
     (none))
    (none))
   (none))
  (bits_fill_j5 (n54) (quoW .i64 n53 64) (remW n53 64) (xs55) (n51) (l52)
   (fun (xs74 : List Int) => K0 (xs74)))
noncomputable def bits_fill_r {R : Type} (n51 : Int) (l52 : Nat) (n53 : Int) (n54 : Int) (xs55 : List Int) (K0 : List Int → Option R) : Option R := shut (@bits_fill_r_B R) n51 l52 n53 n54 xs55 K0
theorem bits_fill_r_unf {R : Type} (n51 : Int) (l52 : Nat) (n53 : Int) (n54 : Int) (xs55 : List Int) (K0 : List Int → Option R) : bits_fill_r n51 l52 n53 n54 xs55 K0 = bits_fill_r_B n51 l52 n53 n54 xs55 K0 := by unfold bits_fill_r; rw [shut_eq]

noncomputable def bits_Append_j4_B {R : Type} (n35 : Int) (n36 : Int) (n37 : Int) (xs38 : List Int) (_n39 : Int) (K0 : Int → Int → Nat → List Int → Option R) : Option R :=
 bits_own_r (n37) (xs38) (addW .i64 n37 n36)
  (fun (n47 : Int) (l48 : Nat) (xs49 : List Int) => word_Mask (n36)
   (fun (n50 : Int) => bits_fill_r (n47) (l48) (n37) (andW .u64 n35 n50) (xs49)
    (fun (xs75 : List Int) => K0 (0) (n47) (l48) (xs75))))
noncomputable def bits_Append_j4 {R : Type} (n35 : Int) (n36 : Int) (n37 : Int) (xs38 : List Int) (n39 : Int) (K0 : Int → Int → Nat → List Int → Option R) : Option R := shut (@bits_Append_j4_B R) n35 n36 n37 xs38 n39 K0
theorem bits_Append_j4_unf {R : Type} (n35 : Int) (n36 : Int) (n37 : Int) (xs38 : List Int) (n39 : Int) (K0 : Int → Int → Nat → List Int → Option R) : bits_Append_j4 n35 n36 n37 xs38 n39 K0 = bits_Append_j4_B n35 n36 n37 xs38 n39 K0 := by unfold bits_Append_j4; rw [shut_eq]

noncomputable def bits_Append_B {R : Type} (n6 : Int) (xs7 : List Int) (n8 : Int) (n9 : Int) (K0 : Int → List Int → Int → Option R) : Option R :=
 bits_Check (n6) (xs7)
  (fun (b20 : Bool) => sel (!b20)
   (bits_Append_j3 (n8) (n9) (true) (n6) (xs7) (0)
    (fun (n27 : Int) (n28 : Int) (xs29 : List Int) => K0 (n28) (xs29) (n27))
    (fun (n30 : Int) (n31 : Int) (n32 : Int) (xs33 : List Int) (n34 : Int) => bits_Append_j4 (n30) (n31) (n32) (xs33) (n34)
     (fun (n76 : Int) (n77 : Int) (l78 : Nat) (xs79 : List Int) => sel (decide (l78 = List.length xs79))
      (K0 (n77) (xs79) (n76))
      (sel (decide (0 + l78 ≤ List.length xs79))
       (K0 (n77) (List.take l78 (List.drop 0 xs79)) (n76))
       (none)))))
   (sel (decide (n9 < 0))
    (bits_Append_j3 (n8) (n9) (true) (n6) (xs7) (0)
     (fun (n80 : Int) (n81 : Int) (xs82 : List Int) => K0 (n81) (xs82) (n80))
     (fun (n83 : Int) (n84 : Int) (n85 : Int) (xs86 : List Int) (n87 : Int) => bits_Append_j4 (n83) (n84) (n85) (xs86) (n87)
      (fun (n88 : Int) (n89 : Int) (l90 : Nat) (xs91 : List Int) => sel (decide (l90 = List.length xs91))
       (K0 (n89) (xs91) (n88))
       (sel (decide (0 + l90 ≤ List.length xs91))
        (K0 (n89) (List.take l90 (List.drop 0 xs91)) (n88))
        (none)))))
    (sel (decide (64 < n9))
     (bits_Append_j3 (n8) (n9) (true) (n6) (xs7) (0)
      (fun (n92 : Int) (n93 : Int) (xs94 : List Int) => K0 (n93) (xs94) (n92))
      (fun (n95 : Int) (n96 : Int) (n97 : Int) (xs98 : List Int) (n99 : Int) => bits_Append_j4 (n95) (n96) (n97) (xs98) (n99)
       (fun (n100 : Int) (n101 : Int) (l102 : Nat) (xs103 : List Int) => sel (decide (l102 = List.length xs103))
        (K0 (n101) (xs103) (n100))
        (sel (decide (0 + l102 ≤ List.length xs103))
         (K0 (n101) (List.take l102 (List.drop 0 xs103)) (n100))
         (none)))))
     (bits_Append_j3 (n8) (n9) (decide (subW .i64 1048576 n6 < n9)) (n6) (xs7) (0)
      (fun (n104 : Int) (n105 : Int) (xs106 : List Int) => K0 (n105) (xs106) (n104))
      (fun (n107 : Int) (n108 : Int) (n109 : Int) (xs110 : List Int) (n111 : Int) => bits_Append_j4 (n107) (n108) (n109) (xs110) (n111)
       (fun (n112 : Int) (n113 : Int) (l114 : Nat) (xs115 : List Int) => sel (decide (l114 = List.length xs115))
        (K0 (n113) (xs115) (n112))
        (sel (decide (0 + l114 ≤ List.length xs115))
         (K0 (n113) (List.take l114 (List.drop 0 xs115)) (n112))
         (none))))))))
noncomputable def bits_Append {R : Type} (n6 : Int) (xs7 : List Int) (n8 : Int) (n9 : Int) (K0 : Int → List Int → Int → Option R) : Option R := shut (@bits_Append_B R) n6 xs7 n8 n9 K0
theorem bits_Append_unf {R : Type} (n6 : Int) (xs7 : List Int) (n8 : Int) (n9 : Int) (K0 : Int → List Int → Int → Option R) : bits_Append n6 xs7 n8 n9 K0 = bits_Append_B n6 xs7 n8 n9 K0 := by unfold bits_Append; rw [shut_eq]

noncomputable def bits_Get_j6_B {R : Type} (n127 : Int) (_n128 : Int) (xs129 : List Int) (K0 : Bool → Int → Option R) : Option R :=
 sel (decide (0 ≤ quoW .i64 n127 64))
  (sel (decide (quoW .i64 n127 64 < (↑(List.length xs129) : Int)))
   (sel (decide (0 ≤ remW n127 64))
    (letV (decide (andW .u64 (shrW .u64 (List.getD xs129 (Int.toNat (quoW .i64 n127 64)) 0) (remW n127 64)) 1 = 1)) (fun (b130 : Bool) =>
    K0 (b130) (0)))
    (none))
   (none))
  (none)
noncomputable def bits_Get_j6 {R : Type} (n127 : Int) (n128 : Int) (xs129 : List Int) (K0 : Bool → Int → Option R) : Option R := shut (@bits_Get_j6_B R) n127 n128 xs129 K0
theorem bits_Get_j6_unf {R : Type} (n127 : Int) (n128 : Int) (xs129 : List Int) (K0 : Bool → Int → Option R) : bits_Get_j6 n127 n128 xs129 K0 = bits_Get_j6_B n127 n128 xs129 K0 := by unfold bits_Get_j6; rw [shut_eq]

noncomputable def bits_Get_B {R : Type} (n123 : Int) (xs124 : List Int) (n125 : Int) (K0 : Bool → Int → Option R) : Option R :=
 bits_Check (n123) (xs124)
  (fun (b126 : Bool) => sel (!b126)
   (K0 (false) (2))
   (sel (decide (n125 < 0))
    (K0 (false) (3))
    (sel (decide (n123 ≤ n125))
     (K0 (false) (3))
     (bits_Get_j6 (n125) (n123) (xs124)
      (fun (b131 : Bool) (n132 : Int) => K0 (b131) (n132))))))
noncomputable def bits_Get {R : Type} (n123 : Int) (xs124 : List Int) (n125 : Int) (K0 : Bool → Int → Option R) : Option R := shut (@bits_Get_B R) n123 xs124 n125 K0
theorem bits_Get_unf {R : Type} (n123 : Int) (xs124 : List Int) (n125 : Int) (K0 : Bool → Int → Option R) : bits_Get n123 xs124 n125 K0 = bits_Get_B n123 xs124 n125 K0 := by unfold bits_Get; rw [shut_eq]

noncomputable def bits_Set_B {R : Type} (n119 : Int) (xs120 : List Int) (n121 : Int) (b122 : Bool) (K0 : Int → List Int → Int → Option R) : Option R :=
 bits_Get (n119) (xs120) (n121)
  (fun (b133 : Bool) (n134 : Int) => sel (!decide (n134 = 0))
   (K0 (n119) (xs120) (n134))
   (bits_own_r (n119) (xs120) (n119)
    (fun (n135 : Int) (l136 : Nat) (xs137 : List Int) => sel (!b133 == b122)
     (sel (decide (0 ≤ quoW .i64 n121 64))
      (sel (decide (quoW .i64 n121 64 < (↑l136 : Int)))
       (sel (decide (Int.toNat (quoW .i64 n121 64) < List.length xs137))
        (sel (decide (0 ≤ remW n121 64))
         (sel (decide (0 ≤ quoW .i64 n121 64))
          (sel (decide (quoW .i64 n121 64 < (↑l136 : Int)))
           (sel (decide (Int.toNat (quoW .i64 n121 64) < List.length xs137))
            (letV (List.set xs137 (Int.toNat (quoW .i64 n121 64)) (xorW .u64 (List.getD xs137 (Int.toNat (quoW .i64 n121 64)) 0) (shlW .u64 1 (remW n121 64)))) (fun (xs138 : List Int) =>
            sel (decide (l136 = List.length xs138))
             (K0 (n135) (xs138) (0))
             (sel (decide (0 + l136 ≤ List.length xs138))
              (K0 (n135) (List.take l136 (List.drop 0 xs138)) (0))
              (none))))
            (none))
           (none))
          (none))
         (none))
        (none))
       (none))
      (none))
     (sel (decide (l136 = List.length xs137))
      (K0 (n135) (xs137) (0))
      (sel (decide (0 + l136 ≤ List.length xs137))
       (K0 (n135) (List.take l136 (List.drop 0 xs137)) (0))
       (none))))))
noncomputable def bits_Set {R : Type} (n119 : Int) (xs120 : List Int) (n121 : Int) (b122 : Bool) (K0 : Int → List Int → Int → Option R) : Option R := shut (@bits_Set_B R) n119 xs120 n121 b122 K0
theorem bits_Set_unf {R : Type} (n119 : Int) (xs120 : List Int) (n121 : Int) (b122 : Bool) (K0 : Int → List Int → Int → Option R) : bits_Set n119 xs120 n121 b122 K0 = bits_Set_B n119 xs120 n121 b122 K0 := by unfold bits_Set; rw [shut_eq]

noncomputable def bits_Slice_j5_B {R : Type} (n152 : Int) (n153 : Int) (b154 : Bool) (n155 : Int) (xs156 : List Int) (K0 : Int → Int → Option R) (K1 : Int → Int → Int → List Int → Option R) : Option R :=
 sel (b154)
  (K0 (0) (3))
  (sel (decide (n153 = 0))
   (K0 (0) (0))
   (K1 (n152) (n153) (n155) (xs156)))
noncomputable def bits_Slice_j5 {R : Type} (n152 : Int) (n153 : Int) (b154 : Bool) (n155 : Int) (xs156 : List Int) (K0 : Int → Int → Option R) (K1 : Int → Int → Int → List Int → Option R) : Option R := shut (@bits_Slice_j5_B R) n152 n153 b154 n155 xs156 K0 K1
theorem bits_Slice_j5_unf {R : Type} (n152 : Int) (n153 : Int) (b154 : Bool) (n155 : Int) (xs156 : List Int) (K0 : Int → Int → Option R) (K1 : Int → Int → Int → List Int → Option R) : bits_Slice_j5 n152 n153 b154 n155 xs156 K0 K1 = bits_Slice_j5_B n152 n153 b154 n155 xs156 K0 K1 := by unfold bits_Slice_j5; rw [shut_eq]

noncomputable def bits_Slice_j3_B {R : Type} (n147 : Int) (n148 : Int) (b149 : Bool) (n150 : Int) (xs151 : List Int) (K0 : Int → Int → Option R) (K1 : Int → Int → Int → List Int → Option R) : Option R :=
 sel (b149)
  (K0 (0) (2))
  (sel (decide (n147 < 0))
   (bits_Slice_j5 (n147) (n148) (true) (n150) (xs151)
    (fun (n157 : Int) (n158 : Int) => K0 (n157) (n158))
    (fun (n159 : Int) (n160 : Int) (n161 : Int) (xs162 : List Int) => K1 (n159) (n160) (n161) (xs162)))
   (sel (decide (n150 < n147))
    (bits_Slice_j5 (n147) (n148) (true) (n150) (xs151)
     (fun (n163 : Int) (n164 : Int) => K0 (n163) (n164))
     (fun (n165 : Int) (n166 : Int) (n167 : Int) (xs168 : List Int) => K1 (n165) (n166) (n167) (xs168)))
    (bits_Slice_j5 (n147) (n148) (decide (subW .i64 n150 n147 < n148)) (n150) (xs151)
     (fun (n169 : Int) (n170 : Int) => K0 (n169) (n170))
     (fun (n171 : Int) (n172 : Int) (n173 : Int) (xs174 : List Int) => K1 (n171) (n172) (n173) (xs174)))))
noncomputable def bits_Slice_j3 {R : Type} (n147 : Int) (n148 : Int) (b149 : Bool) (n150 : Int) (xs151 : List Int) (K0 : Int → Int → Option R) (K1 : Int → Int → Int → List Int → Option R) : Option R := shut (@bits_Slice_j3_B R) n147 n148 b149 n150 xs151 K0 K1
theorem bits_Slice_j3_unf {R : Type} (n147 : Int) (n148 : Int) (b149 : Bool) (n150 : Int) (xs151 : List Int) (K0 : Int → Int → Option R) (K1 : Int → Int → Int → List Int → Option R) : bits_Slice_j3 n147 n148 b149 n150 xs151 K0 K1 = bits_Slice_j3_B n147 n148 b149 n150 xs151 K0 K1 := by unfold bits_Slice_j3; rw [shut_eq]

noncomputable def bits_Slice_j12_B {R : Type} (n186 : Int) (n187 : Int) (K0 : Int → Int → Option R) : Option R :=
 word_Mask (n186)
  (fun (n188 : Int) => K0 (andW .u64 n187 n188) (0))
noncomputable def bits_Slice_j12 {R : Type} (n186 : Int) (n187 : Int) (K0 : Int → Int → Option R) : Option R := shut (@bits_Slice_j12_B R) n186 n187 K0
theorem bits_Slice_j12_unf {R : Type} (n186 : Int) (n187 : Int) (K0 : Int → Int → Option R) : bits_Slice_j12 n186 n187 K0 = bits_Slice_j12_B n186 n187 K0 := by unfold bits_Slice_j12; rw [shut_eq]

noncomputable def bits_Slice_j8_B {R : Type} (n181 : Int) (n182 : Int) (_n183 : Int) (xs184 : List Int) (K0 : Int → Int → Option R) : Option R :=
 sel (decide (0 ≤ quoW .i64 n181 64))
  (sel (decide (quoW .i64 n181 64 < (↑(List.length xs184) : Int)))
   (sel (decide (0 ≤ remW n181 64))
    (sel (decide (64 < addW .i64 (remW n181 64) n182))
     (sel (decide (0 ≤ addW .i64 (quoW .i64 n181 64) 1))
      (sel (decide (addW .i64 (quoW .i64 n181 64) 1 < (↑(List.length xs184) : Int)))
       (sel (decide (0 ≤ subW .i64 64 (remW n181 64)))
        (letV (orW .u64 (shrW .u64 (List.getD xs184 (Int.toNat (quoW .i64 n181 64)) 0) (remW n181 64)) (shlW .u64 (List.getD xs184 (Int.toNat (addW .i64 (quoW .i64 n181 64) 1)) 0) (subW .i64 64 (remW n181 64)))) (fun (n185 : Int) =>
        bits_Slice_j12 (n182) (n185)
         (fun (n189 : Int) (n190 : Int) => K0 (n189) (n190))))
        (none))
       (none))
      (none))
     (bits_Slice_j12 (n182) (shrW .u64 (List.getD xs184 (Int.toNat (quoW .i64 n181 64)) 0) (remW n181 64))
      (fun (n191 : Int) (n192 : Int) => K0 (n191) (n192))))
    (none))
   (none))
  (none)
noncomputable def bits_Slice_j8 {R : Type} (n181 : Int) (n182 : Int) (n183 : Int) (xs184 : List Int) (K0 : Int → Int → Option R) : Option R := shut (@bits_Slice_j8_B R) n181 n182 n183 xs184 K0
theorem bits_Slice_j8_unf {R : Type} (n181 : Int) (n182 : Int) (n183 : Int) (xs184 : List Int) (K0 : Int → Int → Option R) : bits_Slice_j8 n181 n182 n183 xs184 K0 = bits_Slice_j8_B n181 n182 n183 xs184 K0 := by unfold bits_Slice_j8; rw [shut_eq]

noncomputable def bits_Slice_B {R : Type} (n142 : Int) (xs143 : List Int) (n144 : Int) (n145 : Int) (K0 : Int → Int → Option R) : Option R :=
 bits_Check (n142) (xs143)
  (fun (b146 : Bool) => sel (!b146)
   (bits_Slice_j3 (n144) (n145) (true) (n142) (xs143)
    (fun (n175 : Int) (n176 : Int) => K0 (n175) (n176))
    (fun (n177 : Int) (n178 : Int) (n179 : Int) (xs180 : List Int) => bits_Slice_j8 (n177) (n178) (n179) (xs180)
     (fun (n193 : Int) (n194 : Int) => K0 (n193) (n194))))
   (sel (decide (n145 < 0))
    (bits_Slice_j3 (n144) (n145) (true) (n142) (xs143)
     (fun (n195 : Int) (n196 : Int) => K0 (n195) (n196))
     (fun (n197 : Int) (n198 : Int) (n199 : Int) (xs200 : List Int) => bits_Slice_j8 (n197) (n198) (n199) (xs200)
      (fun (n201 : Int) (n202 : Int) => K0 (n201) (n202))))
    (bits_Slice_j3 (n144) (n145) (decide (64 < n145)) (n142) (xs143)
     (fun (n203 : Int) (n204 : Int) => K0 (n203) (n204))
     (fun (n205 : Int) (n206 : Int) (n207 : Int) (xs208 : List Int) => bits_Slice_j8 (n205) (n206) (n207) (xs208)
      (fun (n209 : Int) (n210 : Int) => K0 (n209) (n210))))))
noncomputable def bits_Slice {R : Type} (n142 : Int) (xs143 : List Int) (n144 : Int) (n145 : Int) (K0 : Int → Int → Option R) : Option R := shut (@bits_Slice_B R) n142 xs143 n144 n145 K0
theorem bits_Slice_unf {R : Type} (n142 : Int) (xs143 : List Int) (n144 : Int) (n145 : Int) (K0 : Int → Int → Option R) : bits_Slice n142 xs143 n144 n145 K0 = bits_Slice_B n142 xs143 n144 n145 K0 := by unfold bits_Slice; rw [shut_eq]

noncomputable def bits_Join_j3_B {R : Type} (b220 : Bool) (n221 : Int) (xs222 : List Int) (n223 : Int) (xs224 : List Int) (n225 : Int) (K0 : Int → Int → List Int → Option R) (K1 : Int → List Int → Int → List Int → Int → Option R) : Option R :=
 sel (b220)
  (K0 (2) (n221) (xs222))
  (K1 (n221) (xs222) (n223) (xs224) (n225))
noncomputable def bits_Join_j3 {R : Type} (b220 : Bool) (n221 : Int) (xs222 : List Int) (n223 : Int) (xs224 : List Int) (n225 : Int) (K0 : Int → Int → List Int → Option R) (K1 : Int → List Int → Int → List Int → Int → Option R) : Option R := shut (@bits_Join_j3_B R) b220 n221 xs222 n223 xs224 n225 K0 K1
theorem bits_Join_j3_unf {R : Type} (b220 : Bool) (n221 : Int) (xs222 : List Int) (n223 : Int) (xs224 : List Int) (n225 : Int) (K0 : Int → Int → List Int → Option R) (K1 : Int → List Int → Int → List Int → Int → Option R) : bits_Join_j3 b220 n221 xs222 n223 xs224 n225 K0 K1 = bits_Join_j3_B b220 n221 xs222 n223 xs224 n225 K0 K1 := by unfold bits_Join_j3; rw [shut_eq]

noncomputable def bits_Join_l6_T {R : Type} (rec : List Int → Int → Int → Int → List Int → Int → Int → Nat → List Int → Option R) (xs242 : List Int) (n243 : Int) (n244 : Int) (n245 : Int) (xs246 : List Int) (n247 : Int) (n248 : Int) (l249 : Nat) (xs250 : List Int) (K0 : Int → Int → Nat → List Int → Option R) : Option R :=
 sel (decide (n244 < n243))
  (sel (decide (0 ≤ n244))
   (sel (decide (n244 < (↑(List.length xs242) : Int)))
    (bits_fill_r (n248) (l249) (addW .i64 n245 (mulW .i64 n244 64)) (List.getD xs242 (Int.toNat n244) 0) (xs250)
     (fun (xs251 : List Int) => rec (xs242) (n243) (addW .i64 n244 1) (n245) (xs246) (n247) (n248) (l249) (xs251)))
    (none))
   (none))
  (K0 (n247) (n248) (l249) (xs250))
noncomputable def bits_Join_l6_L {R : Type} (K0 : Int → Int → Nat → List Int → Option R) : Nat → List Int → Int → Int → Int → List Int → Int → Int → Nat → List Int → Option R
  | 0, _, _, _, _, _, _, _, _, _ => none
  | N + 1, xs242, n243, n244, n245, xs246, n247, n248, l249, xs250 => bits_Join_l6_T (bits_Join_l6_L K0 N) xs242 n243 n244 n245 xs246 n247 n248 l249 xs250 K0
noncomputable def bits_Join_l6_B {R : Type} (xs242 : List Int) (n243 : Int) (n244 : Int) (n245 : Int) (xs246 : List Int) (n247 : Int) (n248 : Int) (l249 : Nat) (xs250 : List Int) (K0 : Int → Int → Nat → List Int → Option R) : Option R :=
 bits_Join_l6_L K0 NR xs242 n243 n244 n245 xs246 n247 n248 l249 xs250
noncomputable def bits_Join_l6 {R : Type} (xs242 : List Int) (n243 : Int) (n244 : Int) (n245 : Int) (xs246 : List Int) (n247 : Int) (n248 : Int) (l249 : Nat) (xs250 : List Int) (K0 : Int → Int → Nat → List Int → Option R) : Option R := shut (@bits_Join_l6_B R) xs242 n243 n244 n245 xs246 n247 n248 l249 xs250 K0
theorem bits_Join_l6_unf {R : Type} (xs242 : List Int) (n243 : Int) (n244 : Int) (n245 : Int) (xs246 : List Int) (n247 : Int) (n248 : Int) (l249 : Nat) (xs250 : List Int) (K0 : Int → Int → Nat → List Int → Option R) : bits_Join_l6 xs242 n243 n244 n245 xs246 n247 n248 l249 xs250 K0 = bits_Join_l6_B xs242 n243 n244 n245 xs246 n247 n248 l249 xs250 K0 := by unfold bits_Join_l6; rw [shut_eq]

noncomputable def bits_Join_j4_B {R : Type} (n234 : Int) (xs235 : List Int) (n236 : Int) (xs237 : List Int) (n238 : Int) (K0 : Int → Int → Nat → List Int → Option R) : Option R :=
 bits_own_r (n234) (xs235) (addW .i64 n234 n236)
  (fun (n239 : Int) (l240 : Nat) (xs241 : List Int) => bits_Join_l6 (xs237) ((↑(List.length xs237) : Int)) (0) (n234) (xs235) (n238) (n239) (l240) (xs241)
   (fun (n252 : Int) (n253 : Int) (l254 : Nat) (xs255 : List Int) => K0 (0) (n253) (l254) (xs255)))
noncomputable def bits_Join_j4 {R : Type} (n234 : Int) (xs235 : List Int) (n236 : Int) (xs237 : List Int) (n238 : Int) (K0 : Int → Int → Nat → List Int → Option R) : Option R := shut (@bits_Join_j4_B R) n234 xs235 n236 xs237 n238 K0
theorem bits_Join_j4_unf {R : Type} (n234 : Int) (xs235 : List Int) (n236 : Int) (xs237 : List Int) (n238 : Int) (K0 : Int → Int → Nat → List Int → Option R) : bits_Join_j4 n234 xs235 n236 xs237 n238 K0 = bits_Join_j4_B n234 xs235 n236 xs237 n238 K0 := by unfold bits_Join_j4; rw [shut_eq]

noncomputable def bits_Join_B {R : Type} (n215 : Int) (xs216 : List Int) (n217 : Int) (xs218 : List Int) (K0 : Int → List Int → Int → Option R) : Option R :=
 bits_Check (n215) (xs216)
  (fun (b219 : Bool) => sel (!b219)
   (bits_Join_j3 (true) (n215) (xs216) (n217) (xs218) (0)
    (fun (n226 : Int) (n227 : Int) (xs228 : List Int) => K0 (n227) (xs228) (n226))
    (fun (n229 : Int) (xs230 : List Int) (n231 : Int) (xs232 : List Int) (n233 : Int) => bits_Join_j4 (n229) (xs230) (n231) (xs232) (n233)
     (fun (n256 : Int) (n257 : Int) (l258 : Nat) (xs259 : List Int) => sel (decide (l258 = List.length xs259))
      (K0 (n257) (xs259) (n256))
      (sel (decide (0 + l258 ≤ List.length xs259))
       (K0 (n257) (List.take l258 (List.drop 0 xs259)) (n256))
       (none)))))
   (bits_Check (n217) (xs218)
    (fun (b260 : Bool) => sel (!b260)
     (bits_Join_j3 (true) (n215) (xs216) (n217) (xs218) (0)
      (fun (n261 : Int) (n262 : Int) (xs263 : List Int) => K0 (n262) (xs263) (n261))
      (fun (n264 : Int) (xs265 : List Int) (n266 : Int) (xs267 : List Int) (n268 : Int) => bits_Join_j4 (n264) (xs265) (n266) (xs267) (n268)
       (fun (n269 : Int) (n270 : Int) (l271 : Nat) (xs272 : List Int) => sel (decide (l271 = List.length xs272))
        (K0 (n270) (xs272) (n269))
        (sel (decide (0 + l271 ≤ List.length xs272))
         (K0 (n270) (List.take l271 (List.drop 0 xs272)) (n269))
         (none)))))
     (bits_Join_j3 (decide (subW .i64 1048576 n215 < n217)) (n215) (xs216) (n217) (xs218) (0)
      (fun (n273 : Int) (n274 : Int) (xs275 : List Int) => K0 (n274) (xs275) (n273))
      (fun (n276 : Int) (xs277 : List Int) (n278 : Int) (xs279 : List Int) (n280 : Int) => bits_Join_j4 (n276) (xs277) (n278) (xs279) (n280)
       (fun (n281 : Int) (n282 : Int) (l283 : Nat) (xs284 : List Int) => sel (decide (l283 = List.length xs284))
        (K0 (n282) (xs284) (n281))
        (sel (decide (0 + l283 ≤ List.length xs284))
         (K0 (n282) (List.take l283 (List.drop 0 xs284)) (n281))
         (none))))))))
noncomputable def bits_Join {R : Type} (n215 : Int) (xs216 : List Int) (n217 : Int) (xs218 : List Int) (K0 : Int → List Int → Int → Option R) : Option R := shut (@bits_Join_B R) n215 xs216 n217 xs218 K0
theorem bits_Join_unf {R : Type} (n215 : Int) (xs216 : List Int) (n217 : Int) (xs218 : List Int) (K0 : Int → List Int → Int → Option R) : bits_Join n215 xs216 n217 xs218 K0 = bits_Join_B n215 xs216 n217 xs218 K0 := by unfold bits_Join; rw [shut_eq]

noncomputable def bits_New_j3_B {R : Type} (n289 : Int) (b290 : Bool) (n291 : Int) (K0 : Int → Int → Option R) (K1 : Int → Int → Option R) : Option R :=
 sel (b290)
  (K0 (2) (0))
  (K1 (n289) (n291))
noncomputable def bits_New_j3 {R : Type} (n289 : Int) (b290 : Bool) (n291 : Int) (K0 : Int → Int → Option R) (K1 : Int → Int → Option R) : Option R := shut (@bits_New_j3_B R) n289 b290 n291 K0 K1
theorem bits_New_j3_unf {R : Type} (n289 : Int) (b290 : Bool) (n291 : Int) (K0 : Int → Int → Option R) (K1 : Int → Int → Option R) : bits_New_j3 n289 b290 n291 K0 K1 = bits_New_j3_B n289 b290 n291 K0 K1 := by unfold bits_New_j3; rw [shut_eq]

noncomputable def bits_New_j4_B {R : Type} (n296 : Int) (_n297 : Int) (K0 : Int → Int → Nat → List Int → Option R) : Option R :=
 bits_words (n296)
  (fun (n298 : Int) => sel (decide (0 ≤ n298))
   (sel (decide (n298 ≤ n298))
    (sel (decide (n298 ≤ 281474976710656))
     (sel (decide ((↑8 : Int) * n298 ≤ 281474976710656))
      (letV (List.replicate (Int.toNat n298) 0) (fun (xs299 : List Int) =>
      K0 (0) (n296) (Int.toNat n298) (xs299)))
      (none))
     (none))
    (none))
   (none))
noncomputable def bits_New_j4 {R : Type} (n296 : Int) (n297 : Int) (K0 : Int → Int → Nat → List Int → Option R) : Option R := shut (@bits_New_j4_B R) n296 n297 K0
theorem bits_New_j4_unf {R : Type} (n296 : Int) (n297 : Int) (K0 : Int → Int → Nat → List Int → Option R) : bits_New_j4 n296 n297 K0 = bits_New_j4_B n296 n297 K0 := by unfold bits_New_j4; rw [shut_eq]

noncomputable def bits_New_B {R : Type} (n288 : Int) (K0 : Int → List Int → Int → Option R) : Option R :=
 sel (decide (n288 < 0))
  (bits_New_j3 (n288) (true) (0)
   (fun (n292 : Int) (n293 : Int) => K0 (n293) ([]) (n292))
   (fun (n294 : Int) (n295 : Int) => bits_New_j4 (n294) (n295)
    (fun (n300 : Int) (n301 : Int) (l302 : Nat) (xs303 : List Int) => sel (decide (l302 = List.length xs303))
     (K0 (n301) (xs303) (n300))
     (sel (decide (0 + l302 ≤ List.length xs303))
      (K0 (n301) (List.take l302 (List.drop 0 xs303)) (n300))
      (none)))))
  (bits_New_j3 (n288) (decide (1048576 < n288)) (0)
   (fun (n304 : Int) (n305 : Int) => K0 (n305) ([]) (n304))
   (fun (n306 : Int) (n307 : Int) => bits_New_j4 (n306) (n307)
    (fun (n308 : Int) (n309 : Int) (l310 : Nat) (xs311 : List Int) => sel (decide (l310 = List.length xs311))
     (K0 (n309) (xs311) (n308))
     (sel (decide (0 + l310 ≤ List.length xs311))
      (K0 (n309) (List.take l310 (List.drop 0 xs311)) (n308))
      (none)))))
noncomputable def bits_New {R : Type} (n288 : Int) (K0 : Int → List Int → Int → Option R) : Option R := shut (@bits_New_B R) n288 K0
theorem bits_New_unf {R : Type} (n288 : Int) (K0 : Int → List Int → Int → Option R) : bits_New n288 K0 = bits_New_B n288 K0 := by unfold bits_New; rw [shut_eq]

noncomputable def bits_New_r_B {R : Type} (n317 : Int) (K0 : Int → Int → Option R) (K1 : Int → Nat → Int → List Int → Option R) : Option R :=
 sel (decide (n317 < 0))
  (bits_New_j3 (n317) (true) (0)
   (fun (n318 : Int) (n319 : Int) => K0 (n319) (n318))
   (fun (n320 : Int) (n321 : Int) => bits_New_j4 (n320) (n321)
    (fun (n322 : Int) (n323 : Int) (l324 : Nat) (xs325 : List Int) => K1 (n323) (l324) (n322) (xs325))))
  (bits_New_j3 (n317) (decide (1048576 < n317)) (0)
   (fun (n326 : Int) (n327 : Int) => K0 (n327) (n326))
   (fun (n328 : Int) (n329 : Int) => bits_New_j4 (n328) (n329)
    (fun (n330 : Int) (n331 : Int) (l332 : Nat) (xs333 : List Int) => K1 (n331) (l332) (n330) (xs333))))
noncomputable def bits_New_r {R : Type} (n317 : Int) (K0 : Int → Int → Option R) (K1 : Int → Nat → Int → List Int → Option R) : Option R := shut (@bits_New_r_B R) n317 K0 K1
theorem bits_New_r_unf {R : Type} (n317 : Int) (K0 : Int → Int → Option R) (K1 : Int → Nat → Int → List Int → Option R) : bits_New_r n317 K0 K1 = bits_New_r_B n317 K0 K1 := by unfold bits_New_r; rw [shut_eq]

noncomputable def bits_From_l6_T {R : Type} (rec : Nat → Int → Int → List Bool → Int → Int → Option R) (l336 : Nat) (n337 : Int) (n338 : Int) (bs339 : List Bool) (n340 : Int) (n341 : Int) (K0 : List Bool → Int → Int → Option R) : Option R :=
 sel (decide (n338 < n337))
  (sel (decide (0 ≤ n338))
   (sel (decide (n338 < (↑l336 : Int)))
    (sel (decide (Int.toNat n338 < List.length bs339))
     (sel (List.getD bs339 (Int.toNat n338) false)
      (none)
      (rec (l336) (n337) (addW .i64 n338 1) (bs339) (n340) (n341)))
     (none))
    (none))
   (none))
  (K0 (bs339) (n340) (n341))
noncomputable def bits_From_l6_L {R : Type} (K0 : List Bool → Int → Int → Option R) : Nat → Nat → Int → Int → List Bool → Int → Int → Option R
  | 0, _, _, _, _, _, _ => none
  | N + 1, l336, n337, n338, bs339, n340, n341 => bits_From_l6_T (bits_From_l6_L K0 N) l336 n337 n338 bs339 n340 n341 K0
noncomputable def bits_From_l6_B {R : Type} (l336 : Nat) (n337 : Int) (n338 : Int) (bs339 : List Bool) (n340 : Int) (n341 : Int) (K0 : List Bool → Int → Int → Option R) : Option R :=
 bits_From_l6_L K0 NR l336 n337 n338 bs339 n340 n341
noncomputable def bits_From_l6 {R : Type} (l336 : Nat) (n337 : Int) (n338 : Int) (bs339 : List Bool) (n340 : Int) (n341 : Int) (K0 : List Bool → Int → Int → Option R) : Option R := shut (@bits_From_l6_B R) l336 n337 n338 bs339 n340 n341 K0
theorem bits_From_l6_unf {R : Type} (l336 : Nat) (n337 : Int) (n338 : Int) (bs339 : List Bool) (n340 : Int) (n341 : Int) (K0 : List Bool → Int → Int → Option R) : bits_From_l6 l336 n337 n338 bs339 n340 n341 K0 = bits_From_l6_B l336 n337 n338 bs339 n340 n341 K0 := by unfold bits_From_l6; rw [shut_eq]

noncomputable def bits_From_l6_1_T {R : Type} (rec : Nat → Int → Int → List Bool → Int → Int → Nat → List Int → Option R) (l349 : Nat) (n350 : Int) (n351 : Int) (bs352 : List Bool) (n353 : Int) (n354 : Int) (l355 : Nat) (xs356 : List Int) (K0 : List Bool → Int → Int → Nat → List Int → Option R) : Option R :=
 sel (decide (n351 < n350))
  (sel (decide (0 ≤ n351))
   (sel (decide (n351 < (↑l349 : Int)))
    (sel (decide (Int.toNat n351 < List.length bs352))
     (sel (List.getD bs352 (Int.toNat n351) false)
      (sel (decide (0 ≤ quoW .i64 n351 64))
       (sel (decide (quoW .i64 n351 64 < (↑l355 : Int)))
        (sel (decide (Int.toNat (quoW .i64 n351 64) < List.length xs356))
         (sel (decide (0 ≤ remW n351 64))
          (sel (decide (0 ≤ quoW .i64 n351 64))
           (sel (decide (quoW .i64 n351 64 < (↑l355 : Int)))
            (sel (decide (Int.toNat (quoW .i64 n351 64) < List.length xs356))
             (letV (List.set xs356 (Int.toNat (quoW .i64 n351 64)) (orW .u64 (List.getD xs356 (Int.toNat (quoW .i64 n351 64)) 0) (shlW .u64 1 (remW n351 64)))) (fun (xs357 : List Int) =>
             rec (l349) (n350) (addW .i64 n351 1) (bs352) (n353) (n354) (l355) (xs357)))
             (none))
            (none))
           (none))
          (none))
         (none))
        (none))
       (none))
      (rec (l349) (n350) (addW .i64 n351 1) (bs352) (n353) (n354) (l355) (xs356)))
     (none))
    (none))
   (none))
  (K0 (bs352) (n353) (n354) (l355) (xs356))
noncomputable def bits_From_l6_1_L {R : Type} (K0 : List Bool → Int → Int → Nat → List Int → Option R) : Nat → Nat → Int → Int → List Bool → Int → Int → Nat → List Int → Option R
  | 0, _, _, _, _, _, _, _, _ => none
  | N + 1, l349, n350, n351, bs352, n353, n354, l355, xs356 => bits_From_l6_1_T (bits_From_l6_1_L K0 N) l349 n350 n351 bs352 n353 n354 l355 xs356 K0
noncomputable def bits_From_l6_1_B {R : Type} (l349 : Nat) (n350 : Int) (n351 : Int) (bs352 : List Bool) (n353 : Int) (n354 : Int) (l355 : Nat) (xs356 : List Int) (K0 : List Bool → Int → Int → Nat → List Int → Option R) : Option R :=
 bits_From_l6_1_L K0 NR l349 n350 n351 bs352 n353 n354 l355 xs356
noncomputable def bits_From_l6_1 {R : Type} (l349 : Nat) (n350 : Int) (n351 : Int) (bs352 : List Bool) (n353 : Int) (n354 : Int) (l355 : Nat) (xs356 : List Int) (K0 : List Bool → Int → Int → Nat → List Int → Option R) : Option R := shut (@bits_From_l6_1_B R) l349 n350 n351 bs352 n353 n354 l355 xs356 K0
theorem bits_From_l6_1_unf {R : Type} (l349 : Nat) (n350 : Int) (n351 : Int) (bs352 : List Bool) (n353 : Int) (n354 : Int) (l355 : Nat) (xs356 : List Int) (K0 : List Bool → Int → Int → Nat → List Int → Option R) : bits_From_l6_1 l349 n350 n351 bs352 n353 n354 l355 xs356 K0 = bits_From_l6_1_B l349 n350 n351 bs352 n353 n354 l355 xs356 K0 := by unfold bits_From_l6_1; rw [shut_eq]

noncomputable def bits_From_r_B {R : Type} (l315 : Nat) (bs316 : List Bool) (K0 : Int → Int → List Bool → Option R) (K1 : Int → Nat → Int → List Bool → List Int → Option R) : Option R :=
 bits_New_r ((↑l315 : Int))
  (fun (n334 : Int) (n335 : Int) => sel (!decide (n335 = 0))
   (K0 (n334) (n335) (bs316))
   (bits_From_l6 (l315) ((↑l315 : Int)) (0) (bs316) (0) (n334)
    (fun (bs342 : List Bool) (n343 : Int) (n344 : Int) => K0 (n344) (0) (bs342))))
  (fun (n345 : Int) (l346 : Nat) (n347 : Int) (xs348 : List Int) => sel (!decide (n347 = 0))
   (K1 (n345) (l346) (n347) (bs316) (xs348))
   (bits_From_l6_1 (l315) ((↑l315 : Int)) (0) (bs316) (0) (n345) (l346) (xs348)
    (fun (bs358 : List Bool) (n359 : Int) (n360 : Int) (l361 : Nat) (xs362 : List Int) => K1 (n360) (l361) (0) (bs358) (xs362))))
noncomputable def bits_From_r {R : Type} (l315 : Nat) (bs316 : List Bool) (K0 : Int → Int → List Bool → Option R) (K1 : Int → Nat → Int → List Bool → List Int → Option R) : Option R := shut (@bits_From_r_B R) l315 bs316 K0 K1
theorem bits_From_r_unf {R : Type} (l315 : Nat) (bs316 : List Bool) (K0 : Int → Int → List Bool → Option R) (K1 : Int → Nat → Int → List Bool → List Int → Option R) : bits_From_r l315 bs316 K0 K1 = bits_From_r_B l315 bs316 K0 K1 := by unfold bits_From_r; rw [shut_eq]

noncomputable def haystackref02_Same_l5_T {R : Type} (rec : Int → Int → List Int → Int → List Int → Option R) (n376 : Int) (n377 : Int) (xs378 : List Int) (n379 : Int) (xs380 : List Int) (K0 : Bool → Option R) (K1 : Unit → Option R) : Option R :=
 sel (decide (n376 < (↑(List.length xs378) : Int)))
  (sel (decide (0 ≤ n376))
   (sel (decide (n376 < (↑(List.length xs378) : Int)))
    (sel (decide (0 ≤ n376))
     (sel (decide (n376 < (↑(List.length xs380) : Int)))
      (sel (!decide (List.getD xs378 (Int.toNat n376) 0 = List.getD xs380 (Int.toNat n376) 0))
       (K0 (false))
       (rec (addW .i64 n376 1) (n377) (xs378) (n379) (xs380)))
      (none))
     (none))
    (none))
   (none))
  (K1 ())
noncomputable def haystackref02_Same_l5_L {R : Type} (K0 : Bool → Option R) (K1 : Unit → Option R) : Nat → Int → Int → List Int → Int → List Int → Option R
  | 0, _, _, _, _, _ => none
  | N + 1, n376, n377, xs378, n379, xs380 => haystackref02_Same_l5_T (haystackref02_Same_l5_L K0 K1 N) n376 n377 xs378 n379 xs380 K0 K1
noncomputable def haystackref02_Same_l5_B {R : Type} (n376 : Int) (n377 : Int) (xs378 : List Int) (n379 : Int) (xs380 : List Int) (K0 : Bool → Option R) (K1 : Unit → Option R) : Option R :=
 haystackref02_Same_l5_L K0 K1 NR n376 n377 xs378 n379 xs380
noncomputable def haystackref02_Same_l5 {R : Type} (n376 : Int) (n377 : Int) (xs378 : List Int) (n379 : Int) (xs380 : List Int) (K0 : Bool → Option R) (K1 : Unit → Option R) : Option R := shut (@haystackref02_Same_l5_B R) n376 n377 xs378 n379 xs380 K0 K1
theorem haystackref02_Same_l5_unf {R : Type} (n376 : Int) (n377 : Int) (xs378 : List Int) (n379 : Int) (xs380 : List Int) (K0 : Bool → Option R) (K1 : Unit → Option R) : haystackref02_Same_l5 n376 n377 xs378 n379 xs380 K0 K1 = haystackref02_Same_l5_B n376 n377 xs378 n379 xs380 K0 K1 := by unfold haystackref02_Same_l5; rw [shut_eq]

noncomputable def haystackref02_Same_j4_B {R : Type} (n372 : Int) (xs373 : List Int) (n374 : Int) (xs375 : List Int) (K0 : Bool → Option R) : Option R :=
 haystackref02_Same_l5 (0) (n372) (xs373) (n374) (xs375)
  (fun (b381 : Bool) => K0 (b381))
  (fun _ => K0 (true))
noncomputable def haystackref02_Same_j4 {R : Type} (n372 : Int) (xs373 : List Int) (n374 : Int) (xs375 : List Int) (K0 : Bool → Option R) : Option R := shut (@haystackref02_Same_j4_B R) n372 xs373 n374 xs375 K0
theorem haystackref02_Same_j4_unf {R : Type} (n372 : Int) (xs373 : List Int) (n374 : Int) (xs375 : List Int) (K0 : Bool → Option R) : haystackref02_Same_j4 n372 xs373 n374 xs375 K0 = haystackref02_Same_j4_B n372 xs373 n374 xs375 K0 := by unfold haystackref02_Same_j4; rw [shut_eq]

noncomputable def haystackref02_Same_B {R : Type} (n368 : Int) (xs369 : List Int) (n370 : Int) (xs371 : List Int) (K0 : Bool → Option R) : Option R :=
 sel (!decide (n368 = n370))
  (K0 (false))
  (sel (!decide ((↑(List.length xs369) : Int) = (↑(List.length xs371) : Int)))
   (K0 (false))
   (haystackref02_Same_j4 (n368) (xs369) (n370) (xs371)
    (fun (b382 : Bool) => K0 (b382))))
noncomputable def haystackref02_Same {R : Type} (n368 : Int) (xs369 : List Int) (n370 : Int) (xs371 : List Int) (K0 : Bool → Option R) : Option R := shut (@haystackref02_Same_B R) n368 xs369 n370 xs371 K0
theorem haystackref02_Same_unf {R : Type} (n368 : Int) (xs369 : List Int) (n370 : Int) (xs371 : List Int) (K0 : Bool → Option R) : haystackref02_Same n368 xs369 n370 xs371 K0 = haystackref02_Same_B n368 xs369 n370 xs371 K0 := by unfold haystackref02_Same; rw [shut_eq]

noncomputable def math_bits_OnesCount64_B {R : Type} (n399 : Int) (K0 : Int → Option R) : Option R :=
 letV (shrW .u64 (addW .u64 (andW .u64 (shrW .u64 (addW .u64 (andW .u64 (shrW .u64 n399 1) 6148914691236517205) (andW .u64 n399 6148914691236517205)) 2) 3689348814741910323) (andW .u64 (addW .u64 (andW .u64 (shrW .u64 n399 1) 6148914691236517205) (andW .u64 n399 6148914691236517205)) 3689348814741910323)) 4) (fun (n400 : Int) =>
 letV (addW .u64 n400 (addW .u64 (andW .u64 (shrW .u64 (addW .u64 (andW .u64 (shrW .u64 n399 1) 6148914691236517205) (andW .u64 n399 6148914691236517205)) 2) 3689348814741910323) (andW .u64 (addW .u64 (andW .u64 (shrW .u64 n399 1) 6148914691236517205) (andW .u64 n399 6148914691236517205)) 3689348814741910323))) (fun (n401 : Int) =>
 letV (addW .u64 (addW .u64 (addW .u64 (andW .u64 n401 1085102592571150095) (shrW .u64 (andW .u64 n401 1085102592571150095) 8)) (shrW .u64 (addW .u64 (andW .u64 n401 1085102592571150095) (shrW .u64 (andW .u64 n401 1085102592571150095) 8)) 16)) (shrW .u64 (addW .u64 (addW .u64 (andW .u64 n401 1085102592571150095) (shrW .u64 (andW .u64 n401 1085102592571150095) 8)) (shrW .u64 (addW .u64 (andW .u64 n401 1085102592571150095) (shrW .u64 (andW .u64 n401 1085102592571150095) 8)) 16)) 32)) (fun (n402 : Int) =>
 K0 (andW .i64 (cvtW .i64 n402) 127))))
noncomputable def math_bits_OnesCount64 {R : Type} (n399 : Int) (K0 : Int → Option R) : Option R := shut (@math_bits_OnesCount64_B R) n399 K0
theorem math_bits_OnesCount64_unf {R : Type} (n399 : Int) (K0 : Int → Option R) : math_bits_OnesCount64 n399 K0 = math_bits_OnesCount64_B n399 K0 := by unfold math_bits_OnesCount64; rw [shut_eq]

noncomputable def word_Pop_B {R : Type} (n398 : Int) (K0 : Int → Option R) : Option R :=
 math_bits_OnesCount64 (n398)
  (fun (n403 : Int) => K0 (n403))
noncomputable def word_Pop {R : Type} (n398 : Int) (K0 : Int → Option R) : Option R := shut (@word_Pop_B R) n398 K0
theorem word_Pop_unf {R : Type} (n398 : Int) (K0 : Int → Option R) : word_Pop n398 K0 = word_Pop_B n398 K0 := by unfold word_Pop; rw [shut_eq]

noncomputable def bits_Ones_l7_T {R : Type} (rec : Int → Int → List Int → Int → Int → Int → List Int → Option R) (n391 : Int) (n392 : Int) (xs393 : List Int) (n394 : Int) (n395 : Int) (n396 : Int) (xs397 : List Int) (K0 : Int → Int → Int → List Int → Option R) : Option R :=
 sel (decide (n395 < n394))
  (sel (decide (0 ≤ n395))
   (sel (decide (n395 < (↑(List.length xs393) : Int)))
    (word_Pop (List.getD xs393 (Int.toNat n395) 0)
     (fun (n404 : Int) => rec (n391) (addW .i64 n392 n404) (xs393) (n394) (addW .i64 n395 1) (n396) (xs397)))
    (none))
   (none))
  (K0 (n391) (n392) (n396) (xs397))
noncomputable def bits_Ones_l7_L {R : Type} (K0 : Int → Int → Int → List Int → Option R) : Nat → Int → Int → List Int → Int → Int → Int → List Int → Option R
  | 0, _, _, _, _, _, _, _ => none
  | N + 1, n391, n392, xs393, n394, n395, n396, xs397 => bits_Ones_l7_T (bits_Ones_l7_L K0 N) n391 n392 xs393 n394 n395 n396 xs397 K0
noncomputable def bits_Ones_l7_B {R : Type} (n391 : Int) (n392 : Int) (xs393 : List Int) (n394 : Int) (n395 : Int) (n396 : Int) (xs397 : List Int) (K0 : Int → Int → Int → List Int → Option R) : Option R :=
 bits_Ones_l7_L K0 NR n391 n392 xs393 n394 n395 n396 xs397
noncomputable def bits_Ones_l7 {R : Type} (n391 : Int) (n392 : Int) (xs393 : List Int) (n394 : Int) (n395 : Int) (n396 : Int) (xs397 : List Int) (K0 : Int → Int → Int → List Int → Option R) : Option R := shut (@bits_Ones_l7_B R) n391 n392 xs393 n394 n395 n396 xs397 K0
theorem bits_Ones_l7_unf {R : Type} (n391 : Int) (n392 : Int) (xs393 : List Int) (n394 : Int) (n395 : Int) (n396 : Int) (xs397 : List Int) (K0 : Int → Int → Int → List Int → Option R) : bits_Ones_l7 n391 n392 xs393 n394 n395 n396 xs397 K0 = bits_Ones_l7_B n391 n392 xs393 n394 n395 n396 xs397 K0 := by unfold bits_Ones_l7; rw [shut_eq]

noncomputable def word_Rank_B {R : Type} (n409 : Int) (n410 : Int) (K0 : Int → Option R) : Option R :=
 word_Mask (n410)
  (fun (n411 : Int) => word_Pop (andW .u64 n409 n411)
   (fun (n412 : Int) => K0 (n412)))
noncomputable def word_Rank {R : Type} (n409 : Int) (n410 : Int) (K0 : Int → Option R) : Option R := shut (@word_Rank_B R) n409 n410 K0
theorem word_Rank_unf {R : Type} (n409 : Int) (n410 : Int) (K0 : Int → Option R) : word_Rank n409 n410 K0 = word_Rank_B n409 n410 K0 := by unfold word_Rank; rw [shut_eq]

noncomputable def bits_Ones_B {R : Type} (n386 : Int) (xs387 : List Int) (n388 : Int) (K0 : Int → Option R) : Option R :=
 bits_Check (n386) (xs387)
  (fun (b389 : Bool) => sel (!b389)
   (K0 (0))
   (sel (decide (0 ≤ quoW .i64 (max2 0 (min2 n388 n386)) 64))
    (sel (decide (quoW .i64 (max2 0 (min2 n388 n386)) 64 ≤ (↑(List.length xs387) : Int)))
     (letV (List.drop (Int.toNat 0) (List.take (Int.toNat (quoW .i64 (max2 0 (min2 n388 n386)) 64)) xs387)) (fun (xs390 : List Int) =>
     bits_Ones_l7 (max2 0 (min2 n388 n386)) (0) (xs390) ((↑(List.length xs390) : Int)) (0) (n386) (xs387)
      (fun (n405 : Int) (n406 : Int) (n407 : Int) (xs408 : List Int) => sel (decide (0 < remW n405 64))
       (sel (decide (0 ≤ quoW .i64 n405 64))
        (sel (decide (quoW .i64 n405 64 < (↑(List.length xs408) : Int)))
         (word_Rank (List.getD xs408 (Int.toNat (quoW .i64 n405 64)) 0) (remW n405 64)
          (fun (n413 : Int) => K0 (addW .i64 n406 n413)))
         (none))
        (none))
       (K0 (n406)))))
     (none))
    (none)))
noncomputable def bits_Ones {R : Type} (n386 : Int) (xs387 : List Int) (n388 : Int) (K0 : Int → Option R) : Option R := shut (@bits_Ones_B R) n386 xs387 n388 K0
theorem bits_Ones_unf {R : Type} (n386 : Int) (xs387 : List Int) (n388 : Int) (K0 : Int → Option R) : bits_Ones n386 xs387 n388 K0 = bits_Ones_B n386 xs387 n388 K0 := by unfold bits_Ones; rw [shut_eq]

noncomputable def haystackref02_Same_l5_1_T {R : Type} (rec : Int → List Int → Int → Nat → Int → List Int → Option R) (n432 : Int) (xs433 : List Int) (n434 : Int) (l435 : Nat) (n436 : Int) (xs437 : List Int) (K0 : Bool → List Int → Option R) (K1 : List Int → Option R) : Option R :=
 sel (decide (n432 < (↑l435 : Int)))
  (sel (decide (0 ≤ n432))
   (sel (decide (n432 < (↑l435 : Int)))
    (sel (decide (Int.toNat n432 < List.length xs433))
     (sel (decide (0 ≤ n432))
      (sel (decide (n432 < (↑(List.length xs437) : Int)))
       (sel (!decide (List.getD xs433 (Int.toNat n432) 0 = List.getD xs437 (Int.toNat n432) 0))
        (K0 (false) (xs433))
        (rec (addW .i64 n432 1) (xs433) (n434) (l435) (n436) (xs437)))
       (none))
      (none))
     (none))
    (none))
   (none))
  (K1 (xs433))
noncomputable def haystackref02_Same_l5_1_L {R : Type} (K0 : Bool → List Int → Option R) (K1 : List Int → Option R) : Nat → Int → List Int → Int → Nat → Int → List Int → Option R
  | 0, _, _, _, _, _, _ => none
  | N + 1, n432, xs433, n434, l435, n436, xs437 => haystackref02_Same_l5_1_T (haystackref02_Same_l5_1_L K0 K1 N) n432 xs433 n434 l435 n436 xs437 K0 K1
noncomputable def haystackref02_Same_l5_1_B {R : Type} (n432 : Int) (xs433 : List Int) (n434 : Int) (l435 : Nat) (n436 : Int) (xs437 : List Int) (K0 : Bool → List Int → Option R) (K1 : List Int → Option R) : Option R :=
 haystackref02_Same_l5_1_L K0 K1 NR n432 xs433 n434 l435 n436 xs437
noncomputable def haystackref02_Same_l5_1 {R : Type} (n432 : Int) (xs433 : List Int) (n434 : Int) (l435 : Nat) (n436 : Int) (xs437 : List Int) (K0 : Bool → List Int → Option R) (K1 : List Int → Option R) : Option R := shut (@haystackref02_Same_l5_1_B R) n432 xs433 n434 l435 n436 xs437 K0 K1
theorem haystackref02_Same_l5_1_unf {R : Type} (n432 : Int) (xs433 : List Int) (n434 : Int) (l435 : Nat) (n436 : Int) (xs437 : List Int) (K0 : Bool → List Int → Option R) (K1 : List Int → Option R) : haystackref02_Same_l5_1 n432 xs433 n434 l435 n436 xs437 K0 K1 = haystackref02_Same_l5_1_B n432 xs433 n434 l435 n436 xs437 K0 K1 := by unfold haystackref02_Same_l5_1; rw [shut_eq]

noncomputable def haystackref02_Same_j4_1_B {R : Type} (xs427 : List Int) (n428 : Int) (l429 : Nat) (n430 : Int) (xs431 : List Int) (K0 : Bool → List Int → Option R) : Option R :=
 haystackref02_Same_l5_1 (0) (xs427) (n428) (l429) (n430) (xs431)
  (fun (b438 : Bool) (xs439 : List Int) => K0 (b438) (xs439))
  (fun (xs440 : List Int) => K0 (true) (xs440))
noncomputable def haystackref02_Same_j4_1 {R : Type} (xs427 : List Int) (n428 : Int) (l429 : Nat) (n430 : Int) (xs431 : List Int) (K0 : Bool → List Int → Option R) : Option R := shut (@haystackref02_Same_j4_1_B R) xs427 n428 l429 n430 xs431 K0
theorem haystackref02_Same_j4_1_unf {R : Type} (xs427 : List Int) (n428 : Int) (l429 : Nat) (n430 : Int) (xs431 : List Int) (K0 : Bool → List Int → Option R) : haystackref02_Same_j4_1 xs427 n428 l429 n430 xs431 K0 = haystackref02_Same_j4_1_B xs427 n428 l429 n430 xs431 K0 := by unfold haystackref02_Same_j4_1; rw [shut_eq]

noncomputable def haystackref02_Same_r_B {R : Type} (n422 : Int) (l423 : Nat) (n424 : Int) (xs425 : List Int) (xs426 : List Int) (K0 : Bool → List Int → Option R) : Option R :=
 sel (!decide (n422 = n424))
  (K0 (false) (xs426))
  (sel (!decide ((↑l423 : Int) = (↑(List.length xs425) : Int)))
   (K0 (false) (xs426))
   (haystackref02_Same_j4_1 (xs426) (n422) (l423) (n424) (xs425)
    (fun (b441 : Bool) (xs442 : List Int) => K0 (b441) (xs442))))
noncomputable def haystackref02_Same_r {R : Type} (n422 : Int) (l423 : Nat) (n424 : Int) (xs425 : List Int) (xs426 : List Int) (K0 : Bool → List Int → Option R) : Option R := shut (@haystackref02_Same_r_B R) n422 l423 n424 xs425 xs426 K0
theorem haystackref02_Same_r_unf {R : Type} (n422 : Int) (l423 : Nat) (n424 : Int) (xs425 : List Int) (xs426 : List Int) (K0 : Bool → List Int → Option R) : haystackref02_Same_r n422 l423 n424 xs425 xs426 K0 = haystackref02_Same_r_B n422 l423 n424 xs425 xs426 K0 := by unfold haystackref02_Same_r; rw [shut_eq]

noncomputable def haystacklaw02_heads_B {R : Type} (K0 : Bool → Option R) : Option R :=
 bits_Append (0) ([]) (5) (3)
  (fun (n116 : Int) (xs117 : List Int) (n118 : Int) => bits_Set (n116) (xs117) (1) (true)
   (fun (n139 : Int) (xs140 : List Int) (n141 : Int) => bits_Slice (n139) (xs140) (1) (2)
    (fun (n211 : Int) (n212 : Int) => bits_Get (n139) (xs140) (3)
     (fun (b213 : Bool) (n214 : Int) => bits_Join (n116) (xs117) (n139) (xs140)
      (fun (n285 : Int) (xs286 : List Int) (n287 : Int) => bits_New (-1)
       (fun (n312 : Int) (xs313 : List Int) (n314 : Int) => bits_From_r (3) ([true, false, true])
        (fun (n363 : Int) (n364 : Int) (bs365 : List Bool) => bits_Get (n116) (xs117) (2)
         (fun (b366 : Bool) (n367 : Int) => sel (decide (n118 = 0))
          (sel (decide (n116 = 3))
           (sel (decide ((↑(List.length xs117) : Int) = 1))
            (sel (decide (0 < (↑(List.length xs117) : Int)))
             (sel (decide (List.getD xs117 (Int.toNat 0) 0 = 5))
              (sel (decide (n141 = 0))
               (sel (decide (n211 = 3))
                (sel (decide (n212 = 0))
                 (sel (decide (n214 = 3))
                  (sel (decide (n287 = 0))
                   (sel (decide (n285 = 6))
                    (sel (decide (n314 = 2))
                     (sel (decide (n364 = 0))
                      (haystackref02_Same (n363) ([]) (n116) (xs117)
                       (fun (b383 : Bool) => sel (b383)
                        (sel (b366)
                         (sel (decide (n367 = 0))
                          (bits_Check (n285) (xs286)
                           (fun (b384 : Bool) => sel (b384)
                            (bits_Check (1) ([])
                             (fun (b385 : Bool) => sel (!b385)
                              (bits_Ones (n116) (xs117) (9)
                               (fun (n414 : Int) => K0 (decide (n414 = 2))))
                              (K0 (false))))
                            (K0 (false))))
                          (K0 (false)))
                         (K0 (false)))
                        (K0 (false))))
                      (K0 (false)))
                     (K0 (false)))
                    (K0 (false)))
                   (K0 (false)))
                  (K0 (false)))
                 (K0 (false)))
                (K0 (false)))
               (K0 (false)))
              (K0 (false)))
             (none))
            (K0 (false)))
           (K0 (false)))
          (K0 (false))))
        (fun (n415 : Int) (l416 : Nat) (n417 : Int) (bs418 : List Bool) (xs419 : List Int) => bits_Get (n116) (xs117) (2)
         (fun (b420 : Bool) (n421 : Int) => sel (decide (n118 = 0))
          (sel (decide (n116 = 3))
           (sel (decide ((↑(List.length xs117) : Int) = 1))
            (sel (decide (0 < (↑(List.length xs117) : Int)))
             (sel (decide (List.getD xs117 (Int.toNat 0) 0 = 5))
              (sel (decide (n141 = 0))
               (sel (decide (n211 = 3))
                (sel (decide (n212 = 0))
                 (sel (decide (n214 = 3))
                  (sel (decide (n287 = 0))
                   (sel (decide (n285 = 6))
                    (sel (decide (n314 = 2))
                     (sel (decide (n417 = 0))
                      (haystackref02_Same_r (n415) (l416) (n116) (xs117) (xs419)
                       (fun (b443 : Bool) (xs444 : List Int) => sel (b443)
                        (sel (b420)
                         (sel (decide (n421 = 0))
                          (bits_Check (n285) (xs286)
                           (fun (b445 : Bool) => sel (b445)
                            (bits_Check (1) ([])
                             (fun (b446 : Bool) => sel (!b446)
                              (bits_Ones (n116) (xs117) (9)
                               (fun (n447 : Int) => K0 (decide (n447 = 2))))
                              (K0 (false))))
                            (K0 (false))))
                          (K0 (false)))
                         (K0 (false)))
                        (K0 (false))))
                      (K0 (false)))
                     (K0 (false)))
                    (K0 (false)))
                   (K0 (false)))
                  (K0 (false)))
                 (K0 (false)))
                (K0 (false)))
               (K0 (false)))
              (K0 (false)))
             (none))
            (K0 (false)))
           (K0 (false)))
          (K0 (false))))))))))
noncomputable def haystacklaw02_heads {R : Type} (K0 : Bool → Option R) : Option R := shut (@haystacklaw02_heads_B R) K0
theorem haystacklaw02_heads_unf {R : Type} (K0 : Bool → Option R) : haystacklaw02_heads K0 = haystacklaw02_heads_B K0 := by unfold haystacklaw02_heads; rw [shut_eq]

noncomputable def haystacklaw02_BitsCounts_j4_B {R : Type} (n453 : Int) (n454 : Int) (xs455 : List Int) (K0 : Bool → Option R) : Option R :=
 bits_Get (n454) (xs455) (n453)
  (fun (b456 : Bool) (n457 : Int) => bits_Ones (n454) (xs455) (n453)
   (fun (n458 : Int) => bits_Ones (n454) (xs455) (addW .i64 n453 1)
    (fun (n459 : Int) => sel (decide (n457 = 0))
     (sel (decide (subW .i64 n459 n458 = 1) == b456)
      (sel (decide (subW .i64 n459 n458 = 0) == !b456)
       (sel (decide (n458 ≤ n453))
        (bits_Ones (n454) (xs455) (n454)
         (fun (n460 : Int) => sel (decide (n459 ≤ n460))
          (haystacklaw02_heads 
           (fun (b461 : Bool) => K0 (b461)))
          (K0 (false))))
        (K0 (false)))
       (K0 (false)))
      (K0 (false)))
     (K0 (false)))))
noncomputable def haystacklaw02_BitsCounts_j4 {R : Type} (n453 : Int) (n454 : Int) (xs455 : List Int) (K0 : Bool → Option R) : Option R := shut (@haystacklaw02_BitsCounts_j4_B R) n453 n454 xs455 K0
theorem haystacklaw02_BitsCounts_j4_unf {R : Type} (n453 : Int) (n454 : Int) (xs455 : List Int) (K0 : Bool → Option R) : haystacklaw02_BitsCounts_j4 n453 n454 xs455 K0 = haystacklaw02_BitsCounts_j4_B n453 n454 xs455 K0 := by unfold haystacklaw02_BitsCounts_j4; rw [shut_eq]

noncomputable def haystacklaw02_BitsCounts_B {R : Type} (n0 : Int) (xs1 : List Int) (n2 : Int) (K0 : Bool → Option R) : Option R :=
 haystacklaw02_small (n0) (xs1)
  (fun (b5 : Bool) => sel (!b5)
   (haystacklaw02_heads 
    (fun (b448 : Bool) => K0 (b448)))
   (bits_Check (n0) (xs1)
    (fun (b449 : Bool) => sel (!b449)
     (haystacklaw02_heads 
      (fun (b450 : Bool) => K0 (b450)))
     (sel (decide (n2 < 0))
      (haystacklaw02_heads 
       (fun (b451 : Bool) => K0 (b451)))
      (sel (decide (n0 ≤ n2))
       (haystacklaw02_heads 
        (fun (b452 : Bool) => K0 (b452)))
       (haystacklaw02_BitsCounts_j4 (n2) (n0) (xs1)
        (fun (b462 : Bool) => K0 (b462))))))))
noncomputable def haystacklaw02_BitsCounts {R : Type} (n0 : Int) (xs1 : List Int) (n2 : Int) (K0 : Bool → Option R) : Option R := shut (@haystacklaw02_BitsCounts_B R) n0 xs1 n2 K0
theorem haystacklaw02_BitsCounts_unf {R : Type} (n0 : Int) (xs1 : List Int) (n2 : Int) (K0 : Bool → Option R) : haystacklaw02_BitsCounts n0 xs1 n2 K0 = haystacklaw02_BitsCounts_B n0 xs1 n2 K0 := by unfold haystacklaw02_BitsCounts; rw [shut_eq]

noncomputable def haystacklaw02_BitsSplits_j4_B {R : Type} (n478 : Int) (n479 : Int) (n480 : Int) (n481 : Int) (xs482 : List Int) (K0 : Bool → Option R) : Option R :=
 bits_Slice (n481) (xs482) (n478) (addW .i64 n479 n480)
  (fun (n483 : Int) (n484 : Int) => bits_Slice (n481) (xs482) (n478) (n479)
   (fun (n485 : Int) (n486 : Int) => bits_Slice (n481) (xs482) (addW .i64 n478 n479) (n480)
    (fun (n487 : Int) (n488 : Int) => sel (!decide (n484 = 0))
     (sel (!decide (n486 = 0))
      (haystacklaw02_heads 
       (fun (b489 : Bool) => K0 (b489)))
      (sel (!decide (n488 = 0))
       (haystacklaw02_heads 
        (fun (b490 : Bool) => K0 (b490)))
       (K0 (false))))
     (sel (decide (n479 = 64))
      (sel (decide (n486 = 0))
       (sel (decide (n488 = 0))
        (sel (decide (n483 = n485))
         (sel (decide (n487 = 0))
          (haystacklaw02_heads 
           (fun (b491 : Bool) => K0 (b491)))
          (K0 (false)))
         (K0 (false)))
        (K0 (false)))
       (K0 (false)))
      (sel (decide (n486 = 0))
       (sel (decide (n488 = 0))
        (sel (decide (0 ≤ cvtW .u64 n479))
         (sel (decide (n483 = orW .u64 n485 (shlW .u64 n487 (cvtW .u64 n479))))
          (haystacklaw02_heads 
           (fun (b492 : Bool) => K0 (b492)))
          (K0 (false)))
         (none))
        (K0 (false)))
       (K0 (false)))))))
noncomputable def haystacklaw02_BitsSplits_j4 {R : Type} (n478 : Int) (n479 : Int) (n480 : Int) (n481 : Int) (xs482 : List Int) (K0 : Bool → Option R) : Option R := shut (@haystacklaw02_BitsSplits_j4_B R) n478 n479 n480 n481 xs482 K0
theorem haystacklaw02_BitsSplits_j4_unf {R : Type} (n478 : Int) (n479 : Int) (n480 : Int) (n481 : Int) (xs482 : List Int) (K0 : Bool → Option R) : haystacklaw02_BitsSplits_j4 n478 n479 n480 n481 xs482 K0 = haystacklaw02_BitsSplits_j4_B n478 n479 n480 n481 xs482 K0 := by unfold haystacklaw02_BitsSplits_j4; rw [shut_eq]

noncomputable def haystacklaw02_BitsSplits_B {R : Type} (n463 : Int) (xs464 : List Int) (n465 : Int) (n466 : Int) (n467 : Int) (K0 : Bool → Option R) : Option R :=
 haystacklaw02_small (n463) (xs464)
  (fun (b468 : Bool) => sel (!b468)
   (haystacklaw02_heads 
    (fun (b469 : Bool) => K0 (b469)))
   (bits_Check (n463) (xs464)
    (fun (b470 : Bool) => sel (!b470)
     (haystacklaw02_heads 
      (fun (b471 : Bool) => K0 (b471)))
     (sel (decide (n466 < 0))
      (haystacklaw02_heads 
       (fun (b472 : Bool) => K0 (b472)))
      (sel (decide (n467 < 0))
       (haystacklaw02_heads 
        (fun (b473 : Bool) => K0 (b473)))
       (sel (decide (64 < n466))
        (haystacklaw02_heads 
         (fun (b474 : Bool) => K0 (b474)))
        (sel (decide (subW .i64 64 n466 < n467))
         (haystacklaw02_heads 
          (fun (b475 : Bool) => K0 (b475)))
         (sel (decide (n465 < 0))
          (haystacklaw02_heads 
           (fun (b476 : Bool) => K0 (b476)))
          (sel (decide (n463 < n465))
           (haystacklaw02_heads 
            (fun (b477 : Bool) => K0 (b477)))
           (haystacklaw02_BitsSplits_j4 (n465) (n466) (n467) (n463) (xs464)
            (fun (b493 : Bool) => K0 (b493))))))))))))
noncomputable def haystacklaw02_BitsSplits {R : Type} (n463 : Int) (xs464 : List Int) (n465 : Int) (n466 : Int) (n467 : Int) (K0 : Bool → Option R) : Option R := shut (@haystacklaw02_BitsSplits_B R) n463 xs464 n465 n466 n467 K0
theorem haystacklaw02_BitsSplits_unf {R : Type} (n463 : Int) (xs464 : List Int) (n465 : Int) (n466 : Int) (n467 : Int) (K0 : Bool → Option R) : haystacklaw02_BitsSplits n463 xs464 n465 n466 n467 K0 = haystacklaw02_BitsSplits_B n463 xs464 n465 n466 n467 K0 := by unfold haystacklaw02_BitsSplits; rw [shut_eq]

noncomputable def bits_Check_j4_1_B {R : Type} (xs525 : List Int) (n526 : Int) (l527 : Nat) (K0 : Bool → List Int → Option R) : Option R :=
 sel (decide (remW n526 64 = 0))
  (K0 (true) (xs525))
  (sel (decide (0 ≤ subW .i64 (↑l527 : Int) 1))
   (sel (decide (subW .i64 (↑l527 : Int) 1 < (↑l527 : Int)))
    (sel (decide (Int.toNat (subW .i64 (↑l527 : Int) 1) < List.length xs525))
     (word_Mask (remW n526 64)
      (fun (n528 : Int) => letV (decide (andNotW .u64 (List.getD xs525 (Int.toNat (subW .i64 (↑l527 : Int) 1)) 0) n528 = 0)) (fun (b529 : Bool) =>
      K0 (b529) (xs525))))
     (none))
    (none))
   (none))
noncomputable def bits_Check_j4_1 {R : Type} (xs525 : List Int) (n526 : Int) (l527 : Nat) (K0 : Bool → List Int → Option R) : Option R := shut (@bits_Check_j4_1_B R) xs525 n526 l527 K0
theorem bits_Check_j4_1_unf {R : Type} (xs525 : List Int) (n526 : Int) (l527 : Nat) (K0 : Bool → List Int → Option R) : bits_Check_j4_1 xs525 n526 l527 K0 = bits_Check_j4_1_B xs525 n526 l527 K0 := by unfold bits_Check_j4_1; rw [shut_eq]

noncomputable def bits_Check_r_B {R : Type} (n521 : Int) (l522 : Nat) (xs523 : List Int) (K0 : Bool → List Int → Option R) : Option R :=
 sel (decide (n521 < 0))
  (K0 (false) (xs523))
  (sel (decide (1048576 < n521))
   (K0 (false) (xs523))
   (bits_words (n521)
    (fun (n524 : Int) => sel (!decide ((↑l522 : Int) = n524))
     (K0 (false) (xs523))
     (bits_Check_j4_1 (xs523) (n521) (l522)
      (fun (b530 : Bool) (xs531 : List Int) => K0 (b530) (xs531))))))
noncomputable def bits_Check_r {R : Type} (n521 : Int) (l522 : Nat) (xs523 : List Int) (K0 : Bool → List Int → Option R) : Option R := shut (@bits_Check_r_B R) n521 l522 xs523 K0
theorem bits_Check_r_unf {R : Type} (n521 : Int) (l522 : Nat) (xs523 : List Int) (K0 : Bool → List Int → Option R) : bits_Check_r n521 l522 xs523 K0 = bits_Check_r_B n521 l522 xs523 K0 := by unfold bits_Check_r; rw [shut_eq]

noncomputable def bits_Get_j6_1_B {R : Type} (n534 : Int) (xs535 : List Int) (_n536 : Int) (l537 : Nat) (K0 : Bool → Int → List Int → Option R) : Option R :=
 sel (decide (0 ≤ quoW .i64 n534 64))
  (sel (decide (quoW .i64 n534 64 < (↑l537 : Int)))
   (sel (decide (Int.toNat (quoW .i64 n534 64) < List.length xs535))
    (sel (decide (0 ≤ remW n534 64))
     (letV (decide (andW .u64 (shrW .u64 (List.getD xs535 (Int.toNat (quoW .i64 n534 64)) 0) (remW n534 64)) 1 = 1)) (fun (b538 : Bool) =>
     K0 (b538) (0) (xs535)))
     (none))
    (none))
   (none))
  (none)
noncomputable def bits_Get_j6_1 {R : Type} (n534 : Int) (xs535 : List Int) (n536 : Int) (l537 : Nat) (K0 : Bool → Int → List Int → Option R) : Option R := shut (@bits_Get_j6_1_B R) n534 xs535 n536 l537 K0
theorem bits_Get_j6_1_unf {R : Type} (n534 : Int) (xs535 : List Int) (n536 : Int) (l537 : Nat) (K0 : Bool → Int → List Int → Option R) : bits_Get_j6_1 n534 xs535 n536 l537 K0 = bits_Get_j6_1_B n534 xs535 n536 l537 K0 := by unfold bits_Get_j6_1; rw [shut_eq]

noncomputable def bits_Get_r_B {R : Type} (n517 : Int) (l518 : Nat) (n519 : Int) (xs520 : List Int) (K0 : Bool → Int → List Int → Option R) : Option R :=
 bits_Check_r (n517) (l518) (xs520)
  (fun (b532 : Bool) (xs533 : List Int) => sel (!b532)
   (K0 (false) (2) (xs533))
   (sel (decide (n519 < 0))
    (K0 (false) (3) (xs533))
    (sel (decide (n517 ≤ n519))
     (K0 (false) (3) (xs533))
     (bits_Get_j6_1 (n519) (xs533) (n517) (l518)
      (fun (b539 : Bool) (n540 : Int) (xs541 : List Int) => K0 (b539) (n540) (xs541))))))
noncomputable def bits_Get_r {R : Type} (n517 : Int) (l518 : Nat) (n519 : Int) (xs520 : List Int) (K0 : Bool → Int → List Int → Option R) : Option R := shut (@bits_Get_r_B R) n517 l518 n519 xs520 K0
theorem bits_Get_r_unf {R : Type} (n517 : Int) (l518 : Nat) (n519 : Int) (xs520 : List Int) (K0 : Bool → Int → List Int → Option R) : bits_Get_r n517 l518 n519 xs520 K0 = bits_Get_r_B n517 l518 n519 xs520 K0 := by unfold bits_Get_r; rw [shut_eq]

noncomputable def bits_own_r_1_B {R : Type} (_n545 : Int) (l546 : Nat) (n547 : Int) (xs548 : List Int) (K0 : Int → Nat → List Int → List Int → Option R) : Option R :=
 bits_words (n547)
  (fun (n549 : Int) => sel (decide (0 ≤ n549))
   (sel (decide (n549 ≤ n549))
    (sel (decide (n549 ≤ 281474976710656))
     (sel (decide ((↑8 : Int) * n549 ≤ 281474976710656))
      (letV (List.replicate (Int.toNat n549) 0) (fun (xs550 : List Int) =>
      sel (decide (0 + Int.toNat n549 ≤ List.length xs550))
       (sel (decide (l546 = List.length xs548))
        (sel (decide (l546 ≤ Int.toNat n549))
         (sel (decide (0 + List.length xs548 ≤ List.length xs550))
          (letV (List.take 0 xs550 ++ (xs548 ++ List.drop (0 + List.length xs548) xs550)) (fun (xs551 : List Int) =>
          K0 (n547) (Int.toNat n549) (xs548) (xs551)))
          (none))
         (sel (decide (0 + Int.toNat n549 ≤ List.length xs548))
          (sel (decide (0 + List.length (List.take (Int.toNat n549) (List.drop 0 xs548)) ≤ List.length xs550))
           (letV (List.take 0 xs550 ++ (List.take (Int.toNat n549) (List.drop 0 xs548) ++ List.drop (0 + List.length (List.take (Int.toNat n549) (List.drop 0 xs548))) xs550)) (fun (xs552 : List Int) =>
           K0 (n547) (Int.toNat n549) (xs548) (xs552)))
           (none))
          (none)))
        (sel (decide (0 + l546 ≤ List.length xs548))
         (sel (decide (l546 ≤ Int.toNat n549))
          (sel (decide (0 + List.length (List.take l546 (List.drop 0 xs548)) ≤ List.length xs550))
           (letV (List.take 0 xs550 ++ (List.take l546 (List.drop 0 xs548) ++ List.drop (0 + List.length (List.take l546 (List.drop 0 xs548))) xs550)) (fun (xs553 : List Int) =>
           K0 (n547) (Int.toNat n549) (xs548) (xs553)))
           (none))
          (sel (decide (0 + Int.toNat n549 ≤ List.length (List.take l546 (List.drop 0 xs548))))
           (sel (decide (0 + List.length (List.take (Int.toNat n549) (List.drop 0 (List.take l546 (List.drop 0 xs548)))) ≤ List.length xs550))
            (letV (List.take 0 xs550 ++ (List.take (Int.toNat n549) (List.drop 0 (List.take l546 (List.drop 0 xs548))) ++ List.drop (0 + List.length (List.take (Int.toNat n549) (List.drop 0 (List.take l546 (List.drop 0 xs548))))) xs550)) (fun (xs554 : List Int) =>
            K0 (n547) (Int.toNat n549) (xs548) (xs554)))
            (none))
           (none)))
         (none)))
       (none)))
      (none))
     (none))
    (none))
   (none))
noncomputable def bits_own_r_1 {R : Type} (n545 : Int) (l546 : Nat) (n547 : Int) (xs548 : List Int) (K0 : Int → Nat → List Int → List Int → Option R) : Option R := shut (@bits_own_r_1_B R) n545 l546 n547 xs548 K0
theorem bits_own_r_1_unf {R : Type} (n545 : Int) (l546 : Nat) (n547 : Int) (xs548 : List Int) (K0 : Int → Nat → List Int → List Int → Option R) : bits_own_r_1 n545 l546 n547 xs548 K0 = bits_own_r_1_B n545 l546 n547 xs548 K0 := by unfold bits_own_r_1; rw [shut_eq]

noncomputable def bits_Set_r_B {R : Type} (n512 : Int) (l513 : Nat) (n514 : Int) (b515 : Bool) (xs516 : List Int) (K0 : Int → Nat → Int → List Int → Option R) (K1 : Int → Nat → Int → List Int → List Int → Option R) : Option R :=
 bits_Get_r (n512) (l513) (n514) (xs516)
  (fun (b542 : Bool) (n543 : Int) (xs544 : List Int) => sel (!decide (n543 = 0))
   (K0 (n512) (l513) (n543) (xs544))
   (bits_own_r_1 (n512) (l513) (n512) (xs544)
    (fun (n555 : Int) (l556 : Nat) (xs557 : List Int) (xs558 : List Int) => sel (!b542 == b515)
     (sel (decide (0 ≤ quoW .i64 n514 64))
      (sel (decide (quoW .i64 n514 64 < (↑l556 : Int)))
       (sel (decide (Int.toNat (quoW .i64 n514 64) < List.length xs558))
        (sel (decide (0 ≤ remW n514 64))
         (sel (decide (0 ≤ quoW .i64 n514 64))
          (sel (decide (quoW .i64 n514 64 < (↑l556 : Int)))
           (sel (decide (Int.toNat (quoW .i64 n514 64) < List.length xs558))
            (letV (List.set xs558 (Int.toNat (quoW .i64 n514 64)) (xorW .u64 (List.getD xs558 (Int.toNat (quoW .i64 n514 64)) 0) (shlW .u64 1 (remW n514 64)))) (fun (xs559 : List Int) =>
            K1 (n555) (l556) (0) (xs557) (xs559)))
            (none))
           (none))
          (none))
         (none))
        (none))
       (none))
      (none))
     (K1 (n555) (l556) (0) (xs557) (xs558)))))
noncomputable def bits_Set_r {R : Type} (n512 : Int) (l513 : Nat) (n514 : Int) (b515 : Bool) (xs516 : List Int) (K0 : Int → Nat → Int → List Int → Option R) (K1 : Int → Nat → Int → List Int → List Int → Option R) : Option R := shut (@bits_Set_r_B R) n512 l513 n514 b515 xs516 K0 K1
theorem bits_Set_r_unf {R : Type} (n512 : Int) (l513 : Nat) (n514 : Int) (b515 : Bool) (xs516 : List Int) (K0 : Int → Nat → Int → List Int → Option R) (K1 : Int → Nat → Int → List Int → List Int → Option R) : bits_Set_r n512 l513 n514 b515 xs516 K0 K1 = bits_Set_r_B n512 l513 n514 b515 xs516 K0 K1 := by unfold bits_Set_r; rw [shut_eq]

noncomputable def haystackref02_Words_B {R : Type} (n570 : Int) (K0 : Int → Option R) : Option R :=
 K0 (quoW .i64 (addW .i64 n570 63) 64)
noncomputable def haystackref02_Words {R : Type} (n570 : Int) (K0 : Int → Option R) : Option R := shut (@haystackref02_Words_B R) n570 K0
theorem haystackref02_Words_unf {R : Type} (n570 : Int) (K0 : Int → Option R) : haystackref02_Words n570 K0 = haystackref02_Words_B n570 K0 := by unfold haystackref02_Words; rw [shut_eq]

noncomputable def haystackref01_Mask_j6_B {R : Type} (n578 : Int) (n579 : Int) (n580 : Int) (K0 : Int → Int → Int → Option R) : Option R :=
 sel (decide (0 ≤ cvtW .u64 n580))
  (K0 (n578) (orW .u64 n579 (shlW .u64 1 (cvtW .u64 n580))) (addW .i64 n580 1))
  (none)
noncomputable def haystackref01_Mask_j6 {R : Type} (n578 : Int) (n579 : Int) (n580 : Int) (K0 : Int → Int → Int → Option R) : Option R := shut (@haystackref01_Mask_j6_B R) n578 n579 n580 K0
theorem haystackref01_Mask_j6_unf {R : Type} (n578 : Int) (n579 : Int) (n580 : Int) (K0 : Int → Int → Int → Option R) : haystackref01_Mask_j6 n578 n579 n580 K0 = haystackref01_Mask_j6_B n578 n579 n580 K0 := by unfold haystackref01_Mask_j6; rw [shut_eq]

noncomputable def haystackref01_Mask_l4_T {R : Type} (rec : Int → Int → Int → Option R) (n575 : Int) (n576 : Int) (n577 : Int) (K0 : Int → Option R) : Option R :=
 sel (decide (n577 < 64))
  (sel (decide (n577 < n575))
   (haystackref01_Mask_j6 (n575) (n576) (n577)
    (fun (n581 : Int) (n582 : Int) (n583 : Int) => rec (n581) (n582) (n583)))
   (K0 (n576)))
  (K0 (n576))
noncomputable def haystackref01_Mask_l4_L {R : Type} (K0 : Int → Option R) : Nat → Int → Int → Int → Option R
  | 0, _, _, _ => none
  | N + 1, n575, n576, n577 => haystackref01_Mask_l4_T (haystackref01_Mask_l4_L K0 N) n575 n576 n577 K0
noncomputable def haystackref01_Mask_l4_B {R : Type} (n575 : Int) (n576 : Int) (n577 : Int) (K0 : Int → Option R) : Option R :=
 haystackref01_Mask_l4_L K0 NR n575 n576 n577
noncomputable def haystackref01_Mask_l4 {R : Type} (n575 : Int) (n576 : Int) (n577 : Int) (K0 : Int → Option R) : Option R := shut (@haystackref01_Mask_l4_B R) n575 n576 n577 K0
theorem haystackref01_Mask_l4_unf {R : Type} (n575 : Int) (n576 : Int) (n577 : Int) (K0 : Int → Option R) : haystackref01_Mask_l4 n575 n576 n577 K0 = haystackref01_Mask_l4_B n575 n576 n577 K0 := by unfold haystackref01_Mask_l4; rw [shut_eq]

noncomputable def haystackref01_Mask_B {R : Type} (n574 : Int) (K0 : Int → Option R) : Option R :=
 haystackref01_Mask_l4 (n574) (0) (0)
  (fun (n584 : Int) => K0 (n584))
noncomputable def haystackref01_Mask {R : Type} (n574 : Int) (K0 : Int → Option R) : Option R := shut (@haystackref01_Mask_B R) n574 K0
theorem haystackref01_Mask_unf {R : Type} (n574 : Int) (K0 : Int → Option R) : haystackref01_Mask n574 K0 = haystackref01_Mask_B n574 K0 := by unfold haystackref01_Mask; rw [shut_eq]

noncomputable def haystackref02_Check_j4_B {R : Type} (n572 : Int) (xs573 : List Int) (K0 : Bool → Option R) : Option R :=
 sel (decide (remW n572 64 = 0))
  (K0 (true))
  (sel (decide (0 ≤ subW .i64 (↑(List.length xs573) : Int) 1))
   (sel (decide (subW .i64 (↑(List.length xs573) : Int) 1 < (↑(List.length xs573) : Int)))
    (haystackref01_Mask (remW n572 64)
     (fun (n585 : Int) => letV (decide (andNotW .u64 (List.getD xs573 (Int.toNat (subW .i64 (↑(List.length xs573) : Int) 1)) 0) n585 = 0)) (fun (b586 : Bool) =>
     K0 (b586))))
    (none))
   (none))
noncomputable def haystackref02_Check_j4 {R : Type} (n572 : Int) (xs573 : List Int) (K0 : Bool → Option R) : Option R := shut (@haystackref02_Check_j4_B R) n572 xs573 K0
theorem haystackref02_Check_j4_unf {R : Type} (n572 : Int) (xs573 : List Int) (K0 : Bool → Option R) : haystackref02_Check_j4 n572 xs573 K0 = haystackref02_Check_j4_B n572 xs573 K0 := by unfold haystackref02_Check_j4; rw [shut_eq]

noncomputable def haystackref02_Check_B {R : Type} (n568 : Int) (xs569 : List Int) (K0 : Bool → Option R) : Option R :=
 sel (decide (n568 < 0))
  (K0 (false))
  (sel (decide (1048576 < n568))
   (K0 (false))
   (haystackref02_Words (n568)
    (fun (n571 : Int) => sel (!decide ((↑(List.length xs569) : Int) = n571))
     (K0 (false))
     (haystackref02_Check_j4 (n568) (xs569)
      (fun (b587 : Bool) => K0 (b587))))))
noncomputable def haystackref02_Check {R : Type} (n568 : Int) (xs569 : List Int) (K0 : Bool → Option R) : Option R := shut (@haystackref02_Check_B R) n568 xs569 K0
theorem haystackref02_Check_unf {R : Type} (n568 : Int) (xs569 : List Int) (K0 : Bool → Option R) : haystackref02_Check n568 xs569 K0 = haystackref02_Check_B n568 xs569 K0 := by unfold haystackref02_Check; rw [shut_eq]

noncomputable def haystackref02_Set_j5_B {R : Type} (n589 : Int) (b590 : Bool) (b591 : Bool) (n592 : Int) (xs593 : List Int) (n594 : Int) (K0 : Int → Int → List Int → Option R) (K1 : Int → Bool → Int → List Int → Int → Option R) : Option R :=
 sel (b591)
  (K0 (3) (n592) (xs593))
  (K1 (n589) (b590) (n592) (xs593) (n594))
noncomputable def haystackref02_Set_j5 {R : Type} (n589 : Int) (b590 : Bool) (b591 : Bool) (n592 : Int) (xs593 : List Int) (n594 : Int) (K0 : Int → Int → List Int → Option R) (K1 : Int → Bool → Int → List Int → Int → Option R) : Option R := shut (@haystackref02_Set_j5_B R) n589 b590 b591 n592 xs593 n594 K0 K1
theorem haystackref02_Set_j5_unf {R : Type} (n589 : Int) (b590 : Bool) (b591 : Bool) (n592 : Int) (xs593 : List Int) (n594 : Int) (K0 : Int → Int → List Int → Option R) (K1 : Int → Bool → Int → List Int → Int → Option R) : haystackref02_Set_j5 n589 b590 b591 n592 xs593 n594 K0 K1 = haystackref02_Set_j5_B n589 b590 b591 n592 xs593 n594 K0 K1 := by unfold haystackref02_Set_j5; rw [shut_eq]

noncomputable def haystackref02_put_r_B {R : Type} (l608 : Nat) (n609 : Int) (b610 : Bool) (xs611 : List Int) (K0 : List Int → Option R) : Option R :=
 sel (decide (0 ≤ quoW .i64 n609 64))
  (sel (decide (quoW .i64 n609 64 < (↑l608 : Int)))
   (sel (decide (Int.toNat (quoW .i64 n609 64) < List.length xs611))
    (sel (decide (0 ≤ cvtW .u64 (remW n609 64)))
     (sel (decide (0 ≤ quoW .i64 n609 64))
      (sel (decide (quoW .i64 n609 64 < (↑l608 : Int)))
       (sel (decide (Int.toNat (quoW .i64 n609 64) < List.length xs611))
        (letV (List.set xs611 (Int.toNat (quoW .i64 n609 64)) (andNotW .u64 (List.getD xs611 (Int.toNat (quoW .i64 n609 64)) 0) (shlW .u64 1 (cvtW .u64 (remW n609 64))))) (fun (xs612 : List Int) =>
        sel (b610)
         (sel (decide (0 ≤ quoW .i64 n609 64))
          (sel (decide (quoW .i64 n609 64 < (↑l608 : Int)))
           (sel (decide (Int.toNat (quoW .i64 n609 64) < List.length xs612))
            (sel (decide (0 ≤ cvtW .u64 (remW n609 64)))
             (sel (decide (0 ≤ quoW .i64 n609 64))
              (sel (decide (quoW .i64 n609 64 < (↑l608 : Int)))
               (sel (decide (Int.toNat (quoW .i64 n609 64) < List.length xs612))
                (letV (List.set xs612 (Int.toNat (quoW .i64 n609 64)) (orW .u64 (List.getD xs612 (Int.toNat (quoW .i64 n609 64)) 0) (shlW .u64 1 (cvtW .u64 (remW n609 64))))) (fun (xs613 : List Int) =>
                K0 (xs613)))
                (none))
               (none))
              (none))
             (none))
            (none))
           (none))
          (none))
         (K0 (xs612))))
        (none))
       (none))
      (none))
     (none))
    (none))
   (none))
  (none)
noncomputable def haystackref02_put_r {R : Type} (l608 : Nat) (n609 : Int) (b610 : Bool) (xs611 : List Int) (K0 : List Int → Option R) : Option R := shut (@haystackref02_put_r_B R) l608 n609 b610 xs611 K0
theorem haystackref02_put_r_unf {R : Type} (l608 : Nat) (n609 : Int) (b610 : Bool) (xs611 : List Int) (K0 : List Int → Option R) : haystackref02_put_r l608 n609 b610 xs611 K0 = haystackref02_put_r_B l608 n609 b610 xs611 K0 := by unfold haystackref02_put_r; rw [shut_eq]

noncomputable def haystackref02_Set_j6_B {R : Type} (n603 : Int) (b604 : Bool) (n605 : Int) (xs606 : List Int) (_n607 : Int) (K0 : Int → Int → Nat → List Int → Option R) : Option R :=
 sel (decide (List.length xs606 * 8 ≤ 140737488355328))
  (haystackref02_put_r (List.length xs606) (n603) (b604) (xs606)
   (fun (xs614 : List Int) => K0 (0) (n605) (List.length xs606) (xs614)))
  (none)
noncomputable def haystackref02_Set_j6 {R : Type} (n603 : Int) (b604 : Bool) (n605 : Int) (xs606 : List Int) (n607 : Int) (K0 : Int → Int → Nat → List Int → Option R) : Option R := shut (@haystackref02_Set_j6_B R) n603 b604 n605 xs606 n607 K0
theorem haystackref02_Set_j6_unf {R : Type} (n603 : Int) (b604 : Bool) (n605 : Int) (xs606 : List Int) (n607 : Int) (K0 : Int → Int → Nat → List Int → Option R) : haystackref02_Set_j6 n603 b604 n605 xs606 n607 K0 = haystackref02_Set_j6_B n603 b604 n605 xs606 n607 K0 := by unfold haystackref02_Set_j6; rw [shut_eq]

noncomputable def haystackref02_Set_B {R : Type} (n564 : Int) (xs565 : List Int) (n566 : Int) (b567 : Bool) (K0 : Int → List Int → Int → Option R) : Option R :=
 haystackref02_Check (n564) (xs565)
  (fun (b588 : Bool) => sel (!b588)
   (K0 (n564) (xs565) (2))
   (sel (decide (n566 < 0))
    (haystackref02_Set_j5 (n566) (b567) (true) (n564) (xs565) (0)
     (fun (n595 : Int) (n596 : Int) (xs597 : List Int) => K0 (n596) (xs597) (n595))
     (fun (n598 : Int) (b599 : Bool) (n600 : Int) (xs601 : List Int) (n602 : Int) => haystackref02_Set_j6 (n598) (b599) (n600) (xs601) (n602)
      (fun (n615 : Int) (n616 : Int) (l617 : Nat) (xs618 : List Int) => sel (decide (l617 = List.length xs618))
       (K0 (n616) (xs618) (n615))
       (sel (decide (0 + l617 ≤ List.length xs618))
        (K0 (n616) (List.take l617 (List.drop 0 xs618)) (n615))
        (none)))))
    (haystackref02_Set_j5 (n566) (b567) (decide (n564 ≤ n566)) (n564) (xs565) (0)
     (fun (n619 : Int) (n620 : Int) (xs621 : List Int) => K0 (n620) (xs621) (n619))
     (fun (n622 : Int) (b623 : Bool) (n624 : Int) (xs625 : List Int) (n626 : Int) => haystackref02_Set_j6 (n622) (b623) (n624) (xs625) (n626)
      (fun (n627 : Int) (n628 : Int) (l629 : Nat) (xs630 : List Int) => sel (decide (l629 = List.length xs630))
       (K0 (n628) (xs630) (n627))
       (sel (decide (0 + l629 ≤ List.length xs630))
        (K0 (n628) (List.take l629 (List.drop 0 xs630)) (n627))
        (none)))))))
noncomputable def haystackref02_Set {R : Type} (n564 : Int) (xs565 : List Int) (n566 : Int) (b567 : Bool) (K0 : Int → List Int → Int → Option R) : Option R := shut (@haystackref02_Set_B R) n564 xs565 n566 b567 K0
theorem haystackref02_Set_unf {R : Type} (n564 : Int) (xs565 : List Int) (n566 : Int) (b567 : Bool) (K0 : Int → List Int → Int → Option R) : haystackref02_Set n564 xs565 n566 b567 K0 = haystackref02_Set_B n564 xs565 n566 b567 K0 := by unfold haystackref02_Set; rw [shut_eq]

noncomputable def bits_Append_j3_1_B {R : Type} (n641 : Int) (n642 : Int) (b643 : Bool) (xs644 : List Int) (n645 : Int) (l646 : Nat) (n647 : Int) (K0 : Int → List Int → Int → Nat → Option R) (K1 : Int → Int → List Int → Int → Nat → Int → Option R) : Option R :=
 sel (b643)
  (K0 (2) (xs644) (n645) (l646))
  (K1 (n641) (n642) (xs644) (n645) (l646) (n647))
noncomputable def bits_Append_j3_1 {R : Type} (n641 : Int) (n642 : Int) (b643 : Bool) (xs644 : List Int) (n645 : Int) (l646 : Nat) (n647 : Int) (K0 : Int → List Int → Int → Nat → Option R) (K1 : Int → Int → List Int → Int → Nat → Int → Option R) : Option R := shut (@bits_Append_j3_1_B R) n641 n642 b643 xs644 n645 l646 n647 K0 K1
theorem bits_Append_j3_1_unf {R : Type} (n641 : Int) (n642 : Int) (b643 : Bool) (xs644 : List Int) (n645 : Int) (l646 : Nat) (n647 : Int) (K0 : Int → List Int → Int → Nat → Option R) (K1 : Int → Int → List Int → Int → Nat → Int → Option R) : bits_Append_j3_1 n641 n642 b643 xs644 n645 l646 n647 K0 K1 = bits_Append_j3_1_B n641 n642 b643 xs644 n645 l646 n647 K0 K1 := by unfold bits_Append_j3_1; rw [shut_eq]

noncomputable def bits_Append_j4_1_B {R : Type} (n658 : Int) (n659 : Int) (xs660 : List Int) (n661 : Int) (l662 : Nat) (_n663 : Int) (K0 : Int → List Int → Int → Nat → List Int → Option R) : Option R :=
 bits_own_r_1 (n661) (l662) (addW .i64 n661 n659) (xs660)
  (fun (n664 : Int) (l665 : Nat) (xs666 : List Int) (xs667 : List Int) => word_Mask (n659)
   (fun (n668 : Int) => bits_fill_r (n664) (l665) (n661) (andW .u64 n658 n668) (xs667)
    (fun (xs669 : List Int) => K0 (0) (xs666) (n664) (l665) (xs669))))
noncomputable def bits_Append_j4_1 {R : Type} (n658 : Int) (n659 : Int) (xs660 : List Int) (n661 : Int) (l662 : Nat) (n663 : Int) (K0 : Int → List Int → Int → Nat → List Int → Option R) : Option R := shut (@bits_Append_j4_1_B R) n658 n659 xs660 n661 l662 n663 K0
theorem bits_Append_j4_1_unf {R : Type} (n658 : Int) (n659 : Int) (xs660 : List Int) (n661 : Int) (l662 : Nat) (n663 : Int) (K0 : Int → List Int → Int → Nat → List Int → Option R) : bits_Append_j4_1 n658 n659 xs660 n661 l662 n663 K0 = bits_Append_j4_1_B n658 n659 xs660 n661 l662 n663 K0 := by unfold bits_Append_j4_1; rw [shut_eq]

noncomputable def bits_Append_r_B {R : Type} (n634 : Int) (l635 : Nat) (n636 : Int) (n637 : Int) (xs638 : List Int) (K0 : Int → Nat → Int → List Int → Option R) (K1 : Int → Nat → Int → List Int → List Int → Option R) : Option R :=
 bits_Check_r (n634) (l635) (xs638)
  (fun (b639 : Bool) (xs640 : List Int) => sel (!b639)
   (bits_Append_j3_1 (n636) (n637) (true) (xs640) (n634) (l635) (0)
    (fun (n648 : Int) (xs649 : List Int) (n650 : Int) (l651 : Nat) => K0 (n650) (l651) (n648) (xs649))
    (fun (n652 : Int) (n653 : Int) (xs654 : List Int) (n655 : Int) (l656 : Nat) (n657 : Int) => bits_Append_j4_1 (n652) (n653) (xs654) (n655) (l656) (n657)
     (fun (n670 : Int) (xs671 : List Int) (n672 : Int) (l673 : Nat) (xs674 : List Int) => K1 (n672) (l673) (n670) (xs671) (xs674))))
   (sel (decide (n637 < 0))
    (bits_Append_j3_1 (n636) (n637) (true) (xs640) (n634) (l635) (0)
     (fun (n675 : Int) (xs676 : List Int) (n677 : Int) (l678 : Nat) => K0 (n677) (l678) (n675) (xs676))
     (fun (n679 : Int) (n680 : Int) (xs681 : List Int) (n682 : Int) (l683 : Nat) (n684 : Int) => bits_Append_j4_1 (n679) (n680) (xs681) (n682) (l683) (n684)
      (fun (n685 : Int) (xs686 : List Int) (n687 : Int) (l688 : Nat) (xs689 : List Int) => K1 (n687) (l688) (n685) (xs686) (xs689))))
    (sel (decide (64 < n637))
     (bits_Append_j3_1 (n636) (n637) (true) (xs640) (n634) (l635) (0)
      (fun (n690 : Int) (xs691 : List Int) (n692 : Int) (l693 : Nat) => K0 (n692) (l693) (n690) (xs691))
      (fun (n694 : Int) (n695 : Int) (xs696 : List Int) (n697 : Int) (l698 : Nat) (n699 : Int) => bits_Append_j4_1 (n694) (n695) (xs696) (n697) (l698) (n699)
       (fun (n700 : Int) (xs701 : List Int) (n702 : Int) (l703 : Nat) (xs704 : List Int) => K1 (n702) (l703) (n700) (xs701) (xs704))))
     (bits_Append_j3_1 (n636) (n637) (decide (subW .i64 1048576 n634 < n637)) (xs640) (n634) (l635) (0)
      (fun (n705 : Int) (xs706 : List Int) (n707 : Int) (l708 : Nat) => K0 (n707) (l708) (n705) (xs706))
      (fun (n709 : Int) (n710 : Int) (xs711 : List Int) (n712 : Int) (l713 : Nat) (n714 : Int) => bits_Append_j4_1 (n709) (n710) (xs711) (n712) (l713) (n714)
       (fun (n715 : Int) (xs716 : List Int) (n717 : Int) (l718 : Nat) (xs719 : List Int) => K1 (n717) (l718) (n715) (xs716) (xs719)))))))
noncomputable def bits_Append_r {R : Type} (n634 : Int) (l635 : Nat) (n636 : Int) (n637 : Int) (xs638 : List Int) (K0 : Int → Nat → Int → List Int → Option R) (K1 : Int → Nat → Int → List Int → List Int → Option R) : Option R := shut (@bits_Append_r_B R) n634 l635 n636 n637 xs638 K0 K1
theorem bits_Append_r_unf {R : Type} (n634 : Int) (l635 : Nat) (n636 : Int) (n637 : Int) (xs638 : List Int) (K0 : Int → Nat → Int → List Int → Option R) (K1 : Int → Nat → Int → List Int → List Int → Option R) : bits_Append_r n634 l635 n636 n637 xs638 K0 K1 = bits_Append_r_B n634 l635 n636 n637 xs638 K0 K1 := by unfold bits_Append_r; rw [shut_eq]

noncomputable def haystackref02_Append_j3_B {R : Type} (n729 : Int) (n730 : Int) (b731 : Bool) (n732 : Int) (xs733 : List Int) (n734 : Int) (K0 : Int → Int → List Int → Option R) (K1 : Int → Int → Int → List Int → Int → Option R) : Option R :=
 sel (b731)
  (K0 (2) (n732) (xs733))
  (K1 (n729) (n730) (n732) (xs733) (n734))
noncomputable def haystackref02_Append_j3 {R : Type} (n729 : Int) (n730 : Int) (b731 : Bool) (n732 : Int) (xs733 : List Int) (n734 : Int) (K0 : Int → Int → List Int → Option R) (K1 : Int → Int → Int → List Int → Int → Option R) : Option R := shut (@haystackref02_Append_j3_B R) n729 n730 b731 n732 xs733 n734 K0 K1
theorem haystackref02_Append_j3_unf {R : Type} (n729 : Int) (n730 : Int) (b731 : Bool) (n732 : Int) (xs733 : List Int) (n734 : Int) (K0 : Int → Int → List Int → Option R) (K1 : Int → Int → Int → List Int → Int → Option R) : haystackref02_Append_j3 n729 n730 b731 n732 xs733 n734 K0 K1 = haystackref02_Append_j3_B n729 n730 b731 n732 xs733 n734 K0 K1 := by unfold haystackref02_Append_j3; rw [shut_eq]

noncomputable def haystackref02_Append_l5_T {R : Type} (rec : Int → Int → Int → List Int → Int → Int → Nat → List Int → Option R) (n748 : Int) (n749 : Int) (n750 : Int) (xs751 : List Int) (n752 : Int) (n753 : Int) (l754 : Nat) (xs755 : List Int) (K0 : Int → Int → Int → List Int → Int → Int → Nat → List Int → Option R) : Option R :=
 haystackref02_Words (n753)
  (fun (n756 : Int) => sel (decide ((↑l754 : Int) < n756))
   (sel (decide (List.length xs755 = l754))
    (sel (decide ((l754 + 1) * 8 ≤ 140737488355328))
     (letV (xs755 ++ [0]) (fun (xs757 : List Int) =>
     rec (n748) (n749) (n750) (xs751) (n752) (n753) (l754 + 1) (xs757)))
     (none))
    (none))
   (K0 (n748) (n749) (n750) (xs751) (n752) (n753) (l754) (xs755)))
noncomputable def haystackref02_Append_l5_L {R : Type} (K0 : Int → Int → Int → List Int → Int → Int → Nat → List Int → Option R) : Nat → Int → Int → Int → List Int → Int → Int → Nat → List Int → Option R
  | 0, _, _, _, _, _, _, _, _ => none
  | N + 1, n748, n749, n750, xs751, n752, n753, l754, xs755 => haystackref02_Append_l5_T (haystackref02_Append_l5_L K0 N) n748 n749 n750 xs751 n752 n753 l754 xs755 K0
noncomputable def haystackref02_Append_l5_B {R : Type} (n748 : Int) (n749 : Int) (n750 : Int) (xs751 : List Int) (n752 : Int) (n753 : Int) (l754 : Nat) (xs755 : List Int) (K0 : Int → Int → Int → List Int → Int → Int → Nat → List Int → Option R) : Option R :=
 haystackref02_Append_l5_L K0 NR n748 n749 n750 xs751 n752 n753 l754 xs755
noncomputable def haystackref02_Append_l5 {R : Type} (n748 : Int) (n749 : Int) (n750 : Int) (xs751 : List Int) (n752 : Int) (n753 : Int) (l754 : Nat) (xs755 : List Int) (K0 : Int → Int → Int → List Int → Int → Int → Nat → List Int → Option R) : Option R := shut (@haystackref02_Append_l5_B R) n748 n749 n750 xs751 n752 n753 l754 xs755 K0
theorem haystackref02_Append_l5_unf {R : Type} (n748 : Int) (n749 : Int) (n750 : Int) (xs751 : List Int) (n752 : Int) (n753 : Int) (l754 : Nat) (xs755 : List Int) (K0 : Int → Int → Int → List Int → Int → Int → Nat → List Int → Option R) : haystackref02_Append_l5 n748 n749 n750 xs751 n752 n753 l754 xs755 K0 = haystackref02_Append_l5_B n748 n749 n750 xs751 n752 n753 l754 xs755 K0 := by unfold haystackref02_Append_l5; rw [shut_eq]

noncomputable def haystackref02_Append_l8_T {R : Type} (rec : Int → Int → Int → Int → List Int → Int → Int → Nat → List Int → Option R) (n766 : Int) (n767 : Int) (n768 : Int) (n769 : Int) (xs770 : List Int) (n771 : Int) (n772 : Int) (l773 : Nat) (xs774 : List Int) (K0 : Int → Int → Nat → List Int → Option R) : Option R :=
 sel (decide (n768 < n767))
  (sel (decide (0 ≤ cvtW .u64 n768))
   (haystackref02_put_r (l773) (addW .i64 n769 n768) (decide (remW (shrW .u64 n766 (cvtW .u64 n768)) 2 = 1)) (xs774)
    (fun (xs775 : List Int) => rec (n766) (n767) (addW .i64 n768 1) (n769) (xs770) (n771) (n772) (l773) (xs775)))
   (none))
  (K0 (n771) (n772) (l773) (xs774))
noncomputable def haystackref02_Append_l8_L {R : Type} (K0 : Int → Int → Nat → List Int → Option R) : Nat → Int → Int → Int → Int → List Int → Int → Int → Nat → List Int → Option R
  | 0, _, _, _, _, _, _, _, _, _ => none
  | N + 1, n766, n767, n768, n769, xs770, n771, n772, l773, xs774 => haystackref02_Append_l8_T (haystackref02_Append_l8_L K0 N) n766 n767 n768 n769 xs770 n771 n772 l773 xs774 K0
noncomputable def haystackref02_Append_l8_B {R : Type} (n766 : Int) (n767 : Int) (n768 : Int) (n769 : Int) (xs770 : List Int) (n771 : Int) (n772 : Int) (l773 : Nat) (xs774 : List Int) (K0 : Int → Int → Nat → List Int → Option R) : Option R :=
 haystackref02_Append_l8_L K0 NR n766 n767 n768 n769 xs770 n771 n772 l773 xs774
noncomputable def haystackref02_Append_l8 {R : Type} (n766 : Int) (n767 : Int) (n768 : Int) (n769 : Int) (xs770 : List Int) (n771 : Int) (n772 : Int) (l773 : Nat) (xs774 : List Int) (K0 : Int → Int → Nat → List Int → Option R) : Option R := shut (@haystackref02_Append_l8_B R) n766 n767 n768 n769 xs770 n771 n772 l773 xs774 K0
theorem haystackref02_Append_l8_unf {R : Type} (n766 : Int) (n767 : Int) (n768 : Int) (n769 : Int) (xs770 : List Int) (n771 : Int) (n772 : Int) (l773 : Nat) (xs774 : List Int) (K0 : Int → Int → Nat → List Int → Option R) : haystackref02_Append_l8 n766 n767 n768 n769 xs770 n771 n772 l773 xs774 K0 = haystackref02_Append_l8_B n766 n767 n768 n769 xs770 n771 n772 l773 xs774 K0 := by unfold haystackref02_Append_l8; rw [shut_eq]

noncomputable def haystackref02_Append_j4_B {R : Type} (n743 : Int) (n744 : Int) (n745 : Int) (xs746 : List Int) (n747 : Int) (K0 : Int → Int → Nat → List Int → Option R) : Option R :=
 sel (decide (List.length xs746 * 8 ≤ 140737488355328))
  (haystackref02_Append_l5 (n743) (n744) (n745) (xs746) (n747) (addW .i64 n745 n744) (List.length xs746) (xs746)
   (fun (n758 : Int) (n759 : Int) (n760 : Int) (xs761 : List Int) (n762 : Int) (n763 : Int) (l764 : Nat) (xs765 : List Int) => haystackref02_Append_l8 (n758) (n759) (0) (n760) (xs761) (n762) (n763) (l764) (xs765)
    (fun (n776 : Int) (n777 : Int) (l778 : Nat) (xs779 : List Int) => K0 (0) (n777) (l778) (xs779))))
  (none)
noncomputable def haystackref02_Append_j4 {R : Type} (n743 : Int) (n744 : Int) (n745 : Int) (xs746 : List Int) (n747 : Int) (K0 : Int → Int → Nat → List Int → Option R) : Option R := shut (@haystackref02_Append_j4_B R) n743 n744 n745 xs746 n747 K0
theorem haystackref02_Append_j4_unf {R : Type} (n743 : Int) (n744 : Int) (n745 : Int) (xs746 : List Int) (n747 : Int) (K0 : Int → Int → Nat → List Int → Option R) : haystackref02_Append_j4 n743 n744 n745 xs746 n747 K0 = haystackref02_Append_j4_B n743 n744 n745 xs746 n747 K0 := by unfold haystackref02_Append_j4; rw [shut_eq]

noncomputable def haystackref02_Append_B {R : Type} (n724 : Int) (xs725 : List Int) (n726 : Int) (n727 : Int) (K0 : Int → List Int → Int → Option R) : Option R :=
 haystackref02_Check (n724) (xs725)
  (fun (b728 : Bool) => sel (!b728)
   (haystackref02_Append_j3 (n726) (n727) (true) (n724) (xs725) (0)
    (fun (n735 : Int) (n736 : Int) (xs737 : List Int) => K0 (n736) (xs737) (n735))
    (fun (n738 : Int) (n739 : Int) (n740 : Int) (xs741 : List Int) (n742 : Int) => haystackref02_Append_j4 (n738) (n739) (n740) (xs741) (n742)
     (fun (n780 : Int) (n781 : Int) (l782 : Nat) (xs783 : List Int) => sel (decide (l782 = List.length xs783))
      (K0 (n781) (xs783) (n780))
      (sel (decide (0 + l782 ≤ List.length xs783))
       (K0 (n781) (List.take l782 (List.drop 0 xs783)) (n780))
       (none)))))
   (sel (decide (n727 < 0))
    (haystackref02_Append_j3 (n726) (n727) (true) (n724) (xs725) (0)
     (fun (n784 : Int) (n785 : Int) (xs786 : List Int) => K0 (n785) (xs786) (n784))
     (fun (n787 : Int) (n788 : Int) (n789 : Int) (xs790 : List Int) (n791 : Int) => haystackref02_Append_j4 (n787) (n788) (n789) (xs790) (n791)
      (fun (n792 : Int) (n793 : Int) (l794 : Nat) (xs795 : List Int) => sel (decide (l794 = List.length xs795))
       (K0 (n793) (xs795) (n792))
       (sel (decide (0 + l794 ≤ List.length xs795))
        (K0 (n793) (List.take l794 (List.drop 0 xs795)) (n792))
        (none)))))
    (sel (decide (64 < n727))
     (haystackref02_Append_j3 (n726) (n727) (true) (n724) (xs725) (0)
      (fun (n796 : Int) (n797 : Int) (xs798 : List Int) => K0 (n797) (xs798) (n796))
      (fun (n799 : Int) (n800 : Int) (n801 : Int) (xs802 : List Int) (n803 : Int) => haystackref02_Append_j4 (n799) (n800) (n801) (xs802) (n803)
       (fun (n804 : Int) (n805 : Int) (l806 : Nat) (xs807 : List Int) => sel (decide (l806 = List.length xs807))
        (K0 (n805) (xs807) (n804))
        (sel (decide (0 + l806 ≤ List.length xs807))
         (K0 (n805) (List.take l806 (List.drop 0 xs807)) (n804))
         (none)))))
     (haystackref02_Append_j3 (n726) (n727) (decide (1048576 < addW .i64 n724 n727)) (n724) (xs725) (0)
      (fun (n808 : Int) (n809 : Int) (xs810 : List Int) => K0 (n809) (xs810) (n808))
      (fun (n811 : Int) (n812 : Int) (n813 : Int) (xs814 : List Int) (n815 : Int) => haystackref02_Append_j4 (n811) (n812) (n813) (xs814) (n815)
       (fun (n816 : Int) (n817 : Int) (l818 : Nat) (xs819 : List Int) => sel (decide (l818 = List.length xs819))
        (K0 (n817) (xs819) (n816))
        (sel (decide (0 + l818 ≤ List.length xs819))
         (K0 (n817) (List.take l818 (List.drop 0 xs819)) (n816))
         (none))))))))
noncomputable def haystackref02_Append {R : Type} (n724 : Int) (xs725 : List Int) (n726 : Int) (n727 : Int) (K0 : Int → List Int → Int → Option R) : Option R := shut (@haystackref02_Append_B R) n724 xs725 n726 n727 K0
theorem haystackref02_Append_unf {R : Type} (n724 : Int) (xs725 : List Int) (n726 : Int) (n727 : Int) (K0 : Int → List Int → Int → Option R) : haystackref02_Append n724 xs725 n726 n727 K0 = haystackref02_Append_B n724 xs725 n726 n727 K0 := by unfold haystackref02_Append; rw [shut_eq]

noncomputable def bits_Join_j3_1_B {R : Type} (b830 : Bool) (xs831 : List Int) (n832 : Int) (l833 : Nat) (n834 : Int) (xs835 : List Int) (n836 : Int) (K0 : Int → List Int → Int → Nat → Option R) (K1 : List Int → Int → Nat → Int → List Int → Int → Option R) : Option R :=
 sel (b830)
  (K0 (2) (xs831) (n832) (l833))
  (K1 (xs831) (n832) (l833) (n834) (xs835) (n836))
noncomputable def bits_Join_j3_1 {R : Type} (b830 : Bool) (xs831 : List Int) (n832 : Int) (l833 : Nat) (n834 : Int) (xs835 : List Int) (n836 : Int) (K0 : Int → List Int → Int → Nat → Option R) (K1 : List Int → Int → Nat → Int → List Int → Int → Option R) : Option R := shut (@bits_Join_j3_1_B R) b830 xs831 n832 l833 n834 xs835 n836 K0 K1
theorem bits_Join_j3_1_unf {R : Type} (b830 : Bool) (xs831 : List Int) (n832 : Int) (l833 : Nat) (n834 : Int) (xs835 : List Int) (n836 : Int) (K0 : Int → List Int → Int → Nat → Option R) (K1 : List Int → Int → Nat → Int → List Int → Int → Option R) : bits_Join_j3_1 b830 xs831 n832 l833 n834 xs835 n836 K0 K1 = bits_Join_j3_1_B b830 xs831 n832 l833 n834 xs835 n836 K0 K1 := by unfold bits_Join_j3_1; rw [shut_eq]

noncomputable def bits_Join_l6_1_T {R : Type} (rec : List Int → Int → Int → List Int → Int → Nat → Int → Int → Nat → List Int → Option R) (xs857 : List Int) (n858 : Int) (n859 : Int) (xs860 : List Int) (n861 : Int) (l862 : Nat) (n863 : Int) (n864 : Int) (l865 : Nat) (xs866 : List Int) (K0 : List Int → Int → Int → Nat → List Int → Option R) : Option R :=
 sel (decide (n859 < n858))
  (sel (decide (0 ≤ n859))
   (sel (decide (n859 < (↑(List.length xs857) : Int)))
    (bits_fill_r (n864) (l865) (addW .i64 n861 (mulW .i64 n859 64)) (List.getD xs857 (Int.toNat n859) 0) (xs866)
     (fun (xs867 : List Int) => rec (xs857) (n858) (addW .i64 n859 1) (xs860) (n861) (l862) (n863) (n864) (l865) (xs867)))
    (none))
   (none))
  (K0 (xs860) (n863) (n864) (l865) (xs866))
noncomputable def bits_Join_l6_1_L {R : Type} (K0 : List Int → Int → Int → Nat → List Int → Option R) : Nat → List Int → Int → Int → List Int → Int → Nat → Int → Int → Nat → List Int → Option R
  | 0, _, _, _, _, _, _, _, _, _, _ => none
  | N + 1, xs857, n858, n859, xs860, n861, l862, n863, n864, l865, xs866 => bits_Join_l6_1_T (bits_Join_l6_1_L K0 N) xs857 n858 n859 xs860 n861 l862 n863 n864 l865 xs866 K0
noncomputable def bits_Join_l6_1_B {R : Type} (xs857 : List Int) (n858 : Int) (n859 : Int) (xs860 : List Int) (n861 : Int) (l862 : Nat) (n863 : Int) (n864 : Int) (l865 : Nat) (xs866 : List Int) (K0 : List Int → Int → Int → Nat → List Int → Option R) : Option R :=
 bits_Join_l6_1_L K0 NR xs857 n858 n859 xs860 n861 l862 n863 n864 l865 xs866
noncomputable def bits_Join_l6_1 {R : Type} (xs857 : List Int) (n858 : Int) (n859 : Int) (xs860 : List Int) (n861 : Int) (l862 : Nat) (n863 : Int) (n864 : Int) (l865 : Nat) (xs866 : List Int) (K0 : List Int → Int → Int → Nat → List Int → Option R) : Option R := shut (@bits_Join_l6_1_B R) xs857 n858 n859 xs860 n861 l862 n863 n864 l865 xs866 K0
theorem bits_Join_l6_1_unf {R : Type} (xs857 : List Int) (n858 : Int) (n859 : Int) (xs860 : List Int) (n861 : Int) (l862 : Nat) (n863 : Int) (n864 : Int) (l865 : Nat) (xs866 : List Int) (K0 : List Int → Int → Int → Nat → List Int → Option R) : bits_Join_l6_1 xs857 n858 n859 xs860 n861 l862 n863 n864 l865 xs866 K0 = bits_Join_l6_1_B xs857 n858 n859 xs860 n861 l862 n863 n864 l865 xs866 K0 := by unfold bits_Join_l6_1; rw [shut_eq]

noncomputable def bits_Join_j4_1_B {R : Type} (xs847 : List Int) (n848 : Int) (l849 : Nat) (n850 : Int) (xs851 : List Int) (n852 : Int) (K0 : Int → List Int → Int → Nat → List Int → Option R) : Option R :=
 bits_own_r_1 (n848) (l849) (addW .i64 n848 n850) (xs847)
  (fun (n853 : Int) (l854 : Nat) (xs855 : List Int) (xs856 : List Int) => bits_Join_l6_1 (xs851) ((↑(List.length xs851) : Int)) (0) (xs855) (n848) (l849) (n852) (n853) (l854) (xs856)
   (fun (xs868 : List Int) (n869 : Int) (n870 : Int) (l871 : Nat) (xs872 : List Int) => K0 (0) (xs868) (n870) (l871) (xs872)))
noncomputable def bits_Join_j4_1 {R : Type} (xs847 : List Int) (n848 : Int) (l849 : Nat) (n850 : Int) (xs851 : List Int) (n852 : Int) (K0 : Int → List Int → Int → Nat → List Int → Option R) : Option R := shut (@bits_Join_j4_1_B R) xs847 n848 l849 n850 xs851 n852 K0
theorem bits_Join_j4_1_unf {R : Type} (xs847 : List Int) (n848 : Int) (l849 : Nat) (n850 : Int) (xs851 : List Int) (n852 : Int) (K0 : Int → List Int → Int → Nat → List Int → Option R) : bits_Join_j4_1 xs847 n848 l849 n850 xs851 n852 K0 = bits_Join_j4_1_B xs847 n848 l849 n850 xs851 n852 K0 := by unfold bits_Join_j4_1; rw [shut_eq]

noncomputable def bits_Join_r_B {R : Type} (n823 : Int) (l824 : Nat) (n825 : Int) (xs826 : List Int) (xs827 : List Int) (K0 : Int → Nat → Int → List Int → Option R) (K1 : Int → Nat → Int → List Int → List Int → Option R) : Option R :=
 bits_Check_r (n823) (l824) (xs827)
  (fun (b828 : Bool) (xs829 : List Int) => sel (!b828)
   (bits_Join_j3_1 (true) (xs829) (n823) (l824) (n825) (xs826) (0)
    (fun (n837 : Int) (xs838 : List Int) (n839 : Int) (l840 : Nat) => K0 (n839) (l840) (n837) (xs838))
    (fun (xs841 : List Int) (n842 : Int) (l843 : Nat) (n844 : Int) (xs845 : List Int) (n846 : Int) => bits_Join_j4_1 (xs841) (n842) (l843) (n844) (xs845) (n846)
     (fun (n873 : Int) (xs874 : List Int) (n875 : Int) (l876 : Nat) (xs877 : List Int) => K1 (n875) (l876) (n873) (xs874) (xs877))))
   (bits_Check (n825) (xs826)
    (fun (b878 : Bool) => sel (!b878)
     (bits_Join_j3_1 (true) (xs829) (n823) (l824) (n825) (xs826) (0)
      (fun (n879 : Int) (xs880 : List Int) (n881 : Int) (l882 : Nat) => K0 (n881) (l882) (n879) (xs880))
      (fun (xs883 : List Int) (n884 : Int) (l885 : Nat) (n886 : Int) (xs887 : List Int) (n888 : Int) => bits_Join_j4_1 (xs883) (n884) (l885) (n886) (xs887) (n888)
       (fun (n889 : Int) (xs890 : List Int) (n891 : Int) (l892 : Nat) (xs893 : List Int) => K1 (n891) (l892) (n889) (xs890) (xs893))))
     (bits_Join_j3_1 (decide (subW .i64 1048576 n823 < n825)) (xs829) (n823) (l824) (n825) (xs826) (0)
      (fun (n894 : Int) (xs895 : List Int) (n896 : Int) (l897 : Nat) => K0 (n896) (l897) (n894) (xs895))
      (fun (xs898 : List Int) (n899 : Int) (l900 : Nat) (n901 : Int) (xs902 : List Int) (n903 : Int) => bits_Join_j4_1 (xs898) (n899) (l900) (n901) (xs902) (n903)
       (fun (n904 : Int) (xs905 : List Int) (n906 : Int) (l907 : Nat) (xs908 : List Int) => K1 (n906) (l907) (n904) (xs905) (xs908)))))))
noncomputable def bits_Join_r {R : Type} (n823 : Int) (l824 : Nat) (n825 : Int) (xs826 : List Int) (xs827 : List Int) (K0 : Int → Nat → Int → List Int → Option R) (K1 : Int → Nat → Int → List Int → List Int → Option R) : Option R := shut (@bits_Join_r_B R) n823 l824 n825 xs826 xs827 K0 K1
theorem bits_Join_r_unf {R : Type} (n823 : Int) (l824 : Nat) (n825 : Int) (xs826 : List Int) (xs827 : List Int) (K0 : Int → Nat → Int → List Int → Option R) (K1 : Int → Nat → Int → List Int → List Int → Option R) : bits_Join_r n823 l824 n825 xs826 xs827 K0 K1 = bits_Join_r_B n823 l824 n825 xs826 xs827 K0 K1 := by unfold bits_Join_r; rw [shut_eq]

noncomputable def haystackref02_Join_j3_B {R : Type} (b918 : Bool) (n919 : Int) (xs920 : List Int) (n921 : Int) (xs922 : List Int) (n923 : Int) (K0 : Int → Int → List Int → Option R) (K1 : Int → List Int → Int → List Int → Int → Option R) : Option R :=
 sel (b918)
  (K0 (2) (n919) (xs920))
  (K1 (n919) (xs920) (n921) (xs922) (n923))
noncomputable def haystackref02_Join_j3 {R : Type} (b918 : Bool) (n919 : Int) (xs920 : List Int) (n921 : Int) (xs922 : List Int) (n923 : Int) (K0 : Int → Int → List Int → Option R) (K1 : Int → List Int → Int → List Int → Int → Option R) : Option R := shut (@haystackref02_Join_j3_B R) b918 n919 xs920 n921 xs922 n923 K0 K1
theorem haystackref02_Join_j3_unf {R : Type} (b918 : Bool) (n919 : Int) (xs920 : List Int) (n921 : Int) (xs922 : List Int) (n923 : Int) (K0 : Int → Int → List Int → Option R) (K1 : Int → List Int → Int → List Int → Int → Option R) : haystackref02_Join_j3 b918 n919 xs920 n921 xs922 n923 K0 K1 = haystackref02_Join_j3_B b918 n919 xs920 n921 xs922 n923 K0 K1 := by unfold haystackref02_Join_j3; rw [shut_eq]

noncomputable def haystackref02_At_B {R : Type} (_n942 : Int) (xs943 : List Int) (n944 : Int) (K0 : Bool → Option R) : Option R :=
 sel (decide (0 ≤ quoW .i64 n944 64))
  (sel (decide (quoW .i64 n944 64 < (↑(List.length xs943) : Int)))
   (sel (decide (0 ≤ cvtW .u64 (remW n944 64)))
    (letV (decide (remW (shrW .u64 (List.getD xs943 (Int.toNat (quoW .i64 n944 64)) 0) (cvtW .u64 (remW n944 64))) 2 = 1)) (fun (b945 : Bool) =>
    K0 (b945)))
    (none))
   (none))
  (none)
noncomputable def haystackref02_At {R : Type} (n942 : Int) (xs943 : List Int) (n944 : Int) (K0 : Bool → Option R) : Option R := shut (@haystackref02_At_B R) n942 xs943 n944 K0
theorem haystackref02_At_unf {R : Type} (n942 : Int) (xs943 : List Int) (n944 : Int) (K0 : Bool → Option R) : haystackref02_At n942 xs943 n944 K0 = haystackref02_At_B n942 xs943 n944 K0 := by unfold haystackref02_At; rw [shut_eq]

noncomputable def haystackref02_Bools_l4_1_T {R : Type} (rec : Nat → Int → Int → List Int → List Bool → Option R) (l948 : Nat) (n949 : Int) (n950 : Int) (xs951 : List Int) (bs952 : List Bool) (K0 : Nat → List Bool → Option R) : Option R :=
 sel (decide (n949 < n950))
  (haystackref02_At (n950) (xs951) (n949)
   (fun (b953 : Bool) => letV ([b953]) (fun (bs954 : List Bool) =>
   sel (decide (1 = List.length bs954))
    (sel (decide (List.length bs952 = l948))
     (sel (decide ((l948 + 1) * 1 ≤ 140737488355328))
      (letV (bs952 ++ bs954) (fun (bs955 : List Bool) =>
      rec (l948 + 1) (addW .i64 n949 1) (n950) (xs951) (bs955)))
      (none))
     (none))
    (sel (decide (0 + 1 ≤ List.length bs954))
     (sel (decide (List.length bs952 = l948))
      (sel (decide ((l948 + 1) * 1 ≤ 140737488355328))
       (letV (bs952 ++ List.take 1 (List.drop 0 bs954)) (fun (bs956 : List Bool) =>
       rec (l948 + 1) (addW .i64 n949 1) (n950) (xs951) (bs956)))
       (none))
      (none))
     (none)))))
  (K0 (l948) (bs952))
noncomputable def haystackref02_Bools_l4_1_L {R : Type} (K0 : Nat → List Bool → Option R) : Nat → Nat → Int → Int → List Int → List Bool → Option R
  | 0, _, _, _, _, _ => none
  | N + 1, l948, n949, n950, xs951, bs952 => haystackref02_Bools_l4_1_T (haystackref02_Bools_l4_1_L K0 N) l948 n949 n950 xs951 bs952 K0
noncomputable def haystackref02_Bools_l4_1_B {R : Type} (l948 : Nat) (n949 : Int) (n950 : Int) (xs951 : List Int) (bs952 : List Bool) (K0 : Nat → List Bool → Option R) : Option R :=
 haystackref02_Bools_l4_1_L K0 NR l948 n949 n950 xs951 bs952
noncomputable def haystackref02_Bools_l4_1 {R : Type} (l948 : Nat) (n949 : Int) (n950 : Int) (xs951 : List Int) (bs952 : List Bool) (K0 : Nat → List Bool → Option R) : Option R := shut (@haystackref02_Bools_l4_1_B R) l948 n949 n950 xs951 bs952 K0
theorem haystackref02_Bools_l4_1_unf {R : Type} (l948 : Nat) (n949 : Int) (n950 : Int) (xs951 : List Int) (bs952 : List Bool) (K0 : Nat → List Bool → Option R) : haystackref02_Bools_l4_1 l948 n949 n950 xs951 bs952 K0 = haystackref02_Bools_l4_1_B l948 n949 n950 xs951 bs952 K0 := by unfold haystackref02_Bools_l4_1; rw [shut_eq]

noncomputable def haystackref02_Bools_l4_T {R : Type} (rec : Int → Int → List Int → Option R) (rec0 : Nat → Int → Int → List Int → List Bool → Option R) (n939 : Int) (n940 : Int) (xs941 : List Int) (K0 : Nat → List Bool → Option R) (K1 : Unit → Option R) : Option R :=
 sel (decide (n939 < n940))
  (haystackref02_At (n940) (xs941) (n939)
   (fun (b946 : Bool) => letV ([b946]) (fun (bs947 : List Bool) =>
   sel (decide (1 = List.length bs947))
    (rec0 (1) (addW .i64 n939 1) (n940) (xs941) (bs947))
    (sel (decide (0 + 1 ≤ List.length bs947))
     (letV (List.take 1 (List.drop 0 bs947)) (fun (bs957 : List Bool) =>
     rec0 (1) (addW .i64 n939 1) (n940) (xs941) (bs957)))
     (none)))))
  (K1 ())
noncomputable def haystackref02_Bools_l4_L {R : Type} (K0 : Nat → List Bool → Option R) (K1 : Unit → Option R) : Nat → Int → Int → List Int → Option R
  | 0, _, _, _ => none
  | N + 1, n939, n940, xs941 => haystackref02_Bools_l4_T (haystackref02_Bools_l4_L K0 K1 N) (haystackref02_Bools_l4_1_L K0 N) n939 n940 xs941 K0 K1
noncomputable def haystackref02_Bools_l4_B {R : Type} (n939 : Int) (n940 : Int) (xs941 : List Int) (K0 : Nat → List Bool → Option R) (K1 : Unit → Option R) : Option R :=
 haystackref02_Bools_l4_L K0 K1 NR n939 n940 xs941
noncomputable def haystackref02_Bools_l4 {R : Type} (n939 : Int) (n940 : Int) (xs941 : List Int) (K0 : Nat → List Bool → Option R) (K1 : Unit → Option R) : Option R := shut (@haystackref02_Bools_l4_B R) n939 n940 xs941 K0 K1
theorem haystackref02_Bools_l4_unf {R : Type} (n939 : Int) (n940 : Int) (xs941 : List Int) (K0 : Nat → List Bool → Option R) (K1 : Unit → Option R) : haystackref02_Bools_l4 n939 n940 xs941 K0 K1 = haystackref02_Bools_l4_B n939 n940 xs941 K0 K1 := by unfold haystackref02_Bools_l4; rw [shut_eq]

noncomputable def haystackref02_Bools_r_B {R : Type} (n937 : Int) (xs938 : List Int) (K0 : Nat → List Bool → Option R) (K1 : Unit → Option R) : Option R :=
 haystackref02_Bools_l4 (0) (n937) (xs938)
  (fun (l958 : Nat) (bs959 : List Bool) => K0 (l958) (bs959))
  (fun _ => K1 ())
noncomputable def haystackref02_Bools_r {R : Type} (n937 : Int) (xs938 : List Int) (K0 : Nat → List Bool → Option R) (K1 : Unit → Option R) : Option R := shut (@haystackref02_Bools_r_B R) n937 xs938 K0 K1
theorem haystackref02_Bools_r_unf {R : Type} (n937 : Int) (xs938 : List Int) (K0 : Nat → List Bool → Option R) (K1 : Unit → Option R) : haystackref02_Bools_r n937 xs938 K0 K1 = haystackref02_Bools_r_B n937 xs938 K0 K1 := by unfold haystackref02_Bools_r; rw [shut_eq]

noncomputable def haystackref02_New_j3_B {R : Type} (n966 : Int) (b967 : Bool) (n968 : Int) (K0 : Int → Int → Option R) (K1 : Int → Int → Option R) : Option R :=
 sel (b967)
  (K0 (2) (0))
  (K1 (n966) (n968))
noncomputable def haystackref02_New_j3 {R : Type} (n966 : Int) (b967 : Bool) (n968 : Int) (K0 : Int → Int → Option R) (K1 : Int → Int → Option R) : Option R := shut (@haystackref02_New_j3_B R) n966 b967 n968 K0 K1
theorem haystackref02_New_j3_unf {R : Type} (n966 : Int) (b967 : Bool) (n968 : Int) (K0 : Int → Int → Option R) (K1 : Int → Int → Option R) : haystackref02_New_j3 n966 b967 n968 K0 K1 = haystackref02_New_j3_B n966 b967 n968 K0 K1 := by unfold haystackref02_New_j3; rw [shut_eq]

noncomputable def haystackref02_New_j4_B {R : Type} (n973 : Int) (_n974 : Int) (K0 : Int → Int → Nat → List Int → Option R) : Option R :=
 haystackref02_Words (n973)
  (fun (n975 : Int) => sel (decide (0 ≤ n975))
   (sel (decide (n975 ≤ n975))
    (sel (decide (n975 ≤ 281474976710656))
     (sel (decide ((↑8 : Int) * n975 ≤ 281474976710656))
      (letV (List.replicate (Int.toNat n975) 0) (fun (xs976 : List Int) =>
      K0 (0) (n973) (Int.toNat n975) (xs976)))
      (none))
     (none))
    (none))
   (none))
noncomputable def haystackref02_New_j4 {R : Type} (n973 : Int) (n974 : Int) (K0 : Int → Int → Nat → List Int → Option R) : Option R := shut (@haystackref02_New_j4_B R) n973 n974 K0
theorem haystackref02_New_j4_unf {R : Type} (n973 : Int) (n974 : Int) (K0 : Int → Int → Nat → List Int → Option R) : haystackref02_New_j4 n973 n974 K0 = haystackref02_New_j4_B n973 n974 K0 := by unfold haystackref02_New_j4; rw [shut_eq]

noncomputable def haystackref02_New_r_B {R : Type} (n965 : Int) (K0 : Int → Int → Option R) (K1 : Int → Nat → Int → List Int → Option R) : Option R :=
 sel (decide (n965 < 0))
  (haystackref02_New_j3 (n965) (true) (0)
   (fun (n969 : Int) (n970 : Int) => K0 (n970) (n969))
   (fun (n971 : Int) (n972 : Int) => haystackref02_New_j4 (n971) (n972)
    (fun (n977 : Int) (n978 : Int) (l979 : Nat) (xs980 : List Int) => K1 (n978) (l979) (n977) (xs980))))
  (haystackref02_New_j3 (n965) (decide (1048576 < n965)) (0)
   (fun (n981 : Int) (n982 : Int) => K0 (n982) (n981))
   (fun (n983 : Int) (n984 : Int) => haystackref02_New_j4 (n983) (n984)
    (fun (n985 : Int) (n986 : Int) (l987 : Nat) (xs988 : List Int) => K1 (n986) (l987) (n985) (xs988))))
noncomputable def haystackref02_New_r {R : Type} (n965 : Int) (K0 : Int → Int → Option R) (K1 : Int → Nat → Int → List Int → Option R) : Option R := shut (@haystackref02_New_r_B R) n965 K0 K1
theorem haystackref02_New_r_unf {R : Type} (n965 : Int) (K0 : Int → Int → Option R) (K1 : Int → Nat → Int → List Int → Option R) : haystackref02_New_r n965 K0 K1 = haystackref02_New_r_B n965 K0 K1 := by unfold haystackref02_New_r; rw [shut_eq]

noncomputable def haystackref02_From_l4_T {R : Type} (rec : Nat → Int → Int → Int → Int → Option R) (l991 : Nat) (n992 : Int) (n993 : Int) (n994 : Int) (n995 : Int) (K0 : Int → Int → Int → Option R) : Option R :=
 sel (decide (n993 < n995))
  (sel (decide (0 ≤ n993))
   (sel (decide (n993 < (↑l991 : Int)))
    (none)
    (none))
   (none))
  (K0 (n992) (n994) (n995))
noncomputable def haystackref02_From_l4_L {R : Type} (K0 : Int → Int → Int → Option R) : Nat → Nat → Int → Int → Int → Int → Option R
  | 0, _, _, _, _, _ => none
  | N + 1, l991, n992, n993, n994, n995 => haystackref02_From_l4_T (haystackref02_From_l4_L K0 N) l991 n992 n993 n994 n995 K0
noncomputable def haystackref02_From_l4_B {R : Type} (l991 : Nat) (n992 : Int) (n993 : Int) (n994 : Int) (n995 : Int) (K0 : Int → Int → Int → Option R) : Option R :=
 haystackref02_From_l4_L K0 NR l991 n992 n993 n994 n995
noncomputable def haystackref02_From_l4 {R : Type} (l991 : Nat) (n992 : Int) (n993 : Int) (n994 : Int) (n995 : Int) (K0 : Int → Int → Int → Option R) : Option R := shut (@haystackref02_From_l4_B R) l991 n992 n993 n994 n995 K0
theorem haystackref02_From_l4_unf {R : Type} (l991 : Nat) (n992 : Int) (n993 : Int) (n994 : Int) (n995 : Int) (K0 : Int → Int → Int → Option R) : haystackref02_From_l4 l991 n992 n993 n994 n995 K0 = haystackref02_From_l4_B l991 n992 n993 n994 n995 K0 := by unfold haystackref02_From_l4; rw [shut_eq]

noncomputable def haystackref02_From_l4_1_T {R : Type} (rec : Nat → Int → Int → Int → Int → Nat → List Int → Option R) (l1003 : Nat) (n1004 : Int) (n1005 : Int) (n1006 : Int) (n1007 : Int) (l1008 : Nat) (xs1009 : List Int) (K0 : Int → Int → Int → Nat → List Int → Option R) : Option R :=
 sel (decide (n1005 < n1007))
  (sel (decide (0 ≤ n1005))
   (sel (decide (n1005 < (↑l1003 : Int)))
    (none)
    (none))
   (none))
  (K0 (n1004) (n1006) (n1007) (l1008) (xs1009))
noncomputable def haystackref02_From_l4_1_L {R : Type} (K0 : Int → Int → Int → Nat → List Int → Option R) : Nat → Nat → Int → Int → Int → Int → Nat → List Int → Option R
  | 0, _, _, _, _, _, _, _ => none
  | N + 1, l1003, n1004, n1005, n1006, n1007, l1008, xs1009 => haystackref02_From_l4_1_T (haystackref02_From_l4_1_L K0 N) l1003 n1004 n1005 n1006 n1007 l1008 xs1009 K0
noncomputable def haystackref02_From_l4_1_B {R : Type} (l1003 : Nat) (n1004 : Int) (n1005 : Int) (n1006 : Int) (n1007 : Int) (l1008 : Nat) (xs1009 : List Int) (K0 : Int → Int → Int → Nat → List Int → Option R) : Option R :=
 haystackref02_From_l4_1_L K0 NR l1003 n1004 n1005 n1006 n1007 l1008 xs1009
noncomputable def haystackref02_From_l4_1 {R : Type} (l1003 : Nat) (n1004 : Int) (n1005 : Int) (n1006 : Int) (n1007 : Int) (l1008 : Nat) (xs1009 : List Int) (K0 : Int → Int → Int → Nat → List Int → Option R) : Option R := shut (@haystackref02_From_l4_1_B R) l1003 n1004 n1005 n1006 n1007 l1008 xs1009 K0
theorem haystackref02_From_l4_1_unf {R : Type} (l1003 : Nat) (n1004 : Int) (n1005 : Int) (n1006 : Int) (n1007 : Int) (l1008 : Nat) (xs1009 : List Int) (K0 : Int → Int → Int → Nat → List Int → Option R) : haystackref02_From_l4_1 l1003 n1004 n1005 n1006 n1007 l1008 xs1009 K0 = haystackref02_From_l4_1_B l1003 n1004 n1005 n1006 n1007 l1008 xs1009 K0 := by unfold haystackref02_From_l4_1; rw [shut_eq]

noncomputable def haystackref02_From_r_B {R : Type} (l964 : Nat) (K0 : Int → Int → Option R) (K1 : Int → Nat → Int → List Int → Option R) : Option R :=
 haystackref02_New_r ((↑l964 : Int))
  (fun (n989 : Int) (n990 : Int) => haystackref02_From_l4 (l964) (n990) (0) (0) (n989)
   (fun (n996 : Int) (n997 : Int) (n998 : Int) => K0 (n998) (n996)))
  (fun (n999 : Int) (l1000 : Nat) (n1001 : Int) (xs1002 : List Int) => haystackref02_From_l4_1 (l964) (n1001) (0) (0) (n999) (l1000) (xs1002)
   (fun (n1010 : Int) (n1011 : Int) (n1012 : Int) (l1013 : Nat) (xs1014 : List Int) => K1 (n1012) (l1013) (n1010) (xs1014)))
noncomputable def haystackref02_From_r {R : Type} (l964 : Nat) (K0 : Int → Int → Option R) (K1 : Int → Nat → Int → List Int → Option R) : Option R := shut (@haystackref02_From_r_B R) l964 K0 K1
theorem haystackref02_From_r_unf {R : Type} (l964 : Nat) (K0 : Int → Int → Option R) (K1 : Int → Nat → Int → List Int → Option R) : haystackref02_From_r l964 K0 K1 = haystackref02_From_r_B l964 K0 K1 := by unfold haystackref02_From_r; rw [shut_eq]

noncomputable def haystackref02_Join_j4_B {R : Type} (n932 : Int) (xs933 : List Int) (n934 : Int) (xs935 : List Int) (_n936 : Int) (K0 : Int → Int → Option R) : Option R :=
 haystackref02_Bools_r (n932) (xs933)
  (fun (l960 : Nat) (bs961 : List Bool) => none)
  (fun _ => haystackref02_Bools_r (n934) (xs935)
   (fun (l962 : Nat) (bs963 : List Bool) => none)
   (fun _ => haystackref02_From_r (0)
    (fun (n1015 : Int) (n1016 : Int) => K0 (n1016) (n1015))
    (fun (n1017 : Int) (l1018 : Nat) (n1019 : Int) (xs1020 : List Int) => none)))
noncomputable def haystackref02_Join_j4 {R : Type} (n932 : Int) (xs933 : List Int) (n934 : Int) (xs935 : List Int) (n936 : Int) (K0 : Int → Int → Option R) : Option R := shut (@haystackref02_Join_j4_B R) n932 xs933 n934 xs935 n936 K0
theorem haystackref02_Join_j4_unf {R : Type} (n932 : Int) (xs933 : List Int) (n934 : Int) (xs935 : List Int) (n936 : Int) (K0 : Int → Int → Option R) : haystackref02_Join_j4 n932 xs933 n934 xs935 n936 K0 = haystackref02_Join_j4_B n932 xs933 n934 xs935 n936 K0 := by unfold haystackref02_Join_j4; rw [shut_eq]

noncomputable def haystackref02_Join_B {R : Type} (n913 : Int) (xs914 : List Int) (n915 : Int) (xs916 : List Int) (K0 : Int → List Int → Int → Option R) : Option R :=
 haystackref02_Check (n913) (xs914)
  (fun (b917 : Bool) => sel (!b917)
   (haystackref02_Join_j3 (true) (n913) (xs914) (n915) (xs916) (0)
    (fun (n924 : Int) (n925 : Int) (xs926 : List Int) => K0 (n925) (xs926) (n924))
    (fun (n927 : Int) (xs928 : List Int) (n929 : Int) (xs930 : List Int) (n931 : Int) => haystackref02_Join_j4 (n927) (xs928) (n929) (xs930) (n931)
     (fun (n1021 : Int) (n1022 : Int) => K0 (n1022) ([]) (n1021))))
   (haystackref02_Check (n915) (xs916)
    (fun (b1023 : Bool) => sel (!b1023)
     (haystackref02_Join_j3 (true) (n913) (xs914) (n915) (xs916) (0)
      (fun (n1024 : Int) (n1025 : Int) (xs1026 : List Int) => K0 (n1025) (xs1026) (n1024))
      (fun (n1027 : Int) (xs1028 : List Int) (n1029 : Int) (xs1030 : List Int) (n1031 : Int) => haystackref02_Join_j4 (n1027) (xs1028) (n1029) (xs1030) (n1031)
       (fun (n1032 : Int) (n1033 : Int) => K0 (n1033) ([]) (n1032))))
     (haystackref02_Join_j3 (decide (1048576 < addW .i64 n913 n915)) (n913) (xs914) (n915) (xs916) (0)
      (fun (n1034 : Int) (n1035 : Int) (xs1036 : List Int) => K0 (n1035) (xs1036) (n1034))
      (fun (n1037 : Int) (xs1038 : List Int) (n1039 : Int) (xs1040 : List Int) (n1041 : Int) => haystackref02_Join_j4 (n1037) (xs1038) (n1039) (xs1040) (n1041)
       (fun (n1042 : Int) (n1043 : Int) => K0 (n1043) ([]) (n1042)))))))
noncomputable def haystackref02_Join {R : Type} (n913 : Int) (xs914 : List Int) (n915 : Int) (xs916 : List Int) (K0 : Int → List Int → Int → Option R) : Option R := shut (@haystackref02_Join_B R) n913 xs914 n915 xs916 K0
theorem haystackref02_Join_unf {R : Type} (n913 : Int) (xs914 : List Int) (n915 : Int) (xs916 : List Int) (K0 : Int → List Int → Int → Option R) : haystackref02_Join n913 xs914 n915 xs916 K0 = haystackref02_Join_B n913 xs914 n915 xs916 K0 := by unfold haystackref02_Join; rw [shut_eq]

noncomputable def haystacklaw02_BitsBecome_j4_B {R : Type} (n505 : Int) (n506 : Int) (n507 : Int) (n508 : Int) (xs509 : List Int) (n510 : Int) (xs511 : List Int) (K0 : Bool → Option R) : Option R :=
 sel (decide (List.length xs509 * 8 ≤ 140737488355328))
  (bits_Set_r (n508) (List.length xs509) (n505) (decide (remW n506 2 = 1)) (xs509)
   (fun (n560 : Int) (l561 : Nat) (n562 : Int) (xs563 : List Int) => haystackref02_Set (n508) (xs509) (n505) (decide (remW n506 2 = 1))
    (fun (n631 : Int) (xs632 : List Int) (n633 : Int) => bits_Append_r (n508) (List.length xs509) (n506) (n507) (xs563)
     (fun (n720 : Int) (l721 : Nat) (n722 : Int) (xs723 : List Int) => haystackref02_Append (n508) (xs509) (n506) (n507)
      (fun (n820 : Int) (xs821 : List Int) (n822 : Int) => bits_Join_r (n508) (List.length xs509) (n510) (xs511) (xs723)
       (fun (n909 : Int) (l910 : Nat) (n911 : Int) (xs912 : List Int) => haystackref02_Join (n508) (xs509) (n510) (xs511)
        (fun (n1044 : Int) (xs1045 : List Int) (n1046 : Int) => haystackref02_Same_r (n560) (l561) (n631) (xs632) (xs912)
         (fun (b1047 : Bool) (xs1048 : List Int) => sel (b1047)
          (sel (decide (n562 = n633))
           (haystackref02_Same_r (n720) (l721) (n820) (xs821) (xs1048)
            (fun (b1049 : Bool) (xs1050 : List Int) => sel (b1049)
             (sel (decide (n722 = n822))
              (haystackref02_Same_r (n909) (l910) (n1044) (xs1045) (xs1050)
               (fun (b1051 : Bool) (xs1052 : List Int) => sel (b1051)
                (sel (decide (n911 = n1046))
                 (haystackref02_Same_r (n508) (List.length xs509) (n508) (xs509) (xs1052)
                  (fun (b1053 : Bool) (xs1054 : List Int) => sel (b1053)
                   (haystacklaw02_heads 
                    (fun (b1055 : Bool) => K0 (b1055)))
                   (K0 (false))))
                 (K0 (false)))
                (K0 (false))))
              (K0 (false)))
             (K0 (false))))
           (K0 (false)))
          (K0 (false)))))
       (fun (n1056 : Int) (l1057 : Nat) (n1058 : Int) (xs1059 : List Int) (xs1060 : List Int) => haystackref02_Join (n508) (xs509) (n510) (xs511)
        (fun (n1061 : Int) (xs1062 : List Int) (n1063 : Int) => haystackref02_Same_r (n560) (l561) (n631) (xs632) (xs1059)
         (fun (b1064 : Bool) (xs1065 : List Int) => sel (b1064)
          (sel (decide (n562 = n633))
           (haystackref02_Same_r (n720) (l721) (n820) (xs821) (xs1065)
            (fun (b1066 : Bool) (xs1067 : List Int) => sel (b1066)
             (sel (decide (n722 = n822))
              (haystackref02_Same_r (n1056) (l1057) (n1061) (xs1062) (xs1060)
               (fun (b1068 : Bool) (xs1069 : List Int) => sel (b1068)
                (sel (decide (n1058 = n1063))
                 (haystackref02_Same_r (n508) (List.length xs509) (n508) (xs509) (xs1067)
                  (fun (b1070 : Bool) (xs1071 : List Int) => sel (b1070)
                   (haystacklaw02_heads 
                    (fun (b1072 : Bool) => K0 (b1072)))
                   (K0 (false))))
                 (K0 (false)))
                (K0 (false))))
              (K0 (false)))
             (K0 (false))))
           (K0 (false)))
          (K0 (false)))))))
     (fun (n1073 : Int) (l1074 : Nat) (n1075 : Int) (xs1076 : List Int) (xs1077 : List Int) => haystackref02_Append (n508) (xs509) (n506) (n507)
      (fun (n1078 : Int) (xs1079 : List Int) (n1080 : Int) => bits_Join_r (n508) (List.length xs509) (n510) (xs511) (xs1076)
       (fun (n1081 : Int) (l1082 : Nat) (n1083 : Int) (xs1084 : List Int) => haystackref02_Join (n508) (xs509) (n510) (xs511)
        (fun (n1085 : Int) (xs1086 : List Int) (n1087 : Int) => haystackref02_Same_r (n560) (l561) (n631) (xs632) (xs1084)
         (fun (b1088 : Bool) (xs1089 : List Int) => sel (b1088)
          (sel (decide (n562 = n633))
           (haystackref02_Same_r (n1073) (l1074) (n1078) (xs1079) (xs1077)
            (fun (b1090 : Bool) (xs1091 : List Int) => sel (b1090)
             (sel (decide (n1075 = n1080))
              (haystackref02_Same_r (n1081) (l1082) (n1085) (xs1086) (xs1089)
               (fun (b1092 : Bool) (xs1093 : List Int) => sel (b1092)
                (sel (decide (n1083 = n1087))
                 (haystackref02_Same_r (n508) (List.length xs509) (n508) (xs509) (xs1093)
                  (fun (b1094 : Bool) (xs1095 : List Int) => sel (b1094)
                   (haystacklaw02_heads 
                    (fun (b1096 : Bool) => K0 (b1096)))
                   (K0 (false))))
                 (K0 (false)))
                (K0 (false))))
              (K0 (false)))
             (K0 (false))))
           (K0 (false)))
          (K0 (false)))))
       (fun (n1097 : Int) (l1098 : Nat) (n1099 : Int) (xs1100 : List Int) (xs1101 : List Int) => haystackref02_Join (n508) (xs509) (n510) (xs511)
        (fun (n1102 : Int) (xs1103 : List Int) (n1104 : Int) => haystackref02_Same_r (n560) (l561) (n631) (xs632) (xs1100)
         (fun (b1105 : Bool) (xs1106 : List Int) => sel (b1105)
          (sel (decide (n562 = n633))
           (haystackref02_Same_r (n1073) (l1074) (n1078) (xs1079) (xs1077)
            (fun (b1107 : Bool) (xs1108 : List Int) => sel (b1107)
             (sel (decide (n1075 = n1080))
              (haystackref02_Same_r (n1097) (l1098) (n1102) (xs1103) (xs1101)
               (fun (b1109 : Bool) (xs1110 : List Int) => sel (b1109)
                (sel (decide (n1099 = n1104))
                 (haystackref02_Same_r (n508) (List.length xs509) (n508) (xs509) (xs1106)
                  (fun (b1111 : Bool) (xs1112 : List Int) => sel (b1111)
                   (haystacklaw02_heads 
                    (fun (b1113 : Bool) => K0 (b1113)))
                   (K0 (false))))
                 (K0 (false)))
                (K0 (false))))
              (K0 (false)))
             (K0 (false))))
           (K0 (false)))
          (K0 (false)))))))))
   (fun (n1114 : Int) (l1115 : Nat) (n1116 : Int) (xs1117 : List Int) (xs1118 : List Int) => haystackref02_Set (n508) (xs509) (n505) (decide (remW n506 2 = 1))
    (fun (n1119 : Int) (xs1120 : List Int) (n1121 : Int) => bits_Append_r (n508) (List.length xs509) (n506) (n507) (xs1117)
     (fun (n1122 : Int) (l1123 : Nat) (n1124 : Int) (xs1125 : List Int) => haystackref02_Append (n508) (xs509) (n506) (n507)
      (fun (n1126 : Int) (xs1127 : List Int) (n1128 : Int) => bits_Join_r (n508) (List.length xs509) (n510) (xs511) (xs1125)
       (fun (n1129 : Int) (l1130 : Nat) (n1131 : Int) (xs1132 : List Int) => haystackref02_Join (n508) (xs509) (n510) (xs511)
        (fun (n1133 : Int) (xs1134 : List Int) (n1135 : Int) => haystackref02_Same_r (n1114) (l1115) (n1119) (xs1120) (xs1118)
         (fun (b1136 : Bool) (xs1137 : List Int) => sel (b1136)
          (sel (decide (n1116 = n1121))
           (haystackref02_Same_r (n1122) (l1123) (n1126) (xs1127) (xs1132)
            (fun (b1138 : Bool) (xs1139 : List Int) => sel (b1138)
             (sel (decide (n1124 = n1128))
              (haystackref02_Same_r (n1129) (l1130) (n1133) (xs1134) (xs1139)
               (fun (b1140 : Bool) (xs1141 : List Int) => sel (b1140)
                (sel (decide (n1131 = n1135))
                 (haystackref02_Same_r (n508) (List.length xs509) (n508) (xs509) (xs1141)
                  (fun (b1142 : Bool) (xs1143 : List Int) => sel (b1142)
                   (haystacklaw02_heads 
                    (fun (b1144 : Bool) => K0 (b1144)))
                   (K0 (false))))
                 (K0 (false)))
                (K0 (false))))
              (K0 (false)))
             (K0 (false))))
           (K0 (false)))
          (K0 (false)))))
       (fun (n1145 : Int) (l1146 : Nat) (n1147 : Int) (xs1148 : List Int) (xs1149 : List Int) => haystackref02_Join (n508) (xs509) (n510) (xs511)
        (fun (n1150 : Int) (xs1151 : List Int) (n1152 : Int) => haystackref02_Same_r (n1114) (l1115) (n1119) (xs1120) (xs1118)
         (fun (b1153 : Bool) (xs1154 : List Int) => sel (b1153)
          (sel (decide (n1116 = n1121))
           (haystackref02_Same_r (n1122) (l1123) (n1126) (xs1127) (xs1148)
            (fun (b1155 : Bool) (xs1156 : List Int) => sel (b1155)
             (sel (decide (n1124 = n1128))
              (haystackref02_Same_r (n1145) (l1146) (n1150) (xs1151) (xs1149)
               (fun (b1157 : Bool) (xs1158 : List Int) => sel (b1157)
                (sel (decide (n1147 = n1152))
                 (haystackref02_Same_r (n508) (List.length xs509) (n508) (xs509) (xs1156)
                  (fun (b1159 : Bool) (xs1160 : List Int) => sel (b1159)
                   (haystacklaw02_heads 
                    (fun (b1161 : Bool) => K0 (b1161)))
                   (K0 (false))))
                 (K0 (false)))
                (K0 (false))))
              (K0 (false)))
             (K0 (false))))
           (K0 (false)))
          (K0 (false)))))))
     (fun (n1162 : Int) (l1163 : Nat) (n1164 : Int) (xs1165 : List Int) (xs1166 : List Int) => haystackref02_Append (n508) (xs509) (n506) (n507)
      (fun (n1167 : Int) (xs1168 : List Int) (n1169 : Int) => bits_Join_r (n508) (List.length xs509) (n510) (xs511) (xs1165)
       (fun (n1170 : Int) (l1171 : Nat) (n1172 : Int) (xs1173 : List Int) => haystackref02_Join (n508) (xs509) (n510) (xs511)
        (fun (n1174 : Int) (xs1175 : List Int) (n1176 : Int) => haystackref02_Same_r (n1114) (l1115) (n1119) (xs1120) (xs1118)
         (fun (b1177 : Bool) (xs1178 : List Int) => sel (b1177)
          (sel (decide (n1116 = n1121))
           (haystackref02_Same_r (n1162) (l1163) (n1167) (xs1168) (xs1166)
            (fun (b1179 : Bool) (xs1180 : List Int) => sel (b1179)
             (sel (decide (n1164 = n1169))
              (haystackref02_Same_r (n1170) (l1171) (n1174) (xs1175) (xs1173)
               (fun (b1181 : Bool) (xs1182 : List Int) => sel (b1181)
                (sel (decide (n1172 = n1176))
                 (haystackref02_Same_r (n508) (List.length xs509) (n508) (xs509) (xs1182)
                  (fun (b1183 : Bool) (xs1184 : List Int) => sel (b1183)
                   (haystacklaw02_heads 
                    (fun (b1185 : Bool) => K0 (b1185)))
                   (K0 (false))))
                 (K0 (false)))
                (K0 (false))))
              (K0 (false)))
             (K0 (false))))
           (K0 (false)))
          (K0 (false)))))
       (fun (n1186 : Int) (l1187 : Nat) (n1188 : Int) (xs1189 : List Int) (xs1190 : List Int) => haystackref02_Join (n508) (xs509) (n510) (xs511)
        (fun (n1191 : Int) (xs1192 : List Int) (n1193 : Int) => haystackref02_Same_r (n1114) (l1115) (n1119) (xs1120) (xs1118)
         (fun (b1194 : Bool) (xs1195 : List Int) => sel (b1194)
          (sel (decide (n1116 = n1121))
           (haystackref02_Same_r (n1162) (l1163) (n1167) (xs1168) (xs1166)
            (fun (b1196 : Bool) (xs1197 : List Int) => sel (b1196)
             (sel (decide (n1164 = n1169))
              (haystackref02_Same_r (n1186) (l1187) (n1191) (xs1192) (xs1190)
               (fun (b1198 : Bool) (xs1199 : List Int) => sel (b1198)
                (sel (decide (n1188 = n1193))
                 (haystackref02_Same_r (n508) (List.length xs509) (n508) (xs509) (xs1189)
                  (fun (b1200 : Bool) (xs1201 : List Int) => sel (b1200)
                   (haystacklaw02_heads 
                    (fun (b1202 : Bool) => K0 (b1202)))
                   (K0 (false))))
                 (K0 (false)))
                (K0 (false))))
              (K0 (false)))
             (K0 (false))))
           (K0 (false)))
          (K0 (false))))))))))
  (none)
noncomputable def haystacklaw02_BitsBecome_j4 {R : Type} (n505 : Int) (n506 : Int) (n507 : Int) (n508 : Int) (xs509 : List Int) (n510 : Int) (xs511 : List Int) (K0 : Bool → Option R) : Option R := shut (@haystacklaw02_BitsBecome_j4_B R) n505 n506 n507 n508 xs509 n510 xs511 K0
theorem haystacklaw02_BitsBecome_j4_unf {R : Type} (n505 : Int) (n506 : Int) (n507 : Int) (n508 : Int) (xs509 : List Int) (n510 : Int) (xs511 : List Int) (K0 : Bool → Option R) : haystacklaw02_BitsBecome_j4 n505 n506 n507 n508 xs509 n510 xs511 K0 = haystacklaw02_BitsBecome_j4_B n505 n506 n507 n508 xs509 n510 xs511 K0 := by unfold haystacklaw02_BitsBecome_j4; rw [shut_eq]

noncomputable def haystacklaw02_BitsBecome_B {R : Type} (n494 : Int) (xs495 : List Int) (n496 : Int) (xs497 : List Int) (n498 : Int) (n499 : Int) (n500 : Int) (K0 : Bool → Option R) : Option R :=
 haystacklaw02_small (n494) (xs495)
  (fun (b501 : Bool) => sel (!b501)
   (haystacklaw02_heads 
    (fun (b502 : Bool) => K0 (b502)))
   (haystacklaw02_small (n496) (xs497)
    (fun (b503 : Bool) => sel (!b503)
     (haystacklaw02_heads 
      (fun (b504 : Bool) => K0 (b504)))
     (haystacklaw02_BitsBecome_j4 (n498) (n499) (n500) (n494) (xs495) (n496) (xs497)
      (fun (b1203 : Bool) => K0 (b1203))))))
noncomputable def haystacklaw02_BitsBecome {R : Type} (n494 : Int) (xs495 : List Int) (n496 : Int) (xs497 : List Int) (n498 : Int) (n499 : Int) (n500 : Int) (K0 : Bool → Option R) : Option R := shut (@haystacklaw02_BitsBecome_B R) n494 xs495 n496 xs497 n498 n499 n500 K0
theorem haystacklaw02_BitsBecome_unf {R : Type} (n494 : Int) (xs495 : List Int) (n496 : Int) (xs497 : List Int) (n498 : Int) (n499 : Int) (n500 : Int) (K0 : Bool → Option R) : haystacklaw02_BitsBecome n494 xs495 n496 xs497 n498 n499 n500 K0 = haystacklaw02_BitsBecome_B n494 xs495 n496 xs497 n498 n499 n500 K0 := by unfold haystacklaw02_BitsBecome; rw [shut_eq]

noncomputable def haystacklaw02_BitsBack_j9_B {R : Type} (n1225 : Int) (n1226 : Int) (n1227 : Int) (n1228 : Int) (n1229 : Int) (n1230 : Int) (n1231 : Int) (xs1232 : List Int) (n1233 : Int) (xs1234 : List Int) (K0 : Bool → Option R) : Option R :=
 bits_Get (n1231) (xs1232) (n1226)
  (fun (b1235 : Bool) (n1236 : Int) => bits_Get (n1233) (xs1234) (n1226)
   (fun (b1237 : Bool) (n1238 : Int) => sel (decide (n1227 = 0))
    (sel (decide (n1229 = 0))
     (sel (decide (n1228 = n1230))
      (bits_Check (n1233) (xs1234)
       (fun (b1239 : Bool) => sel (b1239)
        (sel (decide (n1233 = addW .i64 n1231 n1225))
         (sel (decide (n1226 < 0))
          (haystacklaw02_heads 
           (fun (b1240 : Bool) => K0 (b1240)))
          (sel (decide (n1231 ≤ n1226))
           (haystacklaw02_heads 
            (fun (b1241 : Bool) => K0 (b1241)))
           (sel (decide (n1236 = 0))
            (sel (decide (n1238 = 0))
             (sel (b1235 == b1237)
              (haystacklaw02_heads 
               (fun (b1242 : Bool) => K0 (b1242)))
              (K0 (false)))
             (K0 (false)))
            (K0 (false)))))
         (K0 (false)))
        (K0 (false))))
      (K0 (false)))
     (K0 (false)))
    (K0 (false))))
noncomputable def haystacklaw02_BitsBack_j9 {R : Type} (n1225 : Int) (n1226 : Int) (n1227 : Int) (n1228 : Int) (n1229 : Int) (n1230 : Int) (n1231 : Int) (xs1232 : List Int) (n1233 : Int) (xs1234 : List Int) (K0 : Bool → Option R) : Option R := shut (@haystacklaw02_BitsBack_j9_B R) n1225 n1226 n1227 n1228 n1229 n1230 n1231 xs1232 n1233 xs1234 K0
theorem haystacklaw02_BitsBack_j9_unf {R : Type} (n1225 : Int) (n1226 : Int) (n1227 : Int) (n1228 : Int) (n1229 : Int) (n1230 : Int) (n1231 : Int) (xs1232 : List Int) (n1233 : Int) (xs1234 : List Int) (K0 : Bool → Option R) : haystacklaw02_BitsBack_j9 n1225 n1226 n1227 n1228 n1229 n1230 n1231 xs1232 n1233 xs1234 K0 = haystacklaw02_BitsBack_j9_B n1225 n1226 n1227 n1228 n1229 n1230 n1231 xs1232 n1233 xs1234 K0 := by unfold haystacklaw02_BitsBack_j9; rw [shut_eq]

noncomputable def haystacklaw02_BitsBack_j4_B {R : Type} (n1215 : Int) (n1216 : Int) (n1217 : Int) (n1218 : Int) (xs1219 : List Int) (K0 : Bool → Option R) : Option R :=
 bits_Append (n1218) (xs1219) (n1215) (n1216)
  (fun (n1220 : Int) (xs1221 : List Int) (n1222 : Int) => bits_Slice (n1220) (xs1221) (n1218) (n1216)
   (fun (n1223 : Int) (n1224 : Int) => sel (decide (n1216 < 64))
    (sel (decide (0 ≤ cvtW .u64 n1216))
     (haystacklaw02_BitsBack_j9 (n1216) (n1217) (n1222) (n1223) (n1224) (andW .u64 n1215 (subW .u64 (shlW .u64 1 (cvtW .u64 n1216)) 1)) (n1218) (xs1219) (n1220) (xs1221)
      (fun (b1243 : Bool) => K0 (b1243)))
     (none))
    (haystacklaw02_BitsBack_j9 (n1216) (n1217) (n1222) (n1223) (n1224) (n1215) (n1218) (xs1219) (n1220) (xs1221)
     (fun (b1244 : Bool) => K0 (b1244)))))
noncomputable def haystacklaw02_BitsBack_j4 {R : Type} (n1215 : Int) (n1216 : Int) (n1217 : Int) (n1218 : Int) (xs1219 : List Int) (K0 : Bool → Option R) : Option R := shut (@haystacklaw02_BitsBack_j4_B R) n1215 n1216 n1217 n1218 xs1219 K0
theorem haystacklaw02_BitsBack_j4_unf {R : Type} (n1215 : Int) (n1216 : Int) (n1217 : Int) (n1218 : Int) (xs1219 : List Int) (K0 : Bool → Option R) : haystacklaw02_BitsBack_j4 n1215 n1216 n1217 n1218 xs1219 K0 = haystacklaw02_BitsBack_j4_B n1215 n1216 n1217 n1218 xs1219 K0 := by unfold haystacklaw02_BitsBack_j4; rw [shut_eq]

noncomputable def haystacklaw02_BitsBack_B {R : Type} (n1204 : Int) (xs1205 : List Int) (n1206 : Int) (n1207 : Int) (n1208 : Int) (K0 : Bool → Option R) : Option R :=
 haystacklaw02_small (n1204) (xs1205)
  (fun (b1209 : Bool) => sel (!b1209)
   (haystacklaw02_heads 
    (fun (b1210 : Bool) => K0 (b1210)))
   (bits_Check (n1204) (xs1205)
    (fun (b1211 : Bool) => sel (!b1211)
     (haystacklaw02_heads 
      (fun (b1212 : Bool) => K0 (b1212)))
     (sel (decide (n1207 < 0))
      (haystacklaw02_heads 
       (fun (b1213 : Bool) => K0 (b1213)))
      (sel (decide (64 < n1207))
       (haystacklaw02_heads 
        (fun (b1214 : Bool) => K0 (b1214)))
       (haystacklaw02_BitsBack_j4 (n1206) (n1207) (n1208) (n1204) (xs1205)
        (fun (b1245 : Bool) => K0 (b1245))))))))
noncomputable def haystacklaw02_BitsBack {R : Type} (n1204 : Int) (xs1205 : List Int) (n1206 : Int) (n1207 : Int) (n1208 : Int) (K0 : Bool → Option R) : Option R := shut (@haystacklaw02_BitsBack_B R) n1204 xs1205 n1206 n1207 n1208 K0
theorem haystacklaw02_BitsBack_unf {R : Type} (n1204 : Int) (xs1205 : List Int) (n1206 : Int) (n1207 : Int) (n1208 : Int) (K0 : Bool → Option R) : haystacklaw02_BitsBack n1204 xs1205 n1206 n1207 n1208 K0 = haystacklaw02_BitsBack_B n1204 xs1205 n1206 n1207 n1208 K0 := by unfold haystacklaw02_BitsBack; rw [shut_eq]

noncomputable def haystacklaw02_BitsSets_j4_B {R : Type} (n1255 : Int) (b1256 : Bool) (n1257 : Int) (n1258 : Int) (xs1259 : List Int) (K0 : Bool → Option R) : Option R :=
 bits_Set (n1258) (xs1259) (n1255) (b1256)
  (fun (n1260 : Int) (xs1261 : List Int) (n1262 : Int) => sel (!decide (n1262 = 0))
   (sel (decide (n1262 = 3))
    (haystackref02_Same (n1260) (xs1261) (n1258) (xs1259)
     (fun (b1263 : Bool) => sel (b1263)
      (haystacklaw02_heads 
       (fun (b1264 : Bool) => K0 (b1264)))
      (K0 (false))))
    (K0 (false)))
   (bits_Get (n1258) (xs1259) (n1255)
    (fun (b1265 : Bool) (n1266 : Int) => bits_Get (n1260) (xs1261) (n1255)
     (fun (b1267 : Bool) (n1268 : Int) => bits_Get (n1258) (xs1259) (n1257)
      (fun (b1269 : Bool) (n1270 : Int) => bits_Get (n1260) (xs1261) (n1257)
       (fun (b1271 : Bool) (n1272 : Int) => bits_Ones (n1260) (xs1261) (n1260)
        (fun (n1273 : Int) => bits_Ones (n1258) (xs1259) (n1258)
         (fun (n1274 : Int) => sel (b1267 == b1256)
          (sel (decide (n1257 = n1255))
           (sel ((b1265 == b1256) == decide (subW .i64 n1273 n1274 = 0))
            (sel (b1265 == b1256)
             (bits_Check (n1260) (xs1261)
              (fun (b1275 : Bool) => sel (b1275)
               (haystacklaw02_heads 
                (fun (b1276 : Bool) => K0 (b1276)))
               (K0 (false))))
             (sel (b1256 == decide (subW .i64 n1273 n1274 = 1))
              (bits_Check (n1260) (xs1261)
               (fun (b1277 : Bool) => sel (b1277)
                (haystacklaw02_heads 
                 (fun (b1278 : Bool) => K0 (b1278)))
                (K0 (false))))
              (K0 (false))))
            (K0 (false)))
           (sel (b1269 == b1271)
            (sel (decide (n1270 = n1272))
             (sel ((b1265 == b1256) == decide (subW .i64 n1273 n1274 = 0))
              (sel (b1265 == b1256)
               (bits_Check (n1260) (xs1261)
                (fun (b1279 : Bool) => sel (b1279)
                 (haystacklaw02_heads 
                  (fun (b1280 : Bool) => K0 (b1280)))
                 (K0 (false))))
               (sel (b1256 == decide (subW .i64 n1273 n1274 = 1))
                (bits_Check (n1260) (xs1261)
                 (fun (b1281 : Bool) => sel (b1281)
                  (haystacklaw02_heads 
                   (fun (b1282 : Bool) => K0 (b1282)))
                  (K0 (false))))
                (K0 (false))))
              (K0 (false)))
             (K0 (false)))
            (K0 (false))))
          (K0 (false))))))))))
noncomputable def haystacklaw02_BitsSets_j4 {R : Type} (n1255 : Int) (b1256 : Bool) (n1257 : Int) (n1258 : Int) (xs1259 : List Int) (K0 : Bool → Option R) : Option R := shut (@haystacklaw02_BitsSets_j4_B R) n1255 b1256 n1257 n1258 xs1259 K0
theorem haystacklaw02_BitsSets_j4_unf {R : Type} (n1255 : Int) (b1256 : Bool) (n1257 : Int) (n1258 : Int) (xs1259 : List Int) (K0 : Bool → Option R) : haystacklaw02_BitsSets_j4 n1255 b1256 n1257 n1258 xs1259 K0 = haystacklaw02_BitsSets_j4_B n1255 b1256 n1257 n1258 xs1259 K0 := by unfold haystacklaw02_BitsSets_j4; rw [shut_eq]

noncomputable def haystacklaw02_BitsSets_B {R : Type} (n1246 : Int) (xs1247 : List Int) (n1248 : Int) (b1249 : Bool) (n1250 : Int) (K0 : Bool → Option R) : Option R :=
 haystacklaw02_small (n1246) (xs1247)
  (fun (b1251 : Bool) => sel (!b1251)
   (haystacklaw02_heads 
    (fun (b1252 : Bool) => K0 (b1252)))
   (bits_Check (n1246) (xs1247)
    (fun (b1253 : Bool) => sel (!b1253)
     (haystacklaw02_heads 
      (fun (b1254 : Bool) => K0 (b1254)))
     (haystacklaw02_BitsSets_j4 (n1248) (b1249) (n1250) (n1246) (xs1247)
      (fun (b1283 : Bool) => K0 (b1283))))))
noncomputable def haystacklaw02_BitsSets {R : Type} (n1246 : Int) (xs1247 : List Int) (n1248 : Int) (b1249 : Bool) (n1250 : Int) (K0 : Bool → Option R) : Option R := shut (@haystacklaw02_BitsSets_B R) n1246 xs1247 n1248 b1249 n1250 K0
theorem haystacklaw02_BitsSets_unf {R : Type} (n1246 : Int) (xs1247 : List Int) (n1248 : Int) (b1249 : Bool) (n1250 : Int) (K0 : Bool → Option R) : haystacklaw02_BitsSets n1246 xs1247 n1248 b1249 n1250 K0 = haystacklaw02_BitsSets_B n1246 xs1247 n1248 b1249 n1250 K0 := by unfold haystacklaw02_BitsSets; rw [shut_eq]

noncomputable def haystacklaw02_BitsJoins_j9_B {R : Type} (n1311 : Int) (b1312 : Bool) (n1313 : Int) (b1314 : Bool) (n1315 : Int) (n1316 : Int) (xs1317 : List Int) (n1318 : Int) (xs1319 : List Int) (n1320 : Int) (xs1321 : List Int) (K0 : Bool → Option R) : Option R :=
 sel (decide (n1311 = 0))
  (sel (decide (n1320 = addW .i64 n1316 n1318))
   (sel (b1312 == b1314)
    (sel (decide (n1313 = n1315))
     (bits_Ones (n1320) (xs1321) (n1320)
      (fun (n1322 : Int) => bits_Ones (n1316) (xs1317) (n1316)
       (fun (n1323 : Int) => bits_Ones (n1318) (xs1319) (n1318)
        (fun (n1324 : Int) => sel (decide (n1322 = addW .i64 n1323 n1324))
         (haystacklaw02_heads 
          (fun (b1325 : Bool) => K0 (b1325)))
         (K0 (false))))))
     (K0 (false)))
    (K0 (false)))
   (K0 (false)))
  (K0 (false))
noncomputable def haystacklaw02_BitsJoins_j9 {R : Type} (n1311 : Int) (b1312 : Bool) (n1313 : Int) (b1314 : Bool) (n1315 : Int) (n1316 : Int) (xs1317 : List Int) (n1318 : Int) (xs1319 : List Int) (n1320 : Int) (xs1321 : List Int) (K0 : Bool → Option R) : Option R := shut (@haystacklaw02_BitsJoins_j9_B R) n1311 b1312 n1313 b1314 n1315 n1316 xs1317 n1318 xs1319 n1320 xs1321 K0
theorem haystacklaw02_BitsJoins_j9_unf {R : Type} (n1311 : Int) (b1312 : Bool) (n1313 : Int) (b1314 : Bool) (n1315 : Int) (n1316 : Int) (xs1317 : List Int) (n1318 : Int) (xs1319 : List Int) (n1320 : Int) (xs1321 : List Int) (K0 : Bool → Option R) : haystacklaw02_BitsJoins_j9 n1311 b1312 n1313 b1314 n1315 n1316 xs1317 n1318 xs1319 n1320 xs1321 K0 = haystacklaw02_BitsJoins_j9_B n1311 b1312 n1313 b1314 n1315 n1316 xs1317 n1318 xs1319 n1320 xs1321 K0 := by unfold haystacklaw02_BitsJoins_j9; rw [shut_eq]

noncomputable def haystacklaw02_BitsJoins_j4_B {R : Type} (n1297 : Int) (n1298 : Int) (xs1299 : List Int) (n1300 : Int) (xs1301 : List Int) (K0 : Bool → Option R) : Option R :=
 bits_Join (n1298) (xs1299) (n1300) (xs1301)
  (fun (n1302 : Int) (xs1303 : List Int) (n1304 : Int) => bits_Get (n1302) (xs1303) (n1297)
   (fun (b1305 : Bool) (n1306 : Int) => bits_Get (n1298) (xs1299) (n1297)
    (fun (b1307 : Bool) (n1308 : Int) => sel (decide (n1298 ≤ n1297))
     (bits_Get (n1300) (xs1301) (subW .i64 n1297 n1298)
      (fun (b1309 : Bool) (n1310 : Int) => haystacklaw02_BitsJoins_j9 (n1304) (b1305) (n1306) (b1309) (n1310) (n1298) (xs1299) (n1300) (xs1301) (n1302) (xs1303)
       (fun (b1326 : Bool) => K0 (b1326))))
     (haystacklaw02_BitsJoins_j9 (n1304) (b1305) (n1306) (b1307) (n1308) (n1298) (xs1299) (n1300) (xs1301) (n1302) (xs1303)
      (fun (b1327 : Bool) => K0 (b1327))))))
noncomputable def haystacklaw02_BitsJoins_j4 {R : Type} (n1297 : Int) (n1298 : Int) (xs1299 : List Int) (n1300 : Int) (xs1301 : List Int) (K0 : Bool → Option R) : Option R := shut (@haystacklaw02_BitsJoins_j4_B R) n1297 n1298 xs1299 n1300 xs1301 K0
theorem haystacklaw02_BitsJoins_j4_unf {R : Type} (n1297 : Int) (n1298 : Int) (xs1299 : List Int) (n1300 : Int) (xs1301 : List Int) (K0 : Bool → Option R) : haystacklaw02_BitsJoins_j4 n1297 n1298 xs1299 n1300 xs1301 K0 = haystacklaw02_BitsJoins_j4_B n1297 n1298 xs1299 n1300 xs1301 K0 := by unfold haystacklaw02_BitsJoins_j4; rw [shut_eq]

noncomputable def haystacklaw02_BitsJoins_B {R : Type} (n1284 : Int) (xs1285 : List Int) (n1286 : Int) (xs1287 : List Int) (n1288 : Int) (K0 : Bool → Option R) : Option R :=
 haystacklaw02_small (n1284) (xs1285)
  (fun (b1289 : Bool) => sel (!b1289)
   (haystacklaw02_heads 
    (fun (b1290 : Bool) => K0 (b1290)))
   (haystacklaw02_small (n1286) (xs1287)
    (fun (b1291 : Bool) => sel (!b1291)
     (haystacklaw02_heads 
      (fun (b1292 : Bool) => K0 (b1292)))
     (bits_Check (n1284) (xs1285)
      (fun (b1293 : Bool) => sel (!b1293)
       (haystacklaw02_heads 
        (fun (b1294 : Bool) => K0 (b1294)))
       (bits_Check (n1286) (xs1287)
        (fun (b1295 : Bool) => sel (!b1295)
         (haystacklaw02_heads 
          (fun (b1296 : Bool) => K0 (b1296)))
         (haystacklaw02_BitsJoins_j4 (n1288) (n1284) (xs1285) (n1286) (xs1287)
          (fun (b1328 : Bool) => K0 (b1328))))))))))
noncomputable def haystacklaw02_BitsJoins {R : Type} (n1284 : Int) (xs1285 : List Int) (n1286 : Int) (xs1287 : List Int) (n1288 : Int) (K0 : Bool → Option R) : Option R := shut (@haystacklaw02_BitsJoins_B R) n1284 xs1285 n1286 xs1287 n1288 K0
theorem haystacklaw02_BitsJoins_unf {R : Type} (n1284 : Int) (xs1285 : List Int) (n1286 : Int) (xs1287 : List Int) (n1288 : Int) (K0 : Bool → Option R) : haystacklaw02_BitsJoins n1284 xs1285 n1286 xs1287 n1288 K0 = haystacklaw02_BitsJoins_B n1284 xs1285 n1286 xs1287 n1288 K0 := by unfold haystacklaw02_BitsJoins; rw [shut_eq]

theorem haystacklaw02_small_push {R S : Type} {J : R → Option S} (n3 : Int) (xs4 : List Int) {K0 : Bool → Option R} {Q0 : Bool → Option S} (h0 : ∀ x0, (K0 x0).bind J = Q0 x0) : (haystacklaw02_small n3 xs4 K0).bind J = haystacklaw02_small n3 xs4 Q0 := by
  rw [haystacklaw02_small_unf, haystacklaw02_small_unf]
  unfold haystacklaw02_small_B
  repeat' first | intro _ | with_reducible exact h0 _ | with_reducible apply sel_push | with_reducible apply letV_push | with_reducible exact none_bind' _

theorem bits_words_push {R S : Type} {J : R → Option S} (n12 : Int) {K0 : Int → Option R} {Q0 : Int → Option S} (h0 : ∀ x0, (K0 x0).bind J = Q0 x0) : (bits_words n12 K0).bind J = bits_words n12 Q0 := by
  rw [bits_words_unf, bits_words_unf]
  unfold bits_words_B
  repeat' first | intro _ | with_reducible exact h0 _ | with_reducible apply sel_push | with_reducible apply letV_push | with_reducible exact none_bind' _

theorem word_Mask_push {R S : Type} {J : R → Option S} (n16 : Int) {K0 : Int → Option R} {Q0 : Int → Option S} (h0 : ∀ x0, (K0 x0).bind J = Q0 x0) : (word_Mask n16 K0).bind J = word_Mask n16 Q0 := by
  rw [word_Mask_unf, word_Mask_unf]
  unfold word_Mask_B
  repeat' first | intro _ | with_reducible exact h0 _ | with_reducible apply sel_push | with_reducible apply letV_push | with_reducible exact none_bind' _

theorem bits_Check_j4_push {R S : Type} {J : R → Option S} (n14 : Int) (xs15 : List Int) {K0 : Bool → Option R} {Q0 : Bool → Option S} (h0 : ∀ x0, (K0 x0).bind J = Q0 x0) : (bits_Check_j4 n14 xs15 K0).bind J = bits_Check_j4 n14 xs15 Q0 := by
  rw [bits_Check_j4_unf, bits_Check_j4_unf]
  unfold bits_Check_j4_B
  repeat' first | intro _ | with_reducible exact h0 _ | with_reducible apply sel_push | with_reducible apply letV_push | with_reducible apply word_Mask_push | with_reducible exact none_bind' _

theorem bits_Check_push {R S : Type} {J : R → Option S} (n10 : Int) (xs11 : List Int) {K0 : Bool → Option R} {Q0 : Bool → Option S} (h0 : ∀ x0, (K0 x0).bind J = Q0 x0) : (bits_Check n10 xs11 K0).bind J = bits_Check n10 xs11 Q0 := by
  rw [bits_Check_unf, bits_Check_unf]
  unfold bits_Check_B
  repeat' first | intro _ | with_reducible exact h0 _ | with_reducible apply sel_push | with_reducible apply letV_push | with_reducible apply bits_words_push | with_reducible apply bits_Check_j4_push | with_reducible exact none_bind' _

theorem bits_Append_j3_push {R S : Type} {J : R → Option S} (n21 : Int) (n22 : Int) (b23 : Bool) (n24 : Int) (xs25 : List Int) (n26 : Int) {K0 : Int → Int → List Int → Option R} {Q0 : Int → Int → List Int → Option S} (h0 : ∀ x0 x1 x2, (K0 x0 x1 x2).bind J = Q0 x0 x1 x2) {K1 : Int → Int → Int → List Int → Int → Option R} {Q1 : Int → Int → Int → List Int → Int → Option S} (h1 : ∀ x0 x1 x2 x3 x4, (K1 x0 x1 x2 x3 x4).bind J = Q1 x0 x1 x2 x3 x4) : (bits_Append_j3 n21 n22 b23 n24 xs25 n26 K0 K1).bind J = bits_Append_j3 n21 n22 b23 n24 xs25 n26 Q0 Q1 := by
  rw [bits_Append_j3_unf, bits_Append_j3_unf]
  unfold bits_Append_j3_B
  repeat' first | intro _ | with_reducible exact h0 _ _ _ | with_reducible exact h1 _ _ _ _ _ | with_reducible apply sel_push | with_reducible apply letV_push | with_reducible exact none_bind' _

theorem bits_own_r_push {R S : Type} {J : R → Option S} (n40 : Int) (xs41 : List Int) (n42 : Int) {K0 : Int → Nat → List Int → Option R} {Q0 : Int → Nat → List Int → Option S} (h0 : ∀ x0 x1 x2, (K0 x0 x1 x2).bind J = Q0 x0 x1 x2) : (bits_own_r n40 xs41 n42 K0).bind J = bits_own_r n40 xs41 n42 Q0 := by
  rw [bits_own_r_unf, bits_own_r_unf]
  unfold bits_own_r_B
  repeat' first | intro _ | with_reducible exact h0 _ _ _ | with_reducible apply sel_push | with_reducible apply letV_push | with_reducible apply bits_words_push | with_reducible exact none_bind' _

theorem bits_fill_j6_push {R S : Type} {J : R → Option S} (n63 : Int) (n64 : Int) (n65 : Int) (b66 : Bool) (xs67 : List Int) (n68 : Int) (l69 : Nat) {K0 : List Int → Option R} {Q0 : List Int → Option S} (h0 : ∀ x0, (K0 x0).bind J = Q0 x0) : (bits_fill_j6 n63 n64 n65 b66 xs67 n68 l69 K0).bind J = bits_fill_j6 n63 n64 n65 b66 xs67 n68 l69 Q0 := by
  rw [bits_fill_j6_unf, bits_fill_j6_unf]
  unfold bits_fill_j6_B
  repeat' first | intro _ | with_reducible exact h0 _ | with_reducible apply sel_push | with_reducible apply letV_push | with_reducible exact none_bind' _

theorem bits_fill_j5_push {R S : Type} {J : R → Option S} (n57 : Int) (n58 : Int) (n59 : Int) (xs60 : List Int) (n61 : Int) (l62 : Nat) {K0 : List Int → Option R} {Q0 : List Int → Option S} (h0 : ∀ x0, (K0 x0).bind J = Q0 x0) : (bits_fill_j5 n57 n58 n59 xs60 n61 l62 K0).bind J = bits_fill_j5 n57 n58 n59 xs60 n61 l62 Q0 := by
  rw [bits_fill_j5_unf, bits_fill_j5_unf]
  unfold bits_fill_j5_B
  repeat' first | intro _ | with_reducible exact h0 _ | with_reducible apply sel_push | with_reducible apply letV_push | with_reducible apply bits_fill_j6_push | with_reducible exact none_bind' _

theorem bits_fill_r_push {R S : Type} {J : R → Option S} (n51 : Int) (l52 : Nat) (n53 : Int) (n54 : Int) (xs55 : List Int) {K0 : List Int → Option R} {Q0 : List Int → Option S} (h0 : ∀ x0, (K0 x0).bind J = Q0 x0) : (bits_fill_r n51 l52 n53 n54 xs55 K0).bind J = bits_fill_r n51 l52 n53 n54 xs55 Q0 := by
  rw [bits_fill_r_unf, bits_fill_r_unf]
  unfold bits_fill_r_B
  repeat' first | intro _ | with_reducible exact h0 _ | with_reducible apply sel_push | with_reducible apply letV_push | with_reducible apply bits_fill_j5_push | with_reducible exact none_bind' _

theorem bits_Append_j4_push {R S : Type} {J : R → Option S} (n35 : Int) (n36 : Int) (n37 : Int) (xs38 : List Int) (n39 : Int) {K0 : Int → Int → Nat → List Int → Option R} {Q0 : Int → Int → Nat → List Int → Option S} (h0 : ∀ x0 x1 x2 x3, (K0 x0 x1 x2 x3).bind J = Q0 x0 x1 x2 x3) : (bits_Append_j4 n35 n36 n37 xs38 n39 K0).bind J = bits_Append_j4 n35 n36 n37 xs38 n39 Q0 := by
  rw [bits_Append_j4_unf, bits_Append_j4_unf]
  unfold bits_Append_j4_B
  repeat' first | intro _ | with_reducible exact h0 _ _ _ _ | with_reducible apply sel_push | with_reducible apply letV_push | with_reducible apply bits_own_r_push | with_reducible apply word_Mask_push | with_reducible apply bits_fill_r_push | with_reducible exact none_bind' _

theorem bits_Append_push {R S : Type} {J : R → Option S} (n6 : Int) (xs7 : List Int) (n8 : Int) (n9 : Int) {K0 : Int → List Int → Int → Option R} {Q0 : Int → List Int → Int → Option S} (h0 : ∀ x0 x1 x2, (K0 x0 x1 x2).bind J = Q0 x0 x1 x2) : (bits_Append n6 xs7 n8 n9 K0).bind J = bits_Append n6 xs7 n8 n9 Q0 := by
  rw [bits_Append_unf, bits_Append_unf]
  unfold bits_Append_B
  repeat' first | intro _ | with_reducible exact h0 _ _ _ | with_reducible apply sel_push | with_reducible apply letV_push | with_reducible apply bits_Check_push | with_reducible apply bits_Append_j3_push | with_reducible apply bits_Append_j4_push | with_reducible exact none_bind' _

theorem bits_Get_j6_push {R S : Type} {J : R → Option S} (n127 : Int) (n128 : Int) (xs129 : List Int) {K0 : Bool → Int → Option R} {Q0 : Bool → Int → Option S} (h0 : ∀ x0 x1, (K0 x0 x1).bind J = Q0 x0 x1) : (bits_Get_j6 n127 n128 xs129 K0).bind J = bits_Get_j6 n127 n128 xs129 Q0 := by
  rw [bits_Get_j6_unf, bits_Get_j6_unf]
  unfold bits_Get_j6_B
  repeat' first | intro _ | with_reducible exact h0 _ _ | with_reducible apply sel_push | with_reducible apply letV_push | with_reducible exact none_bind' _

theorem bits_Get_push {R S : Type} {J : R → Option S} (n123 : Int) (xs124 : List Int) (n125 : Int) {K0 : Bool → Int → Option R} {Q0 : Bool → Int → Option S} (h0 : ∀ x0 x1, (K0 x0 x1).bind J = Q0 x0 x1) : (bits_Get n123 xs124 n125 K0).bind J = bits_Get n123 xs124 n125 Q0 := by
  rw [bits_Get_unf, bits_Get_unf]
  unfold bits_Get_B
  repeat' first | intro _ | with_reducible exact h0 _ _ | with_reducible apply sel_push | with_reducible apply letV_push | with_reducible apply bits_Check_push | with_reducible apply bits_Get_j6_push | with_reducible exact none_bind' _

theorem bits_Set_push {R S : Type} {J : R → Option S} (n119 : Int) (xs120 : List Int) (n121 : Int) (b122 : Bool) {K0 : Int → List Int → Int → Option R} {Q0 : Int → List Int → Int → Option S} (h0 : ∀ x0 x1 x2, (K0 x0 x1 x2).bind J = Q0 x0 x1 x2) : (bits_Set n119 xs120 n121 b122 K0).bind J = bits_Set n119 xs120 n121 b122 Q0 := by
  rw [bits_Set_unf, bits_Set_unf]
  unfold bits_Set_B
  repeat' first | intro _ | with_reducible exact h0 _ _ _ | with_reducible apply sel_push | with_reducible apply letV_push | with_reducible apply bits_Get_push | with_reducible apply bits_own_r_push | with_reducible exact none_bind' _

theorem bits_Slice_j5_push {R S : Type} {J : R → Option S} (n152 : Int) (n153 : Int) (b154 : Bool) (n155 : Int) (xs156 : List Int) {K0 : Int → Int → Option R} {Q0 : Int → Int → Option S} (h0 : ∀ x0 x1, (K0 x0 x1).bind J = Q0 x0 x1) {K1 : Int → Int → Int → List Int → Option R} {Q1 : Int → Int → Int → List Int → Option S} (h1 : ∀ x0 x1 x2 x3, (K1 x0 x1 x2 x3).bind J = Q1 x0 x1 x2 x3) : (bits_Slice_j5 n152 n153 b154 n155 xs156 K0 K1).bind J = bits_Slice_j5 n152 n153 b154 n155 xs156 Q0 Q1 := by
  rw [bits_Slice_j5_unf, bits_Slice_j5_unf]
  unfold bits_Slice_j5_B
  repeat' first | intro _ | with_reducible exact h0 _ _ | with_reducible exact h1 _ _ _ _ | with_reducible apply sel_push | with_reducible apply letV_push | with_reducible exact none_bind' _

theorem bits_Slice_j3_push {R S : Type} {J : R → Option S} (n147 : Int) (n148 : Int) (b149 : Bool) (n150 : Int) (xs151 : List Int) {K0 : Int → Int → Option R} {Q0 : Int → Int → Option S} (h0 : ∀ x0 x1, (K0 x0 x1).bind J = Q0 x0 x1) {K1 : Int → Int → Int → List Int → Option R} {Q1 : Int → Int → Int → List Int → Option S} (h1 : ∀ x0 x1 x2 x3, (K1 x0 x1 x2 x3).bind J = Q1 x0 x1 x2 x3) : (bits_Slice_j3 n147 n148 b149 n150 xs151 K0 K1).bind J = bits_Slice_j3 n147 n148 b149 n150 xs151 Q0 Q1 := by
  rw [bits_Slice_j3_unf, bits_Slice_j3_unf]
  unfold bits_Slice_j3_B
  repeat' first | intro _ | with_reducible exact h0 _ _ | with_reducible exact h1 _ _ _ _ | with_reducible apply sel_push | with_reducible apply letV_push | with_reducible apply bits_Slice_j5_push | with_reducible exact none_bind' _

theorem bits_Slice_j12_push {R S : Type} {J : R → Option S} (n186 : Int) (n187 : Int) {K0 : Int → Int → Option R} {Q0 : Int → Int → Option S} (h0 : ∀ x0 x1, (K0 x0 x1).bind J = Q0 x0 x1) : (bits_Slice_j12 n186 n187 K0).bind J = bits_Slice_j12 n186 n187 Q0 := by
  rw [bits_Slice_j12_unf, bits_Slice_j12_unf]
  unfold bits_Slice_j12_B
  repeat' first | intro _ | with_reducible exact h0 _ _ | with_reducible apply sel_push | with_reducible apply letV_push | with_reducible apply word_Mask_push | with_reducible exact none_bind' _

theorem bits_Slice_j8_push {R S : Type} {J : R → Option S} (n181 : Int) (n182 : Int) (n183 : Int) (xs184 : List Int) {K0 : Int → Int → Option R} {Q0 : Int → Int → Option S} (h0 : ∀ x0 x1, (K0 x0 x1).bind J = Q0 x0 x1) : (bits_Slice_j8 n181 n182 n183 xs184 K0).bind J = bits_Slice_j8 n181 n182 n183 xs184 Q0 := by
  rw [bits_Slice_j8_unf, bits_Slice_j8_unf]
  unfold bits_Slice_j8_B
  repeat' first | intro _ | with_reducible exact h0 _ _ | with_reducible apply sel_push | with_reducible apply letV_push | with_reducible apply bits_Slice_j12_push | with_reducible exact none_bind' _

theorem bits_Slice_push {R S : Type} {J : R → Option S} (n142 : Int) (xs143 : List Int) (n144 : Int) (n145 : Int) {K0 : Int → Int → Option R} {Q0 : Int → Int → Option S} (h0 : ∀ x0 x1, (K0 x0 x1).bind J = Q0 x0 x1) : (bits_Slice n142 xs143 n144 n145 K0).bind J = bits_Slice n142 xs143 n144 n145 Q0 := by
  rw [bits_Slice_unf, bits_Slice_unf]
  unfold bits_Slice_B
  repeat' first | intro _ | with_reducible exact h0 _ _ | with_reducible apply sel_push | with_reducible apply letV_push | with_reducible apply bits_Check_push | with_reducible apply bits_Slice_j3_push | with_reducible apply bits_Slice_j8_push | with_reducible exact none_bind' _

theorem bits_Join_j3_push {R S : Type} {J : R → Option S} (b220 : Bool) (n221 : Int) (xs222 : List Int) (n223 : Int) (xs224 : List Int) (n225 : Int) {K0 : Int → Int → List Int → Option R} {Q0 : Int → Int → List Int → Option S} (h0 : ∀ x0 x1 x2, (K0 x0 x1 x2).bind J = Q0 x0 x1 x2) {K1 : Int → List Int → Int → List Int → Int → Option R} {Q1 : Int → List Int → Int → List Int → Int → Option S} (h1 : ∀ x0 x1 x2 x3 x4, (K1 x0 x1 x2 x3 x4).bind J = Q1 x0 x1 x2 x3 x4) : (bits_Join_j3 b220 n221 xs222 n223 xs224 n225 K0 K1).bind J = bits_Join_j3 b220 n221 xs222 n223 xs224 n225 Q0 Q1 := by
  rw [bits_Join_j3_unf, bits_Join_j3_unf]
  unfold bits_Join_j3_B
  repeat' first | intro _ | with_reducible exact h0 _ _ _ | with_reducible exact h1 _ _ _ _ _ | with_reducible apply sel_push | with_reducible apply letV_push | with_reducible exact none_bind' _

theorem bits_Join_l6_T_push {R S : Type} {J : R → Option S} {r : List Int → Int → Int → Int → List Int → Int → Int → Nat → List Int → Option R} {r' : List Int → Int → Int → Int → List Int → Int → Int → Nat → List Int → Option S} (hr : ∀ x0 x1 x2 x3 x4 x5 x6 x7 x8, (r x0 x1 x2 x3 x4 x5 x6 x7 x8).bind J = r' x0 x1 x2 x3 x4 x5 x6 x7 x8) (xs242 : List Int) (n243 : Int) (n244 : Int) (n245 : Int) (xs246 : List Int) (n247 : Int) (n248 : Int) (l249 : Nat) (xs250 : List Int) {K0 : Int → Int → Nat → List Int → Option R} {Q0 : Int → Int → Nat → List Int → Option S} (h0 : ∀ x0 x1 x2 x3, (K0 x0 x1 x2 x3).bind J = Q0 x0 x1 x2 x3) : (bits_Join_l6_T r xs242 n243 n244 n245 xs246 n247 n248 l249 xs250 K0).bind J = bits_Join_l6_T r' xs242 n243 n244 n245 xs246 n247 n248 l249 xs250 Q0 := by
  unfold bits_Join_l6_T
  repeat' first | intro _ | with_reducible exact h0 _ _ _ _ | with_reducible apply sel_push | with_reducible apply letV_push | with_reducible apply bits_fill_r_push | with_reducible exact none_bind' _ | with_reducible exact hr _ _ _ _ _ _ _ _ _

theorem bits_Join_l6_L_push {R S : Type} {J : R → Option S} {K0 : Int → Int → Nat → List Int → Option R} {Q0 : Int → Int → Nat → List Int → Option S} (h0 : ∀ x0 x1 x2 x3, (K0 x0 x1 x2 x3).bind J = Q0 x0 x1 x2 x3) : ∀ (N : Nat) (xs242 : List Int) (n243 : Int) (n244 : Int) (n245 : Int) (xs246 : List Int) (n247 : Int) (n248 : Int) (l249 : Nat) (xs250 : List Int), (bits_Join_l6_L K0 N xs242 n243 n244 n245 xs246 n247 n248 l249 xs250).bind J = bits_Join_l6_L Q0 N xs242 n243 n244 n245 xs246 n247 n248 l249 xs250
  | 0, _, _, _, _, _, _, _, _, _ => rfl
  | N + 1, xs242, n243, n244, n245, xs246, n247, n248, l249, xs250 => bits_Join_l6_T_push (bits_Join_l6_L_push h0 N) xs242 n243 n244 n245 xs246 n247 n248 l249 xs250 h0

theorem bits_Join_l6_push {R S : Type} {J : R → Option S} (xs242 : List Int) (n243 : Int) (n244 : Int) (n245 : Int) (xs246 : List Int) (n247 : Int) (n248 : Int) (l249 : Nat) (xs250 : List Int) {K0 : Int → Int → Nat → List Int → Option R} {Q0 : Int → Int → Nat → List Int → Option S} (h0 : ∀ x0 x1 x2 x3, (K0 x0 x1 x2 x3).bind J = Q0 x0 x1 x2 x3) : (bits_Join_l6 xs242 n243 n244 n245 xs246 n247 n248 l249 xs250 K0).bind J = bits_Join_l6 xs242 n243 n244 n245 xs246 n247 n248 l249 xs250 Q0 := by
  rw [bits_Join_l6_unf, bits_Join_l6_unf]
  unfold bits_Join_l6_B
  exact bits_Join_l6_L_push h0 NR xs242 n243 n244 n245 xs246 n247 n248 l249 xs250

theorem bits_Join_j4_push {R S : Type} {J : R → Option S} (n234 : Int) (xs235 : List Int) (n236 : Int) (xs237 : List Int) (n238 : Int) {K0 : Int → Int → Nat → List Int → Option R} {Q0 : Int → Int → Nat → List Int → Option S} (h0 : ∀ x0 x1 x2 x3, (K0 x0 x1 x2 x3).bind J = Q0 x0 x1 x2 x3) : (bits_Join_j4 n234 xs235 n236 xs237 n238 K0).bind J = bits_Join_j4 n234 xs235 n236 xs237 n238 Q0 := by
  rw [bits_Join_j4_unf, bits_Join_j4_unf]
  unfold bits_Join_j4_B
  repeat' first | intro _ | with_reducible exact h0 _ _ _ _ | with_reducible apply sel_push | with_reducible apply letV_push | with_reducible apply bits_own_r_push | with_reducible apply bits_Join_l6_push | with_reducible exact none_bind' _

theorem bits_Join_push {R S : Type} {J : R → Option S} (n215 : Int) (xs216 : List Int) (n217 : Int) (xs218 : List Int) {K0 : Int → List Int → Int → Option R} {Q0 : Int → List Int → Int → Option S} (h0 : ∀ x0 x1 x2, (K0 x0 x1 x2).bind J = Q0 x0 x1 x2) : (bits_Join n215 xs216 n217 xs218 K0).bind J = bits_Join n215 xs216 n217 xs218 Q0 := by
  rw [bits_Join_unf, bits_Join_unf]
  unfold bits_Join_B
  repeat' first | intro _ | with_reducible exact h0 _ _ _ | with_reducible apply sel_push | with_reducible apply letV_push | with_reducible apply bits_Check_push | with_reducible apply bits_Join_j3_push | with_reducible apply bits_Join_j4_push | with_reducible exact none_bind' _

theorem bits_New_j3_push {R S : Type} {J : R → Option S} (n289 : Int) (b290 : Bool) (n291 : Int) {K0 : Int → Int → Option R} {Q0 : Int → Int → Option S} (h0 : ∀ x0 x1, (K0 x0 x1).bind J = Q0 x0 x1) {K1 : Int → Int → Option R} {Q1 : Int → Int → Option S} (h1 : ∀ x0 x1, (K1 x0 x1).bind J = Q1 x0 x1) : (bits_New_j3 n289 b290 n291 K0 K1).bind J = bits_New_j3 n289 b290 n291 Q0 Q1 := by
  rw [bits_New_j3_unf, bits_New_j3_unf]
  unfold bits_New_j3_B
  repeat' first | intro _ | with_reducible exact h0 _ _ | with_reducible exact h1 _ _ | with_reducible apply sel_push | with_reducible apply letV_push | with_reducible exact none_bind' _

theorem bits_New_j4_push {R S : Type} {J : R → Option S} (n296 : Int) (n297 : Int) {K0 : Int → Int → Nat → List Int → Option R} {Q0 : Int → Int → Nat → List Int → Option S} (h0 : ∀ x0 x1 x2 x3, (K0 x0 x1 x2 x3).bind J = Q0 x0 x1 x2 x3) : (bits_New_j4 n296 n297 K0).bind J = bits_New_j4 n296 n297 Q0 := by
  rw [bits_New_j4_unf, bits_New_j4_unf]
  unfold bits_New_j4_B
  repeat' first | intro _ | with_reducible exact h0 _ _ _ _ | with_reducible apply sel_push | with_reducible apply letV_push | with_reducible apply bits_words_push | with_reducible exact none_bind' _

theorem bits_New_push {R S : Type} {J : R → Option S} (n288 : Int) {K0 : Int → List Int → Int → Option R} {Q0 : Int → List Int → Int → Option S} (h0 : ∀ x0 x1 x2, (K0 x0 x1 x2).bind J = Q0 x0 x1 x2) : (bits_New n288 K0).bind J = bits_New n288 Q0 := by
  rw [bits_New_unf, bits_New_unf]
  unfold bits_New_B
  repeat' first | intro _ | with_reducible exact h0 _ _ _ | with_reducible apply sel_push | with_reducible apply letV_push | with_reducible apply bits_New_j3_push | with_reducible apply bits_New_j4_push | with_reducible exact none_bind' _

theorem bits_New_r_push {R S : Type} {J : R → Option S} (n317 : Int) {K0 : Int → Int → Option R} {Q0 : Int → Int → Option S} (h0 : ∀ x0 x1, (K0 x0 x1).bind J = Q0 x0 x1) {K1 : Int → Nat → Int → List Int → Option R} {Q1 : Int → Nat → Int → List Int → Option S} (h1 : ∀ x0 x1 x2 x3, (K1 x0 x1 x2 x3).bind J = Q1 x0 x1 x2 x3) : (bits_New_r n317 K0 K1).bind J = bits_New_r n317 Q0 Q1 := by
  rw [bits_New_r_unf, bits_New_r_unf]
  unfold bits_New_r_B
  repeat' first | intro _ | with_reducible exact h0 _ _ | with_reducible exact h1 _ _ _ _ | with_reducible apply sel_push | with_reducible apply letV_push | with_reducible apply bits_New_j3_push | with_reducible apply bits_New_j4_push | with_reducible exact none_bind' _

theorem bits_From_l6_T_push {R S : Type} {J : R → Option S} {r : Nat → Int → Int → List Bool → Int → Int → Option R} {r' : Nat → Int → Int → List Bool → Int → Int → Option S} (hr : ∀ x0 x1 x2 x3 x4 x5, (r x0 x1 x2 x3 x4 x5).bind J = r' x0 x1 x2 x3 x4 x5) (l336 : Nat) (n337 : Int) (n338 : Int) (bs339 : List Bool) (n340 : Int) (n341 : Int) {K0 : List Bool → Int → Int → Option R} {Q0 : List Bool → Int → Int → Option S} (h0 : ∀ x0 x1 x2, (K0 x0 x1 x2).bind J = Q0 x0 x1 x2) : (bits_From_l6_T r l336 n337 n338 bs339 n340 n341 K0).bind J = bits_From_l6_T r' l336 n337 n338 bs339 n340 n341 Q0 := by
  unfold bits_From_l6_T
  repeat' first | intro _ | with_reducible exact h0 _ _ _ | with_reducible apply sel_push | with_reducible apply letV_push | with_reducible exact none_bind' _ | with_reducible exact hr _ _ _ _ _ _

theorem bits_From_l6_L_push {R S : Type} {J : R → Option S} {K0 : List Bool → Int → Int → Option R} {Q0 : List Bool → Int → Int → Option S} (h0 : ∀ x0 x1 x2, (K0 x0 x1 x2).bind J = Q0 x0 x1 x2) : ∀ (N : Nat) (l336 : Nat) (n337 : Int) (n338 : Int) (bs339 : List Bool) (n340 : Int) (n341 : Int), (bits_From_l6_L K0 N l336 n337 n338 bs339 n340 n341).bind J = bits_From_l6_L Q0 N l336 n337 n338 bs339 n340 n341
  | 0, _, _, _, _, _, _ => rfl
  | N + 1, l336, n337, n338, bs339, n340, n341 => bits_From_l6_T_push (bits_From_l6_L_push h0 N) l336 n337 n338 bs339 n340 n341 h0

theorem bits_From_l6_push {R S : Type} {J : R → Option S} (l336 : Nat) (n337 : Int) (n338 : Int) (bs339 : List Bool) (n340 : Int) (n341 : Int) {K0 : List Bool → Int → Int → Option R} {Q0 : List Bool → Int → Int → Option S} (h0 : ∀ x0 x1 x2, (K0 x0 x1 x2).bind J = Q0 x0 x1 x2) : (bits_From_l6 l336 n337 n338 bs339 n340 n341 K0).bind J = bits_From_l6 l336 n337 n338 bs339 n340 n341 Q0 := by
  rw [bits_From_l6_unf, bits_From_l6_unf]
  unfold bits_From_l6_B
  exact bits_From_l6_L_push h0 NR l336 n337 n338 bs339 n340 n341

theorem bits_From_l6_1_T_push {R S : Type} {J : R → Option S} {r : Nat → Int → Int → List Bool → Int → Int → Nat → List Int → Option R} {r' : Nat → Int → Int → List Bool → Int → Int → Nat → List Int → Option S} (hr : ∀ x0 x1 x2 x3 x4 x5 x6 x7, (r x0 x1 x2 x3 x4 x5 x6 x7).bind J = r' x0 x1 x2 x3 x4 x5 x6 x7) (l349 : Nat) (n350 : Int) (n351 : Int) (bs352 : List Bool) (n353 : Int) (n354 : Int) (l355 : Nat) (xs356 : List Int) {K0 : List Bool → Int → Int → Nat → List Int → Option R} {Q0 : List Bool → Int → Int → Nat → List Int → Option S} (h0 : ∀ x0 x1 x2 x3 x4, (K0 x0 x1 x2 x3 x4).bind J = Q0 x0 x1 x2 x3 x4) : (bits_From_l6_1_T r l349 n350 n351 bs352 n353 n354 l355 xs356 K0).bind J = bits_From_l6_1_T r' l349 n350 n351 bs352 n353 n354 l355 xs356 Q0 := by
  unfold bits_From_l6_1_T
  repeat' first | intro _ | with_reducible exact h0 _ _ _ _ _ | with_reducible apply sel_push | with_reducible apply letV_push | with_reducible exact none_bind' _ | with_reducible exact hr _ _ _ _ _ _ _ _

theorem bits_From_l6_1_L_push {R S : Type} {J : R → Option S} {K0 : List Bool → Int → Int → Nat → List Int → Option R} {Q0 : List Bool → Int → Int → Nat → List Int → Option S} (h0 : ∀ x0 x1 x2 x3 x4, (K0 x0 x1 x2 x3 x4).bind J = Q0 x0 x1 x2 x3 x4) : ∀ (N : Nat) (l349 : Nat) (n350 : Int) (n351 : Int) (bs352 : List Bool) (n353 : Int) (n354 : Int) (l355 : Nat) (xs356 : List Int), (bits_From_l6_1_L K0 N l349 n350 n351 bs352 n353 n354 l355 xs356).bind J = bits_From_l6_1_L Q0 N l349 n350 n351 bs352 n353 n354 l355 xs356
  | 0, _, _, _, _, _, _, _, _ => rfl
  | N + 1, l349, n350, n351, bs352, n353, n354, l355, xs356 => bits_From_l6_1_T_push (bits_From_l6_1_L_push h0 N) l349 n350 n351 bs352 n353 n354 l355 xs356 h0

theorem bits_From_l6_1_push {R S : Type} {J : R → Option S} (l349 : Nat) (n350 : Int) (n351 : Int) (bs352 : List Bool) (n353 : Int) (n354 : Int) (l355 : Nat) (xs356 : List Int) {K0 : List Bool → Int → Int → Nat → List Int → Option R} {Q0 : List Bool → Int → Int → Nat → List Int → Option S} (h0 : ∀ x0 x1 x2 x3 x4, (K0 x0 x1 x2 x3 x4).bind J = Q0 x0 x1 x2 x3 x4) : (bits_From_l6_1 l349 n350 n351 bs352 n353 n354 l355 xs356 K0).bind J = bits_From_l6_1 l349 n350 n351 bs352 n353 n354 l355 xs356 Q0 := by
  rw [bits_From_l6_1_unf, bits_From_l6_1_unf]
  unfold bits_From_l6_1_B
  exact bits_From_l6_1_L_push h0 NR l349 n350 n351 bs352 n353 n354 l355 xs356

theorem bits_From_r_push {R S : Type} {J : R → Option S} (l315 : Nat) (bs316 : List Bool) {K0 : Int → Int → List Bool → Option R} {Q0 : Int → Int → List Bool → Option S} (h0 : ∀ x0 x1 x2, (K0 x0 x1 x2).bind J = Q0 x0 x1 x2) {K1 : Int → Nat → Int → List Bool → List Int → Option R} {Q1 : Int → Nat → Int → List Bool → List Int → Option S} (h1 : ∀ x0 x1 x2 x3 x4, (K1 x0 x1 x2 x3 x4).bind J = Q1 x0 x1 x2 x3 x4) : (bits_From_r l315 bs316 K0 K1).bind J = bits_From_r l315 bs316 Q0 Q1 := by
  rw [bits_From_r_unf, bits_From_r_unf]
  unfold bits_From_r_B
  repeat' first | intro _ | with_reducible exact h0 _ _ _ | with_reducible exact h1 _ _ _ _ _ | with_reducible apply sel_push | with_reducible apply letV_push | with_reducible apply bits_New_r_push | with_reducible apply bits_From_l6_push | with_reducible apply bits_From_l6_1_push | with_reducible exact none_bind' _

theorem haystackref02_Same_l5_T_push {R S : Type} {J : R → Option S} {r : Int → Int → List Int → Int → List Int → Option R} {r' : Int → Int → List Int → Int → List Int → Option S} (hr : ∀ x0 x1 x2 x3 x4, (r x0 x1 x2 x3 x4).bind J = r' x0 x1 x2 x3 x4) (n376 : Int) (n377 : Int) (xs378 : List Int) (n379 : Int) (xs380 : List Int) {K0 : Bool → Option R} {Q0 : Bool → Option S} (h0 : ∀ x0, (K0 x0).bind J = Q0 x0) {K1 : Unit → Option R} {Q1 : Unit → Option S} (h1 : ∀ u, (K1 u).bind J = Q1 u) : (haystackref02_Same_l5_T r n376 n377 xs378 n379 xs380 K0 K1).bind J = haystackref02_Same_l5_T r' n376 n377 xs378 n379 xs380 Q0 Q1 := by
  unfold haystackref02_Same_l5_T
  repeat' first | intro _ | with_reducible exact h0 _ | with_reducible exact h1 _ | with_reducible apply sel_push | with_reducible apply letV_push | with_reducible exact none_bind' _ | with_reducible exact hr _ _ _ _ _

theorem haystackref02_Same_l5_L_push {R S : Type} {J : R → Option S} {K0 : Bool → Option R} {Q0 : Bool → Option S} (h0 : ∀ x0, (K0 x0).bind J = Q0 x0) {K1 : Unit → Option R} {Q1 : Unit → Option S} (h1 : ∀ u, (K1 u).bind J = Q1 u) : ∀ (N : Nat) (n376 : Int) (n377 : Int) (xs378 : List Int) (n379 : Int) (xs380 : List Int), (haystackref02_Same_l5_L K0 K1 N n376 n377 xs378 n379 xs380).bind J = haystackref02_Same_l5_L Q0 Q1 N n376 n377 xs378 n379 xs380
  | 0, _, _, _, _, _ => rfl
  | N + 1, n376, n377, xs378, n379, xs380 => haystackref02_Same_l5_T_push (haystackref02_Same_l5_L_push h0 h1 N) n376 n377 xs378 n379 xs380 h0 h1

theorem haystackref02_Same_l5_push {R S : Type} {J : R → Option S} (n376 : Int) (n377 : Int) (xs378 : List Int) (n379 : Int) (xs380 : List Int) {K0 : Bool → Option R} {Q0 : Bool → Option S} (h0 : ∀ x0, (K0 x0).bind J = Q0 x0) {K1 : Unit → Option R} {Q1 : Unit → Option S} (h1 : ∀ u, (K1 u).bind J = Q1 u) : (haystackref02_Same_l5 n376 n377 xs378 n379 xs380 K0 K1).bind J = haystackref02_Same_l5 n376 n377 xs378 n379 xs380 Q0 Q1 := by
  rw [haystackref02_Same_l5_unf, haystackref02_Same_l5_unf]
  unfold haystackref02_Same_l5_B
  exact haystackref02_Same_l5_L_push h0 h1 NR n376 n377 xs378 n379 xs380

theorem haystackref02_Same_j4_push {R S : Type} {J : R → Option S} (n372 : Int) (xs373 : List Int) (n374 : Int) (xs375 : List Int) {K0 : Bool → Option R} {Q0 : Bool → Option S} (h0 : ∀ x0, (K0 x0).bind J = Q0 x0) : (haystackref02_Same_j4 n372 xs373 n374 xs375 K0).bind J = haystackref02_Same_j4 n372 xs373 n374 xs375 Q0 := by
  rw [haystackref02_Same_j4_unf, haystackref02_Same_j4_unf]
  unfold haystackref02_Same_j4_B
  repeat' first | intro _ | with_reducible exact h0 _ | with_reducible apply sel_push | with_reducible apply letV_push | with_reducible apply haystackref02_Same_l5_push | with_reducible exact none_bind' _

theorem haystackref02_Same_push {R S : Type} {J : R → Option S} (n368 : Int) (xs369 : List Int) (n370 : Int) (xs371 : List Int) {K0 : Bool → Option R} {Q0 : Bool → Option S} (h0 : ∀ x0, (K0 x0).bind J = Q0 x0) : (haystackref02_Same n368 xs369 n370 xs371 K0).bind J = haystackref02_Same n368 xs369 n370 xs371 Q0 := by
  rw [haystackref02_Same_unf, haystackref02_Same_unf]
  unfold haystackref02_Same_B
  repeat' first | intro _ | with_reducible exact h0 _ | with_reducible apply sel_push | with_reducible apply letV_push | with_reducible apply haystackref02_Same_j4_push | with_reducible exact none_bind' _

theorem math_bits_OnesCount64_push {R S : Type} {J : R → Option S} (n399 : Int) {K0 : Int → Option R} {Q0 : Int → Option S} (h0 : ∀ x0, (K0 x0).bind J = Q0 x0) : (math_bits_OnesCount64 n399 K0).bind J = math_bits_OnesCount64 n399 Q0 := by
  rw [math_bits_OnesCount64_unf, math_bits_OnesCount64_unf]
  unfold math_bits_OnesCount64_B
  repeat' first | intro _ | with_reducible exact h0 _ | with_reducible apply sel_push | with_reducible apply letV_push | with_reducible exact none_bind' _

theorem word_Pop_push {R S : Type} {J : R → Option S} (n398 : Int) {K0 : Int → Option R} {Q0 : Int → Option S} (h0 : ∀ x0, (K0 x0).bind J = Q0 x0) : (word_Pop n398 K0).bind J = word_Pop n398 Q0 := by
  rw [word_Pop_unf, word_Pop_unf]
  unfold word_Pop_B
  repeat' first | intro _ | with_reducible exact h0 _ | with_reducible apply sel_push | with_reducible apply letV_push | with_reducible apply math_bits_OnesCount64_push | with_reducible exact none_bind' _

theorem bits_Ones_l7_T_push {R S : Type} {J : R → Option S} {r : Int → Int → List Int → Int → Int → Int → List Int → Option R} {r' : Int → Int → List Int → Int → Int → Int → List Int → Option S} (hr : ∀ x0 x1 x2 x3 x4 x5 x6, (r x0 x1 x2 x3 x4 x5 x6).bind J = r' x0 x1 x2 x3 x4 x5 x6) (n391 : Int) (n392 : Int) (xs393 : List Int) (n394 : Int) (n395 : Int) (n396 : Int) (xs397 : List Int) {K0 : Int → Int → Int → List Int → Option R} {Q0 : Int → Int → Int → List Int → Option S} (h0 : ∀ x0 x1 x2 x3, (K0 x0 x1 x2 x3).bind J = Q0 x0 x1 x2 x3) : (bits_Ones_l7_T r n391 n392 xs393 n394 n395 n396 xs397 K0).bind J = bits_Ones_l7_T r' n391 n392 xs393 n394 n395 n396 xs397 Q0 := by
  unfold bits_Ones_l7_T
  repeat' first | intro _ | with_reducible exact h0 _ _ _ _ | with_reducible apply sel_push | with_reducible apply letV_push | with_reducible apply word_Pop_push | with_reducible exact none_bind' _ | with_reducible exact hr _ _ _ _ _ _ _

theorem bits_Ones_l7_L_push {R S : Type} {J : R → Option S} {K0 : Int → Int → Int → List Int → Option R} {Q0 : Int → Int → Int → List Int → Option S} (h0 : ∀ x0 x1 x2 x3, (K0 x0 x1 x2 x3).bind J = Q0 x0 x1 x2 x3) : ∀ (N : Nat) (n391 : Int) (n392 : Int) (xs393 : List Int) (n394 : Int) (n395 : Int) (n396 : Int) (xs397 : List Int), (bits_Ones_l7_L K0 N n391 n392 xs393 n394 n395 n396 xs397).bind J = bits_Ones_l7_L Q0 N n391 n392 xs393 n394 n395 n396 xs397
  | 0, _, _, _, _, _, _, _ => rfl
  | N + 1, n391, n392, xs393, n394, n395, n396, xs397 => bits_Ones_l7_T_push (bits_Ones_l7_L_push h0 N) n391 n392 xs393 n394 n395 n396 xs397 h0

theorem bits_Ones_l7_push {R S : Type} {J : R → Option S} (n391 : Int) (n392 : Int) (xs393 : List Int) (n394 : Int) (n395 : Int) (n396 : Int) (xs397 : List Int) {K0 : Int → Int → Int → List Int → Option R} {Q0 : Int → Int → Int → List Int → Option S} (h0 : ∀ x0 x1 x2 x3, (K0 x0 x1 x2 x3).bind J = Q0 x0 x1 x2 x3) : (bits_Ones_l7 n391 n392 xs393 n394 n395 n396 xs397 K0).bind J = bits_Ones_l7 n391 n392 xs393 n394 n395 n396 xs397 Q0 := by
  rw [bits_Ones_l7_unf, bits_Ones_l7_unf]
  unfold bits_Ones_l7_B
  exact bits_Ones_l7_L_push h0 NR n391 n392 xs393 n394 n395 n396 xs397

theorem word_Rank_push {R S : Type} {J : R → Option S} (n409 : Int) (n410 : Int) {K0 : Int → Option R} {Q0 : Int → Option S} (h0 : ∀ x0, (K0 x0).bind J = Q0 x0) : (word_Rank n409 n410 K0).bind J = word_Rank n409 n410 Q0 := by
  rw [word_Rank_unf, word_Rank_unf]
  unfold word_Rank_B
  repeat' first | intro _ | with_reducible exact h0 _ | with_reducible apply sel_push | with_reducible apply letV_push | with_reducible apply word_Mask_push | with_reducible apply word_Pop_push | with_reducible exact none_bind' _

theorem bits_Ones_push {R S : Type} {J : R → Option S} (n386 : Int) (xs387 : List Int) (n388 : Int) {K0 : Int → Option R} {Q0 : Int → Option S} (h0 : ∀ x0, (K0 x0).bind J = Q0 x0) : (bits_Ones n386 xs387 n388 K0).bind J = bits_Ones n386 xs387 n388 Q0 := by
  rw [bits_Ones_unf, bits_Ones_unf]
  unfold bits_Ones_B
  repeat' first | intro _ | with_reducible exact h0 _ | with_reducible apply sel_push | with_reducible apply letV_push | with_reducible apply bits_Check_push | with_reducible apply bits_Ones_l7_push | with_reducible apply word_Rank_push | with_reducible exact none_bind' _

theorem haystackref02_Same_l5_1_T_push {R S : Type} {J : R → Option S} {r : Int → List Int → Int → Nat → Int → List Int → Option R} {r' : Int → List Int → Int → Nat → Int → List Int → Option S} (hr : ∀ x0 x1 x2 x3 x4 x5, (r x0 x1 x2 x3 x4 x5).bind J = r' x0 x1 x2 x3 x4 x5) (n432 : Int) (xs433 : List Int) (n434 : Int) (l435 : Nat) (n436 : Int) (xs437 : List Int) {K0 : Bool → List Int → Option R} {Q0 : Bool → List Int → Option S} (h0 : ∀ x0 x1, (K0 x0 x1).bind J = Q0 x0 x1) {K1 : List Int → Option R} {Q1 : List Int → Option S} (h1 : ∀ x0, (K1 x0).bind J = Q1 x0) : (haystackref02_Same_l5_1_T r n432 xs433 n434 l435 n436 xs437 K0 K1).bind J = haystackref02_Same_l5_1_T r' n432 xs433 n434 l435 n436 xs437 Q0 Q1 := by
  unfold haystackref02_Same_l5_1_T
  repeat' first | intro _ | with_reducible exact h0 _ _ | with_reducible exact h1 _ | with_reducible apply sel_push | with_reducible apply letV_push | with_reducible exact none_bind' _ | with_reducible exact hr _ _ _ _ _ _

theorem haystackref02_Same_l5_1_L_push {R S : Type} {J : R → Option S} {K0 : Bool → List Int → Option R} {Q0 : Bool → List Int → Option S} (h0 : ∀ x0 x1, (K0 x0 x1).bind J = Q0 x0 x1) {K1 : List Int → Option R} {Q1 : List Int → Option S} (h1 : ∀ x0, (K1 x0).bind J = Q1 x0) : ∀ (N : Nat) (n432 : Int) (xs433 : List Int) (n434 : Int) (l435 : Nat) (n436 : Int) (xs437 : List Int), (haystackref02_Same_l5_1_L K0 K1 N n432 xs433 n434 l435 n436 xs437).bind J = haystackref02_Same_l5_1_L Q0 Q1 N n432 xs433 n434 l435 n436 xs437
  | 0, _, _, _, _, _, _ => rfl
  | N + 1, n432, xs433, n434, l435, n436, xs437 => haystackref02_Same_l5_1_T_push (haystackref02_Same_l5_1_L_push h0 h1 N) n432 xs433 n434 l435 n436 xs437 h0 h1

theorem haystackref02_Same_l5_1_push {R S : Type} {J : R → Option S} (n432 : Int) (xs433 : List Int) (n434 : Int) (l435 : Nat) (n436 : Int) (xs437 : List Int) {K0 : Bool → List Int → Option R} {Q0 : Bool → List Int → Option S} (h0 : ∀ x0 x1, (K0 x0 x1).bind J = Q0 x0 x1) {K1 : List Int → Option R} {Q1 : List Int → Option S} (h1 : ∀ x0, (K1 x0).bind J = Q1 x0) : (haystackref02_Same_l5_1 n432 xs433 n434 l435 n436 xs437 K0 K1).bind J = haystackref02_Same_l5_1 n432 xs433 n434 l435 n436 xs437 Q0 Q1 := by
  rw [haystackref02_Same_l5_1_unf, haystackref02_Same_l5_1_unf]
  unfold haystackref02_Same_l5_1_B
  exact haystackref02_Same_l5_1_L_push h0 h1 NR n432 xs433 n434 l435 n436 xs437

theorem haystackref02_Same_j4_1_push {R S : Type} {J : R → Option S} (xs427 : List Int) (n428 : Int) (l429 : Nat) (n430 : Int) (xs431 : List Int) {K0 : Bool → List Int → Option R} {Q0 : Bool → List Int → Option S} (h0 : ∀ x0 x1, (K0 x0 x1).bind J = Q0 x0 x1) : (haystackref02_Same_j4_1 xs427 n428 l429 n430 xs431 K0).bind J = haystackref02_Same_j4_1 xs427 n428 l429 n430 xs431 Q0 := by
  rw [haystackref02_Same_j4_1_unf, haystackref02_Same_j4_1_unf]
  unfold haystackref02_Same_j4_1_B
  repeat' first | intro _ | with_reducible exact h0 _ _ | with_reducible apply sel_push | with_reducible apply letV_push | with_reducible apply haystackref02_Same_l5_1_push | with_reducible exact none_bind' _

theorem haystackref02_Same_r_push {R S : Type} {J : R → Option S} (n422 : Int) (l423 : Nat) (n424 : Int) (xs425 : List Int) (xs426 : List Int) {K0 : Bool → List Int → Option R} {Q0 : Bool → List Int → Option S} (h0 : ∀ x0 x1, (K0 x0 x1).bind J = Q0 x0 x1) : (haystackref02_Same_r n422 l423 n424 xs425 xs426 K0).bind J = haystackref02_Same_r n422 l423 n424 xs425 xs426 Q0 := by
  rw [haystackref02_Same_r_unf, haystackref02_Same_r_unf]
  unfold haystackref02_Same_r_B
  repeat' first | intro _ | with_reducible exact h0 _ _ | with_reducible apply sel_push | with_reducible apply letV_push | with_reducible apply haystackref02_Same_j4_1_push | with_reducible exact none_bind' _

theorem haystacklaw02_heads_push {R S : Type} {J : R → Option S} {K0 : Bool → Option R} {Q0 : Bool → Option S} (h0 : ∀ x0, (K0 x0).bind J = Q0 x0) : (haystacklaw02_heads K0).bind J = haystacklaw02_heads Q0 := by
  rw [haystacklaw02_heads_unf, haystacklaw02_heads_unf]
  unfold haystacklaw02_heads_B
  repeat' first | intro _ | with_reducible exact h0 _ | with_reducible apply sel_push | with_reducible apply letV_push | with_reducible apply bits_Append_push | with_reducible apply bits_Set_push | with_reducible apply bits_Slice_push | with_reducible apply bits_Get_push | with_reducible apply bits_Join_push | with_reducible apply bits_New_push | with_reducible apply bits_From_r_push | with_reducible apply haystackref02_Same_push | with_reducible apply bits_Check_push | with_reducible apply bits_Ones_push | with_reducible apply haystackref02_Same_r_push | with_reducible exact none_bind' _

theorem haystacklaw02_BitsCounts_j4_push {R S : Type} {J : R → Option S} (n453 : Int) (n454 : Int) (xs455 : List Int) {K0 : Bool → Option R} {Q0 : Bool → Option S} (h0 : ∀ x0, (K0 x0).bind J = Q0 x0) : (haystacklaw02_BitsCounts_j4 n453 n454 xs455 K0).bind J = haystacklaw02_BitsCounts_j4 n453 n454 xs455 Q0 := by
  rw [haystacklaw02_BitsCounts_j4_unf, haystacklaw02_BitsCounts_j4_unf]
  unfold haystacklaw02_BitsCounts_j4_B
  repeat' first | intro _ | with_reducible exact h0 _ | with_reducible apply sel_push | with_reducible apply letV_push | with_reducible apply bits_Get_push | with_reducible apply bits_Ones_push | with_reducible apply haystacklaw02_heads_push | with_reducible exact none_bind' _

theorem haystacklaw02_BitsCounts_push {R S : Type} {J : R → Option S} (n0 : Int) (xs1 : List Int) (n2 : Int) {K0 : Bool → Option R} {Q0 : Bool → Option S} (h0 : ∀ x0, (K0 x0).bind J = Q0 x0) : (haystacklaw02_BitsCounts n0 xs1 n2 K0).bind J = haystacklaw02_BitsCounts n0 xs1 n2 Q0 := by
  rw [haystacklaw02_BitsCounts_unf, haystacklaw02_BitsCounts_unf]
  unfold haystacklaw02_BitsCounts_B
  repeat' first | intro _ | with_reducible exact h0 _ | with_reducible apply sel_push | with_reducible apply letV_push | with_reducible apply haystacklaw02_small_push | with_reducible apply haystacklaw02_heads_push | with_reducible apply bits_Check_push | with_reducible apply haystacklaw02_BitsCounts_j4_push | with_reducible exact none_bind' _

theorem haystacklaw02_BitsSplits_j4_push {R S : Type} {J : R → Option S} (n478 : Int) (n479 : Int) (n480 : Int) (n481 : Int) (xs482 : List Int) {K0 : Bool → Option R} {Q0 : Bool → Option S} (h0 : ∀ x0, (K0 x0).bind J = Q0 x0) : (haystacklaw02_BitsSplits_j4 n478 n479 n480 n481 xs482 K0).bind J = haystacklaw02_BitsSplits_j4 n478 n479 n480 n481 xs482 Q0 := by
  rw [haystacklaw02_BitsSplits_j4_unf, haystacklaw02_BitsSplits_j4_unf]
  unfold haystacklaw02_BitsSplits_j4_B
  repeat' first | intro _ | with_reducible exact h0 _ | with_reducible apply sel_push | with_reducible apply letV_push | with_reducible apply bits_Slice_push | with_reducible apply haystacklaw02_heads_push | with_reducible exact none_bind' _

theorem haystacklaw02_BitsSplits_push {R S : Type} {J : R → Option S} (n463 : Int) (xs464 : List Int) (n465 : Int) (n466 : Int) (n467 : Int) {K0 : Bool → Option R} {Q0 : Bool → Option S} (h0 : ∀ x0, (K0 x0).bind J = Q0 x0) : (haystacklaw02_BitsSplits n463 xs464 n465 n466 n467 K0).bind J = haystacklaw02_BitsSplits n463 xs464 n465 n466 n467 Q0 := by
  rw [haystacklaw02_BitsSplits_unf, haystacklaw02_BitsSplits_unf]
  unfold haystacklaw02_BitsSplits_B
  repeat' first | intro _ | with_reducible exact h0 _ | with_reducible apply sel_push | with_reducible apply letV_push | with_reducible apply haystacklaw02_small_push | with_reducible apply haystacklaw02_heads_push | with_reducible apply bits_Check_push | with_reducible apply haystacklaw02_BitsSplits_j4_push | with_reducible exact none_bind' _

theorem bits_Check_j4_1_push {R S : Type} {J : R → Option S} (xs525 : List Int) (n526 : Int) (l527 : Nat) {K0 : Bool → List Int → Option R} {Q0 : Bool → List Int → Option S} (h0 : ∀ x0 x1, (K0 x0 x1).bind J = Q0 x0 x1) : (bits_Check_j4_1 xs525 n526 l527 K0).bind J = bits_Check_j4_1 xs525 n526 l527 Q0 := by
  rw [bits_Check_j4_1_unf, bits_Check_j4_1_unf]
  unfold bits_Check_j4_1_B
  repeat' first | intro _ | with_reducible exact h0 _ _ | with_reducible apply sel_push | with_reducible apply letV_push | with_reducible apply word_Mask_push | with_reducible exact none_bind' _

theorem bits_Check_r_push {R S : Type} {J : R → Option S} (n521 : Int) (l522 : Nat) (xs523 : List Int) {K0 : Bool → List Int → Option R} {Q0 : Bool → List Int → Option S} (h0 : ∀ x0 x1, (K0 x0 x1).bind J = Q0 x0 x1) : (bits_Check_r n521 l522 xs523 K0).bind J = bits_Check_r n521 l522 xs523 Q0 := by
  rw [bits_Check_r_unf, bits_Check_r_unf]
  unfold bits_Check_r_B
  repeat' first | intro _ | with_reducible exact h0 _ _ | with_reducible apply sel_push | with_reducible apply letV_push | with_reducible apply bits_words_push | with_reducible apply bits_Check_j4_1_push | with_reducible exact none_bind' _

theorem bits_Get_j6_1_push {R S : Type} {J : R → Option S} (n534 : Int) (xs535 : List Int) (n536 : Int) (l537 : Nat) {K0 : Bool → Int → List Int → Option R} {Q0 : Bool → Int → List Int → Option S} (h0 : ∀ x0 x1 x2, (K0 x0 x1 x2).bind J = Q0 x0 x1 x2) : (bits_Get_j6_1 n534 xs535 n536 l537 K0).bind J = bits_Get_j6_1 n534 xs535 n536 l537 Q0 := by
  rw [bits_Get_j6_1_unf, bits_Get_j6_1_unf]
  unfold bits_Get_j6_1_B
  repeat' first | intro _ | with_reducible exact h0 _ _ _ | with_reducible apply sel_push | with_reducible apply letV_push | with_reducible exact none_bind' _

theorem bits_Get_r_push {R S : Type} {J : R → Option S} (n517 : Int) (l518 : Nat) (n519 : Int) (xs520 : List Int) {K0 : Bool → Int → List Int → Option R} {Q0 : Bool → Int → List Int → Option S} (h0 : ∀ x0 x1 x2, (K0 x0 x1 x2).bind J = Q0 x0 x1 x2) : (bits_Get_r n517 l518 n519 xs520 K0).bind J = bits_Get_r n517 l518 n519 xs520 Q0 := by
  rw [bits_Get_r_unf, bits_Get_r_unf]
  unfold bits_Get_r_B
  repeat' first | intro _ | with_reducible exact h0 _ _ _ | with_reducible apply sel_push | with_reducible apply letV_push | with_reducible apply bits_Check_r_push | with_reducible apply bits_Get_j6_1_push | with_reducible exact none_bind' _

theorem bits_own_r_1_push {R S : Type} {J : R → Option S} (n545 : Int) (l546 : Nat) (n547 : Int) (xs548 : List Int) {K0 : Int → Nat → List Int → List Int → Option R} {Q0 : Int → Nat → List Int → List Int → Option S} (h0 : ∀ x0 x1 x2 x3, (K0 x0 x1 x2 x3).bind J = Q0 x0 x1 x2 x3) : (bits_own_r_1 n545 l546 n547 xs548 K0).bind J = bits_own_r_1 n545 l546 n547 xs548 Q0 := by
  rw [bits_own_r_1_unf, bits_own_r_1_unf]
  unfold bits_own_r_1_B
  repeat' first | intro _ | with_reducible exact h0 _ _ _ _ | with_reducible apply sel_push | with_reducible apply letV_push | with_reducible apply bits_words_push | with_reducible exact none_bind' _

theorem bits_Set_r_push {R S : Type} {J : R → Option S} (n512 : Int) (l513 : Nat) (n514 : Int) (b515 : Bool) (xs516 : List Int) {K0 : Int → Nat → Int → List Int → Option R} {Q0 : Int → Nat → Int → List Int → Option S} (h0 : ∀ x0 x1 x2 x3, (K0 x0 x1 x2 x3).bind J = Q0 x0 x1 x2 x3) {K1 : Int → Nat → Int → List Int → List Int → Option R} {Q1 : Int → Nat → Int → List Int → List Int → Option S} (h1 : ∀ x0 x1 x2 x3 x4, (K1 x0 x1 x2 x3 x4).bind J = Q1 x0 x1 x2 x3 x4) : (bits_Set_r n512 l513 n514 b515 xs516 K0 K1).bind J = bits_Set_r n512 l513 n514 b515 xs516 Q0 Q1 := by
  rw [bits_Set_r_unf, bits_Set_r_unf]
  unfold bits_Set_r_B
  repeat' first | intro _ | with_reducible exact h0 _ _ _ _ | with_reducible exact h1 _ _ _ _ _ | with_reducible apply sel_push | with_reducible apply letV_push | with_reducible apply bits_Get_r_push | with_reducible apply bits_own_r_1_push | with_reducible exact none_bind' _

theorem haystackref02_Words_push {R S : Type} {J : R → Option S} (n570 : Int) {K0 : Int → Option R} {Q0 : Int → Option S} (h0 : ∀ x0, (K0 x0).bind J = Q0 x0) : (haystackref02_Words n570 K0).bind J = haystackref02_Words n570 Q0 := by
  rw [haystackref02_Words_unf, haystackref02_Words_unf]
  unfold haystackref02_Words_B
  repeat' first | intro _ | with_reducible exact h0 _ | with_reducible apply sel_push | with_reducible apply letV_push | with_reducible exact none_bind' _

theorem haystackref01_Mask_j6_push {R S : Type} {J : R → Option S} (n578 : Int) (n579 : Int) (n580 : Int) {K0 : Int → Int → Int → Option R} {Q0 : Int → Int → Int → Option S} (h0 : ∀ x0 x1 x2, (K0 x0 x1 x2).bind J = Q0 x0 x1 x2) : (haystackref01_Mask_j6 n578 n579 n580 K0).bind J = haystackref01_Mask_j6 n578 n579 n580 Q0 := by
  rw [haystackref01_Mask_j6_unf, haystackref01_Mask_j6_unf]
  unfold haystackref01_Mask_j6_B
  repeat' first | intro _ | with_reducible exact h0 _ _ _ | with_reducible apply sel_push | with_reducible apply letV_push | with_reducible exact none_bind' _

theorem haystackref01_Mask_l4_T_push {R S : Type} {J : R → Option S} {r : Int → Int → Int → Option R} {r' : Int → Int → Int → Option S} (hr : ∀ x0 x1 x2, (r x0 x1 x2).bind J = r' x0 x1 x2) (n575 : Int) (n576 : Int) (n577 : Int) {K0 : Int → Option R} {Q0 : Int → Option S} (h0 : ∀ x0, (K0 x0).bind J = Q0 x0) : (haystackref01_Mask_l4_T r n575 n576 n577 K0).bind J = haystackref01_Mask_l4_T r' n575 n576 n577 Q0 := by
  unfold haystackref01_Mask_l4_T
  repeat' first | intro _ | with_reducible exact h0 _ | with_reducible apply sel_push | with_reducible apply letV_push | with_reducible apply haystackref01_Mask_j6_push | with_reducible exact none_bind' _ | with_reducible exact hr _ _ _

theorem haystackref01_Mask_l4_L_push {R S : Type} {J : R → Option S} {K0 : Int → Option R} {Q0 : Int → Option S} (h0 : ∀ x0, (K0 x0).bind J = Q0 x0) : ∀ (N : Nat) (n575 : Int) (n576 : Int) (n577 : Int), (haystackref01_Mask_l4_L K0 N n575 n576 n577).bind J = haystackref01_Mask_l4_L Q0 N n575 n576 n577
  | 0, _, _, _ => rfl
  | N + 1, n575, n576, n577 => haystackref01_Mask_l4_T_push (haystackref01_Mask_l4_L_push h0 N) n575 n576 n577 h0

theorem haystackref01_Mask_l4_push {R S : Type} {J : R → Option S} (n575 : Int) (n576 : Int) (n577 : Int) {K0 : Int → Option R} {Q0 : Int → Option S} (h0 : ∀ x0, (K0 x0).bind J = Q0 x0) : (haystackref01_Mask_l4 n575 n576 n577 K0).bind J = haystackref01_Mask_l4 n575 n576 n577 Q0 := by
  rw [haystackref01_Mask_l4_unf, haystackref01_Mask_l4_unf]
  unfold haystackref01_Mask_l4_B
  exact haystackref01_Mask_l4_L_push h0 NR n575 n576 n577

theorem haystackref01_Mask_push {R S : Type} {J : R → Option S} (n574 : Int) {K0 : Int → Option R} {Q0 : Int → Option S} (h0 : ∀ x0, (K0 x0).bind J = Q0 x0) : (haystackref01_Mask n574 K0).bind J = haystackref01_Mask n574 Q0 := by
  rw [haystackref01_Mask_unf, haystackref01_Mask_unf]
  unfold haystackref01_Mask_B
  repeat' first | intro _ | with_reducible exact h0 _ | with_reducible apply sel_push | with_reducible apply letV_push | with_reducible apply haystackref01_Mask_l4_push | with_reducible exact none_bind' _

theorem haystackref02_Check_j4_push {R S : Type} {J : R → Option S} (n572 : Int) (xs573 : List Int) {K0 : Bool → Option R} {Q0 : Bool → Option S} (h0 : ∀ x0, (K0 x0).bind J = Q0 x0) : (haystackref02_Check_j4 n572 xs573 K0).bind J = haystackref02_Check_j4 n572 xs573 Q0 := by
  rw [haystackref02_Check_j4_unf, haystackref02_Check_j4_unf]
  unfold haystackref02_Check_j4_B
  repeat' first | intro _ | with_reducible exact h0 _ | with_reducible apply sel_push | with_reducible apply letV_push | with_reducible apply haystackref01_Mask_push | with_reducible exact none_bind' _

theorem haystackref02_Check_push {R S : Type} {J : R → Option S} (n568 : Int) (xs569 : List Int) {K0 : Bool → Option R} {Q0 : Bool → Option S} (h0 : ∀ x0, (K0 x0).bind J = Q0 x0) : (haystackref02_Check n568 xs569 K0).bind J = haystackref02_Check n568 xs569 Q0 := by
  rw [haystackref02_Check_unf, haystackref02_Check_unf]
  unfold haystackref02_Check_B
  repeat' first | intro _ | with_reducible exact h0 _ | with_reducible apply sel_push | with_reducible apply letV_push | with_reducible apply haystackref02_Words_push | with_reducible apply haystackref02_Check_j4_push | with_reducible exact none_bind' _

theorem haystackref02_Set_j5_push {R S : Type} {J : R → Option S} (n589 : Int) (b590 : Bool) (b591 : Bool) (n592 : Int) (xs593 : List Int) (n594 : Int) {K0 : Int → Int → List Int → Option R} {Q0 : Int → Int → List Int → Option S} (h0 : ∀ x0 x1 x2, (K0 x0 x1 x2).bind J = Q0 x0 x1 x2) {K1 : Int → Bool → Int → List Int → Int → Option R} {Q1 : Int → Bool → Int → List Int → Int → Option S} (h1 : ∀ x0 x1 x2 x3 x4, (K1 x0 x1 x2 x3 x4).bind J = Q1 x0 x1 x2 x3 x4) : (haystackref02_Set_j5 n589 b590 b591 n592 xs593 n594 K0 K1).bind J = haystackref02_Set_j5 n589 b590 b591 n592 xs593 n594 Q0 Q1 := by
  rw [haystackref02_Set_j5_unf, haystackref02_Set_j5_unf]
  unfold haystackref02_Set_j5_B
  repeat' first | intro _ | with_reducible exact h0 _ _ _ | with_reducible exact h1 _ _ _ _ _ | with_reducible apply sel_push | with_reducible apply letV_push | with_reducible exact none_bind' _

theorem haystackref02_put_r_push {R S : Type} {J : R → Option S} (l608 : Nat) (n609 : Int) (b610 : Bool) (xs611 : List Int) {K0 : List Int → Option R} {Q0 : List Int → Option S} (h0 : ∀ x0, (K0 x0).bind J = Q0 x0) : (haystackref02_put_r l608 n609 b610 xs611 K0).bind J = haystackref02_put_r l608 n609 b610 xs611 Q0 := by
  rw [haystackref02_put_r_unf, haystackref02_put_r_unf]
  unfold haystackref02_put_r_B
  repeat' first | intro _ | with_reducible exact h0 _ | with_reducible apply sel_push | with_reducible apply letV_push | with_reducible exact none_bind' _

theorem haystackref02_Set_j6_push {R S : Type} {J : R → Option S} (n603 : Int) (b604 : Bool) (n605 : Int) (xs606 : List Int) (n607 : Int) {K0 : Int → Int → Nat → List Int → Option R} {Q0 : Int → Int → Nat → List Int → Option S} (h0 : ∀ x0 x1 x2 x3, (K0 x0 x1 x2 x3).bind J = Q0 x0 x1 x2 x3) : (haystackref02_Set_j6 n603 b604 n605 xs606 n607 K0).bind J = haystackref02_Set_j6 n603 b604 n605 xs606 n607 Q0 := by
  rw [haystackref02_Set_j6_unf, haystackref02_Set_j6_unf]
  unfold haystackref02_Set_j6_B
  repeat' first | intro _ | with_reducible exact h0 _ _ _ _ | with_reducible apply sel_push | with_reducible apply letV_push | with_reducible apply haystackref02_put_r_push | with_reducible exact none_bind' _

theorem haystackref02_Set_push {R S : Type} {J : R → Option S} (n564 : Int) (xs565 : List Int) (n566 : Int) (b567 : Bool) {K0 : Int → List Int → Int → Option R} {Q0 : Int → List Int → Int → Option S} (h0 : ∀ x0 x1 x2, (K0 x0 x1 x2).bind J = Q0 x0 x1 x2) : (haystackref02_Set n564 xs565 n566 b567 K0).bind J = haystackref02_Set n564 xs565 n566 b567 Q0 := by
  rw [haystackref02_Set_unf, haystackref02_Set_unf]
  unfold haystackref02_Set_B
  repeat' first | intro _ | with_reducible exact h0 _ _ _ | with_reducible apply sel_push | with_reducible apply letV_push | with_reducible apply haystackref02_Check_push | with_reducible apply haystackref02_Set_j5_push | with_reducible apply haystackref02_Set_j6_push | with_reducible exact none_bind' _

theorem bits_Append_j3_1_push {R S : Type} {J : R → Option S} (n641 : Int) (n642 : Int) (b643 : Bool) (xs644 : List Int) (n645 : Int) (l646 : Nat) (n647 : Int) {K0 : Int → List Int → Int → Nat → Option R} {Q0 : Int → List Int → Int → Nat → Option S} (h0 : ∀ x0 x1 x2 x3, (K0 x0 x1 x2 x3).bind J = Q0 x0 x1 x2 x3) {K1 : Int → Int → List Int → Int → Nat → Int → Option R} {Q1 : Int → Int → List Int → Int → Nat → Int → Option S} (h1 : ∀ x0 x1 x2 x3 x4 x5, (K1 x0 x1 x2 x3 x4 x5).bind J = Q1 x0 x1 x2 x3 x4 x5) : (bits_Append_j3_1 n641 n642 b643 xs644 n645 l646 n647 K0 K1).bind J = bits_Append_j3_1 n641 n642 b643 xs644 n645 l646 n647 Q0 Q1 := by
  rw [bits_Append_j3_1_unf, bits_Append_j3_1_unf]
  unfold bits_Append_j3_1_B
  repeat' first | intro _ | with_reducible exact h0 _ _ _ _ | with_reducible exact h1 _ _ _ _ _ _ | with_reducible apply sel_push | with_reducible apply letV_push | with_reducible exact none_bind' _

theorem bits_Append_j4_1_push {R S : Type} {J : R → Option S} (n658 : Int) (n659 : Int) (xs660 : List Int) (n661 : Int) (l662 : Nat) (n663 : Int) {K0 : Int → List Int → Int → Nat → List Int → Option R} {Q0 : Int → List Int → Int → Nat → List Int → Option S} (h0 : ∀ x0 x1 x2 x3 x4, (K0 x0 x1 x2 x3 x4).bind J = Q0 x0 x1 x2 x3 x4) : (bits_Append_j4_1 n658 n659 xs660 n661 l662 n663 K0).bind J = bits_Append_j4_1 n658 n659 xs660 n661 l662 n663 Q0 := by
  rw [bits_Append_j4_1_unf, bits_Append_j4_1_unf]
  unfold bits_Append_j4_1_B
  repeat' first | intro _ | with_reducible exact h0 _ _ _ _ _ | with_reducible apply sel_push | with_reducible apply letV_push | with_reducible apply bits_own_r_1_push | with_reducible apply word_Mask_push | with_reducible apply bits_fill_r_push | with_reducible exact none_bind' _

theorem bits_Append_r_push {R S : Type} {J : R → Option S} (n634 : Int) (l635 : Nat) (n636 : Int) (n637 : Int) (xs638 : List Int) {K0 : Int → Nat → Int → List Int → Option R} {Q0 : Int → Nat → Int → List Int → Option S} (h0 : ∀ x0 x1 x2 x3, (K0 x0 x1 x2 x3).bind J = Q0 x0 x1 x2 x3) {K1 : Int → Nat → Int → List Int → List Int → Option R} {Q1 : Int → Nat → Int → List Int → List Int → Option S} (h1 : ∀ x0 x1 x2 x3 x4, (K1 x0 x1 x2 x3 x4).bind J = Q1 x0 x1 x2 x3 x4) : (bits_Append_r n634 l635 n636 n637 xs638 K0 K1).bind J = bits_Append_r n634 l635 n636 n637 xs638 Q0 Q1 := by
  rw [bits_Append_r_unf, bits_Append_r_unf]
  unfold bits_Append_r_B
  repeat' first | intro _ | with_reducible exact h0 _ _ _ _ | with_reducible exact h1 _ _ _ _ _ | with_reducible apply sel_push | with_reducible apply letV_push | with_reducible apply bits_Check_r_push | with_reducible apply bits_Append_j3_1_push | with_reducible apply bits_Append_j4_1_push | with_reducible exact none_bind' _

theorem haystackref02_Append_j3_push {R S : Type} {J : R → Option S} (n729 : Int) (n730 : Int) (b731 : Bool) (n732 : Int) (xs733 : List Int) (n734 : Int) {K0 : Int → Int → List Int → Option R} {Q0 : Int → Int → List Int → Option S} (h0 : ∀ x0 x1 x2, (K0 x0 x1 x2).bind J = Q0 x0 x1 x2) {K1 : Int → Int → Int → List Int → Int → Option R} {Q1 : Int → Int → Int → List Int → Int → Option S} (h1 : ∀ x0 x1 x2 x3 x4, (K1 x0 x1 x2 x3 x4).bind J = Q1 x0 x1 x2 x3 x4) : (haystackref02_Append_j3 n729 n730 b731 n732 xs733 n734 K0 K1).bind J = haystackref02_Append_j3 n729 n730 b731 n732 xs733 n734 Q0 Q1 := by
  rw [haystackref02_Append_j3_unf, haystackref02_Append_j3_unf]
  unfold haystackref02_Append_j3_B
  repeat' first | intro _ | with_reducible exact h0 _ _ _ | with_reducible exact h1 _ _ _ _ _ | with_reducible apply sel_push | with_reducible apply letV_push | with_reducible exact none_bind' _

theorem haystackref02_Append_l5_T_push {R S : Type} {J : R → Option S} {r : Int → Int → Int → List Int → Int → Int → Nat → List Int → Option R} {r' : Int → Int → Int → List Int → Int → Int → Nat → List Int → Option S} (hr : ∀ x0 x1 x2 x3 x4 x5 x6 x7, (r x0 x1 x2 x3 x4 x5 x6 x7).bind J = r' x0 x1 x2 x3 x4 x5 x6 x7) (n748 : Int) (n749 : Int) (n750 : Int) (xs751 : List Int) (n752 : Int) (n753 : Int) (l754 : Nat) (xs755 : List Int) {K0 : Int → Int → Int → List Int → Int → Int → Nat → List Int → Option R} {Q0 : Int → Int → Int → List Int → Int → Int → Nat → List Int → Option S} (h0 : ∀ x0 x1 x2 x3 x4 x5 x6 x7, (K0 x0 x1 x2 x3 x4 x5 x6 x7).bind J = Q0 x0 x1 x2 x3 x4 x5 x6 x7) : (haystackref02_Append_l5_T r n748 n749 n750 xs751 n752 n753 l754 xs755 K0).bind J = haystackref02_Append_l5_T r' n748 n749 n750 xs751 n752 n753 l754 xs755 Q0 := by
  unfold haystackref02_Append_l5_T
  repeat' first | intro _ | with_reducible exact h0 _ _ _ _ _ _ _ _ | with_reducible apply sel_push | with_reducible apply letV_push | with_reducible apply haystackref02_Words_push | with_reducible exact none_bind' _ | with_reducible exact hr _ _ _ _ _ _ _ _

theorem haystackref02_Append_l5_L_push {R S : Type} {J : R → Option S} {K0 : Int → Int → Int → List Int → Int → Int → Nat → List Int → Option R} {Q0 : Int → Int → Int → List Int → Int → Int → Nat → List Int → Option S} (h0 : ∀ x0 x1 x2 x3 x4 x5 x6 x7, (K0 x0 x1 x2 x3 x4 x5 x6 x7).bind J = Q0 x0 x1 x2 x3 x4 x5 x6 x7) : ∀ (N : Nat) (n748 : Int) (n749 : Int) (n750 : Int) (xs751 : List Int) (n752 : Int) (n753 : Int) (l754 : Nat) (xs755 : List Int), (haystackref02_Append_l5_L K0 N n748 n749 n750 xs751 n752 n753 l754 xs755).bind J = haystackref02_Append_l5_L Q0 N n748 n749 n750 xs751 n752 n753 l754 xs755
  | 0, _, _, _, _, _, _, _, _ => rfl
  | N + 1, n748, n749, n750, xs751, n752, n753, l754, xs755 => haystackref02_Append_l5_T_push (haystackref02_Append_l5_L_push h0 N) n748 n749 n750 xs751 n752 n753 l754 xs755 h0

theorem haystackref02_Append_l5_push {R S : Type} {J : R → Option S} (n748 : Int) (n749 : Int) (n750 : Int) (xs751 : List Int) (n752 : Int) (n753 : Int) (l754 : Nat) (xs755 : List Int) {K0 : Int → Int → Int → List Int → Int → Int → Nat → List Int → Option R} {Q0 : Int → Int → Int → List Int → Int → Int → Nat → List Int → Option S} (h0 : ∀ x0 x1 x2 x3 x4 x5 x6 x7, (K0 x0 x1 x2 x3 x4 x5 x6 x7).bind J = Q0 x0 x1 x2 x3 x4 x5 x6 x7) : (haystackref02_Append_l5 n748 n749 n750 xs751 n752 n753 l754 xs755 K0).bind J = haystackref02_Append_l5 n748 n749 n750 xs751 n752 n753 l754 xs755 Q0 := by
  rw [haystackref02_Append_l5_unf, haystackref02_Append_l5_unf]
  unfold haystackref02_Append_l5_B
  exact haystackref02_Append_l5_L_push h0 NR n748 n749 n750 xs751 n752 n753 l754 xs755

theorem haystackref02_Append_l8_T_push {R S : Type} {J : R → Option S} {r : Int → Int → Int → Int → List Int → Int → Int → Nat → List Int → Option R} {r' : Int → Int → Int → Int → List Int → Int → Int → Nat → List Int → Option S} (hr : ∀ x0 x1 x2 x3 x4 x5 x6 x7 x8, (r x0 x1 x2 x3 x4 x5 x6 x7 x8).bind J = r' x0 x1 x2 x3 x4 x5 x6 x7 x8) (n766 : Int) (n767 : Int) (n768 : Int) (n769 : Int) (xs770 : List Int) (n771 : Int) (n772 : Int) (l773 : Nat) (xs774 : List Int) {K0 : Int → Int → Nat → List Int → Option R} {Q0 : Int → Int → Nat → List Int → Option S} (h0 : ∀ x0 x1 x2 x3, (K0 x0 x1 x2 x3).bind J = Q0 x0 x1 x2 x3) : (haystackref02_Append_l8_T r n766 n767 n768 n769 xs770 n771 n772 l773 xs774 K0).bind J = haystackref02_Append_l8_T r' n766 n767 n768 n769 xs770 n771 n772 l773 xs774 Q0 := by
  unfold haystackref02_Append_l8_T
  repeat' first | intro _ | with_reducible exact h0 _ _ _ _ | with_reducible apply sel_push | with_reducible apply letV_push | with_reducible apply haystackref02_put_r_push | with_reducible exact none_bind' _ | with_reducible exact hr _ _ _ _ _ _ _ _ _

theorem haystackref02_Append_l8_L_push {R S : Type} {J : R → Option S} {K0 : Int → Int → Nat → List Int → Option R} {Q0 : Int → Int → Nat → List Int → Option S} (h0 : ∀ x0 x1 x2 x3, (K0 x0 x1 x2 x3).bind J = Q0 x0 x1 x2 x3) : ∀ (N : Nat) (n766 : Int) (n767 : Int) (n768 : Int) (n769 : Int) (xs770 : List Int) (n771 : Int) (n772 : Int) (l773 : Nat) (xs774 : List Int), (haystackref02_Append_l8_L K0 N n766 n767 n768 n769 xs770 n771 n772 l773 xs774).bind J = haystackref02_Append_l8_L Q0 N n766 n767 n768 n769 xs770 n771 n772 l773 xs774
  | 0, _, _, _, _, _, _, _, _, _ => rfl
  | N + 1, n766, n767, n768, n769, xs770, n771, n772, l773, xs774 => haystackref02_Append_l8_T_push (haystackref02_Append_l8_L_push h0 N) n766 n767 n768 n769 xs770 n771 n772 l773 xs774 h0

theorem haystackref02_Append_l8_push {R S : Type} {J : R → Option S} (n766 : Int) (n767 : Int) (n768 : Int) (n769 : Int) (xs770 : List Int) (n771 : Int) (n772 : Int) (l773 : Nat) (xs774 : List Int) {K0 : Int → Int → Nat → List Int → Option R} {Q0 : Int → Int → Nat → List Int → Option S} (h0 : ∀ x0 x1 x2 x3, (K0 x0 x1 x2 x3).bind J = Q0 x0 x1 x2 x3) : (haystackref02_Append_l8 n766 n767 n768 n769 xs770 n771 n772 l773 xs774 K0).bind J = haystackref02_Append_l8 n766 n767 n768 n769 xs770 n771 n772 l773 xs774 Q0 := by
  rw [haystackref02_Append_l8_unf, haystackref02_Append_l8_unf]
  unfold haystackref02_Append_l8_B
  exact haystackref02_Append_l8_L_push h0 NR n766 n767 n768 n769 xs770 n771 n772 l773 xs774

theorem haystackref02_Append_j4_push {R S : Type} {J : R → Option S} (n743 : Int) (n744 : Int) (n745 : Int) (xs746 : List Int) (n747 : Int) {K0 : Int → Int → Nat → List Int → Option R} {Q0 : Int → Int → Nat → List Int → Option S} (h0 : ∀ x0 x1 x2 x3, (K0 x0 x1 x2 x3).bind J = Q0 x0 x1 x2 x3) : (haystackref02_Append_j4 n743 n744 n745 xs746 n747 K0).bind J = haystackref02_Append_j4 n743 n744 n745 xs746 n747 Q0 := by
  rw [haystackref02_Append_j4_unf, haystackref02_Append_j4_unf]
  unfold haystackref02_Append_j4_B
  repeat' first | intro _ | with_reducible exact h0 _ _ _ _ | with_reducible apply sel_push | with_reducible apply letV_push | with_reducible apply haystackref02_Append_l5_push | with_reducible apply haystackref02_Append_l8_push | with_reducible exact none_bind' _

theorem haystackref02_Append_push {R S : Type} {J : R → Option S} (n724 : Int) (xs725 : List Int) (n726 : Int) (n727 : Int) {K0 : Int → List Int → Int → Option R} {Q0 : Int → List Int → Int → Option S} (h0 : ∀ x0 x1 x2, (K0 x0 x1 x2).bind J = Q0 x0 x1 x2) : (haystackref02_Append n724 xs725 n726 n727 K0).bind J = haystackref02_Append n724 xs725 n726 n727 Q0 := by
  rw [haystackref02_Append_unf, haystackref02_Append_unf]
  unfold haystackref02_Append_B
  repeat' first | intro _ | with_reducible exact h0 _ _ _ | with_reducible apply sel_push | with_reducible apply letV_push | with_reducible apply haystackref02_Check_push | with_reducible apply haystackref02_Append_j3_push | with_reducible apply haystackref02_Append_j4_push | with_reducible exact none_bind' _

theorem bits_Join_j3_1_push {R S : Type} {J : R → Option S} (b830 : Bool) (xs831 : List Int) (n832 : Int) (l833 : Nat) (n834 : Int) (xs835 : List Int) (n836 : Int) {K0 : Int → List Int → Int → Nat → Option R} {Q0 : Int → List Int → Int → Nat → Option S} (h0 : ∀ x0 x1 x2 x3, (K0 x0 x1 x2 x3).bind J = Q0 x0 x1 x2 x3) {K1 : List Int → Int → Nat → Int → List Int → Int → Option R} {Q1 : List Int → Int → Nat → Int → List Int → Int → Option S} (h1 : ∀ x0 x1 x2 x3 x4 x5, (K1 x0 x1 x2 x3 x4 x5).bind J = Q1 x0 x1 x2 x3 x4 x5) : (bits_Join_j3_1 b830 xs831 n832 l833 n834 xs835 n836 K0 K1).bind J = bits_Join_j3_1 b830 xs831 n832 l833 n834 xs835 n836 Q0 Q1 := by
  rw [bits_Join_j3_1_unf, bits_Join_j3_1_unf]
  unfold bits_Join_j3_1_B
  repeat' first | intro _ | with_reducible exact h0 _ _ _ _ | with_reducible exact h1 _ _ _ _ _ _ | with_reducible apply sel_push | with_reducible apply letV_push | with_reducible exact none_bind' _

theorem bits_Join_l6_1_T_push {R S : Type} {J : R → Option S} {r : List Int → Int → Int → List Int → Int → Nat → Int → Int → Nat → List Int → Option R} {r' : List Int → Int → Int → List Int → Int → Nat → Int → Int → Nat → List Int → Option S} (hr : ∀ x0 x1 x2 x3 x4 x5 x6 x7 x8 x9, (r x0 x1 x2 x3 x4 x5 x6 x7 x8 x9).bind J = r' x0 x1 x2 x3 x4 x5 x6 x7 x8 x9) (xs857 : List Int) (n858 : Int) (n859 : Int) (xs860 : List Int) (n861 : Int) (l862 : Nat) (n863 : Int) (n864 : Int) (l865 : Nat) (xs866 : List Int) {K0 : List Int → Int → Int → Nat → List Int → Option R} {Q0 : List Int → Int → Int → Nat → List Int → Option S} (h0 : ∀ x0 x1 x2 x3 x4, (K0 x0 x1 x2 x3 x4).bind J = Q0 x0 x1 x2 x3 x4) : (bits_Join_l6_1_T r xs857 n858 n859 xs860 n861 l862 n863 n864 l865 xs866 K0).bind J = bits_Join_l6_1_T r' xs857 n858 n859 xs860 n861 l862 n863 n864 l865 xs866 Q0 := by
  unfold bits_Join_l6_1_T
  repeat' first | intro _ | with_reducible exact h0 _ _ _ _ _ | with_reducible apply sel_push | with_reducible apply letV_push | with_reducible apply bits_fill_r_push | with_reducible exact none_bind' _ | with_reducible exact hr _ _ _ _ _ _ _ _ _ _

theorem bits_Join_l6_1_L_push {R S : Type} {J : R → Option S} {K0 : List Int → Int → Int → Nat → List Int → Option R} {Q0 : List Int → Int → Int → Nat → List Int → Option S} (h0 : ∀ x0 x1 x2 x3 x4, (K0 x0 x1 x2 x3 x4).bind J = Q0 x0 x1 x2 x3 x4) : ∀ (N : Nat) (xs857 : List Int) (n858 : Int) (n859 : Int) (xs860 : List Int) (n861 : Int) (l862 : Nat) (n863 : Int) (n864 : Int) (l865 : Nat) (xs866 : List Int), (bits_Join_l6_1_L K0 N xs857 n858 n859 xs860 n861 l862 n863 n864 l865 xs866).bind J = bits_Join_l6_1_L Q0 N xs857 n858 n859 xs860 n861 l862 n863 n864 l865 xs866
  | 0, _, _, _, _, _, _, _, _, _, _ => rfl
  | N + 1, xs857, n858, n859, xs860, n861, l862, n863, n864, l865, xs866 => bits_Join_l6_1_T_push (bits_Join_l6_1_L_push h0 N) xs857 n858 n859 xs860 n861 l862 n863 n864 l865 xs866 h0

theorem bits_Join_l6_1_push {R S : Type} {J : R → Option S} (xs857 : List Int) (n858 : Int) (n859 : Int) (xs860 : List Int) (n861 : Int) (l862 : Nat) (n863 : Int) (n864 : Int) (l865 : Nat) (xs866 : List Int) {K0 : List Int → Int → Int → Nat → List Int → Option R} {Q0 : List Int → Int → Int → Nat → List Int → Option S} (h0 : ∀ x0 x1 x2 x3 x4, (K0 x0 x1 x2 x3 x4).bind J = Q0 x0 x1 x2 x3 x4) : (bits_Join_l6_1 xs857 n858 n859 xs860 n861 l862 n863 n864 l865 xs866 K0).bind J = bits_Join_l6_1 xs857 n858 n859 xs860 n861 l862 n863 n864 l865 xs866 Q0 := by
  rw [bits_Join_l6_1_unf, bits_Join_l6_1_unf]
  unfold bits_Join_l6_1_B
  exact bits_Join_l6_1_L_push h0 NR xs857 n858 n859 xs860 n861 l862 n863 n864 l865 xs866

theorem bits_Join_j4_1_push {R S : Type} {J : R → Option S} (xs847 : List Int) (n848 : Int) (l849 : Nat) (n850 : Int) (xs851 : List Int) (n852 : Int) {K0 : Int → List Int → Int → Nat → List Int → Option R} {Q0 : Int → List Int → Int → Nat → List Int → Option S} (h0 : ∀ x0 x1 x2 x3 x4, (K0 x0 x1 x2 x3 x4).bind J = Q0 x0 x1 x2 x3 x4) : (bits_Join_j4_1 xs847 n848 l849 n850 xs851 n852 K0).bind J = bits_Join_j4_1 xs847 n848 l849 n850 xs851 n852 Q0 := by
  rw [bits_Join_j4_1_unf, bits_Join_j4_1_unf]
  unfold bits_Join_j4_1_B
  repeat' first | intro _ | with_reducible exact h0 _ _ _ _ _ | with_reducible apply sel_push | with_reducible apply letV_push | with_reducible apply bits_own_r_1_push | with_reducible apply bits_Join_l6_1_push | with_reducible exact none_bind' _

theorem bits_Join_r_push {R S : Type} {J : R → Option S} (n823 : Int) (l824 : Nat) (n825 : Int) (xs826 : List Int) (xs827 : List Int) {K0 : Int → Nat → Int → List Int → Option R} {Q0 : Int → Nat → Int → List Int → Option S} (h0 : ∀ x0 x1 x2 x3, (K0 x0 x1 x2 x3).bind J = Q0 x0 x1 x2 x3) {K1 : Int → Nat → Int → List Int → List Int → Option R} {Q1 : Int → Nat → Int → List Int → List Int → Option S} (h1 : ∀ x0 x1 x2 x3 x4, (K1 x0 x1 x2 x3 x4).bind J = Q1 x0 x1 x2 x3 x4) : (bits_Join_r n823 l824 n825 xs826 xs827 K0 K1).bind J = bits_Join_r n823 l824 n825 xs826 xs827 Q0 Q1 := by
  rw [bits_Join_r_unf, bits_Join_r_unf]
  unfold bits_Join_r_B
  repeat' first | intro _ | with_reducible exact h0 _ _ _ _ | with_reducible exact h1 _ _ _ _ _ | with_reducible apply sel_push | with_reducible apply letV_push | with_reducible apply bits_Check_r_push | with_reducible apply bits_Join_j3_1_push | with_reducible apply bits_Join_j4_1_push | with_reducible apply bits_Check_push | with_reducible exact none_bind' _

theorem haystackref02_Join_j3_push {R S : Type} {J : R → Option S} (b918 : Bool) (n919 : Int) (xs920 : List Int) (n921 : Int) (xs922 : List Int) (n923 : Int) {K0 : Int → Int → List Int → Option R} {Q0 : Int → Int → List Int → Option S} (h0 : ∀ x0 x1 x2, (K0 x0 x1 x2).bind J = Q0 x0 x1 x2) {K1 : Int → List Int → Int → List Int → Int → Option R} {Q1 : Int → List Int → Int → List Int → Int → Option S} (h1 : ∀ x0 x1 x2 x3 x4, (K1 x0 x1 x2 x3 x4).bind J = Q1 x0 x1 x2 x3 x4) : (haystackref02_Join_j3 b918 n919 xs920 n921 xs922 n923 K0 K1).bind J = haystackref02_Join_j3 b918 n919 xs920 n921 xs922 n923 Q0 Q1 := by
  rw [haystackref02_Join_j3_unf, haystackref02_Join_j3_unf]
  unfold haystackref02_Join_j3_B
  repeat' first | intro _ | with_reducible exact h0 _ _ _ | with_reducible exact h1 _ _ _ _ _ | with_reducible apply sel_push | with_reducible apply letV_push | with_reducible exact none_bind' _

theorem haystackref02_At_push {R S : Type} {J : R → Option S} (n942 : Int) (xs943 : List Int) (n944 : Int) {K0 : Bool → Option R} {Q0 : Bool → Option S} (h0 : ∀ x0, (K0 x0).bind J = Q0 x0) : (haystackref02_At n942 xs943 n944 K0).bind J = haystackref02_At n942 xs943 n944 Q0 := by
  rw [haystackref02_At_unf, haystackref02_At_unf]
  unfold haystackref02_At_B
  repeat' first | intro _ | with_reducible exact h0 _ | with_reducible apply sel_push | with_reducible apply letV_push | with_reducible exact none_bind' _

theorem haystackref02_Bools_l4_1_T_push {R S : Type} {J : R → Option S} {r : Nat → Int → Int → List Int → List Bool → Option R} {r' : Nat → Int → Int → List Int → List Bool → Option S} (hr : ∀ x0 x1 x2 x3 x4, (r x0 x1 x2 x3 x4).bind J = r' x0 x1 x2 x3 x4) (l948 : Nat) (n949 : Int) (n950 : Int) (xs951 : List Int) (bs952 : List Bool) {K0 : Nat → List Bool → Option R} {Q0 : Nat → List Bool → Option S} (h0 : ∀ x0 x1, (K0 x0 x1).bind J = Q0 x0 x1) : (haystackref02_Bools_l4_1_T r l948 n949 n950 xs951 bs952 K0).bind J = haystackref02_Bools_l4_1_T r' l948 n949 n950 xs951 bs952 Q0 := by
  unfold haystackref02_Bools_l4_1_T
  repeat' first | intro _ | with_reducible exact h0 _ _ | with_reducible apply sel_push | with_reducible apply letV_push | with_reducible apply haystackref02_At_push | with_reducible exact none_bind' _ | with_reducible exact hr _ _ _ _ _

theorem haystackref02_Bools_l4_1_L_push {R S : Type} {J : R → Option S} {K0 : Nat → List Bool → Option R} {Q0 : Nat → List Bool → Option S} (h0 : ∀ x0 x1, (K0 x0 x1).bind J = Q0 x0 x1) : ∀ (N : Nat) (l948 : Nat) (n949 : Int) (n950 : Int) (xs951 : List Int) (bs952 : List Bool), (haystackref02_Bools_l4_1_L K0 N l948 n949 n950 xs951 bs952).bind J = haystackref02_Bools_l4_1_L Q0 N l948 n949 n950 xs951 bs952
  | 0, _, _, _, _, _ => rfl
  | N + 1, l948, n949, n950, xs951, bs952 => haystackref02_Bools_l4_1_T_push (haystackref02_Bools_l4_1_L_push h0 N) l948 n949 n950 xs951 bs952 h0

theorem haystackref02_Bools_l4_1_push {R S : Type} {J : R → Option S} (l948 : Nat) (n949 : Int) (n950 : Int) (xs951 : List Int) (bs952 : List Bool) {K0 : Nat → List Bool → Option R} {Q0 : Nat → List Bool → Option S} (h0 : ∀ x0 x1, (K0 x0 x1).bind J = Q0 x0 x1) : (haystackref02_Bools_l4_1 l948 n949 n950 xs951 bs952 K0).bind J = haystackref02_Bools_l4_1 l948 n949 n950 xs951 bs952 Q0 := by
  rw [haystackref02_Bools_l4_1_unf, haystackref02_Bools_l4_1_unf]
  unfold haystackref02_Bools_l4_1_B
  exact haystackref02_Bools_l4_1_L_push h0 NR l948 n949 n950 xs951 bs952

theorem haystackref02_Bools_l4_T_push {R S : Type} {J : R → Option S} {r : Int → Int → List Int → Option R} {r' : Int → Int → List Int → Option S} (hr : ∀ x0 x1 x2, (r x0 x1 x2).bind J = r' x0 x1 x2) {r0 : Nat → Int → Int → List Int → List Bool → Option R} {r0' : Nat → Int → Int → List Int → List Bool → Option S} (hr0 : ∀ x0 x1 x2 x3 x4, (r0 x0 x1 x2 x3 x4).bind J = r0' x0 x1 x2 x3 x4) (n939 : Int) (n940 : Int) (xs941 : List Int) {K0 : Nat → List Bool → Option R} {Q0 : Nat → List Bool → Option S} (h0 : ∀ x0 x1, (K0 x0 x1).bind J = Q0 x0 x1) {K1 : Unit → Option R} {Q1 : Unit → Option S} (h1 : ∀ u, (K1 u).bind J = Q1 u) : (haystackref02_Bools_l4_T r r0 n939 n940 xs941 K0 K1).bind J = haystackref02_Bools_l4_T r' r0' n939 n940 xs941 Q0 Q1 := by
  unfold haystackref02_Bools_l4_T
  repeat' first | intro _ | with_reducible exact h0 _ _ | with_reducible exact h1 _ | with_reducible apply sel_push | with_reducible apply letV_push | with_reducible apply haystackref02_At_push | with_reducible apply haystackref02_Bools_l4_1_push | with_reducible exact none_bind' _ | with_reducible exact hr _ _ _ | with_reducible exact hr0 _ _ _ _ _

theorem haystackref02_Bools_l4_L_push {R S : Type} {J : R → Option S} {K0 : Nat → List Bool → Option R} {Q0 : Nat → List Bool → Option S} (h0 : ∀ x0 x1, (K0 x0 x1).bind J = Q0 x0 x1) {K1 : Unit → Option R} {Q1 : Unit → Option S} (h1 : ∀ u, (K1 u).bind J = Q1 u) : ∀ (N : Nat) (n939 : Int) (n940 : Int) (xs941 : List Int), (haystackref02_Bools_l4_L K0 K1 N n939 n940 xs941).bind J = haystackref02_Bools_l4_L Q0 Q1 N n939 n940 xs941
  | 0, _, _, _ => rfl
  | N + 1, n939, n940, xs941 => haystackref02_Bools_l4_T_push (haystackref02_Bools_l4_L_push h0 h1 N) (haystackref02_Bools_l4_1_L_push h0 N) n939 n940 xs941 h0 h1

theorem haystackref02_Bools_l4_push {R S : Type} {J : R → Option S} (n939 : Int) (n940 : Int) (xs941 : List Int) {K0 : Nat → List Bool → Option R} {Q0 : Nat → List Bool → Option S} (h0 : ∀ x0 x1, (K0 x0 x1).bind J = Q0 x0 x1) {K1 : Unit → Option R} {Q1 : Unit → Option S} (h1 : ∀ u, (K1 u).bind J = Q1 u) : (haystackref02_Bools_l4 n939 n940 xs941 K0 K1).bind J = haystackref02_Bools_l4 n939 n940 xs941 Q0 Q1 := by
  rw [haystackref02_Bools_l4_unf, haystackref02_Bools_l4_unf]
  unfold haystackref02_Bools_l4_B
  exact haystackref02_Bools_l4_L_push h0 h1 NR n939 n940 xs941

theorem haystackref02_Bools_r_push {R S : Type} {J : R → Option S} (n937 : Int) (xs938 : List Int) {K0 : Nat → List Bool → Option R} {Q0 : Nat → List Bool → Option S} (h0 : ∀ x0 x1, (K0 x0 x1).bind J = Q0 x0 x1) {K1 : Unit → Option R} {Q1 : Unit → Option S} (h1 : ∀ u, (K1 u).bind J = Q1 u) : (haystackref02_Bools_r n937 xs938 K0 K1).bind J = haystackref02_Bools_r n937 xs938 Q0 Q1 := by
  rw [haystackref02_Bools_r_unf, haystackref02_Bools_r_unf]
  unfold haystackref02_Bools_r_B
  repeat' first | intro _ | with_reducible exact h0 _ _ | with_reducible exact h1 _ | with_reducible apply sel_push | with_reducible apply letV_push | with_reducible apply haystackref02_Bools_l4_push | with_reducible exact none_bind' _

theorem haystackref02_New_j3_push {R S : Type} {J : R → Option S} (n966 : Int) (b967 : Bool) (n968 : Int) {K0 : Int → Int → Option R} {Q0 : Int → Int → Option S} (h0 : ∀ x0 x1, (K0 x0 x1).bind J = Q0 x0 x1) {K1 : Int → Int → Option R} {Q1 : Int → Int → Option S} (h1 : ∀ x0 x1, (K1 x0 x1).bind J = Q1 x0 x1) : (haystackref02_New_j3 n966 b967 n968 K0 K1).bind J = haystackref02_New_j3 n966 b967 n968 Q0 Q1 := by
  rw [haystackref02_New_j3_unf, haystackref02_New_j3_unf]
  unfold haystackref02_New_j3_B
  repeat' first | intro _ | with_reducible exact h0 _ _ | with_reducible exact h1 _ _ | with_reducible apply sel_push | with_reducible apply letV_push | with_reducible exact none_bind' _

theorem haystackref02_New_j4_push {R S : Type} {J : R → Option S} (n973 : Int) (n974 : Int) {K0 : Int → Int → Nat → List Int → Option R} {Q0 : Int → Int → Nat → List Int → Option S} (h0 : ∀ x0 x1 x2 x3, (K0 x0 x1 x2 x3).bind J = Q0 x0 x1 x2 x3) : (haystackref02_New_j4 n973 n974 K0).bind J = haystackref02_New_j4 n973 n974 Q0 := by
  rw [haystackref02_New_j4_unf, haystackref02_New_j4_unf]
  unfold haystackref02_New_j4_B
  repeat' first | intro _ | with_reducible exact h0 _ _ _ _ | with_reducible apply sel_push | with_reducible apply letV_push | with_reducible apply haystackref02_Words_push | with_reducible exact none_bind' _

theorem haystackref02_New_r_push {R S : Type} {J : R → Option S} (n965 : Int) {K0 : Int → Int → Option R} {Q0 : Int → Int → Option S} (h0 : ∀ x0 x1, (K0 x0 x1).bind J = Q0 x0 x1) {K1 : Int → Nat → Int → List Int → Option R} {Q1 : Int → Nat → Int → List Int → Option S} (h1 : ∀ x0 x1 x2 x3, (K1 x0 x1 x2 x3).bind J = Q1 x0 x1 x2 x3) : (haystackref02_New_r n965 K0 K1).bind J = haystackref02_New_r n965 Q0 Q1 := by
  rw [haystackref02_New_r_unf, haystackref02_New_r_unf]
  unfold haystackref02_New_r_B
  repeat' first | intro _ | with_reducible exact h0 _ _ | with_reducible exact h1 _ _ _ _ | with_reducible apply sel_push | with_reducible apply letV_push | with_reducible apply haystackref02_New_j3_push | with_reducible apply haystackref02_New_j4_push | with_reducible exact none_bind' _

theorem haystackref02_From_l4_T_push {R S : Type} {J : R → Option S} {r : Nat → Int → Int → Int → Int → Option R} {r' : Nat → Int → Int → Int → Int → Option S} (hr : ∀ x0 x1 x2 x3 x4, (r x0 x1 x2 x3 x4).bind J = r' x0 x1 x2 x3 x4) (l991 : Nat) (n992 : Int) (n993 : Int) (n994 : Int) (n995 : Int) {K0 : Int → Int → Int → Option R} {Q0 : Int → Int → Int → Option S} (h0 : ∀ x0 x1 x2, (K0 x0 x1 x2).bind J = Q0 x0 x1 x2) : (haystackref02_From_l4_T r l991 n992 n993 n994 n995 K0).bind J = haystackref02_From_l4_T r' l991 n992 n993 n994 n995 Q0 := by
  unfold haystackref02_From_l4_T
  repeat' first | intro _ | with_reducible exact h0 _ _ _ | with_reducible apply sel_push | with_reducible apply letV_push | with_reducible exact none_bind' _ | with_reducible exact hr _ _ _ _ _

theorem haystackref02_From_l4_L_push {R S : Type} {J : R → Option S} {K0 : Int → Int → Int → Option R} {Q0 : Int → Int → Int → Option S} (h0 : ∀ x0 x1 x2, (K0 x0 x1 x2).bind J = Q0 x0 x1 x2) : ∀ (N : Nat) (l991 : Nat) (n992 : Int) (n993 : Int) (n994 : Int) (n995 : Int), (haystackref02_From_l4_L K0 N l991 n992 n993 n994 n995).bind J = haystackref02_From_l4_L Q0 N l991 n992 n993 n994 n995
  | 0, _, _, _, _, _ => rfl
  | N + 1, l991, n992, n993, n994, n995 => haystackref02_From_l4_T_push (haystackref02_From_l4_L_push h0 N) l991 n992 n993 n994 n995 h0

theorem haystackref02_From_l4_push {R S : Type} {J : R → Option S} (l991 : Nat) (n992 : Int) (n993 : Int) (n994 : Int) (n995 : Int) {K0 : Int → Int → Int → Option R} {Q0 : Int → Int → Int → Option S} (h0 : ∀ x0 x1 x2, (K0 x0 x1 x2).bind J = Q0 x0 x1 x2) : (haystackref02_From_l4 l991 n992 n993 n994 n995 K0).bind J = haystackref02_From_l4 l991 n992 n993 n994 n995 Q0 := by
  rw [haystackref02_From_l4_unf, haystackref02_From_l4_unf]
  unfold haystackref02_From_l4_B
  exact haystackref02_From_l4_L_push h0 NR l991 n992 n993 n994 n995

theorem haystackref02_From_l4_1_T_push {R S : Type} {J : R → Option S} {r : Nat → Int → Int → Int → Int → Nat → List Int → Option R} {r' : Nat → Int → Int → Int → Int → Nat → List Int → Option S} (hr : ∀ x0 x1 x2 x3 x4 x5 x6, (r x0 x1 x2 x3 x4 x5 x6).bind J = r' x0 x1 x2 x3 x4 x5 x6) (l1003 : Nat) (n1004 : Int) (n1005 : Int) (n1006 : Int) (n1007 : Int) (l1008 : Nat) (xs1009 : List Int) {K0 : Int → Int → Int → Nat → List Int → Option R} {Q0 : Int → Int → Int → Nat → List Int → Option S} (h0 : ∀ x0 x1 x2 x3 x4, (K0 x0 x1 x2 x3 x4).bind J = Q0 x0 x1 x2 x3 x4) : (haystackref02_From_l4_1_T r l1003 n1004 n1005 n1006 n1007 l1008 xs1009 K0).bind J = haystackref02_From_l4_1_T r' l1003 n1004 n1005 n1006 n1007 l1008 xs1009 Q0 := by
  unfold haystackref02_From_l4_1_T
  repeat' first | intro _ | with_reducible exact h0 _ _ _ _ _ | with_reducible apply sel_push | with_reducible apply letV_push | with_reducible exact none_bind' _ | with_reducible exact hr _ _ _ _ _ _ _

theorem haystackref02_From_l4_1_L_push {R S : Type} {J : R → Option S} {K0 : Int → Int → Int → Nat → List Int → Option R} {Q0 : Int → Int → Int → Nat → List Int → Option S} (h0 : ∀ x0 x1 x2 x3 x4, (K0 x0 x1 x2 x3 x4).bind J = Q0 x0 x1 x2 x3 x4) : ∀ (N : Nat) (l1003 : Nat) (n1004 : Int) (n1005 : Int) (n1006 : Int) (n1007 : Int) (l1008 : Nat) (xs1009 : List Int), (haystackref02_From_l4_1_L K0 N l1003 n1004 n1005 n1006 n1007 l1008 xs1009).bind J = haystackref02_From_l4_1_L Q0 N l1003 n1004 n1005 n1006 n1007 l1008 xs1009
  | 0, _, _, _, _, _, _, _ => rfl
  | N + 1, l1003, n1004, n1005, n1006, n1007, l1008, xs1009 => haystackref02_From_l4_1_T_push (haystackref02_From_l4_1_L_push h0 N) l1003 n1004 n1005 n1006 n1007 l1008 xs1009 h0

theorem haystackref02_From_l4_1_push {R S : Type} {J : R → Option S} (l1003 : Nat) (n1004 : Int) (n1005 : Int) (n1006 : Int) (n1007 : Int) (l1008 : Nat) (xs1009 : List Int) {K0 : Int → Int → Int → Nat → List Int → Option R} {Q0 : Int → Int → Int → Nat → List Int → Option S} (h0 : ∀ x0 x1 x2 x3 x4, (K0 x0 x1 x2 x3 x4).bind J = Q0 x0 x1 x2 x3 x4) : (haystackref02_From_l4_1 l1003 n1004 n1005 n1006 n1007 l1008 xs1009 K0).bind J = haystackref02_From_l4_1 l1003 n1004 n1005 n1006 n1007 l1008 xs1009 Q0 := by
  rw [haystackref02_From_l4_1_unf, haystackref02_From_l4_1_unf]
  unfold haystackref02_From_l4_1_B
  exact haystackref02_From_l4_1_L_push h0 NR l1003 n1004 n1005 n1006 n1007 l1008 xs1009

theorem haystackref02_From_r_push {R S : Type} {J : R → Option S} (l964 : Nat) {K0 : Int → Int → Option R} {Q0 : Int → Int → Option S} (h0 : ∀ x0 x1, (K0 x0 x1).bind J = Q0 x0 x1) {K1 : Int → Nat → Int → List Int → Option R} {Q1 : Int → Nat → Int → List Int → Option S} (h1 : ∀ x0 x1 x2 x3, (K1 x0 x1 x2 x3).bind J = Q1 x0 x1 x2 x3) : (haystackref02_From_r l964 K0 K1).bind J = haystackref02_From_r l964 Q0 Q1 := by
  rw [haystackref02_From_r_unf, haystackref02_From_r_unf]
  unfold haystackref02_From_r_B
  repeat' first | intro _ | with_reducible exact h0 _ _ | with_reducible exact h1 _ _ _ _ | with_reducible apply sel_push | with_reducible apply letV_push | with_reducible apply haystackref02_New_r_push | with_reducible apply haystackref02_From_l4_push | with_reducible apply haystackref02_From_l4_1_push | with_reducible exact none_bind' _

theorem haystackref02_Join_j4_push {R S : Type} {J : R → Option S} (n932 : Int) (xs933 : List Int) (n934 : Int) (xs935 : List Int) (n936 : Int) {K0 : Int → Int → Option R} {Q0 : Int → Int → Option S} (h0 : ∀ x0 x1, (K0 x0 x1).bind J = Q0 x0 x1) : (haystackref02_Join_j4 n932 xs933 n934 xs935 n936 K0).bind J = haystackref02_Join_j4 n932 xs933 n934 xs935 n936 Q0 := by
  rw [haystackref02_Join_j4_unf, haystackref02_Join_j4_unf]
  unfold haystackref02_Join_j4_B
  repeat' first | intro _ | with_reducible exact h0 _ _ | with_reducible apply sel_push | with_reducible apply letV_push | with_reducible apply haystackref02_Bools_r_push | with_reducible apply haystackref02_From_r_push | with_reducible exact none_bind' _

theorem haystackref02_Join_push {R S : Type} {J : R → Option S} (n913 : Int) (xs914 : List Int) (n915 : Int) (xs916 : List Int) {K0 : Int → List Int → Int → Option R} {Q0 : Int → List Int → Int → Option S} (h0 : ∀ x0 x1 x2, (K0 x0 x1 x2).bind J = Q0 x0 x1 x2) : (haystackref02_Join n913 xs914 n915 xs916 K0).bind J = haystackref02_Join n913 xs914 n915 xs916 Q0 := by
  rw [haystackref02_Join_unf, haystackref02_Join_unf]
  unfold haystackref02_Join_B
  repeat' first | intro _ | with_reducible exact h0 _ _ _ | with_reducible apply sel_push | with_reducible apply letV_push | with_reducible apply haystackref02_Check_push | with_reducible apply haystackref02_Join_j3_push | with_reducible apply haystackref02_Join_j4_push | with_reducible exact none_bind' _

theorem haystacklaw02_BitsBecome_j4_push {R S : Type} {J : R → Option S} (n505 : Int) (n506 : Int) (n507 : Int) (n508 : Int) (xs509 : List Int) (n510 : Int) (xs511 : List Int) {K0 : Bool → Option R} {Q0 : Bool → Option S} (h0 : ∀ x0, (K0 x0).bind J = Q0 x0) : (haystacklaw02_BitsBecome_j4 n505 n506 n507 n508 xs509 n510 xs511 K0).bind J = haystacklaw02_BitsBecome_j4 n505 n506 n507 n508 xs509 n510 xs511 Q0 := by
  rw [haystacklaw02_BitsBecome_j4_unf, haystacklaw02_BitsBecome_j4_unf]
  unfold haystacklaw02_BitsBecome_j4_B
  repeat' first | intro _ | with_reducible exact h0 _ | with_reducible apply sel_push | with_reducible apply letV_push | with_reducible apply bits_Set_r_push | with_reducible apply haystackref02_Set_push | with_reducible apply bits_Append_r_push | with_reducible apply haystackref02_Append_push | with_reducible apply bits_Join_r_push | with_reducible apply haystackref02_Join_push | with_reducible apply haystackref02_Same_r_push | with_reducible apply haystacklaw02_heads_push | with_reducible exact none_bind' _

theorem haystacklaw02_BitsBecome_push {R S : Type} {J : R → Option S} (n494 : Int) (xs495 : List Int) (n496 : Int) (xs497 : List Int) (n498 : Int) (n499 : Int) (n500 : Int) {K0 : Bool → Option R} {Q0 : Bool → Option S} (h0 : ∀ x0, (K0 x0).bind J = Q0 x0) : (haystacklaw02_BitsBecome n494 xs495 n496 xs497 n498 n499 n500 K0).bind J = haystacklaw02_BitsBecome n494 xs495 n496 xs497 n498 n499 n500 Q0 := by
  rw [haystacklaw02_BitsBecome_unf, haystacklaw02_BitsBecome_unf]
  unfold haystacklaw02_BitsBecome_B
  repeat' first | intro _ | with_reducible exact h0 _ | with_reducible apply sel_push | with_reducible apply letV_push | with_reducible apply haystacklaw02_small_push | with_reducible apply haystacklaw02_heads_push | with_reducible apply haystacklaw02_BitsBecome_j4_push | with_reducible exact none_bind' _

theorem haystacklaw02_BitsBack_j9_push {R S : Type} {J : R → Option S} (n1225 : Int) (n1226 : Int) (n1227 : Int) (n1228 : Int) (n1229 : Int) (n1230 : Int) (n1231 : Int) (xs1232 : List Int) (n1233 : Int) (xs1234 : List Int) {K0 : Bool → Option R} {Q0 : Bool → Option S} (h0 : ∀ x0, (K0 x0).bind J = Q0 x0) : (haystacklaw02_BitsBack_j9 n1225 n1226 n1227 n1228 n1229 n1230 n1231 xs1232 n1233 xs1234 K0).bind J = haystacklaw02_BitsBack_j9 n1225 n1226 n1227 n1228 n1229 n1230 n1231 xs1232 n1233 xs1234 Q0 := by
  rw [haystacklaw02_BitsBack_j9_unf, haystacklaw02_BitsBack_j9_unf]
  unfold haystacklaw02_BitsBack_j9_B
  repeat' first | intro _ | with_reducible exact h0 _ | with_reducible apply sel_push | with_reducible apply letV_push | with_reducible apply bits_Get_push | with_reducible apply bits_Check_push | with_reducible apply haystacklaw02_heads_push | with_reducible exact none_bind' _

theorem haystacklaw02_BitsBack_j4_push {R S : Type} {J : R → Option S} (n1215 : Int) (n1216 : Int) (n1217 : Int) (n1218 : Int) (xs1219 : List Int) {K0 : Bool → Option R} {Q0 : Bool → Option S} (h0 : ∀ x0, (K0 x0).bind J = Q0 x0) : (haystacklaw02_BitsBack_j4 n1215 n1216 n1217 n1218 xs1219 K0).bind J = haystacklaw02_BitsBack_j4 n1215 n1216 n1217 n1218 xs1219 Q0 := by
  rw [haystacklaw02_BitsBack_j4_unf, haystacklaw02_BitsBack_j4_unf]
  unfold haystacklaw02_BitsBack_j4_B
  repeat' first | intro _ | with_reducible exact h0 _ | with_reducible apply sel_push | with_reducible apply letV_push | with_reducible apply bits_Append_push | with_reducible apply bits_Slice_push | with_reducible apply haystacklaw02_BitsBack_j9_push | with_reducible exact none_bind' _

theorem haystacklaw02_BitsBack_push {R S : Type} {J : R → Option S} (n1204 : Int) (xs1205 : List Int) (n1206 : Int) (n1207 : Int) (n1208 : Int) {K0 : Bool → Option R} {Q0 : Bool → Option S} (h0 : ∀ x0, (K0 x0).bind J = Q0 x0) : (haystacklaw02_BitsBack n1204 xs1205 n1206 n1207 n1208 K0).bind J = haystacklaw02_BitsBack n1204 xs1205 n1206 n1207 n1208 Q0 := by
  rw [haystacklaw02_BitsBack_unf, haystacklaw02_BitsBack_unf]
  unfold haystacklaw02_BitsBack_B
  repeat' first | intro _ | with_reducible exact h0 _ | with_reducible apply sel_push | with_reducible apply letV_push | with_reducible apply haystacklaw02_small_push | with_reducible apply haystacklaw02_heads_push | with_reducible apply bits_Check_push | with_reducible apply haystacklaw02_BitsBack_j4_push | with_reducible exact none_bind' _
end Go.Proofs.Ytkjadjdcbpiebaa
