/- The functions that this seat's laws reach, as plain functions, and that they are what the program does. Printed by a program of this repo (wip/Prt). -/
import Derived.Test.YtapgclloopcbhaaDoorBase
import Derived.Test.YtapgclloopcbhaaDoorEnv
import Derived.Test.YtapgclloopcbhaaDoorEvC
import Derived.KernelRfl
namespace Go.Proofs.YtapgclloopcbhaaDoor
open Go Go.Ev
def txt__14a5d8 : ByteArray := ByteArray.mk (List.toArray (List.append (List.append [0, 1, 2, 2, 3, 3, 3, 3, 4, 4, 4, 4, 4, 4, 4, 4, 5, 5, 5, 5, 5, 5, 5, 5, 5, 5, 5, 5, 5, 5, 5, 5, 6, 6, 6, 6, 6, 6, 6, 6, 6, 6, 6, 6, 6, 6, 6, 6, 6, 6, 6, 6, 6, 6, 6, 6, 6, 6, 6, 6, 6, 6, 6, 6] [7, 7, 7, 7, 7, 7, 7, 7, 7, 7, 7, 7, 7, 7, 7, 7, 7, 7, 7, 7, 7, 7, 7, 7, 7, 7, 7, 7, 7, 7, 7, 7, 7, 7, 7, 7, 7, 7, 7, 7, 7, 7, 7, 7, 7, 7, 7, 7, 7, 7, 7, 7, 7, 7, 7, 7, 7, 7, 7, 7, 7, 7, 7, 7]) (List.append [8, 8, 8, 8, 8, 8, 8, 8, 8, 8, 8, 8, 8, 8, 8, 8, 8, 8, 8, 8, 8, 8, 8, 8, 8, 8, 8, 8, 8, 8, 8, 8, 8, 8, 8, 8, 8, 8, 8, 8, 8, 8, 8, 8, 8, 8, 8, 8, 8, 8, 8, 8, 8, 8, 8, 8, 8, 8, 8, 8, 8, 8, 8, 8] [8, 8, 8, 8, 8, 8, 8, 8, 8, 8, 8, 8, 8, 8, 8, 8, 8, 8, 8, 8, 8, 8, 8, 8, 8, 8, 8, 8, 8, 8, 8, 8, 8, 8, 8, 8, 8, 8, 8, 8, 8, 8, 8, 8, 8, 8, 8, 8, 8, 8, 8, 8, 8, 8, 8, 8, 8, 8, 8, 8, 8, 8, 8, 8])))
set_option maxRecDepth 100000


noncomputable def math_bits_Len64_j11_B {R : Type} (n16 : Int) (n17 : Int) (K0 : Int → Option R) : Option R :=
 sel (decide (0 ≤ cvtW .u8 n16))
  (sel (decide (cvtW .u8 n16 < (↑(ByteArray.size (txt__14a5d8)) : Int)))
   (letV ((↑(UInt8.toNat (List.getD (Array.toList (ByteArray.data (txt__14a5d8))) (Int.toNat (cvtW .u8 n16)) 0)) : Int)) (fun (n18 : Int) =>
   K0 (addW .i64 n17 (cvtW .i64 n18))))
   (none))
  (none)
noncomputable def math_bits_Len64_j11 {R : Type} := shut (@math_bits_Len64_j11_B R)
theorem math_bits_Len64_j11_unf {R : Type} : @math_bits_Len64_j11 R = @math_bits_Len64_j11_B R := shut_eq _

noncomputable def math_bits_Len64_j8_B {R : Type} (n14 : Int) (n15 : Int) (K0 : Int → Option R) : Option R :=
 sel (decide (256 ≤ n14))
  (math_bits_Len64_j11 (shrW .u64 n14 8) (addW .i64 n15 8)
   (fun n19 => K0 (n19)))
  (math_bits_Len64_j11 (n14) (n15)
   (fun n20 => K0 (n20)))
noncomputable def math_bits_Len64_j8 {R : Type} := shut (@math_bits_Len64_j8_B R)
theorem math_bits_Len64_j8_unf {R : Type} : @math_bits_Len64_j8 R = @math_bits_Len64_j8_B R := shut_eq _

noncomputable def math_bits_Len64_j5_B {R : Type} (n12 : Int) (n13 : Int) (K0 : Int → Option R) : Option R :=
 sel (decide (65536 ≤ n12))
  (math_bits_Len64_j8 (shrW .u64 n12 16) (addW .i64 n13 16)
   (fun n21 => K0 (n21)))
  (math_bits_Len64_j8 (n12) (n13)
   (fun n22 => K0 (n22)))
noncomputable def math_bits_Len64_j5 {R : Type} := shut (@math_bits_Len64_j5_B R)
theorem math_bits_Len64_j5_unf {R : Type} : @math_bits_Len64_j5 R = @math_bits_Len64_j5_B R := shut_eq _

noncomputable def math_bits_Len64_B {R : Type} (n11 : Int) (K0 : Int → Option R) : Option R :=
 sel (decide (4294967296 ≤ n11))
  (math_bits_Len64_j5 (shrW .u64 n11 32) (32)
   (fun n23 => K0 (n23)))
  (math_bits_Len64_j5 (n11) (0)
   (fun n24 => K0 (n24)))
noncomputable def math_bits_Len64 {R : Type} := shut (@math_bits_Len64_B R)
theorem math_bits_Len64_unf {R : Type} : @math_bits_Len64 R = @math_bits_Len64_B R := shut_eq _

noncomputable def word_Len_B {R : Type} (n10 : Int) (K0 : Int → Option R) : Option R :=
 math_bits_Len64 (n10)
  (fun n25 => K0 (n25))
noncomputable def word_Len {R : Type} := shut (@word_Len_B R)
theorem word_Len_unf {R : Type} : @word_Len R = @word_Len_B R := shut_eq _

noncomputable def ints_width_l4_T {R : Type} (rec : Int → Nat → Int → Int → List Int → Option R) (n5 : Int) (l6 : Nat) (n7 : Int) (n8 : Int) (xs9 : List Int) (K0 : Int → List Int → Option R) : Option R :=
 sel (decide (n8 < n7))
  (sel (decide (0 ≤ n8))
   (sel (decide (n8 < (↑l6 : Int)))
    (sel (decide (Int.toNat n8 < List.length xs9))
     (word_Len (List.getD xs9 (Int.toNat n8) 0)
      (fun n26 => rec (max2 n5 n26) (l6) (n7) (addW .i64 n8 1) (xs9)))
     (none))
    (none))
   (none))
  (K0 (n5) (xs9))
noncomputable def ints_width_l4_L {R : Type} (K0 : Int → List Int → Option R) : Nat → Int → Nat → Int → Int → List Int → Option R
  | 0, _, _, _, _, _ => none
  | N + 1, n5, l6, n7, n8, xs9 => ints_width_l4_T (ints_width_l4_L K0 N) n5 l6 n7 n8 xs9 K0
noncomputable def ints_width_l4_B {R : Type} (n5 : Int) (l6 : Nat) (n7 : Int) (n8 : Int) (xs9 : List Int) (K0 : Int → List Int → Option R) : Option R :=
 ints_width_l4_L K0 NR n5 l6 n7 n8 xs9
noncomputable def ints_width_l4 {R : Type} := shut (@ints_width_l4_B R)
theorem ints_width_l4_unf {R : Type} : @ints_width_l4 R = @ints_width_l4_B R := shut_eq _

noncomputable def ints_width_r_B {R : Type} (l3 : Nat) (xs4 : List Int) (K0 : Int → List Int → Option R) : Option R :=
 ints_width_l4 (1) (l3) ((↑l3 : Int)) (0) (xs4)
  (fun n27 xs28 => K0 (n27) (xs28))
noncomputable def ints_width_r {R : Type} := shut (@ints_width_r_B R)
theorem ints_width_r_unf {R : Type} : @ints_width_r R = @ints_width_r_B R := shut_eq _

noncomputable def ints_Make_j3_B {R : Type} (n34 : Int) (l35 : Nat) (b36 : Bool) (xs37 : List Int) (n38 : Int) (n39 : Int) (n40 : Int) (K0 : Int → List Int → Int → Int → Int → Option R) (K1 : Int → Nat → List Int → Int → Int → Int → Option R) : Option R :=
 sel (b36)
  (K0 (2) (xs37) (0) (0) (0))
  (K1 (n34) (l35) (xs37) (n38) (n39) (n40))
noncomputable def ints_Make_j3 {R : Type} := shut (@ints_Make_j3_B R)
theorem ints_Make_j3_unf {R : Type} : @ints_Make_j3 R = @ints_Make_j3_B R := shut_eq _

noncomputable def bits_New_j3_B {R : Type} (n59 : Int) (b60 : Bool) (n61 : Int) (K0 : Int → Int → Option R) (K1 : Int → Int → Option R) : Option R :=
 sel (b60)
  (K0 (2) (0))
  (K1 (n59) (n61))
noncomputable def bits_New_j3 {R : Type} := shut (@bits_New_j3_B R)
theorem bits_New_j3_unf {R : Type} : @bits_New_j3 R = @bits_New_j3_B R := shut_eq _

noncomputable def bits_words_B {R : Type} (n68 : Int) (K0 : Int → Option R) : Option R :=
 K0 (quoW .i64 (subW .i64 (addW .i64 n68 64) 1) 64)
noncomputable def bits_words {R : Type} := shut (@bits_words_B R)
theorem bits_words_unf {R : Type} : @bits_words R = @bits_words_B R := shut_eq _

noncomputable def bits_New_j4_B {R : Type} (n66 : Int) (_n67 : Int) (K0 : Int → Int → Nat → List Int → Option R) : Option R :=
 bits_words (n66)
  (fun n69 => sel (decide (0 ≤ n69))
   (sel (decide (n69 ≤ n69))
    (sel (decide (n69 ≤ 281474976710656))
     (sel (decide ((↑8 : Int) * n69 ≤ 281474976710656))
      (letV (List.replicate (Int.toNat n69) 0) (fun (xs70 : List Int) =>
      K0 (0) (n66) (Int.toNat n69) (xs70)))
      (none))
     (none))
    (none))
   (none))
noncomputable def bits_New_j4 {R : Type} := shut (@bits_New_j4_B R)
theorem bits_New_j4_unf {R : Type} : @bits_New_j4 R = @bits_New_j4_B R := shut_eq _

noncomputable def bits_New_B {R : Type} (n58 : Int) (K0 : Int → List Int → Int → Option R) : Option R :=
 sel (decide (n58 < 0))
  (bits_New_j3 (n58) (true) (0)
   (fun n62 n63 => K0 (n63) ([]) (n62))
   (fun n64 n65 => bits_New_j4 (n64) (n65)
    (fun n71 n72 l73 xs74 => sel (decide (l73 = List.length xs74))
     (K0 (n72) (xs74) (n71))
     (sel (decide (0 + l73 ≤ List.length xs74))
      (K0 (n72) (List.take l73 (List.drop 0 xs74)) (n71))
      (none)))))
  (bits_New_j3 (n58) (decide (1048576 < n58)) (0)
   (fun n75 n76 => K0 (n76) ([]) (n75))
   (fun n77 n78 => bits_New_j4 (n77) (n78)
    (fun n79 n80 l81 xs82 => sel (decide (l81 = List.length xs82))
     (K0 (n80) (xs82) (n79))
     (sel (decide (0 + l81 ≤ List.length xs82))
      (K0 (n80) (List.take l81 (List.drop 0 xs82)) (n79))
      (none)))))
noncomputable def bits_New {R : Type} := shut (@bits_New_B R)
theorem bits_New_unf {R : Type} : @bits_New R = @bits_New_B R := shut_eq _

noncomputable def word_Mask_B {R : Type} (n106 : Int) (K0 : Int → Option R) : Option R :=
 sel (decide (n106 ≤ 0))
  (K0 (0))
  (sel (decide (0 ≤ max2 0 (subW .i64 64 n106)))
   (K0 (shrW .u64 18446744073709551615 (max2 0 (subW .i64 64 n106))))
   (none))
noncomputable def word_Mask {R : Type} := shut (@word_Mask_B R)
theorem word_Mask_unf {R : Type} : @word_Mask R = @word_Mask_B R := shut_eq _

noncomputable def bits_Check_j4_B {R : Type} (n104 : Int) (xs105 : List Int) (K0 : Bool → Option R) : Option R :=
 sel (decide (remW n104 64 = 0))
  (K0 (true))
  (sel (decide (0 ≤ subW .i64 (↑(List.length xs105) : Int) 1))
   (sel (decide (subW .i64 (↑(List.length xs105) : Int) 1 < (↑(List.length xs105) : Int)))
    (word_Mask (remW n104 64)
     (fun n107 => letV (decide (andNotW .u64 (List.getD xs105 (Int.toNat (subW .i64 (↑(List.length xs105) : Int) 1)) 0) n107 = 0)) (fun (b108 : Bool) =>
     K0 (b108))))
    (none))
   (none))
noncomputable def bits_Check_j4 {R : Type} := shut (@bits_Check_j4_B R)
theorem bits_Check_j4_unf {R : Type} : @bits_Check_j4 R = @bits_Check_j4_B R := shut_eq _

noncomputable def bits_Check_B {R : Type} (n101 : Int) (xs102 : List Int) (K0 : Bool → Option R) : Option R :=
 sel (decide (n101 < 0))
  (K0 (false))
  (sel (decide (1048576 < n101))
   (K0 (false))
   (bits_words (n101)
    (fun n103 => sel (!decide ((↑(List.length xs102) : Int) = n103))
     (K0 (false))
     (bits_Check_j4 (n101) (xs102)
      (fun b109 => K0 (b109))))))
noncomputable def bits_Check {R : Type} := shut (@bits_Check_B R)
theorem bits_Check_unf {R : Type} : @bits_Check R = @bits_Check_B R := shut_eq _

noncomputable def bits_Append_j3_B {R : Type} (n111 : Int) (n112 : Int) (b113 : Bool) (n114 : Int) (xs115 : List Int) (n116 : Int) (K0 : Int → Int → List Int → Option R) (K1 : Int → Int → Int → List Int → Int → Option R) : Option R :=
 sel (b113)
  (K0 (2) (n114) (xs115))
  (K1 (n111) (n112) (n114) (xs115) (n116))
noncomputable def bits_Append_j3 {R : Type} := shut (@bits_Append_j3_B R)
theorem bits_Append_j3_unf {R : Type} : @bits_Append_j3 R = @bits_Append_j3_B R := shut_eq _

noncomputable def bits_own_r_B {R : Type} (_n130 : Int) (xs131 : List Int) (n132 : Int) (K0 : Int → Nat → List Int → Option R) : Option R :=
 bits_words (n132)
  (fun n133 => sel (decide (0 ≤ n133))
   (sel (decide (n133 ≤ n133))
    (sel (decide (n133 ≤ 281474976710656))
     (sel (decide ((↑8 : Int) * n133 ≤ 281474976710656))
      (letV (List.replicate (Int.toNat n133) 0) (fun (xs134 : List Int) =>
      sel (decide (0 + Int.toNat n133 ≤ List.length xs134))
       (sel (decide (List.length xs131 ≤ Int.toNat n133))
        (sel (decide (0 + List.length xs131 ≤ List.length xs134))
         (letV (List.take 0 xs134 ++ (xs131 ++ List.drop (0 + List.length xs131) xs134)) (fun (xs135 : List Int) =>
         K0 (n132) (Int.toNat n133) (xs135)))
         (none))
        (sel (decide (0 + Int.toNat n133 ≤ List.length xs131))
         (sel (decide (0 + List.length (List.take (Int.toNat n133) (List.drop 0 xs131)) ≤ List.length xs134))
          (letV (List.take 0 xs134 ++ (List.take (Int.toNat n133) (List.drop 0 xs131) ++ List.drop (0 + List.length (List.take (Int.toNat n133) (List.drop 0 xs131))) xs134)) (fun (xs136 : List Int) =>
          K0 (n132) (Int.toNat n133) (xs136)))
          (none))
         (none)))
       (none)))
      (none))
     (none))
    (none))
   (none))
noncomputable def bits_own_r {R : Type} := shut (@bits_own_r_B R)
theorem bits_own_r_unf {R : Type} : @bits_own_r R = @bits_own_r_B R := shut_eq _

noncomputable def bits_fill_j6_B {R : Type} (n153 : Int) (n154 : Int) (n155 : Int) (b156 : Bool) (xs157 : List Int) (_n158 : Int) (l159 : Nat) (K0 : List Int → Option R) : Option R :=
 sel (b156)
  (sel (decide (0 ≤ addW .i64 n154 1))
   (sel (decide (addW .i64 n154 1 < (↑l159 : Int)))
    (sel (decide (Int.toNat (addW .i64 n154 1) < List.length xs157))
     (sel (decide (0 ≤ subW .i64 64 n155))
      (sel (decide (0 ≤ addW .i64 n154 1))
       (sel (decide (addW .i64 n154 1 < (↑l159 : Int)))
        (sel (decide (Int.toNat (addW .i64 n154 1) < List.length xs157))
         (letV (List.set xs157 (Int.toNat (addW .i64 n154 1)) (orW .u64 (List.getD xs157 (Int.toNat (addW .i64 n154 1)) 0) (shrW .u64 n153 (subW .i64 64 n155)))) (fun (xs160 : List Int) =>
         K0 (xs160)))
         (none))
        (none))
       (none))
      (none))
     (none))
    (none))
   (none))
  (K0 (xs157))
noncomputable def bits_fill_j6 {R : Type} := shut (@bits_fill_j6_B R)
theorem bits_fill_j6_unf {R : Type} : @bits_fill_j6 R = @bits_fill_j6_B R := shut_eq _

noncomputable def bits_fill_j5_B {R : Type} (n147 : Int) (n148 : Int) (n149 : Int) (xs150 : List Int) (n151 : Int) (l152 : Nat) (K0 : List Int → Option R) : Option R :=
 sel (decide (0 < n149))
  (bits_fill_j6 (n147) (n148) (n149) (decide (addW .i64 n148 1 < (↑l152 : Int))) (xs150) (n151) (l152)
   (fun xs161 => K0 (xs161)))
  (bits_fill_j6 (n147) (n148) (n149) (false) (xs150) (n151) (l152)
   (fun xs162 => K0 (xs162)))
noncomputable def bits_fill_j5 {R : Type} := shut (@bits_fill_j5_B R)
theorem bits_fill_j5_unf {R : Type} : @bits_fill_j5 R = @bits_fill_j5_B R := shut_eq _

noncomputable def bits_fill_r_B {R : Type} (n141 : Int) (l142 : Nat) (n143 : Int) (n144 : Int) (xs145 : List Int) (K0 : List Int → Option R) : Option R :=
 sel (decide (quoW .i64 n143 64 < (↑l142 : Int)))
  (sel (decide (0 ≤ quoW .i64 n143 64))
   (sel (decide (quoW .i64 n143 64 < (↑l142 : Int)))
    (sel (decide (Int.toNat (quoW .i64 n143 64) < List.length xs145))
     (sel (decide (0 ≤ remW n143 64))
      (sel (decide (0 ≤ quoW .i64 n143 64))
       (sel (decide (quoW .i64 n143 64 < (↑l142 : Int)))
        (sel (decide (Int.toNat (quoW .i64 n143 64) < List.length xs145))
         (letV (List.set xs145 (Int.toNat (quoW .i64 n143 64)) (orW .u64 (List.getD xs145 (Int.toNat (quoW .i64 n143 64)) 0) (shlW .u64 n144 (remW n143 64)))) (fun (xs146 : List Int) =>
         bits_fill_j5 (n144) (quoW .i64 n143 64) (remW n143 64) (xs146) (n141) (l142)
          (fun xs163 => K0 (xs163))))
         (none))
        (none))
       (none))
      (none))
     (none))
    (none))
   (none))
  (bits_fill_j5 (n144) (quoW .i64 n143 64) (remW n143 64) (xs145) (n141) (l142)
   (fun xs164 => K0 (xs164)))
noncomputable def bits_fill_r {R : Type} := shut (@bits_fill_r_B R)
theorem bits_fill_r_unf {R : Type} : @bits_fill_r R = @bits_fill_r_B R := shut_eq _

noncomputable def bits_Append_j4_B {R : Type} (n125 : Int) (n126 : Int) (n127 : Int) (xs128 : List Int) (_n129 : Int) (K0 : Int → Int → Nat → List Int → Option R) : Option R :=
 bits_own_r (n127) (xs128) (addW .i64 n127 n126)
  (fun n137 l138 xs139 => word_Mask (n126)
   (fun n140 => bits_fill_r (n137) (l138) (n127) (andW .u64 n125 n140) (xs139)
    (fun xs165 => K0 (0) (n137) (l138) (xs165))))
noncomputable def bits_Append_j4 {R : Type} := shut (@bits_Append_j4_B R)
theorem bits_Append_j4_unf {R : Type} : @bits_Append_j4 R = @bits_Append_j4_B R := shut_eq _

noncomputable def bits_Append_B {R : Type} (n97 : Int) (xs98 : List Int) (n99 : Int) (n100 : Int) (K0 : Int → List Int → Int → Option R) : Option R :=
 bits_Check (n97) (xs98)
  (fun b110 => sel (!b110)
   (bits_Append_j3 (n99) (n100) (true) (n97) (xs98) (0)
    (fun n117 n118 xs119 => K0 (n118) (xs119) (n117))
    (fun n120 n121 n122 xs123 n124 => bits_Append_j4 (n120) (n121) (n122) (xs123) (n124)
     (fun n166 n167 l168 xs169 => sel (decide (l168 = List.length xs169))
      (K0 (n167) (xs169) (n166))
      (sel (decide (0 + l168 ≤ List.length xs169))
       (K0 (n167) (List.take l168 (List.drop 0 xs169)) (n166))
       (none)))))
   (sel (decide (n100 < 0))
    (bits_Append_j3 (n99) (n100) (true) (n97) (xs98) (0)
     (fun n170 n171 xs172 => K0 (n171) (xs172) (n170))
     (fun n173 n174 n175 xs176 n177 => bits_Append_j4 (n173) (n174) (n175) (xs176) (n177)
      (fun n178 n179 l180 xs181 => sel (decide (l180 = List.length xs181))
       (K0 (n179) (xs181) (n178))
       (sel (decide (0 + l180 ≤ List.length xs181))
        (K0 (n179) (List.take l180 (List.drop 0 xs181)) (n178))
        (none)))))
    (sel (decide (64 < n100))
     (bits_Append_j3 (n99) (n100) (true) (n97) (xs98) (0)
      (fun n182 n183 xs184 => K0 (n183) (xs184) (n182))
      (fun n185 n186 n187 xs188 n189 => bits_Append_j4 (n185) (n186) (n187) (xs188) (n189)
       (fun n190 n191 l192 xs193 => sel (decide (l192 = List.length xs193))
        (K0 (n191) (xs193) (n190))
        (sel (decide (0 + l192 ≤ List.length xs193))
         (K0 (n191) (List.take l192 (List.drop 0 xs193)) (n190))
         (none)))))
     (bits_Append_j3 (n99) (n100) (decide (subW .i64 1048576 n97 < n100)) (n97) (xs98) (0)
      (fun n194 n195 xs196 => K0 (n195) (xs196) (n194))
      (fun n197 n198 n199 xs200 n201 => bits_Append_j4 (n197) (n198) (n199) (xs200) (n201)
       (fun n202 n203 l204 xs205 => sel (decide (l204 = List.length xs205))
        (K0 (n203) (xs205) (n202))
        (sel (decide (0 + l204 ≤ List.length xs205))
         (K0 (n203) (List.take l204 (List.drop 0 xs205)) (n202))
         (none))))))))
noncomputable def bits_Append {R : Type} := shut (@bits_Append_B R)
theorem bits_Append_unf {R : Type} : @bits_Append R = @bits_Append_B R := shut_eq _

noncomputable def ints_Make_l6_T {R : Type} (rec : Int → Nat → Nat → Int → Int → List Int → Int → Int → Int → Int → List Int → Option R) (n86 : Int) (l87 : Nat) (l88 : Nat) (n89 : Int) (n90 : Int) (xs91 : List Int) (n92 : Int) (n93 : Int) (n94 : Int) (n95 : Int) (xs96 : List Int) (K0 : Int → Nat → List Int → Int → Int → Int → Int → List Int → Option R) : Option R :=
 sel (decide (n90 < n89))
  (sel (decide (0 ≤ n90))
   (sel (decide (n90 < (↑l88 : Int)))
    (sel (decide (Int.toNat n90 < List.length xs91))
     (bits_Append (n95) (xs96) (List.getD xs91 (Int.toNat n90) 0) (n86)
      (fun n206 xs207 n208 => rec (n86) (l87) (l88) (n89) (addW .i64 n90 1) (xs91) (n92) (n93) (n94) (n206) (xs207)))
     (none))
    (none))
   (none))
  (K0 (n86) (l87) (xs91) (n92) (n93) (n94) (n95) (xs96))
noncomputable def ints_Make_l6_L {R : Type} (K0 : Int → Nat → List Int → Int → Int → Int → Int → List Int → Option R) : Nat → Int → Nat → Nat → Int → Int → List Int → Int → Int → Int → Int → List Int → Option R
  | 0, _, _, _, _, _, _, _, _, _, _, _ => none
  | N + 1, n86, l87, l88, n89, n90, xs91, n92, n93, n94, n95, xs96 => ints_Make_l6_T (ints_Make_l6_L K0 N) n86 l87 l88 n89 n90 xs91 n92 n93 n94 n95 xs96 K0
noncomputable def ints_Make_l6_B {R : Type} (n86 : Int) (l87 : Nat) (l88 : Nat) (n89 : Int) (n90 : Int) (xs91 : List Int) (n92 : Int) (n93 : Int) (n94 : Int) (n95 : Int) (xs96 : List Int) (K0 : Int → Nat → List Int → Int → Int → Int → Int → List Int → Option R) : Option R :=
 ints_Make_l6_L K0 NR n86 l87 l88 n89 n90 xs91 n92 n93 n94 n95 xs96
noncomputable def ints_Make_l6 {R : Type} := shut (@ints_Make_l6_B R)
theorem ints_Make_l6_unf {R : Type} : @ints_Make_l6 R = @ints_Make_l6_B R := shut_eq _

noncomputable def ints_Make_j4_B {R : Type} (n52 : Int) (l53 : Nat) (xs54 : List Int) (n55 : Int) (n56 : Int) (n57 : Int) (K0 : Int → List Int → Int → Int → Int → List Int → Option R) : Option R :=
 bits_New (0)
  (fun n83 xs84 n85 => ints_Make_l6 (n52) (l53) (l53) ((↑l53 : Int)) (0) (xs54) (n55) (n56) (n57) (n83) (xs84)
   (fun n209 l210 xs211 n212 n213 n214 n215 xs216 => K0 (0) (xs211) ((↑l210 : Int)) (n209) (n215) (xs216)))
noncomputable def ints_Make_j4 {R : Type} := shut (@ints_Make_j4_B R)
theorem ints_Make_j4_unf {R : Type} : @ints_Make_j4 R = @ints_Make_j4_B R := shut_eq _

noncomputable def ints_Make_r_B {R : Type} (n31 : Int) (l32 : Nat) (xs33 : List Int) (K0 : Int → Int → Int → Int → List Int → Option R) (K1 : Int → Int → Int → List Int → Int → List Int → Option R) : Option R :=
 sel (decide (n31 < 1))
  (ints_Make_j3 (n31) (l32) (true) (xs33) (0) (0) (0)
   (fun n41 xs42 n43 n44 n45 => K0 (n43) (n44) (n45) (n41) (xs42))
   (fun n46 l47 xs48 n49 n50 n51 => ints_Make_j4 (n46) (l47) (xs48) (n49) (n50) (n51)
    (fun n217 xs218 n219 n220 n221 xs222 => K1 (n219) (n220) (n221) (xs222) (n217) (xs218))))
  (sel (decide (64 < n31))
   (ints_Make_j3 (n31) (l32) (true) (xs33) (0) (0) (0)
    (fun n223 xs224 n225 n226 n227 => K0 (n225) (n226) (n227) (n223) (xs224))
    (fun n228 l229 xs230 n231 n232 n233 => ints_Make_j4 (n228) (l229) (xs230) (n231) (n232) (n233)
     (fun n234 xs235 n236 n237 n238 xs239 => K1 (n236) (n237) (n238) (xs239) (n234) (xs235))))
   (sel (decide (n31 = 0))
    (none)
    (sel (decide (quoW .i64 1048576 n31 < (↑l32 : Int)))
     (ints_Make_j3 (n31) (l32) (true) (xs33) (0) (0) (0)
      (fun n240 xs241 n242 n243 n244 => K0 (n242) (n243) (n244) (n240) (xs241))
      (fun n245 l246 xs247 n248 n249 n250 => ints_Make_j4 (n245) (l246) (xs247) (n248) (n249) (n250)
       (fun n251 xs252 n253 n254 n255 xs256 => K1 (n253) (n254) (n255) (xs256) (n251) (xs252))))
     (ints_width_r (l32) (xs33)
      (fun n257 xs258 => ints_Make_j3 (n31) (l32) (decide (n31 < n257)) (xs258) (0) (0) (0)
       (fun n259 xs260 n261 n262 n263 => K0 (n261) (n262) (n263) (n259) (xs260))
       (fun n264 l265 xs266 n267 n268 n269 => ints_Make_j4 (n264) (l265) (xs266) (n267) (n268) (n269)
        (fun n270 xs271 n272 n273 n274 xs275 => K1 (n272) (n273) (n274) (xs275) (n270) (xs271))))))))
noncomputable def ints_Make_r {R : Type} := shut (@ints_Make_r_B R)
theorem ints_Make_r_unf {R : Type} : @ints_Make_r R = @ints_Make_r_B R := shut_eq _

noncomputable def ints_Of_r_B {R : Type} (l1 : Nat) (xs2 : List Int) (K0 : Int → Int → Int → Int → List Int → Option R) (K1 : Int → Int → Int → List Int → Int → List Int → Option R) : Option R :=
 ints_width_r (l1) (xs2)
  (fun n29 xs30 => ints_Make_r (n29) (l1) (xs30)
   (fun n276 n277 n278 n279 xs280 => K0 (n276) (n277) (n278) (n279) (xs280))
   (fun n281 n282 n283 xs284 n285 xs286 => K1 (n281) (n282) (n283) (xs284) (n285) (xs286)))
noncomputable def ints_Of_r {R : Type} := shut (@ints_Of_r_B R)
theorem ints_Of_r_unf {R : Type} : @ints_Of_r R = @ints_Of_r_B R := shut_eq _

noncomputable def ints_Check_B {R : Type} (n303 : Int) (n304 : Int) (n305 : Int) (xs306 : List Int) (K0 : Bool → Option R) : Option R :=
 sel (decide (1 ≤ n304))
  (sel (decide (n304 ≤ 64))
   (sel (decide (0 ≤ n303))
    (sel (decide (n303 ≤ 1048576))
     (bits_Check (n305) (xs306)
      (fun b307 => sel (b307)
       (K0 (decide (n305 = mulW .i64 n303 n304)))
       (K0 (false))))
     (K0 (false)))
    (K0 (false)))
   (K0 (false)))
  (K0 (false))
noncomputable def ints_Check {R : Type} := shut (@ints_Check_B R)
theorem ints_Check_unf {R : Type} : @ints_Check R = @ints_Check_B R := shut_eq _

noncomputable def ints_has_j5_B {R : Type} (b309 : Bool) (K0 : Int → Option R) (K1 : Unit → Option R) : Option R :=
 sel (b309)
  (K0 (3))
  (K1 ())
noncomputable def ints_has_j5 {R : Type} := shut (@ints_has_j5_B R)
theorem ints_has_j5_unf {R : Type} : @ints_has_j5 R = @ints_has_j5_B R := shut_eq _

noncomputable def ints_has_B {R : Type} (n298 : Int) (n299 : Int) (n300 : Int) (xs301 : List Int) (n302 : Int) (K0 : Int → Option R) (K1 : Unit → Option R) : Option R :=
 ints_Check (n298) (n299) (n300) (xs301)
  (fun b308 => sel (!b308)
   (K0 (2))
   (sel (decide (n302 < 0))
    (ints_has_j5 (true)
     (fun n310 => K0 (n310))
     (fun _ => K1 ()))
    (ints_has_j5 (decide (n298 ≤ n302))
     (fun n311 => K0 (n311))
     (fun _ => K1 ()))))
noncomputable def ints_has {R : Type} := shut (@ints_has_B R)
theorem ints_has_unf {R : Type} : @ints_has R = @ints_has_B R := shut_eq _

noncomputable def bits_Slice_j5_B {R : Type} (n337 : Int) (n338 : Int) (b339 : Bool) (n340 : Int) (xs341 : List Int) (K0 : Int → Int → Option R) (K1 : Int → Int → Int → List Int → Option R) : Option R :=
 sel (b339)
  (K0 (0) (3))
  (sel (decide (n338 = 0))
   (K0 (0) (0))
   (K1 (n337) (n338) (n340) (xs341)))
noncomputable def bits_Slice_j5 {R : Type} := shut (@bits_Slice_j5_B R)
theorem bits_Slice_j5_unf {R : Type} : @bits_Slice_j5 R = @bits_Slice_j5_B R := shut_eq _

noncomputable def bits_Slice_j3_B {R : Type} (n332 : Int) (n333 : Int) (b334 : Bool) (n335 : Int) (xs336 : List Int) (K0 : Int → Int → Option R) (K1 : Int → Int → Int → List Int → Option R) : Option R :=
 sel (b334)
  (K0 (0) (2))
  (sel (decide (n332 < 0))
   (bits_Slice_j5 (n332) (n333) (true) (n335) (xs336)
    (fun n342 n343 => K0 (n342) (n343))
    (fun n344 n345 n346 xs347 => K1 (n344) (n345) (n346) (xs347)))
   (sel (decide (n335 < n332))
    (bits_Slice_j5 (n332) (n333) (true) (n335) (xs336)
     (fun n348 n349 => K0 (n348) (n349))
     (fun n350 n351 n352 xs353 => K1 (n350) (n351) (n352) (xs353)))
    (bits_Slice_j5 (n332) (n333) (decide (subW .i64 n335 n332 < n333)) (n335) (xs336)
     (fun n354 n355 => K0 (n354) (n355))
     (fun n356 n357 n358 xs359 => K1 (n356) (n357) (n358) (xs359)))))
noncomputable def bits_Slice_j3 {R : Type} := shut (@bits_Slice_j3_B R)
theorem bits_Slice_j3_unf {R : Type} : @bits_Slice_j3 R = @bits_Slice_j3_B R := shut_eq _

noncomputable def bits_Slice_j12_B {R : Type} (n371 : Int) (n372 : Int) (K0 : Int → Int → Option R) : Option R :=
 word_Mask (n371)
  (fun n373 => K0 (andW .u64 n372 n373) (0))
noncomputable def bits_Slice_j12 {R : Type} := shut (@bits_Slice_j12_B R)
theorem bits_Slice_j12_unf {R : Type} : @bits_Slice_j12 R = @bits_Slice_j12_B R := shut_eq _

noncomputable def bits_Slice_j8_B {R : Type} (n366 : Int) (n367 : Int) (_n368 : Int) (xs369 : List Int) (K0 : Int → Int → Option R) : Option R :=
 sel (decide (0 ≤ quoW .i64 n366 64))
  (sel (decide (quoW .i64 n366 64 < (↑(List.length xs369) : Int)))
   (sel (decide (0 ≤ remW n366 64))
    (sel (decide (64 < addW .i64 (remW n366 64) n367))
     (sel (decide (0 ≤ addW .i64 (quoW .i64 n366 64) 1))
      (sel (decide (addW .i64 (quoW .i64 n366 64) 1 < (↑(List.length xs369) : Int)))
       (sel (decide (0 ≤ subW .i64 64 (remW n366 64)))
        (letV (orW .u64 (shrW .u64 (List.getD xs369 (Int.toNat (quoW .i64 n366 64)) 0) (remW n366 64)) (shlW .u64 (List.getD xs369 (Int.toNat (addW .i64 (quoW .i64 n366 64) 1)) 0) (subW .i64 64 (remW n366 64)))) (fun (n370 : Int) =>
        bits_Slice_j12 (n367) (n370)
         (fun n374 n375 => K0 (n374) (n375))))
        (none))
       (none))
      (none))
     (bits_Slice_j12 (n367) (shrW .u64 (List.getD xs369 (Int.toNat (quoW .i64 n366 64)) 0) (remW n366 64))
      (fun n376 n377 => K0 (n376) (n377))))
    (none))
   (none))
  (none)
noncomputable def bits_Slice_j8 {R : Type} := shut (@bits_Slice_j8_B R)
theorem bits_Slice_j8_unf {R : Type} : @bits_Slice_j8 R = @bits_Slice_j8_B R := shut_eq _

noncomputable def bits_Slice_B {R : Type} (n327 : Int) (xs328 : List Int) (n329 : Int) (n330 : Int) (K0 : Int → Int → Option R) : Option R :=
 bits_Check (n327) (xs328)
  (fun b331 => sel (!b331)
   (bits_Slice_j3 (n329) (n330) (true) (n327) (xs328)
    (fun n360 n361 => K0 (n360) (n361))
    (fun n362 n363 n364 xs365 => bits_Slice_j8 (n362) (n363) (n364) (xs365)
     (fun n378 n379 => K0 (n378) (n379))))
   (sel (decide (n330 < 0))
    (bits_Slice_j3 (n329) (n330) (true) (n327) (xs328)
     (fun n380 n381 => K0 (n380) (n381))
     (fun n382 n383 n384 xs385 => bits_Slice_j8 (n382) (n383) (n384) (xs385)
      (fun n386 n387 => K0 (n386) (n387))))
    (bits_Slice_j3 (n329) (n330) (decide (64 < n330)) (n327) (xs328)
     (fun n388 n389 => K0 (n388) (n389))
     (fun n390 n391 n392 xs393 => bits_Slice_j8 (n390) (n391) (n392) (xs393)
      (fun n394 n395 => K0 (n394) (n395))))))
noncomputable def bits_Slice {R : Type} := shut (@bits_Slice_B R)
theorem bits_Slice_unf {R : Type} : @bits_Slice R = @bits_Slice_B R := shut_eq _

noncomputable def ints_List_l6_T {R : Type} (rec : Nat → Int → Int → Int → Int → Int → List Int → List Int → Option R) (l319 : Nat) (n320 : Int) (n321 : Int) (n322 : Int) (n323 : Int) (n324 : Int) (xs325 : List Int) (xs326 : List Int) (K0 : Nat → List Int → Option R) : Option R :=
 sel (decide (n321 < n320))
  (bits_Slice (n324) (xs325) (mulW .i64 n321 n323) (n323)
   (fun n396 n397 => sel (decide (0 ≤ n321))
    (sel (decide (n321 < (↑l319 : Int)))
     (sel (decide (Int.toNat n321 < List.length xs326))
      (letV (List.set xs326 (Int.toNat n321) n396) (fun (xs398 : List Int) =>
      rec (l319) (n320) (addW .i64 n321 1) (n322) (n323) (n324) (xs325) (xs398)))
      (none))
     (none))
    (none)))
  (K0 (l319) (xs326))
noncomputable def ints_List_l6_L {R : Type} (K0 : Nat → List Int → Option R) : Nat → Nat → Int → Int → Int → Int → Int → List Int → List Int → Option R
  | 0, _, _, _, _, _, _, _, _ => none
  | N + 1, l319, n320, n321, n322, n323, n324, xs325, xs326 => ints_List_l6_T (ints_List_l6_L K0 N) l319 n320 n321 n322 n323 n324 xs325 xs326 K0
noncomputable def ints_List_l6_B {R : Type} (l319 : Nat) (n320 : Int) (n321 : Int) (n322 : Int) (n323 : Int) (n324 : Int) (xs325 : List Int) (xs326 : List Int) (K0 : Nat → List Int → Option R) : Option R :=
 ints_List_l6_L K0 NR l319 n320 n321 n322 n323 n324 xs325 xs326
noncomputable def ints_List_l6 {R : Type} := shut (@ints_List_l6_B R)
theorem ints_List_l6_unf {R : Type} : @ints_List_l6 R = @ints_List_l6_B R := shut_eq _

noncomputable def ints_List_B {R : Type} (n313 : Int) (n314 : Int) (n315 : Int) (xs316 : List Int) (K0 : List Int → Option R) : Option R :=
 ints_Check (n313) (n314) (n315) (xs316)
  (fun b317 => sel (!b317)
   (K0 ([]))
   (sel (decide (0 ≤ n313))
    (sel (decide (n313 ≤ n313))
     (sel (decide (n313 ≤ 281474976710656))
      (sel (decide ((↑8 : Int) * n313 ≤ 281474976710656))
       (letV (List.replicate (Int.toNat n313) 0) (fun (xs318 : List Int) =>
       ints_List_l6 (Int.toNat n313) ((↑(Int.toNat n313) : Int)) (0) (n313) (n314) (n315) (xs316) (xs318)
        (fun l399 xs400 => sel (decide (l399 = List.length xs400))
         (K0 (xs400))
         (sel (decide (0 + l399 ≤ List.length xs400))
          (K0 (List.take l399 (List.drop 0 xs400)))
          (none)))))
       (none))
      (none))
     (none))
    (none)))
noncomputable def ints_List {R : Type} := shut (@ints_List_B R)
theorem ints_List_unf {R : Type} : @ints_List R = @ints_List_B R := shut_eq _

noncomputable def slices_Clone_uint64_uint64_r_B {R : Type} (xs402 : List Int) (K0 : Nat → List Int → Option R) : Option R :=
 sel (decide (0 < List.length xs402))
  (sel (decide (List.length xs402 * 8 ≤ 140737488355328))
   (K0 (List.length xs402) (xs402))
   (none))
  (none)
noncomputable def slices_Clone_uint64_uint64_r {R : Type} := shut (@slices_Clone_uint64_uint64_r_B R)
theorem slices_Clone_uint64_uint64_r_unf {R : Type} : @slices_Clone_uint64_uint64_r R = @slices_Clone_uint64_uint64_r_B R := shut_eq _

noncomputable def ints_Put_B {R : Type} (n292 : Int) (n293 : Int) (n294 : Int) (xs295 : List Int) (n296 : Int) (n297 : Int) (K0 : Int → Int → Int → List Int → Int → Option R) : Option R :=
 ints_has (n292) (n293) (n294) (xs295) (n296)
  (fun n312 => K0 (n292) (n293) (n294) (xs295) (n312))
  (fun _ => ints_List (n292) (n293) (n294) (xs295)
   (fun xs401 => slices_Clone_uint64_uint64_r (xs401)
    (fun l403 xs404 => sel (decide (0 ≤ n296))
     (sel (decide (n296 < (↑l403 : Int)))
      (sel (decide (Int.toNat n296 < List.length xs404))
       (letV (List.set xs404 (Int.toNat n296) n297) (fun (xs405 : List Int) =>
       ints_Make_r (n293) (l403) (xs405)
        (fun n406 n407 n408 n409 xs410 => sel (!decide (n409 = 0))
         (K0 (n292) (n293) (n294) (xs295) (n409))
         (K0 (n406) (n407) (n408) ([]) (0)))
        (fun n411 n412 n413 xs414 n415 xs416 => sel (!decide (n415 = 0))
         (K0 (n292) (n293) (n294) (xs295) (n415))
         (K0 (n411) (n412) (n413) (xs414) (0)))))
       (none))
      (none))
     (none))))
noncomputable def ints_Put {R : Type} := shut (@ints_Put_B R)
theorem ints_Put_unf {R : Type} : @ints_Put R = @ints_Put_B R := shut_eq _

noncomputable def ints_Get_B {R : Type} (n431 : Int) (n432 : Int) (n433 : Int) (xs434 : List Int) (n435 : Int) (K0 : Int → Int → Option R) : Option R :=
 ints_has (n431) (n432) (n433) (xs434) (n435)
  (fun n436 => K0 (0) (n436))
  (fun _ => bits_Slice (n433) (xs434) (mulW .i64 n435 n432) (n432)
   (fun n437 n438 => K0 (n437) (n438)))
noncomputable def ints_Get {R : Type} := shut (@ints_Get_B R)
theorem ints_Get_unf {R : Type} : @ints_Get R = @ints_Get_B R := shut_eq _

noncomputable def ints_Make_j3_1_B {R : Type} (n450 : Int) (xs451 : List Int) (b452 : Bool) (n453 : Int) (n454 : Int) (n455 : Int) (K0 : Int → Int → Int → Int → Option R) (K1 : Int → List Int → Int → Int → Int → Option R) : Option R :=
 sel (b452)
  (K0 (2) (0) (0) (0))
  (K1 (n450) (xs451) (n453) (n454) (n455))
noncomputable def ints_Make_j3_1 {R : Type} := shut (@ints_Make_j3_1_B R)
theorem ints_Make_j3_1_unf {R : Type} : @ints_Make_j3_1 R = @ints_Make_j3_1_B R := shut_eq _

noncomputable def ints_Make_l6_1_T {R : Type} (rec : Int → List Int → List Int → Int → Int → Int → Int → Int → Int → List Int → Option R) (n473 : Int) (xs474 : List Int) (xs475 : List Int) (n476 : Int) (n477 : Int) (n478 : Int) (n479 : Int) (n480 : Int) (n481 : Int) (xs482 : List Int) (K0 : Int → List Int → Int → Int → Int → Int → List Int → Option R) : Option R :=
 sel (decide (n477 < n476))
  (sel (decide (0 ≤ n477))
   (sel (decide (n477 < (↑(List.length xs475) : Int)))
    (bits_Append (n481) (xs482) (List.getD xs475 (Int.toNat n477) 0) (n473)
     (fun n483 xs484 n485 => rec (n473) (xs474) (xs475) (n476) (addW .i64 n477 1) (n478) (n479) (n480) (n483) (xs484)))
    (none))
   (none))
  (K0 (n473) (xs474) (n478) (n479) (n480) (n481) (xs482))
noncomputable def ints_Make_l6_1_L {R : Type} (K0 : Int → List Int → Int → Int → Int → Int → List Int → Option R) : Nat → Int → List Int → List Int → Int → Int → Int → Int → Int → Int → List Int → Option R
  | 0, _, _, _, _, _, _, _, _, _, _ => none
  | N + 1, n473, xs474, xs475, n476, n477, n478, n479, n480, n481, xs482 => ints_Make_l6_1_T (ints_Make_l6_1_L K0 N) n473 xs474 xs475 n476 n477 n478 n479 n480 n481 xs482 K0
noncomputable def ints_Make_l6_1_B {R : Type} (n473 : Int) (xs474 : List Int) (xs475 : List Int) (n476 : Int) (n477 : Int) (n478 : Int) (n479 : Int) (n480 : Int) (n481 : Int) (xs482 : List Int) (K0 : Int → List Int → Int → Int → Int → Int → List Int → Option R) : Option R :=
 ints_Make_l6_1_L K0 NR n473 xs474 xs475 n476 n477 n478 n479 n480 n481 xs482
noncomputable def ints_Make_l6_1 {R : Type} := shut (@ints_Make_l6_1_B R)
theorem ints_Make_l6_1_unf {R : Type} : @ints_Make_l6_1 R = @ints_Make_l6_1_B R := shut_eq _

noncomputable def ints_Make_j4_1_B {R : Type} (n465 : Int) (xs466 : List Int) (n467 : Int) (n468 : Int) (n469 : Int) (K0 : Int → Int → Int → Int → List Int → Option R) : Option R :=
 bits_New (0)
  (fun n470 xs471 n472 => ints_Make_l6_1 (n465) (xs466) (xs466) ((↑(List.length xs466) : Int)) (0) (n467) (n468) (n469) (n470) (xs471)
   (fun n486 xs487 n488 n489 n490 n491 xs492 => K0 (0) ((↑(List.length xs487) : Int)) (n486) (n491) (xs492)))
noncomputable def ints_Make_j4_1 {R : Type} := shut (@ints_Make_j4_1_B R)
theorem ints_Make_j4_1_unf {R : Type} : @ints_Make_j4_1 R = @ints_Make_j4_1_B R := shut_eq _

noncomputable def ints_width_l4_1_T {R : Type} (rec : Int → List Int → Int → Int → Option R) (n527 : Int) (xs528 : List Int) (n529 : Int) (n530 : Int) (K0 : Int → Option R) : Option R :=
 sel (decide (n530 < n529))
  (sel (decide (0 ≤ n530))
   (sel (decide (n530 < (↑(List.length xs528) : Int)))
    (word_Len (List.getD xs528 (Int.toNat n530) 0)
     (fun n531 => rec (max2 n527 n531) (xs528) (n529) (addW .i64 n530 1)))
    (none))
   (none))
  (K0 (n527))
noncomputable def ints_width_l4_1_L {R : Type} (K0 : Int → Option R) : Nat → Int → List Int → Int → Int → Option R
  | 0, _, _, _, _ => none
  | N + 1, n527, xs528, n529, n530 => ints_width_l4_1_T (ints_width_l4_1_L K0 N) n527 xs528 n529 n530 K0
noncomputable def ints_width_l4_1_B {R : Type} (n527 : Int) (xs528 : List Int) (n529 : Int) (n530 : Int) (K0 : Int → Option R) : Option R :=
 ints_width_l4_1_L K0 NR n527 xs528 n529 n530
noncomputable def ints_width_l4_1 {R : Type} := shut (@ints_width_l4_1_B R)
theorem ints_width_l4_1_unf {R : Type} : @ints_width_l4_1 R = @ints_width_l4_1_B R := shut_eq _

noncomputable def ints_width_B {R : Type} (xs526 : List Int) (K0 : Int → Option R) : Option R :=
 ints_width_l4_1 (1) (xs526) ((↑(List.length xs526) : Int)) (0)
  (fun n532 => K0 (n532))
noncomputable def ints_width {R : Type} := shut (@ints_width_B R)
theorem ints_width_unf {R : Type} : @ints_width R = @ints_width_B R := shut_eq _

noncomputable def ints_Make_B {R : Type} (n448 : Int) (xs449 : List Int) (K0 : Int → Int → Int → List Int → Int → Option R) : Option R :=
 sel (decide (n448 < 1))
  (ints_Make_j3_1 (n448) (xs449) (true) (0) (0) (0)
   (fun n456 n457 n458 n459 => K0 (n457) (n458) (n459) ([]) (n456))
   (fun n460 xs461 n462 n463 n464 => ints_Make_j4_1 (n460) (xs461) (n462) (n463) (n464)
    (fun n493 n494 n495 n496 xs497 => K0 (n494) (n495) (n496) (xs497) (n493))))
  (sel (decide (64 < n448))
   (ints_Make_j3_1 (n448) (xs449) (true) (0) (0) (0)
    (fun n498 n499 n500 n501 => K0 (n499) (n500) (n501) ([]) (n498))
    (fun n502 xs503 n504 n505 n506 => ints_Make_j4_1 (n502) (xs503) (n504) (n505) (n506)
     (fun n507 n508 n509 n510 xs511 => K0 (n508) (n509) (n510) (xs511) (n507))))
   (sel (decide (n448 = 0))
    (none)
    (sel (decide (quoW .i64 1048576 n448 < (↑(List.length xs449) : Int)))
     (ints_Make_j3_1 (n448) (xs449) (true) (0) (0) (0)
      (fun n512 n513 n514 n515 => K0 (n513) (n514) (n515) ([]) (n512))
      (fun n516 xs517 n518 n519 n520 => ints_Make_j4_1 (n516) (xs517) (n518) (n519) (n520)
       (fun n521 n522 n523 n524 xs525 => K0 (n522) (n523) (n524) (xs525) (n521))))
     (ints_width (xs449)
      (fun n533 => ints_Make_j3_1 (n448) (xs449) (decide (n448 < n533)) (0) (0) (0)
       (fun n534 n535 n536 n537 => K0 (n535) (n536) (n537) ([]) (n534))
       (fun n538 xs539 n540 n541 n542 => ints_Make_j4_1 (n538) (xs539) (n540) (n541) (n542)
        (fun n543 n544 n545 n546 xs547 => K0 (n544) (n545) (n546) (xs547) (n543))))))))
noncomputable def ints_Make {R : Type} := shut (@ints_Make_B R)
theorem ints_Make_unf {R : Type} : @ints_Make R = @ints_Make_B R := shut_eq _

noncomputable def haystacklaw03_heads_j4_B {R : Type} (n422 : Int) (_n423 : Int) (n424 : Int) (n425 : Int) (n426 : Int) (n427 : Int) (n428 : Int) (n429 : Int) (xs430 : List Int) : Option R :=
 ints_Get (n427) (n428) (n429) (xs430) (1)
  (fun n439 n440 => ints_Put (n424) (n425) (n426) ([]) (0) (8)
   (fun n441 n442 n443 xs444 n445 => ints_Get (n424) (n425) (n426) ([]) (2)
    (fun n446 n447 => ints_Make (0) ([])
     (fun n548 n549 n550 xs551 n552 => sel (decide (n422 = 0))
      (sel (decide (n425 = 3))
       (sel (decide (n426 = 6))
        (none)
        (none))
       (none))
      (none)))))
noncomputable def haystacklaw03_heads_j4 {R : Type} := shut (@haystacklaw03_heads_j4_B R)
theorem haystacklaw03_heads_j4_unf {R : Type} : @haystacklaw03_heads_j4 R = @haystacklaw03_heads_j4_B R := shut_eq _

noncomputable def haystackref03_Rows_l5_T {R : Type} (rec : List Int → Nat → Int → List Int → Option R) (xs594 : List Int) (l595 : Nat) (n596 : Int) (xs597 : List Int) (K0 : Bool → List Int → Option R) (K1 : List Int → Option R) : Option R :=
 sel (decide (n596 < (↑(List.length xs594) : Int)))
  (sel (decide (0 ≤ n596))
   (sel (decide (n596 < (↑(List.length xs594) : Int)))
    (sel (decide (0 ≤ n596))
     (sel (decide (n596 < (↑l595 : Int)))
      (sel (decide (Int.toNat n596 < List.length xs597))
       (sel (!decide (List.getD xs594 (Int.toNat n596) 0 = List.getD xs597 (Int.toNat n596) 0))
        (K0 (false) (xs597))
        (rec (xs594) (l595) (addW .i64 n596 1) (xs597)))
       (none))
      (none))
     (none))
    (none))
   (none))
  (K1 (xs597))
noncomputable def haystackref03_Rows_l5_L {R : Type} (K0 : Bool → List Int → Option R) (K1 : List Int → Option R) : Nat → List Int → Nat → Int → List Int → Option R
  | 0, _, _, _, _ => none
  | N + 1, xs594, l595, n596, xs597 => haystackref03_Rows_l5_T (haystackref03_Rows_l5_L K0 K1 N) xs594 l595 n596 xs597 K0 K1
noncomputable def haystackref03_Rows_l5_B {R : Type} (xs594 : List Int) (l595 : Nat) (n596 : Int) (xs597 : List Int) (K0 : Bool → List Int → Option R) (K1 : List Int → Option R) : Option R :=
 haystackref03_Rows_l5_L K0 K1 NR xs594 l595 n596 xs597
noncomputable def haystackref03_Rows_l5 {R : Type} := shut (@haystackref03_Rows_l5_B R)
theorem haystackref03_Rows_l5_unf {R : Type} : @haystackref03_Rows_l5 R = @haystackref03_Rows_l5_B R := shut_eq _

noncomputable def haystackref03_Rows_r_B {R : Type} (xs591 : List Int) (l592 : Nat) (xs593 : List Int) (K0 : Bool → List Int → Option R) : Option R :=
 sel (!decide ((↑(List.length xs591) : Int) = (↑l592 : Int)))
  (K0 (false) (xs593))
  (haystackref03_Rows_l5 (xs591) (l592) (0) (xs593)
   (fun b598 xs599 => K0 (b598) (xs599))
   (fun xs600 => K0 (true) (xs600)))
noncomputable def haystackref03_Rows_r {R : Type} := shut (@haystackref03_Rows_r_B R)
theorem haystackref03_Rows_r_unf {R : Type} : @haystackref03_Rows_r R = @haystackref03_Rows_r_B R := shut_eq _

noncomputable def haystacklaw03_heads_j4_1_B {R : Type} (n564 : Int) (n565 : Int) (n566 : Int) (n567 : Int) (n568 : Int) (xs569 : List Int) (n570 : Int) (n571 : Int) (n572 : Int) (xs573 : List Int) (K0 : Bool → Option R) : Option R :=
 ints_Get (n570) (n571) (n572) (xs573) (1)
  (fun n574 n575 => ints_Put (n566) (n567) (n568) (xs569) (0) (8)
   (fun n576 n577 n578 xs579 n580 => ints_Get (n566) (n567) (n568) (xs569) (2)
    (fun n581 n582 => ints_Make (0) ([])
     (fun n583 n584 n585 xs586 n587 => sel (decide (n564 = 0))
      (sel (decide (n567 = 3))
       (sel (decide (n568 = 6))
        (sel (decide ((↑(List.length xs569) : Int) = 1))
         (sel (decide (0 < (↑(List.length xs569) : Int)))
          (sel (decide (List.getD xs569 (Int.toNat 0) 0 = 13))
           (sel (decide (n565 = 0))
            (sel (decide (n574 = 7))
             (sel (decide (n575 = 0))
              (sel (decide (n580 = 2))
               (sel (decide (n582 = 3))
                (sel (decide (n587 = 2))
                 (ints_Check (n570) (n571) (n572) (xs573)
                  (fun b588 => sel (b588)
                   (ints_Check (0) (0) (0) ([])
                    (fun b589 => sel (!b589)
                     (ints_List (n566) (n567) (n568) (xs569)
                      (fun xs590 => haystackref03_Rows_r (xs590) (2) ([5, 1])
                       (fun b601 xs602 => K0 (b601))))
                     (none)))
                   (none)))
                 (none))
                (none))
               (none))
              (none))
             (none))
            (none))
           (none))
          (none))
         (none))
        (none))
       (none))
      (none)))))
noncomputable def haystacklaw03_heads_j4_1 {R : Type} := shut (@haystacklaw03_heads_j4_1_B R)
theorem haystacklaw03_heads_j4_1_unf {R : Type} : @haystacklaw03_heads_j4_1 R = @haystacklaw03_heads_j4_1_B R := shut_eq _

noncomputable def haystacklaw03_heads_B {R : Type} (K0 : Bool → Option R) : Option R :=
 ints_Of_r (2) ([5, 1])
  (fun n287 n288 n289 n290 xs291 => ints_Put (n287) (n288) (n289) ([]) (1) (7)
   (fun n417 n418 n419 xs420 n421 => haystacklaw03_heads_j4 (n290) (n421) (n287) (n288) (n289) (n417) (n418) (n419) (xs420)))
  (fun n553 n554 n555 xs556 n557 xs558 => ints_Put (n553) (n554) (n555) (xs556) (1) (7)
   (fun n559 n560 n561 xs562 n563 => haystacklaw03_heads_j4_1 (n557) (n563) (n553) (n554) (n555) (xs556) (n559) (n560) (n561) (xs562)
    (fun b603 => K0 (b603))))
noncomputable def haystacklaw03_heads {R : Type} := shut (@haystacklaw03_heads_B R)
theorem haystacklaw03_heads_unf {R : Type} : @haystacklaw03_heads R = @haystacklaw03_heads_B R := shut_eq _

noncomputable def ints_Of_B {R : Type} (xs605 : List Int) (K0 : Int → Int → Int → List Int → Int → Option R) : Option R :=
 ints_width (xs605)
  (fun n606 => ints_Make (n606) (xs605)
   (fun n607 n608 n609 xs610 n611 => K0 (n607) (n608) (n609) (xs610) (n611)))
noncomputable def ints_Of {R : Type} := shut (@ints_Of_B R)
theorem ints_Of_unf {R : Type} : @ints_Of R = @ints_Of_B R := shut_eq _

noncomputable def haystacklaw03_IntsLeast_j13_B {R : Type} (xs629 : List Int) (b630 : Bool) (n631 : Int) (n632 : Int) (n633 : Int) (n634 : Int) (xs635 : List Int) (K0 : List Int → Bool → Int → Int → Int → Int → List Int → Option R) : Option R :=
 sel (b630)
  (K0 (xs629) (true) (n631) (n632) (n633) (n634) (xs635))
  (sel (decide (0 ≤ n631))
   (sel (decide (n631 < (↑(List.length xs629) : Int)))
    (sel (decide (0 ≤ cvtW .u64 (subW .i64 n633 1)))
     (letV (!decide (shrW .u64 (List.getD xs629 (Int.toNat n631) 0) (cvtW .u64 (subW .i64 n633 1)) = 0)) (fun (b636 : Bool) =>
     K0 (xs629) (b636) (n631) (n632) (n633) (n634) (xs635)))
     (none))
    (none))
   (none))
noncomputable def haystacklaw03_IntsLeast_j13 {R : Type} := shut (@haystacklaw03_IntsLeast_j13_B R)
theorem haystacklaw03_IntsLeast_j13_unf {R : Type} : @haystacklaw03_IntsLeast_j13 R = @haystacklaw03_IntsLeast_j13_B R := shut_eq _

noncomputable def haystacklaw03_IntsLeast_l9_T {R : Type} (rec : List Int → Bool → Int → Int → Int → Int → List Int → Option R) (xs622 : List Int) (b623 : Bool) (n624 : Int) (n625 : Int) (n626 : Int) (n627 : Int) (xs628 : List Int) (K0 : Bool → Option R) (K1 : Bool → Int → Int → Int → List Int → Option R) : Option R :=
 sel (decide (n624 < (↑(List.length xs622) : Int)))
  (sel (decide (n626 < 64))
   (sel (decide (0 ≤ n624))
    (sel (decide (n624 < (↑(List.length xs622) : Int)))
     (sel (decide (0 ≤ cvtW .u64 n626))
      (sel (!decide (shrW .u64 (List.getD xs622 (Int.toNat n624) 0) (cvtW .u64 n626) = 0))
       (K0 (false))
       (haystacklaw03_IntsLeast_j13 (xs622) (b623) (n624) (n625) (n626) (n627) (xs628)
        (fun xs637 b638 n639 n640 n641 n642 xs643 => rec (xs637) (b638) (addW .i64 n639 1) (n640) (n641) (n642) (xs643))))
      (none))
     (none))
    (none))
   (haystacklaw03_IntsLeast_j13 (xs622) (b623) (n624) (n625) (n626) (n627) (xs628)
    (fun xs644 b645 n646 n647 n648 n649 xs650 => rec (xs644) (b645) (addW .i64 n646 1) (n647) (n648) (n649) (xs650))))
  (K1 (b623) (n625) (n626) (n627) (xs628))
noncomputable def haystacklaw03_IntsLeast_l9_L {R : Type} (K0 : Bool → Option R) (K1 : Bool → Int → Int → Int → List Int → Option R) : Nat → List Int → Bool → Int → Int → Int → Int → List Int → Option R
  | 0, _, _, _, _, _, _, _ => none
  | N + 1, xs622, b623, n624, n625, n626, n627, xs628 => haystacklaw03_IntsLeast_l9_T (haystacklaw03_IntsLeast_l9_L K0 K1 N) xs622 b623 n624 n625 n626 n627 xs628 K0 K1
noncomputable def haystacklaw03_IntsLeast_l9_B {R : Type} (xs622 : List Int) (b623 : Bool) (n624 : Int) (n625 : Int) (n626 : Int) (n627 : Int) (xs628 : List Int) (K0 : Bool → Option R) (K1 : Bool → Int → Int → Int → List Int → Option R) : Option R :=
 haystacklaw03_IntsLeast_l9_L K0 K1 NR xs622 b623 n624 n625 n626 n627 xs628
noncomputable def haystacklaw03_IntsLeast_l9 {R : Type} := shut (@haystacklaw03_IntsLeast_l9_B R)
theorem haystacklaw03_IntsLeast_l9_unf {R : Type} : @haystacklaw03_IntsLeast_l9 R = @haystacklaw03_IntsLeast_l9_B R := shut_eq _

noncomputable def haystackref02_Same_l5_T {R : Type} (rec : Int → Int → List Int → Int → List Int → Option R) (n679 : Int) (n680 : Int) (xs681 : List Int) (n682 : Int) (xs683 : List Int) (K0 : Bool → Option R) (K1 : Unit → Option R) : Option R :=
 sel (decide (n679 < (↑(List.length xs681) : Int)))
  (sel (decide (0 ≤ n679))
   (sel (decide (n679 < (↑(List.length xs681) : Int)))
    (sel (decide (0 ≤ n679))
     (sel (decide (n679 < (↑(List.length xs683) : Int)))
      (sel (!decide (List.getD xs681 (Int.toNat n679) 0 = List.getD xs683 (Int.toNat n679) 0))
       (K0 (false))
       (rec (addW .i64 n679 1) (n680) (xs681) (n682) (xs683)))
      (none))
     (none))
    (none))
   (none))
  (K1 ())
noncomputable def haystackref02_Same_l5_L {R : Type} (K0 : Bool → Option R) (K1 : Unit → Option R) : Nat → Int → Int → List Int → Int → List Int → Option R
  | 0, _, _, _, _, _ => none
  | N + 1, n679, n680, xs681, n682, xs683 => haystackref02_Same_l5_T (haystackref02_Same_l5_L K0 K1 N) n679 n680 xs681 n682 xs683 K0 K1
noncomputable def haystackref02_Same_l5_B {R : Type} (n679 : Int) (n680 : Int) (xs681 : List Int) (n682 : Int) (xs683 : List Int) (K0 : Bool → Option R) (K1 : Unit → Option R) : Option R :=
 haystackref02_Same_l5_L K0 K1 NR n679 n680 xs681 n682 xs683
noncomputable def haystackref02_Same_l5 {R : Type} := shut (@haystackref02_Same_l5_B R)
theorem haystackref02_Same_l5_unf {R : Type} : @haystackref02_Same_l5 R = @haystackref02_Same_l5_B R := shut_eq _

noncomputable def haystackref02_Same_j4_B {R : Type} (n675 : Int) (xs676 : List Int) (n677 : Int) (xs678 : List Int) (K0 : Bool → Option R) : Option R :=
 haystackref02_Same_l5 (0) (n675) (xs676) (n677) (xs678)
  (fun b684 => K0 (b684))
  (fun _ => K0 (true))
noncomputable def haystackref02_Same_j4 {R : Type} := shut (@haystackref02_Same_j4_B R)
theorem haystackref02_Same_j4_unf {R : Type} : @haystackref02_Same_j4 R = @haystackref02_Same_j4_B R := shut_eq _

noncomputable def haystackref02_Same_B {R : Type} (n671 : Int) (xs672 : List Int) (n673 : Int) (xs674 : List Int) (K0 : Bool → Option R) : Option R :=
 sel (!decide (n671 = n673))
  (K0 (false))
  (sel (!decide ((↑(List.length xs672) : Int) = (↑(List.length xs674) : Int)))
   (K0 (false))
   (haystackref02_Same_j4 (n671) (xs672) (n673) (xs674)
    (fun b685 => K0 (b685))))
noncomputable def haystackref02_Same {R : Type} := shut (@haystackref02_Same_B R)
theorem haystackref02_Same_unf {R : Type} : @haystackref02_Same R = @haystackref02_Same_B R := shut_eq _

noncomputable def haystackref03_Same_B {R : Type} (n663 : Int) (n664 : Int) (n665 : Int) (xs666 : List Int) (n667 : Int) (n668 : Int) (n669 : Int) (xs670 : List Int) (K0 : Bool → Option R) : Option R :=
 sel (decide (n663 = n667))
  (sel (decide (n664 = n668))
   (haystackref02_Same (n665) (xs666) (n669) (xs670)
    (fun b686 => K0 (b686)))
   (K0 (false)))
  (K0 (false))
noncomputable def haystackref03_Same {R : Type} := shut (@haystackref03_Same_B R)
theorem haystackref03_Same_unf {R : Type} : @haystackref03_Same R = @haystackref03_Same_B R := shut_eq _

noncomputable def haystacklaw03_IntsLeast_j7_B {R : Type} (xs617 : List Int) (n618 : Int) (n619 : Int) (n620 : Int) (xs621 : List Int) (K0 : Bool → Option R) : Option R :=
 haystacklaw03_IntsLeast_l9 (xs617) (decide (n619 = 1)) (0) (n618) (n619) (n620) (xs621)
  (fun b651 => K0 (b651))
  (fun b652 n653 n654 n655 xs656 => ints_List (n653) (n654) (n655) (xs656)
   (fun xs657 => ints_Make (n654) (xs657)
    (fun n658 n659 n660 xs661 n662 => sel (b652)
     (sel (decide (n662 = 0))
      (haystackref03_Same (n653) (n654) (n655) (xs656) (n658) (n659) (n660) (xs661)
       (fun b687 => sel (b687)
        (haystacklaw03_heads 
         (fun b688 => K0 (b688)))
        (K0 (false))))
      (K0 (false)))
     (K0 (false)))))
noncomputable def haystacklaw03_IntsLeast_j7 {R : Type} := shut (@haystacklaw03_IntsLeast_j7_B R)
theorem haystacklaw03_IntsLeast_j7_unf {R : Type} : @haystacklaw03_IntsLeast_j7 R = @haystacklaw03_IntsLeast_j7_B R := shut_eq _

noncomputable def haystacklaw03_IntsLeast_B {R : Type} (xs0 : List Int) (K0 : Bool → Option R) : Option R :=
 sel (decide (300 < (↑(List.length xs0) : Int)))
  (haystacklaw03_heads 
   (fun b604 => K0 (b604)))
  (ints_Of (xs0)
   (fun n612 n613 n614 xs615 n616 => sel (!decide (n616 = 0))
    (K0 (false))
    (sel (decide (n613 < 1))
     (K0 (false))
     (sel (decide (64 < n613))
      (K0 (false))
      (haystacklaw03_IntsLeast_j7 (xs0) (n612) (n613) (n614) (xs615)
       (fun b689 => K0 (b689)))))))
noncomputable def haystacklaw03_IntsLeast {R : Type} := shut (@haystacklaw03_IntsLeast_B R)
theorem haystacklaw03_IntsLeast_unf {R : Type} : @haystacklaw03_IntsLeast R = @haystacklaw03_IntsLeast_B R := shut_eq _

noncomputable def haystacklaw03_small_B {R : Type} (n698 : Int) (_n699 : Int) (n700 : Int) (xs701 : List Int) (K0 : Bool → Option R) : Option R :=
 sel (decide (n698 ≤ 1000))
  (sel (decide (n700 ≤ 9000))
   (K0 (decide ((↑(List.length xs701) : Int) ≤ 1000)))
   (K0 (false)))
  (K0 (false))
noncomputable def haystacklaw03_small {R : Type} := shut (@haystacklaw03_small_B R)
theorem haystacklaw03_small_unf {R : Type} : @haystacklaw03_small R = @haystacklaw03_small_B R := shut_eq _

noncomputable def haystackref02_Words_B {R : Type} (n726 : Int) (K0 : Int → Option R) : Option R :=
 K0 (quoW .i64 (addW .i64 n726 63) 64)
noncomputable def haystackref02_Words {R : Type} := shut (@haystackref02_Words_B R)
theorem haystackref02_Words_unf {R : Type} : @haystackref02_Words R = @haystackref02_Words_B R := shut_eq _

noncomputable def haystackref01_Mask_j6_B {R : Type} (n734 : Int) (n735 : Int) (n736 : Int) (K0 : Int → Int → Int → Option R) : Option R :=
 sel (decide (0 ≤ cvtW .u64 n736))
  (K0 (n734) (orW .u64 n735 (shlW .u64 1 (cvtW .u64 n736))) (addW .i64 n736 1))
  (none)
noncomputable def haystackref01_Mask_j6 {R : Type} := shut (@haystackref01_Mask_j6_B R)
theorem haystackref01_Mask_j6_unf {R : Type} : @haystackref01_Mask_j6 R = @haystackref01_Mask_j6_B R := shut_eq _

noncomputable def haystackref01_Mask_l4_T {R : Type} (rec : Int → Int → Int → Option R) (n731 : Int) (n732 : Int) (n733 : Int) (K0 : Int → Option R) : Option R :=
 sel (decide (n733 < 64))
  (sel (decide (n733 < n731))
   (haystackref01_Mask_j6 (n731) (n732) (n733)
    (fun n737 n738 n739 => rec (n737) (n738) (n739)))
   (K0 (n732)))
  (K0 (n732))
noncomputable def haystackref01_Mask_l4_L {R : Type} (K0 : Int → Option R) : Nat → Int → Int → Int → Option R
  | 0, _, _, _ => none
  | N + 1, n731, n732, n733 => haystackref01_Mask_l4_T (haystackref01_Mask_l4_L K0 N) n731 n732 n733 K0
noncomputable def haystackref01_Mask_l4_B {R : Type} (n731 : Int) (n732 : Int) (n733 : Int) (K0 : Int → Option R) : Option R :=
 haystackref01_Mask_l4_L K0 NR n731 n732 n733
noncomputable def haystackref01_Mask_l4 {R : Type} := shut (@haystackref01_Mask_l4_B R)
theorem haystackref01_Mask_l4_unf {R : Type} : @haystackref01_Mask_l4 R = @haystackref01_Mask_l4_B R := shut_eq _

noncomputable def haystackref01_Mask_B {R : Type} (n730 : Int) (K0 : Int → Option R) : Option R :=
 haystackref01_Mask_l4 (n730) (0) (0)
  (fun n740 => K0 (n740))
noncomputable def haystackref01_Mask {R : Type} := shut (@haystackref01_Mask_B R)
theorem haystackref01_Mask_unf {R : Type} : @haystackref01_Mask R = @haystackref01_Mask_B R := shut_eq _

noncomputable def haystackref02_Check_j4_B {R : Type} (n728 : Int) (xs729 : List Int) (K0 : Bool → Option R) : Option R :=
 sel (decide (remW n728 64 = 0))
  (K0 (true))
  (sel (decide (0 ≤ subW .i64 (↑(List.length xs729) : Int) 1))
   (sel (decide (subW .i64 (↑(List.length xs729) : Int) 1 < (↑(List.length xs729) : Int)))
    (haystackref01_Mask (remW n728 64)
     (fun n741 => letV (decide (andNotW .u64 (List.getD xs729 (Int.toNat (subW .i64 (↑(List.length xs729) : Int) 1)) 0) n741 = 0)) (fun (b742 : Bool) =>
     K0 (b742))))
    (none))
   (none))
noncomputable def haystackref02_Check_j4 {R : Type} := shut (@haystackref02_Check_j4_B R)
theorem haystackref02_Check_j4_unf {R : Type} : @haystackref02_Check_j4 R = @haystackref02_Check_j4_B R := shut_eq _

noncomputable def haystackref02_Check_B {R : Type} (n724 : Int) (xs725 : List Int) (K0 : Bool → Option R) : Option R :=
 sel (decide (n724 < 0))
  (K0 (false))
  (sel (decide (1048576 < n724))
   (K0 (false))
   (haystackref02_Words (n724)
    (fun n727 => sel (!decide ((↑(List.length xs725) : Int) = n727))
     (K0 (false))
     (haystackref02_Check_j4 (n724) (xs725)
      (fun b743 => K0 (b743))))))
noncomputable def haystackref02_Check {R : Type} := shut (@haystackref02_Check_B R)
theorem haystackref02_Check_unf {R : Type} : @haystackref02_Check R = @haystackref02_Check_B R := shut_eq _

noncomputable def haystackref03_Check_B {R : Type} (n720 : Int) (n721 : Int) (n722 : Int) (xs723 : List Int) (K0 : Bool → Option R) : Option R :=
 sel (decide (1 ≤ n721))
  (sel (decide (n721 ≤ 64))
   (sel (decide (0 ≤ n720))
    (sel (decide (n720 ≤ 1048576))
     (haystackref02_Check (n722) (xs723)
      (fun b744 => sel (b744)
       (K0 (decide (n722 = mulW .i64 n720 n721)))
       (K0 (false))))
     (K0 (false)))
    (K0 (false)))
   (K0 (false)))
  (K0 (false))
noncomputable def haystackref03_Check {R : Type} := shut (@haystackref03_Check_B R)
theorem haystackref03_Check_unf {R : Type} : @haystackref03_Check R = @haystackref03_Check_B R := shut_eq _

noncomputable def haystackref02_At_B {R : Type} (_n770 : Int) (xs771 : List Int) (n772 : Int) (K0 : Bool → Option R) : Option R :=
 sel (decide (0 ≤ quoW .i64 n772 64))
  (sel (decide (quoW .i64 n772 64 < (↑(List.length xs771) : Int)))
   (sel (decide (0 ≤ cvtW .u64 (remW n772 64)))
    (letV (decide (remW (shrW .u64 (List.getD xs771 (Int.toNat (quoW .i64 n772 64)) 0) (cvtW .u64 (remW n772 64))) 2 = 1)) (fun (b773 : Bool) =>
    K0 (b773)))
    (none))
   (none))
  (none)
noncomputable def haystackref02_At {R : Type} := shut (@haystackref02_At_B R)
theorem haystackref02_At_unf {R : Type} : @haystackref02_At R = @haystackref02_At_B R := shut_eq _

noncomputable def haystackref02_Slice_l8_T {R : Type} (rec : Int → Int → Int → Int → Int → List Int → Option R) (n764 : Int) (n765 : Int) (n766 : Int) (n767 : Int) (n768 : Int) (xs769 : List Int) (K0 : Int → Option R) : Option R :=
 sel (decide (n767 < n765))
  (haystackref02_At (n768) (xs769) (addW .i64 n764 n767)
   (fun b774 => sel (b774)
    (sel (decide (0 ≤ cvtW .u64 n767))
     (rec (n764) (n765) (orW .u64 n766 (shlW .u64 1 (cvtW .u64 n767))) (addW .i64 n767 1) (n768) (xs769))
     (none))
    (rec (n764) (n765) (n766) (addW .i64 n767 1) (n768) (xs769))))
  (K0 (n766))
noncomputable def haystackref02_Slice_l8_L {R : Type} (K0 : Int → Option R) : Nat → Int → Int → Int → Int → Int → List Int → Option R
  | 0, _, _, _, _, _, _ => none
  | N + 1, n764, n765, n766, n767, n768, xs769 => haystackref02_Slice_l8_T (haystackref02_Slice_l8_L K0 N) n764 n765 n766 n767 n768 xs769 K0
noncomputable def haystackref02_Slice_l8_B {R : Type} (n764 : Int) (n765 : Int) (n766 : Int) (n767 : Int) (n768 : Int) (xs769 : List Int) (K0 : Int → Option R) : Option R :=
 haystackref02_Slice_l8_L K0 NR n764 n765 n766 n767 n768 xs769
noncomputable def haystackref02_Slice_l8 {R : Type} := shut (@haystackref02_Slice_l8_B R)
theorem haystackref02_Slice_l8_unf {R : Type} : @haystackref02_Slice_l8 R = @haystackref02_Slice_l8_B R := shut_eq _

noncomputable def haystackref02_Slice_j6_B {R : Type} (n760 : Int) (n761 : Int) (n762 : Int) (xs763 : List Int) (K0 : Int → Int → Option R) : Option R :=
 haystackref02_Slice_l8 (n760) (n761) (0) (0) (n762) (xs763)
  (fun n775 => K0 (n775) (0))
noncomputable def haystackref02_Slice_j6 {R : Type} := shut (@haystackref02_Slice_j6_B R)
theorem haystackref02_Slice_j6_unf {R : Type} : @haystackref02_Slice_j6 R = @haystackref02_Slice_j6_B R := shut_eq _

noncomputable def haystackref02_Slice_j4_B {R : Type} (n756 : Int) (n757 : Int) (n758 : Int) (xs759 : List Int) (K0 : Int → Int → Option R) : Option R :=
 sel (decide (n756 < 0))
  (K0 (0) (3))
  (sel (decide (n758 < n756))
   (K0 (0) (3))
   (sel (decide (subW .i64 n758 n756 < n757))
    (K0 (0) (3))
    (haystackref02_Slice_j6 (n756) (n757) (n758) (xs759)
     (fun n776 n777 => K0 (n776) (n777)))))
noncomputable def haystackref02_Slice_j4 {R : Type} := shut (@haystackref02_Slice_j4_B R)
theorem haystackref02_Slice_j4_unf {R : Type} : @haystackref02_Slice_j4 R = @haystackref02_Slice_j4_B R := shut_eq _

noncomputable def haystackref02_Slice_B {R : Type} (n751 : Int) (xs752 : List Int) (n753 : Int) (n754 : Int) (K0 : Int → Int → Option R) : Option R :=
 haystackref02_Check (n751) (xs752)
  (fun b755 => sel (!b755)
   (K0 (0) (2))
   (sel (decide (n754 < 0))
    (K0 (0) (2))
    (sel (decide (64 < n754))
     (K0 (0) (2))
     (haystackref02_Slice_j4 (n753) (n754) (n751) (xs752)
      (fun n778 n779 => K0 (n778) (n779))))))
noncomputable def haystackref02_Slice {R : Type} := shut (@haystackref02_Slice_B R)
theorem haystackref02_Slice_unf {R : Type} : @haystackref02_Slice R = @haystackref02_Slice_B R := shut_eq _

noncomputable def haystackref03_Get_j6_B {R : Type} (n746 : Int) (_n747 : Int) (n748 : Int) (n749 : Int) (xs750 : List Int) (K0 : Int → Int → Option R) : Option R :=
 haystackref02_Slice (n749) (xs750) (mulW .i64 n746 n748) (n748)
  (fun n780 n781 => K0 (n780) (n781))
noncomputable def haystackref03_Get_j6 {R : Type} := shut (@haystackref03_Get_j6_B R)
theorem haystackref03_Get_j6_unf {R : Type} : @haystackref03_Get_j6 R = @haystackref03_Get_j6_B R := shut_eq _

noncomputable def haystackref03_Get_B {R : Type} (n715 : Int) (n716 : Int) (n717 : Int) (xs718 : List Int) (n719 : Int) (K0 : Int → Int → Option R) : Option R :=
 haystackref03_Check (n715) (n716) (n717) (xs718)
  (fun b745 => sel (!b745)
   (K0 (0) (2))
   (sel (decide (n719 < 0))
    (K0 (0) (3))
    (sel (decide (n715 ≤ n719))
     (K0 (0) (3))
     (haystackref03_Get_j6 (n719) (n715) (n716) (n717) (xs718)
      (fun n782 n783 => K0 (n782) (n783))))))
noncomputable def haystackref03_Get {R : Type} := shut (@haystackref03_Get_B R)
theorem haystackref03_Get_unf {R : Type} : @haystackref03_Get R = @haystackref03_Get_B R := shut_eq _

noncomputable def haystackref03_Put_j5_B {R : Type} (n798 : Int) (n799 : Int) (b800 : Bool) (n801 : Int) (n802 : Int) (n803 : Int) (xs804 : List Int) (n805 : Int) (n806 : Int) (n807 : Int) (K0 : Int → Int → Int → Int → List Int → Option R) (K1 : Int → Int → Int → Int → Int → List Int → Int → Int → Int → Option R) : Option R :=
 sel (b800)
  (K0 (3) (n801) (n802) (n803) (xs804))
  (K1 (n798) (n799) (n801) (n802) (n803) (xs804) (n805) (n806) (n807))
noncomputable def haystackref03_Put_j5 {R : Type} := shut (@haystackref03_Put_j5_B R)
theorem haystackref03_Put_j5_unf {R : Type} : @haystackref03_Put_j5 R = @haystackref03_Put_j5_B R := shut_eq _

noncomputable def haystackref01_Len_l3_T {R : Type} (rec : Int → Int → Option R) (n834 : Int) (n835 : Int) (K0 : Int → Option R) (K1 : Unit → Option R) : Option R :=
 sel (decide (0 < n835))
  (sel (decide (0 ≤ cvtW .u64 (subW .i64 n835 1)))
   (sel (decide (remW (shrW .u64 n834 (cvtW .u64 (subW .i64 n835 1))) 2 = 1))
    (K0 (n835))
    (rec (n834) (subW .i64 n835 1)))
   (none))
  (K1 ())
noncomputable def haystackref01_Len_l3_L {R : Type} (K0 : Int → Option R) (K1 : Unit → Option R) : Nat → Int → Int → Option R
  | 0, _, _ => none
  | N + 1, n834, n835 => haystackref01_Len_l3_T (haystackref01_Len_l3_L K0 K1 N) n834 n835 K0 K1
noncomputable def haystackref01_Len_l3_B {R : Type} (n834 : Int) (n835 : Int) (K0 : Int → Option R) (K1 : Unit → Option R) : Option R :=
 haystackref01_Len_l3_L K0 K1 NR n834 n835
noncomputable def haystackref01_Len_l3 {R : Type} := shut (@haystackref01_Len_l3_B R)
theorem haystackref01_Len_l3_unf {R : Type} : @haystackref01_Len_l3 R = @haystackref01_Len_l3_B R := shut_eq _

noncomputable def haystackref01_Len_B {R : Type} (n833 : Int) (K0 : Int → Option R) : Option R :=
 haystackref01_Len_l3 (n833) (64)
  (fun n836 => K0 (n836))
  (fun _ => K0 (0))
noncomputable def haystackref01_Len {R : Type} := shut (@haystackref01_Len_B R)
theorem haystackref01_Len_unf {R : Type} : @haystackref01_Len R = @haystackref01_Len_B R := shut_eq _

noncomputable def haystackref03_fits_B {R : Type} (n831 : Int) (n832 : Int) (K0 : Bool → Option R) : Option R :=
 haystackref01_Len (n831)
  (fun n837 => K0 (decide (n837 ≤ n832)))
noncomputable def haystackref03_fits {R : Type} := shut (@haystackref03_fits_B R)
theorem haystackref03_fits_unf {R : Type} : @haystackref03_fits R = @haystackref03_fits_B R := shut_eq _

noncomputable def haystackref03_List_j6_B {R : Type} (n849 : Int) (n850 : Int) (n851 : Int) (n852 : Int) (xs853 : List Int) (K0 : Nat → Int → Int → Int → Int → List Int → List Int → Option R) : Option R :=
 haystackref03_Get (n850) (n851) (n852) (xs853) (n849)
  (fun n854 n855 => letV ([n854]) (fun (xs856 : List Int) =>
  sel (decide (1 = List.length xs856))
   (K0 (1) (addW .i64 n849 1) (n850) (n851) (n852) (xs853) (xs856))
   (sel (decide (0 + 1 ≤ List.length xs856))
    (letV (List.take 1 (List.drop 0 xs856)) (fun (xs857 : List Int) =>
    K0 (1) (addW .i64 n849 1) (n850) (n851) (n852) (xs853) (xs857)))
    (none))))
noncomputable def haystackref03_List_j6 {R : Type} := shut (@haystackref03_List_j6_B R)
theorem haystackref03_List_j6_unf {R : Type} : @haystackref03_List_j6 R = @haystackref03_List_j6_B R := shut_eq _

noncomputable def haystackref03_List_j6_1_B {R : Type} (l873 : Nat) (n874 : Int) (n875 : Int) (n876 : Int) (n877 : Int) (xs878 : List Int) (xs879 : List Int) (K0 : Nat → Int → Int → Int → Int → List Int → List Int → Option R) : Option R :=
 haystackref03_Get (n875) (n876) (n877) (xs878) (n874)
  (fun n880 n881 => letV ([n880]) (fun (xs882 : List Int) =>
  sel (decide (1 = List.length xs882))
   (sel (decide (List.length xs879 = l873))
    (sel (decide ((l873 + 1) * 8 ≤ 140737488355328))
     (letV (xs879 ++ xs882) (fun (xs883 : List Int) =>
     K0 (l873 + 1) (addW .i64 n874 1) (n875) (n876) (n877) (xs878) (xs883)))
     (none))
    (none))
   (sel (decide (0 + 1 ≤ List.length xs882))
    (sel (decide (List.length xs879 = l873))
     (sel (decide ((l873 + 1) * 8 ≤ 140737488355328))
      (letV (xs879 ++ List.take 1 (List.drop 0 xs882)) (fun (xs884 : List Int) =>
      K0 (l873 + 1) (addW .i64 n874 1) (n875) (n876) (n877) (xs878) (xs884)))
      (none))
     (none))
    (none))))
noncomputable def haystackref03_List_j6_1 {R : Type} := shut (@haystackref03_List_j6_1_B R)
theorem haystackref03_List_j6_1_unf {R : Type} : @haystackref03_List_j6_1 R = @haystackref03_List_j6_1_B R := shut_eq _

noncomputable def haystackref03_List_l4_1_T {R : Type} (rec : Nat → Int → Int → Int → Int → List Int → List Int → Option R) (l865 : Nat) (n866 : Int) (n867 : Int) (n868 : Int) (n869 : Int) (xs870 : List Int) (xs871 : List Int) (K0 : Nat → List Int → Option R) : Option R :=
 sel (decide (n866 < n867))
  (haystackref03_Check (n867) (n868) (n869) (xs870)
   (fun b872 => sel (b872)
    (haystackref03_List_j6_1 (l865) (n866) (n867) (n868) (n869) (xs870) (xs871)
     (fun l885 n886 n887 n888 n889 xs890 xs891 => rec (l885) (n886) (n887) (n888) (n889) (xs890) (xs891)))
    (K0 (l865) (xs871))))
  (K0 (l865) (xs871))
noncomputable def haystackref03_List_l4_1_L {R : Type} (K0 : Nat → List Int → Option R) : Nat → Nat → Int → Int → Int → Int → List Int → List Int → Option R
  | 0, _, _, _, _, _, _, _ => none
  | N + 1, l865, n866, n867, n868, n869, xs870, xs871 => haystackref03_List_l4_1_T (haystackref03_List_l4_1_L K0 N) l865 n866 n867 n868 n869 xs870 xs871 K0
noncomputable def haystackref03_List_l4_1_B {R : Type} (l865 : Nat) (n866 : Int) (n867 : Int) (n868 : Int) (n869 : Int) (xs870 : List Int) (xs871 : List Int) (K0 : Nat → List Int → Option R) : Option R :=
 haystackref03_List_l4_1_L K0 NR l865 n866 n867 n868 n869 xs870 xs871
noncomputable def haystackref03_List_l4_1 {R : Type} := shut (@haystackref03_List_l4_1_B R)
theorem haystackref03_List_l4_1_unf {R : Type} : @haystackref03_List_l4_1 R = @haystackref03_List_l4_1_B R := shut_eq _

noncomputable def haystackref03_List_l4_T {R : Type} (rec : Int → Int → Int → Int → List Int → Option R) (rec0 : Nat → Int → Int → Int → Int → List Int → List Int → Option R) (n843 : Int) (n844 : Int) (n845 : Int) (n846 : Int) (xs847 : List Int) (K0 : Nat → List Int → Option R) (K1 : Unit → Option R) : Option R :=
 sel (decide (n843 < n844))
  (haystackref03_Check (n844) (n845) (n846) (xs847)
   (fun b848 => sel (b848)
    (haystackref03_List_j6 (n843) (n844) (n845) (n846) (xs847)
     (fun l858 n859 n860 n861 n862 xs863 xs864 => rec0 (l858) (n859) (n860) (n861) (n862) (xs863) (xs864)))
    (K1 ())))
  (K1 ())
noncomputable def haystackref03_List_l4_L {R : Type} (K0 : Nat → List Int → Option R) (K1 : Unit → Option R) : Nat → Int → Int → Int → Int → List Int → Option R
  | 0, _, _, _, _, _ => none
  | N + 1, n843, n844, n845, n846, xs847 => haystackref03_List_l4_T (haystackref03_List_l4_L K0 K1 N) (haystackref03_List_l4_1_L K0 N) n843 n844 n845 n846 xs847 K0 K1
noncomputable def haystackref03_List_l4_B {R : Type} (n843 : Int) (n844 : Int) (n845 : Int) (n846 : Int) (xs847 : List Int) (K0 : Nat → List Int → Option R) (K1 : Unit → Option R) : Option R :=
 haystackref03_List_l4_L K0 K1 NR n843 n844 n845 n846 xs847
noncomputable def haystackref03_List_l4 {R : Type} := shut (@haystackref03_List_l4_B R)
theorem haystackref03_List_l4_unf {R : Type} : @haystackref03_List_l4 R = @haystackref03_List_l4_B R := shut_eq _

noncomputable def haystackref03_List_r_B {R : Type} (n839 : Int) (n840 : Int) (n841 : Int) (xs842 : List Int) (K0 : Nat → List Int → Option R) (K1 : Unit → Option R) : Option R :=
 haystackref03_List_l4 (0) (n839) (n840) (n841) (xs842)
  (fun l892 xs893 => K0 (l892) (xs893))
  (fun _ => K1 ())
noncomputable def haystackref03_List_r {R : Type} := shut (@haystackref03_List_r_B R)
theorem haystackref03_List_r_unf {R : Type} : @haystackref03_List_r R = @haystackref03_List_r_B R := shut_eq _

noncomputable def haystackref03_Make_j3_B {R : Type} (n900 : Int) (l901 : Nat) (b902 : Bool) (xs903 : List Int) (n904 : Int) (n905 : Int) (n906 : Int) (K0 : Int → List Int → Int → Int → Int → Option R) (K1 : Int → Nat → List Int → Int → Int → Int → Option R) : Option R :=
 sel (b902)
  (K0 (2) (xs903) (0) (0) (0))
  (K1 (n900) (l901) (xs903) (n904) (n905) (n906))
noncomputable def haystackref03_Make_j3 {R : Type} := shut (@haystackref03_Make_j3_B R)
theorem haystackref03_Make_j3_unf {R : Type} : @haystackref03_Make_j3 R = @haystackref03_Make_j3_B R := shut_eq _

noncomputable def haystackref03_Make_l11_1_T {R : Type} (rec : Int → Nat → Nat → Int → Int → List Int → Int → Int → Int → List Bool → Option R) (n942 : Int) (l943 : Nat) (l944 : Nat) (n945 : Int) (n946 : Int) (xs947 : List Int) (n948 : Int) (n949 : Int) (n950 : Int) (bs951 : List Bool) (K0 : Int → Nat → Nat → Int → List Int → Int → Int → Int → List Bool → Option R) : Option R :=
 sel (decide (n946 < n942))
  (sel (decide (0 ≤ n945))
   (sel (decide (n945 < (↑l943 : Int)))
    (sel (decide (Int.toNat n945 < List.length xs947))
     (sel (decide (0 ≤ cvtW .u64 n946))
      (letV (decide (remW (shrW .u64 (List.getD xs947 (Int.toNat n945) 0) (cvtW .u64 n946)) 2 = 1)) (fun (b952 : Bool) =>
      letV ([b952]) (fun (bs953 : List Bool) =>
      sel (decide (1 = List.length bs953))
       (sel (decide (List.length bs951 = l944))
        (sel (decide ((l944 + 1) * 1 ≤ 140737488355328))
         (letV (bs951 ++ bs953) (fun (bs954 : List Bool) =>
         rec (n942) (l943) (l944 + 1) (n945) (addW .i64 n946 1) (xs947) (n948) (n949) (n950) (bs954)))
         (none))
        (none))
       (sel (decide (0 + 1 ≤ List.length bs953))
        (sel (decide (List.length bs951 = l944))
         (sel (decide ((l944 + 1) * 1 ≤ 140737488355328))
          (letV (bs951 ++ List.take 1 (List.drop 0 bs953)) (fun (bs955 : List Bool) =>
          rec (n942) (l943) (l944 + 1) (n945) (addW .i64 n946 1) (xs947) (n948) (n949) (n950) (bs955)))
          (none))
         (none))
        (none)))))
      (none))
     (none))
    (none))
   (none))
  (K0 (n942) (l943) (l944) (n945) (xs947) (n948) (n949) (n950) (bs951))
noncomputable def haystackref03_Make_l11_1_L {R : Type} (K0 : Int → Nat → Nat → Int → List Int → Int → Int → Int → List Bool → Option R) : Nat → Int → Nat → Nat → Int → Int → List Int → Int → Int → Int → List Bool → Option R
  | 0, _, _, _, _, _, _, _, _, _, _ => none
  | N + 1, n942, l943, l944, n945, n946, xs947, n948, n949, n950, bs951 => haystackref03_Make_l11_1_T (haystackref03_Make_l11_1_L K0 N) n942 l943 l944 n945 n946 xs947 n948 n949 n950 bs951 K0
noncomputable def haystackref03_Make_l11_1_B {R : Type} (n942 : Int) (l943 : Nat) (l944 : Nat) (n945 : Int) (n946 : Int) (xs947 : List Int) (n948 : Int) (n949 : Int) (n950 : Int) (bs951 : List Bool) (K0 : Int → Nat → Nat → Int → List Int → Int → Int → Int → List Bool → Option R) : Option R :=
 haystackref03_Make_l11_1_L K0 NR n942 l943 l944 n945 n946 xs947 n948 n949 n950 bs951
noncomputable def haystackref03_Make_l11_1 {R : Type} := shut (@haystackref03_Make_l11_1_B R)
theorem haystackref03_Make_l11_1_unf {R : Type} : @haystackref03_Make_l11_1 R = @haystackref03_Make_l11_1_B R := shut_eq _

noncomputable def haystackref03_Make_l11_T {R : Type} (rec : Int → Nat → Int → Int → List Int → Int → Int → Int → Option R) (rec0 : Int → Nat → Nat → Int → Int → List Int → Int → Int → Int → List Bool → Option R) (n932 : Int) (l933 : Nat) (n934 : Int) (n935 : Int) (xs936 : List Int) (n937 : Int) (n938 : Int) (n939 : Int) (K0 : Int → Nat → Nat → Int → List Int → Int → Int → Int → List Bool → Option R) (K1 : Int → Nat → Int → List Int → Int → Int → Int → Option R) : Option R :=
 sel (decide (n935 < n932))
  (sel (decide (0 ≤ n934))
   (sel (decide (n934 < (↑l933 : Int)))
    (sel (decide (Int.toNat n934 < List.length xs936))
     (sel (decide (0 ≤ cvtW .u64 n935))
      (letV (decide (remW (shrW .u64 (List.getD xs936 (Int.toNat n934) 0) (cvtW .u64 n935)) 2 = 1)) (fun (b940 : Bool) =>
      letV ([b940]) (fun (bs941 : List Bool) =>
      sel (decide (1 = List.length bs941))
       (rec0 (n932) (l933) (1) (n934) (addW .i64 n935 1) (xs936) (n937) (n938) (n939) (bs941))
       (sel (decide (0 + 1 ≤ List.length bs941))
        (letV (List.take 1 (List.drop 0 bs941)) (fun (bs956 : List Bool) =>
        rec0 (n932) (l933) (1) (n934) (addW .i64 n935 1) (xs936) (n937) (n938) (n939) (bs956)))
        (none)))))
      (none))
     (none))
    (none))
   (none))
  (K1 (n932) (l933) (n934) (xs936) (n937) (n938) (n939))
noncomputable def haystackref03_Make_l11_L {R : Type} (K0 : Int → Nat → Nat → Int → List Int → Int → Int → Int → List Bool → Option R) (K1 : Int → Nat → Int → List Int → Int → Int → Int → Option R) : Nat → Int → Nat → Int → Int → List Int → Int → Int → Int → Option R
  | 0, _, _, _, _, _, _, _, _ => none
  | N + 1, n932, l933, n934, n935, xs936, n937, n938, n939 => haystackref03_Make_l11_T (haystackref03_Make_l11_L K0 K1 N) (haystackref03_Make_l11_1_L K0 N) n932 l933 n934 n935 xs936 n937 n938 n939 K0 K1
noncomputable def haystackref03_Make_l11_B {R : Type} (n932 : Int) (l933 : Nat) (n934 : Int) (n935 : Int) (xs936 : List Int) (n937 : Int) (n938 : Int) (n939 : Int) (K0 : Int → Nat → Nat → Int → List Int → Int → Int → Int → List Bool → Option R) (K1 : Int → Nat → Int → List Int → Int → Int → Int → Option R) : Option R :=
 haystackref03_Make_l11_L K0 K1 NR n932 l933 n934 n935 xs936 n937 n938 n939
noncomputable def haystackref03_Make_l11 {R : Type} := shut (@haystackref03_Make_l11_B R)
theorem haystackref03_Make_l11_unf {R : Type} : @haystackref03_Make_l11 R = @haystackref03_Make_l11_B R := shut_eq _

noncomputable def haystackref03_Make_l6_1_T {R : Type} (rec : Int → Nat → Nat → Int → List Int → Int → Int → Int → List Bool → Option R) (n966 : Int) (l967 : Nat) (l968 : Nat) (n969 : Int) (xs970 : List Int) (n971 : Int) (n972 : Int) (n973 : Int) (bs974 : List Bool) (K0 : Int → List Int → Int → Int → Int → Option R) (K1 : Int → Nat → Nat → List Int → Int → Int → Int → List Bool → Option R) : Option R :=
 sel (decide (n969 < (↑l967 : Int)))
  (sel (decide (0 ≤ n969))
   (sel (decide (n969 < (↑l967 : Int)))
    (sel (decide (Int.toNat n969 < List.length xs970))
     (haystackref03_fits (List.getD xs970 (Int.toNat n969) 0) (n966)
      (fun b975 => sel (!b975)
       (K0 (2) (xs970) (0) (0) (0))
       (haystackref03_Make_l11_1 (n966) (l967) (l968) (n969) (0) (xs970) (n971) (n972) (n973) (bs974)
        (fun n976 l977 l978 n979 xs980 n981 n982 n983 bs984 => rec (n976) (l977) (l978) (addW .i64 n979 1) (xs980) (n981) (n982) (n983) (bs984)))))
     (none))
    (none))
   (none))
  (K1 (n966) (l967) (l968) (xs970) (n971) (n972) (n973) (bs974))
noncomputable def haystackref03_Make_l6_1_L {R : Type} (K0 : Int → List Int → Int → Int → Int → Option R) (K1 : Int → Nat → Nat → List Int → Int → Int → Int → List Bool → Option R) : Nat → Int → Nat → Nat → Int → List Int → Int → Int → Int → List Bool → Option R
  | 0, _, _, _, _, _, _, _, _, _ => none
  | N + 1, n966, l967, l968, n969, xs970, n971, n972, n973, bs974 => haystackref03_Make_l6_1_T (haystackref03_Make_l6_1_L K0 K1 N) n966 l967 l968 n969 xs970 n971 n972 n973 bs974 K0 K1
noncomputable def haystackref03_Make_l6_1_B {R : Type} (n966 : Int) (l967 : Nat) (l968 : Nat) (n969 : Int) (xs970 : List Int) (n971 : Int) (n972 : Int) (n973 : Int) (bs974 : List Bool) (K0 : Int → List Int → Int → Int → Int → Option R) (K1 : Int → Nat → Nat → List Int → Int → Int → Int → List Bool → Option R) : Option R :=
 haystackref03_Make_l6_1_L K0 K1 NR n966 l967 l968 n969 xs970 n971 n972 n973 bs974
noncomputable def haystackref03_Make_l6_1 {R : Type} := shut (@haystackref03_Make_l6_1_B R)
theorem haystackref03_Make_l6_1_unf {R : Type} : @haystackref03_Make_l6_1 R = @haystackref03_Make_l6_1_B R := shut_eq _

noncomputable def haystackref03_Make_l6_T {R : Type} (rec : Int → Nat → Int → List Int → Int → Int → Int → Option R) (rec0 : Int → Nat → Nat → Int → List Int → Int → Int → Int → List Bool → Option R) (n924 : Int) (l925 : Nat) (n926 : Int) (xs927 : List Int) (n928 : Int) (n929 : Int) (n930 : Int) (K0 : Int → List Int → Int → Int → Int → Option R) (K1 : Int → Nat → Nat → List Int → Int → Int → Int → List Bool → Option R) (K2 : Int → Nat → List Int → Int → Int → Int → Option R) : Option R :=
 sel (decide (n926 < (↑l925 : Int)))
  (sel (decide (0 ≤ n926))
   (sel (decide (n926 < (↑l925 : Int)))
    (sel (decide (Int.toNat n926 < List.length xs927))
     (haystackref03_fits (List.getD xs927 (Int.toNat n926) 0) (n924)
      (fun b931 => sel (!b931)
       (K0 (2) (xs927) (0) (0) (0))
       (haystackref03_Make_l11 (n924) (l925) (n926) (0) (xs927) (n928) (n929) (n930)
        (fun n957 l958 l959 n960 xs961 n962 n963 n964 bs965 => rec0 (n957) (l958) (l959) (addW .i64 n960 1) (xs961) (n962) (n963) (n964) (bs965))
        (fun n985 l986 n987 xs988 n989 n990 n991 => rec (n985) (l986) (addW .i64 n987 1) (xs988) (n989) (n990) (n991)))))
     (none))
    (none))
   (none))
  (K2 (n924) (l925) (xs927) (n928) (n929) (n930))
noncomputable def haystackref03_Make_l6_L {R : Type} (K0 : Int → List Int → Int → Int → Int → Option R) (K1 : Int → Nat → Nat → List Int → Int → Int → Int → List Bool → Option R) (K2 : Int → Nat → List Int → Int → Int → Int → Option R) : Nat → Int → Nat → Int → List Int → Int → Int → Int → Option R
  | 0, _, _, _, _, _, _, _ => none
  | N + 1, n924, l925, n926, xs927, n928, n929, n930 => haystackref03_Make_l6_T (haystackref03_Make_l6_L K0 K1 K2 N) (haystackref03_Make_l6_1_L K0 K1 N) n924 l925 n926 xs927 n928 n929 n930 K0 K1 K2
noncomputable def haystackref03_Make_l6_B {R : Type} (n924 : Int) (l925 : Nat) (n926 : Int) (xs927 : List Int) (n928 : Int) (n929 : Int) (n930 : Int) (K0 : Int → List Int → Int → Int → Int → Option R) (K1 : Int → Nat → Nat → List Int → Int → Int → Int → List Bool → Option R) (K2 : Int → Nat → List Int → Int → Int → Int → Option R) : Option R :=
 haystackref03_Make_l6_L K0 K1 K2 NR n924 l925 n926 xs927 n928 n929 n930
noncomputable def haystackref03_Make_l6 {R : Type} := shut (@haystackref03_Make_l6_B R)
theorem haystackref03_Make_l6_unf {R : Type} : @haystackref03_Make_l6 R = @haystackref03_Make_l6_B R := shut_eq _

noncomputable def haystackref02_New_j3_B {R : Type} (n1008 : Int) (b1009 : Bool) (n1010 : Int) (K0 : Int → Int → Option R) (K1 : Int → Int → Option R) : Option R :=
 sel (b1009)
  (K0 (2) (0))
  (K1 (n1008) (n1010))
noncomputable def haystackref02_New_j3 {R : Type} := shut (@haystackref02_New_j3_B R)
theorem haystackref02_New_j3_unf {R : Type} : @haystackref02_New_j3 R = @haystackref02_New_j3_B R := shut_eq _

noncomputable def haystackref02_New_j4_B {R : Type} (n1015 : Int) (_n1016 : Int) (K0 : Int → Int → Nat → List Int → Option R) : Option R :=
 haystackref02_Words (n1015)
  (fun n1017 => sel (decide (0 ≤ n1017))
   (sel (decide (n1017 ≤ n1017))
    (sel (decide (n1017 ≤ 281474976710656))
     (sel (decide ((↑8 : Int) * n1017 ≤ 281474976710656))
      (letV (List.replicate (Int.toNat n1017) 0) (fun (xs1018 : List Int) =>
      K0 (0) (n1015) (Int.toNat n1017) (xs1018)))
      (none))
     (none))
    (none))
   (none))
noncomputable def haystackref02_New_j4 {R : Type} := shut (@haystackref02_New_j4_B R)
theorem haystackref02_New_j4_unf {R : Type} : @haystackref02_New_j4 R = @haystackref02_New_j4_B R := shut_eq _

noncomputable def haystackref02_New_r_B {R : Type} (n1007 : Int) (K0 : Int → Int → Option R) (K1 : Int → Nat → Int → List Int → Option R) : Option R :=
 sel (decide (n1007 < 0))
  (haystackref02_New_j3 (n1007) (true) (0)
   (fun n1011 n1012 => K0 (n1012) (n1011))
   (fun n1013 n1014 => haystackref02_New_j4 (n1013) (n1014)
    (fun n1019 n1020 l1021 xs1022 => K1 (n1020) (l1021) (n1019) (xs1022))))
  (haystackref02_New_j3 (n1007) (decide (1048576 < n1007)) (0)
   (fun n1023 n1024 => K0 (n1024) (n1023))
   (fun n1025 n1026 => haystackref02_New_j4 (n1025) (n1026)
    (fun n1027 n1028 l1029 xs1030 => K1 (n1028) (l1029) (n1027) (xs1030))))
noncomputable def haystackref02_New_r {R : Type} := shut (@haystackref02_New_r_B R)
theorem haystackref02_New_r_unf {R : Type} : @haystackref02_New_r R = @haystackref02_New_r_B R := shut_eq _

noncomputable def haystackref02_put_B {R : Type} (xs1039 : List Int) (n1040 : Int) (_b1041 : Bool) : Option R :=
 sel (decide (0 ≤ quoW .i64 n1040 64))
  (sel (decide (quoW .i64 n1040 64 < (↑(List.length xs1039) : Int)))
   (sel (decide (0 ≤ cvtW .u64 (remW n1040 64)))
    (sel (decide (0 ≤ quoW .i64 n1040 64))
     (sel (decide (quoW .i64 n1040 64 < (↑(List.length xs1039) : Int)))
      (none)
      (none))
     (none))
    (none))
   (none))
  (none)
noncomputable def haystackref02_put {R : Type} := shut (@haystackref02_put_B R)
theorem haystackref02_put_unf {R : Type} : @haystackref02_put R = @haystackref02_put_B R := shut_eq _

noncomputable def haystackref02_From_l4_T {R : Type} (rec : Nat → Int → Int → List Bool → Int → Int → Option R) (l1033 : Nat) (n1034 : Int) (n1035 : Int) (bs1036 : List Bool) (n1037 : Int) (n1038 : Int) (K0 : Int → List Bool → Int → Int → Option R) : Option R :=
 sel (decide (n1035 < n1038))
  (sel (decide (0 ≤ n1035))
   (sel (decide (n1035 < (↑l1033 : Int)))
    (sel (decide (Int.toNat n1035 < List.length bs1036))
     (haystackref02_put ([]) (n1035) (List.getD bs1036 (Int.toNat n1035) false))
     (none))
    (none))
   (none))
  (K0 (n1034) (bs1036) (n1037) (n1038))
noncomputable def haystackref02_From_l4_L {R : Type} (K0 : Int → List Bool → Int → Int → Option R) : Nat → Nat → Int → Int → List Bool → Int → Int → Option R
  | 0, _, _, _, _, _, _ => none
  | N + 1, l1033, n1034, n1035, bs1036, n1037, n1038 => haystackref02_From_l4_T (haystackref02_From_l4_L K0 N) l1033 n1034 n1035 bs1036 n1037 n1038 K0
noncomputable def haystackref02_From_l4_B {R : Type} (l1033 : Nat) (n1034 : Int) (n1035 : Int) (bs1036 : List Bool) (n1037 : Int) (n1038 : Int) (K0 : Int → List Bool → Int → Int → Option R) : Option R :=
 haystackref02_From_l4_L K0 NR l1033 n1034 n1035 bs1036 n1037 n1038
noncomputable def haystackref02_From_l4 {R : Type} := shut (@haystackref02_From_l4_B R)
theorem haystackref02_From_l4_unf {R : Type} : @haystackref02_From_l4 R = @haystackref02_From_l4_B R := shut_eq _

noncomputable def haystackref02_put_r_B {R : Type} (l1058 : Nat) (n1059 : Int) (b1060 : Bool) (xs1061 : List Int) (K0 : List Int → Option R) : Option R :=
 sel (decide (0 ≤ quoW .i64 n1059 64))
  (sel (decide (quoW .i64 n1059 64 < (↑l1058 : Int)))
   (sel (decide (Int.toNat (quoW .i64 n1059 64) < List.length xs1061))
    (sel (decide (0 ≤ cvtW .u64 (remW n1059 64)))
     (sel (decide (0 ≤ quoW .i64 n1059 64))
      (sel (decide (quoW .i64 n1059 64 < (↑l1058 : Int)))
       (sel (decide (Int.toNat (quoW .i64 n1059 64) < List.length xs1061))
        (letV (List.set xs1061 (Int.toNat (quoW .i64 n1059 64)) (andNotW .u64 (List.getD xs1061 (Int.toNat (quoW .i64 n1059 64)) 0) (shlW .u64 1 (cvtW .u64 (remW n1059 64))))) (fun (xs1062 : List Int) =>
        sel (b1060)
         (sel (decide (0 ≤ quoW .i64 n1059 64))
          (sel (decide (quoW .i64 n1059 64 < (↑l1058 : Int)))
           (sel (decide (Int.toNat (quoW .i64 n1059 64) < List.length xs1062))
            (sel (decide (0 ≤ cvtW .u64 (remW n1059 64)))
             (sel (decide (0 ≤ quoW .i64 n1059 64))
              (sel (decide (quoW .i64 n1059 64 < (↑l1058 : Int)))
               (sel (decide (Int.toNat (quoW .i64 n1059 64) < List.length xs1062))
                (letV (List.set xs1062 (Int.toNat (quoW .i64 n1059 64)) (orW .u64 (List.getD xs1062 (Int.toNat (quoW .i64 n1059 64)) 0) (shlW .u64 1 (cvtW .u64 (remW n1059 64))))) (fun (xs1063 : List Int) =>
                K0 (xs1063)))
                (none))
               (none))
              (none))
             (none))
            (none))
           (none))
          (none))
         (K0 (xs1062))))
        (none))
       (none))
      (none))
     (none))
    (none))
   (none))
  (none)
noncomputable def haystackref02_put_r {R : Type} := shut (@haystackref02_put_r_B R)
theorem haystackref02_put_r_unf {R : Type} : @haystackref02_put_r R = @haystackref02_put_r_B R := shut_eq _

noncomputable def haystackref02_From_l4_1_T {R : Type} (rec : Nat → Int → Int → List Bool → Int → Int → Nat → List Int → Option R) (l1050 : Nat) (n1051 : Int) (n1052 : Int) (bs1053 : List Bool) (n1054 : Int) (n1055 : Int) (l1056 : Nat) (xs1057 : List Int) (K0 : Int → List Bool → Int → Int → Nat → List Int → Option R) : Option R :=
 sel (decide (n1052 < n1055))
  (sel (decide (0 ≤ n1052))
   (sel (decide (n1052 < (↑l1050 : Int)))
    (sel (decide (Int.toNat n1052 < List.length bs1053))
     (haystackref02_put_r (l1056) (n1052) (List.getD bs1053 (Int.toNat n1052) false) (xs1057)
      (fun xs1064 => rec (l1050) (n1051) (addW .i64 n1052 1) (bs1053) (n1054) (n1055) (l1056) (xs1064)))
     (none))
    (none))
   (none))
  (K0 (n1051) (bs1053) (n1054) (n1055) (l1056) (xs1057))
noncomputable def haystackref02_From_l4_1_L {R : Type} (K0 : Int → List Bool → Int → Int → Nat → List Int → Option R) : Nat → Nat → Int → Int → List Bool → Int → Int → Nat → List Int → Option R
  | 0, _, _, _, _, _, _, _, _ => none
  | N + 1, l1050, n1051, n1052, bs1053, n1054, n1055, l1056, xs1057 => haystackref02_From_l4_1_T (haystackref02_From_l4_1_L K0 N) l1050 n1051 n1052 bs1053 n1054 n1055 l1056 xs1057 K0
noncomputable def haystackref02_From_l4_1_B {R : Type} (l1050 : Nat) (n1051 : Int) (n1052 : Int) (bs1053 : List Bool) (n1054 : Int) (n1055 : Int) (l1056 : Nat) (xs1057 : List Int) (K0 : Int → List Bool → Int → Int → Nat → List Int → Option R) : Option R :=
 haystackref02_From_l4_1_L K0 NR l1050 n1051 n1052 bs1053 n1054 n1055 l1056 xs1057
noncomputable def haystackref02_From_l4_1 {R : Type} := shut (@haystackref02_From_l4_1_B R)
theorem haystackref02_From_l4_1_unf {R : Type} : @haystackref02_From_l4_1 R = @haystackref02_From_l4_1_B R := shut_eq _

noncomputable def haystackref02_From_r_B {R : Type} (l1005 : Nat) (bs1006 : List Bool) (K0 : Int → Int → List Bool → Option R) (K1 : Int → Nat → Int → List Bool → List Int → Option R) : Option R :=
 haystackref02_New_r ((↑l1005 : Int))
  (fun n1031 n1032 => haystackref02_From_l4 (l1005) (n1032) (0) (bs1006) (0) (n1031)
   (fun n1042 bs1043 n1044 n1045 => K0 (n1045) (n1042) (bs1043)))
  (fun n1046 l1047 n1048 xs1049 => haystackref02_From_l4_1 (l1005) (n1048) (0) (bs1006) (0) (n1046) (l1047) (xs1049)
   (fun n1065 bs1066 n1067 n1068 l1069 xs1070 => K1 (n1068) (l1069) (n1065) (bs1066) (xs1070)))
noncomputable def haystackref02_From_r {R : Type} := shut (@haystackref02_From_r_B R)
theorem haystackref02_From_r_unf {R : Type} : @haystackref02_From_r R = @haystackref02_From_r_B R := shut_eq _

noncomputable def haystackref02_From_l4_2_T {R : Type} (rec : List Bool → Int → Int → Int → Int → Option R) (bs1088 : List Bool) (n1089 : Int) (n1090 : Int) (n1091 : Int) (n1092 : Int) (K0 : Int → Int → Int → Option R) : Option R :=
 sel (decide (n1090 < n1092))
  (sel (decide (0 ≤ n1090))
   (sel (decide (n1090 < (↑(List.length bs1088) : Int)))
    (haystackref02_put ([]) (n1090) (List.getD bs1088 (Int.toNat n1090) false))
    (none))
   (none))
  (K0 (n1089) (n1091) (n1092))
noncomputable def haystackref02_From_l4_2_L {R : Type} (K0 : Int → Int → Int → Option R) : Nat → List Bool → Int → Int → Int → Int → Option R
  | 0, _, _, _, _, _ => none
  | N + 1, bs1088, n1089, n1090, n1091, n1092 => haystackref02_From_l4_2_T (haystackref02_From_l4_2_L K0 N) bs1088 n1089 n1090 n1091 n1092 K0
noncomputable def haystackref02_From_l4_2_B {R : Type} (bs1088 : List Bool) (n1089 : Int) (n1090 : Int) (n1091 : Int) (n1092 : Int) (K0 : Int → Int → Int → Option R) : Option R :=
 haystackref02_From_l4_2_L K0 NR bs1088 n1089 n1090 n1091 n1092
noncomputable def haystackref02_From_l4_2 {R : Type} := shut (@haystackref02_From_l4_2_B R)
theorem haystackref02_From_l4_2_unf {R : Type} : @haystackref02_From_l4_2 R = @haystackref02_From_l4_2_B R := shut_eq _

noncomputable def haystackref02_From_l4_3_T {R : Type} (rec : List Bool → Int → Int → Int → Int → Nat → List Int → Option R) (bs1100 : List Bool) (n1101 : Int) (n1102 : Int) (n1103 : Int) (n1104 : Int) (l1105 : Nat) (xs1106 : List Int) (K0 : Int → Int → Int → Nat → List Int → Option R) : Option R :=
 sel (decide (n1102 < n1104))
  (sel (decide (0 ≤ n1102))
   (sel (decide (n1102 < (↑(List.length bs1100) : Int)))
    (haystackref02_put_r (l1105) (n1102) (List.getD bs1100 (Int.toNat n1102) false) (xs1106)
     (fun xs1107 => rec (bs1100) (n1101) (addW .i64 n1102 1) (n1103) (n1104) (l1105) (xs1107)))
    (none))
   (none))
  (K0 (n1101) (n1103) (n1104) (l1105) (xs1106))
noncomputable def haystackref02_From_l4_3_L {R : Type} (K0 : Int → Int → Int → Nat → List Int → Option R) : Nat → List Bool → Int → Int → Int → Int → Nat → List Int → Option R
  | 0, _, _, _, _, _, _, _ => none
  | N + 1, bs1100, n1101, n1102, n1103, n1104, l1105, xs1106 => haystackref02_From_l4_3_T (haystackref02_From_l4_3_L K0 N) bs1100 n1101 n1102 n1103 n1104 l1105 xs1106 K0
noncomputable def haystackref02_From_l4_3_B {R : Type} (bs1100 : List Bool) (n1101 : Int) (n1102 : Int) (n1103 : Int) (n1104 : Int) (l1105 : Nat) (xs1106 : List Int) (K0 : Int → Int → Int → Nat → List Int → Option R) : Option R :=
 haystackref02_From_l4_3_L K0 NR bs1100 n1101 n1102 n1103 n1104 l1105 xs1106
noncomputable def haystackref02_From_l4_3 {R : Type} := shut (@haystackref02_From_l4_3_B R)
theorem haystackref02_From_l4_3_unf {R : Type} : @haystackref02_From_l4_3 R = @haystackref02_From_l4_3_B R := shut_eq _

noncomputable def haystackref02_From_B {R : Type} (bs1085 : List Bool) (K0 : Int → List Int → Int → Option R) : Option R :=
 haystackref02_New_r ((↑(List.length bs1085) : Int))
  (fun n1086 n1087 => haystackref02_From_l4_2 (bs1085) (n1087) (0) (0) (n1086)
   (fun n1093 n1094 n1095 => K0 (n1095) ([]) (n1093)))
  (fun n1096 l1097 n1098 xs1099 => haystackref02_From_l4_3 (bs1085) (n1098) (0) (0) (n1096) (l1097) (xs1099)
   (fun n1108 n1109 n1110 l1111 xs1112 => sel (decide (l1111 = List.length xs1112))
    (K0 (n1110) (xs1112) (n1108))
    (sel (decide (0 + l1111 ≤ List.length xs1112))
     (K0 (n1110) (List.take l1111 (List.drop 0 xs1112)) (n1108))
     (none))))
noncomputable def haystackref02_From {R : Type} := shut (@haystackref02_From_B R)
theorem haystackref02_From_unf {R : Type} : @haystackref02_From R = @haystackref02_From_B R := shut_eq _

noncomputable def haystackref03_Make_j4_B {R : Type} (n918 : Int) (l919 : Nat) (xs920 : List Int) (n921 : Int) (n922 : Int) (n923 : Int) (K0 : Int → List Int → Int → Int → Int → Option R) (K1 : Int → List Int → Int → Int → Int → Nat → List Int → Option R) (K2 : Int → List Int → Int → Int → Int → List Int → Option R) : Option R :=
 haystackref03_Make_l6 (n918) (l919) (0) (xs920) (n921) (n922) (n923)
  (fun n992 xs993 n994 n995 n996 => K0 (n992) (xs993) (n994) (n995) (n996))
  (fun n997 l998 l999 xs1000 n1001 n1002 n1003 bs1004 => haystackref02_From_r (l999) (bs1004)
   (fun n1071 n1072 bs1073 => K0 (0) (xs1000) ((↑l998 : Int)) (n997) (n1071))
   (fun n1074 l1075 n1076 bs1077 xs1078 => K1 (0) (xs1000) ((↑l998 : Int)) (n997) (n1074) (l1075) (xs1078)))
  (fun n1079 l1080 xs1081 n1082 n1083 n1084 => haystackref02_From ([])
   (fun n1113 xs1114 n1115 => K2 (0) (xs1081) ((↑l1080 : Int)) (n1079) (n1113) (xs1114)))
noncomputable def haystackref03_Make_j4 {R : Type} := shut (@haystackref03_Make_j4_B R)
theorem haystackref03_Make_j4_unf {R : Type} : @haystackref03_Make_j4 R = @haystackref03_Make_j4_B R := shut_eq _

noncomputable def haystackref03_Make_r_B {R : Type} (n897 : Int) (l898 : Nat) (xs899 : List Int) (K0 : Int → Int → Int → Int → List Int → Option R) (K1 : Int → Int → Int → Nat → Int → List Int → List Int → Option R) (K2 : Int → Int → Int → List Int → Int → List Int → Option R) : Option R :=
 sel (decide (n897 < 1))
  (haystackref03_Make_j3 (n897) (l898) (true) (xs899) (0) (0) (0)
   (fun n907 xs908 n909 n910 n911 => K0 (n909) (n910) (n911) (n907) (xs908))
   (fun n912 l913 xs914 n915 n916 n917 => haystackref03_Make_j4 (n912) (l913) (xs914) (n915) (n916) (n917)
    (fun n1116 xs1117 n1118 n1119 n1120 => K0 (n1118) (n1119) (n1120) (n1116) (xs1117))
    (fun n1121 xs1122 n1123 n1124 n1125 l1126 xs1127 => K1 (n1123) (n1124) (n1125) (l1126) (n1121) (xs1122) (xs1127))
    (fun n1128 xs1129 n1130 n1131 n1132 xs1133 => K2 (n1130) (n1131) (n1132) (xs1133) (n1128) (xs1129))))
  (sel (decide (64 < n897))
   (haystackref03_Make_j3 (n897) (l898) (true) (xs899) (0) (0) (0)
    (fun n1134 xs1135 n1136 n1137 n1138 => K0 (n1136) (n1137) (n1138) (n1134) (xs1135))
    (fun n1139 l1140 xs1141 n1142 n1143 n1144 => haystackref03_Make_j4 (n1139) (l1140) (xs1141) (n1142) (n1143) (n1144)
     (fun n1145 xs1146 n1147 n1148 n1149 => K0 (n1147) (n1148) (n1149) (n1145) (xs1146))
     (fun n1150 xs1151 n1152 n1153 n1154 l1155 xs1156 => K1 (n1152) (n1153) (n1154) (l1155) (n1150) (xs1151) (xs1156))
     (fun n1157 xs1158 n1159 n1160 n1161 xs1162 => K2 (n1159) (n1160) (n1161) (xs1162) (n1157) (xs1158))))
   (sel (decide (1048576 < (↑l898 : Int)))
    (haystackref03_Make_j3 (n897) (l898) (true) (xs899) (0) (0) (0)
     (fun n1163 xs1164 n1165 n1166 n1167 => K0 (n1165) (n1166) (n1167) (n1163) (xs1164))
     (fun n1168 l1169 xs1170 n1171 n1172 n1173 => haystackref03_Make_j4 (n1168) (l1169) (xs1170) (n1171) (n1172) (n1173)
      (fun n1174 xs1175 n1176 n1177 n1178 => K0 (n1176) (n1177) (n1178) (n1174) (xs1175))
      (fun n1179 xs1180 n1181 n1182 n1183 l1184 xs1185 => K1 (n1181) (n1182) (n1183) (l1184) (n1179) (xs1180) (xs1185))
      (fun n1186 xs1187 n1188 n1189 n1190 xs1191 => K2 (n1188) (n1189) (n1190) (xs1191) (n1186) (xs1187))))
    (haystackref03_Make_j3 (n897) (l898) (decide (1048576 < mulW .i64 (↑l898 : Int) n897)) (xs899) (0) (0) (0)
     (fun n1192 xs1193 n1194 n1195 n1196 => K0 (n1194) (n1195) (n1196) (n1192) (xs1193))
     (fun n1197 l1198 xs1199 n1200 n1201 n1202 => haystackref03_Make_j4 (n1197) (l1198) (xs1199) (n1200) (n1201) (n1202)
      (fun n1203 xs1204 n1205 n1206 n1207 => K0 (n1205) (n1206) (n1207) (n1203) (xs1204))
      (fun n1208 xs1209 n1210 n1211 n1212 l1213 xs1214 => K1 (n1210) (n1211) (n1212) (l1213) (n1208) (xs1209) (xs1214))
      (fun n1215 xs1216 n1217 n1218 n1219 xs1220 => K2 (n1217) (n1218) (n1219) (xs1220) (n1215) (xs1216))))))
noncomputable def haystackref03_Make_r {R : Type} := shut (@haystackref03_Make_r_B R)
theorem haystackref03_Make_r_unf {R : Type} : @haystackref03_Make_r R = @haystackref03_Make_r_B R := shut_eq _

noncomputable def haystackref03_Put_j6_B {R : Type} (n822 : Int) (n823 : Int) (n824 : Int) (n825 : Int) (n826 : Int) (xs827 : List Int) (_n828 : Int) (_n829 : Int) (_n830 : Int) (K0 : Int → Int → Int → Int → List Int → Option R) (K1 : Int → Int → Int → Int → Option R) (K2 : Int → Int → Int → Int → Nat → List Int → Option R) : Option R :=
 haystackref03_fits (n823) (n825)
  (fun b838 => sel (!b838)
   (K0 (2) (n824) (n825) (n826) (xs827))
   (haystackref03_List_r (n824) (n825) (n826) (xs827)
    (fun l894 xs895 => sel (decide (0 ≤ n822))
     (sel (decide (n822 < (↑l894 : Int)))
      (sel (decide (Int.toNat n822 < List.length xs895))
       (letV (List.set xs895 (Int.toNat n822) n823) (fun (xs896 : List Int) =>
       haystackref03_Make_r (n825) (l894) (xs896)
        (fun n1221 n1222 n1223 n1224 xs1225 => K1 (n1224) (n1221) (n1222) (n1223))
        (fun n1226 n1227 n1228 l1229 n1230 xs1231 xs1232 => K2 (n1230) (n1226) (n1227) (n1228) (l1229) (xs1232))
        (fun n1233 n1234 n1235 xs1236 n1237 xs1238 => K0 (n1237) (n1233) (n1234) (n1235) (xs1236))))
       (none))
      (none))
     (none))
    (fun _ => none)))
noncomputable def haystackref03_Put_j6 {R : Type} := shut (@haystackref03_Put_j6_B R)
theorem haystackref03_Put_j6_unf {R : Type} : @haystackref03_Put_j6 R = @haystackref03_Put_j6_B R := shut_eq _

noncomputable def haystackref03_Put_B {R : Type} (n791 : Int) (n792 : Int) (n793 : Int) (xs794 : List Int) (n795 : Int) (n796 : Int) (K0 : Int → Int → Int → List Int → Int → Option R) : Option R :=
 haystackref03_Check (n791) (n792) (n793) (xs794)
  (fun b797 => sel (!b797)
   (K0 (n791) (n792) (n793) (xs794) (2))
   (sel (decide (n795 < 0))
    (haystackref03_Put_j5 (n795) (n796) (true) (n791) (n792) (n793) (xs794) (0) (0) (0)
     (fun n808 n809 n810 n811 xs812 => K0 (n809) (n810) (n811) (xs812) (n808))
     (fun n813 n814 n815 n816 n817 xs818 n819 n820 n821 => haystackref03_Put_j6 (n813) (n814) (n815) (n816) (n817) (xs818) (n819) (n820) (n821)
      (fun n1239 n1240 n1241 n1242 xs1243 => K0 (n1240) (n1241) (n1242) (xs1243) (n1239))
      (fun n1244 n1245 n1246 n1247 => K0 (n1245) (n1246) (n1247) ([]) (n1244))
      (fun n1248 n1249 n1250 n1251 l1252 xs1253 => sel (decide (l1252 = List.length xs1253))
       (K0 (n1249) (n1250) (n1251) (xs1253) (n1248))
       (sel (decide (0 + l1252 ≤ List.length xs1253))
        (K0 (n1249) (n1250) (n1251) (List.take l1252 (List.drop 0 xs1253)) (n1248))
        (none)))))
    (haystackref03_Put_j5 (n795) (n796) (decide (n791 ≤ n795)) (n791) (n792) (n793) (xs794) (0) (0) (0)
     (fun n1254 n1255 n1256 n1257 xs1258 => K0 (n1255) (n1256) (n1257) (xs1258) (n1254))
     (fun n1259 n1260 n1261 n1262 n1263 xs1264 n1265 n1266 n1267 => haystackref03_Put_j6 (n1259) (n1260) (n1261) (n1262) (n1263) (xs1264) (n1265) (n1266) (n1267)
      (fun n1268 n1269 n1270 n1271 xs1272 => K0 (n1269) (n1270) (n1271) (xs1272) (n1268))
      (fun n1273 n1274 n1275 n1276 => K0 (n1274) (n1275) (n1276) ([]) (n1273))
      (fun n1277 n1278 n1279 n1280 l1281 xs1282 => sel (decide (l1281 = List.length xs1282))
       (K0 (n1278) (n1279) (n1280) (xs1282) (n1277))
       (sel (decide (0 + l1281 ≤ List.length xs1282))
        (K0 (n1278) (n1279) (n1280) (List.take l1281 (List.drop 0 xs1282)) (n1277))
        (none)))))))
noncomputable def haystackref03_Put {R : Type} := shut (@haystackref03_Put_B R)
theorem haystackref03_Put_unf {R : Type} : @haystackref03_Put R = @haystackref03_Put_B R := shut_eq _

noncomputable def haystackref03_Make_j3_1_B {R : Type} (n1315 : Int) (xs1316 : List Int) (b1317 : Bool) (n1318 : Int) (n1319 : Int) (n1320 : Int) (K0 : Int → Int → Int → Int → Option R) (K1 : Int → List Int → Int → Int → Int → Option R) : Option R :=
 sel (b1317)
  (K0 (2) (0) (0) (0))
  (K1 (n1315) (xs1316) (n1318) (n1319) (n1320))
noncomputable def haystackref03_Make_j3_1 {R : Type} := shut (@haystackref03_Make_j3_1_B R)
theorem haystackref03_Make_j3_1_unf {R : Type} : @haystackref03_Make_j3_1 R = @haystackref03_Make_j3_1_B R := shut_eq _

noncomputable def haystackref03_Make_l11_3_T {R : Type} (rec : Int → List Int → Nat → Int → Int → Int → Int → Int → List Bool → Option R) (n1351 : Int) (xs1352 : List Int) (l1353 : Nat) (n1354 : Int) (n1355 : Int) (n1356 : Int) (n1357 : Int) (n1358 : Int) (bs1359 : List Bool) (K0 : Int → List Int → Nat → Int → Int → Int → Int → List Bool → Option R) : Option R :=
 sel (decide (n1355 < n1351))
  (sel (decide (0 ≤ n1354))
   (sel (decide (n1354 < (↑(List.length xs1352) : Int)))
    (sel (decide (0 ≤ cvtW .u64 n1355))
     (letV (decide (remW (shrW .u64 (List.getD xs1352 (Int.toNat n1354) 0) (cvtW .u64 n1355)) 2 = 1)) (fun (b1360 : Bool) =>
     letV ([b1360]) (fun (bs1361 : List Bool) =>
     sel (decide (1 = List.length bs1361))
      (sel (decide (List.length bs1359 = l1353))
       (sel (decide ((l1353 + 1) * 1 ≤ 140737488355328))
        (letV (bs1359 ++ bs1361) (fun (bs1362 : List Bool) =>
        rec (n1351) (xs1352) (l1353 + 1) (n1354) (addW .i64 n1355 1) (n1356) (n1357) (n1358) (bs1362)))
        (none))
       (none))
      (sel (decide (0 + 1 ≤ List.length bs1361))
       (sel (decide (List.length bs1359 = l1353))
        (sel (decide ((l1353 + 1) * 1 ≤ 140737488355328))
         (letV (bs1359 ++ List.take 1 (List.drop 0 bs1361)) (fun (bs1363 : List Bool) =>
         rec (n1351) (xs1352) (l1353 + 1) (n1354) (addW .i64 n1355 1) (n1356) (n1357) (n1358) (bs1363)))
         (none))
        (none))
       (none)))))
     (none))
    (none))
   (none))
  (K0 (n1351) (xs1352) (l1353) (n1354) (n1356) (n1357) (n1358) (bs1359))
noncomputable def haystackref03_Make_l11_3_L {R : Type} (K0 : Int → List Int → Nat → Int → Int → Int → Int → List Bool → Option R) : Nat → Int → List Int → Nat → Int → Int → Int → Int → Int → List Bool → Option R
  | 0, _, _, _, _, _, _, _, _, _ => none
  | N + 1, n1351, xs1352, l1353, n1354, n1355, n1356, n1357, n1358, bs1359 => haystackref03_Make_l11_3_T (haystackref03_Make_l11_3_L K0 N) n1351 xs1352 l1353 n1354 n1355 n1356 n1357 n1358 bs1359 K0
noncomputable def haystackref03_Make_l11_3_B {R : Type} (n1351 : Int) (xs1352 : List Int) (l1353 : Nat) (n1354 : Int) (n1355 : Int) (n1356 : Int) (n1357 : Int) (n1358 : Int) (bs1359 : List Bool) (K0 : Int → List Int → Nat → Int → Int → Int → Int → List Bool → Option R) : Option R :=
 haystackref03_Make_l11_3_L K0 NR n1351 xs1352 l1353 n1354 n1355 n1356 n1357 n1358 bs1359
noncomputable def haystackref03_Make_l11_3 {R : Type} := shut (@haystackref03_Make_l11_3_B R)
theorem haystackref03_Make_l11_3_unf {R : Type} : @haystackref03_Make_l11_3 R = @haystackref03_Make_l11_3_B R := shut_eq _

noncomputable def haystackref03_Make_l11_2_T {R : Type} (rec : Int → List Int → Int → Int → Int → Int → Int → Option R) (rec0 : Int → List Int → Nat → Int → Int → Int → Int → Int → List Bool → Option R) (n1342 : Int) (xs1343 : List Int) (n1344 : Int) (n1345 : Int) (n1346 : Int) (n1347 : Int) (n1348 : Int) (K0 : Int → List Int → Nat → Int → Int → Int → Int → List Bool → Option R) (K1 : Int → List Int → Int → Int → Int → Int → Option R) : Option R :=
 sel (decide (n1345 < n1342))
  (sel (decide (0 ≤ n1344))
   (sel (decide (n1344 < (↑(List.length xs1343) : Int)))
    (sel (decide (0 ≤ cvtW .u64 n1345))
     (letV (decide (remW (shrW .u64 (List.getD xs1343 (Int.toNat n1344) 0) (cvtW .u64 n1345)) 2 = 1)) (fun (b1349 : Bool) =>
     letV ([b1349]) (fun (bs1350 : List Bool) =>
     sel (decide (1 = List.length bs1350))
      (rec0 (n1342) (xs1343) (1) (n1344) (addW .i64 n1345 1) (n1346) (n1347) (n1348) (bs1350))
      (sel (decide (0 + 1 ≤ List.length bs1350))
       (letV (List.take 1 (List.drop 0 bs1350)) (fun (bs1364 : List Bool) =>
       rec0 (n1342) (xs1343) (1) (n1344) (addW .i64 n1345 1) (n1346) (n1347) (n1348) (bs1364)))
       (none)))))
     (none))
    (none))
   (none))
  (K1 (n1342) (xs1343) (n1344) (n1346) (n1347) (n1348))
noncomputable def haystackref03_Make_l11_2_L {R : Type} (K0 : Int → List Int → Nat → Int → Int → Int → Int → List Bool → Option R) (K1 : Int → List Int → Int → Int → Int → Int → Option R) : Nat → Int → List Int → Int → Int → Int → Int → Int → Option R
  | 0, _, _, _, _, _, _, _ => none
  | N + 1, n1342, xs1343, n1344, n1345, n1346, n1347, n1348 => haystackref03_Make_l11_2_T (haystackref03_Make_l11_2_L K0 K1 N) (haystackref03_Make_l11_3_L K0 N) n1342 xs1343 n1344 n1345 n1346 n1347 n1348 K0 K1
noncomputable def haystackref03_Make_l11_2_B {R : Type} (n1342 : Int) (xs1343 : List Int) (n1344 : Int) (n1345 : Int) (n1346 : Int) (n1347 : Int) (n1348 : Int) (K0 : Int → List Int → Nat → Int → Int → Int → Int → List Bool → Option R) (K1 : Int → List Int → Int → Int → Int → Int → Option R) : Option R :=
 haystackref03_Make_l11_2_L K0 K1 NR n1342 xs1343 n1344 n1345 n1346 n1347 n1348
noncomputable def haystackref03_Make_l11_2 {R : Type} := shut (@haystackref03_Make_l11_2_B R)
theorem haystackref03_Make_l11_2_unf {R : Type} : @haystackref03_Make_l11_2 R = @haystackref03_Make_l11_2_B R := shut_eq _

noncomputable def haystackref03_Make_l6_3_T {R : Type} (rec : Int → List Int → Nat → Int → Int → Int → Int → List Bool → Option R) (n1373 : Int) (xs1374 : List Int) (l1375 : Nat) (n1376 : Int) (n1377 : Int) (n1378 : Int) (n1379 : Int) (bs1380 : List Bool) (K0 : Int → Int → Int → Int → Option R) (K1 : Int → List Int → Nat → Int → Int → Int → List Bool → Option R) : Option R :=
 sel (decide (n1376 < (↑(List.length xs1374) : Int)))
  (sel (decide (0 ≤ n1376))
   (sel (decide (n1376 < (↑(List.length xs1374) : Int)))
    (haystackref03_fits (List.getD xs1374 (Int.toNat n1376) 0) (n1373)
     (fun b1381 => sel (!b1381)
      (K0 (2) (0) (0) (0))
      (haystackref03_Make_l11_3 (n1373) (xs1374) (l1375) (n1376) (0) (n1377) (n1378) (n1379) (bs1380)
       (fun n1382 xs1383 l1384 n1385 n1386 n1387 n1388 bs1389 => rec (n1382) (xs1383) (l1384) (addW .i64 n1385 1) (n1386) (n1387) (n1388) (bs1389)))))
    (none))
   (none))
  (K1 (n1373) (xs1374) (l1375) (n1377) (n1378) (n1379) (bs1380))
noncomputable def haystackref03_Make_l6_3_L {R : Type} (K0 : Int → Int → Int → Int → Option R) (K1 : Int → List Int → Nat → Int → Int → Int → List Bool → Option R) : Nat → Int → List Int → Nat → Int → Int → Int → Int → List Bool → Option R
  | 0, _, _, _, _, _, _, _, _ => none
  | N + 1, n1373, xs1374, l1375, n1376, n1377, n1378, n1379, bs1380 => haystackref03_Make_l6_3_T (haystackref03_Make_l6_3_L K0 K1 N) n1373 xs1374 l1375 n1376 n1377 n1378 n1379 bs1380 K0 K1
noncomputable def haystackref03_Make_l6_3_B {R : Type} (n1373 : Int) (xs1374 : List Int) (l1375 : Nat) (n1376 : Int) (n1377 : Int) (n1378 : Int) (n1379 : Int) (bs1380 : List Bool) (K0 : Int → Int → Int → Int → Option R) (K1 : Int → List Int → Nat → Int → Int → Int → List Bool → Option R) : Option R :=
 haystackref03_Make_l6_3_L K0 K1 NR n1373 xs1374 l1375 n1376 n1377 n1378 n1379 bs1380
noncomputable def haystackref03_Make_l6_3 {R : Type} := shut (@haystackref03_Make_l6_3_B R)
theorem haystackref03_Make_l6_3_unf {R : Type} : @haystackref03_Make_l6_3 R = @haystackref03_Make_l6_3_B R := shut_eq _

noncomputable def haystackref03_Make_l6_2_T {R : Type} (rec : Int → List Int → Int → Int → Int → Int → Option R) (rec0 : Int → List Int → Nat → Int → Int → Int → Int → List Bool → Option R) (n1335 : Int) (xs1336 : List Int) (n1337 : Int) (n1338 : Int) (n1339 : Int) (n1340 : Int) (K0 : Int → Int → Int → Int → Option R) (K1 : Int → List Int → Nat → Int → Int → Int → List Bool → Option R) (K2 : Int → List Int → Int → Int → Int → Option R) : Option R :=
 sel (decide (n1337 < (↑(List.length xs1336) : Int)))
  (sel (decide (0 ≤ n1337))
   (sel (decide (n1337 < (↑(List.length xs1336) : Int)))
    (haystackref03_fits (List.getD xs1336 (Int.toNat n1337) 0) (n1335)
     (fun b1341 => sel (!b1341)
      (K0 (2) (0) (0) (0))
      (haystackref03_Make_l11_2 (n1335) (xs1336) (n1337) (0) (n1338) (n1339) (n1340)
       (fun n1365 xs1366 l1367 n1368 n1369 n1370 n1371 bs1372 => rec0 (n1365) (xs1366) (l1367) (addW .i64 n1368 1) (n1369) (n1370) (n1371) (bs1372))
       (fun n1390 xs1391 n1392 n1393 n1394 n1395 => rec (n1390) (xs1391) (addW .i64 n1392 1) (n1393) (n1394) (n1395)))))
    (none))
   (none))
  (K2 (n1335) (xs1336) (n1338) (n1339) (n1340))
noncomputable def haystackref03_Make_l6_2_L {R : Type} (K0 : Int → Int → Int → Int → Option R) (K1 : Int → List Int → Nat → Int → Int → Int → List Bool → Option R) (K2 : Int → List Int → Int → Int → Int → Option R) : Nat → Int → List Int → Int → Int → Int → Int → Option R
  | 0, _, _, _, _, _, _ => none
  | N + 1, n1335, xs1336, n1337, n1338, n1339, n1340 => haystackref03_Make_l6_2_T (haystackref03_Make_l6_2_L K0 K1 K2 N) (haystackref03_Make_l6_3_L K0 K1 N) n1335 xs1336 n1337 n1338 n1339 n1340 K0 K1 K2
noncomputable def haystackref03_Make_l6_2_B {R : Type} (n1335 : Int) (xs1336 : List Int) (n1337 : Int) (n1338 : Int) (n1339 : Int) (n1340 : Int) (K0 : Int → Int → Int → Int → Option R) (K1 : Int → List Int → Nat → Int → Int → Int → List Bool → Option R) (K2 : Int → List Int → Int → Int → Int → Option R) : Option R :=
 haystackref03_Make_l6_2_L K0 K1 K2 NR n1335 xs1336 n1337 n1338 n1339 n1340
noncomputable def haystackref03_Make_l6_2 {R : Type} := shut (@haystackref03_Make_l6_2_B R)
theorem haystackref03_Make_l6_2_unf {R : Type} : @haystackref03_Make_l6_2 R = @haystackref03_Make_l6_2_B R := shut_eq _

noncomputable def haystackref03_Make_j4_1_B {R : Type} (n1330 : Int) (xs1331 : List Int) (n1332 : Int) (n1333 : Int) (n1334 : Int) (K0 : Int → Int → Int → Int → Option R) (K1 : Int → Int → Int → Int → Nat → List Int → Option R) (K2 : Int → Int → Int → Int → List Int → Option R) : Option R :=
 haystackref03_Make_l6_2 (n1330) (xs1331) (0) (n1332) (n1333) (n1334)
  (fun n1396 n1397 n1398 n1399 => K0 (n1396) (n1397) (n1398) (n1399))
  (fun n1400 xs1401 l1402 n1403 n1404 n1405 bs1406 => haystackref02_From_r (l1402) (bs1406)
   (fun n1407 n1408 bs1409 => K0 (0) ((↑(List.length xs1401) : Int)) (n1400) (n1407))
   (fun n1410 l1411 n1412 bs1413 xs1414 => K1 (0) ((↑(List.length xs1401) : Int)) (n1400) (n1410) (l1411) (xs1414)))
  (fun n1415 xs1416 n1417 n1418 n1419 => haystackref02_From ([])
   (fun n1420 xs1421 n1422 => K2 (0) ((↑(List.length xs1416) : Int)) (n1415) (n1420) (xs1421)))
noncomputable def haystackref03_Make_j4_1 {R : Type} := shut (@haystackref03_Make_j4_1_B R)
theorem haystackref03_Make_j4_1_unf {R : Type} : @haystackref03_Make_j4_1 R = @haystackref03_Make_j4_1_B R := shut_eq _

noncomputable def haystackref03_Make_B {R : Type} (n1313 : Int) (xs1314 : List Int) (K0 : Int → Int → Int → List Int → Int → Option R) : Option R :=
 sel (decide (n1313 < 1))
  (haystackref03_Make_j3_1 (n1313) (xs1314) (true) (0) (0) (0)
   (fun n1321 n1322 n1323 n1324 => K0 (n1322) (n1323) (n1324) ([]) (n1321))
   (fun n1325 xs1326 n1327 n1328 n1329 => haystackref03_Make_j4_1 (n1325) (xs1326) (n1327) (n1328) (n1329)
    (fun n1423 n1424 n1425 n1426 => K0 (n1424) (n1425) (n1426) ([]) (n1423))
    (fun n1427 n1428 n1429 n1430 l1431 xs1432 => sel (decide (l1431 = List.length xs1432))
     (K0 (n1428) (n1429) (n1430) (xs1432) (n1427))
     (sel (decide (0 + l1431 ≤ List.length xs1432))
      (K0 (n1428) (n1429) (n1430) (List.take l1431 (List.drop 0 xs1432)) (n1427))
      (none)))
    (fun n1433 n1434 n1435 n1436 xs1437 => K0 (n1434) (n1435) (n1436) (xs1437) (n1433))))
  (sel (decide (64 < n1313))
   (haystackref03_Make_j3_1 (n1313) (xs1314) (true) (0) (0) (0)
    (fun n1438 n1439 n1440 n1441 => K0 (n1439) (n1440) (n1441) ([]) (n1438))
    (fun n1442 xs1443 n1444 n1445 n1446 => haystackref03_Make_j4_1 (n1442) (xs1443) (n1444) (n1445) (n1446)
     (fun n1447 n1448 n1449 n1450 => K0 (n1448) (n1449) (n1450) ([]) (n1447))
     (fun n1451 n1452 n1453 n1454 l1455 xs1456 => sel (decide (l1455 = List.length xs1456))
      (K0 (n1452) (n1453) (n1454) (xs1456) (n1451))
      (sel (decide (0 + l1455 ≤ List.length xs1456))
       (K0 (n1452) (n1453) (n1454) (List.take l1455 (List.drop 0 xs1456)) (n1451))
       (none)))
     (fun n1457 n1458 n1459 n1460 xs1461 => K0 (n1458) (n1459) (n1460) (xs1461) (n1457))))
   (sel (decide (1048576 < (↑(List.length xs1314) : Int)))
    (haystackref03_Make_j3_1 (n1313) (xs1314) (true) (0) (0) (0)
     (fun n1462 n1463 n1464 n1465 => K0 (n1463) (n1464) (n1465) ([]) (n1462))
     (fun n1466 xs1467 n1468 n1469 n1470 => haystackref03_Make_j4_1 (n1466) (xs1467) (n1468) (n1469) (n1470)
      (fun n1471 n1472 n1473 n1474 => K0 (n1472) (n1473) (n1474) ([]) (n1471))
      (fun n1475 n1476 n1477 n1478 l1479 xs1480 => sel (decide (l1479 = List.length xs1480))
       (K0 (n1476) (n1477) (n1478) (xs1480) (n1475))
       (sel (decide (0 + l1479 ≤ List.length xs1480))
        (K0 (n1476) (n1477) (n1478) (List.take l1479 (List.drop 0 xs1480)) (n1475))
        (none)))
      (fun n1481 n1482 n1483 n1484 xs1485 => K0 (n1482) (n1483) (n1484) (xs1485) (n1481))))
    (haystackref03_Make_j3_1 (n1313) (xs1314) (decide (1048576 < mulW .i64 (↑(List.length xs1314) : Int) n1313)) (0) (0) (0)
     (fun n1486 n1487 n1488 n1489 => K0 (n1487) (n1488) (n1489) ([]) (n1486))
     (fun n1490 xs1491 n1492 n1493 n1494 => haystackref03_Make_j4_1 (n1490) (xs1491) (n1492) (n1493) (n1494)
      (fun n1495 n1496 n1497 n1498 => K0 (n1496) (n1497) (n1498) ([]) (n1495))
      (fun n1499 n1500 n1501 n1502 l1503 xs1504 => sel (decide (l1503 = List.length xs1504))
       (K0 (n1500) (n1501) (n1502) (xs1504) (n1499))
       (sel (decide (0 + l1503 ≤ List.length xs1504))
        (K0 (n1500) (n1501) (n1502) (List.take l1503 (List.drop 0 xs1504)) (n1499))
        (none)))
      (fun n1505 n1506 n1507 n1508 xs1509 => K0 (n1506) (n1507) (n1508) (xs1509) (n1505))))))
noncomputable def haystackref03_Make {R : Type} := shut (@haystackref03_Make_B R)
theorem haystackref03_Make_unf {R : Type} : @haystackref03_Make R = @haystackref03_Make_B R := shut_eq _

noncomputable def haystackref03_Width_l4_T {R : Type} (rec : List Int → Int → Int → Option R) (xs1522 : List Int) (n1523 : Int) (n1524 : Int) (K0 : Int → Option R) : Option R :=
 sel (decide (n1524 < (↑(List.length xs1522) : Int)))
  (sel (decide (0 ≤ n1524))
   (sel (decide (n1524 < (↑(List.length xs1522) : Int)))
    (haystackref01_Len (List.getD xs1522 (Int.toNat n1524) 0)
     (fun n1525 => rec (xs1522) (max2 n1523 n1525) (addW .i64 n1524 1)))
    (none))
   (none))
  (K0 (n1523))
noncomputable def haystackref03_Width_l4_L {R : Type} (K0 : Int → Option R) : Nat → List Int → Int → Int → Option R
  | 0, _, _, _ => none
  | N + 1, xs1522, n1523, n1524 => haystackref03_Width_l4_T (haystackref03_Width_l4_L K0 N) xs1522 n1523 n1524 K0
noncomputable def haystackref03_Width_l4_B {R : Type} (xs1522 : List Int) (n1523 : Int) (n1524 : Int) (K0 : Int → Option R) : Option R :=
 haystackref03_Width_l4_L K0 NR xs1522 n1523 n1524
noncomputable def haystackref03_Width_l4 {R : Type} := shut (@haystackref03_Width_l4_B R)
theorem haystackref03_Width_l4_unf {R : Type} : @haystackref03_Width_l4 R = @haystackref03_Width_l4_B R := shut_eq _

noncomputable def haystackref03_Width_B {R : Type} (xs1521 : List Int) (K0 : Int → Option R) : Option R :=
 haystackref03_Width_l4 (xs1521) (1) (0)
  (fun n1526 => K0 (n1526))
noncomputable def haystackref03_Width {R : Type} := shut (@haystackref03_Width_B R)
theorem haystackref03_Width_unf {R : Type} : @haystackref03_Width R = @haystackref03_Width_B R := shut_eq _

noncomputable def haystackref03_Of_B {R : Type} (xs1520 : List Int) (K0 : Int → Int → Int → List Int → Int → Option R) : Option R :=
 haystackref03_Width (xs1520)
  (fun n1527 => haystackref03_Make (n1527) (xs1520)
   (fun n1528 n1529 n1530 xs1531 n1532 => K0 (n1528) (n1529) (n1530) (xs1531) (n1532)))
noncomputable def haystackref03_Of {R : Type} := shut (@haystackref03_Of_B R)
theorem haystackref03_Of_unf {R : Type} : @haystackref03_Of R = @haystackref03_Of_B R := shut_eq _

noncomputable def haystackref03_List_B {R : Type} (n1548 : Int) (n1549 : Int) (n1550 : Int) (xs1551 : List Int) (K0 : List Int → Option R) : Option R :=
 haystackref03_List_l4 (0) (n1548) (n1549) (n1550) (xs1551)
  (fun l1552 xs1553 => sel (decide (l1552 = List.length xs1553))
   (K0 (xs1553))
   (sel (decide (0 + l1552 ≤ List.length xs1553))
    (K0 (List.take l1552 (List.drop 0 xs1553)))
    (none)))
  (fun _ => K0 ([]))
noncomputable def haystackref03_List {R : Type} := shut (@haystackref03_List_B R)
theorem haystackref03_List_unf {R : Type} : @haystackref03_List R = @haystackref03_List_B R := shut_eq _

noncomputable def haystackref03_Rows_l5_1_T {R : Type} (rec : List Int → List Int → Int → Option R) (xs1557 : List Int) (xs1558 : List Int) (n1559 : Int) (K0 : Bool → Option R) (K1 : Unit → Option R) : Option R :=
 sel (decide (n1559 < (↑(List.length xs1557) : Int)))
  (sel (decide (0 ≤ n1559))
   (sel (decide (n1559 < (↑(List.length xs1557) : Int)))
    (sel (decide (0 ≤ n1559))
     (sel (decide (n1559 < (↑(List.length xs1558) : Int)))
      (sel (!decide (List.getD xs1557 (Int.toNat n1559) 0 = List.getD xs1558 (Int.toNat n1559) 0))
       (K0 (false))
       (rec (xs1557) (xs1558) (addW .i64 n1559 1)))
      (none))
     (none))
    (none))
   (none))
  (K1 ())
noncomputable def haystackref03_Rows_l5_1_L {R : Type} (K0 : Bool → Option R) (K1 : Unit → Option R) : Nat → List Int → List Int → Int → Option R
  | 0, _, _, _ => none
  | N + 1, xs1557, xs1558, n1559 => haystackref03_Rows_l5_1_T (haystackref03_Rows_l5_1_L K0 K1 N) xs1557 xs1558 n1559 K0 K1
noncomputable def haystackref03_Rows_l5_1_B {R : Type} (xs1557 : List Int) (xs1558 : List Int) (n1559 : Int) (K0 : Bool → Option R) (K1 : Unit → Option R) : Option R :=
 haystackref03_Rows_l5_1_L K0 K1 NR xs1557 xs1558 n1559
noncomputable def haystackref03_Rows_l5_1 {R : Type} := shut (@haystackref03_Rows_l5_1_B R)
theorem haystackref03_Rows_l5_1_unf {R : Type} : @haystackref03_Rows_l5_1 R = @haystackref03_Rows_l5_1_B R := shut_eq _

noncomputable def haystackref03_Rows_B {R : Type} (xs1555 : List Int) (xs1556 : List Int) (K0 : Bool → Option R) : Option R :=
 sel (!decide ((↑(List.length xs1555) : Int) = (↑(List.length xs1556) : Int)))
  (K0 (false))
  (haystackref03_Rows_l5_1 (xs1555) (xs1556) (0)
   (fun b1560 => K0 (b1560))
   (fun _ => K0 (true)))
noncomputable def haystackref03_Rows {R : Type} := shut (@haystackref03_Rows_B R)
theorem haystackref03_Rows_unf {R : Type} : @haystackref03_Rows R = @haystackref03_Rows_B R := shut_eq _

noncomputable def haystacklaw03_IntsTell_j14_B {R : Type} (n1541 : Int) (n1542 : Int) (n1543 : Int) (xs1544 : List Int) (K0 : Bool → Option R) : Option R :=
 ints_Check (n1541) (n1542) (n1543) (xs1544)
  (fun b1545 => haystackref03_Check (n1541) (n1542) (n1543) (xs1544)
   (fun b1546 => sel (b1545 == b1546)
    (ints_List (n1541) (n1542) (n1543) (xs1544)
     (fun xs1547 => haystackref03_List (n1541) (n1542) (n1543) (xs1544)
      (fun xs1554 => haystackref03_Rows (xs1547) (xs1554)
       (fun b1561 => sel (b1561)
        (haystacklaw03_heads 
         (fun b1562 => K0 (b1562)))
        (K0 (false))))))
    (K0 (false))))
noncomputable def haystacklaw03_IntsTell_j14 {R : Type} := shut (@haystacklaw03_IntsTell_j14_B R)
theorem haystacklaw03_IntsTell_j14_unf {R : Type} : @haystacklaw03_IntsTell_j14 R = @haystacklaw03_IntsTell_j14_B R := shut_eq _

noncomputable def haystacklaw03_IntsTell_j8_B {R : Type} (n1288 : Int) (xs1289 : List Int) (n1290 : Int) (n1291 : Int) (n1292 : Int) (n1293 : Int) (n1294 : Int) (n1295 : Int) (n1296 : Int) (n1297 : Int) (n1298 : Int) (xs1299 : List Int) (n1300 : Int) (n1301 : Int) (n1302 : Int) (xs1303 : List Int) (n1304 : Int) (n1305 : Int) (n1306 : Int) (xs1307 : List Int) (K0 : Bool → Option R) : Option R :=
 ints_Make (n1288) (xs1289)
  (fun n1308 n1309 n1310 xs1311 n1312 => haystackref03_Make (n1288) (xs1289)
   (fun n1510 n1511 n1512 xs1513 n1514 => ints_Of (xs1289)
    (fun n1515 n1516 n1517 xs1518 n1519 => haystackref03_Of (xs1289)
     (fun n1533 n1534 n1535 xs1536 n1537 => sel (!decide (n1290 = n1292))
      (K0 (false))
      (sel (!decide (n1291 = n1293))
       (K0 (false))
       (haystackref03_Same (n1300) (n1301) (n1302) (xs1303) (n1304) (n1305) (n1306) (xs1307)
        (fun b1538 => sel (!b1538)
         (K0 (false))
         (sel (!decide (n1294 = n1295))
          (K0 (false))
          (haystackref03_Same (n1308) (n1309) (n1310) (xs1311) (n1510) (n1511) (n1512) (xs1513)
           (fun b1539 => sel (!b1539)
            (K0 (false))
            (sel (!decide (n1312 = n1514))
             (K0 (false))
             (haystackref03_Same (n1515) (n1516) (n1517) (xs1518) (n1533) (n1534) (n1535) (xs1536)
              (fun b1540 => sel (!b1540)
               (K0 (false))
               (sel (!decide (n1519 = n1537))
                (K0 (false))
                (haystacklaw03_IntsTell_j14 (n1296) (n1297) (n1298) (xs1299)
                 (fun b1563 => K0 (b1563)))))))))))))))))
noncomputable def haystacklaw03_IntsTell_j8 {R : Type} := shut (@haystacklaw03_IntsTell_j8_B R)
theorem haystacklaw03_IntsTell_j8_unf {R : Type} : @haystacklaw03_IntsTell_j8 R = @haystacklaw03_IntsTell_j8_B R := shut_eq _

noncomputable def haystacklaw03_IntsTell_j4_B {R : Type} (n705 : Int) (n706 : Int) (n707 : Int) (xs708 : List Int) (n709 : Int) (n710 : Int) (n711 : Int) (xs712 : List Int) (K0 : Bool → Option R) : Option R :=
 ints_Get (n709) (n710) (n711) (xs712) (n705)
  (fun n713 n714 => haystackref03_Get (n709) (n710) (n711) (xs712) (n705)
   (fun n784 n785 => ints_Put (n709) (n710) (n711) (xs712) (n705) (n706)
    (fun n786 n787 n788 xs789 n790 => haystackref03_Put (n709) (n710) (n711) (xs712) (n705) (n706)
     (fun n1283 n1284 n1285 xs1286 n1287 => haystacklaw03_IntsTell_j8 (n707) (xs708) (n713) (n714) (n784) (n785) (n790) (n1287) (n709) (n710) (n711) (xs712) (n786) (n787) (n788) (xs789) (n1283) (n1284) (n1285) (xs1286)
      (fun b1564 => K0 (b1564))))))
noncomputable def haystacklaw03_IntsTell_j4 {R : Type} := shut (@haystacklaw03_IntsTell_j4_B R)
theorem haystacklaw03_IntsTell_j4_unf {R : Type} : @haystacklaw03_IntsTell_j4 R = @haystacklaw03_IntsTell_j4_B R := shut_eq _

noncomputable def haystacklaw03_IntsTell_B {R : Type} (n690 : Int) (n691 : Int) (n692 : Int) (xs693 : List Int) (n694 : Int) (n695 : Int) (n696 : Int) (xs697 : List Int) (K0 : Bool → Option R) : Option R :=
 haystacklaw03_small (n690) (n691) (n692) (xs693)
  (fun b702 => sel (!b702)
   (haystacklaw03_heads 
    (fun b703 => K0 (b703)))
   (sel (decide (300 < (↑(List.length xs697) : Int)))
    (haystacklaw03_heads 
     (fun b704 => K0 (b704)))
    (haystacklaw03_IntsTell_j4 (n694) (n695) (n696) (xs697) (n690) (n691) (n692) (xs693)
     (fun b1565 => K0 (b1565)))))
noncomputable def haystacklaw03_IntsTell {R : Type} := shut (@haystacklaw03_IntsTell_B R)
theorem haystacklaw03_IntsTell_unf {R : Type} : @haystacklaw03_IntsTell R = @haystacklaw03_IntsTell_B R := shut_eq _

noncomputable def haystacklaw03_IntsBack_j7_B {R : Type} (xs1577 : List Int) (n1578 : Int) (_n1579 : Int) (n1580 : Int) (n1581 : Int) (_xs1582 : List Int) (K0 : Bool → Option R) : Option R :=
 ints_Make (n1578) (xs1577)
  (fun n1583 n1584 n1585 xs1586 n1587 => sel (!decide (n1587 = 0))
   (sel (decide (n1578 < n1580))
    (haystacklaw03_heads 
     (fun b1588 => K0 (b1588)))
    (sel (decide (64 < n1578))
     (haystacklaw03_heads 
      (fun b1589 => K0 (b1589)))
     (K0 (false))))
   (ints_List (n1583) (n1584) (n1585) (xs1586)
    (fun xs1590 => haystackref03_Rows (xs1590) (xs1577)
     (fun b1591 => sel (b1591)
      (sel (decide (n1581 ≤ n1585))
       (haystacklaw03_heads 
        (fun b1592 => K0 (b1592)))
       (K0 (false)))
      (K0 (false))))))
noncomputable def haystacklaw03_IntsBack_j7 {R : Type} := shut (@haystacklaw03_IntsBack_j7_B R)
theorem haystacklaw03_IntsBack_j7_unf {R : Type} : @haystacklaw03_IntsBack_j7 R = @haystacklaw03_IntsBack_j7_B R := shut_eq _

noncomputable def haystacklaw03_IntsBack_B {R : Type} (xs1566 : List Int) (n1567 : Int) (K0 : Bool → Option R) : Option R :=
 sel (decide (300 < (↑(List.length xs1566) : Int)))
  (haystacklaw03_heads 
   (fun b1568 => K0 (b1568)))
  (ints_Of (xs1566)
   (fun n1569 n1570 n1571 xs1572 n1573 => sel (!decide (n1573 = 0))
    (K0 (false))
    (ints_List (n1569) (n1570) (n1571) (xs1572)
     (fun xs1574 => haystackref03_Rows (xs1574) (xs1566)
      (fun b1575 => sel (!b1575)
       (K0 (false))
       (ints_Check (n1569) (n1570) (n1571) (xs1572)
        (fun b1576 => sel (!b1576)
         (K0 (false))
         (sel (!decide (n1569 = (↑(List.length xs1566) : Int)))
          (K0 (false))
          (haystacklaw03_IntsBack_j7 (xs1566) (n1567) (n1569) (n1570) (n1571) (xs1572)
           (fun b1593 => K0 (b1593)))))))))))
noncomputable def haystacklaw03_IntsBack {R : Type} := shut (@haystacklaw03_IntsBack_B R)
theorem haystacklaw03_IntsBack_unf {R : Type} : @haystacklaw03_IntsBack R = @haystacklaw03_IntsBack_B R := shut_eq _

noncomputable def haystacklaw03_IntsPuts_j4_B {R : Type} (n1605 : Int) (n1606 : Int) (n1607 : Int) (n1608 : Int) (n1609 : Int) (n1610 : Int) (xs1611 : List Int) (K0 : Bool → Option R) : Option R :=
 ints_Put (n1608) (n1609) (n1610) (xs1611) (n1605) (n1606)
  (fun n1612 n1613 n1614 xs1615 n1616 => sel (!decide (n1616 = 0))
   (haystackref03_Same (n1612) (n1613) (n1614) (xs1615) (n1608) (n1609) (n1610) (xs1611)
    (fun b1617 => sel (b1617)
     (haystacklaw03_heads 
      (fun b1618 => K0 (b1618)))
     (K0 (false))))
   (ints_Get (n1612) (n1613) (n1614) (xs1615) (n1605)
    (fun n1619 n1620 => ints_Get (n1608) (n1609) (n1610) (xs1611) (n1607)
     (fun n1621 n1622 => ints_Get (n1612) (n1613) (n1614) (xs1615) (n1607)
      (fun n1623 n1624 => sel (decide (n1620 = 0))
       (sel (decide (n1619 = n1606))
        (sel (decide (n1607 = n1605))
         (ints_Check (n1612) (n1613) (n1614) (xs1615)
          (fun b1625 => sel (b1625)
           (sel (decide (n1612 = n1608))
            (haystacklaw03_heads 
             (fun b1626 => K0 (b1626)))
            (K0 (false)))
           (K0 (false))))
         (sel (decide (n1621 = n1623))
          (sel (decide (n1622 = n1624))
           (ints_Check (n1612) (n1613) (n1614) (xs1615)
            (fun b1627 => sel (b1627)
             (sel (decide (n1612 = n1608))
              (haystacklaw03_heads 
               (fun b1628 => K0 (b1628)))
              (K0 (false)))
             (K0 (false))))
           (K0 (false)))
          (K0 (false))))
        (K0 (false)))
       (K0 (false)))))))
noncomputable def haystacklaw03_IntsPuts_j4 {R : Type} := shut (@haystacklaw03_IntsPuts_j4_B R)
theorem haystacklaw03_IntsPuts_j4_unf {R : Type} : @haystacklaw03_IntsPuts_j4 R = @haystacklaw03_IntsPuts_j4_B R := shut_eq _

noncomputable def haystacklaw03_IntsPuts_B {R : Type} (n1594 : Int) (n1595 : Int) (n1596 : Int) (xs1597 : List Int) (n1598 : Int) (n1599 : Int) (n1600 : Int) (K0 : Bool → Option R) : Option R :=
 haystacklaw03_small (n1594) (n1595) (n1596) (xs1597)
  (fun b1601 => sel (!b1601)
   (haystacklaw03_heads 
    (fun b1602 => K0 (b1602)))
   (ints_Check (n1594) (n1595) (n1596) (xs1597)
    (fun b1603 => sel (!b1603)
     (haystacklaw03_heads 
      (fun b1604 => K0 (b1604)))
     (haystacklaw03_IntsPuts_j4 (n1598) (n1599) (n1600) (n1594) (n1595) (n1596) (xs1597)
      (fun b1629 => K0 (b1629))))))
noncomputable def haystacklaw03_IntsPuts {R : Type} := shut (@haystacklaw03_IntsPuts_B R)
theorem haystacklaw03_IntsPuts_unf {R : Type} : @haystacklaw03_IntsPuts R = @haystacklaw03_IntsPuts_B R := shut_eq _

/-- what is kept where -/
def kpt : List (Nat × List (Nat × List Nat)) := [(7, [(13003, [3, 5]), (13004, [0, 3, 5, 6]), (13002, [2]), (13001, [0, 3, 5, 6]), (13000, [0, 3, 5, 6]), (9403, [3, 5]), (9402, [2]), (9401, []), (9400, [0, 3, 5, 6]), (7002, [2]), (7001, [2]), (7000, [0, 3])]), (8, [(14002, [10]), (14001, [10]), (14000, [5]), (8002, [10]), (8001, [10]), (8000, [3, 4, 5, 11, 12, 13, 14, 15, 16, 17, 18]), (4002, [10]), (4001, [10]), (4000, [1, 2, 3, 4, 5])]), (9, [(7002, [4]), (7001, [4]), (7000, [0, 1, 5])]), (10, [(4002, [8]), (4001, [8]), (4000, [1, 2, 3, 4])]), (15, [(4002, [2]), (4001, [2]), (4000, [1])]), (31, [(5403, []), (5402, [4]), (5401, []), (5400, [2, 3, 5]), (4002, [4]), (4001, [4]), (4000, [2, 3])]), (34, [(999999999, []), (8000, [1, 2, 3, 4, 5, 6, 8, 10, 12, 999999]), (7000, [1, 2, 3, 4, 5, 6, 8, 10, 999999]), (6000, [1, 2, 3, 4, 5, 6, 8, 999999]), (5000, [1, 2, 3, 4, 5, 6, 999999]), (4002, [0]), (4001, [0]), (4000, [1, 2, 3, 4, 999999]), (3000, [1, 2, 999999]), (2000, [999999])]), (36, [(6403, [0, 1, 4, 6]), (6402, [4, 5]), (6401, []), (6400, [0, 1, 4, 6, 34, 35, 36]), (4002, [4, 5]), (4001, [4, 5]), (4000, [0, 1, 4]), (3002, [4, 5]), (3001, [0, 1, 4]), (3000, [0, 1, 4, 28])]), (37, [(6403, [3]), (6402, [2]), (6401, []), (6400, [1, 3, 12, 13])]), (39, [(2000, [1, 999999])]), (41, [(6002, [4, 5]), (6001, [4, 5]), (6000, [1, 2])]), (43, [(6002, [6, 7]), (6001, [6, 7]), (6000, [1, 2, 3, 6]), (5002, [6, 7]), (5001, [1, 2, 3, 6]), (5000, [1, 2, 3, 6, 20])]), (44, [(11403, [0, 1, 4, 6]), (11404, [0, 1, 4, 6, 7]), (11405, [0, 1, 4, 6, 7]), (11402, [4, 5]), (11401, []), (11400, [0, 1, 4, 6, 7, 8]), (6403, [0, 1, 4, 6]), (6402, [4, 5]), (6401, []), (6400, [0, 1, 4, 6, 7]), (4002, [4, 5]), (4001, [4, 5]), (4000, [0, 1, 4]), (3002, [4, 5]), (3001, [0, 1, 4]), (3000, [0, 1, 4, 28])]), (48, [(5403, []), (5402, [4]), (5401, []), (5400, [0, 1, 5])]), (49, [(6003, [3]), (6002, [2]), (6001, [1, 3, 4]), (6000, [1, 3, 4]), (4403, [3]), (4402, [2]), (4401, []), (4400, [1, 3, 4])]), (62, [(6003, [3]), (6002, [2]), (6001, [0, 3, 4]), (6000, [0, 3, 4]), (4403, [3]), (4402, [2]), (4401, []), (4400, [0, 3, 4])]), (63, [(4002, [2]), (4001, [2]), (4000, [1])]), (74, [(4403, [3]), (4402, [2]), (4401, []), (4400, [3, 6, 7, 8])]), (75, [(4002, [2, 3]), (4001, [2, 3]), (4000, [0, 2]), (3002, [2, 3]), (3001, [0, 2]), (3000, [0, 2, 9])]), (76, [(4002, [6, 7]), (4001, [6, 7]), (4000, [1, 2, 3, 6]), (3002, [6, 7]), (3001, [1, 2, 3, 6]), (3000, [1, 2, 3, 6, 26])]), (77, [(12002, [6, 7]), (12001, [6, 7]), (12000, [2, 10]), (8002, [6, 7]), (8001, [6, 7]), (8000, [1, 2, 3]), (5003, [1, 2, 3]), (5002, [6, 7]), (5001, [1, 2, 3]), (5000, [1, 2, 3, 23]), (3003, [1, 2, 3]), (3002, [6, 7]), (3001, [1, 2, 3]), (3000, [1, 2, 3, 11])]), (78, [(5003, []), (5002, [4]), (5001, []), (5000, [12])]), (80, [(8403, [8]), (8402, [6, 7]), (8401, []), (8400, [1, 2, 3, 8, 9]), (6002, [6, 7]), (6001, [6, 7]), (6000, [1, 2, 3]), (4002, [6, 7]), (4001, [6, 7]), (4000, [1, 2, 3])]), (83, [(4403, [2, 4, 5]), (4402, [2, 3]), (4401, []), (4400, [0, 2, 4, 5, 6])]), (84, [(4403, [3]), (4402, [2]), (4401, []), (4400, [0, 3, 4])]), (105, [(6002, []), (6001, []), (6000, [2, 3, 6, 7, 36]), (5002, []), (5001, []), (5000, [2, 3, 6, 7])]), (107, [(3403, []), (3402, [2]), (3401, []), (3400, [0, 3])]), (108, [(4002, [2, 3]), (4001, [2, 3]), (4000, [0, 2]), (3002, [2, 3]), (3001, [0, 2]), (3000, [0, 2, 9])]), (116, [(11002, [2]), (11001, [2]), (11000, [0, 2]), (8002, [2]), (8001, [2]), (8000, [0, 2]), (5002, [2]), (5001, [2]), (5000, [0, 2])])]
/-- what is handed back open -/
def lvt : List (Nat × List Nat) := [(76, [104]), (42, [81]), (83, [108]), (43, [49])]
noncomputable def V (f : FuncId) : Env := env (keepOf kpt) (vsOf (match lkN lvt f with | some l => l | none => []))
theorem D0 : Dom B0 V B0 T0 0 := Dom.nil base_nat

noncomputable def o116_5000_in {R : Type} (K : Ex → St → Option R) (vs : List AV) (hh : H) : Option R := match vs, hh with
  | [AV.int .u64 n12, AV.int .i64 n13], [] => math_bits_Len64_j5 n12 n13 (fun x0 => K (Ex.ret) (St.mk (spread 25 0 [2] [AV.int .i64 x0]) []))
  | _, _ => none

noncomputable def o116_8000_in {R : Type} (K : Ex → St → Option R) (vs : List AV) (hh : H) : Option R := match vs, hh with
  | [AV.int .u64 n14, AV.int .i64 n15], [] => math_bits_Len64_j8 n14 n15 (fun x0 => K (Ex.ret) (St.mk (spread 25 0 [2] [AV.int .i64 x0]) []))
  | _, _ => none

noncomputable def o116_11000_in {R : Type} (K : Ex → St → Option R) (vs : List AV) (hh : H) : Option R := match vs, hh with
  | [AV.int .u64 n16, AV.int .i64 n17], [] => math_bits_Len64_j11 n16 n17 (fun x0 => K (Ex.ret) (St.mk (spread 25 0 [2] [AV.int .i64 x0]) []))
  | _, _ => none

noncomputable def o116 : Nat → Option PSpec := lkN [(5000, fun st _ K => pickM 25 [0, 2] st (o116_5000_in K)), (8000, fun st _ K => pickM 25 [0, 2] st (o116_8000_in K)), (11000, fun st _ K => pickM 25 [0, 2] st (o116_11000_in K))]
noncomputable def q116 : CallF := evFun (V 116) B0 T0 10

noncomputable def c116_5000 : Code := subC [1, 1] (bodyOf Tryd.f116)

noncomputable def c116_8000 : Code := subC [1, 1, 1] (bodyOf Tryd.f116)

noncomputable def c116_11000 : Code := subC [1, 1, 1, 1] (bodyOf Tryd.f116)

theorem math_bits_Len64_j11_eq {R : Type} (K : Ex → St → Option R) (n16 : Int) (n17 : Int) : evCode (V 116) q116 o116 116 0 3996 c116_11000 (St.mk (spread 25 0 [0, 2] [AV.int .u64 n16, AV.int .i64 n17]) []) (kOut (V 116) 116 0 (Ev.keyOf c116_11000 * 1000 + 1) K) = math_bits_Len64_j11_B n16 n17 (fun x0 => K (Ex.ret) (St.mk (spread 25 0 [2] [AV.int .i64 x0]) [])) := by kernel_rfl

theorem p116_5000 : PieceOk (V 116) q116 o116 116 0 (3998, 0, c116_5000) := .s (size := 25) (ss := [0, 2]) (F := @o116_5000_in) (by kernel_rfl) fun R r K vs hh h => by
  unfold o116_5000_in at h; split at h
  · rw [math_bits_Len64_j5_unf] at h; exact Eq.trans (by kernel_rfl) h
  · cases h

theorem p116_8000 : PieceOk (V 116) q116 o116 116 0 (3997, 0, c116_8000) := .s (size := 25) (ss := [0, 2]) (F := @o116_8000_in) (by kernel_rfl) fun R r K vs hh h => by
  unfold o116_8000_in at h; split at h
  · rw [math_bits_Len64_j8_unf] at h; exact Eq.trans (by kernel_rfl) h
  · cases h

theorem p116_11000 : PieceOk (V 116) q116 o116 116 0 (3996, 0, c116_11000) := .s (size := 25) (ss := [0, 2]) (F := @o116_11000_in) (by kernel_rfl) fun R r K vs hh h => by
  unfold o116_11000_in at h; split at h
  · rw [math_bits_Len64_j11_unf] at h; exact (math_bits_Len64_j11_eq K _ _).trans h
  · cases h

theorem pc116 : ∀ x ∈ [(3998, 0, c116_5000), (3997, 0, c116_8000), (3996, 0, c116_11000)], PieceOk (V 116) q116 o116 116 0 x := List.forall_mem_cons.2 ⟨p116_5000, List.forall_mem_cons.2 ⟨p116_8000, List.forall_mem_cons.2 ⟨p116_11000, fun _ h => nomatch h⟩⟩⟩

noncomputable def sp116 : Ev.Spec := fun args _ K => match args with
  | ([AV.int .u64 n11]) => math_bits_Len64 n11 (fun x0 => K (AV.int .i64 x0))
  | _ => none
noncomputable def S116 := addS 116 sp116 B0
theorem D1 : Dom B0 V S116 T0 1 := Dom.s (m := 0) (n := 0) D0 D0 (O := o116) (OrcOk.fn (fn0 := Tryd.f116) (by kernel_rfl) (by kernel_rfl) pc116) fun args R K r h => by
  unfold sp116 at h; split at h
  · rw [math_bits_Len64_unf] at h; exact Eq.trans (by kernel_rfl) h
  · cases h

noncomputable def sp103 : Ev.Spec := fun args _ K => match args with
  | ([AV.int .u64 n10]) => word_Len n10 (fun x0 => K (AV.int .i64 x0))
  | _ => none
noncomputable def S103 := addS 103 sp103 S116
theorem D2 : Dom B0 V S103 T0 2 := Dom.s (m := 1) (n := 0) D1 D1 (O := (fun _ => none)) (fun _ _ _ _ => OrcOk.none _ _) fun args R K r h => by
  unfold sp103 at h; split at h
  · rw [word_Len_unf] at h; exact Eq.trans (by kernel_rfl) h
  · cases h

noncomputable def o74r1_4400_in {R : Type} (K : Ex → St → Option R) (vs : List AV) (hh : H) : Option R := match vs, hh with
  | [AV.int .i64 n5, AV.sl 0 0 l6 1, AV.int .i64 n7, AV.int .i64 n8], [HB.live (Blk.ints .u64 xs9)] => ints_width_l4 n5 l6 n7 n8 xs9 (fun x0 x1 => K (Ex.exit 0) (St.mk (spread 18 0 [3] [AV.int .i64 x0]) [HB.live (Blk.ints .u64 x1)]))
  | _, _ => none

noncomputable def o74r1 : Nat → Option PSpec := lkN [(4400, fun st _ K => pickM 18 [3, 6, 7, 8] st (o74r1_4400_in K))]
noncomputable def q74r1 : CallF := evFun (V 74) S103 T0 10

noncomputable def c74r1_4400 : Code := subC [1, 1, 0, 1, 0, 0] (bodyOf Tryd.f74)

noncomputable def lp74r1_4400 {R : Type} (N : Nat) (st : St) (K : Ex → St → Option R) : Option R := evLoop (norm ((V 74).keep 74 (Ev.keyOf c74r1_4400 * 1000 + 400)) 1) (evCode (V 74) q74r1 o74r1 74 1 3994 c74r1_4400) N st (kOut (V 74) 74 1 (Ev.keyOf c74r1_4400 * 1000 + 401) K)

theorem ints_width_l4_L_eq {R : Type} (K : Ex → St → Option R) : ∀ N : Nat, (fun (n5 : Int) (l6 : Nat) (n7 : Int) (n8 : Int) (xs9 : List Int) => lp74r1_4400 N (St.mk (spread 18 0 [3, 6, 7, 8] [AV.int .i64 n5, AV.sl 0 0 l6 1, AV.int .i64 n7, AV.int .i64 n8]) [HB.live (Blk.ints .u64 xs9)]) K) = ints_width_l4_L (fun x0 x1 => K (Ex.exit 0) (St.mk (spread 18 0 [3] [AV.int .i64 x0]) [HB.live (Blk.ints .u64 x1)])) N
  | 0 => by funext n5 l6 n7 n8 xs9; rfl
  | N + 1 => by
    funext n5 l6 n7 n8 xs9
    simp only [ints_width_l4_L]
    rw [← ints_width_l4_L_eq K N]
    kernel_rfl

theorem p74r1_4400 : PieceOk (V 74) q74r1 o74r1 74 1 (3994, 1, c74r1_4400) := .l (size := 18) (ss := [3, 6, 7, 8]) (F := @o74r1_4400_in) (by kernel_rfl) (by kernel_rfl) fun R r K vs hh h => by
  unfold o74r1_4400_in at h; split at h
  · rw [ints_width_l4_unf] at h; unfold ints_width_l4_B at h; rw [← ints_width_l4_L_eq K NR] at h; exact h
  · cases h

theorem pc74r1 : ∀ x ∈ [(3994, 1, c74r1_4400)], PieceOk (V 74) q74r1 o74r1 74 1 x := List.forall_mem_cons.2 ⟨p74r1_4400, fun _ h => nomatch h⟩

noncomputable def hs74 : HSpec := fun args h _ K => match args, h with
  | [AV.sl 0 0 l3 1], [HB.live (Blk.ints .u64 xs4)] => ints_width_r l3 xs4 (fun x0 x1 => K (AV.int .i64 x0) ([HB.live (Blk.ints .u64 x1)]))
  | _, _ => none
noncomputable def T74 := addT 74 hs74 T0
theorem D3 : Dom B0 V S103 T74 3 := Dom.t D2 fun args hh R K r h => by
  unfold hs74 at h; split at h
  · rw [ints_width_r_unf] at h; exact ⟨o74r1, (OrcOk.fn (fn0 := Tryd.f74) (by kernel_rfl) (by kernel_rfl) pc74r1), Eq.trans (by kernel_rfl) h⟩
  · cases h

noncomputable def sp98 : Ev.Spec := fun args _ K => match args with
  | ([AV.int .i64 n68]) => bits_words n68 (fun x0 => K (AV.int .i64 x0))
  | _ => none
noncomputable def S98 := addS 98 sp98 S103
theorem D4 : Dom B0 V S98 T74 4 := Dom.s (m := 3) (n := 0) D3 D3 (O := (fun _ => none)) (fun _ _ _ _ => OrcOk.none _ _) fun args R K r h => by
  unfold sp98 at h; split at h
  · rw [bits_words_unf] at h; exact Eq.trans (by kernel_rfl) h
  · cases h

noncomputable def o75_3000_in {R : Type} (K : Ex → St → Option R) (vs : List AV) (hh : H) : Option R := match vs, hh with
  | [AV.int .i64 n59, AV.ptr 0 0, AV.bool b60], [HB.live (Blk.any [AV.int .i64 n61, AV.esl])] => bits_New_j3 n59 b60 n61 (fun x0 x1 => K (Ex.ret) (St.mk (spread 16 0 [2, 3] [AV.ptr 0 0, AV.int .i64 x0]) [HB.live (Blk.any [AV.int .i64 x1, AV.esl])])) (fun x0 x1 => K (Ex.normal) (St.mk (spread 16 0 [0, 2] [AV.int .i64 x0, AV.ptr 0 0]) [HB.live (Blk.any [AV.int .i64 x1, AV.esl])]))
  | _, _ => none

noncomputable def o75_4000_in {R : Type} (K : Ex → St → Option R) (vs : List AV) (hh : H) : Option R := match vs, hh with
  | [AV.int .i64 n66, AV.ptr 0 0], [HB.live (Blk.any [AV.int .i64 n67, AV.esl])] => bits_New_j4 n66 n67 (fun x0 x1 x2 x3 => K (Ex.ret) (St.mk (spread 16 0 [2, 3] [AV.ptr 0 0, AV.int .i64 x0]) [HB.live (Blk.any [AV.int .i64 x1, AV.sl 1 0 x2 1]), HB.live (Blk.ints .u64 x3)]))
  | _, _ => none

noncomputable def o75 : Nat → Option PSpec := lkN [(3000, fun st _ K => pickM 16 [0, 2, 9] st (o75_3000_in K)), (4000, fun st _ K => pickM 16 [0, 2] st (o75_4000_in K))]
noncomputable def q75 : CallF := evFun (V 75) S98 T74 10

noncomputable def c75_4000 : Code := subC [1, 1] (bodyOf Tryd.f75)

noncomputable def c75_3000 : Code := subC [1, 0, 1] (bodyOf Tryd.f75)

theorem p75_4000 : PieceOk (V 75) q75 o75 75 0 (3998, 0, c75_4000) := .s (size := 16) (ss := [0, 2]) (F := @o75_4000_in) (by kernel_rfl) fun R r K vs hh h => by
  unfold o75_4000_in at h; split at h
  · rw [bits_New_j4_unf] at h; exact Eq.trans (by kernel_rfl) h
  · cases h

theorem p75_3000 : PieceOk (V 75) q75 o75 75 0 (3997, 0, c75_3000) := .s (size := 16) (ss := [0, 2, 9]) (F := @o75_3000_in) (by kernel_rfl) fun R r K vs hh h => by
  unfold o75_3000_in at h; split at h
  · rw [bits_New_j3_unf] at h; exact Eq.trans (by kernel_rfl) h
  · cases h

theorem pc75 : ∀ x ∈ [(3998, 0, c75_4000), (3997, 0, c75_3000)], PieceOk (V 75) q75 o75 75 0 x := List.forall_mem_cons.2 ⟨p75_4000, List.forall_mem_cons.2 ⟨p75_3000, fun _ h => nomatch h⟩⟩

noncomputable def sp75 : Ev.Spec := fun args _ K => match args with
  | ([AV.int .i64 n58]) => bits_New n58 (fun x0 x1 x2 => K (AV.tup [AV.agg (Blk.any [AV.int .i64 x0, AV.fsl (Blk.ints .u64 x1)]), AV.int .i64 x2]))
  | _ => none
noncomputable def S75 := addS 75 sp75 S98
theorem D5 : Dom B0 V S75 T74 5 := Dom.s (m := 4) (n := 0) D4 D4 (O := o75) (OrcOk.fn (fn0 := Tryd.f75) (by kernel_rfl) (by kernel_rfl) pc75) fun args R K r h => by
  unfold sp75 at h; split at h
  · rw [bits_New_unf] at h; exact Eq.trans (by kernel_rfl) h
  · cases h

noncomputable def sp99 : Ev.Spec := fun args _ K => match args with
  | ([AV.int .i64 n106]) => word_Mask n106 (fun x0 => K (AV.int .u64 x0))
  | _ => none
noncomputable def S99 := addS 99 sp99 S75
theorem D6 : Dom B0 V S99 T74 6 := Dom.s (m := 5) (n := 0) D5 D5 (O := (fun _ => none)) (fun _ _ _ _ => OrcOk.none _ _) fun args R K r h => by
  unfold sp99 at h; split at h
  · rw [word_Mask_unf] at h; exact Eq.trans (by kernel_rfl) h
  · cases h

noncomputable def o63_4000_in {R : Type} (K : Ex → St → Option R) (vs : List AV) (hh : H) : Option R := match vs, hh with
  | [AV.ptr 0 0], [HB.live (Blk.any [AV.int .i64 n104, AV.fsl (Blk.ints .u64 xs105)])] => bits_Check_j4 n104 xs105 (fun x0 => K (Ex.ret) (St.mk (spread 40 0 [2] [AV.bool x0]) []))
  | _, _ => none

noncomputable def o63 : Nat → Option PSpec := lkN [(4000, fun st _ K => pickM 40 [1] st (o63_4000_in K))]
noncomputable def q63 : CallF := evFun (V 63) S99 T74 10

noncomputable def c63_4000 : Code := subC [1, 1] (bodyOf Tryd.f63)

theorem p63_4000 : PieceOk (V 63) q63 o63 63 0 (3998, 0, c63_4000) := .s (size := 40) (ss := [1]) (F := @o63_4000_in) (by kernel_rfl) fun R r K vs hh h => by
  unfold o63_4000_in at h; split at h
  · rw [bits_Check_j4_unf] at h; exact Eq.trans (by kernel_rfl) h
  · cases h

theorem pc63 : ∀ x ∈ [(3998, 0, c63_4000)], PieceOk (V 63) q63 o63 63 0 x := List.forall_mem_cons.2 ⟨p63_4000, fun _ h => nomatch h⟩

noncomputable def sp63 : Ev.Spec := fun args _ K => match args with
  | ([AV.agg (Blk.any [AV.int .i64 n101, AV.fsl (Blk.ints .u64 xs102)])]) => bits_Check n101 xs102 (fun x0 => K (AV.bool x0))
  | _ => none
noncomputable def S63 := addS 63 sp63 S99
theorem D7 : Dom B0 V S63 T74 7 := Dom.s (m := 6) (n := 0) D6 D6 (O := o63) (OrcOk.fn (fn0 := Tryd.f63) (by kernel_rfl) (by kernel_rfl) pc63) fun args R K r h => by
  unfold sp63 at h; split at h
  · rw [bits_Check_unf] at h; exact Eq.trans (by kernel_rfl) h
  · cases h

theorem bits_own_r_eq {R : Type} (K : AV → H → Option R) (n130 : Int) (xs131 : List Int) (n132 : Int) : evH (V 104) S63 T74 (fun _ => none) 10 104 [AV.agg (Blk.any [AV.int .i64 n130, AV.fsl (Blk.ints .u64 xs131)]), AV.int .i64 n132] [] R K = bits_own_r_B n130 xs131 n132 (fun x0 x1 x2 => K (AV.agg (Blk.any [AV.int .i64 x0, AV.sl 0 0 x1 1])) ([HB.live (Blk.ints .u64 x2)])) := by kernel_rfl

noncomputable def hs104 : HSpec := fun args h _ K => match args, h with
  | [AV.agg (Blk.any [AV.int .i64 n130, AV.fsl (Blk.ints .u64 xs131)]), AV.int .i64 n132], [] => bits_own_r n130 xs131 n132 (fun x0 x1 x2 => K (AV.agg (Blk.any [AV.int .i64 x0, AV.sl 0 0 x1 1])) ([HB.live (Blk.ints .u64 x2)]))
  | _, _ => none
noncomputable def T104 := addT 104 hs104 T74
theorem D8 : Dom B0 V S63 T104 8 := Dom.t D7 fun args hh R K r h => by
  unfold hs104 at h; split at h
  · rw [bits_own_r_unf] at h; exact ⟨(fun _ => none), (fun _ _ _ _ => OrcOk.none _ _), (bits_own_r_eq K _ _ _).trans h⟩
  · cases h

noncomputable def o105r1_5000_in {R : Type} (K : Ex → St → Option R) (vs : List AV) (hh : H) : Option R := match vs, hh with
  | [AV.int .u64 n147, AV.ptr 1 0, AV.int .i64 n148, AV.int .i64 n149], [HB.live (Blk.ints .u64 xs150), HB.live (Blk.any [AV.int .i64 n151, AV.sl 0 0 l152 1])] => bits_fill_j5 n147 n148 n149 xs150 n151 l152 (fun x0 => K (Ex.normal) (St.mk (spread 49 0 [] []) [HB.live (Blk.ints .u64 x0)]))
  | _, _ => none

noncomputable def o105r1_6000_in {R : Type} (K : Ex → St → Option R) (vs : List AV) (hh : H) : Option R := match vs, hh with
  | [AV.int .u64 n153, AV.ptr 1 0, AV.int .i64 n154, AV.int .i64 n155, AV.bool b156], [HB.live (Blk.ints .u64 xs157), HB.live (Blk.any [AV.int .i64 n158, AV.sl 0 0 l159 1])] => bits_fill_j6 n153 n154 n155 b156 xs157 n158 l159 (fun x0 => K (Ex.normal) (St.mk (spread 49 0 [] []) [HB.live (Blk.ints .u64 x0)]))
  | _, _ => none

noncomputable def o105r1 : Nat → Option PSpec := lkN [(5000, fun st _ K => pickM 49 [2, 3, 6, 7] st (o105r1_5000_in K)), (6000, fun st _ K => pickM 49 [2, 3, 6, 7, 36] st (o105r1_6000_in K))]
noncomputable def q105r1 : CallF := evFun (V 105) S63 T104 10

noncomputable def c105r1_5000 : Code := subC [1, 1, 1] (bodyOf Tryd.f105)

noncomputable def c105r1_6000 : Code := subC [1, 1, 1, 1] (bodyOf Tryd.f105)

theorem p105r1_5000 : PieceOk (V 105) q105r1 o105r1 105 1 (3997, 0, c105r1_5000) := .s (size := 49) (ss := [2, 3, 6, 7]) (F := @o105r1_5000_in) (by kernel_rfl) fun R r K vs hh h => by
  unfold o105r1_5000_in at h; split at h
  · rw [bits_fill_j5_unf] at h; exact Eq.trans (by kernel_rfl) h
  · cases h

theorem p105r1_6000 : PieceOk (V 105) q105r1 o105r1 105 1 (3996, 0, c105r1_6000) := .s (size := 49) (ss := [2, 3, 6, 7, 36]) (F := @o105r1_6000_in) (by kernel_rfl) fun R r K vs hh h => by
  unfold o105r1_6000_in at h; split at h
  · rw [bits_fill_j6_unf] at h; exact Eq.trans (by kernel_rfl) h
  · cases h

theorem pc105r1 : ∀ x ∈ [(3997, 0, c105r1_5000), (3996, 0, c105r1_6000)], PieceOk (V 105) q105r1 o105r1 105 1 x := List.forall_mem_cons.2 ⟨p105r1_5000, List.forall_mem_cons.2 ⟨p105r1_6000, fun _ h => nomatch h⟩⟩

theorem bits_fill_r_eq {R : Type} (K : AV → H → Option R) (n141 : Int) (l142 : Nat) (n143 : Int) (n144 : Int) (xs145 : List Int) : evH (V 105) S63 T104 o105r1 10 105 [AV.agg (Blk.any [AV.int .i64 n141, AV.sl 0 0 l142 1]), AV.int .i64 n143, AV.int .u64 n144] [HB.live (Blk.ints .u64 xs145)] R K = bits_fill_r_B n141 l142 n143 n144 xs145 (fun x0 => K (AV.tup []) ([HB.live (Blk.ints .u64 x0)])) := by kernel_rfl

noncomputable def hs105 : HSpec := fun args h _ K => match args, h with
  | [AV.agg (Blk.any [AV.int .i64 n141, AV.sl 0 0 l142 1]), AV.int .i64 n143, AV.int .u64 n144], [HB.live (Blk.ints .u64 xs145)] => bits_fill_r n141 l142 n143 n144 xs145 (fun x0 => K (AV.tup []) ([HB.live (Blk.ints .u64 x0)]))
  | _, _ => none
noncomputable def T105 := addT 105 hs105 T104
theorem D9 : Dom B0 V S63 T105 9 := Dom.t D8 fun args hh R K r h => by
  unfold hs105 at h; split at h
  · rw [bits_fill_r_unf] at h; exact ⟨o105r1, (OrcOk.fn (fn0 := Tryd.f105) (by kernel_rfl) (by kernel_rfl) pc105r1), (bits_fill_r_eq K _ _ _ _ _).trans h⟩
  · cases h

noncomputable def o76_3000_in {R : Type} (K : Ex → St → Option R) (vs : List AV) (hh : H) : Option R := match vs, hh with
  | [AV.int .u64 n111, AV.int .i64 n112, AV.ptr 0 0, AV.ptr 1 0, AV.bool b113], [HB.live (Blk.any [AV.int .i64 n114, AV.fsl (Blk.ints .u64 xs115)]), HB.live (Blk.any [AV.int .i64 n116, AV.esl])] => bits_Append_j3 n111 n112 b113 n114 xs115 n116 (fun x0 x1 x2 => K (Ex.ret) (St.mk (spread 43 0 [6, 7] [AV.ptr 0 0, AV.int .i64 x0]) [HB.live (Blk.any [AV.int .i64 x1, AV.fsl (Blk.ints .u64 x2)])])) (fun x0 x1 x2 x3 x4 => K (Ex.normal) (St.mk (spread 43 0 [1, 2, 3, 6] [AV.int .u64 x0, AV.int .i64 x1, AV.ptr 0 0, AV.ptr 1 0]) [HB.live (Blk.any [AV.int .i64 x2, AV.fsl (Blk.ints .u64 x3)]), HB.live (Blk.any [AV.int .i64 x4, AV.esl])]))
  | _, _ => none

noncomputable def o76_4000_in {R : Type} (K : Ex → St → Option R) (vs : List AV) (hh : H) : Option R := match vs, hh with
  | [AV.int .u64 n125, AV.int .i64 n126, AV.ptr 0 0, AV.ptr 1 0], [HB.live (Blk.any [AV.int .i64 n127, AV.fsl (Blk.ints .u64 xs128)]), HB.live (Blk.any [AV.int .i64 n129, AV.esl])] => bits_Append_j4 n125 n126 n127 xs128 n129 (fun x0 x1 x2 x3 => K (Ex.ret) (St.mk (spread 43 0 [6, 7] [AV.ptr 0 0, AV.int .i64 x0]) [HB.live (Blk.any [AV.int .i64 x1, AV.sl 1 0 x2 1]), HB.live (Blk.ints .u64 x3)]))
  | _, _ => none

noncomputable def o76 : Nat → Option PSpec := lkN [(3000, fun st _ K => pickM 43 [1, 2, 3, 6, 26] st (o76_3000_in K)), (4000, fun st _ K => pickM 43 [1, 2, 3, 6] st (o76_4000_in K))]
noncomputable def q76 : CallF := evFun (V 76) S63 T105 10

noncomputable def c76_4000 : Code := subC [1, 1] (bodyOf Tryd.f76)

noncomputable def c76_3000 : Code := subC [1, 0, 1] (bodyOf Tryd.f76)

theorem p76_4000 : PieceOk (V 76) q76 o76 76 0 (3998, 0, c76_4000) := .s (size := 43) (ss := [1, 2, 3, 6]) (F := @o76_4000_in) (by kernel_rfl) fun R r K vs hh h => by
  unfold o76_4000_in at h; split at h
  · rw [bits_Append_j4_unf] at h; exact Eq.trans (by kernel_rfl) h
  · cases h

theorem p76_3000 : PieceOk (V 76) q76 o76 76 0 (3997, 0, c76_3000) := .s (size := 43) (ss := [1, 2, 3, 6, 26]) (F := @o76_3000_in) (by kernel_rfl) fun R r K vs hh h => by
  unfold o76_3000_in at h; split at h
  · rw [bits_Append_j3_unf] at h; exact Eq.trans (by kernel_rfl) h
  · cases h

theorem pc76 : ∀ x ∈ [(3998, 0, c76_4000), (3997, 0, c76_3000)], PieceOk (V 76) q76 o76 76 0 x := List.forall_mem_cons.2 ⟨p76_4000, List.forall_mem_cons.2 ⟨p76_3000, fun _ h => nomatch h⟩⟩

theorem bits_Append_eq {R : Type} (K : AV → Option R) (n97 : Int) (xs98 : List Int) (n99 : Int) (n100 : Int) : evSpec (V 76) S63 T105 o76 10 76 ([AV.agg (Blk.any [AV.int .i64 n97, AV.fsl (Blk.ints .u64 xs98)]), AV.int .u64 n99, AV.int .i64 n100]) R K = bits_Append_B n97 xs98 n99 n100 (fun x0 x1 x2 => K (AV.tup [AV.agg (Blk.any [AV.int .i64 x0, AV.fsl (Blk.ints .u64 x1)]), AV.int .i64 x2])) := by kernel_rfl

noncomputable def sp76 : Ev.Spec := fun args _ K => match args with
  | ([AV.agg (Blk.any [AV.int .i64 n97, AV.fsl (Blk.ints .u64 xs98)]), AV.int .u64 n99, AV.int .i64 n100]) => bits_Append n97 xs98 n99 n100 (fun x0 x1 x2 => K (AV.tup [AV.agg (Blk.any [AV.int .i64 x0, AV.fsl (Blk.ints .u64 x1)]), AV.int .i64 x2]))
  | _ => none
noncomputable def S76 := addS 76 sp76 S63
theorem D10 : Dom B0 V S76 T105 10 := Dom.s (m := 9) (n := 0) D9 D9 (O := o76) (OrcOk.fn (fn0 := Tryd.f76) (by kernel_rfl) (by kernel_rfl) pc76) fun args R K r h => by
  unfold sp76 at h; split at h
  · rw [bits_Append_unf] at h; exact (bits_Append_eq K _ _ _ _).trans h
  · cases h

noncomputable def o36r1_3000_in {R : Type} (K : Ex → St → Option R) (vs : List AV) (hh : H) : Option R := match vs, hh with
  | [AV.int .i64 n34, AV.sl 0 0 l35 1, AV.ptr 1 0, AV.bool b36], [HB.live (Blk.ints .u64 xs37), HB.live (Blk.any [AV.int .i64 n38, AV.int .i64 n39, AV.int .i64 n40, AV.esl])] => ints_Make_j3 n34 l35 b36 xs37 n38 n39 n40 (fun x0 x1 x2 x3 x4 => K (Ex.ret) (St.mk (spread 53 0 [4, 5] [AV.ptr 1 0, AV.int .i64 x0]) [HB.live (Blk.ints .u64 x1), HB.live (Blk.any [AV.int .i64 x2, AV.int .i64 x3, AV.int .i64 x4, AV.esl])])) (fun x0 x1 x2 x3 x4 x5 => K (Ex.normal) (St.mk (spread 53 0 [0, 1, 4] [AV.int .i64 x0, AV.sl 0 0 x1 1, AV.ptr 1 0]) [HB.live (Blk.ints .u64 x2), HB.live (Blk.any [AV.int .i64 x3, AV.int .i64 x4, AV.int .i64 x5, AV.esl])]))
  | _, _ => none

noncomputable def o36r1_4000_in {R : Type} (K : Ex → St → Option R) (vs : List AV) (hh : H) : Option R := match vs, hh with
  | [AV.int .i64 n52, AV.sl 0 0 l53 1, AV.ptr 1 0], [HB.live (Blk.ints .u64 xs54), HB.live (Blk.any [AV.int .i64 n55, AV.int .i64 n56, AV.int .i64 n57, AV.esl])] => ints_Make_j4 n52 l53 xs54 n55 n56 n57 (fun x0 x1 x2 x3 x4 x5 => K (Ex.ret) (St.mk (spread 53 0 [4, 5] [AV.ptr 1 0, AV.int .i64 x0]) [HB.live (Blk.ints .u64 x1), HB.live (Blk.any [AV.int .i64 x2, AV.int .i64 x3, AV.int .i64 x4, AV.fsl (Blk.ints .u64 x5)])]))
  | _, _ => none

noncomputable def o36r1_6400_in {R : Type} (K : Ex → St → Option R) (vs : List AV) (hh : H) : Option R := match vs, hh with
  | [AV.int .i64 n86, AV.sl 0 0 l87 1, AV.ptr 1 0, AV.ptr 2 0, AV.sl 0 0 l88 1, AV.int .i64 n89, AV.int .i64 n90], [HB.live (Blk.ints .u64 xs91), HB.live (Blk.any [AV.int .i64 n92, AV.int .i64 n93, AV.int .i64 n94, AV.esl]), HB.live (Blk.any [AV.int .i64 n95, AV.fsl (Blk.ints .u64 xs96)])] => ints_Make_l6 n86 l87 l88 n89 n90 xs91 n92 n93 n94 n95 xs96 (fun x0 x1 x2 x3 x4 x5 x6 x7 => K (Ex.exit 0) (St.mk (spread 53 0 [0, 1, 4, 6] [AV.int .i64 x0, AV.sl 0 0 x1 1, AV.ptr 1 0, AV.ptr 2 0]) [HB.live (Blk.ints .u64 x2), HB.live (Blk.any [AV.int .i64 x3, AV.int .i64 x4, AV.int .i64 x5, AV.esl]), HB.live (Blk.any [AV.int .i64 x6, AV.fsl (Blk.ints .u64 x7)])]))
  | _, _ => none

noncomputable def o36r1 : Nat → Option PSpec := lkN [(3000, fun st _ K => pickM 53 [0, 1, 4, 28] st (o36r1_3000_in K)), (4000, fun st _ K => pickM 53 [0, 1, 4] st (o36r1_4000_in K)), (6400, fun st _ K => pickM 53 [0, 1, 4, 6, 34, 35, 36] st (o36r1_6400_in K))]
noncomputable def q36r1 : CallF := evFun (V 36) S76 T105 10

noncomputable def c36r1_4000 : Code := subC [1, 1] (bodyOf Tryd.f36)

noncomputable def c36r1_3000 : Code := subC [1, 0, 1] (bodyOf Tryd.f36)

noncomputable def c36r1_6400 : Code := subC [1, 1, 1, 0, 1, 0, 0] (bodyOf Tryd.f36)

noncomputable def lp36r1_6400 {R : Type} (N : Nat) (st : St) (K : Ex → St → Option R) : Option R := evLoop (norm ((V 36).keep 36 (Ev.keyOf c36r1_6400 * 1000 + 400)) 1) (evCode (V 36) q36r1 o36r1 36 1 3993 c36r1_6400) N st (kOut (V 36) 36 1 (Ev.keyOf c36r1_6400 * 1000 + 401) K)

theorem ints_Make_l6_L_eq {R : Type} (K : Ex → St → Option R) : ∀ N : Nat, (fun (n86 : Int) (l87 : Nat) (l88 : Nat) (n89 : Int) (n90 : Int) (xs91 : List Int) (n92 : Int) (n93 : Int) (n94 : Int) (n95 : Int) (xs96 : List Int) => lp36r1_6400 N (St.mk (spread 53 0 [0, 1, 4, 6, 34, 35, 36] [AV.int .i64 n86, AV.sl 0 0 l87 1, AV.ptr 1 0, AV.ptr 2 0, AV.sl 0 0 l88 1, AV.int .i64 n89, AV.int .i64 n90]) [HB.live (Blk.ints .u64 xs91), HB.live (Blk.any [AV.int .i64 n92, AV.int .i64 n93, AV.int .i64 n94, AV.esl]), HB.live (Blk.any [AV.int .i64 n95, AV.fsl (Blk.ints .u64 xs96)])]) K) = ints_Make_l6_L (fun x0 x1 x2 x3 x4 x5 x6 x7 => K (Ex.exit 0) (St.mk (spread 53 0 [0, 1, 4, 6] [AV.int .i64 x0, AV.sl 0 0 x1 1, AV.ptr 1 0, AV.ptr 2 0]) [HB.live (Blk.ints .u64 x2), HB.live (Blk.any [AV.int .i64 x3, AV.int .i64 x4, AV.int .i64 x5, AV.esl]), HB.live (Blk.any [AV.int .i64 x6, AV.fsl (Blk.ints .u64 x7)])])) N
  | 0 => by funext n86 l87 l88 n89 n90 xs91 n92 n93 n94 n95 xs96; rfl
  | N + 1 => by
    funext n86 l87 l88 n89 n90 xs91 n92 n93 n94 n95 xs96
    simp only [ints_Make_l6_L]
    rw [← ints_Make_l6_L_eq K N]
    kernel_rfl

theorem p36r1_4000 : PieceOk (V 36) q36r1 o36r1 36 1 (3998, 0, c36r1_4000) := .s (size := 53) (ss := [0, 1, 4]) (F := @o36r1_4000_in) (by kernel_rfl) fun R r K vs hh h => by
  unfold o36r1_4000_in at h; split at h
  · rw [ints_Make_j4_unf] at h; exact Eq.trans (by kernel_rfl) h
  · cases h

theorem p36r1_3000 : PieceOk (V 36) q36r1 o36r1 36 1 (3997, 0, c36r1_3000) := .s (size := 53) (ss := [0, 1, 4, 28]) (F := @o36r1_3000_in) (by kernel_rfl) fun R r K vs hh h => by
  unfold o36r1_3000_in at h; split at h
  · rw [ints_Make_j3_unf] at h; exact Eq.trans (by kernel_rfl) h
  · cases h

theorem p36r1_6400 : PieceOk (V 36) q36r1 o36r1 36 1 (3993, 1, c36r1_6400) := .l (size := 53) (ss := [0, 1, 4, 6, 34, 35, 36]) (F := @o36r1_6400_in) (by kernel_rfl) (by kernel_rfl) fun R r K vs hh h => by
  unfold o36r1_6400_in at h; split at h
  · rw [ints_Make_l6_unf] at h; unfold ints_Make_l6_B at h; rw [← ints_Make_l6_L_eq K NR] at h; exact h
  · cases h

theorem pc36r1 : ∀ x ∈ [(3998, 0, c36r1_4000), (3997, 0, c36r1_3000), (3993, 1, c36r1_6400)], PieceOk (V 36) q36r1 o36r1 36 1 x := List.forall_mem_cons.2 ⟨p36r1_4000, List.forall_mem_cons.2 ⟨p36r1_3000, List.forall_mem_cons.2 ⟨p36r1_6400, fun _ h => nomatch h⟩⟩⟩

theorem ints_Make_r_eq {R : Type} (K : AV → H → Option R) (n31 : Int) (l32 : Nat) (xs33 : List Int) : evH (V 36) S76 T105 o36r1 10 36 [AV.int .i64 n31, AV.sl 0 0 l32 1] [HB.live (Blk.ints .u64 xs33)] R K = ints_Make_r_B n31 l32 xs33 (fun x0 x1 x2 x3 x4 => K (AV.tup [AV.agg (Blk.any [AV.int .i64 x0, AV.int .i64 x1, AV.int .i64 x2, AV.esl]), AV.int .i64 x3]) ([HB.live (Blk.ints .u64 x4)])) (fun x0 x1 x2 x3 x4 x5 => K (AV.tup [AV.agg (Blk.any [AV.int .i64 x0, AV.int .i64 x1, AV.int .i64 x2, AV.fsl (Blk.ints .u64 x3)]), AV.int .i64 x4]) ([HB.live (Blk.ints .u64 x5)])) := by kernel_rfl

noncomputable def hs36 : HSpec := fun args h _ K => match args, h with
  | [AV.int .i64 n31, AV.sl 0 0 l32 1], [HB.live (Blk.ints .u64 xs33)] => ints_Make_r n31 l32 xs33 (fun x0 x1 x2 x3 x4 => K (AV.tup [AV.agg (Blk.any [AV.int .i64 x0, AV.int .i64 x1, AV.int .i64 x2, AV.esl]), AV.int .i64 x3]) ([HB.live (Blk.ints .u64 x4)])) (fun x0 x1 x2 x3 x4 x5 => K (AV.tup [AV.agg (Blk.any [AV.int .i64 x0, AV.int .i64 x1, AV.int .i64 x2, AV.fsl (Blk.ints .u64 x3)]), AV.int .i64 x4]) ([HB.live (Blk.ints .u64 x5)]))
  | _, _ => none
noncomputable def T36 := addT 36 hs36 T105
theorem D11 : Dom B0 V S76 T36 11 := Dom.t D10 fun args hh R K r h => by
  unfold hs36 at h; split at h
  · rw [ints_Make_r_unf] at h; exact ⟨o36r1, (OrcOk.fn (fn0 := Tryd.f36) (by kernel_rfl) (by kernel_rfl) pc36r1), (ints_Make_r_eq K _ _ _).trans h⟩
  · cases h

noncomputable def hs35 : HSpec := fun args h _ K => match args, h with
  | [AV.sl 0 0 l1 1], [HB.live (Blk.ints .u64 xs2)] => ints_Of_r l1 xs2 (fun x0 x1 x2 x3 x4 => K (AV.tup [AV.agg (Blk.any [AV.int .i64 x0, AV.int .i64 x1, AV.int .i64 x2, AV.esl]), AV.int .i64 x3]) ([HB.live (Blk.ints .u64 x4)])) (fun x0 x1 x2 x3 x4 x5 => K (AV.tup [AV.agg (Blk.any [AV.int .i64 x0, AV.int .i64 x1, AV.int .i64 x2, AV.fsl (Blk.ints .u64 x3)]), AV.int .i64 x4]) ([HB.live (Blk.ints .u64 x5)]))
  | _, _ => none
noncomputable def T35 := addT 35 hs35 T36
theorem D12 : Dom B0 V S76 T35 12 := Dom.t D11 fun args hh R K r h => by
  unfold hs35 at h; split at h
  · rw [ints_Of_r_unf] at h; exact ⟨(fun _ => none), (fun _ _ _ _ => OrcOk.none _ _), Eq.trans (by kernel_rfl) h⟩
  · cases h

noncomputable def sp46 : Ev.Spec := fun args _ K => match args with
  | ([AV.agg (Blk.any [AV.int .i64 n303, AV.int .i64 n304, AV.int .i64 n305, AV.fsl (Blk.ints .u64 xs306)])]) => ints_Check n303 n304 n305 xs306 (fun x0 => K (AV.bool x0))
  | _ => none
noncomputable def S46 := addS 46 sp46 S76
theorem D13 : Dom B0 V S46 T35 13 := Dom.s (m := 12) (n := 0) D12 D12 (O := (fun _ => none)) (fun _ _ _ _ => OrcOk.none _ _) fun args R K r h => by
  unfold sp46 at h; split at h
  · rw [ints_Check_unf] at h; exact Eq.trans (by kernel_rfl) h
  · cases h

noncomputable def o78_5000_in {R : Type} (K : Ex → St → Option R) (vs : List AV) (hh : H) : Option R := match vs, hh with
  | [AV.bool b309], [] => ints_has_j5 b309 (fun x0 => K (Ex.ret) (St.mk (spread 24 0 [4] [AV.iface 128 (AV.ptr 0 0)]) [HB.live (Blk.any [AV.int .i64 x0])])) (fun _ => K (Ex.normal) (St.mk (spread 24 0 [] []) []))
  | _, _ => none

noncomputable def o78 : Nat → Option PSpec := lkN [(5000, fun st _ K => pickM 24 [12] st (o78_5000_in K))]
noncomputable def q78 : CallF := evFun (V 78) S46 T35 10

noncomputable def c78_5000 : Code := subC [1, 0, 0, 1, 1, 1] (bodyOf Tryd.f78)

theorem p78_5000 : PieceOk (V 78) q78 o78 78 0 (3994, 0, c78_5000) := .s (size := 24) (ss := [12]) (F := @o78_5000_in) (by kernel_rfl) fun R r K vs hh h => by
  unfold o78_5000_in at h; split at h
  · rw [ints_has_j5_unf] at h; exact Eq.trans (by kernel_rfl) h
  · cases h

theorem pc78 : ∀ x ∈ [(3994, 0, c78_5000)], PieceOk (V 78) q78 o78 78 0 x := List.forall_mem_cons.2 ⟨p78_5000, fun _ h => nomatch h⟩

noncomputable def sp78 : Ev.Spec := fun args _ K => match args with
  | ([AV.agg (Blk.any [AV.int .i64 n298, AV.int .i64 n299, AV.int .i64 n300, AV.fsl (Blk.ints .u64 xs301)]), AV.int .i64 n302]) => ints_has n298 n299 n300 xs301 n302 (fun x0 => K (AV.iface 128 (AV.fptr (Blk.any [AV.int .i64 x0])))) (fun _ => K (AV.nilif))
  | _ => none
noncomputable def S78 := addS 78 sp78 S46
theorem D14 : Dom B0 V S78 T35 14 := Dom.s (m := 13) (n := 0) D13 D13 (O := o78) (OrcOk.fn (fn0 := Tryd.f78) (by kernel_rfl) (by kernel_rfl) pc78) fun args R K r h => by
  unfold sp78 at h; split at h
  · rw [ints_has_unf] at h; exact Eq.trans (by kernel_rfl) h
  · cases h

noncomputable def o77_3000_in {R : Type} (K : Ex → St → Option R) (vs : List AV) (hh : H) : Option R := match vs, hh with
  | [AV.int .i64 n332, AV.int .i64 n333, AV.ptr 0 0, AV.bool b334], [HB.live (Blk.any [AV.int .i64 n335, AV.fsl (Blk.ints .u64 xs336)])] => bits_Slice_j3 n332 n333 b334 n335 xs336 (fun x0 x1 => K (Ex.ret) (St.mk (spread 73 0 [6, 7] [AV.int .u64 x0, AV.int .i64 x1]) [])) (fun x0 x1 x2 x3 => K (Ex.normal) (St.mk (spread 73 0 [1, 2, 3] [AV.int .i64 x0, AV.int .i64 x1, AV.ptr 0 0]) [HB.live (Blk.any [AV.int .i64 x2, AV.fsl (Blk.ints .u64 x3)])]))
  | _, _ => none

noncomputable def o77_5000_in {R : Type} (K : Ex → St → Option R) (vs : List AV) (hh : H) : Option R := match vs, hh with
  | [AV.int .i64 n337, AV.int .i64 n338, AV.ptr 0 0, AV.bool b339], [HB.live (Blk.any [AV.int .i64 n340, AV.fsl (Blk.ints .u64 xs341)])] => bits_Slice_j5 n337 n338 b339 n340 xs341 (fun x0 x1 => K (Ex.ret) (St.mk (spread 73 0 [6, 7] [AV.int .u64 x0, AV.int .i64 x1]) [])) (fun x0 x1 x2 x3 => K (Ex.normal) (St.mk (spread 73 0 [1, 2, 3] [AV.int .i64 x0, AV.int .i64 x1, AV.ptr 0 0]) [HB.live (Blk.any [AV.int .i64 x2, AV.fsl (Blk.ints .u64 x3)])]))
  | _, _ => none

noncomputable def o77_8000_in {R : Type} (K : Ex → St → Option R) (vs : List AV) (hh : H) : Option R := match vs, hh with
  | [AV.int .i64 n366, AV.int .i64 n367, AV.ptr 0 0], [HB.live (Blk.any [AV.int .i64 n368, AV.fsl (Blk.ints .u64 xs369)])] => bits_Slice_j8 n366 n367 n368 xs369 (fun x0 x1 => K (Ex.ret) (St.mk (spread 73 0 [6, 7] [AV.int .u64 x0, AV.int .i64 x1]) []))
  | _, _ => none

noncomputable def o77_12000_in {R : Type} (K : Ex → St → Option R) (vs : List AV) (hh : H) : Option R := match vs, hh with
  | [AV.int .i64 n371, AV.int .u64 n372], [] => bits_Slice_j12 n371 n372 (fun x0 x1 => K (Ex.ret) (St.mk (spread 73 0 [6, 7] [AV.int .u64 x0, AV.int .i64 x1]) []))
  | _, _ => none

noncomputable def o77 : Nat → Option PSpec := lkN [(3000, fun st _ K => pickM 73 [1, 2, 3, 11] st (o77_3000_in K)), (5000, fun st _ K => pickM 73 [1, 2, 3, 23] st (o77_5000_in K)), (8000, fun st _ K => pickM 73 [1, 2, 3] st (o77_8000_in K)), (12000, fun st _ K => pickM 73 [2, 10] st (o77_12000_in K))]
noncomputable def q77 : CallF := evFun (V 77) S78 T35 10

noncomputable def c77_8000 : Code := subC [1, 1] (bodyOf Tryd.f77)

noncomputable def c77_3000 : Code := subC [1, 0, 0, 1] (bodyOf Tryd.f77)

noncomputable def c77_5000 : Code := subC [1, 0, 0, 1, 1, 1] (bodyOf Tryd.f77)

noncomputable def c77_12000 : Code := subC [1, 1, 1, 1, 1] (bodyOf Tryd.f77)

theorem bits_Slice_j8_eq {R : Type} (K : Ex → St → Option R) (n366 : Int) (n367 : Int) (n368 : Int) (xs369 : List Int) : evCode (V 77) q77 o77 77 0 3998 c77_8000 (St.mk (spread 73 0 [1, 2, 3] [AV.int .i64 n366, AV.int .i64 n367, AV.ptr 0 0]) [HB.live (Blk.any [AV.int .i64 n368, AV.fsl (Blk.ints .u64 xs369)])]) (kOut (V 77) 77 0 (Ev.keyOf c77_8000 * 1000 + 1) K) = bits_Slice_j8_B n366 n367 n368 xs369 (fun x0 x1 => K (Ex.ret) (St.mk (spread 73 0 [6, 7] [AV.int .u64 x0, AV.int .i64 x1]) [])) := by kernel_rfl

theorem p77_8000 : PieceOk (V 77) q77 o77 77 0 (3998, 0, c77_8000) := .s (size := 73) (ss := [1, 2, 3]) (F := @o77_8000_in) (by kernel_rfl) fun R r K vs hh h => by
  unfold o77_8000_in at h; split at h
  · rw [bits_Slice_j8_unf] at h; exact (bits_Slice_j8_eq K _ _ _ _).trans h
  · cases h

theorem p77_3000 : PieceOk (V 77) q77 o77 77 0 (3996, 0, c77_3000) := .s (size := 73) (ss := [1, 2, 3, 11]) (F := @o77_3000_in) (by kernel_rfl) fun R r K vs hh h => by
  unfold o77_3000_in at h; split at h
  · rw [bits_Slice_j3_unf] at h; exact Eq.trans (by kernel_rfl) h
  · cases h

theorem p77_5000 : PieceOk (V 77) q77 o77 77 0 (3994, 0, c77_5000) := .s (size := 73) (ss := [1, 2, 3, 23]) (F := @o77_5000_in) (by kernel_rfl) fun R r K vs hh h => by
  unfold o77_5000_in at h; split at h
  · rw [bits_Slice_j5_unf] at h; exact Eq.trans (by kernel_rfl) h
  · cases h

theorem p77_12000 : PieceOk (V 77) q77 o77 77 0 (3995, 0, c77_12000) := .s (size := 73) (ss := [2, 10]) (F := @o77_12000_in) (by kernel_rfl) fun R r K vs hh h => by
  unfold o77_12000_in at h; split at h
  · rw [bits_Slice_j12_unf] at h; exact Eq.trans (by kernel_rfl) h
  · cases h

theorem pc77 : ∀ x ∈ [(3998, 0, c77_8000), (3996, 0, c77_3000), (3994, 0, c77_5000), (3995, 0, c77_12000)], PieceOk (V 77) q77 o77 77 0 x := List.forall_mem_cons.2 ⟨p77_8000, List.forall_mem_cons.2 ⟨p77_3000, List.forall_mem_cons.2 ⟨p77_5000, List.forall_mem_cons.2 ⟨p77_12000, fun _ h => nomatch h⟩⟩⟩⟩

noncomputable def sp77 : Ev.Spec := fun args _ K => match args with
  | ([AV.agg (Blk.any [AV.int .i64 n327, AV.fsl (Blk.ints .u64 xs328)]), AV.int .i64 n329, AV.int .i64 n330]) => bits_Slice n327 xs328 n329 n330 (fun x0 x1 => K (AV.tup [AV.int .u64 x0, AV.int .i64 x1]))
  | _ => none
noncomputable def S77 := addS 77 sp77 S78
theorem D15 : Dom B0 V S77 T35 15 := Dom.s (m := 14) (n := 0) D14 D14 (O := o77) (OrcOk.fn (fn0 := Tryd.f77) (by kernel_rfl) (by kernel_rfl) pc77) fun args R K r h => by
  unfold sp77 at h; split at h
  · rw [bits_Slice_unf] at h; exact Eq.trans (by kernel_rfl) h
  · cases h

noncomputable def o37_6400_in {R : Type} (K : Ex → St → Option R) (vs : List AV) (hh : H) : Option R := match vs, hh with
  | [AV.ptr 0 0, AV.sl 1 0 l319 1, AV.int .i64 n320, AV.int .i64 n321], [HB.live (Blk.any [AV.int .i64 n322, AV.int .i64 n323, AV.int .i64 n324, AV.fsl (Blk.ints .u64 xs325)]), HB.live (Blk.ints .u64 xs326)] => ints_List_l6 l319 n320 n321 n322 n323 n324 xs325 xs326 (fun x0 x1 => K (Ex.exit 0) (St.mk (spread 33 0 [3] [AV.sl 0 0 x0 1]) [HB.live (Blk.ints .u64 x1)]))
  | _, _ => none

noncomputable def o37 : Nat → Option PSpec := lkN [(6400, fun st _ K => pickM 33 [1, 3, 12, 13] st (o37_6400_in K))]
noncomputable def q37 : CallF := evFun (V 37) S77 T35 10

noncomputable def c37_6400 : Code := subC [1, 1, 1, 0, 1, 0, 0] (bodyOf Tryd.f37)

noncomputable def lp37_6400 {R : Type} (N : Nat) (st : St) (K : Ex → St → Option R) : Option R := evLoop (norm ((V 37).keep 37 (Ev.keyOf c37_6400 * 1000 + 400)) 0) (evCode (V 37) q37 o37 37 0 3993 c37_6400) N st (kOut (V 37) 37 0 (Ev.keyOf c37_6400 * 1000 + 401) K)

theorem ints_List_l6_L_eq {R : Type} (K : Ex → St → Option R) : ∀ N : Nat, (fun (l319 : Nat) (n320 : Int) (n321 : Int) (n322 : Int) (n323 : Int) (n324 : Int) (xs325 : List Int) (xs326 : List Int) => lp37_6400 N (St.mk (spread 33 0 [1, 3, 12, 13] [AV.ptr 0 0, AV.sl 1 0 l319 1, AV.int .i64 n320, AV.int .i64 n321]) [HB.live (Blk.any [AV.int .i64 n322, AV.int .i64 n323, AV.int .i64 n324, AV.fsl (Blk.ints .u64 xs325)]), HB.live (Blk.ints .u64 xs326)]) K) = ints_List_l6_L (fun x0 x1 => K (Ex.exit 0) (St.mk (spread 33 0 [3] [AV.sl 0 0 x0 1]) [HB.live (Blk.ints .u64 x1)])) N
  | 0 => by funext l319 n320 n321 n322 n323 n324 xs325 xs326; rfl
  | N + 1 => by
    funext l319 n320 n321 n322 n323 n324 xs325 xs326
    simp only [ints_List_l6_L]
    rw [← ints_List_l6_L_eq K N]
    kernel_rfl

theorem p37_6400 : PieceOk (V 37) q37 o37 37 0 (3993, 1, c37_6400) := .l (size := 33) (ss := [1, 3, 12, 13]) (F := @o37_6400_in) (by kernel_rfl) (by kernel_rfl) fun R r K vs hh h => by
  unfold o37_6400_in at h; split at h
  · rw [ints_List_l6_unf] at h; unfold ints_List_l6_B at h; rw [← ints_List_l6_L_eq K NR] at h; exact h
  · cases h

theorem pc37 : ∀ x ∈ [(3993, 1, c37_6400)], PieceOk (V 37) q37 o37 37 0 x := List.forall_mem_cons.2 ⟨p37_6400, fun _ h => nomatch h⟩

noncomputable def sp37 : Ev.Spec := fun args _ K => match args with
  | ([AV.agg (Blk.any [AV.int .i64 n313, AV.int .i64 n314, AV.int .i64 n315, AV.fsl (Blk.ints .u64 xs316)])]) => ints_List n313 n314 n315 xs316 (fun x0 => K (AV.fsl (Blk.ints .u64 x0)))
  | _ => none
noncomputable def S37 := addS 37 sp37 S77
theorem D16 : Dom B0 V S37 T35 16 := Dom.s (m := 15) (n := 0) D15 D15 (O := o37) (OrcOk.fn (fn0 := Tryd.f37) (by kernel_rfl) (by kernel_rfl) pc37) fun args R K r h => by
  unfold sp37 at h; split at h
  · rw [ints_List_unf] at h; exact Eq.trans (by kernel_rfl) h
  · cases h

noncomputable def hs81 : HSpec := fun args h _ K => match args, h with
  | [AV.fsl (Blk.ints .u64 xs402)], [] => slices_Clone_uint64_uint64_r xs402 (fun x0 x1 => K (AV.sl 0 0 x0 1) ([HB.live (Blk.ints .u64 x1)]))
  | _, _ => none
noncomputable def T81 := addT 81 hs81 T35
theorem D17 : Dom B0 V S37 T81 17 := Dom.t D16 fun args hh R K r h => by
  unfold hs81 at h; split at h
  · rw [slices_Clone_uint64_uint64_r_unf] at h; exact ⟨(fun _ => none), (fun _ _ _ _ => OrcOk.none _ _), Eq.trans (by kernel_rfl) h⟩
  · cases h

noncomputable def sp42 : Ev.Spec := fun args _ K => match args with
  | ([AV.agg (Blk.any [AV.int .i64 n292, AV.int .i64 n293, AV.int .i64 n294, AV.fsl (Blk.ints .u64 xs295)]), AV.int .i64 n296, AV.int .u64 n297]) => ints_Put n292 n293 n294 xs295 n296 n297 (fun x0 x1 x2 x3 x4 => K (AV.tup [AV.agg (Blk.any [AV.int .i64 x0, AV.int .i64 x1, AV.int .i64 x2, AV.fsl (Blk.ints .u64 x3)]), AV.int .i64 x4]))
  | _ => none
noncomputable def S42 := addS 42 sp42 S37
theorem D18 : Dom B0 V S42 T81 18 := Dom.s (m := 17) (n := 0) D17 D17 (O := (fun _ => none)) (fun _ _ _ _ => OrcOk.none _ _) fun args R K r h => by
  unfold sp42 at h; split at h
  · rw [ints_Put_unf] at h; exact Eq.trans (by kernel_rfl) h
  · cases h

noncomputable def sp40 : Ev.Spec := fun args _ K => match args with
  | ([AV.agg (Blk.any [AV.int .i64 n431, AV.int .i64 n432, AV.int .i64 n433, AV.fsl (Blk.ints .u64 xs434)]), AV.int .i64 n435]) => ints_Get n431 n432 n433 xs434 n435 (fun x0 x1 => K (AV.tup [AV.int .u64 x0, AV.int .i64 x1]))
  | _ => none
noncomputable def S40 := addS 40 sp40 S42
theorem D19 : Dom B0 V S40 T81 19 := Dom.s (m := 18) (n := 0) D18 D18 (O := (fun _ => none)) (fun _ _ _ _ => OrcOk.none _ _) fun args R K r h => by
  unfold sp40 at h; split at h
  · rw [ints_Get_unf] at h; exact Eq.trans (by kernel_rfl) h
  · cases h

noncomputable def o74_4400_in {R : Type} (K : Ex → St → Option R) (vs : List AV) (hh : H) : Option R := match vs, hh with
  | [AV.int .i64 n527, AV.fsl (Blk.ints .u64 xs528), AV.int .i64 n529, AV.int .i64 n530], [] => ints_width_l4_1 n527 xs528 n529 n530 (fun x0 => K (Ex.exit 0) (St.mk (spread 18 0 [3] [AV.int .i64 x0]) []))
  | _, _ => none

noncomputable def o74 : Nat → Option PSpec := lkN [(4400, fun st _ K => pickM 18 [3, 6, 7, 8] st (o74_4400_in K))]
noncomputable def q74 : CallF := evFun (V 74) S40 T81 10

noncomputable def c74_4400 : Code := subC [1, 1, 0, 1, 0, 0] (bodyOf Tryd.f74)

noncomputable def lp74_4400 {R : Type} (N : Nat) (st : St) (K : Ex → St → Option R) : Option R := evLoop (norm ((V 74).keep 74 (Ev.keyOf c74_4400 * 1000 + 400)) 0) (evCode (V 74) q74 o74 74 0 3994 c74_4400) N st (kOut (V 74) 74 0 (Ev.keyOf c74_4400 * 1000 + 401) K)

theorem ints_width_l4_1_L_eq {R : Type} (K : Ex → St → Option R) : ∀ N : Nat, (fun (n527 : Int) (xs528 : List Int) (n529 : Int) (n530 : Int) => lp74_4400 N (St.mk (spread 18 0 [3, 6, 7, 8] [AV.int .i64 n527, AV.fsl (Blk.ints .u64 xs528), AV.int .i64 n529, AV.int .i64 n530]) []) K) = ints_width_l4_1_L (fun x0 => K (Ex.exit 0) (St.mk (spread 18 0 [3] [AV.int .i64 x0]) [])) N
  | 0 => by funext n527 xs528 n529 n530; rfl
  | N + 1 => by
    funext n527 xs528 n529 n530
    simp only [ints_width_l4_1_L]
    rw [← ints_width_l4_1_L_eq K N]
    kernel_rfl

theorem p74_4400 : PieceOk (V 74) q74 o74 74 0 (3994, 1, c74_4400) := .l (size := 18) (ss := [3, 6, 7, 8]) (F := @o74_4400_in) (by kernel_rfl) (by kernel_rfl) fun R r K vs hh h => by
  unfold o74_4400_in at h; split at h
  · rw [ints_width_l4_1_unf] at h; unfold ints_width_l4_1_B at h; rw [← ints_width_l4_1_L_eq K NR] at h; exact h
  · cases h

theorem pc74 : ∀ x ∈ [(3994, 1, c74_4400)], PieceOk (V 74) q74 o74 74 0 x := List.forall_mem_cons.2 ⟨p74_4400, fun _ h => nomatch h⟩

noncomputable def sp74 : Ev.Spec := fun args _ K => match args with
  | ([AV.fsl (Blk.ints .u64 xs526)]) => ints_width xs526 (fun x0 => K (AV.int .i64 x0))
  | _ => none
noncomputable def S74 := addS 74 sp74 S40
theorem D20 : Dom B0 V S74 T81 20 := Dom.s (m := 19) (n := 0) D19 D19 (O := o74) (OrcOk.fn (fn0 := Tryd.f74) (by kernel_rfl) (by kernel_rfl) pc74) fun args R K r h => by
  unfold sp74 at h; split at h
  · rw [ints_width_unf] at h; exact Eq.trans (by kernel_rfl) h
  · cases h

noncomputable def o36_3000_in {R : Type} (K : Ex → St → Option R) (vs : List AV) (hh : H) : Option R := match vs, hh with
  | [AV.int .i64 n450, AV.fsl (Blk.ints .u64 xs451), AV.ptr 0 0, AV.bool b452], [HB.live (Blk.any [AV.int .i64 n453, AV.int .i64 n454, AV.int .i64 n455, AV.esl])] => ints_Make_j3_1 n450 xs451 b452 n453 n454 n455 (fun x0 x1 x2 x3 => K (Ex.ret) (St.mk (spread 53 0 [4, 5] [AV.ptr 0 0, AV.int .i64 x0]) [HB.live (Blk.any [AV.int .i64 x1, AV.int .i64 x2, AV.int .i64 x3, AV.esl])])) (fun x0 x1 x2 x3 x4 => K (Ex.normal) (St.mk (spread 53 0 [0, 1, 4] [AV.int .i64 x0, AV.fsl (Blk.ints .u64 x1), AV.ptr 0 0]) [HB.live (Blk.any [AV.int .i64 x2, AV.int .i64 x3, AV.int .i64 x4, AV.esl])]))
  | _, _ => none

noncomputable def o36_4000_in {R : Type} (K : Ex → St → Option R) (vs : List AV) (hh : H) : Option R := match vs, hh with
  | [AV.int .i64 n465, AV.fsl (Blk.ints .u64 xs466), AV.ptr 0 0], [HB.live (Blk.any [AV.int .i64 n467, AV.int .i64 n468, AV.int .i64 n469, AV.esl])] => ints_Make_j4_1 n465 xs466 n467 n468 n469 (fun x0 x1 x2 x3 x4 => K (Ex.ret) (St.mk (spread 53 0 [4, 5] [AV.ptr 0 0, AV.int .i64 x0]) [HB.live (Blk.any [AV.int .i64 x1, AV.int .i64 x2, AV.int .i64 x3, AV.fsl (Blk.ints .u64 x4)])]))
  | _, _ => none

noncomputable def o36_6400_in {R : Type} (K : Ex → St → Option R) (vs : List AV) (hh : H) : Option R := match vs, hh with
  | [AV.int .i64 n473, AV.fsl (Blk.ints .u64 xs474), AV.ptr 0 0, AV.ptr 1 0, AV.fsl (Blk.ints .u64 xs475), AV.int .i64 n476, AV.int .i64 n477], [HB.live (Blk.any [AV.int .i64 n478, AV.int .i64 n479, AV.int .i64 n480, AV.esl]), HB.live (Blk.any [AV.int .i64 n481, AV.fsl (Blk.ints .u64 xs482)])] => ints_Make_l6_1 n473 xs474 xs475 n476 n477 n478 n479 n480 n481 xs482 (fun x0 x1 x2 x3 x4 x5 x6 => K (Ex.exit 0) (St.mk (spread 53 0 [0, 1, 4, 6] [AV.int .i64 x0, AV.fsl (Blk.ints .u64 x1), AV.ptr 0 0, AV.ptr 1 0]) [HB.live (Blk.any [AV.int .i64 x2, AV.int .i64 x3, AV.int .i64 x4, AV.esl]), HB.live (Blk.any [AV.int .i64 x5, AV.fsl (Blk.ints .u64 x6)])]))
  | _, _ => none

noncomputable def o36 : Nat → Option PSpec := lkN [(3000, fun st _ K => pickM 53 [0, 1, 4, 28] st (o36_3000_in K)), (4000, fun st _ K => pickM 53 [0, 1, 4] st (o36_4000_in K)), (6400, fun st _ K => pickM 53 [0, 1, 4, 6, 34, 35, 36] st (o36_6400_in K))]
noncomputable def q36 : CallF := evFun (V 36) S74 T81 10

noncomputable def c36_4000 : Code := subC [1, 1] (bodyOf Tryd.f36)

noncomputable def c36_3000 : Code := subC [1, 0, 1] (bodyOf Tryd.f36)

noncomputable def c36_6400 : Code := subC [1, 1, 1, 0, 1, 0, 0] (bodyOf Tryd.f36)

noncomputable def lp36_6400 {R : Type} (N : Nat) (st : St) (K : Ex → St → Option R) : Option R := evLoop (norm ((V 36).keep 36 (Ev.keyOf c36_6400 * 1000 + 400)) 0) (evCode (V 36) q36 o36 36 0 3993 c36_6400) N st (kOut (V 36) 36 0 (Ev.keyOf c36_6400 * 1000 + 401) K)

theorem ints_Make_l6_1_L_eq {R : Type} (K : Ex → St → Option R) : ∀ N : Nat, (fun (n473 : Int) (xs474 : List Int) (xs475 : List Int) (n476 : Int) (n477 : Int) (n478 : Int) (n479 : Int) (n480 : Int) (n481 : Int) (xs482 : List Int) => lp36_6400 N (St.mk (spread 53 0 [0, 1, 4, 6, 34, 35, 36] [AV.int .i64 n473, AV.fsl (Blk.ints .u64 xs474), AV.ptr 0 0, AV.ptr 1 0, AV.fsl (Blk.ints .u64 xs475), AV.int .i64 n476, AV.int .i64 n477]) [HB.live (Blk.any [AV.int .i64 n478, AV.int .i64 n479, AV.int .i64 n480, AV.esl]), HB.live (Blk.any [AV.int .i64 n481, AV.fsl (Blk.ints .u64 xs482)])]) K) = ints_Make_l6_1_L (fun x0 x1 x2 x3 x4 x5 x6 => K (Ex.exit 0) (St.mk (spread 53 0 [0, 1, 4, 6] [AV.int .i64 x0, AV.fsl (Blk.ints .u64 x1), AV.ptr 0 0, AV.ptr 1 0]) [HB.live (Blk.any [AV.int .i64 x2, AV.int .i64 x3, AV.int .i64 x4, AV.esl]), HB.live (Blk.any [AV.int .i64 x5, AV.fsl (Blk.ints .u64 x6)])])) N
  | 0 => by funext n473 xs474 xs475 n476 n477 n478 n479 n480 n481 xs482; rfl
  | N + 1 => by
    funext n473 xs474 xs475 n476 n477 n478 n479 n480 n481 xs482
    simp only [ints_Make_l6_1_L]
    rw [← ints_Make_l6_1_L_eq K N]
    kernel_rfl

theorem p36_4000 : PieceOk (V 36) q36 o36 36 0 (3998, 0, c36_4000) := .s (size := 53) (ss := [0, 1, 4]) (F := @o36_4000_in) (by kernel_rfl) fun R r K vs hh h => by
  unfold o36_4000_in at h; split at h
  · rw [ints_Make_j4_1_unf] at h; exact Eq.trans (by kernel_rfl) h
  · cases h

theorem p36_3000 : PieceOk (V 36) q36 o36 36 0 (3997, 0, c36_3000) := .s (size := 53) (ss := [0, 1, 4, 28]) (F := @o36_3000_in) (by kernel_rfl) fun R r K vs hh h => by
  unfold o36_3000_in at h; split at h
  · rw [ints_Make_j3_1_unf] at h; exact Eq.trans (by kernel_rfl) h
  · cases h

theorem p36_6400 : PieceOk (V 36) q36 o36 36 0 (3993, 1, c36_6400) := .l (size := 53) (ss := [0, 1, 4, 6, 34, 35, 36]) (F := @o36_6400_in) (by kernel_rfl) (by kernel_rfl) fun R r K vs hh h => by
  unfold o36_6400_in at h; split at h
  · rw [ints_Make_l6_1_unf] at h; unfold ints_Make_l6_1_B at h; rw [← ints_Make_l6_1_L_eq K NR] at h; exact h
  · cases h

theorem pc36 : ∀ x ∈ [(3998, 0, c36_4000), (3997, 0, c36_3000), (3993, 1, c36_6400)], PieceOk (V 36) q36 o36 36 0 x := List.forall_mem_cons.2 ⟨p36_4000, List.forall_mem_cons.2 ⟨p36_3000, List.forall_mem_cons.2 ⟨p36_6400, fun _ h => nomatch h⟩⟩⟩

theorem ints_Make_eq {R : Type} (K : AV → Option R) (n448 : Int) (xs449 : List Int) : evSpec (V 36) S74 T81 o36 10 36 ([AV.int .i64 n448, AV.fsl (Blk.ints .u64 xs449)]) R K = ints_Make_B n448 xs449 (fun x0 x1 x2 x3 x4 => K (AV.tup [AV.agg (Blk.any [AV.int .i64 x0, AV.int .i64 x1, AV.int .i64 x2, AV.fsl (Blk.ints .u64 x3)]), AV.int .i64 x4])) := by kernel_rfl

noncomputable def sp36 : Ev.Spec := fun args _ K => match args with
  | ([AV.int .i64 n448, AV.fsl (Blk.ints .u64 xs449)]) => ints_Make n448 xs449 (fun x0 x1 x2 x3 x4 => K (AV.tup [AV.agg (Blk.any [AV.int .i64 x0, AV.int .i64 x1, AV.int .i64 x2, AV.fsl (Blk.ints .u64 x3)]), AV.int .i64 x4]))
  | _ => none
noncomputable def S36 := addS 36 sp36 S74
theorem D21 : Dom B0 V S36 T81 21 := Dom.s (m := 20) (n := 0) D20 D20 (O := o36) (OrcOk.fn (fn0 := Tryd.f36) (by kernel_rfl) (by kernel_rfl) pc36) fun args R K r h => by
  unfold sp36 at h; split at h
  · rw [ints_Make_unf] at h; exact (ints_Make_eq K _ _).trans h
  · cases h

noncomputable def o48r1_5400_in {R : Type} (K : Ex → St → Option R) (vs : List AV) (hh : H) : Option R := match vs, hh with
  | [AV.fsl (Blk.ints .u64 xs594), AV.sl 0 0 l595 1, AV.int .i64 n596], [HB.live (Blk.ints .u64 xs597)] => haystackref03_Rows_l5 xs594 l595 n596 xs597 (fun x0 x1 => K (Ex.ret) (St.mk (spread 26 0 [4] [AV.bool x0]) [HB.live (Blk.ints .u64 x1)])) (fun x0 => K (Ex.exit 0) (St.mk (spread 26 0 [] []) [HB.live (Blk.ints .u64 x0)]))
  | _, _ => none

noncomputable def o48r1 : Nat → Option PSpec := lkN [(5400, fun st _ K => pickM 26 [0, 1, 5] st (o48r1_5400_in K))]
noncomputable def q48r1 : CallF := evFun (V 48) S36 T81 10

noncomputable def c48r1_5400 : Code := subC [1, 1, 0, 1, 0, 0] (bodyOf Tryd.f48)

noncomputable def lp48r1_5400 {R : Type} (N : Nat) (st : St) (K : Ex → St → Option R) : Option R := evLoop (norm ((V 48).keep 48 (Ev.keyOf c48r1_5400 * 1000 + 400)) 1) (evCode (V 48) q48r1 o48r1 48 1 3994 c48r1_5400) N st (kOut (V 48) 48 1 (Ev.keyOf c48r1_5400 * 1000 + 401) K)

theorem haystackref03_Rows_l5_L_eq {R : Type} (K : Ex → St → Option R) : ∀ N : Nat, (fun (xs594 : List Int) (l595 : Nat) (n596 : Int) (xs597 : List Int) => lp48r1_5400 N (St.mk (spread 26 0 [0, 1, 5] [AV.fsl (Blk.ints .u64 xs594), AV.sl 0 0 l595 1, AV.int .i64 n596]) [HB.live (Blk.ints .u64 xs597)]) K) = haystackref03_Rows_l5_L (fun x0 x1 => K (Ex.ret) (St.mk (spread 26 0 [4] [AV.bool x0]) [HB.live (Blk.ints .u64 x1)])) (fun x0 => K (Ex.exit 0) (St.mk (spread 26 0 [] []) [HB.live (Blk.ints .u64 x0)])) N
  | 0 => by funext xs594 l595 n596 xs597; rfl
  | N + 1 => by
    funext xs594 l595 n596 xs597
    simp only [haystackref03_Rows_l5_L]
    rw [← haystackref03_Rows_l5_L_eq K N]
    kernel_rfl

theorem p48r1_5400 : PieceOk (V 48) q48r1 o48r1 48 1 (3994, 1, c48r1_5400) := .l (size := 26) (ss := [0, 1, 5]) (F := @o48r1_5400_in) (by kernel_rfl) (by kernel_rfl) fun R r K vs hh h => by
  unfold o48r1_5400_in at h; split at h
  · rw [haystackref03_Rows_l5_unf] at h; unfold haystackref03_Rows_l5_B at h; rw [← haystackref03_Rows_l5_L_eq K NR] at h; exact h
  · cases h

theorem pc48r1 : ∀ x ∈ [(3994, 1, c48r1_5400)], PieceOk (V 48) q48r1 o48r1 48 1 x := List.forall_mem_cons.2 ⟨p48r1_5400, fun _ h => nomatch h⟩

noncomputable def hs48 : HSpec := fun args h _ K => match args, h with
  | [AV.fsl (Blk.ints .u64 xs591), AV.sl 0 0 l592 1], [HB.live (Blk.ints .u64 xs593)] => haystackref03_Rows_r xs591 l592 xs593 (fun x0 x1 => K (AV.bool x0) ([HB.live (Blk.ints .u64 x1)]))
  | _, _ => none
noncomputable def T48 := addT 48 hs48 T81
theorem D22 : Dom B0 V S36 T48 22 := Dom.t D21 fun args hh R K r h => by
  unfold hs48 at h; split at h
  · rw [haystackref03_Rows_r_unf] at h; exact ⟨o48r1, (OrcOk.fn (fn0 := Tryd.f48) (by kernel_rfl) (by kernel_rfl) pc48r1), Eq.trans (by kernel_rfl) h⟩
  · cases h

noncomputable def o34_4000_in {R : Type} (K : Ex → St → Option R) (vs : List AV) (hh : H) : Option R := match vs, hh with
  | [AV.ptr 0 0, AV.int .i64 n422, AV.ptr 1 0, AV.int .i64 n423], [HB.live (Blk.any [AV.int .i64 n424, AV.int .i64 n425, AV.int .i64 n426, AV.esl]), HB.live (Blk.any [AV.int .i64 n427, AV.int .i64 n428, AV.int .i64 n429, AV.fsl (Blk.ints .u64 xs430)])] => haystacklaw03_heads_j4 n422 n423 n424 n425 n426 n427 n428 n429 xs430
  | [AV.ptr 0 0, AV.int .i64 n564, AV.ptr 1 0, AV.int .i64 n565], [HB.live (Blk.any [AV.int .i64 n566, AV.int .i64 n567, AV.int .i64 n568, AV.fsl (Blk.ints .u64 xs569)]), HB.live (Blk.any [AV.int .i64 n570, AV.int .i64 n571, AV.int .i64 n572, AV.fsl (Blk.ints .u64 xs573)])] => haystacklaw03_heads_j4_1 n564 n565 n566 n567 n568 xs569 n570 n571 n572 xs573 (fun x0 => K (Ex.ret) (St.mk (spread 109 0 [0] [AV.bool x0]) []))
  | _, _ => none

noncomputable def o34 : Nat → Option PSpec := lkN [(4000, fun st _ K => pickM 109 [1, 2, 3, 4] st (o34_4000_in K))]
noncomputable def q34 : CallF := evFun (V 34) S36 T48 10

noncomputable def c34_4000 : Code := subC [1, 1, 1] (bodyOf Tryd.f34)

theorem haystacklaw03_heads_j4_1_eq {R : Type} (K : Ex → St → Option R) (n564 : Int) (n565 : Int) (n566 : Int) (n567 : Int) (n568 : Int) (xs569 : List Int) (n570 : Int) (n571 : Int) (n572 : Int) (xs573 : List Int) : evCode (V 34) q34 o34 34 0 3997 c34_4000 (St.mk (spread 109 0 [1, 2, 3, 4] [AV.ptr 0 0, AV.int .i64 n564, AV.ptr 1 0, AV.int .i64 n565]) [HB.live (Blk.any [AV.int .i64 n566, AV.int .i64 n567, AV.int .i64 n568, AV.fsl (Blk.ints .u64 xs569)]), HB.live (Blk.any [AV.int .i64 n570, AV.int .i64 n571, AV.int .i64 n572, AV.fsl (Blk.ints .u64 xs573)])]) (kOut (V 34) 34 0 (Ev.keyOf c34_4000 * 1000 + 1) K) = haystacklaw03_heads_j4_1_B n564 n565 n566 n567 n568 xs569 n570 n571 n572 xs573 (fun x0 => K (Ex.ret) (St.mk (spread 109 0 [0] [AV.bool x0]) [])) := by kernel_rfl

theorem p34_4000 : PieceOk (V 34) q34 o34 34 0 (3997, 0, c34_4000) := .s (size := 109) (ss := [1, 2, 3, 4]) (F := @o34_4000_in) (by kernel_rfl) fun R r K vs hh h => by
  unfold o34_4000_in at h; split at h
  · rw [haystacklaw03_heads_j4_unf] at h; exact Eq.trans (by kernel_rfl) h
  · rw [haystacklaw03_heads_j4_1_unf] at h; exact (haystacklaw03_heads_j4_1_eq K _ _ _ _ _ _ _ _ _ _).trans h
  · cases h

theorem pc34 : ∀ x ∈ [(3997, 0, c34_4000)], PieceOk (V 34) q34 o34 34 0 x := List.forall_mem_cons.2 ⟨p34_4000, fun _ h => nomatch h⟩

noncomputable def sp34 : Ev.Spec := fun args _ K => match args with
  | ([]) => haystacklaw03_heads (fun x0 => K (AV.bool x0))
  | _ => none
noncomputable def S34 := addS 34 sp34 S36
theorem D23 : Dom B0 V S34 T48 23 := Dom.s (m := 22) (n := 0) D22 D22 (O := o34) (OrcOk.fn (fn0 := Tryd.f34) (by kernel_rfl) (by kernel_rfl) pc34) fun args R K r h => by
  unfold sp34 at h; split at h
  · rw [haystacklaw03_heads_unf] at h; exact Eq.trans (by kernel_rfl) h
  · cases h

noncomputable def sp35 : Ev.Spec := fun args _ K => match args with
  | ([AV.fsl (Blk.ints .u64 xs605)]) => ints_Of xs605 (fun x0 x1 x2 x3 x4 => K (AV.tup [AV.agg (Blk.any [AV.int .i64 x0, AV.int .i64 x1, AV.int .i64 x2, AV.fsl (Blk.ints .u64 x3)]), AV.int .i64 x4]))
  | _ => none
noncomputable def S35 := addS 35 sp35 S34
theorem D24 : Dom B0 V S35 T48 24 := Dom.s (m := 23) (n := 0) D23 D23 (O := (fun _ => none)) (fun _ _ _ _ => OrcOk.none _ _) fun args R K r h => by
  unfold sp35 at h; split at h
  · rw [ints_Of_unf] at h; exact Eq.trans (by kernel_rfl) h
  · cases h

noncomputable def o31_4000_in {R : Type} (K : Ex → St → Option R) (vs : List AV) (hh : H) : Option R := match vs, hh with
  | [AV.ptr 0 0, AV.ptr 1 0], [HB.live (Blk.any [AV.int .i64 n675, AV.fsl (Blk.ints .u64 xs676)]), HB.live (Blk.any [AV.int .i64 n677, AV.fsl (Blk.ints .u64 xs678)])] => haystackref02_Same_j4 n675 xs676 n677 xs678 (fun x0 => K (Ex.ret) (St.mk (spread 38 0 [4] [AV.bool x0]) []))
  | _, _ => none

noncomputable def o31_5400_in {R : Type} (K : Ex → St → Option R) (vs : List AV) (hh : H) : Option R := match vs, hh with
  | [AV.ptr 0 0, AV.ptr 1 0, AV.int .i64 n679], [HB.live (Blk.any [AV.int .i64 n680, AV.fsl (Blk.ints .u64 xs681)]), HB.live (Blk.any [AV.int .i64 n682, AV.fsl (Blk.ints .u64 xs683)])] => haystackref02_Same_l5 n679 n680 xs681 n682 xs683 (fun x0 => K (Ex.ret) (St.mk (spread 38 0 [4] [AV.bool x0]) [])) (fun _ => K (Ex.exit 0) (St.mk (spread 38 0 [] []) []))
  | _, _ => none

noncomputable def o31 : Nat → Option PSpec := lkN [(4000, fun st _ K => pickM 38 [2, 3] st (o31_4000_in K)), (5400, fun st _ K => pickM 38 [2, 3, 5] st (o31_5400_in K))]
noncomputable def q31 : CallF := evFun (V 31) S35 T48 10

noncomputable def c31_4000 : Code := subC [1, 1] (bodyOf Tryd.f31)

noncomputable def c31_5400 : Code := subC [1, 1, 0, 1, 0, 0] (bodyOf Tryd.f31)

noncomputable def lp31_5400 {R : Type} (N : Nat) (st : St) (K : Ex → St → Option R) : Option R := evLoop (norm ((V 31).keep 31 (Ev.keyOf c31_5400 * 1000 + 400)) 0) (evCode (V 31) q31 o31 31 0 3994 c31_5400) N st (kOut (V 31) 31 0 (Ev.keyOf c31_5400 * 1000 + 401) K)

theorem haystackref02_Same_l5_L_eq {R : Type} (K : Ex → St → Option R) : ∀ N : Nat, (fun (n679 : Int) (n680 : Int) (xs681 : List Int) (n682 : Int) (xs683 : List Int) => lp31_5400 N (St.mk (spread 38 0 [2, 3, 5] [AV.ptr 0 0, AV.ptr 1 0, AV.int .i64 n679]) [HB.live (Blk.any [AV.int .i64 n680, AV.fsl (Blk.ints .u64 xs681)]), HB.live (Blk.any [AV.int .i64 n682, AV.fsl (Blk.ints .u64 xs683)])]) K) = haystackref02_Same_l5_L (fun x0 => K (Ex.ret) (St.mk (spread 38 0 [4] [AV.bool x0]) [])) (fun _ => K (Ex.exit 0) (St.mk (spread 38 0 [] []) [])) N
  | 0 => by funext n679 n680 xs681 n682 xs683; rfl
  | N + 1 => by
    funext n679 n680 xs681 n682 xs683
    simp only [haystackref02_Same_l5_L]
    rw [← haystackref02_Same_l5_L_eq K N]
    kernel_rfl

theorem p31_4000 : PieceOk (V 31) q31 o31 31 0 (3998, 0, c31_4000) := .s (size := 38) (ss := [2, 3]) (F := @o31_4000_in) (by kernel_rfl) fun R r K vs hh h => by
  unfold o31_4000_in at h; split at h
  · rw [haystackref02_Same_j4_unf] at h; exact Eq.trans (by kernel_rfl) h
  · cases h

theorem p31_5400 : PieceOk (V 31) q31 o31 31 0 (3994, 1, c31_5400) := .l (size := 38) (ss := [2, 3, 5]) (F := @o31_5400_in) (by kernel_rfl) (by kernel_rfl) fun R r K vs hh h => by
  unfold o31_5400_in at h; split at h
  · rw [haystackref02_Same_l5_unf] at h; unfold haystackref02_Same_l5_B at h; rw [← haystackref02_Same_l5_L_eq K NR] at h; exact h
  · cases h

theorem pc31 : ∀ x ∈ [(3998, 0, c31_4000), (3994, 1, c31_5400)], PieceOk (V 31) q31 o31 31 0 x := List.forall_mem_cons.2 ⟨p31_4000, List.forall_mem_cons.2 ⟨p31_5400, fun _ h => nomatch h⟩⟩

noncomputable def sp31 : Ev.Spec := fun args _ K => match args with
  | ([AV.agg (Blk.any [AV.int .i64 n671, AV.fsl (Blk.ints .u64 xs672)]), AV.agg (Blk.any [AV.int .i64 n673, AV.fsl (Blk.ints .u64 xs674)])]) => haystackref02_Same n671 xs672 n673 xs674 (fun x0 => K (AV.bool x0))
  | _ => none
noncomputable def S31 := addS 31 sp31 S35
theorem D25 : Dom B0 V S31 T48 25 := Dom.s (m := 24) (n := 0) D24 D24 (O := o31) (OrcOk.fn (fn0 := Tryd.f31) (by kernel_rfl) (by kernel_rfl) pc31) fun args R K r h => by
  unfold sp31 at h; split at h
  · rw [haystackref02_Same_unf] at h; exact Eq.trans (by kernel_rfl) h
  · cases h

noncomputable def sp38 : Ev.Spec := fun args _ K => match args with
  | ([AV.agg (Blk.any [AV.int .i64 n663, AV.int .i64 n664, AV.int .i64 n665, AV.fsl (Blk.ints .u64 xs666)]), AV.agg (Blk.any [AV.int .i64 n667, AV.int .i64 n668, AV.int .i64 n669, AV.fsl (Blk.ints .u64 xs670)])]) => haystackref03_Same n663 n664 n665 xs666 n667 n668 n669 xs670 (fun x0 => K (AV.bool x0))
  | _ => none
noncomputable def S38 := addS 38 sp38 S31
theorem D26 : Dom B0 V S38 T48 26 := Dom.s (m := 25) (n := 0) D25 D25 (O := (fun _ => none)) (fun _ _ _ _ => OrcOk.none _ _) fun args R K r h => by
  unfold sp38 at h; split at h
  · rw [haystackref03_Same_unf] at h; exact Eq.trans (by kernel_rfl) h
  · cases h

noncomputable def o7_7000_in {R : Type} (K : Ex → St → Option R) (vs : List AV) (hh : H) : Option R := match vs, hh with
  | [AV.fsl (Blk.ints .u64 xs617), AV.ptr 0 0], [HB.live (Blk.any [AV.int .i64 n618, AV.int .i64 n619, AV.int .i64 n620, AV.fsl (Blk.ints .u64 xs621)])] => haystacklaw03_IntsLeast_j7 xs617 n618 n619 n620 xs621 (fun x0 => K (Ex.ret) (St.mk (spread 87 0 [2] [AV.bool x0]) []))
  | _, _ => none

noncomputable def o7_9400_in {R : Type} (K : Ex → St → Option R) (vs : List AV) (hh : H) : Option R := match vs, hh with
  | [AV.fsl (Blk.ints .u64 xs622), AV.ptr 0 0, AV.bool b623, AV.int .i64 n624], [HB.live (Blk.any [AV.int .i64 n625, AV.int .i64 n626, AV.int .i64 n627, AV.fsl (Blk.ints .u64 xs628)])] => haystacklaw03_IntsLeast_l9 xs622 b623 n624 n625 n626 n627 xs628 (fun x0 => K (Ex.ret) (St.mk (spread 87 0 [2] [AV.bool x0]) [])) (fun x0 x1 x2 x3 x4 => K (Ex.exit 0) (St.mk (spread 87 0 [3, 5] [AV.ptr 0 0, AV.bool x0]) [HB.live (Blk.any [AV.int .i64 x1, AV.int .i64 x2, AV.int .i64 x3, AV.fsl (Blk.ints .u64 x4)])]))
  | _, _ => none

noncomputable def o7_13000_in {R : Type} (K : Ex → St → Option R) (vs : List AV) (hh : H) : Option R := match vs, hh with
  | [AV.fsl (Blk.ints .u64 xs629), AV.ptr 0 0, AV.bool b630, AV.int .i64 n631], [HB.live (Blk.any [AV.int .i64 n632, AV.int .i64 n633, AV.int .i64 n634, AV.fsl (Blk.ints .u64 xs635)])] => haystacklaw03_IntsLeast_j13 xs629 b630 n631 n632 n633 n634 xs635 (fun x0 x1 x2 x3 x4 x5 x6 => K (Ex.normal) (St.mk (spread 87 0 [0, 3, 5, 6] [AV.fsl (Blk.ints .u64 x0), AV.ptr 0 0, AV.bool x1, AV.int .i64 x2]) [HB.live (Blk.any [AV.int .i64 x3, AV.int .i64 x4, AV.int .i64 x5, AV.fsl (Blk.ints .u64 x6)])]))
  | _, _ => none

noncomputable def o7 : Nat → Option PSpec := lkN [(7000, fun st _ K => pickM 87 [0, 3] st (o7_7000_in K)), (9400, fun st _ K => pickM 87 [0, 3, 5, 6] st (o7_9400_in K)), (13000, fun st _ K => pickM 87 [0, 3, 5, 6] st (o7_13000_in K))]
noncomputable def q7 : CallF := evFun (V 7) S38 T48 10

noncomputable def c7_7000 : Code := subC [1, 1, 1, 1] (bodyOf Tryd.f7)

noncomputable def c7_9400 : Code := subC [1, 1, 1, 1, 1, 0, 1, 0, 0] (bodyOf Tryd.f7)

noncomputable def lp7_9400 {R : Type} (N : Nat) (st : St) (K : Ex → St → Option R) : Option R := evLoop (norm ((V 7).keep 7 (Ev.keyOf c7_9400 * 1000 + 400)) 0) (evCode (V 7) q7 o7 7 0 3991 c7_9400) N st (kOut (V 7) 7 0 (Ev.keyOf c7_9400 * 1000 + 401) K)

noncomputable def c7_13000 : Code := subC [1, 1, 1, 1, 1, 0, 1, 0, 0, 1, 0, 0, 1] (bodyOf Tryd.f7)

theorem haystacklaw03_IntsLeast_l9_L_eq {R : Type} (K : Ex → St → Option R) : ∀ N : Nat, (fun (xs622 : List Int) (b623 : Bool) (n624 : Int) (n625 : Int) (n626 : Int) (n627 : Int) (xs628 : List Int) => lp7_9400 N (St.mk (spread 87 0 [0, 3, 5, 6] [AV.fsl (Blk.ints .u64 xs622), AV.ptr 0 0, AV.bool b623, AV.int .i64 n624]) [HB.live (Blk.any [AV.int .i64 n625, AV.int .i64 n626, AV.int .i64 n627, AV.fsl (Blk.ints .u64 xs628)])]) K) = haystacklaw03_IntsLeast_l9_L (fun x0 => K (Ex.ret) (St.mk (spread 87 0 [2] [AV.bool x0]) [])) (fun x0 x1 x2 x3 x4 => K (Ex.exit 0) (St.mk (spread 87 0 [3, 5] [AV.ptr 0 0, AV.bool x0]) [HB.live (Blk.any [AV.int .i64 x1, AV.int .i64 x2, AV.int .i64 x3, AV.fsl (Blk.ints .u64 x4)])])) N
  | 0 => by funext xs622 b623 n624 n625 n626 n627 xs628; rfl
  | N + 1 => by
    funext xs622 b623 n624 n625 n626 n627 xs628
    simp only [haystacklaw03_IntsLeast_l9_L]
    rw [← haystacklaw03_IntsLeast_l9_L_eq K N]
    kernel_rfl

theorem p7_7000 : PieceOk (V 7) q7 o7 7 0 (3996, 0, c7_7000) := .s (size := 87) (ss := [0, 3]) (F := @o7_7000_in) (by kernel_rfl) fun R r K vs hh h => by
  unfold o7_7000_in at h; split at h
  · rw [haystacklaw03_IntsLeast_j7_unf] at h; exact Eq.trans (by kernel_rfl) h
  · cases h

theorem p7_9400 : PieceOk (V 7) q7 o7 7 0 (3991, 1, c7_9400) := .l (size := 87) (ss := [0, 3, 5, 6]) (F := @o7_9400_in) (by kernel_rfl) (by kernel_rfl) fun R r K vs hh h => by
  unfold o7_9400_in at h; split at h
  · rw [haystacklaw03_IntsLeast_l9_unf] at h; unfold haystacklaw03_IntsLeast_l9_B at h; rw [← haystacklaw03_IntsLeast_l9_L_eq K NR] at h; exact h
  · cases h

theorem p7_13000 : PieceOk (V 7) q7 o7 7 0 (3987, 0, c7_13000) := .s (size := 87) (ss := [0, 3, 5, 6]) (F := @o7_13000_in) (by kernel_rfl) fun R r K vs hh h => by
  unfold o7_13000_in at h; split at h
  · rw [haystacklaw03_IntsLeast_j13_unf] at h; exact Eq.trans (by kernel_rfl) h
  · cases h

theorem pc7 : ∀ x ∈ [(3996, 0, c7_7000), (3991, 1, c7_9400), (3987, 0, c7_13000)], PieceOk (V 7) q7 o7 7 0 x := List.forall_mem_cons.2 ⟨p7_7000, List.forall_mem_cons.2 ⟨p7_9400, List.forall_mem_cons.2 ⟨p7_13000, fun _ h => nomatch h⟩⟩⟩

noncomputable def sp7 : Ev.Spec := fun args _ K => match args with
  | ([AV.fsl (Blk.ints .u64 xs0)]) => haystacklaw03_IntsLeast xs0 (fun x0 => K (AV.bool x0))
  | _ => none
noncomputable def S7 := addS 7 sp7 S38
theorem D27 : Dom B0 V S7 T48 27 := Dom.s (m := 26) (n := 0) D26 D26 (O := o7) (OrcOk.fn (fn0 := Tryd.f7) (by kernel_rfl) (by kernel_rfl) pc7) fun args R K r h => by
  unfold sp7 at h; split at h
  · rw [haystacklaw03_IntsLeast_unf] at h; exact Eq.trans (by kernel_rfl) h
  · cases h

noncomputable def sp39 : Ev.Spec := fun args _ K => match args with
  | ([AV.agg (Blk.any [AV.int .i64 n698, AV.int .i64 n699, AV.int .i64 n700, AV.fsl (Blk.ints .u64 xs701)])]) => haystacklaw03_small n698 n699 n700 xs701 (fun x0 => K (AV.bool x0))
  | _ => none
noncomputable def S39 := addS 39 sp39 S7
theorem D28 : Dom B0 V S39 T48 28 := Dom.s (m := 27) (n := 0) D27 D27 (O := (fun _ => none)) (fun _ _ _ _ => OrcOk.none _ _) fun args R K r h => by
  unfold sp39 at h; split at h
  · rw [haystacklaw03_small_unf] at h; exact Eq.trans (by kernel_rfl) h
  · cases h

noncomputable def sp61 : Ev.Spec := fun args _ K => match args with
  | ([AV.int .i64 n726]) => haystackref02_Words n726 (fun x0 => K (AV.int .i64 x0))
  | _ => none
noncomputable def S61 := addS 61 sp61 S39
theorem D29 : Dom B0 V S61 T48 29 := Dom.s (m := 28) (n := 0) D28 D28 (O := (fun _ => none)) (fun _ _ _ _ => OrcOk.none _ _) fun args R K r h => by
  unfold sp61 at h; split at h
  · rw [haystackref02_Words_unf] at h; exact Eq.trans (by kernel_rfl) h
  · cases h

noncomputable def o62_4400_in {R : Type} (K : Ex → St → Option R) (vs : List AV) (hh : H) : Option R := match vs, hh with
  | [AV.int .i64 n731, AV.int .u64 n732, AV.int .i64 n733], [] => haystackref01_Mask_l4 n731 n732 n733 (fun x0 => K (Ex.exit 0) (St.mk (spread 20 0 [3] [AV.int .u64 x0]) []))
  | _, _ => none

noncomputable def o62_6000_in {R : Type} (K : Ex → St → Option R) (vs : List AV) (hh : H) : Option R := match vs, hh with
  | [AV.int .i64 n734, AV.int .u64 n735, AV.int .i64 n736], [] => haystackref01_Mask_j6 n734 n735 n736 (fun x0 x1 x2 => K (Ex.normal) (St.mk (spread 20 0 [0, 3, 4] [AV.int .i64 x0, AV.int .u64 x1, AV.int .i64 x2]) []))
  | _, _ => none

noncomputable def o62 : Nat → Option PSpec := lkN [(4400, fun st _ K => pickM 20 [0, 3, 4] st (o62_4400_in K)), (6000, fun st _ K => pickM 20 [0, 3, 4] st (o62_6000_in K))]
noncomputable def q62 : CallF := evFun (V 62) S61 T48 10

noncomputable def c62_4400 : Code := subC [1, 1, 0, 1, 0, 0] (bodyOf Tryd.f62)

noncomputable def lp62_4400 {R : Type} (N : Nat) (st : St) (K : Ex → St → Option R) : Option R := evLoop (norm ((V 62).keep 62 (Ev.keyOf c62_4400 * 1000 + 400)) 0) (evCode (V 62) q62 o62 62 0 3994 c62_4400) N st (kOut (V 62) 62 0 (Ev.keyOf c62_4400 * 1000 + 401) K)

noncomputable def c62_6000 : Code := subC [1, 1, 0, 1, 0, 0, 1] (bodyOf Tryd.f62)

theorem haystackref01_Mask_l4_L_eq {R : Type} (K : Ex → St → Option R) : ∀ N : Nat, (fun (n731 : Int) (n732 : Int) (n733 : Int) => lp62_4400 N (St.mk (spread 20 0 [0, 3, 4] [AV.int .i64 n731, AV.int .u64 n732, AV.int .i64 n733]) []) K) = haystackref01_Mask_l4_L (fun x0 => K (Ex.exit 0) (St.mk (spread 20 0 [3] [AV.int .u64 x0]) [])) N
  | 0 => by funext n731 n732 n733; rfl
  | N + 1 => by
    funext n731 n732 n733
    simp only [haystackref01_Mask_l4_L]
    rw [← haystackref01_Mask_l4_L_eq K N]
    kernel_rfl

theorem p62_4400 : PieceOk (V 62) q62 o62 62 0 (3994, 1, c62_4400) := .l (size := 20) (ss := [0, 3, 4]) (F := @o62_4400_in) (by kernel_rfl) (by kernel_rfl) fun R r K vs hh h => by
  unfold o62_4400_in at h; split at h
  · rw [haystackref01_Mask_l4_unf] at h; unfold haystackref01_Mask_l4_B at h; rw [← haystackref01_Mask_l4_L_eq K NR] at h; exact h
  · cases h

theorem p62_6000 : PieceOk (V 62) q62 o62 62 0 (3993, 0, c62_6000) := .s (size := 20) (ss := [0, 3, 4]) (F := @o62_6000_in) (by kernel_rfl) fun R r K vs hh h => by
  unfold o62_6000_in at h; split at h
  · rw [haystackref01_Mask_j6_unf] at h; exact Eq.trans (by kernel_rfl) h
  · cases h

theorem pc62 : ∀ x ∈ [(3994, 1, c62_4400), (3993, 0, c62_6000)], PieceOk (V 62) q62 o62 62 0 x := List.forall_mem_cons.2 ⟨p62_4400, List.forall_mem_cons.2 ⟨p62_6000, fun _ h => nomatch h⟩⟩

noncomputable def sp62 : Ev.Spec := fun args _ K => match args with
  | ([AV.int .i64 n730]) => haystackref01_Mask n730 (fun x0 => K (AV.int .u64 x0))
  | _ => none
noncomputable def S62 := addS 62 sp62 S61
theorem D30 : Dom B0 V S62 T48 30 := Dom.s (m := 29) (n := 0) D29 D29 (O := o62) (OrcOk.fn (fn0 := Tryd.f62) (by kernel_rfl) (by kernel_rfl) pc62) fun args R K r h => by
  unfold sp62 at h; split at h
  · rw [haystackref01_Mask_unf] at h; exact Eq.trans (by kernel_rfl) h
  · cases h

noncomputable def o15_4000_in {R : Type} (K : Ex → St → Option R) (vs : List AV) (hh : H) : Option R := match vs, hh with
  | [AV.ptr 0 0], [HB.live (Blk.any [AV.int .i64 n728, AV.fsl (Blk.ints .u64 xs729)])] => haystackref02_Check_j4 n728 xs729 (fun x0 => K (Ex.ret) (St.mk (spread 40 0 [2] [AV.bool x0]) []))
  | _, _ => none

noncomputable def o15 : Nat → Option PSpec := lkN [(4000, fun st _ K => pickM 40 [1] st (o15_4000_in K))]
noncomputable def q15 : CallF := evFun (V 15) S62 T48 10

noncomputable def c15_4000 : Code := subC [1, 1] (bodyOf Tryd.f15)

theorem p15_4000 : PieceOk (V 15) q15 o15 15 0 (3998, 0, c15_4000) := .s (size := 40) (ss := [1]) (F := @o15_4000_in) (by kernel_rfl) fun R r K vs hh h => by
  unfold o15_4000_in at h; split at h
  · rw [haystackref02_Check_j4_unf] at h; exact Eq.trans (by kernel_rfl) h
  · cases h

theorem pc15 : ∀ x ∈ [(3998, 0, c15_4000)], PieceOk (V 15) q15 o15 15 0 x := List.forall_mem_cons.2 ⟨p15_4000, fun _ h => nomatch h⟩

noncomputable def sp15 : Ev.Spec := fun args _ K => match args with
  | ([AV.agg (Blk.any [AV.int .i64 n724, AV.fsl (Blk.ints .u64 xs725)])]) => haystackref02_Check n724 xs725 (fun x0 => K (AV.bool x0))
  | _ => none
noncomputable def S15 := addS 15 sp15 S62
theorem D31 : Dom B0 V S15 T48 31 := Dom.s (m := 30) (n := 0) D30 D30 (O := o15) (OrcOk.fn (fn0 := Tryd.f15) (by kernel_rfl) (by kernel_rfl) pc15) fun args R K r h => by
  unfold sp15 at h; split at h
  · rw [haystackref02_Check_unf] at h; exact Eq.trans (by kernel_rfl) h
  · cases h

noncomputable def sp47 : Ev.Spec := fun args _ K => match args with
  | ([AV.agg (Blk.any [AV.int .i64 n720, AV.int .i64 n721, AV.int .i64 n722, AV.fsl (Blk.ints .u64 xs723)])]) => haystackref03_Check n720 n721 n722 xs723 (fun x0 => K (AV.bool x0))
  | _ => none
noncomputable def S47 := addS 47 sp47 S15
theorem D32 : Dom B0 V S47 T48 32 := Dom.s (m := 31) (n := 0) D31 D31 (O := (fun _ => none)) (fun _ _ _ _ => OrcOk.none _ _) fun args R K r h => by
  unfold sp47 at h; split at h
  · rw [haystackref03_Check_unf] at h; exact Eq.trans (by kernel_rfl) h
  · cases h

noncomputable def sp72 : Ev.Spec := fun args _ K => match args with
  | ([AV.agg (Blk.any [AV.int .i64 n770, AV.fsl (Blk.ints .u64 xs771)]), AV.int .i64 n772]) => haystackref02_At n770 xs771 n772 (fun x0 => K (AV.bool x0))
  | _ => none
noncomputable def S72 := addS 72 sp72 S47
theorem D33 : Dom B0 V S72 T48 33 := Dom.s (m := 32) (n := 0) D32 D32 (O := (fun _ => none)) (fun _ _ _ _ => OrcOk.none _ _) fun args R K r h => by
  unfold sp72 at h; split at h
  · rw [haystackref02_At_unf] at h; exact Eq.trans (by kernel_rfl) h
  · cases h

noncomputable def o80_4000_in {R : Type} (K : Ex → St → Option R) (vs : List AV) (hh : H) : Option R := match vs, hh with
  | [AV.int .i64 n756, AV.int .i64 n757, AV.ptr 0 0], [HB.live (Blk.any [AV.int .i64 n758, AV.fsl (Blk.ints .u64 xs759)])] => haystackref02_Slice_j4 n756 n757 n758 xs759 (fun x0 x1 => K (Ex.ret) (St.mk (spread 53 0 [6, 7] [AV.int .u64 x0, AV.int .i64 x1]) []))
  | _, _ => none

noncomputable def o80_6000_in {R : Type} (K : Ex → St → Option R) (vs : List AV) (hh : H) : Option R := match vs, hh with
  | [AV.int .i64 n760, AV.int .i64 n761, AV.ptr 0 0], [HB.live (Blk.any [AV.int .i64 n762, AV.fsl (Blk.ints .u64 xs763)])] => haystackref02_Slice_j6 n760 n761 n762 xs763 (fun x0 x1 => K (Ex.ret) (St.mk (spread 53 0 [6, 7] [AV.int .u64 x0, AV.int .i64 x1]) []))
  | _, _ => none

noncomputable def o80_8400_in {R : Type} (K : Ex → St → Option R) (vs : List AV) (hh : H) : Option R := match vs, hh with
  | [AV.int .i64 n764, AV.int .i64 n765, AV.ptr 0 0, AV.int .u64 n766, AV.int .i64 n767], [HB.live (Blk.any [AV.int .i64 n768, AV.fsl (Blk.ints .u64 xs769)])] => haystackref02_Slice_l8 n764 n765 n766 n767 n768 xs769 (fun x0 => K (Ex.exit 0) (St.mk (spread 53 0 [8] [AV.int .u64 x0]) []))
  | _, _ => none

noncomputable def o80 : Nat → Option PSpec := lkN [(4000, fun st _ K => pickM 53 [1, 2, 3] st (o80_4000_in K)), (6000, fun st _ K => pickM 53 [1, 2, 3] st (o80_6000_in K)), (8400, fun st _ K => pickM 53 [1, 2, 3, 8, 9] st (o80_8400_in K))]
noncomputable def q80 : CallF := evFun (V 80) S72 T48 10

noncomputable def c80_4000 : Code := subC [1, 1] (bodyOf Tryd.f80)

noncomputable def c80_6000 : Code := subC [1, 1, 1] (bodyOf Tryd.f80)

noncomputable def c80_8400 : Code := subC [1, 1, 1, 1, 0, 1, 0, 0] (bodyOf Tryd.f80)

noncomputable def lp80_8400 {R : Type} (N : Nat) (st : St) (K : Ex → St → Option R) : Option R := evLoop (norm ((V 80).keep 80 (Ev.keyOf c80_8400 * 1000 + 400)) 0) (evCode (V 80) q80 o80 80 0 3992 c80_8400) N st (kOut (V 80) 80 0 (Ev.keyOf c80_8400 * 1000 + 401) K)

theorem haystackref02_Slice_l8_L_eq {R : Type} (K : Ex → St → Option R) : ∀ N : Nat, (fun (n764 : Int) (n765 : Int) (n766 : Int) (n767 : Int) (n768 : Int) (xs769 : List Int) => lp80_8400 N (St.mk (spread 53 0 [1, 2, 3, 8, 9] [AV.int .i64 n764, AV.int .i64 n765, AV.ptr 0 0, AV.int .u64 n766, AV.int .i64 n767]) [HB.live (Blk.any [AV.int .i64 n768, AV.fsl (Blk.ints .u64 xs769)])]) K) = haystackref02_Slice_l8_L (fun x0 => K (Ex.exit 0) (St.mk (spread 53 0 [8] [AV.int .u64 x0]) [])) N
  | 0 => by funext n764 n765 n766 n767 n768 xs769; rfl
  | N + 1 => by
    funext n764 n765 n766 n767 n768 xs769
    simp only [haystackref02_Slice_l8_L]
    rw [← haystackref02_Slice_l8_L_eq K N]
    kernel_rfl

theorem p80_4000 : PieceOk (V 80) q80 o80 80 0 (3998, 0, c80_4000) := .s (size := 53) (ss := [1, 2, 3]) (F := @o80_4000_in) (by kernel_rfl) fun R r K vs hh h => by
  unfold o80_4000_in at h; split at h
  · rw [haystackref02_Slice_j4_unf] at h; exact Eq.trans (by kernel_rfl) h
  · cases h

theorem p80_6000 : PieceOk (V 80) q80 o80 80 0 (3997, 0, c80_6000) := .s (size := 53) (ss := [1, 2, 3]) (F := @o80_6000_in) (by kernel_rfl) fun R r K vs hh h => by
  unfold o80_6000_in at h; split at h
  · rw [haystackref02_Slice_j6_unf] at h; exact Eq.trans (by kernel_rfl) h
  · cases h

theorem p80_8400 : PieceOk (V 80) q80 o80 80 0 (3992, 1, c80_8400) := .l (size := 53) (ss := [1, 2, 3, 8, 9]) (F := @o80_8400_in) (by kernel_rfl) (by kernel_rfl) fun R r K vs hh h => by
  unfold o80_8400_in at h; split at h
  · rw [haystackref02_Slice_l8_unf] at h; unfold haystackref02_Slice_l8_B at h; rw [← haystackref02_Slice_l8_L_eq K NR] at h; exact h
  · cases h

theorem pc80 : ∀ x ∈ [(3998, 0, c80_4000), (3997, 0, c80_6000), (3992, 1, c80_8400)], PieceOk (V 80) q80 o80 80 0 x := List.forall_mem_cons.2 ⟨p80_4000, List.forall_mem_cons.2 ⟨p80_6000, List.forall_mem_cons.2 ⟨p80_8400, fun _ h => nomatch h⟩⟩⟩

noncomputable def sp80 : Ev.Spec := fun args _ K => match args with
  | ([AV.agg (Blk.any [AV.int .i64 n751, AV.fsl (Blk.ints .u64 xs752)]), AV.int .i64 n753, AV.int .i64 n754]) => haystackref02_Slice n751 xs752 n753 n754 (fun x0 x1 => K (AV.tup [AV.int .u64 x0, AV.int .i64 x1]))
  | _ => none
noncomputable def S80 := addS 80 sp80 S72
theorem D34 : Dom B0 V S80 T48 34 := Dom.s (m := 33) (n := 0) D33 D33 (O := o80) (OrcOk.fn (fn0 := Tryd.f80) (by kernel_rfl) (by kernel_rfl) pc80) fun args R K r h => by
  unfold sp80 at h; split at h
  · rw [haystackref02_Slice_unf] at h; exact Eq.trans (by kernel_rfl) h
  · cases h

noncomputable def o41_6000_in {R : Type} (K : Ex → St → Option R) (vs : List AV) (hh : H) : Option R := match vs, hh with
  | [AV.int .i64 n746, AV.ptr 0 0], [HB.live (Blk.any [AV.int .i64 n747, AV.int .i64 n748, AV.int .i64 n749, AV.fsl (Blk.ints .u64 xs750)])] => haystackref03_Get_j6 n746 n747 n748 n749 xs750 (fun x0 x1 => K (Ex.ret) (St.mk (spread 28 0 [4, 5] [AV.int .u64 x0, AV.int .i64 x1]) []))
  | _, _ => none

noncomputable def o41 : Nat → Option PSpec := lkN [(6000, fun st _ K => pickM 28 [1, 2] st (o41_6000_in K))]
noncomputable def q41 : CallF := evFun (V 41) S80 T48 10

noncomputable def c41_6000 : Code := subC [1, 1, 1] (bodyOf Tryd.f41)

theorem p41_6000 : PieceOk (V 41) q41 o41 41 0 (3997, 0, c41_6000) := .s (size := 28) (ss := [1, 2]) (F := @o41_6000_in) (by kernel_rfl) fun R r K vs hh h => by
  unfold o41_6000_in at h; split at h
  · rw [haystackref03_Get_j6_unf] at h; exact Eq.trans (by kernel_rfl) h
  · cases h

theorem pc41 : ∀ x ∈ [(3997, 0, c41_6000)], PieceOk (V 41) q41 o41 41 0 x := List.forall_mem_cons.2 ⟨p41_6000, fun _ h => nomatch h⟩

noncomputable def sp41 : Ev.Spec := fun args _ K => match args with
  | ([AV.agg (Blk.any [AV.int .i64 n715, AV.int .i64 n716, AV.int .i64 n717, AV.fsl (Blk.ints .u64 xs718)]), AV.int .i64 n719]) => haystackref03_Get n715 n716 n717 xs718 n719 (fun x0 x1 => K (AV.tup [AV.int .u64 x0, AV.int .i64 x1]))
  | _ => none
noncomputable def S41 := addS 41 sp41 S80
theorem D35 : Dom B0 V S41 T48 35 := Dom.s (m := 34) (n := 0) D34 D34 (O := o41) (OrcOk.fn (fn0 := Tryd.f41) (by kernel_rfl) (by kernel_rfl) pc41) fun args R K r h => by
  unfold sp41 at h; split at h
  · rw [haystackref03_Get_unf] at h; exact Eq.trans (by kernel_rfl) h
  · cases h

noncomputable def o107_3400_in {R : Type} (K : Ex → St → Option R) (vs : List AV) (hh : H) : Option R := match vs, hh with
  | [AV.int .u64 n834, AV.int .i64 n835], [] => haystackref01_Len_l3 n834 n835 (fun x0 => K (Ex.ret) (St.mk (spread 16 0 [2] [AV.int .i64 x0]) [])) (fun _ => K (Ex.exit 0) (St.mk (spread 16 0 [] []) []))
  | _, _ => none

noncomputable def o107 : Nat → Option PSpec := lkN [(3400, fun st _ K => pickM 16 [0, 3] st (o107_3400_in K))]
noncomputable def q107 : CallF := evFun (V 107) S41 T48 10

noncomputable def c107_3400 : Code := subC [1, 0, 1, 0, 0] (bodyOf Tryd.f107)

noncomputable def lp107_3400 {R : Type} (N : Nat) (st : St) (K : Ex → St → Option R) : Option R := evLoop (norm ((V 107).keep 107 (Ev.keyOf c107_3400 * 1000 + 400)) 0) (evCode (V 107) q107 o107 107 0 3995 c107_3400) N st (kOut (V 107) 107 0 (Ev.keyOf c107_3400 * 1000 + 401) K)

theorem haystackref01_Len_l3_L_eq {R : Type} (K : Ex → St → Option R) : ∀ N : Nat, (fun (n834 : Int) (n835 : Int) => lp107_3400 N (St.mk (spread 16 0 [0, 3] [AV.int .u64 n834, AV.int .i64 n835]) []) K) = haystackref01_Len_l3_L (fun x0 => K (Ex.ret) (St.mk (spread 16 0 [2] [AV.int .i64 x0]) [])) (fun _ => K (Ex.exit 0) (St.mk (spread 16 0 [] []) [])) N
  | 0 => by funext n834 n835; rfl
  | N + 1 => by
    funext n834 n835
    simp only [haystackref01_Len_l3_L]
    rw [← haystackref01_Len_l3_L_eq K N]
    kernel_rfl

theorem p107_3400 : PieceOk (V 107) q107 o107 107 0 (3995, 1, c107_3400) := .l (size := 16) (ss := [0, 3]) (F := @o107_3400_in) (by kernel_rfl) (by kernel_rfl) fun R r K vs hh h => by
  unfold o107_3400_in at h; split at h
  · rw [haystackref01_Len_l3_unf] at h; unfold haystackref01_Len_l3_B at h; rw [← haystackref01_Len_l3_L_eq K NR] at h; exact h
  · cases h

theorem pc107 : ∀ x ∈ [(3995, 1, c107_3400)], PieceOk (V 107) q107 o107 107 0 x := List.forall_mem_cons.2 ⟨p107_3400, fun _ h => nomatch h⟩

noncomputable def sp107 : Ev.Spec := fun args _ K => match args with
  | ([AV.int .u64 n833]) => haystackref01_Len n833 (fun x0 => K (AV.int .i64 x0))
  | _ => none
noncomputable def S107 := addS 107 sp107 S41
theorem D36 : Dom B0 V S107 T48 36 := Dom.s (m := 35) (n := 0) D35 D35 (O := o107) (OrcOk.fn (fn0 := Tryd.f107) (by kernel_rfl) (by kernel_rfl) pc107) fun args R K r h => by
  unfold sp107 at h; split at h
  · rw [haystackref01_Len_unf] at h; exact Eq.trans (by kernel_rfl) h
  · cases h

noncomputable def sp82 : Ev.Spec := fun args _ K => match args with
  | ([AV.int .u64 n831, AV.int .i64 n832]) => haystackref03_fits n831 n832 (fun x0 => K (AV.bool x0))
  | _ => none
noncomputable def S82 := addS 82 sp82 S107
theorem D37 : Dom B0 V S82 T48 37 := Dom.s (m := 36) (n := 0) D36 D36 (O := (fun _ => none)) (fun _ _ _ _ => OrcOk.none _ _) fun args R K r h => by
  unfold sp82 at h; split at h
  · rw [haystackref03_fits_unf] at h; exact Eq.trans (by kernel_rfl) h
  · cases h

noncomputable def o49r0_4400_in {R : Type} (K : Ex → St → Option R) (vs : List AV) (hh : H) : Option R := match vs, hh with
  | [AV.ptr 0 0, AV.esl, AV.int .i64 n843], [HB.live (Blk.any [AV.int .i64 n844, AV.int .i64 n845, AV.int .i64 n846, AV.fsl (Blk.ints .u64 xs847)])] => haystackref03_List_l4 n843 n844 n845 n846 xs847 (fun x0 x1 => K (Ex.exit 0) (St.mk (spread 28 0 [3] [AV.sl 0 0 x0 1]) [HB.live (Blk.ints .u64 x1)])) (fun _ => K (Ex.exit 0) (St.mk (spread 28 0 [3] [AV.esl]) []))
  | [AV.ptr 0 0, AV.sl 1 0 l865 1, AV.int .i64 n866], [HB.live (Blk.any [AV.int .i64 n867, AV.int .i64 n868, AV.int .i64 n869, AV.fsl (Blk.ints .u64 xs870)]), HB.live (Blk.ints .u64 xs871)] => haystackref03_List_l4_1 l865 n866 n867 n868 n869 xs870 xs871 (fun x0 x1 => K (Ex.exit 0) (St.mk (spread 28 0 [3] [AV.sl 0 0 x0 1]) [HB.live (Blk.ints .u64 x1)]))
  | _, _ => none

noncomputable def o49r0_6000_in {R : Type} (K : Ex → St → Option R) (vs : List AV) (hh : H) : Option R := match vs, hh with
  | [AV.ptr 0 0, AV.esl, AV.int .i64 n849], [HB.live (Blk.any [AV.int .i64 n850, AV.int .i64 n851, AV.int .i64 n852, AV.fsl (Blk.ints .u64 xs853)])] => haystackref03_List_j6 n849 n850 n851 n852 xs853 (fun x0 x1 x2 x3 x4 x5 x6 => K (Ex.normal) (St.mk (spread 28 0 [1, 3, 4] [AV.ptr 0 0, AV.sl 1 0 x0 1, AV.int .i64 x1]) [HB.live (Blk.any [AV.int .i64 x2, AV.int .i64 x3, AV.int .i64 x4, AV.fsl (Blk.ints .u64 x5)]), HB.live (Blk.ints .u64 x6)]))
  | [AV.ptr 0 0, AV.sl 1 0 l873 1, AV.int .i64 n874], [HB.live (Blk.any [AV.int .i64 n875, AV.int .i64 n876, AV.int .i64 n877, AV.fsl (Blk.ints .u64 xs878)]), HB.live (Blk.ints .u64 xs879)] => haystackref03_List_j6_1 l873 n874 n875 n876 n877 xs878 xs879 (fun x0 x1 x2 x3 x4 x5 x6 => K (Ex.normal) (St.mk (spread 28 0 [1, 3, 4] [AV.ptr 0 0, AV.sl 1 0 x0 1, AV.int .i64 x1]) [HB.live (Blk.any [AV.int .i64 x2, AV.int .i64 x3, AV.int .i64 x4, AV.fsl (Blk.ints .u64 x5)]), HB.live (Blk.ints .u64 x6)]))
  | _, _ => none

noncomputable def o49r0 : Nat → Option PSpec := lkN [(4400, fun st _ K => pickM 28 [1, 3, 4] st (o49r0_4400_in K)), (6000, fun st _ K => pickM 28 [1, 3, 4] st (o49r0_6000_in K))]
noncomputable def q49r0 : CallF := evFun (V 49) S82 T48 10

noncomputable def c49r0_4400 : Code := subC [1, 1, 0, 1, 0, 0] (bodyOf Tryd.f49)

noncomputable def lp49r0_4400 {R : Type} (N : Nat) (st : St) (K : Ex → St → Option R) : Option R := evLoop (norm ((V 49).keep 49 (Ev.keyOf c49r0_4400 * 1000 + 400)) 0) (evCode (V 49) q49r0 o49r0 49 0 3994 c49r0_4400) N st (kOut (V 49) 49 0 (Ev.keyOf c49r0_4400 * 1000 + 401) K)

noncomputable def c49r0_6000 : Code := subC [1, 1, 0, 1, 0, 0, 1] (bodyOf Tryd.f49)

theorem haystackref03_List_l4_1_L_eq {R : Type} (K : Ex → St → Option R) : ∀ N : Nat, (fun (l865 : Nat) (n866 : Int) (n867 : Int) (n868 : Int) (n869 : Int) (xs870 : List Int) (xs871 : List Int) => lp49r0_4400 N (St.mk (spread 28 0 [1, 3, 4] [AV.ptr 0 0, AV.sl 1 0 l865 1, AV.int .i64 n866]) [HB.live (Blk.any [AV.int .i64 n867, AV.int .i64 n868, AV.int .i64 n869, AV.fsl (Blk.ints .u64 xs870)]), HB.live (Blk.ints .u64 xs871)]) K) = haystackref03_List_l4_1_L (fun x0 x1 => K (Ex.exit 0) (St.mk (spread 28 0 [3] [AV.sl 0 0 x0 1]) [HB.live (Blk.ints .u64 x1)])) N
  | 0 => by funext l865 n866 n867 n868 n869 xs870 xs871; rfl
  | N + 1 => by
    funext l865 n866 n867 n868 n869 xs870 xs871
    simp only [haystackref03_List_l4_1_L]
    rw [← haystackref03_List_l4_1_L_eq K N]
    kernel_rfl

theorem haystackref03_List_l4_L_eq {R : Type} (K : Ex → St → Option R) : ∀ N : Nat, (fun (n843 : Int) (n844 : Int) (n845 : Int) (n846 : Int) (xs847 : List Int) => lp49r0_4400 N (St.mk (spread 28 0 [1, 3, 4] [AV.ptr 0 0, AV.esl, AV.int .i64 n843]) [HB.live (Blk.any [AV.int .i64 n844, AV.int .i64 n845, AV.int .i64 n846, AV.fsl (Blk.ints .u64 xs847)])]) K) = haystackref03_List_l4_L (fun x0 x1 => K (Ex.exit 0) (St.mk (spread 28 0 [3] [AV.sl 0 0 x0 1]) [HB.live (Blk.ints .u64 x1)])) (fun _ => K (Ex.exit 0) (St.mk (spread 28 0 [3] [AV.esl]) [])) N
  | 0 => by funext n843 n844 n845 n846 xs847; rfl
  | N + 1 => by
    funext n843 n844 n845 n846 xs847
    simp only [haystackref03_List_l4_L]
    rw [← haystackref03_List_l4_L_eq K N, ← haystackref03_List_l4_1_L_eq K N]
    kernel_rfl

theorem p49r0_4400 : PieceOk (V 49) q49r0 o49r0 49 0 (3994, 1, c49r0_4400) := .l (size := 28) (ss := [1, 3, 4]) (F := @o49r0_4400_in) (by kernel_rfl) (by kernel_rfl) fun R r K vs hh h => by
  unfold o49r0_4400_in at h; split at h
  · rw [haystackref03_List_l4_unf] at h; unfold haystackref03_List_l4_B at h; rw [← haystackref03_List_l4_L_eq K NR] at h; exact h
  · rw [haystackref03_List_l4_1_unf] at h; unfold haystackref03_List_l4_1_B at h; rw [← haystackref03_List_l4_1_L_eq K NR] at h; exact h
  · cases h

theorem p49r0_6000 : PieceOk (V 49) q49r0 o49r0 49 0 (3993, 0, c49r0_6000) := .s (size := 28) (ss := [1, 3, 4]) (F := @o49r0_6000_in) (by kernel_rfl) fun R r K vs hh h => by
  unfold o49r0_6000_in at h; split at h
  · rw [haystackref03_List_j6_unf] at h; exact Eq.trans (by kernel_rfl) h
  · rw [haystackref03_List_j6_1_unf] at h; exact Eq.trans (by kernel_rfl) h
  · cases h

theorem pc49r0 : ∀ x ∈ [(3994, 1, c49r0_4400), (3993, 0, c49r0_6000)], PieceOk (V 49) q49r0 o49r0 49 0 x := List.forall_mem_cons.2 ⟨p49r0_4400, List.forall_mem_cons.2 ⟨p49r0_6000, fun _ h => nomatch h⟩⟩

noncomputable def hs49 : HSpec := fun args h _ K => match args, h with
  | [AV.agg (Blk.any [AV.int .i64 n839, AV.int .i64 n840, AV.int .i64 n841, AV.fsl (Blk.ints .u64 xs842)])], [] => haystackref03_List_r n839 n840 n841 xs842 (fun x0 x1 => K (AV.sl 0 0 x0 1) ([HB.live (Blk.ints .u64 x1)])) (fun _ => K (AV.esl) ([]))
  | _, _ => none
noncomputable def T49 := addT 49 hs49 T48
theorem D38 : Dom B0 V S82 T49 38 := Dom.t D37 fun args hh R K r h => by
  unfold hs49 at h; split at h
  · rw [haystackref03_List_r_unf] at h; exact ⟨o49r0, (OrcOk.fn (fn0 := Tryd.f49) (by kernel_rfl) (by kernel_rfl) pc49r0), Eq.trans (by kernel_rfl) h⟩
  · cases h

noncomputable def o108r0_3000_in {R : Type} (K : Ex → St → Option R) (vs : List AV) (hh : H) : Option R := match vs, hh with
  | [AV.int .i64 n1008, AV.ptr 0 0, AV.bool b1009], [HB.live (Blk.any [AV.int .i64 n1010, AV.esl])] => haystackref02_New_j3 n1008 b1009 n1010 (fun x0 x1 => K (Ex.ret) (St.mk (spread 16 0 [2, 3] [AV.ptr 0 0, AV.int .i64 x0]) [HB.live (Blk.any [AV.int .i64 x1, AV.esl])])) (fun x0 x1 => K (Ex.normal) (St.mk (spread 16 0 [0, 2] [AV.int .i64 x0, AV.ptr 0 0]) [HB.live (Blk.any [AV.int .i64 x1, AV.esl])]))
  | _, _ => none

noncomputable def o108r0_4000_in {R : Type} (K : Ex → St → Option R) (vs : List AV) (hh : H) : Option R := match vs, hh with
  | [AV.int .i64 n1015, AV.ptr 0 0], [HB.live (Blk.any [AV.int .i64 n1016, AV.esl])] => haystackref02_New_j4 n1015 n1016 (fun x0 x1 x2 x3 => K (Ex.ret) (St.mk (spread 16 0 [2, 3] [AV.ptr 0 0, AV.int .i64 x0]) [HB.live (Blk.any [AV.int .i64 x1, AV.sl 1 0 x2 1]), HB.live (Blk.ints .u64 x3)]))
  | _, _ => none

noncomputable def o108r0 : Nat → Option PSpec := lkN [(3000, fun st _ K => pickM 16 [0, 2, 9] st (o108r0_3000_in K)), (4000, fun st _ K => pickM 16 [0, 2] st (o108r0_4000_in K))]
noncomputable def q108r0 : CallF := evFun (V 108) S82 T49 10

noncomputable def c108r0_4000 : Code := subC [1, 1] (bodyOf Tryd.f108)

noncomputable def c108r0_3000 : Code := subC [1, 0, 1] (bodyOf Tryd.f108)

theorem p108r0_4000 : PieceOk (V 108) q108r0 o108r0 108 0 (3998, 0, c108r0_4000) := .s (size := 16) (ss := [0, 2]) (F := @o108r0_4000_in) (by kernel_rfl) fun R r K vs hh h => by
  unfold o108r0_4000_in at h; split at h
  · rw [haystackref02_New_j4_unf] at h; exact Eq.trans (by kernel_rfl) h
  · cases h

theorem p108r0_3000 : PieceOk (V 108) q108r0 o108r0 108 0 (3997, 0, c108r0_3000) := .s (size := 16) (ss := [0, 2, 9]) (F := @o108r0_3000_in) (by kernel_rfl) fun R r K vs hh h => by
  unfold o108r0_3000_in at h; split at h
  · rw [haystackref02_New_j3_unf] at h; exact Eq.trans (by kernel_rfl) h
  · cases h

theorem pc108r0 : ∀ x ∈ [(3998, 0, c108r0_4000), (3997, 0, c108r0_3000)], PieceOk (V 108) q108r0 o108r0 108 0 x := List.forall_mem_cons.2 ⟨p108r0_4000, List.forall_mem_cons.2 ⟨p108r0_3000, fun _ h => nomatch h⟩⟩

noncomputable def hs108 : HSpec := fun args h _ K => match args, h with
  | [AV.int .i64 n1007], [] => haystackref02_New_r n1007 (fun x0 x1 => K (AV.tup [AV.agg (Blk.any [AV.int .i64 x0, AV.esl]), AV.int .i64 x1]) ([])) (fun x0 x1 x2 x3 => K (AV.tup [AV.agg (Blk.any [AV.int .i64 x0, AV.sl 0 0 x1 1]), AV.int .i64 x2]) ([HB.live (Blk.ints .u64 x3)]))
  | _, _ => none
noncomputable def T108 := addT 108 hs108 T49
theorem D39 : Dom B0 V S82 T108 39 := Dom.t D38 fun args hh R K r h => by
  unfold hs108 at h; split at h
  · rw [haystackref02_New_r_unf] at h; exact ⟨o108r0, (OrcOk.fn (fn0 := Tryd.f108) (by kernel_rfl) (by kernel_rfl) pc108r0), Eq.trans (by kernel_rfl) h⟩
  · cases h

noncomputable def sp109 : Ev.Spec := fun args _ K => match args with
  | ([AV.fsl (Blk.ints .u64 xs1039), AV.int .i64 n1040, AV.bool b1041]) => haystackref02_put xs1039 n1040 b1041
  | _ => none
noncomputable def S109 := addS 109 sp109 S82
theorem D40 : Dom B0 V S109 T108 40 := Dom.s (m := 39) (n := 0) D39 D39 (O := (fun _ => none)) (fun _ _ _ _ => OrcOk.none _ _) fun args R K r h => by
  unfold sp109 at h; split at h
  · rw [haystackref02_put_unf] at h; exact Eq.trans (by kernel_rfl) h
  · cases h

theorem haystackref02_put_r_eq {R : Type} (K : AV → H → Option R) (l1058 : Nat) (n1059 : Int) (b1060 : Bool) (xs1061 : List Int) : evH (V 109) S109 T108 (fun _ => none) 10 109 [AV.sl 0 0 l1058 1, AV.int .i64 n1059, AV.bool b1060] [HB.live (Blk.ints .u64 xs1061)] R K = haystackref02_put_r_B l1058 n1059 b1060 xs1061 (fun x0 => K (AV.tup []) ([HB.live (Blk.ints .u64 x0)])) := by kernel_rfl

noncomputable def hs109 : HSpec := fun args h _ K => match args, h with
  | [AV.sl 0 0 l1058 1, AV.int .i64 n1059, AV.bool b1060], [HB.live (Blk.ints .u64 xs1061)] => haystackref02_put_r l1058 n1059 b1060 xs1061 (fun x0 => K (AV.tup []) ([HB.live (Blk.ints .u64 x0)]))
  | _, _ => none
noncomputable def T109 := addT 109 hs109 T108
theorem D41 : Dom B0 V S109 T109 41 := Dom.t D40 fun args hh R K r h => by
  unfold hs109 at h; split at h
  · rw [haystackref02_put_r_unf] at h; exact ⟨(fun _ => none), (fun _ _ _ _ => OrcOk.none _ _), (haystackref02_put_r_eq K _ _ _ _).trans h⟩
  · cases h

noncomputable def o83r1_4400_in {R : Type} (K : Ex → St → Option R) (vs : List AV) (hh : H) : Option R := match vs, hh with
  | [AV.sl 0 0 l1033 1, AV.ptr 1 0, AV.ptr 2 0, AV.int .i64 n1034, AV.int .i64 n1035], [HB.live (Blk.bools bs1036), HB.live (Blk.any [AV.int .i64 n1037, AV.esl]), HB.live (Blk.any [AV.int .i64 n1038, AV.esl])] => haystackref02_From_l4 l1033 n1034 n1035 bs1036 n1037 n1038 (fun x0 x1 x2 x3 => K (Ex.exit 0) (St.mk (spread 29 0 [2, 4, 5] [AV.ptr 1 0, AV.ptr 2 0, AV.int .i64 x0]) [HB.live (Blk.bools x1), HB.live (Blk.any [AV.int .i64 x2, AV.esl]), HB.live (Blk.any [AV.int .i64 x3, AV.esl])]))
  | [AV.sl 0 0 l1050 1, AV.ptr 1 0, AV.ptr 2 0, AV.int .i64 n1051, AV.int .i64 n1052], [HB.live (Blk.bools bs1053), HB.live (Blk.any [AV.int .i64 n1054, AV.esl]), HB.live (Blk.any [AV.int .i64 n1055, AV.sl 3 0 l1056 1]), HB.live (Blk.ints .u64 xs1057)] => haystackref02_From_l4_1 l1050 n1051 n1052 bs1053 n1054 n1055 l1056 xs1057 (fun x0 x1 x2 x3 x4 x5 => K (Ex.exit 0) (St.mk (spread 29 0 [2, 4, 5] [AV.ptr 1 0, AV.ptr 2 0, AV.int .i64 x0]) [HB.live (Blk.bools x1), HB.live (Blk.any [AV.int .i64 x2, AV.esl]), HB.live (Blk.any [AV.int .i64 x3, AV.sl 3 0 x4 1]), HB.live (Blk.ints .u64 x5)]))
  | _, _ => none

noncomputable def o83r1 : Nat → Option PSpec := lkN [(4400, fun st _ K => pickM 29 [0, 2, 4, 5, 6] st (o83r1_4400_in K))]
noncomputable def q83r1 : CallF := evFun (V 83) S109 T109 10

noncomputable def c83r1_4400 : Code := subC [1, 1, 0, 1, 0, 0] (bodyOf Tryd.f83)

noncomputable def lp83r1_4400 {R : Type} (N : Nat) (st : St) (K : Ex → St → Option R) : Option R := evLoop (norm ((V 83).keep 83 (Ev.keyOf c83r1_4400 * 1000 + 400)) 1) (evCode (V 83) q83r1 o83r1 83 1 3994 c83r1_4400) N st (kOut (V 83) 83 1 (Ev.keyOf c83r1_4400 * 1000 + 401) K)

theorem haystackref02_From_l4_L_eq {R : Type} (K : Ex → St → Option R) : ∀ N : Nat, (fun (l1033 : Nat) (n1034 : Int) (n1035 : Int) (bs1036 : List Bool) (n1037 : Int) (n1038 : Int) => lp83r1_4400 N (St.mk (spread 29 0 [0, 2, 4, 5, 6] [AV.sl 0 0 l1033 1, AV.ptr 1 0, AV.ptr 2 0, AV.int .i64 n1034, AV.int .i64 n1035]) [HB.live (Blk.bools bs1036), HB.live (Blk.any [AV.int .i64 n1037, AV.esl]), HB.live (Blk.any [AV.int .i64 n1038, AV.esl])]) K) = haystackref02_From_l4_L (fun x0 x1 x2 x3 => K (Ex.exit 0) (St.mk (spread 29 0 [2, 4, 5] [AV.ptr 1 0, AV.ptr 2 0, AV.int .i64 x0]) [HB.live (Blk.bools x1), HB.live (Blk.any [AV.int .i64 x2, AV.esl]), HB.live (Blk.any [AV.int .i64 x3, AV.esl])])) N
  | 0 => by funext l1033 n1034 n1035 bs1036 n1037 n1038; rfl
  | N + 1 => by
    funext l1033 n1034 n1035 bs1036 n1037 n1038
    simp only [haystackref02_From_l4_L]
    rw [← haystackref02_From_l4_L_eq K N]
    kernel_rfl

theorem haystackref02_From_l4_1_L_eq {R : Type} (K : Ex → St → Option R) : ∀ N : Nat, (fun (l1050 : Nat) (n1051 : Int) (n1052 : Int) (bs1053 : List Bool) (n1054 : Int) (n1055 : Int) (l1056 : Nat) (xs1057 : List Int) => lp83r1_4400 N (St.mk (spread 29 0 [0, 2, 4, 5, 6] [AV.sl 0 0 l1050 1, AV.ptr 1 0, AV.ptr 2 0, AV.int .i64 n1051, AV.int .i64 n1052]) [HB.live (Blk.bools bs1053), HB.live (Blk.any [AV.int .i64 n1054, AV.esl]), HB.live (Blk.any [AV.int .i64 n1055, AV.sl 3 0 l1056 1]), HB.live (Blk.ints .u64 xs1057)]) K) = haystackref02_From_l4_1_L (fun x0 x1 x2 x3 x4 x5 => K (Ex.exit 0) (St.mk (spread 29 0 [2, 4, 5] [AV.ptr 1 0, AV.ptr 2 0, AV.int .i64 x0]) [HB.live (Blk.bools x1), HB.live (Blk.any [AV.int .i64 x2, AV.esl]), HB.live (Blk.any [AV.int .i64 x3, AV.sl 3 0 x4 1]), HB.live (Blk.ints .u64 x5)])) N
  | 0 => by funext l1050 n1051 n1052 bs1053 n1054 n1055 l1056 xs1057; rfl
  | N + 1 => by
    funext l1050 n1051 n1052 bs1053 n1054 n1055 l1056 xs1057
    simp only [haystackref02_From_l4_1_L]
    rw [← haystackref02_From_l4_1_L_eq K N]
    kernel_rfl

theorem p83r1_4400 : PieceOk (V 83) q83r1 o83r1 83 1 (3994, 1, c83r1_4400) := .l (size := 29) (ss := [0, 2, 4, 5, 6]) (F := @o83r1_4400_in) (by kernel_rfl) (by kernel_rfl) fun R r K vs hh h => by
  unfold o83r1_4400_in at h; split at h
  · rw [haystackref02_From_l4_unf] at h; unfold haystackref02_From_l4_B at h; rw [← haystackref02_From_l4_L_eq K NR] at h; exact h
  · rw [haystackref02_From_l4_1_unf] at h; unfold haystackref02_From_l4_1_B at h; rw [← haystackref02_From_l4_1_L_eq K NR] at h; exact h
  · cases h

theorem pc83r1 : ∀ x ∈ [(3994, 1, c83r1_4400)], PieceOk (V 83) q83r1 o83r1 83 1 x := List.forall_mem_cons.2 ⟨p83r1_4400, fun _ h => nomatch h⟩

noncomputable def hs83 : HSpec := fun args h _ K => match args, h with
  | [AV.sl 0 0 l1005 1], [HB.live (Blk.bools bs1006)] => haystackref02_From_r l1005 bs1006 (fun x0 x1 x2 => K (AV.tup [AV.agg (Blk.any [AV.int .i64 x0, AV.esl]), AV.int .i64 x1]) ([HB.live (Blk.bools x2)])) (fun x0 x1 x2 x3 x4 => K (AV.tup [AV.agg (Blk.any [AV.int .i64 x0, AV.sl 1 0 x1 1]), AV.int .i64 x2]) ([HB.live (Blk.bools x3), HB.live (Blk.ints .u64 x4)]))
  | _, _ => none
noncomputable def T83 := addT 83 hs83 T109
theorem D42 : Dom B0 V S109 T83 42 := Dom.t D41 fun args hh R K r h => by
  unfold hs83 at h; split at h
  · rw [haystackref02_From_r_unf] at h; exact ⟨o83r1, (OrcOk.fn (fn0 := Tryd.f83) (by kernel_rfl) (by kernel_rfl) pc83r1), Eq.trans (by kernel_rfl) h⟩
  · cases h

noncomputable def o83_4400_in {R : Type} (K : Ex → St → Option R) (vs : List AV) (hh : H) : Option R := match vs, hh with
  | [AV.fsl (Blk.bools bs1088), AV.ptr 0 0, AV.ptr 1 0, AV.int .i64 n1089, AV.int .i64 n1090], [HB.live (Blk.any [AV.int .i64 n1091, AV.esl]), HB.live (Blk.any [AV.int .i64 n1092, AV.esl])] => haystackref02_From_l4_2 bs1088 n1089 n1090 n1091 n1092 (fun x0 x1 x2 => K (Ex.exit 0) (St.mk (spread 29 0 [2, 4, 5] [AV.ptr 0 0, AV.ptr 1 0, AV.int .i64 x0]) [HB.live (Blk.any [AV.int .i64 x1, AV.esl]), HB.live (Blk.any [AV.int .i64 x2, AV.esl])]))
  | [AV.fsl (Blk.bools bs1100), AV.ptr 0 0, AV.ptr 1 0, AV.int .i64 n1101, AV.int .i64 n1102], [HB.live (Blk.any [AV.int .i64 n1103, AV.esl]), HB.live (Blk.any [AV.int .i64 n1104, AV.sl 2 0 l1105 1]), HB.live (Blk.ints .u64 xs1106)] => haystackref02_From_l4_3 bs1100 n1101 n1102 n1103 n1104 l1105 xs1106 (fun x0 x1 x2 x3 x4 => K (Ex.exit 0) (St.mk (spread 29 0 [2, 4, 5] [AV.ptr 0 0, AV.ptr 1 0, AV.int .i64 x0]) [HB.live (Blk.any [AV.int .i64 x1, AV.esl]), HB.live (Blk.any [AV.int .i64 x2, AV.sl 2 0 x3 1]), HB.live (Blk.ints .u64 x4)]))
  | _, _ => none

noncomputable def o83 : Nat → Option PSpec := lkN [(4400, fun st _ K => pickM 29 [0, 2, 4, 5, 6] st (o83_4400_in K))]
noncomputable def q83 : CallF := evFun (V 83) S109 T83 10

noncomputable def c83_4400 : Code := subC [1, 1, 0, 1, 0, 0] (bodyOf Tryd.f83)

noncomputable def lp83_4400 {R : Type} (N : Nat) (st : St) (K : Ex → St → Option R) : Option R := evLoop (norm ((V 83).keep 83 (Ev.keyOf c83_4400 * 1000 + 400)) 0) (evCode (V 83) q83 o83 83 0 3994 c83_4400) N st (kOut (V 83) 83 0 (Ev.keyOf c83_4400 * 1000 + 401) K)

theorem haystackref02_From_l4_2_L_eq {R : Type} (K : Ex → St → Option R) : ∀ N : Nat, (fun (bs1088 : List Bool) (n1089 : Int) (n1090 : Int) (n1091 : Int) (n1092 : Int) => lp83_4400 N (St.mk (spread 29 0 [0, 2, 4, 5, 6] [AV.fsl (Blk.bools bs1088), AV.ptr 0 0, AV.ptr 1 0, AV.int .i64 n1089, AV.int .i64 n1090]) [HB.live (Blk.any [AV.int .i64 n1091, AV.esl]), HB.live (Blk.any [AV.int .i64 n1092, AV.esl])]) K) = haystackref02_From_l4_2_L (fun x0 x1 x2 => K (Ex.exit 0) (St.mk (spread 29 0 [2, 4, 5] [AV.ptr 0 0, AV.ptr 1 0, AV.int .i64 x0]) [HB.live (Blk.any [AV.int .i64 x1, AV.esl]), HB.live (Blk.any [AV.int .i64 x2, AV.esl])])) N
  | 0 => by funext bs1088 n1089 n1090 n1091 n1092; rfl
  | N + 1 => by
    funext bs1088 n1089 n1090 n1091 n1092
    simp only [haystackref02_From_l4_2_L]
    rw [← haystackref02_From_l4_2_L_eq K N]
    kernel_rfl

theorem haystackref02_From_l4_3_L_eq {R : Type} (K : Ex → St → Option R) : ∀ N : Nat, (fun (bs1100 : List Bool) (n1101 : Int) (n1102 : Int) (n1103 : Int) (n1104 : Int) (l1105 : Nat) (xs1106 : List Int) => lp83_4400 N (St.mk (spread 29 0 [0, 2, 4, 5, 6] [AV.fsl (Blk.bools bs1100), AV.ptr 0 0, AV.ptr 1 0, AV.int .i64 n1101, AV.int .i64 n1102]) [HB.live (Blk.any [AV.int .i64 n1103, AV.esl]), HB.live (Blk.any [AV.int .i64 n1104, AV.sl 2 0 l1105 1]), HB.live (Blk.ints .u64 xs1106)]) K) = haystackref02_From_l4_3_L (fun x0 x1 x2 x3 x4 => K (Ex.exit 0) (St.mk (spread 29 0 [2, 4, 5] [AV.ptr 0 0, AV.ptr 1 0, AV.int .i64 x0]) [HB.live (Blk.any [AV.int .i64 x1, AV.esl]), HB.live (Blk.any [AV.int .i64 x2, AV.sl 2 0 x3 1]), HB.live (Blk.ints .u64 x4)])) N
  | 0 => by funext bs1100 n1101 n1102 n1103 n1104 l1105 xs1106; rfl
  | N + 1 => by
    funext bs1100 n1101 n1102 n1103 n1104 l1105 xs1106
    simp only [haystackref02_From_l4_3_L]
    rw [← haystackref02_From_l4_3_L_eq K N]
    kernel_rfl

theorem p83_4400 : PieceOk (V 83) q83 o83 83 0 (3994, 1, c83_4400) := .l (size := 29) (ss := [0, 2, 4, 5, 6]) (F := @o83_4400_in) (by kernel_rfl) (by kernel_rfl) fun R r K vs hh h => by
  unfold o83_4400_in at h; split at h
  · rw [haystackref02_From_l4_2_unf] at h; unfold haystackref02_From_l4_2_B at h; rw [← haystackref02_From_l4_2_L_eq K NR] at h; exact h
  · rw [haystackref02_From_l4_3_unf] at h; unfold haystackref02_From_l4_3_B at h; rw [← haystackref02_From_l4_3_L_eq K NR] at h; exact h
  · cases h

theorem pc83 : ∀ x ∈ [(3994, 1, c83_4400)], PieceOk (V 83) q83 o83 83 0 x := List.forall_mem_cons.2 ⟨p83_4400, fun _ h => nomatch h⟩

noncomputable def sp83 : Ev.Spec := fun args _ K => match args with
  | ([AV.fsl (Blk.bools bs1085)]) => haystackref02_From bs1085 (fun x0 x1 x2 => K (AV.tup [AV.agg (Blk.any [AV.int .i64 x0, AV.fsl (Blk.ints .u64 x1)]), AV.int .i64 x2]))
  | _ => none
noncomputable def S83 := addS 83 sp83 S109
theorem D43 : Dom B0 V S83 T83 43 := Dom.s (m := 42) (n := 0) D42 D42 (O := o83) (OrcOk.fn (fn0 := Tryd.f83) (by kernel_rfl) (by kernel_rfl) pc83) fun args R K r h => by
  unfold sp83 at h; split at h
  · rw [haystackref02_From_unf] at h; exact Eq.trans (by kernel_rfl) h
  · cases h

noncomputable def o44r1_3000_in {R : Type} (K : Ex → St → Option R) (vs : List AV) (hh : H) : Option R := match vs, hh with
  | [AV.int .i64 n900, AV.sl 0 0 l901 1, AV.ptr 1 0, AV.bool b902], [HB.live (Blk.ints .u64 xs903), HB.live (Blk.any [AV.int .i64 n904, AV.int .i64 n905, AV.int .i64 n906, AV.esl])] => haystackref03_Make_j3 n900 l901 b902 xs903 n904 n905 n906 (fun x0 x1 x2 x3 x4 => K (Ex.ret) (St.mk (spread 71 0 [4, 5] [AV.ptr 1 0, AV.int .i64 x0]) [HB.live (Blk.ints .u64 x1), HB.live (Blk.any [AV.int .i64 x2, AV.int .i64 x3, AV.int .i64 x4, AV.esl])])) (fun x0 x1 x2 x3 x4 x5 => K (Ex.normal) (St.mk (spread 71 0 [0, 1, 4] [AV.int .i64 x0, AV.sl 0 0 x1 1, AV.ptr 1 0]) [HB.live (Blk.ints .u64 x2), HB.live (Blk.any [AV.int .i64 x3, AV.int .i64 x4, AV.int .i64 x5, AV.esl])]))
  | _, _ => none

noncomputable def o44r1_4000_in {R : Type} (K : Ex → St → Option R) (vs : List AV) (hh : H) : Option R := match vs, hh with
  | [AV.int .i64 n918, AV.sl 0 0 l919 1, AV.ptr 1 0], [HB.live (Blk.ints .u64 xs920), HB.live (Blk.any [AV.int .i64 n921, AV.int .i64 n922, AV.int .i64 n923, AV.esl])] => haystackref03_Make_j4 n918 l919 xs920 n921 n922 n923 (fun x0 x1 x2 x3 x4 => K (Ex.ret) (St.mk (spread 71 0 [4, 5] [AV.ptr 1 0, AV.int .i64 x0]) [HB.live (Blk.ints .u64 x1), HB.live (Blk.any [AV.int .i64 x2, AV.int .i64 x3, AV.int .i64 x4, AV.esl])])) (fun x0 x1 x2 x3 x4 x5 x6 => K (Ex.ret) (St.mk (spread 71 0 [4, 5] [AV.ptr 1 0, AV.int .i64 x0]) [HB.live (Blk.ints .u64 x1), HB.live (Blk.any [AV.int .i64 x2, AV.int .i64 x3, AV.int .i64 x4, AV.sl 2 0 x5 1]), HB.live (Blk.ints .u64 x6)])) (fun x0 x1 x2 x3 x4 x5 => K (Ex.ret) (St.mk (spread 71 0 [4, 5] [AV.ptr 1 0, AV.int .i64 x0]) [HB.live (Blk.ints .u64 x1), HB.live (Blk.any [AV.int .i64 x2, AV.int .i64 x3, AV.int .i64 x4, AV.fsl (Blk.ints .u64 x5)])]))
  | _, _ => none

noncomputable def o44r1_6400_in {R : Type} (K : Ex → St → Option R) (vs : List AV) (hh : H) : Option R := match vs, hh with
  | [AV.int .i64 n924, AV.sl 0 0 l925 1, AV.ptr 1 0, AV.esl, AV.int .i64 n926], [HB.live (Blk.ints .u64 xs927), HB.live (Blk.any [AV.int .i64 n928, AV.int .i64 n929, AV.int .i64 n930, AV.esl])] => haystackref03_Make_l6 n924 l925 n926 xs927 n928 n929 n930 (fun x0 x1 x2 x3 x4 => K (Ex.ret) (St.mk (spread 71 0 [4, 5] [AV.ptr 1 0, AV.int .i64 x0]) [HB.live (Blk.ints .u64 x1), HB.live (Blk.any [AV.int .i64 x2, AV.int .i64 x3, AV.int .i64 x4, AV.esl])])) (fun x0 x1 x2 x3 x4 x5 x6 x7 => K (Ex.exit 0) (St.mk (spread 71 0 [0, 1, 4, 6] [AV.int .i64 x0, AV.sl 0 0 x1 1, AV.ptr 1 0, AV.sl 2 0 x2 1]) [HB.live (Blk.ints .u64 x3), HB.live (Blk.any [AV.int .i64 x4, AV.int .i64 x5, AV.int .i64 x6, AV.esl]), HB.live (Blk.bools x7)])) (fun x0 x1 x2 x3 x4 x5 => K (Ex.exit 0) (St.mk (spread 71 0 [0, 1, 4, 6] [AV.int .i64 x0, AV.sl 0 0 x1 1, AV.ptr 1 0, AV.esl]) [HB.live (Blk.ints .u64 x2), HB.live (Blk.any [AV.int .i64 x3, AV.int .i64 x4, AV.int .i64 x5, AV.esl])]))
  | [AV.int .i64 n966, AV.sl 0 0 l967 1, AV.ptr 1 0, AV.sl 2 0 l968 1, AV.int .i64 n969], [HB.live (Blk.ints .u64 xs970), HB.live (Blk.any [AV.int .i64 n971, AV.int .i64 n972, AV.int .i64 n973, AV.esl]), HB.live (Blk.bools bs974)] => haystackref03_Make_l6_1 n966 l967 l968 n969 xs970 n971 n972 n973 bs974 (fun x0 x1 x2 x3 x4 => K (Ex.ret) (St.mk (spread 71 0 [4, 5] [AV.ptr 1 0, AV.int .i64 x0]) [HB.live (Blk.ints .u64 x1), HB.live (Blk.any [AV.int .i64 x2, AV.int .i64 x3, AV.int .i64 x4, AV.esl])])) (fun x0 x1 x2 x3 x4 x5 x6 x7 => K (Ex.exit 0) (St.mk (spread 71 0 [0, 1, 4, 6] [AV.int .i64 x0, AV.sl 0 0 x1 1, AV.ptr 1 0, AV.sl 2 0 x2 1]) [HB.live (Blk.ints .u64 x3), HB.live (Blk.any [AV.int .i64 x4, AV.int .i64 x5, AV.int .i64 x6, AV.esl]), HB.live (Blk.bools x7)]))
  | _, _ => none

noncomputable def o44r1_11400_in {R : Type} (K : Ex → St → Option R) (vs : List AV) (hh : H) : Option R := match vs, hh with
  | [AV.int .i64 n932, AV.sl 0 0 l933 1, AV.ptr 1 0, AV.esl, AV.int .i64 n934, AV.int .i64 n935], [HB.live (Blk.ints .u64 xs936), HB.live (Blk.any [AV.int .i64 n937, AV.int .i64 n938, AV.int .i64 n939, AV.esl])] => haystackref03_Make_l11 n932 l933 n934 n935 xs936 n937 n938 n939 (fun x0 x1 x2 x3 x4 x5 x6 x7 x8 => K (Ex.exit 2) (St.mk (spread 71 0 [0, 1, 4, 6, 7] [AV.int .i64 x0, AV.sl 0 0 x1 1, AV.ptr 1 0, AV.sl 2 0 x2 1, AV.int .i64 x3]) [HB.live (Blk.ints .u64 x4), HB.live (Blk.any [AV.int .i64 x5, AV.int .i64 x6, AV.int .i64 x7, AV.esl]), HB.live (Blk.bools x8)])) (fun x0 x1 x2 x3 x4 x5 x6 => K (Ex.exit 2) (St.mk (spread 71 0 [0, 1, 4, 6, 7] [AV.int .i64 x0, AV.sl 0 0 x1 1, AV.ptr 1 0, AV.esl, AV.int .i64 x2]) [HB.live (Blk.ints .u64 x3), HB.live (Blk.any [AV.int .i64 x4, AV.int .i64 x5, AV.int .i64 x6, AV.esl])]))
  | [AV.int .i64 n942, AV.sl 0 0 l943 1, AV.ptr 1 0, AV.sl 2 0 l944 1, AV.int .i64 n945, AV.int .i64 n946], [HB.live (Blk.ints .u64 xs947), HB.live (Blk.any [AV.int .i64 n948, AV.int .i64 n949, AV.int .i64 n950, AV.esl]), HB.live (Blk.bools bs951)] => haystackref03_Make_l11_1 n942 l943 l944 n945 n946 xs947 n948 n949 n950 bs951 (fun x0 x1 x2 x3 x4 x5 x6 x7 x8 => K (Ex.exit 2) (St.mk (spread 71 0 [0, 1, 4, 6, 7] [AV.int .i64 x0, AV.sl 0 0 x1 1, AV.ptr 1 0, AV.sl 2 0 x2 1, AV.int .i64 x3]) [HB.live (Blk.ints .u64 x4), HB.live (Blk.any [AV.int .i64 x5, AV.int .i64 x6, AV.int .i64 x7, AV.esl]), HB.live (Blk.bools x8)]))
  | _, _ => none

noncomputable def o44r1 : Nat → Option PSpec := lkN [(3000, fun st _ K => pickM 71 [0, 1, 4, 28] st (o44r1_3000_in K)), (4000, fun st _ K => pickM 71 [0, 1, 4] st (o44r1_4000_in K)), (6400, fun st _ K => pickM 71 [0, 1, 4, 6, 7] st (o44r1_6400_in K)), (11400, fun st _ K => pickM 71 [0, 1, 4, 6, 7, 8] st (o44r1_11400_in K))]
noncomputable def q44r1 : CallF := evFun (V 44) S83 T83 10

noncomputable def c44r1_4000 : Code := subC [1, 1] (bodyOf Tryd.f44)

noncomputable def c44r1_3000 : Code := subC [1, 0, 1] (bodyOf Tryd.f44)

noncomputable def c44r1_6400 : Code := subC [1, 1, 1, 0, 1, 0, 0] (bodyOf Tryd.f44)

noncomputable def lp44r1_6400 {R : Type} (N : Nat) (st : St) (K : Ex → St → Option R) : Option R := evLoop (norm ((V 44).keep 44 (Ev.keyOf c44r1_6400 * 1000 + 400)) 1) (evCode (V 44) q44r1 o44r1 44 1 3993 c44r1_6400) N st (kOut (V 44) 44 1 (Ev.keyOf c44r1_6400 * 1000 + 401) K)

noncomputable def c44r1_11400 : Code := subC [1, 1, 1, 0, 1, 0, 0, 1, 0, 0, 1, 1, 0, 0] (bodyOf Tryd.f44)

noncomputable def lp44r1_11400 {R : Type} (N : Nat) (st : St) (K : Ex → St → Option R) : Option R := evLoop (norm ((V 44).keep 44 (Ev.keyOf c44r1_11400 * 1000 + 400)) 1) (evCode (V 44) q44r1 o44r1 44 1 3986 c44r1_11400) N st (kOut (V 44) 44 1 (Ev.keyOf c44r1_11400 * 1000 + 401) K)
end Go.Proofs.YtapgclloopcbhaaDoor
