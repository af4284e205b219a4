/- The functions that this seat's laws reach, as plain functions, and that they are what the program does. Printed by a program of this repo (wip/Prt). -/
import Derived.Test.YtkjadjdcbpiebaaEnv
import Derived.Test.YtkjadjdcbpiebaaEv27
import Derived.KernelRfl
namespace Go.Proofs.Ytkjadjdcbpiebaa
open Go Go.Ev
set_option maxRecDepth 100000


noncomputable def haystacklaw02_small_B {R : Type} (n7 : Int) (xs8 : List Int) (K0 : Bool → Option R) : Option R :=
 sel (decide (n7 ≤ 5000))
  (K0 (decide ((↑(List.length xs8) : Int) ≤ 5000)))
  (K0 (false))
noncomputable def haystacklaw02_small {R : Type} := shut (@haystacklaw02_small_B R)
theorem haystacklaw02_small_unf {R : Type} : @haystacklaw02_small R = @haystacklaw02_small_B R := shut_eq _

noncomputable def bits_words_B {R : Type} (n16 : Int) (K0 : Int → Option R) : Option R :=
 K0 (quoW .i64 (subW .i64 (addW .i64 n16 64) 1) 64)
noncomputable def bits_words {R : Type} := shut (@bits_words_B R)
theorem bits_words_unf {R : Type} : @bits_words R = @bits_words_B R := shut_eq _

noncomputable def word_Mask_B {R : Type} (n20 : Int) (K0 : Int → Option R) : Option R :=
 sel (decide (n20 ≤ 0))
  (K0 (0))
  (sel (decide (0 ≤ max2 0 (subW .i64 64 n20)))
   (K0 (shrW .u64 18446744073709551615 (max2 0 (subW .i64 64 n20))))
   (none))
noncomputable def word_Mask {R : Type} := shut (@word_Mask_B R)
theorem word_Mask_unf {R : Type} : @word_Mask R = @word_Mask_B R := shut_eq _

noncomputable def bits_Check_j4_B {R : Type} (n18 : Int) (xs19 : List Int) (K0 : Bool → Option R) : Option R :=
 sel (decide (remW n18 64 = 0))
  (K0 (true))
  (sel (decide (0 ≤ subW .i64 (↑(List.length xs19) : Int) 1))
   (sel (decide (subW .i64 (↑(List.length xs19) : Int) 1 < (↑(List.length xs19) : Int)))
    (word_Mask (remW n18 64)
     (fun n21 => letV (decide (andNotW .u64 (List.getD xs19 (Int.toNat (subW .i64 (↑(List.length xs19) : Int) 1)) 0) n21 = 0)) (fun (b22 : Bool) =>
     K0 (b22))))
    (none))
   (none))
noncomputable def bits_Check_j4 {R : Type} := shut (@bits_Check_j4_B R)
theorem bits_Check_j4_unf {R : Type} : @bits_Check_j4 R = @bits_Check_j4_B R := shut_eq _

noncomputable def bits_Check_B {R : Type} (n14 : Int) (xs15 : List Int) (K0 : Bool → Option R) : Option R :=
 sel (decide (n14 < 0))
  (K0 (false))
  (sel (decide (1048576 < n14))
   (K0 (false))
   (bits_words (n14)
    (fun n17 => sel (!decide ((↑(List.length xs15) : Int) = n17))
     (K0 (false))
     (bits_Check_j4 (n14) (xs15)
      (fun b23 => K0 (b23))))))
noncomputable def bits_Check {R : Type} := shut (@bits_Check_B R)
theorem bits_Check_unf {R : Type} : @bits_Check R = @bits_Check_B R := shut_eq _

noncomputable def bits_Append_j3_B {R : Type} (n25 : Int) (n26 : Int) (b27 : Bool) (n28 : Int) (xs29 : List Int) (n30 : Int) (K0 : Int → Int → List Int → Option R) (K1 : Int → Int → Int → List Int → Int → Option R) : Option R :=
 sel (b27)
  (K0 (2) (n28) (xs29))
  (K1 (n25) (n26) (n28) (xs29) (n30))
noncomputable def bits_Append_j3 {R : Type} := shut (@bits_Append_j3_B R)
theorem bits_Append_j3_unf {R : Type} : @bits_Append_j3 R = @bits_Append_j3_B R := shut_eq _

noncomputable def bits_own_r_B {R : Type} (_n44 : Int) (xs45 : List Int) (n46 : Int) (K0 : Int → Nat → List Int → Option R) : Option R :=
 bits_words (n46)
  (fun n47 => sel (decide (0 ≤ n47))
   (sel (decide (n47 ≤ n47))
    (sel (decide (n47 ≤ 281474976710656))
     (sel (decide ((↑8 : Int) * n47 ≤ 281474976710656))
      (letV (List.replicate (Int.toNat n47) 0) (fun (xs48 : List Int) =>
      sel (decide (0 + Int.toNat n47 ≤ List.length xs48))
       (sel (decide (List.length xs45 ≤ Int.toNat n47))
        (sel (decide (0 + List.length xs45 ≤ List.length xs48))
         (letV (List.take 0 xs48 ++ (xs45 ++ List.drop (0 + List.length xs45) xs48)) (fun (xs49 : List Int) =>
         K0 (n46) (Int.toNat n47) (xs49)))
         (none))
        (sel (decide (0 + Int.toNat n47 ≤ List.length xs45))
         (sel (decide (0 + List.length (List.take (Int.toNat n47) (List.drop 0 xs45)) ≤ List.length xs48))
          (letV (List.take 0 xs48 ++ (List.take (Int.toNat n47) (List.drop 0 xs45) ++ List.drop (0 + List.length (List.take (Int.toNat n47) (List.drop 0 xs45))) xs48)) (fun (xs50 : List Int) =>
          K0 (n46) (Int.toNat n47) (xs50)))
          (none))
         (none)))
       (none)))
      (none))
     (none))
    (none))
   (none))
noncomputable def bits_own_r {R : Type} := shut (@bits_own_r_B R)
theorem bits_own_r_unf {R : Type} : @bits_own_r R = @bits_own_r_B R := shut_eq _

noncomputable def bits_fill_j6_B {R : Type} (n67 : Int) (n68 : Int) (n69 : Int) (b70 : Bool) (xs71 : List Int) (_n72 : Int) (l73 : Nat) (K0 : List Int → Option R) : Option R :=
 sel (b70)
  (sel (decide (0 ≤ addW .i64 n68 1))
   (sel (decide (addW .i64 n68 1 < (↑l73 : Int)))
    (sel (decide (Int.toNat (addW .i64 n68 1) < List.length xs71))
     (sel (decide (0 ≤ subW .i64 64 n69))
      (sel (decide (0 ≤ addW .i64 n68 1))
       (sel (decide (addW .i64 n68 1 < (↑l73 : Int)))
        (sel (decide (Int.toNat (addW .i64 n68 1) < List.length xs71))
         (letV (List.set xs71 (Int.toNat (addW .i64 n68 1)) (orW .u64 (List.getD xs71 (Int.toNat (addW .i64 n68 1)) 0) (shrW .u64 n67 (subW .i64 64 n69)))) (fun (xs74 : List Int) =>
         K0 (xs74)))
         (none))
        (none))
       (none))
      (none))
     (none))
    (none))
   (none))
  (K0 (xs71))
noncomputable def bits_fill_j6 {R : Type} := shut (@bits_fill_j6_B R)
theorem bits_fill_j6_unf {R : Type} : @bits_fill_j6 R = @bits_fill_j6_B R := shut_eq _

noncomputable def bits_fill_j5_B {R : Type} (n61 : Int) (n62 : Int) (n63 : Int) (xs64 : List Int) (n65 : Int) (l66 : Nat) (K0 : List Int → Option R) : Option R :=
 sel (decide (0 < n63))
  (bits_fill_j6 (n61) (n62) (n63) (decide (addW .i64 n62 1 < (↑l66 : Int))) (xs64) (n65) (l66)
   (fun xs75 => K0 (xs75)))
  (bits_fill_j6 (n61) (n62) (n63) (false) (xs64) (n65) (l66)
   (fun xs76 => K0 (xs76)))
noncomputable def bits_fill_j5 {R : Type} := shut (@bits_fill_j5_B R)
theorem bits_fill_j5_unf {R : Type} : @bits_fill_j5 R = @bits_fill_j5_B R := shut_eq _

noncomputable def bits_fill_r_B {R : Type} (n55 : Int) (l56 : Nat) (n57 : Int) (n58 : Int) (xs59 : List Int) (K0 : List Int → Option R) : Option R :=
 sel (decide (quoW .i64 n57 64 < (↑l56 : Int)))
  (sel (decide (0 ≤ quoW .i64 n57 64))
   (sel (decide (quoW .i64 n57 64 < (↑l56 : Int)))
    (sel (decide (Int.toNat (quoW .i64 n57 64) < List.length xs59))
     (sel (decide (0 ≤ remW n57 64))
      (sel (decide (0 ≤ quoW .i64 n57 64))
       (sel (decide (quoW .i64 n57 64 < (↑l56 : Int)))
        (sel (decide (Int.toNat (quoW .i64 n57 64) < List.length xs59))
         (letV (List.set xs59 (Int.toNat (quoW .i64 n57 64)) (orW .u64 (List.getD xs59 (Int.toNat (quoW .i64 n57 64)) 0) (shlW .u64 n58 (remW n57 64)))) (fun (xs60 : List Int) =>
         bits_fill_j5 (n58) (quoW .i64 n57 64) (remW n57 64) (xs60) (n55) (l56)
          (fun xs77 => K0 (xs77))))
         (none))
        (none))
       (none))
      (none))
     (none))
    (none))
   (none))
  (bits_fill_j5 (n58) (quoW .i64 n57 64) (remW n57 64) (xs59) (n55) (l56)
   (fun xs78 => K0 (xs78)))
noncomputable def bits_fill_r {R : Type} := shut (@bits_fill_r_B R)
theorem bits_fill_r_unf {R : Type} : @bits_fill_r R = @bits_fill_r_B R := shut_eq _

noncomputable def bits_Append_j4_B {R : Type} (n39 : Int) (n40 : Int) (n41 : Int) (xs42 : List Int) (_n43 : Int) (K0 : Int → Int → Nat → List Int → Option R) : Option R :=
 bits_own_r (n41) (xs42) (addW .i64 n41 n40)
  (fun n51 l52 xs53 => word_Mask (n40)
   (fun n54 => bits_fill_r (n51) (l52) (n41) (andW .u64 n39 n54) (xs53)
    (fun xs79 => K0 (0) (n51) (l52) (xs79))))
noncomputable def bits_Append_j4 {R : Type} := shut (@bits_Append_j4_B R)
theorem bits_Append_j4_unf {R : Type} : @bits_Append_j4 R = @bits_Append_j4_B R := shut_eq _

noncomputable def bits_Append_B {R : Type} (n10 : Int) (xs11 : List Int) (n12 : Int) (n13 : Int) (K0 : Int → List Int → Int → Option R) : Option R :=
 bits_Check (n10) (xs11)
  (fun b24 => sel (!b24)
   (bits_Append_j3 (n12) (n13) (true) (n10) (xs11) (0)
    (fun n31 n32 xs33 => K0 (n32) (xs33) (n31))
    (fun n34 n35 n36 xs37 n38 => bits_Append_j4 (n34) (n35) (n36) (xs37) (n38)
     (fun n80 n81 l82 xs83 => sel (decide (l82 = List.length xs83))
      (K0 (n81) (xs83) (n80))
      (sel (decide (0 + l82 ≤ List.length xs83))
       (K0 (n81) (List.take l82 (List.drop 0 xs83)) (n80))
       (none)))))
   (sel (decide (n13 < 0))
    (bits_Append_j3 (n12) (n13) (true) (n10) (xs11) (0)
     (fun n84 n85 xs86 => K0 (n85) (xs86) (n84))
     (fun n87 n88 n89 xs90 n91 => bits_Append_j4 (n87) (n88) (n89) (xs90) (n91)
      (fun n92 n93 l94 xs95 => sel (decide (l94 = List.length xs95))
       (K0 (n93) (xs95) (n92))
       (sel (decide (0 + l94 ≤ List.length xs95))
        (K0 (n93) (List.take l94 (List.drop 0 xs95)) (n92))
        (none)))))
    (sel (decide (64 < n13))
     (bits_Append_j3 (n12) (n13) (true) (n10) (xs11) (0)
      (fun n96 n97 xs98 => K0 (n97) (xs98) (n96))
      (fun n99 n100 n101 xs102 n103 => bits_Append_j4 (n99) (n100) (n101) (xs102) (n103)
       (fun n104 n105 l106 xs107 => sel (decide (l106 = List.length xs107))
        (K0 (n105) (xs107) (n104))
        (sel (decide (0 + l106 ≤ List.length xs107))
         (K0 (n105) (List.take l106 (List.drop 0 xs107)) (n104))
         (none)))))
     (bits_Append_j3 (n12) (n13) (decide (subW .i64 1048576 n10 < n13)) (n10) (xs11) (0)
      (fun n108 n109 xs110 => K0 (n109) (xs110) (n108))
      (fun n111 n112 n113 xs114 n115 => bits_Append_j4 (n111) (n112) (n113) (xs114) (n115)
       (fun n116 n117 l118 xs119 => sel (decide (l118 = List.length xs119))
        (K0 (n117) (xs119) (n116))
        (sel (decide (0 + l118 ≤ List.length xs119))
         (K0 (n117) (List.take l118 (List.drop 0 xs119)) (n116))
         (none))))))))
noncomputable def bits_Append {R : Type} := shut (@bits_Append_B R)
theorem bits_Append_unf {R : Type} : @bits_Append R = @bits_Append_B R := shut_eq _

noncomputable def bits_Get_j6_B {R : Type} (n131 : Int) (_n132 : Int) (xs133 : List Int) (K0 : Bool → Int → Option R) : Option R :=
 sel (decide (0 ≤ quoW .i64 n131 64))
  (sel (decide (quoW .i64 n131 64 < (↑(List.length xs133) : Int)))
   (sel (decide (0 ≤ remW n131 64))
    (letV (decide (andW .u64 (shrW .u64 (List.getD xs133 (Int.toNat (quoW .i64 n131 64)) 0) (remW n131 64)) 1 = 1)) (fun (b134 : Bool) =>
    K0 (b134) (0)))
    (none))
   (none))
  (none)
noncomputable def bits_Get_j6 {R : Type} := shut (@bits_Get_j6_B R)
theorem bits_Get_j6_unf {R : Type} : @bits_Get_j6 R = @bits_Get_j6_B R := shut_eq _

noncomputable def bits_Get_B {R : Type} (n127 : Int) (xs128 : List Int) (n129 : Int) (K0 : Bool → Int → Option R) : Option R :=
 bits_Check (n127) (xs128)
  (fun b130 => sel (!b130)
   (K0 (false) (2))
   (sel (decide (n129 < 0))
    (K0 (false) (3))
    (sel (decide (n127 ≤ n129))
     (K0 (false) (3))
     (bits_Get_j6 (n129) (n127) (xs128)
      (fun b135 n136 => K0 (b135) (n136))))))
noncomputable def bits_Get {R : Type} := shut (@bits_Get_B R)
theorem bits_Get_unf {R : Type} : @bits_Get R = @bits_Get_B R := shut_eq _

noncomputable def bits_Set_B {R : Type} (n123 : Int) (xs124 : List Int) (n125 : Int) (b126 : Bool) (K0 : Int → List Int → Int → Option R) : Option R :=
 bits_Get (n123) (xs124) (n125)
  (fun b137 n138 => sel (!decide (n138 = 0))
   (K0 (n123) (xs124) (n138))
   (bits_own_r (n123) (xs124) (n123)
    (fun n139 l140 xs141 => sel (!b137 == b126)
     (sel (decide (0 ≤ quoW .i64 n125 64))
      (sel (decide (quoW .i64 n125 64 < (↑l140 : Int)))
       (sel (decide (Int.toNat (quoW .i64 n125 64) < List.length xs141))
        (sel (decide (0 ≤ remW n125 64))
         (sel (decide (0 ≤ quoW .i64 n125 64))
          (sel (decide (quoW .i64 n125 64 < (↑l140 : Int)))
           (sel (decide (Int.toNat (quoW .i64 n125 64) < List.length xs141))
            (letV (List.set xs141 (Int.toNat (quoW .i64 n125 64)) (xorW .u64 (List.getD xs141 (Int.toNat (quoW .i64 n125 64)) 0) (shlW .u64 1 (remW n125 64)))) (fun (xs142 : List Int) =>
            sel (decide (l140 = List.length xs142))
             (K0 (n139) (xs142) (0))
             (sel (decide (0 + l140 ≤ List.length xs142))
              (K0 (n139) (List.take l140 (List.drop 0 xs142)) (0))
              (none))))
            (none))
           (none))
          (none))
         (none))
        (none))
       (none))
      (none))
     (sel (decide (l140 = List.length xs141))
      (K0 (n139) (xs141) (0))
      (sel (decide (0 + l140 ≤ List.length xs141))
       (K0 (n139) (List.take l140 (List.drop 0 xs141)) (0))
       (none))))))
noncomputable def bits_Set {R : Type} := shut (@bits_Set_B R)
theorem bits_Set_unf {R : Type} : @bits_Set R = @bits_Set_B R := shut_eq _

noncomputable def bits_Slice_j5_B {R : Type} (n156 : Int) (n157 : Int) (b158 : Bool) (n159 : Int) (xs160 : List Int) (K0 : Int → Int → Option R) (K1 : Int → Int → Int → List Int → Option R) : Option R :=
 sel (b158)
  (K0 (0) (3))
  (sel (decide (n157 = 0))
   (K0 (0) (0))
   (K1 (n156) (n157) (n159) (xs160)))
noncomputable def bits_Slice_j5 {R : Type} := shut (@bits_Slice_j5_B R)
theorem bits_Slice_j5_unf {R : Type} : @bits_Slice_j5 R = @bits_Slice_j5_B R := shut_eq _

noncomputable def bits_Slice_j3_B {R : Type} (n151 : Int) (n152 : Int) (b153 : Bool) (n154 : Int) (xs155 : List Int) (K0 : Int → Int → Option R) (K1 : Int → Int → Int → List Int → Option R) : Option R :=
 sel (b153)
  (K0 (0) (2))
  (sel (decide (n151 < 0))
   (bits_Slice_j5 (n151) (n152) (true) (n154) (xs155)
    (fun n161 n162 => K0 (n161) (n162))
    (fun n163 n164 n165 xs166 => K1 (n163) (n164) (n165) (xs166)))
   (sel (decide (n154 < n151))
    (bits_Slice_j5 (n151) (n152) (true) (n154) (xs155)
     (fun n167 n168 => K0 (n167) (n168))
     (fun n169 n170 n171 xs172 => K1 (n169) (n170) (n171) (xs172)))
    (bits_Slice_j5 (n151) (n152) (decide (subW .i64 n154 n151 < n152)) (n154) (xs155)
     (fun n173 n174 => K0 (n173) (n174))
     (fun n175 n176 n177 xs178 => K1 (n175) (n176) (n177) (xs178)))))
noncomputable def bits_Slice_j3 {R : Type} := shut (@bits_Slice_j3_B R)
theorem bits_Slice_j3_unf {R : Type} : @bits_Slice_j3 R = @bits_Slice_j3_B R := shut_eq _

noncomputable def bits_Slice_j12_B {R : Type} (n190 : Int) (n191 : Int) (K0 : Int → Int → Option R) : Option R :=
 word_Mask (n190)
  (fun n192 => K0 (andW .u64 n191 n192) (0))
noncomputable def bits_Slice_j12 {R : Type} := shut (@bits_Slice_j12_B R)
theorem bits_Slice_j12_unf {R : Type} : @bits_Slice_j12 R = @bits_Slice_j12_B R := shut_eq _

noncomputable def bits_Slice_j8_B {R : Type} (n185 : Int) (n186 : Int) (_n187 : Int) (xs188 : List Int) (K0 : Int → Int → Option R) : Option R :=
 sel (decide (0 ≤ quoW .i64 n185 64))
  (sel (decide (quoW .i64 n185 64 < (↑(List.length xs188) : Int)))
   (sel (decide (0 ≤ remW n185 64))
    (sel (decide (64 < addW .i64 (remW n185 64) n186))
     (sel (decide (0 ≤ addW .i64 (quoW .i64 n185 64) 1))
      (sel (decide (addW .i64 (quoW .i64 n185 64) 1 < (↑(List.length xs188) : Int)))
       (sel (decide (0 ≤ subW .i64 64 (remW n185 64)))
        (letV (orW .u64 (shrW .u64 (List.getD xs188 (Int.toNat (quoW .i64 n185 64)) 0) (remW n185 64)) (shlW .u64 (List.getD xs188 (Int.toNat (addW .i64 (quoW .i64 n185 64) 1)) 0) (subW .i64 64 (remW n185 64)))) (fun (n189 : Int) =>
        bits_Slice_j12 (n186) (n189)
         (fun n193 n194 => K0 (n193) (n194))))
        (none))
       (none))
      (none))
     (bits_Slice_j12 (n186) (shrW .u64 (List.getD xs188 (Int.toNat (quoW .i64 n185 64)) 0) (remW n185 64))
      (fun n195 n196 => K0 (n195) (n196))))
    (none))
   (none))
  (none)
noncomputable def bits_Slice_j8 {R : Type} := shut (@bits_Slice_j8_B R)
theorem bits_Slice_j8_unf {R : Type} : @bits_Slice_j8 R = @bits_Slice_j8_B R := shut_eq _

noncomputable def bits_Slice_B {R : Type} (n146 : Int) (xs147 : List Int) (n148 : Int) (n149 : Int) (K0 : Int → Int → Option R) : Option R :=
 bits_Check (n146) (xs147)
  (fun b150 => sel (!b150)
   (bits_Slice_j3 (n148) (n149) (true) (n146) (xs147)
    (fun n179 n180 => K0 (n179) (n180))
    (fun n181 n182 n183 xs184 => bits_Slice_j8 (n181) (n182) (n183) (xs184)
     (fun n197 n198 => K0 (n197) (n198))))
   (sel (decide (n149 < 0))
    (bits_Slice_j3 (n148) (n149) (true) (n146) (xs147)
     (fun n199 n200 => K0 (n199) (n200))
     (fun n201 n202 n203 xs204 => bits_Slice_j8 (n201) (n202) (n203) (xs204)
      (fun n205 n206 => K0 (n205) (n206))))
    (bits_Slice_j3 (n148) (n149) (decide (64 < n149)) (n146) (xs147)
     (fun n207 n208 => K0 (n207) (n208))
     (fun n209 n210 n211 xs212 => bits_Slice_j8 (n209) (n210) (n211) (xs212)
      (fun n213 n214 => K0 (n213) (n214))))))
noncomputable def bits_Slice {R : Type} := shut (@bits_Slice_B R)
theorem bits_Slice_unf {R : Type} : @bits_Slice R = @bits_Slice_B R := shut_eq _

noncomputable def bits_Join_j3_B {R : Type} (b224 : Bool) (n225 : Int) (xs226 : List Int) (n227 : Int) (xs228 : List Int) (n229 : Int) (K0 : Int → Int → List Int → Option R) (K1 : Int → List Int → Int → List Int → Int → Option R) : Option R :=
 sel (b224)
  (K0 (2) (n225) (xs226))
  (K1 (n225) (xs226) (n227) (xs228) (n229))
noncomputable def bits_Join_j3 {R : Type} := shut (@bits_Join_j3_B R)
theorem bits_Join_j3_unf {R : Type} : @bits_Join_j3 R = @bits_Join_j3_B R := shut_eq _

noncomputable def bits_Join_l6_T {R : Type} (rec : List Int → Int → Int → Int → List Int → Int → Int → Nat → List Int → Option R) (xs246 : List Int) (n247 : Int) (n248 : Int) (n249 : Int) (xs250 : List Int) (n251 : Int) (n252 : Int) (l253 : Nat) (xs254 : List Int) (K0 : Int → Int → Nat → List Int → Option R) : Option R :=
 sel (decide (n248 < n247))
  (sel (decide (0 ≤ n248))
   (sel (decide (n248 < (↑(List.length xs246) : Int)))
    (bits_fill_r (n252) (l253) (addW .i64 n249 (mulW .i64 n248 64)) (List.getD xs246 (Int.toNat n248) 0) (xs254)
     (fun xs255 => rec (xs246) (n247) (addW .i64 n248 1) (n249) (xs250) (n251) (n252) (l253) (xs255)))
    (none))
   (none))
  (K0 (n251) (n252) (l253) (xs254))
noncomputable def bits_Join_l6_L {R : Type} (K0 : Int → Int → Nat → List Int → Option R) : Nat → List Int → Int → Int → Int → List Int → Int → Int → Nat → List Int → Option R
  | 0, _, _, _, _, _, _, _, _, _ => none
  | N + 1, xs246, n247, n248, n249, xs250, n251, n252, l253, xs254 => bits_Join_l6_T (bits_Join_l6_L K0 N) xs246 n247 n248 n249 xs250 n251 n252 l253 xs254 K0
noncomputable def bits_Join_l6_B {R : Type} (xs246 : List Int) (n247 : Int) (n248 : Int) (n249 : Int) (xs250 : List Int) (n251 : Int) (n252 : Int) (l253 : Nat) (xs254 : List Int) (K0 : Int → Int → Nat → List Int → Option R) : Option R :=
 bits_Join_l6_L K0 NR xs246 n247 n248 n249 xs250 n251 n252 l253 xs254
noncomputable def bits_Join_l6 {R : Type} := shut (@bits_Join_l6_B R)
theorem bits_Join_l6_unf {R : Type} : @bits_Join_l6 R = @bits_Join_l6_B R := shut_eq _

noncomputable def bits_Join_j4_B {R : Type} (n238 : Int) (xs239 : List Int) (n240 : Int) (xs241 : List Int) (n242 : Int) (K0 : Int → Int → Nat → List Int → Option R) : Option R :=
 bits_own_r (n238) (xs239) (addW .i64 n238 n240)
  (fun n243 l244 xs245 => bits_Join_l6 (xs241) ((↑(List.length xs241) : Int)) (0) (n238) (xs239) (n242) (n243) (l244) (xs245)
   (fun n256 n257 l258 xs259 => K0 (0) (n257) (l258) (xs259)))
noncomputable def bits_Join_j4 {R : Type} := shut (@bits_Join_j4_B R)
theorem bits_Join_j4_unf {R : Type} : @bits_Join_j4 R = @bits_Join_j4_B R := shut_eq _

noncomputable def bits_Join_B {R : Type} (n219 : Int) (xs220 : List Int) (n221 : Int) (xs222 : List Int) (K0 : Int → List Int → Int → Option R) : Option R :=
 bits_Check (n219) (xs220)
  (fun b223 => sel (!b223)
   (bits_Join_j3 (true) (n219) (xs220) (n221) (xs222) (0)
    (fun n230 n231 xs232 => K0 (n231) (xs232) (n230))
    (fun n233 xs234 n235 xs236 n237 => bits_Join_j4 (n233) (xs234) (n235) (xs236) (n237)
     (fun n260 n261 l262 xs263 => sel (decide (l262 = List.length xs263))
      (K0 (n261) (xs263) (n260))
      (sel (decide (0 + l262 ≤ List.length xs263))
       (K0 (n261) (List.take l262 (List.drop 0 xs263)) (n260))
       (none)))))
   (bits_Check (n221) (xs222)
    (fun b264 => sel (!b264)
     (bits_Join_j3 (true) (n219) (xs220) (n221) (xs222) (0)
      (fun n265 n266 xs267 => K0 (n266) (xs267) (n265))
      (fun n268 xs269 n270 xs271 n272 => bits_Join_j4 (n268) (xs269) (n270) (xs271) (n272)
       (fun n273 n274 l275 xs276 => sel (decide (l275 = List.length xs276))
        (K0 (n274) (xs276) (n273))
        (sel (decide (0 + l275 ≤ List.length xs276))
         (K0 (n274) (List.take l275 (List.drop 0 xs276)) (n273))
         (none)))))
     (bits_Join_j3 (decide (subW .i64 1048576 n219 < n221)) (n219) (xs220) (n221) (xs222) (0)
      (fun n277 n278 xs279 => K0 (n278) (xs279) (n277))
      (fun n280 xs281 n282 xs283 n284 => bits_Join_j4 (n280) (xs281) (n282) (xs283) (n284)
       (fun n285 n286 l287 xs288 => sel (decide (l287 = List.length xs288))
        (K0 (n286) (xs288) (n285))
        (sel (decide (0 + l287 ≤ List.length xs288))
         (K0 (n286) (List.take l287 (List.drop 0 xs288)) (n285))
         (none))))))))
noncomputable def bits_Join {R : Type} := shut (@bits_Join_B R)
theorem bits_Join_unf {R : Type} : @bits_Join R = @bits_Join_B R := shut_eq _

noncomputable def bits_New_j3_B {R : Type} (n293 : Int) (b294 : Bool) (n295 : Int) (K0 : Int → Int → Option R) (K1 : Int → Int → Option R) : Option R :=
 sel (b294)
  (K0 (2) (0))
  (K1 (n293) (n295))
noncomputable def bits_New_j3 {R : Type} := shut (@bits_New_j3_B R)
theorem bits_New_j3_unf {R : Type} : @bits_New_j3 R = @bits_New_j3_B R := shut_eq _

noncomputable def bits_New_j4_B {R : Type} (n300 : Int) (_n301 : Int) (K0 : Int → Int → Nat → List Int → Option R) : Option R :=
 bits_words (n300)
  (fun n302 => sel (decide (0 ≤ n302))
   (sel (decide (n302 ≤ n302))
    (sel (decide (n302 ≤ 281474976710656))
     (sel (decide ((↑8 : Int) * n302 ≤ 281474976710656))
      (letV (List.replicate (Int.toNat n302) 0) (fun (xs303 : List Int) =>
      K0 (0) (n300) (Int.toNat n302) (xs303)))
      (none))
     (none))
    (none))
   (none))
noncomputable def bits_New_j4 {R : Type} := shut (@bits_New_j4_B R)
theorem bits_New_j4_unf {R : Type} : @bits_New_j4 R = @bits_New_j4_B R := shut_eq _

noncomputable def bits_New_B {R : Type} (n292 : Int) (K0 : Int → List Int → Int → Option R) : Option R :=
 sel (decide (n292 < 0))
  (bits_New_j3 (n292) (true) (0)
   (fun n296 n297 => K0 (n297) ([]) (n296))
   (fun n298 n299 => bits_New_j4 (n298) (n299)
    (fun n304 n305 l306 xs307 => sel (decide (l306 = List.length xs307))
     (K0 (n305) (xs307) (n304))
     (sel (decide (0 + l306 ≤ List.length xs307))
      (K0 (n305) (List.take l306 (List.drop 0 xs307)) (n304))
      (none)))))
  (bits_New_j3 (n292) (decide (1048576 < n292)) (0)
   (fun n308 n309 => K0 (n309) ([]) (n308))
   (fun n310 n311 => bits_New_j4 (n310) (n311)
    (fun n312 n313 l314 xs315 => sel (decide (l314 = List.length xs315))
     (K0 (n313) (xs315) (n312))
     (sel (decide (0 + l314 ≤ List.length xs315))
      (K0 (n313) (List.take l314 (List.drop 0 xs315)) (n312))
      (none)))))
noncomputable def bits_New {R : Type} := shut (@bits_New_B R)
theorem bits_New_unf {R : Type} : @bits_New R = @bits_New_B R := shut_eq _

noncomputable def bits_New_r_B {R : Type} (n332 : Int) (K0 : Int → Int → Option R) (K1 : Int → Nat → Int → List Int → Option R) : Option R :=
 sel (decide (n332 < 0))
  (bits_New_j3 (n332) (true) (0)
   (fun n333 n334 => K0 (n334) (n333))
   (fun n335 n336 => bits_New_j4 (n335) (n336)
    (fun n337 n338 l339 xs340 => K1 (n338) (l339) (n337) (xs340))))
  (bits_New_j3 (n332) (decide (1048576 < n332)) (0)
   (fun n341 n342 => K0 (n342) (n341))
   (fun n343 n344 => bits_New_j4 (n343) (n344)
    (fun n345 n346 l347 xs348 => K1 (n346) (l347) (n345) (xs348))))
noncomputable def bits_New_r {R : Type} := shut (@bits_New_r_B R)
theorem bits_New_r_unf {R : Type} : @bits_New_r R = @bits_New_r_B R := shut_eq _

noncomputable def bits_From_l6_T {R : Type} (rec : Nat → Int → Int → List Bool → Int → Int → Option R) (l351 : Nat) (n352 : Int) (n353 : Int) (bs354 : List Bool) (n355 : Int) (n356 : Int) (K0 : List Bool → Int → Int → Option R) : Option R :=
 sel (decide (n353 < n352))
  (sel (decide (0 ≤ n353))
   (sel (decide (n353 < (↑l351 : Int)))
    (sel (decide (Int.toNat n353 < List.length bs354))
     (sel (List.getD bs354 (Int.toNat n353) false)
      (none)
      (rec (l351) (n352) (addW .i64 n353 1) (bs354) (n355) (n356)))
     (none))
    (none))
   (none))
  (K0 (bs354) (n355) (n356))
noncomputable def bits_From_l6_L {R : Type} (K0 : List Bool → Int → Int → Option R) : Nat → Nat → Int → Int → List Bool → Int → Int → Option R
  | 0, _, _, _, _, _, _ => none
  | N + 1, l351, n352, n353, bs354, n355, n356 => bits_From_l6_T (bits_From_l6_L K0 N) l351 n352 n353 bs354 n355 n356 K0
noncomputable def bits_From_l6_B {R : Type} (l351 : Nat) (n352 : Int) (n353 : Int) (bs354 : List Bool) (n355 : Int) (n356 : Int) (K0 : List Bool → Int → Int → Option R) : Option R :=
 bits_From_l6_L K0 NR l351 n352 n353 bs354 n355 n356
noncomputable def bits_From_l6 {R : Type} := shut (@bits_From_l6_B R)
theorem bits_From_l6_unf {R : Type} : @bits_From_l6 R = @bits_From_l6_B R := shut_eq _

noncomputable def bits_From_l6_1_T {R : Type} (rec : Nat → Int → Int → List Bool → Int → Int → Nat → List Int → Option R) (l364 : Nat) (n365 : Int) (n366 : Int) (bs367 : List Bool) (n368 : Int) (n369 : Int) (l370 : Nat) (xs371 : List Int) (K0 : List Bool → Int → Int → Nat → List Int → Option R) : Option R :=
 sel (decide (n366 < n365))
  (sel (decide (0 ≤ n366))
   (sel (decide (n366 < (↑l364 : Int)))
    (sel (decide (Int.toNat n366 < List.length bs367))
     (sel (List.getD bs367 (Int.toNat n366) false)
      (sel (decide (0 ≤ quoW .i64 n366 64))
       (sel (decide (quoW .i64 n366 64 < (↑l370 : Int)))
        (sel (decide (Int.toNat (quoW .i64 n366 64) < List.length xs371))
         (sel (decide (0 ≤ remW n366 64))
          (sel (decide (0 ≤ quoW .i64 n366 64))
           (sel (decide (quoW .i64 n366 64 < (↑l370 : Int)))
            (sel (decide (Int.toNat (quoW .i64 n366 64) < List.length xs371))
             (letV (List.set xs371 (Int.toNat (quoW .i64 n366 64)) (orW .u64 (List.getD xs371 (Int.toNat (quoW .i64 n366 64)) 0) (shlW .u64 1 (remW n366 64)))) (fun (xs372 : List Int) =>
             rec (l364) (n365) (addW .i64 n366 1) (bs367) (n368) (n369) (l370) (xs372)))
             (none))
            (none))
           (none))
          (none))
         (none))
        (none))
       (none))
      (rec (l364) (n365) (addW .i64 n366 1) (bs367) (n368) (n369) (l370) (xs371)))
     (none))
    (none))
   (none))
  (K0 (bs367) (n368) (n369) (l370) (xs371))
noncomputable def bits_From_l6_1_L {R : Type} (K0 : List Bool → Int → Int → Nat → List Int → Option R) : Nat → Nat → Int → Int → List Bool → Int → Int → Nat → List Int → Option R
  | 0, _, _, _, _, _, _, _, _ => none
  | N + 1, l364, n365, n366, bs367, n368, n369, l370, xs371 => bits_From_l6_1_T (bits_From_l6_1_L K0 N) l364 n365 n366 bs367 n368 n369 l370 xs371 K0
noncomputable def bits_From_l6_1_B {R : Type} (l364 : Nat) (n365 : Int) (n366 : Int) (bs367 : List Bool) (n368 : Int) (n369 : Int) (l370 : Nat) (xs371 : List Int) (K0 : List Bool → Int → Int → Nat → List Int → Option R) : Option R :=
 bits_From_l6_1_L K0 NR l364 n365 n366 bs367 n368 n369 l370 xs371
noncomputable def bits_From_l6_1 {R : Type} := shut (@bits_From_l6_1_B R)
theorem bits_From_l6_1_unf {R : Type} : @bits_From_l6_1 R = @bits_From_l6_1_B R := shut_eq _

noncomputable def bits_From_r_B {R : Type} (l330 : Nat) (bs331 : List Bool) (K0 : Int → Int → List Bool → Option R) (K1 : Int → Nat → Int → List Bool → List Int → Option R) : Option R :=
 bits_New_r ((↑l330 : Int))
  (fun n349 n350 => sel (!decide (n350 = 0))
   (K0 (n349) (n350) (bs331))
   (bits_From_l6 (l330) ((↑l330 : Int)) (0) (bs331) (0) (n349)
    (fun bs357 n358 n359 => K0 (n359) (0) (bs357))))
  (fun n360 l361 n362 xs363 => sel (!decide (n362 = 0))
   (K1 (n360) (l361) (n362) (bs331) (xs363))
   (bits_From_l6_1 (l330) ((↑l330 : Int)) (0) (bs331) (0) (n360) (l361) (xs363)
    (fun bs373 n374 n375 l376 xs377 => K1 (n375) (l376) (0) (bs373) (xs377))))
noncomputable def bits_From_r {R : Type} := shut (@bits_From_r_B R)
theorem bits_From_r_unf {R : Type} : @bits_From_r R = @bits_From_r_B R := shut_eq _

noncomputable def haystackref02_Same_l5_T {R : Type} (rec : Int → Int → List Int → Int → List Int → Option R) (n391 : Int) (n392 : Int) (xs393 : List Int) (n394 : Int) (xs395 : List Int) (K0 : Bool → Option R) (K1 : Unit → Option R) : Option R :=
 sel (decide (n391 < (↑(List.length xs393) : Int)))
  (sel (decide (0 ≤ n391))
   (sel (decide (n391 < (↑(List.length xs393) : Int)))
    (sel (decide (0 ≤ n391))
     (sel (decide (n391 < (↑(List.length xs395) : Int)))
      (sel (!decide (List.getD xs393 (Int.toNat n391) 0 = List.getD xs395 (Int.toNat n391) 0))
       (K0 (false))
       (rec (addW .i64 n391 1) (n392) (xs393) (n394) (xs395)))
      (none))
     (none))
    (none))
   (none))
  (K1 ())
noncomputable def haystackref02_Same_l5_L {R : Type} (K0 : Bool → Option R) (K1 : Unit → Option R) : Nat → Int → Int → List Int → Int → List Int → Option R
  | 0, _, _, _, _, _ => none
  | N + 1, n391, n392, xs393, n394, xs395 => haystackref02_Same_l5_T (haystackref02_Same_l5_L K0 K1 N) n391 n392 xs393 n394 xs395 K0 K1
noncomputable def haystackref02_Same_l5_B {R : Type} (n391 : Int) (n392 : Int) (xs393 : List Int) (n394 : Int) (xs395 : List Int) (K0 : Bool → Option R) (K1 : Unit → Option R) : Option R :=
 haystackref02_Same_l5_L K0 K1 NR n391 n392 xs393 n394 xs395
noncomputable def haystackref02_Same_l5 {R : Type} := shut (@haystackref02_Same_l5_B R)
theorem haystackref02_Same_l5_unf {R : Type} : @haystackref02_Same_l5 R = @haystackref02_Same_l5_B R := shut_eq _

noncomputable def haystackref02_Same_j4_B {R : Type} (n387 : Int) (xs388 : List Int) (n389 : Int) (xs390 : List Int) (K0 : Bool → Option R) : Option R :=
 haystackref02_Same_l5 (0) (n387) (xs388) (n389) (xs390)
  (fun b396 => K0 (b396))
  (fun _ => K0 (true))
noncomputable def haystackref02_Same_j4 {R : Type} := shut (@haystackref02_Same_j4_B R)
theorem haystackref02_Same_j4_unf {R : Type} : @haystackref02_Same_j4 R = @haystackref02_Same_j4_B R := shut_eq _

noncomputable def haystackref02_Same_B {R : Type} (n383 : Int) (xs384 : List Int) (n385 : Int) (xs386 : List Int) (K0 : Bool → Option R) : Option R :=
 sel (!decide (n383 = n385))
  (K0 (false))
  (sel (!decide ((↑(List.length xs384) : Int) = (↑(List.length xs386) : Int)))
   (K0 (false))
   (haystackref02_Same_j4 (n383) (xs384) (n385) (xs386)
    (fun b397 => K0 (b397))))
noncomputable def haystackref02_Same {R : Type} := shut (@haystackref02_Same_B R)
theorem haystackref02_Same_unf {R : Type} : @haystackref02_Same R = @haystackref02_Same_B R := shut_eq _

noncomputable def math_bits_OnesCount64_B {R : Type} (n414 : Int) (K0 : Int → Option R) : Option R :=
 letV (shrW .u64 (addW .u64 (andW .u64 (shrW .u64 (addW .u64 (andW .u64 (shrW .u64 n414 1) 6148914691236517205) (andW .u64 n414 6148914691236517205)) 2) 3689348814741910323) (andW .u64 (addW .u64 (andW .u64 (shrW .u64 n414 1) 6148914691236517205) (andW .u64 n414 6148914691236517205)) 3689348814741910323)) 4) (fun (n415 : Int) =>
 letV (addW .u64 n415 (addW .u64 (andW .u64 (shrW .u64 (addW .u64 (andW .u64 (shrW .u64 n414 1) 6148914691236517205) (andW .u64 n414 6148914691236517205)) 2) 3689348814741910323) (andW .u64 (addW .u64 (andW .u64 (shrW .u64 n414 1) 6148914691236517205) (andW .u64 n414 6148914691236517205)) 3689348814741910323))) (fun (n416 : Int) =>
 letV (addW .u64 (addW .u64 (addW .u64 (andW .u64 n416 1085102592571150095) (shrW .u64 (andW .u64 n416 1085102592571150095) 8)) (shrW .u64 (addW .u64 (andW .u64 n416 1085102592571150095) (shrW .u64 (andW .u64 n416 1085102592571150095) 8)) 16)) (shrW .u64 (addW .u64 (addW .u64 (andW .u64 n416 1085102592571150095) (shrW .u64 (andW .u64 n416 1085102592571150095) 8)) (shrW .u64 (addW .u64 (andW .u64 n416 1085102592571150095) (shrW .u64 (andW .u64 n416 1085102592571150095) 8)) 16)) 32)) (fun (n417 : Int) =>
 K0 (andW .i64 (cvtW .i64 n417) 127))))
noncomputable def math_bits_OnesCount64 {R : Type} := shut (@math_bits_OnesCount64_B R)
theorem math_bits_OnesCount64_unf {R : Type} : @math_bits_OnesCount64 R = @math_bits_OnesCount64_B R := shut_eq _

noncomputable def word_Pop_B {R : Type} (n413 : Int) (K0 : Int → Option R) : Option R :=
 math_bits_OnesCount64 (n413)
  (fun n418 => K0 (n418))
noncomputable def word_Pop {R : Type} := shut (@word_Pop_B R)
theorem word_Pop_unf {R : Type} : @word_Pop R = @word_Pop_B R := shut_eq _

noncomputable def bits_Ones_l7_T {R : Type} (rec : Int → Int → List Int → Int → Int → Int → List Int → Option R) (n406 : Int) (n407 : Int) (xs408 : List Int) (n409 : Int) (n410 : Int) (n411 : Int) (xs412 : List Int) (K0 : Int → Int → Int → List Int → Option R) : Option R :=
 sel (decide (n410 < n409))
  (sel (decide (0 ≤ n410))
   (sel (decide (n410 < (↑(List.length xs408) : Int)))
    (word_Pop (List.getD xs408 (Int.toNat n410) 0)
     (fun n419 => rec (n406) (addW .i64 n407 n419) (xs408) (n409) (addW .i64 n410 1) (n411) (xs412)))
    (none))
   (none))
  (K0 (n406) (n407) (n411) (xs412))
noncomputable def bits_Ones_l7_L {R : Type} (K0 : Int → Int → Int → List Int → Option R) : Nat → Int → Int → List Int → Int → Int → Int → List Int → Option R
  | 0, _, _, _, _, _, _, _ => none
  | N + 1, n406, n407, xs408, n409, n410, n411, xs412 => bits_Ones_l7_T (bits_Ones_l7_L K0 N) n406 n407 xs408 n409 n410 n411 xs412 K0
noncomputable def bits_Ones_l7_B {R : Type} (n406 : Int) (n407 : Int) (xs408 : List Int) (n409 : Int) (n410 : Int) (n411 : Int) (xs412 : List Int) (K0 : Int → Int → Int → List Int → Option R) : Option R :=
 bits_Ones_l7_L K0 NR n406 n407 xs408 n409 n410 n411 xs412
noncomputable def bits_Ones_l7 {R : Type} := shut (@bits_Ones_l7_B R)
theorem bits_Ones_l7_unf {R : Type} : @bits_Ones_l7 R = @bits_Ones_l7_B R := shut_eq _

noncomputable def word_Rank_B {R : Type} (n424 : Int) (n425 : Int) (K0 : Int → Option R) : Option R :=
 word_Mask (n425)
  (fun n426 => word_Pop (andW .u64 n424 n426)
   (fun n427 => K0 (n427)))
noncomputable def word_Rank {R : Type} := shut (@word_Rank_B R)
theorem word_Rank_unf {R : Type} : @word_Rank R = @word_Rank_B R := shut_eq _

noncomputable def bits_Ones_B {R : Type} (n401 : Int) (xs402 : List Int) (n403 : Int) (K0 : Int → Option R) : Option R :=
 bits_Check (n401) (xs402)
  (fun b404 => sel (!b404)
   (K0 (0))
   (sel (decide (0 ≤ quoW .i64 (max2 0 (min2 n403 n401)) 64))
    (sel (decide (quoW .i64 (max2 0 (min2 n403 n401)) 64 ≤ (↑(List.length xs402) : Int)))
     (letV (List.drop (Int.toNat 0) (List.take (Int.toNat (quoW .i64 (max2 0 (min2 n403 n401)) 64)) xs402)) (fun (xs405 : List Int) =>
     bits_Ones_l7 (max2 0 (min2 n403 n401)) (0) (xs405) ((↑(List.length xs405) : Int)) (0) (n401) (xs402)
      (fun n420 n421 n422 xs423 => sel (decide (0 < remW n420 64))
       (sel (decide (0 ≤ quoW .i64 n420 64))
        (sel (decide (quoW .i64 n420 64 < (↑(List.length xs423) : Int)))
         (word_Rank (List.getD xs423 (Int.toNat (quoW .i64 n420 64)) 0) (remW n420 64)
          (fun n428 => K0 (addW .i64 n421 n428)))
         (none))
        (none))
       (K0 (n421)))))
     (none))
    (none)))
noncomputable def bits_Ones {R : Type} := shut (@bits_Ones_B R)
theorem bits_Ones_unf {R : Type} : @bits_Ones R = @bits_Ones_B R := shut_eq _

noncomputable def haystacklaw02_heads_j8_B {R : Type} (n319 : Int) (n320 : Int) (n321 : Int) (n322 : Int) (n323 : Int) (n324 : Int) (n325 : Int) (n326 : Int) (xs327 : List Int) (n328 : Int) (xs329 : List Int) (K0 : Bool → Option R) : Option R :=
 bits_From_r (3) ([true, false, true])
  (fun n378 n379 bs380 => bits_Get (n326) (xs327) (2)
   (fun b381 n382 => sel (decide (n319 = 0))
    (sel (decide (n326 = 3))
     (sel (decide ((↑(List.length xs327) : Int) = 1))
      (sel (decide (0 < (↑(List.length xs327) : Int)))
       (sel (decide (List.getD xs327 (Int.toNat 0) 0 = 5))
        (sel (decide (n320 = 0))
         (sel (decide (n321 = 3))
          (sel (decide (n322 = 0))
           (sel (decide (n323 = 3))
            (sel (decide (n324 = 0))
             (sel (decide (n328 = 6))
              (sel (decide (n325 = 2))
               (sel (decide (n379 = 0))
                (haystackref02_Same (n378) ([]) (n326) (xs327)
                 (fun b398 => sel (b398)
                  (sel (b381)
                   (sel (decide (n382 = 0))
                    (bits_Check (n328) (xs329)
                     (fun b399 => sel (b399)
                      (bits_Check (1) ([])
                       (fun b400 => sel (!b400)
                        (bits_Ones (n326) (xs327) (9)
                         (fun n429 => K0 (decide (n429 = 2))))
                        (none)))
                      (none)))
                    (none))
                   (none))
                  (none)))
                (none))
               (none))
              (none))
             (none))
            (none))
           (none))
          (none))
         (none))
        (none))
       (none))
      (none))
     (none))
    (none)))
  (fun n430 l431 n432 bs433 xs434 => sel (decide (l431 = List.length xs434))
   (bits_Get (n326) (xs327) (2)
    (fun b435 n436 => sel (decide (n319 = 0))
     (sel (decide (n326 = 3))
      (sel (decide ((↑(List.length xs327) : Int) = 1))
       (sel (decide (0 < (↑(List.length xs327) : Int)))
        (sel (decide (List.getD xs327 (Int.toNat 0) 0 = 5))
         (sel (decide (n320 = 0))
          (sel (decide (n321 = 3))
           (sel (decide (n322 = 0))
            (sel (decide (n323 = 3))
             (sel (decide (n324 = 0))
              (sel (decide (n328 = 6))
               (sel (decide (n325 = 2))
                (sel (decide (n432 = 0))
                 (haystackref02_Same (n430) (xs434) (n326) (xs327)
                  (fun b437 => sel (b437)
                   (sel (b435)
                    (sel (decide (n436 = 0))
                     (bits_Check (n328) (xs329)
                      (fun b438 => sel (b438)
                       (bits_Check (1) ([])
                        (fun b439 => sel (!b439)
                         (bits_Ones (n326) (xs327) (9)
                          (fun n440 => K0 (decide (n440 = 2))))
                         (none)))
                       (none)))
                     (none))
                    (none))
                   (none)))
                 (none))
                (none))
               (none))
              (none))
             (none))
            (none))
           (none))
          (none))
         (none))
        (none))
       (none))
      (none))
     (none)))
   (none))
noncomputable def haystacklaw02_heads_j8 {R : Type} := shut (@haystacklaw02_heads_j8_B R)
theorem haystacklaw02_heads_j8_unf {R : Type} : @haystacklaw02_heads_j8 R = @haystacklaw02_heads_j8_B R := shut_eq _

noncomputable def haystacklaw02_heads_B {R : Type} (K0 : Bool → Option R) : Option R :=
 bits_Append (0) ([]) (5) (3)
  (fun n120 xs121 n122 => bits_Set (n120) (xs121) (1) (true)
   (fun n143 xs144 n145 => bits_Slice (n143) (xs144) (1) (2)
    (fun n215 n216 => bits_Get (n143) (xs144) (3)
     (fun b217 n218 => bits_Join (n120) (xs121) (n143) (xs144)
      (fun n289 xs290 n291 => bits_New (-1)
       (fun n316 xs317 n318 => haystacklaw02_heads_j8 (n122) (n145) (n215) (n216) (n218) (n291) (n318) (n120) (xs121) (n289) (xs290)
        (fun b441 => K0 (b441))))))))
noncomputable def haystacklaw02_heads {R : Type} := shut (@haystacklaw02_heads_B R)
theorem haystacklaw02_heads_unf {R : Type} : @haystacklaw02_heads R = @haystacklaw02_heads_B R := shut_eq _

noncomputable def haystackref02_Words_B {R : Type} (n470 : Int) (K0 : Int → Option R) : Option R :=
 K0 (quoW .i64 (addW .i64 n470 63) 64)
noncomputable def haystackref02_Words {R : Type} := shut (@haystackref02_Words_B R)
theorem haystackref02_Words_unf {R : Type} : @haystackref02_Words R = @haystackref02_Words_B R := shut_eq _

noncomputable def haystackref01_Mask_j6_B {R : Type} (n478 : Int) (n479 : Int) (n480 : Int) (K0 : Int → Int → Int → Option R) : Option R :=
 sel (decide (0 ≤ cvtW .u64 n480))
  (K0 (n478) (orW .u64 n479 (shlW .u64 1 (cvtW .u64 n480))) (addW .i64 n480 1))
  (none)
noncomputable def haystackref01_Mask_j6 {R : Type} := shut (@haystackref01_Mask_j6_B R)
theorem haystackref01_Mask_j6_unf {R : Type} : @haystackref01_Mask_j6 R = @haystackref01_Mask_j6_B R := shut_eq _

noncomputable def haystackref01_Mask_l4_T {R : Type} (rec : Int → Int → Int → Option R) (n475 : Int) (n476 : Int) (n477 : Int) (K0 : Int → Option R) : Option R :=
 sel (decide (n477 < 64))
  (sel (decide (n477 < n475))
   (haystackref01_Mask_j6 (n475) (n476) (n477)
    (fun n481 n482 n483 => rec (n481) (n482) (n483)))
   (K0 (n476)))
  (K0 (n476))
noncomputable def haystackref01_Mask_l4_L {R : Type} (K0 : Int → Option R) : Nat → Int → Int → Int → Option R
  | 0, _, _, _ => none
  | N + 1, n475, n476, n477 => haystackref01_Mask_l4_T (haystackref01_Mask_l4_L K0 N) n475 n476 n477 K0
noncomputable def haystackref01_Mask_l4_B {R : Type} (n475 : Int) (n476 : Int) (n477 : Int) (K0 : Int → Option R) : Option R :=
 haystackref01_Mask_l4_L K0 NR n475 n476 n477
noncomputable def haystackref01_Mask_l4 {R : Type} := shut (@haystackref01_Mask_l4_B R)
theorem haystackref01_Mask_l4_unf {R : Type} : @haystackref01_Mask_l4 R = @haystackref01_Mask_l4_B R := shut_eq _

noncomputable def haystackref01_Mask_B {R : Type} (n474 : Int) (K0 : Int → Option R) : Option R :=
 haystackref01_Mask_l4 (n474) (0) (0)
  (fun n484 => K0 (n484))
noncomputable def haystackref01_Mask {R : Type} := shut (@haystackref01_Mask_B R)
theorem haystackref01_Mask_unf {R : Type} : @haystackref01_Mask R = @haystackref01_Mask_B R := shut_eq _

noncomputable def haystackref02_Check_j4_B {R : Type} (n472 : Int) (xs473 : List Int) (K0 : Bool → Option R) : Option R :=
 sel (decide (remW n472 64 = 0))
  (K0 (true))
  (sel (decide (0 ≤ subW .i64 (↑(List.length xs473) : Int) 1))
   (sel (decide (subW .i64 (↑(List.length xs473) : Int) 1 < (↑(List.length xs473) : Int)))
    (haystackref01_Mask (remW n472 64)
     (fun n485 => letV (decide (andNotW .u64 (List.getD xs473 (Int.toNat (subW .i64 (↑(List.length xs473) : Int) 1)) 0) n485 = 0)) (fun (b486 : Bool) =>
     K0 (b486))))
    (none))
   (none))
noncomputable def haystackref02_Check_j4 {R : Type} := shut (@haystackref02_Check_j4_B R)
theorem haystackref02_Check_j4_unf {R : Type} : @haystackref02_Check_j4 R = @haystackref02_Check_j4_B R := shut_eq _

noncomputable def haystackref02_Check_B {R : Type} (n468 : Int) (xs469 : List Int) (K0 : Bool → Option R) : Option R :=
 sel (decide (n468 < 0))
  (K0 (false))
  (sel (decide (1048576 < n468))
   (K0 (false))
   (haystackref02_Words (n468)
    (fun n471 => sel (!decide ((↑(List.length xs469) : Int) = n471))
     (K0 (false))
     (haystackref02_Check_j4 (n468) (xs469)
      (fun b487 => K0 (b487))))))
noncomputable def haystackref02_Check {R : Type} := shut (@haystackref02_Check_B R)
theorem haystackref02_Check_unf {R : Type} : @haystackref02_Check R = @haystackref02_Check_B R := shut_eq _

noncomputable def haystackref02_Set_j5_B {R : Type} (n489 : Int) (b490 : Bool) (b491 : Bool) (n492 : Int) (xs493 : List Int) (n494 : Int) (K0 : Int → Int → List Int → Option R) (K1 : Int → Bool → Int → List Int → Int → Option R) : Option R :=
 sel (b491)
  (K0 (3) (n492) (xs493))
  (K1 (n489) (b490) (n492) (xs493) (n494))
noncomputable def haystackref02_Set_j5 {R : Type} := shut (@haystackref02_Set_j5_B R)
theorem haystackref02_Set_j5_unf {R : Type} : @haystackref02_Set_j5 R = @haystackref02_Set_j5_B R := shut_eq _

noncomputable def haystackref02_put_r_B {R : Type} (l508 : Nat) (n509 : Int) (b510 : Bool) (xs511 : List Int) (K0 : List Int → Option R) : Option R :=
 sel (decide (0 ≤ quoW .i64 n509 64))
  (sel (decide (quoW .i64 n509 64 < (↑l508 : Int)))
   (sel (decide (Int.toNat (quoW .i64 n509 64) < List.length xs511))
    (sel (decide (0 ≤ cvtW .u64 (remW n509 64)))
     (sel (decide (0 ≤ quoW .i64 n509 64))
      (sel (decide (quoW .i64 n509 64 < (↑l508 : Int)))
       (sel (decide (Int.toNat (quoW .i64 n509 64) < List.length xs511))
        (letV (List.set xs511 (Int.toNat (quoW .i64 n509 64)) (andNotW .u64 (List.getD xs511 (Int.toNat (quoW .i64 n509 64)) 0) (shlW .u64 1 (cvtW .u64 (remW n509 64))))) (fun (xs512 : List Int) =>
        sel (b510)
         (sel (decide (0 ≤ quoW .i64 n509 64))
          (sel (decide (quoW .i64 n509 64 < (↑l508 : Int)))
           (sel (decide (Int.toNat (quoW .i64 n509 64) < List.length xs512))
            (sel (decide (0 ≤ cvtW .u64 (remW n509 64)))
             (sel (decide (0 ≤ quoW .i64 n509 64))
              (sel (decide (quoW .i64 n509 64 < (↑l508 : Int)))
               (sel (decide (Int.toNat (quoW .i64 n509 64) < List.length xs512))
                (letV (List.set xs512 (Int.toNat (quoW .i64 n509 64)) (orW .u64 (List.getD xs512 (Int.toNat (quoW .i64 n509 64)) 0) (shlW .u64 1 (cvtW .u64 (remW n509 64))))) (fun (xs513 : List Int) =>
                K0 (xs513)))
                (none))
               (none))
              (none))
             (none))
            (none))
           (none))
          (none))
         (K0 (xs512))))
        (none))
       (none))
      (none))
     (none))
    (none))
   (none))
  (none)
noncomputable def haystackref02_put_r {R : Type} := shut (@haystackref02_put_r_B R)
theorem haystackref02_put_r_unf {R : Type} : @haystackref02_put_r R = @haystackref02_put_r_B R := shut_eq _

noncomputable def haystackref02_Set_j6_B {R : Type} (n503 : Int) (b504 : Bool) (n505 : Int) (xs506 : List Int) (_n507 : Int) (K0 : Int → Int → Nat → List Int → Option R) : Option R :=
 sel (decide (List.length xs506 * 8 ≤ 140737488355328))
  (haystackref02_put_r (List.length xs506) (n503) (b504) (xs506)
   (fun xs514 => K0 (0) (n505) (List.length xs506) (xs514)))
  (none)
noncomputable def haystackref02_Set_j6 {R : Type} := shut (@haystackref02_Set_j6_B R)
theorem haystackref02_Set_j6_unf {R : Type} : @haystackref02_Set_j6 R = @haystackref02_Set_j6_B R := shut_eq _

noncomputable def haystackref02_Set_B {R : Type} (n464 : Int) (xs465 : List Int) (n466 : Int) (b467 : Bool) (K0 : Int → List Int → Int → Option R) : Option R :=
 haystackref02_Check (n464) (xs465)
  (fun b488 => sel (!b488)
   (K0 (n464) (xs465) (2))
   (sel (decide (n466 < 0))
    (haystackref02_Set_j5 (n466) (b467) (true) (n464) (xs465) (0)
     (fun n495 n496 xs497 => K0 (n496) (xs497) (n495))
     (fun n498 b499 n500 xs501 n502 => haystackref02_Set_j6 (n498) (b499) (n500) (xs501) (n502)
      (fun n515 n516 l517 xs518 => sel (decide (l517 = List.length xs518))
       (K0 (n516) (xs518) (n515))
       (sel (decide (0 + l517 ≤ List.length xs518))
        (K0 (n516) (List.take l517 (List.drop 0 xs518)) (n515))
        (none)))))
    (haystackref02_Set_j5 (n466) (b467) (decide (n464 ≤ n466)) (n464) (xs465) (0)
     (fun n519 n520 xs521 => K0 (n520) (xs521) (n519))
     (fun n522 b523 n524 xs525 n526 => haystackref02_Set_j6 (n522) (b523) (n524) (xs525) (n526)
      (fun n527 n528 l529 xs530 => sel (decide (l529 = List.length xs530))
       (K0 (n528) (xs530) (n527))
       (sel (decide (0 + l529 ≤ List.length xs530))
        (K0 (n528) (List.take l529 (List.drop 0 xs530)) (n527))
        (none)))))))
noncomputable def haystackref02_Set {R : Type} := shut (@haystackref02_Set_B R)
theorem haystackref02_Set_unf {R : Type} : @haystackref02_Set R = @haystackref02_Set_B R := shut_eq _

noncomputable def haystackref02_Append_j3_B {R : Type} (n542 : Int) (n543 : Int) (b544 : Bool) (n545 : Int) (xs546 : List Int) (n547 : Int) (K0 : Int → Int → List Int → Option R) (K1 : Int → Int → Int → List Int → Int → Option R) : Option R :=
 sel (b544)
  (K0 (2) (n545) (xs546))
  (K1 (n542) (n543) (n545) (xs546) (n547))
noncomputable def haystackref02_Append_j3 {R : Type} := shut (@haystackref02_Append_j3_B R)
theorem haystackref02_Append_j3_unf {R : Type} : @haystackref02_Append_j3 R = @haystackref02_Append_j3_B R := shut_eq _

noncomputable def haystackref02_Append_l5_T {R : Type} (rec : Int → Int → Int → List Int → Int → Int → Nat → List Int → Option R) (n561 : Int) (n562 : Int) (n563 : Int) (xs564 : List Int) (n565 : Int) (n566 : Int) (l567 : Nat) (xs568 : List Int) (K0 : Int → Int → Int → List Int → Int → Int → Nat → List Int → Option R) : Option R :=
 haystackref02_Words (n566)
  (fun n569 => sel (decide ((↑l567 : Int) < n569))
   (sel (decide (List.length xs568 = l567))
    (sel (decide ((l567 + 1) * 8 ≤ 140737488355328))
     (letV (xs568 ++ [0]) (fun (xs570 : List Int) =>
     rec (n561) (n562) (n563) (xs564) (n565) (n566) (l567 + 1) (xs570)))
     (none))
    (none))
   (K0 (n561) (n562) (n563) (xs564) (n565) (n566) (l567) (xs568)))
noncomputable def haystackref02_Append_l5_L {R : Type} (K0 : Int → Int → Int → List Int → Int → Int → Nat → List Int → Option R) : Nat → Int → Int → Int → List Int → Int → Int → Nat → List Int → Option R
  | 0, _, _, _, _, _, _, _, _ => none
  | N + 1, n561, n562, n563, xs564, n565, n566, l567, xs568 => haystackref02_Append_l5_T (haystackref02_Append_l5_L K0 N) n561 n562 n563 xs564 n565 n566 l567 xs568 K0
noncomputable def haystackref02_Append_l5_B {R : Type} (n561 : Int) (n562 : Int) (n563 : Int) (xs564 : List Int) (n565 : Int) (n566 : Int) (l567 : Nat) (xs568 : List Int) (K0 : Int → Int → Int → List Int → Int → Int → Nat → List Int → Option R) : Option R :=
 haystackref02_Append_l5_L K0 NR n561 n562 n563 xs564 n565 n566 l567 xs568
noncomputable def haystackref02_Append_l5 {R : Type} := shut (@haystackref02_Append_l5_B R)
theorem haystackref02_Append_l5_unf {R : Type} : @haystackref02_Append_l5 R = @haystackref02_Append_l5_B R := shut_eq _

noncomputable def haystackref02_Append_l8_T {R : Type} (rec : Int → Int → Int → Int → List Int → Int → Int → Nat → List Int → Option R) (n579 : Int) (n580 : Int) (n581 : Int) (n582 : Int) (xs583 : List Int) (n584 : Int) (n585 : Int) (l586 : Nat) (xs587 : List Int) (K0 : Int → Int → Nat → List Int → Option R) : Option R :=
 sel (decide (n581 < n580))
  (sel (decide (0 ≤ cvtW .u64 n581))
   (haystackref02_put_r (l586) (addW .i64 n582 n581) (decide (remW (shrW .u64 n579 (cvtW .u64 n581)) 2 = 1)) (xs587)
    (fun xs588 => rec (n579) (n580) (addW .i64 n581 1) (n582) (xs583) (n584) (n585) (l586) (xs588)))
   (none))
  (K0 (n584) (n585) (l586) (xs587))
noncomputable def haystackref02_Append_l8_L {R : Type} (K0 : Int → Int → Nat → List Int → Option R) : Nat → Int → Int → Int → Int → List Int → Int → Int → Nat → List Int → Option R
  | 0, _, _, _, _, _, _, _, _, _ => none
  | N + 1, n579, n580, n581, n582, xs583, n584, n585, l586, xs587 => haystackref02_Append_l8_T (haystackref02_Append_l8_L K0 N) n579 n580 n581 n582 xs583 n584 n585 l586 xs587 K0
noncomputable def haystackref02_Append_l8_B {R : Type} (n579 : Int) (n580 : Int) (n581 : Int) (n582 : Int) (xs583 : List Int) (n584 : Int) (n585 : Int) (l586 : Nat) (xs587 : List Int) (K0 : Int → Int → Nat → List Int → Option R) : Option R :=
 haystackref02_Append_l8_L K0 NR n579 n580 n581 n582 xs583 n584 n585 l586 xs587
noncomputable def haystackref02_Append_l8 {R : Type} := shut (@haystackref02_Append_l8_B R)
theorem haystackref02_Append_l8_unf {R : Type} : @haystackref02_Append_l8 R = @haystackref02_Append_l8_B R := shut_eq _

noncomputable def haystackref02_Append_j4_B {R : Type} (n556 : Int) (n557 : Int) (n558 : Int) (xs559 : List Int) (n560 : Int) (K0 : Int → Int → Nat → List Int → Option R) : Option R :=
 sel (decide (List.length xs559 * 8 ≤ 140737488355328))
  (haystackref02_Append_l5 (n556) (n557) (n558) (xs559) (n560) (addW .i64 n558 n557) (List.length xs559) (xs559)
   (fun n571 n572 n573 xs574 n575 n576 l577 xs578 => haystackref02_Append_l8 (n571) (n572) (0) (n573) (xs574) (n575) (n576) (l577) (xs578)
    (fun n589 n590 l591 xs592 => K0 (0) (n590) (l591) (xs592))))
  (none)
noncomputable def haystackref02_Append_j4 {R : Type} := shut (@haystackref02_Append_j4_B R)
theorem haystackref02_Append_j4_unf {R : Type} : @haystackref02_Append_j4 R = @haystackref02_Append_j4_B R := shut_eq _

noncomputable def haystackref02_Append_B {R : Type} (n537 : Int) (xs538 : List Int) (n539 : Int) (n540 : Int) (K0 : Int → List Int → Int → Option R) : Option R :=
 haystackref02_Check (n537) (xs538)
  (fun b541 => sel (!b541)
   (haystackref02_Append_j3 (n539) (n540) (true) (n537) (xs538) (0)
    (fun n548 n549 xs550 => K0 (n549) (xs550) (n548))
    (fun n551 n552 n553 xs554 n555 => haystackref02_Append_j4 (n551) (n552) (n553) (xs554) (n555)
     (fun n593 n594 l595 xs596 => sel (decide (l595 = List.length xs596))
      (K0 (n594) (xs596) (n593))
      (sel (decide (0 + l595 ≤ List.length xs596))
       (K0 (n594) (List.take l595 (List.drop 0 xs596)) (n593))
       (none)))))
   (sel (decide (n540 < 0))
    (haystackref02_Append_j3 (n539) (n540) (true) (n537) (xs538) (0)
     (fun n597 n598 xs599 => K0 (n598) (xs599) (n597))
     (fun n600 n601 n602 xs603 n604 => haystackref02_Append_j4 (n600) (n601) (n602) (xs603) (n604)
      (fun n605 n606 l607 xs608 => sel (decide (l607 = List.length xs608))
       (K0 (n606) (xs608) (n605))
       (sel (decide (0 + l607 ≤ List.length xs608))
        (K0 (n606) (List.take l607 (List.drop 0 xs608)) (n605))
        (none)))))
    (sel (decide (64 < n540))
     (haystackref02_Append_j3 (n539) (n540) (true) (n537) (xs538) (0)
      (fun n609 n610 xs611 => K0 (n610) (xs611) (n609))
      (fun n612 n613 n614 xs615 n616 => haystackref02_Append_j4 (n612) (n613) (n614) (xs615) (n616)
       (fun n617 n618 l619 xs620 => sel (decide (l619 = List.length xs620))
        (K0 (n618) (xs620) (n617))
        (sel (decide (0 + l619 ≤ List.length xs620))
         (K0 (n618) (List.take l619 (List.drop 0 xs620)) (n617))
         (none)))))
     (haystackref02_Append_j3 (n539) (n540) (decide (1048576 < addW .i64 n537 n540)) (n537) (xs538) (0)
      (fun n621 n622 xs623 => K0 (n622) (xs623) (n621))
      (fun n624 n625 n626 xs627 n628 => haystackref02_Append_j4 (n624) (n625) (n626) (xs627) (n628)
       (fun n629 n630 l631 xs632 => sel (decide (l631 = List.length xs632))
        (K0 (n630) (xs632) (n629))
        (sel (decide (0 + l631 ≤ List.length xs632))
         (K0 (n630) (List.take l631 (List.drop 0 xs632)) (n629))
         (none))))))))
noncomputable def haystackref02_Append {R : Type} := shut (@haystackref02_Append_B R)
theorem haystackref02_Append_unf {R : Type} : @haystackref02_Append R = @haystackref02_Append_B R := shut_eq _

noncomputable def haystackref02_Join_j3_B {R : Type} (b644 : Bool) (n645 : Int) (xs646 : List Int) (n647 : Int) (xs648 : List Int) (n649 : Int) (K0 : Int → Int → List Int → Option R) (K1 : Int → List Int → Int → List Int → Int → Option R) : Option R :=
 sel (b644)
  (K0 (2) (n645) (xs646))
  (K1 (n645) (xs646) (n647) (xs648) (n649))
noncomputable def haystackref02_Join_j3 {R : Type} := shut (@haystackref02_Join_j3_B R)
theorem haystackref02_Join_j3_unf {R : Type} : @haystackref02_Join_j3 R = @haystackref02_Join_j3_B R := shut_eq _

noncomputable def haystackref02_At_B {R : Type} (_n668 : Int) (xs669 : List Int) (n670 : Int) (K0 : Bool → Option R) : Option R :=
 sel (decide (0 ≤ quoW .i64 n670 64))
  (sel (decide (quoW .i64 n670 64 < (↑(List.length xs669) : Int)))
   (sel (decide (0 ≤ cvtW .u64 (remW n670 64)))
    (letV (decide (remW (shrW .u64 (List.getD xs669 (Int.toNat (quoW .i64 n670 64)) 0) (cvtW .u64 (remW n670 64))) 2 = 1)) (fun (b671 : Bool) =>
    K0 (b671)))
    (none))
   (none))
  (none)
noncomputable def haystackref02_At {R : Type} := shut (@haystackref02_At_B R)
theorem haystackref02_At_unf {R : Type} : @haystackref02_At R = @haystackref02_At_B R := shut_eq _

noncomputable def haystackref02_Bools_l4_1_T {R : Type} (rec : Nat → Int → Int → List Int → List Bool → Option R) (l674 : Nat) (n675 : Int) (n676 : Int) (xs677 : List Int) (bs678 : List Bool) (K0 : Nat → List Bool → Option R) : Option R :=
 sel (decide (n675 < n676))
  (haystackref02_At (n676) (xs677) (n675)
   (fun b679 => letV ([b679]) (fun (bs680 : List Bool) =>
   sel (decide (1 = List.length bs680))
    (sel (decide (List.length bs678 = l674))
     (sel (decide ((l674 + 1) * 1 ≤ 140737488355328))
      (letV (bs678 ++ bs680) (fun (bs681 : List Bool) =>
      rec (l674 + 1) (addW .i64 n675 1) (n676) (xs677) (bs681)))
      (none))
     (none))
    (sel (decide (0 + 1 ≤ List.length bs680))
     (sel (decide (List.length bs678 = l674))
      (sel (decide ((l674 + 1) * 1 ≤ 140737488355328))
       (letV (bs678 ++ List.take 1 (List.drop 0 bs680)) (fun (bs682 : List Bool) =>
       rec (l674 + 1) (addW .i64 n675 1) (n676) (xs677) (bs682)))
       (none))
      (none))
     (none)))))
  (K0 (l674) (bs678))
noncomputable def haystackref02_Bools_l4_1_L {R : Type} (K0 : Nat → List Bool → Option R) : Nat → Nat → Int → Int → List Int → List Bool → Option R
  | 0, _, _, _, _, _ => none
  | N + 1, l674, n675, n676, xs677, bs678 => haystackref02_Bools_l4_1_T (haystackref02_Bools_l4_1_L K0 N) l674 n675 n676 xs677 bs678 K0
noncomputable def haystackref02_Bools_l4_1_B {R : Type} (l674 : Nat) (n675 : Int) (n676 : Int) (xs677 : List Int) (bs678 : List Bool) (K0 : Nat → List Bool → Option R) : Option R :=
 haystackref02_Bools_l4_1_L K0 NR l674 n675 n676 xs677 bs678
noncomputable def haystackref02_Bools_l4_1 {R : Type} := shut (@haystackref02_Bools_l4_1_B R)
theorem haystackref02_Bools_l4_1_unf {R : Type} : @haystackref02_Bools_l4_1 R = @haystackref02_Bools_l4_1_B R := shut_eq _

noncomputable def haystackref02_Bools_l4_T {R : Type} (rec : Int → Int → List Int → Option R) (rec0 : Nat → Int → Int → List Int → List Bool → Option R) (n665 : Int) (n666 : Int) (xs667 : List Int) (K0 : Nat → List Bool → Option R) (K1 : Unit → Option R) : Option R :=
 sel (decide (n665 < n666))
  (haystackref02_At (n666) (xs667) (n665)
   (fun b672 => letV ([b672]) (fun (bs673 : List Bool) =>
   sel (decide (1 = List.length bs673))
    (rec0 (1) (addW .i64 n665 1) (n666) (xs667) (bs673))
    (sel (decide (0 + 1 ≤ List.length bs673))
     (letV (List.take 1 (List.drop 0 bs673)) (fun (bs683 : List Bool) =>
     rec0 (1) (addW .i64 n665 1) (n666) (xs667) (bs683)))
     (none)))))
  (K1 ())
noncomputable def haystackref02_Bools_l4_L {R : Type} (K0 : Nat → List Bool → Option R) (K1 : Unit → Option R) : Nat → Int → Int → List Int → Option R
  | 0, _, _, _ => none
  | N + 1, n665, n666, xs667 => haystackref02_Bools_l4_T (haystackref02_Bools_l4_L K0 K1 N) (haystackref02_Bools_l4_1_L K0 N) n665 n666 xs667 K0 K1
noncomputable def haystackref02_Bools_l4_B {R : Type} (n665 : Int) (n666 : Int) (xs667 : List Int) (K0 : Nat → List Bool → Option R) (K1 : Unit → Option R) : Option R :=
 haystackref02_Bools_l4_L K0 K1 NR n665 n666 xs667
noncomputable def haystackref02_Bools_l4 {R : Type} := shut (@haystackref02_Bools_l4_B R)
theorem haystackref02_Bools_l4_unf {R : Type} : @haystackref02_Bools_l4 R = @haystackref02_Bools_l4_B R := shut_eq _

noncomputable def haystackref02_Bools_r_B {R : Type} (n663 : Int) (xs664 : List Int) (K0 : Nat → List Bool → Option R) (K1 : Unit → Option R) : Option R :=
 haystackref02_Bools_l4 (0) (n663) (xs664)
  (fun l684 bs685 => K0 (l684) (bs685))
  (fun _ => K1 ())
noncomputable def haystackref02_Bools_r {R : Type} := shut (@haystackref02_Bools_r_B R)
theorem haystackref02_Bools_r_unf {R : Type} : @haystackref02_Bools_r R = @haystackref02_Bools_r_B R := shut_eq _

noncomputable def haystackref02_New_j3_B {R : Type} (n694 : Int) (b695 : Bool) (n696 : Int) (K0 : Int → Int → Option R) (K1 : Int → Int → Option R) : Option R :=
 sel (b695)
  (K0 (2) (0))
  (K1 (n694) (n696))
noncomputable def haystackref02_New_j3 {R : Type} := shut (@haystackref02_New_j3_B R)
theorem haystackref02_New_j3_unf {R : Type} : @haystackref02_New_j3 R = @haystackref02_New_j3_B R := shut_eq _

noncomputable def haystackref02_New_j4_B {R : Type} (n701 : Int) (_n702 : Int) (K0 : Int → Int → Nat → List Int → Option R) : Option R :=
 haystackref02_Words (n701)
  (fun n703 => sel (decide (0 ≤ n703))
   (sel (decide (n703 ≤ n703))
    (sel (decide (n703 ≤ 281474976710656))
     (sel (decide ((↑8 : Int) * n703 ≤ 281474976710656))
      (letV (List.replicate (Int.toNat n703) 0) (fun (xs704 : List Int) =>
      K0 (0) (n701) (Int.toNat n703) (xs704)))
      (none))
     (none))
    (none))
   (none))
noncomputable def haystackref02_New_j4 {R : Type} := shut (@haystackref02_New_j4_B R)
theorem haystackref02_New_j4_unf {R : Type} : @haystackref02_New_j4 R = @haystackref02_New_j4_B R := shut_eq _

noncomputable def haystackref02_New_r_B {R : Type} (n693 : Int) (K0 : Int → Int → Option R) (K1 : Int → Nat → Int → List Int → Option R) : Option R :=
 sel (decide (n693 < 0))
  (haystackref02_New_j3 (n693) (true) (0)
   (fun n697 n698 => K0 (n698) (n697))
   (fun n699 n700 => haystackref02_New_j4 (n699) (n700)
    (fun n705 n706 l707 xs708 => K1 (n706) (l707) (n705) (xs708))))
  (haystackref02_New_j3 (n693) (decide (1048576 < n693)) (0)
   (fun n709 n710 => K0 (n710) (n709))
   (fun n711 n712 => haystackref02_New_j4 (n711) (n712)
    (fun n713 n714 l715 xs716 => K1 (n714) (l715) (n713) (xs716))))
noncomputable def haystackref02_New_r {R : Type} := shut (@haystackref02_New_r_B R)
theorem haystackref02_New_r_unf {R : Type} : @haystackref02_New_r R = @haystackref02_New_r_B R := shut_eq _

noncomputable def haystackref02_put_B {R : Type} (xs725 : List Int) (n726 : Int) (_b727 : Bool) : Option R :=
 sel (decide (0 ≤ quoW .i64 n726 64))
  (sel (decide (quoW .i64 n726 64 < (↑(List.length xs725) : Int)))
   (sel (decide (0 ≤ cvtW .u64 (remW n726 64)))
    (sel (decide (0 ≤ quoW .i64 n726 64))
     (sel (decide (quoW .i64 n726 64 < (↑(List.length xs725) : Int)))
      (none)
      (none))
     (none))
    (none))
   (none))
  (none)
noncomputable def haystackref02_put {R : Type} := shut (@haystackref02_put_B R)
theorem haystackref02_put_unf {R : Type} : @haystackref02_put R = @haystackref02_put_B R := shut_eq _

noncomputable def haystackref02_From_l4_T {R : Type} (rec : Nat → Int → Int → List Bool → Int → Int → Option R) (l719 : Nat) (n720 : Int) (n721 : Int) (bs722 : List Bool) (n723 : Int) (n724 : Int) (K0 : Int → List Bool → Int → Int → Option R) : Option R :=
 sel (decide (n721 < n724))
  (sel (decide (0 ≤ n721))
   (sel (decide (n721 < (↑l719 : Int)))
    (sel (decide (Int.toNat n721 < List.length bs722))
     (haystackref02_put ([]) (n721) (List.getD bs722 (Int.toNat n721) false))
     (none))
    (none))
   (none))
  (K0 (n720) (bs722) (n723) (n724))
noncomputable def haystackref02_From_l4_L {R : Type} (K0 : Int → List Bool → Int → Int → Option R) : Nat → Nat → Int → Int → List Bool → Int → Int → Option R
  | 0, _, _, _, _, _, _ => none
  | N + 1, l719, n720, n721, bs722, n723, n724 => haystackref02_From_l4_T (haystackref02_From_l4_L K0 N) l719 n720 n721 bs722 n723 n724 K0
noncomputable def haystackref02_From_l4_B {R : Type} (l719 : Nat) (n720 : Int) (n721 : Int) (bs722 : List Bool) (n723 : Int) (n724 : Int) (K0 : Int → List Bool → Int → Int → Option R) : Option R :=
 haystackref02_From_l4_L K0 NR l719 n720 n721 bs722 n723 n724
noncomputable def haystackref02_From_l4 {R : Type} := shut (@haystackref02_From_l4_B R)
theorem haystackref02_From_l4_unf {R : Type} : @haystackref02_From_l4 R = @haystackref02_From_l4_B R := shut_eq _

noncomputable def haystackref02_From_l4_1_T {R : Type} (rec : Nat → Int → Int → List Bool → Int → Int → Nat → List Int → Option R) (l736 : Nat) (n737 : Int) (n738 : Int) (bs739 : List Bool) (n740 : Int) (n741 : Int) (l742 : Nat) (xs743 : List Int) (K0 : Int → List Bool → Int → Int → Nat → List Int → Option R) : Option R :=
 sel (decide (n738 < n741))
  (sel (decide (0 ≤ n738))
   (sel (decide (n738 < (↑l736 : Int)))
    (sel (decide (Int.toNat n738 < List.length bs739))
     (haystackref02_put_r (l742) (n738) (List.getD bs739 (Int.toNat n738) false) (xs743)
      (fun xs744 => rec (l736) (n737) (addW .i64 n738 1) (bs739) (n740) (n741) (l742) (xs744)))
     (none))
    (none))
   (none))
  (K0 (n737) (bs739) (n740) (n741) (l742) (xs743))
noncomputable def haystackref02_From_l4_1_L {R : Type} (K0 : Int → List Bool → Int → Int → Nat → List Int → Option R) : Nat → Nat → Int → Int → List Bool → Int → Int → Nat → List Int → Option R
  | 0, _, _, _, _, _, _, _, _ => none
  | N + 1, l736, n737, n738, bs739, n740, n741, l742, xs743 => haystackref02_From_l4_1_T (haystackref02_From_l4_1_L K0 N) l736 n737 n738 bs739 n740 n741 l742 xs743 K0
noncomputable def haystackref02_From_l4_1_B {R : Type} (l736 : Nat) (n737 : Int) (n738 : Int) (bs739 : List Bool) (n740 : Int) (n741 : Int) (l742 : Nat) (xs743 : List Int) (K0 : Int → List Bool → Int → Int → Nat → List Int → Option R) : Option R :=
 haystackref02_From_l4_1_L K0 NR l736 n737 n738 bs739 n740 n741 l742 xs743
noncomputable def haystackref02_From_l4_1 {R : Type} := shut (@haystackref02_From_l4_1_B R)
theorem haystackref02_From_l4_1_unf {R : Type} : @haystackref02_From_l4_1 R = @haystackref02_From_l4_1_B R := shut_eq _

noncomputable def haystackref02_From_r_B {R : Type} (l691 : Nat) (bs692 : List Bool) (K0 : Int → Int → List Bool → Option R) (K1 : Int → Nat → Int → List Bool → List Int → Option R) : Option R :=
 haystackref02_New_r ((↑l691 : Int))
  (fun n717 n718 => haystackref02_From_l4 (l691) (n718) (0) (bs692) (0) (n717)
   (fun n728 bs729 n730 n731 => K0 (n731) (n728) (bs729)))
  (fun n732 l733 n734 xs735 => haystackref02_From_l4_1 (l691) (n734) (0) (bs692) (0) (n732) (l733) (xs735)
   (fun n745 bs746 n747 n748 l749 xs750 => K1 (n748) (l749) (n745) (bs746) (xs750)))
noncomputable def haystackref02_From_r {R : Type} := shut (@haystackref02_From_r_B R)
theorem haystackref02_From_r_unf {R : Type} : @haystackref02_From_r R = @haystackref02_From_r_B R := shut_eq _

noncomputable def haystackref02_From_l4_2_T {R : Type} (rec : Nat → Int → Int → Int → Int → Option R) (l798 : Nat) (n799 : Int) (n800 : Int) (n801 : Int) (n802 : Int) (K0 : Int → Int → Int → Option R) : Option R :=
 sel (decide (n800 < n802))
  (sel (decide (0 ≤ n800))
   (sel (decide (n800 < (↑l798 : Int)))
    (none)
    (none))
   (none))
  (K0 (n799) (n801) (n802))
noncomputable def haystackref02_From_l4_2_L {R : Type} (K0 : Int → Int → Int → Option R) : Nat → Nat → Int → Int → Int → Int → Option R
  | 0, _, _, _, _, _ => none
  | N + 1, l798, n799, n800, n801, n802 => haystackref02_From_l4_2_T (haystackref02_From_l4_2_L K0 N) l798 n799 n800 n801 n802 K0
noncomputable def haystackref02_From_l4_2_B {R : Type} (l798 : Nat) (n799 : Int) (n800 : Int) (n801 : Int) (n802 : Int) (K0 : Int → Int → Int → Option R) : Option R :=
 haystackref02_From_l4_2_L K0 NR l798 n799 n800 n801 n802
noncomputable def haystackref02_From_l4_2 {R : Type} := shut (@haystackref02_From_l4_2_B R)
theorem haystackref02_From_l4_2_unf {R : Type} : @haystackref02_From_l4_2 R = @haystackref02_From_l4_2_B R := shut_eq _

noncomputable def haystackref02_From_l4_3_T {R : Type} (rec : Nat → Int → Int → Int → Int → Nat → List Int → Option R) (l810 : Nat) (n811 : Int) (n812 : Int) (n813 : Int) (n814 : Int) (l815 : Nat) (xs816 : List Int) (K0 : Int → Int → Int → Nat → List Int → Option R) : Option R :=
 sel (decide (n812 < n814))
  (sel (decide (0 ≤ n812))
   (sel (decide (n812 < (↑l810 : Int)))
    (none)
    (none))
   (none))
  (K0 (n811) (n813) (n814) (l815) (xs816))
noncomputable def haystackref02_From_l4_3_L {R : Type} (K0 : Int → Int → Int → Nat → List Int → Option R) : Nat → Nat → Int → Int → Int → Int → Nat → List Int → Option R
  | 0, _, _, _, _, _, _, _ => none
  | N + 1, l810, n811, n812, n813, n814, l815, xs816 => haystackref02_From_l4_3_T (haystackref02_From_l4_3_L K0 N) l810 n811 n812 n813 n814 l815 xs816 K0
noncomputable def haystackref02_From_l4_3_B {R : Type} (l810 : Nat) (n811 : Int) (n812 : Int) (n813 : Int) (n814 : Int) (l815 : Nat) (xs816 : List Int) (K0 : Int → Int → Int → Nat → List Int → Option R) : Option R :=
 haystackref02_From_l4_3_L K0 NR l810 n811 n812 n813 n814 l815 xs816
noncomputable def haystackref02_From_l4_3 {R : Type} := shut (@haystackref02_From_l4_3_B R)
theorem haystackref02_From_l4_3_unf {R : Type} : @haystackref02_From_l4_3 R = @haystackref02_From_l4_3_B R := shut_eq _

noncomputable def haystackref02_From_r_1_B {R : Type} (l795 : Nat) (K0 : Int → Int → Option R) (K1 : Int → Nat → Int → List Int → Option R) : Option R :=
 haystackref02_New_r ((↑l795 : Int))
  (fun n796 n797 => haystackref02_From_l4_2 (l795) (n797) (0) (0) (n796)
   (fun n803 n804 n805 => K0 (n805) (n803)))
  (fun n806 l807 n808 xs809 => haystackref02_From_l4_3 (l795) (n808) (0) (0) (n806) (l807) (xs809)
   (fun n817 n818 n819 l820 xs821 => K1 (n819) (l820) (n817) (xs821)))
noncomputable def haystackref02_From_r_1 {R : Type} := shut (@haystackref02_From_r_1_B R)
theorem haystackref02_From_r_1_unf {R : Type} : @haystackref02_From_r_1 R = @haystackref02_From_r_1_B R := shut_eq _

noncomputable def haystackref02_Join_j4_B {R : Type} (n658 : Int) (xs659 : List Int) (n660 : Int) (xs661 : List Int) (_n662 : Int) (K0 : Int → Int → Option R) (K1 : Int → Int → Nat → List Int → Option R) : Option R :=
 haystackref02_Bools_r (n658) (xs659)
  (fun l686 bs687 => haystackref02_Bools_r (n660) (xs661)
   (fun l688 bs689 => sel (decide (l688 = List.length bs689))
    (sel (decide (List.length bs687 = l686))
     (sel (decide ((l686 + l688) * 1 ≤ 140737488355328))
      (letV (bs687 ++ bs689) (fun (bs690 : List Bool) =>
      haystackref02_From_r (l686 + l688) (bs690)
       (fun n751 n752 bs753 => K0 (n752) (n751))
       (fun n754 l755 n756 bs757 xs758 => K1 (n756) (n754) (l755) (xs758))))
      (none))
     (none))
    (sel (decide (0 + l688 ≤ List.length bs689))
     (sel (decide (List.length bs687 = l686))
      (sel (decide ((l686 + l688) * 1 ≤ 140737488355328))
       (letV (bs687 ++ List.take l688 (List.drop 0 bs689)) (fun (bs759 : List Bool) =>
       haystackref02_From_r (l686 + l688) (bs759)
        (fun n760 n761 bs762 => K0 (n761) (n760))
        (fun n763 l764 n765 bs766 xs767 => K1 (n765) (n763) (l764) (xs767))))
       (none))
      (none))
     (none)))
   (fun _ => sel (decide (List.length bs687 = l686))
    (sel (decide ((l686 + 0) * 1 ≤ 140737488355328))
     (haystackref02_From_r (l686 + 0) (bs687)
      (fun n768 n769 bs770 => K0 (n769) (n768))
      (fun n771 l772 n773 bs774 xs775 => K1 (n773) (n771) (l772) (xs775)))
     (none))
    (none)))
  (fun _ => haystackref02_Bools_r (n660) (xs661)
   (fun l776 bs777 => sel (decide (l776 = List.length bs777))
    (sel (decide (l776 * 1 ≤ 140737488355328))
     (haystackref02_From_r (l776) (bs777)
      (fun n778 n779 bs780 => K0 (n779) (n778))
      (fun n781 l782 n783 bs784 xs785 => K1 (n783) (n781) (l782) (xs785)))
     (none))
    (sel (decide (0 + l776 ≤ List.length bs777))
     (sel (decide (l776 * 1 ≤ 140737488355328))
      (letV (List.take l776 (List.drop 0 bs777)) (fun (bs786 : List Bool) =>
      haystackref02_From_r (l776) (bs786)
       (fun n787 n788 bs789 => K0 (n788) (n787))
       (fun n790 l791 n792 bs793 xs794 => K1 (n792) (n790) (l791) (xs794))))
      (none))
     (none)))
   (fun _ => haystackref02_From_r_1 (0)
    (fun n822 n823 => K0 (n823) (n822))
    (fun n824 l825 n826 xs827 => K1 (n826) (n824) (l825) (xs827))))
noncomputable def haystackref02_Join_j4 {R : Type} := shut (@haystackref02_Join_j4_B R)
theorem haystackref02_Join_j4_unf {R : Type} : @haystackref02_Join_j4 R = @haystackref02_Join_j4_B R := shut_eq _

noncomputable def haystackref02_Join_B {R : Type} (n639 : Int) (xs640 : List Int) (n641 : Int) (xs642 : List Int) (K0 : Int → List Int → Int → Option R) : Option R :=
 haystackref02_Check (n639) (xs640)
  (fun b643 => sel (!b643)
   (haystackref02_Join_j3 (true) (n639) (xs640) (n641) (xs642) (0)
    (fun n650 n651 xs652 => K0 (n651) (xs652) (n650))
    (fun n653 xs654 n655 xs656 n657 => haystackref02_Join_j4 (n653) (xs654) (n655) (xs656) (n657)
     (fun n828 n829 => K0 (n829) ([]) (n828))
     (fun n830 n831 l832 xs833 => sel (decide (l832 = List.length xs833))
      (K0 (n831) (xs833) (n830))
      (sel (decide (0 + l832 ≤ List.length xs833))
       (K0 (n831) (List.take l832 (List.drop 0 xs833)) (n830))
       (none)))))
   (haystackref02_Check (n641) (xs642)
    (fun b834 => sel (!b834)
     (haystackref02_Join_j3 (true) (n639) (xs640) (n641) (xs642) (0)
      (fun n835 n836 xs837 => K0 (n836) (xs837) (n835))
      (fun n838 xs839 n840 xs841 n842 => haystackref02_Join_j4 (n838) (xs839) (n840) (xs841) (n842)
       (fun n843 n844 => K0 (n844) ([]) (n843))
       (fun n845 n846 l847 xs848 => sel (decide (l847 = List.length xs848))
        (K0 (n846) (xs848) (n845))
        (sel (decide (0 + l847 ≤ List.length xs848))
         (K0 (n846) (List.take l847 (List.drop 0 xs848)) (n845))
         (none)))))
     (haystackref02_Join_j3 (decide (1048576 < addW .i64 n639 n641)) (n639) (xs640) (n641) (xs642) (0)
      (fun n849 n850 xs851 => K0 (n850) (xs851) (n849))
      (fun n852 xs853 n854 xs855 n856 => haystackref02_Join_j4 (n852) (xs853) (n854) (xs855) (n856)
       (fun n857 n858 => K0 (n858) ([]) (n857))
       (fun n859 n860 l861 xs862 => sel (decide (l861 = List.length xs862))
        (K0 (n860) (xs862) (n859))
        (sel (decide (0 + l861 ≤ List.length xs862))
         (K0 (n860) (List.take l861 (List.drop 0 xs862)) (n859))
         (none))))))))
noncomputable def haystackref02_Join {R : Type} := shut (@haystackref02_Join_B R)
theorem haystackref02_Join_unf {R : Type} : @haystackref02_Join R = @haystackref02_Join_B R := shut_eq _

noncomputable def haystacklaw02_BitsBecome_j5_B {R : Type} (n452 : Int) (n453 : Int) (n454 : Int) (n455 : Int) (xs456 : List Int) (n457 : Int) (xs458 : List Int) (n459 : Int) (xs460 : List Int) (K0 : Bool → Option R) : Option R :=
 bits_Set (n459) (xs460) (n452) (decide (remW n453 2 = 1))
  (fun n461 xs462 n463 => haystackref02_Set (n455) (xs456) (n452) (decide (remW n453 2 = 1))
   (fun n531 xs532 n533 => bits_Append (n459) (xs460) (n453) (n454)
    (fun n534 xs535 n536 => haystackref02_Append (n455) (xs456) (n453) (n454)
     (fun n633 xs634 n635 => bits_Join (n459) (xs460) (n457) (xs458)
      (fun n636 xs637 n638 => haystackref02_Join (n455) (xs456) (n457) (xs458)
       (fun n863 xs864 n865 => haystackref02_Same (n461) (xs462) (n531) (xs532)
        (fun b866 => sel (b866)
         (sel (decide (n463 = n533))
          (haystackref02_Same (n534) (xs535) (n633) (xs634)
           (fun b867 => sel (b867)
            (sel (decide (n536 = n635))
             (haystackref02_Same (n636) (xs637) (n863) (xs864)
              (fun b868 => sel (b868)
               (sel (decide (n638 = n865))
                (haystackref02_Same (n459) (xs460) (n455) (xs456)
                 (fun b869 => sel (b869)
                  (haystacklaw02_heads 
                   (fun b870 => K0 (b870)))
                  (K0 (false))))
                (K0 (false)))
               (K0 (false))))
             (K0 (false)))
            (K0 (false))))
          (K0 (false)))
         (K0 (false)))))))))
noncomputable def haystacklaw02_BitsBecome_j5 {R : Type} := shut (@haystacklaw02_BitsBecome_j5_B R)
theorem haystacklaw02_BitsBecome_j5_unf {R : Type} : @haystacklaw02_BitsBecome_j5 R = @haystacklaw02_BitsBecome_j5_B R := shut_eq _

noncomputable def haystacklaw02_BitsBecome_j4_B {R : Type} (n445 : Int) (n446 : Int) (n447 : Int) (n448 : Int) (xs449 : List Int) (n450 : Int) (xs451 : List Int) (K0 : Bool → Option R) : Option R :=
 sel (decide (List.length xs449 * 8 ≤ 140737488355328))
  (sel (decide (List.length xs449 = List.length xs449))
   (haystacklaw02_BitsBecome_j5 (n445) (n446) (n447) (n448) (xs449) (n450) (xs451) (n448) (xs449)
    (fun b871 => K0 (b871)))
   (none))
  (none)
noncomputable def haystacklaw02_BitsBecome_j4 {R : Type} := shut (@haystacklaw02_BitsBecome_j4_B R)
theorem haystacklaw02_BitsBecome_j4_unf {R : Type} : @haystacklaw02_BitsBecome_j4 R = @haystacklaw02_BitsBecome_j4_B R := shut_eq _

noncomputable def haystacklaw02_BitsBecome_B {R : Type} (n0 : Int) (xs1 : List Int) (n2 : Int) (xs3 : List Int) (n4 : Int) (n5 : Int) (n6 : Int) (K0 : Bool → Option R) : Option R :=
 haystacklaw02_small (n0) (xs1)
  (fun b9 => sel (!b9)
   (haystacklaw02_heads 
    (fun b442 => K0 (b442)))
   (haystacklaw02_small (n2) (xs3)
    (fun b443 => sel (!b443)
     (haystacklaw02_heads 
      (fun b444 => K0 (b444)))
     (haystacklaw02_BitsBecome_j4 (n4) (n5) (n6) (n0) (xs1) (n2) (xs3)
      (fun b872 => K0 (b872))))))
noncomputable def haystacklaw02_BitsBecome {R : Type} := shut (@haystacklaw02_BitsBecome_B R)
theorem haystacklaw02_BitsBecome_unf {R : Type} : @haystacklaw02_BitsBecome R = @haystacklaw02_BitsBecome_B R := shut_eq _

/-- what is kept where -/
def kpt : List (Nat × List (Nat × List Nat)) := [(5, [(11000, [5, 11, 12, 13, 14, 15, 16, 17, 18, 19, 20, 21, 22, 23, 999999]), (10000, [5, 6, 11, 12, 13, 14, 15, 16, 17, 18, 19, 20, 21, 999999]), (9000, [5, 6, 11, 12, 13, 14, 15, 16, 17, 18, 19, 999999]), (8000, [3, 4, 5, 6, 11, 12, 13, 14, 15, 16, 17, 999999]), (7000, [3, 4, 5, 6, 11, 12, 13, 14, 15, 999999]), (6000, [2, 3, 4, 5, 6, 11, 12, 13, 999999]), (5002, [10]), (5001, [10]), (5000, [2, 3, 4, 5, 6, 11, 999999]), (4002, [10]), (4001, [10]), (4000, [2, 3, 4, 5, 6, 999999]), (3000, [2, 3, 4, 5, 6, 31, 999999]), (2000, [2, 3, 4, 5, 6, 999999])]), (13, [(2000, [1, 999999])]), (14, [(4002, [2]), (4001, [2]), (4000, [1])]), (15, [(999999999, []), (10000, [1, 2, 4, 5, 6, 8, 9, 10, 12, 13, 14, 15, 16, 999999]), (9000, [1, 2, 4, 5, 6, 8, 9, 10, 12, 13, 14, 999999]), (8002, [0]), (8001, [0]), (8000, [1, 2, 4, 5, 6, 8, 9, 10, 12, 999999]), (7000, [1, 2, 4, 5, 6, 8, 9, 10, 999999]), (6000, [1, 2, 3, 4, 5, 6, 8, 999999]), (5000, [1, 2, 3, 4, 5, 6, 999999]), (4000, [1, 2, 3, 4, 999999]), (3000, [1, 2, 999999]), (2000, [999999])]), (16, [(6002, [4, 5]), (6001, [4, 5]), (6000, [1, 2])]), (17, [(7403, [1, 2, 5]), (7402, [4]), (7401, []), (7400, [1, 2, 5, 20, 21, 22])]), (18, [(12002, [6, 7]), (12001, [6, 7]), (12000, [2, 10]), (8002, [6, 7]), (8001, [6, 7]), (8000, [1, 2, 3]), (5003, [1, 2, 3]), (5002, [6, 7]), (5001, [1, 2, 3]), (5000, [1, 2, 3, 23]), (3003, [1, 2, 3]), (3002, [6, 7]), (3001, [1, 2, 3]), (3000, [1, 2, 3, 11])]), (20, [(6002, [6, 7]), (6001, [6, 7]), (6000, [1, 2, 3, 6]), (5002, [6, 7]), (5001, [1, 2, 3, 6]), (5000, [1, 2, 3, 6, 20])]), (21, [(4002, [6, 7]), (4001, [6, 7]), (4000, [1, 2, 3, 6]), (3002, [6, 7]), (3001, [1, 2, 3, 6]), (3000, [1, 2, 3, 6, 26])]), (22, [(8405, [6, 8]), (8402, [6, 7]), (8401, []), (8400, [1, 2, 3, 6, 8, 9]), (5403, [1, 2, 3, 6, 8]), (5402, [6, 7]), (5401, []), (5400, [1, 2, 3, 6, 8]), (4002, [6, 7]), (4001, [6, 7]), (4000, [1, 2, 3, 6]), (3002, [6, 7]), (3001, [1, 2, 3, 6]), (3000, [1, 2, 3, 6, 27])]), (23, [(6403, [4, 6]), (6402, [4, 5]), (6401, []), (6400, [2, 4, 6, 34, 35, 36]), (4002, [4, 5]), (4001, [4, 5]), (4000, [2, 3, 4]), (3002, [4, 5]), (3001, [2, 3, 4]), (3000, [2, 3, 4, 24])]), (24, [(4002, [4, 5]), (4001, [4, 5]), (4000, [2, 3, 4]), (3002, [4, 5]), (3001, [2, 3, 4]), (3000, [2, 3, 4, 21])]), (25, [(5403, []), (5402, [4]), (5401, []), (5400, [2, 3, 5]), (4002, [4]), (4001, [4]), (4000, [2, 3])]), (27, [(4002, [2]), (4001, [2]), (4000, [1])]), (42, [(4002, [2, 3]), (4001, [2, 3]), (4000, [0, 2]), (3002, [2, 3]), (3001, [0, 2]), (3000, [0, 2, 9])]), (43, [(6403, [2, 4]), (6402, [2, 3]), (6401, []), (6400, [2, 4, 18, 19, 20])]), (48, [(6002, []), (6001, []), (6000, [2, 3, 6, 7, 36]), (5002, []), (5001, []), (5000, [2, 3, 6, 7])]), (50, [(4403, [2, 4, 5]), (4402, [2, 3]), (4401, []), (4400, [0, 2, 4, 5, 6])]), (51, [(4403, [3]), (4402, [2]), (4401, []), (4400, [1, 3, 4])]), (52, [(6003, [3]), (6002, [2]), (6001, [0, 3, 4]), (6000, [0, 3, 4]), (4403, [3]), (4402, [2]), (4401, []), (4400, [0, 3, 4])]), (64, [(4002, [2, 3]), (4001, [2, 3]), (4000, [0, 2]), (3002, [2, 3]), (3001, [0, 2]), (3000, [0, 2, 9])])]
/-- what is handed back open -/
def lvt : List (Nat × List Nat) := [(21, [46]), (19, [46]), (23, [46]), (43, [42]), (50, [64]), (24, [51])]
noncomputable def V (f : FuncId) : Env := env (keepOf kpt) (vsOf (match lkN lvt f with | some l => l | none => []))
theorem D0 : Dom V S0 T0 0 := Dom.nil

noncomputable def sp13 : Ev.Spec := fun args _ K => match args with
  | ([AV.agg (Blk.any [AV.int .i64 n7, AV.fsl (Blk.ints .u64 xs8)])]) => haystacklaw02_small n7 xs8 (fun x0 => K (AV.bool x0))
  | _ => none
noncomputable def S13 := addS 13 sp13 S0
theorem D1 : Dom V S13 T0 1 := Dom.s (m := 0) (n := 0) D0 D0 (O := (fun _ => none)) (fun _ _ _ _ => OrcOk.none _ _) fun args R K r h => by
  unfold sp13 at h; split at h
  · rw [haystacklaw02_small_unf] at h; exact Eq.trans (by kernel_rfl) h
  · cases h

noncomputable def sp40 : Ev.Spec := fun args _ K => match args with
  | ([AV.int .i64 n16]) => bits_words n16 (fun x0 => K (AV.int .i64 x0))
  | _ => none
noncomputable def S40 := addS 40 sp40 S13
theorem D2 : Dom V S40 T0 2 := Dom.s (m := 1) (n := 0) D1 D1 (O := (fun _ => none)) (fun _ _ _ _ => OrcOk.none _ _) fun args R K r h => by
  unfold sp40 at h; split at h
  · rw [bits_words_unf] at h; exact Eq.trans (by kernel_rfl) h
  · cases h

noncomputable def sp41 : Ev.Spec := fun args _ K => match args with
  | ([AV.int .i64 n20]) => word_Mask n20 (fun x0 => K (AV.int .u64 x0))
  | _ => none
noncomputable def S41 := addS 41 sp41 S40
theorem D3 : Dom V S41 T0 3 := Dom.s (m := 2) (n := 0) D2 D2 (O := (fun _ => none)) (fun _ _ _ _ => OrcOk.none _ _) fun args R K r h => by
  unfold sp41 at h; split at h
  · rw [word_Mask_unf] at h; exact Eq.trans (by kernel_rfl) h
  · cases h

noncomputable def o14_4000_in {R : Type} (K : Ex → St → Option R) (vs : List AV) (hh : H) : Option R := match vs, hh with
  | [AV.ptr 0 0], [HB.live (Blk.any [AV.int .i64 n18, AV.fsl (Blk.ints .u64 xs19)])] => bits_Check_j4 n18 xs19 (fun x0 => K (Ex.ret) (St.mk (spread 40 0 [2] [AV.bool x0]) []))
  | _, _ => none

noncomputable def o14 : Nat → Option PSpec := lkN [(4000, fun st _ K => pickM 40 [1] st (o14_4000_in K))]
noncomputable def q14 : CallF := evFun (V 14) S41 T0 10

noncomputable def c14_4000 : Code := subC [1, 1] (bodyOf Try.f14)

theorem p14_4000 : PieceOk (V 14) q14 o14 14 0 (3998, 0, c14_4000) := .s (size := 40) (ss := [1]) (F := @o14_4000_in) (by kernel_rfl) fun R r K vs hh h => by
  unfold o14_4000_in at h; split at h
  · rw [bits_Check_j4_unf] at h; exact Eq.trans (by kernel_rfl) h
  · cases h

theorem pc14 : ∀ x ∈ [(3998, 0, c14_4000)], PieceOk (V 14) q14 o14 14 0 x := List.forall_mem_cons.2 ⟨p14_4000, fun _ h => nomatch h⟩

noncomputable def sp14 : Ev.Spec := fun args _ K => match args with
  | ([AV.agg (Blk.any [AV.int .i64 n14, AV.fsl (Blk.ints .u64 xs15)])]) => bits_Check n14 xs15 (fun x0 => K (AV.bool x0))
  | _ => none
noncomputable def S14 := addS 14 sp14 S41
theorem D4 : Dom V S14 T0 4 := Dom.s (m := 3) (n := 0) D3 D3 (O := o14) (OrcOk.fn (fn0 := Try.f14) (by kernel_rfl) (by kernel_rfl) pc14) fun args R K r h => by
  unfold sp14 at h; split at h
  · rw [bits_Check_unf] at h; exact Eq.trans (by kernel_rfl) h
  · cases h

noncomputable def hs46 : HSpec := fun args h _ K => match args, h with
  | [AV.agg (Blk.any [AV.int .i64 n44, AV.fsl (Blk.ints .u64 xs45)]), AV.int .i64 n46], [] => bits_own_r n44 xs45 n46 (fun x0 x1 x2 => K (AV.agg (Blk.any [AV.int .i64 x0, AV.sl 0 0 x1 1])) ([HB.live (Blk.ints .u64 x2)]))
  | _, _ => none
noncomputable def T46 := addT 46 hs46 T0
theorem D5 : Dom V S14 T46 5 := Dom.t D4 fun args hh R K r h => by
  unfold hs46 at h; split at h
  · rw [bits_own_r_unf] at h; exact ⟨(fun _ => none), (fun _ _ _ _ => OrcOk.none _ _), Eq.trans (by kernel_rfl) h⟩
  · cases h

noncomputable def o48r1_5000_in {R : Type} (K : Ex → St → Option R) (vs : List AV) (hh : H) : Option R := match vs, hh with
  | [AV.int .u64 n61, AV.ptr 1 0, AV.int .i64 n62, AV.int .i64 n63], [HB.live (Blk.ints .u64 xs64), HB.live (Blk.any [AV.int .i64 n65, AV.sl 0 0 l66 1])] => bits_fill_j5 n61 n62 n63 xs64 n65 l66 (fun x0 => K (Ex.normal) (St.mk (spread 49 0 [] []) [HB.live (Blk.ints .u64 x0)]))
  | _, _ => none

noncomputable def o48r1_6000_in {R : Type} (K : Ex → St → Option R) (vs : List AV) (hh : H) : Option R := match vs, hh with
  | [AV.int .u64 n67, AV.ptr 1 0, AV.int .i64 n68, AV.int .i64 n69, AV.bool b70], [HB.live (Blk.ints .u64 xs71), HB.live (Blk.any [AV.int .i64 n72, AV.sl 0 0 l73 1])] => bits_fill_j6 n67 n68 n69 b70 xs71 n72 l73 (fun x0 => K (Ex.normal) (St.mk (spread 49 0 [] []) [HB.live (Blk.ints .u64 x0)]))
  | _, _ => none

noncomputable def o48r1 : Nat → Option PSpec := lkN [(5000, fun st _ K => pickM 49 [2, 3, 6, 7] st (o48r1_5000_in K)), (6000, fun st _ K => pickM 49 [2, 3, 6, 7, 36] st (o48r1_6000_in K))]
noncomputable def q48r1 : CallF := evFun (V 48) S14 T46 10

noncomputable def c48r1_5000 : Code := subC [1, 1, 1] (bodyOf Try.f48)

noncomputable def c48r1_6000 : Code := subC [1, 1, 1, 1] (bodyOf Try.f48)

theorem p48r1_5000 : PieceOk (V 48) q48r1 o48r1 48 1 (3997, 0, c48r1_5000) := .s (size := 49) (ss := [2, 3, 6, 7]) (F := @o48r1_5000_in) (by kernel_rfl) fun R r K vs hh h => by
  unfold o48r1_5000_in at h; split at h
  · rw [bits_fill_j5_unf] at h; exact Eq.trans (by kernel_rfl) h
  · cases h

theorem p48r1_6000 : PieceOk (V 48) q48r1 o48r1 48 1 (3996, 0, c48r1_6000) := .s (size := 49) (ss := [2, 3, 6, 7, 36]) (F := @o48r1_6000_in) (by kernel_rfl) fun R r K vs hh h => by
  unfold o48r1_6000_in at h; split at h
  · rw [bits_fill_j6_unf] at h; exact Eq.trans (by kernel_rfl) h
  · cases h

theorem pc48r1 : ∀ x ∈ [(3997, 0, c48r1_5000), (3996, 0, c48r1_6000)], PieceOk (V 48) q48r1 o48r1 48 1 x := List.forall_mem_cons.2 ⟨p48r1_5000, List.forall_mem_cons.2 ⟨p48r1_6000, fun _ h => nomatch h⟩⟩

theorem bits_fill_r_eq {R : Type} (K : AV → H → Option R) (n55 : Int) (l56 : Nat) (n57 : Int) (n58 : Int) (xs59 : List Int) : evH (V 48) S14 T46 o48r1 10 48 [AV.agg (Blk.any [AV.int .i64 n55, AV.sl 0 0 l56 1]), AV.int .i64 n57, AV.int .u64 n58] [HB.live (Blk.ints .u64 xs59)] R K = bits_fill_r_B n55 l56 n57 n58 xs59 (fun x0 => K (AV.tup []) ([HB.live (Blk.ints .u64 x0)])) := by kernel_rfl

noncomputable def hs48 : HSpec := fun args h _ K => match args, h with
  | [AV.agg (Blk.any [AV.int .i64 n55, AV.sl 0 0 l56 1]), AV.int .i64 n57, AV.int .u64 n58], [HB.live (Blk.ints .u64 xs59)] => bits_fill_r n55 l56 n57 n58 xs59 (fun x0 => K (AV.tup []) ([HB.live (Blk.ints .u64 x0)]))
  | _, _ => none
noncomputable def T48 := addT 48 hs48 T46
theorem D6 : Dom V S14 T48 6 := Dom.t D5 fun args hh R K r h => by
  unfold hs48 at h; split at h
  · rw [bits_fill_r_unf] at h; exact ⟨o48r1, (OrcOk.fn (fn0 := Try.f48) (by kernel_rfl) (by kernel_rfl) pc48r1), (bits_fill_r_eq K _ _ _ _ _).trans h⟩
  · cases h

noncomputable def o21_3000_in {R : Type} (K : Ex → St → Option R) (vs : List AV) (hh : H) : Option R := match vs, hh with
  | [AV.int .u64 n25, AV.int .i64 n26, AV.ptr 0 0, AV.ptr 1 0, AV.bool b27], [HB.live (Blk.any [AV.int .i64 n28, AV.fsl (Blk.ints .u64 xs29)]), HB.live (Blk.any [AV.int .i64 n30, AV.esl])] => bits_Append_j3 n25 n26 b27 n28 xs29 n30 (fun x0 x1 x2 => K (Ex.ret) (St.mk (spread 43 0 [6, 7] [AV.ptr 0 0, AV.int .i64 x0]) [HB.live (Blk.any [AV.int .i64 x1, AV.fsl (Blk.ints .u64 x2)])])) (fun x0 x1 x2 x3 x4 => K (Ex.normal) (St.mk (spread 43 0 [1, 2, 3, 6] [AV.int .u64 x0, AV.int .i64 x1, AV.ptr 0 0, AV.ptr 1 0]) [HB.live (Blk.any [AV.int .i64 x2, AV.fsl (Blk.ints .u64 x3)]), HB.live (Blk.any [AV.int .i64 x4, AV.esl])]))
  | _, _ => none

noncomputable def o21_4000_in {R : Type} (K : Ex → St → Option R) (vs : List AV) (hh : H) : Option R := match vs, hh with
  | [AV.int .u64 n39, AV.int .i64 n40, AV.ptr 0 0, AV.ptr 1 0], [HB.live (Blk.any [AV.int .i64 n41, AV.fsl (Blk.ints .u64 xs42)]), HB.live (Blk.any [AV.int .i64 n43, AV.esl])] => bits_Append_j4 n39 n40 n41 xs42 n43 (fun x0 x1 x2 x3 => K (Ex.ret) (St.mk (spread 43 0 [6, 7] [AV.ptr 0 0, AV.int .i64 x0]) [HB.live (Blk.any [AV.int .i64 x1, AV.sl 1 0 x2 1]), HB.live (Blk.ints .u64 x3)]))
  | _, _ => none

noncomputable def o21 : Nat → Option PSpec := lkN [(3000, fun st _ K => pickM 43 [1, 2, 3, 6, 26] st (o21_3000_in K)), (4000, fun st _ K => pickM 43 [1, 2, 3, 6] st (o21_4000_in K))]
noncomputable def q21 : CallF := evFun (V 21) S14 T48 10

noncomputable def c21_4000 : Code := subC [1, 1] (bodyOf Try.f21)

noncomputable def c21_3000 : Code := subC [1, 0, 1] (bodyOf Try.f21)

theorem p21_4000 : PieceOk (V 21) q21 o21 21 0 (3998, 0, c21_4000) := .s (size := 43) (ss := [1, 2, 3, 6]) (F := @o21_4000_in) (by kernel_rfl) fun R r K vs hh h => by
  unfold o21_4000_in at h; split at h
  · rw [bits_Append_j4_unf] at h; exact Eq.trans (by kernel_rfl) h
  · cases h

theorem p21_3000 : PieceOk (V 21) q21 o21 21 0 (3997, 0, c21_3000) := .s (size := 43) (ss := [1, 2, 3, 6, 26]) (F := @o21_3000_in) (by kernel_rfl) fun R r K vs hh h => by
  unfold o21_3000_in at h; split at h
  · rw [bits_Append_j3_unf] at h; exact Eq.trans (by kernel_rfl) h
  · cases h

theorem pc21 : ∀ x ∈ [(3998, 0, c21_4000), (3997, 0, c21_3000)], PieceOk (V 21) q21 o21 21 0 x := List.forall_mem_cons.2 ⟨p21_4000, List.forall_mem_cons.2 ⟨p21_3000, fun _ h => nomatch h⟩⟩

theorem bits_Append_eq {R : Type} (K : AV → Option R) (n10 : Int) (xs11 : List Int) (n12 : Int) (n13 : Int) : evSpec (V 21) S14 T48 o21 10 21 ([AV.agg (Blk.any [AV.int .i64 n10, AV.fsl (Blk.ints .u64 xs11)]), AV.int .u64 n12, AV.int .i64 n13]) R K = bits_Append_B n10 xs11 n12 n13 (fun x0 x1 x2 => K (AV.tup [AV.agg (Blk.any [AV.int .i64 x0, AV.fsl (Blk.ints .u64 x1)]), AV.int .i64 x2])) := by kernel_rfl

noncomputable def sp21 : Ev.Spec := fun args _ K => match args with
  | ([AV.agg (Blk.any [AV.int .i64 n10, AV.fsl (Blk.ints .u64 xs11)]), AV.int .u64 n12, AV.int .i64 n13]) => bits_Append n10 xs11 n12 n13 (fun x0 x1 x2 => K (AV.tup [AV.agg (Blk.any [AV.int .i64 x0, AV.fsl (Blk.ints .u64 x1)]), AV.int .i64 x2]))
  | _ => none
noncomputable def S21 := addS 21 sp21 S14
theorem D7 : Dom V S21 T48 7 := Dom.s (m := 6) (n := 0) D6 D6 (O := o21) (OrcOk.fn (fn0 := Try.f21) (by kernel_rfl) (by kernel_rfl) pc21) fun args R K r h => by
  unfold sp21 at h; split at h
  · rw [bits_Append_unf] at h; exact (bits_Append_eq K _ _ _ _).trans h
  · cases h

noncomputable def o16_6000_in {R : Type} (K : Ex → St → Option R) (vs : List AV) (hh : H) : Option R := match vs, hh with
  | [AV.int .i64 n131, AV.ptr 0 0], [HB.live (Blk.any [AV.int .i64 n132, AV.fsl (Blk.ints .u64 xs133)])] => bits_Get_j6 n131 n132 xs133 (fun x0 x1 => K (Ex.ret) (St.mk (spread 30 0 [4, 5] [AV.bool x0, AV.int .i64 x1]) []))
  | _, _ => none

noncomputable def o16 : Nat → Option PSpec := lkN [(6000, fun st _ K => pickM 30 [1, 2] st (o16_6000_in K))]
noncomputable def q16 : CallF := evFun (V 16) S21 T48 10

noncomputable def c16_6000 : Code := subC [1, 1] (bodyOf Try.f16)

theorem p16_6000 : PieceOk (V 16) q16 o16 16 0 (3998, 0, c16_6000) := .s (size := 30) (ss := [1, 2]) (F := @o16_6000_in) (by kernel_rfl) fun R r K vs hh h => by
  unfold o16_6000_in at h; split at h
  · rw [bits_Get_j6_unf] at h; exact Eq.trans (by kernel_rfl) h
  · cases h

theorem pc16 : ∀ x ∈ [(3998, 0, c16_6000)], PieceOk (V 16) q16 o16 16 0 x := List.forall_mem_cons.2 ⟨p16_6000, fun _ h => nomatch h⟩

noncomputable def sp16 : Ev.Spec := fun args _ K => match args with
  | ([AV.agg (Blk.any [AV.int .i64 n127, AV.fsl (Blk.ints .u64 xs128)]), AV.int .i64 n129]) => bits_Get n127 xs128 n129 (fun x0 x1 => K (AV.tup [AV.bool x0, AV.int .i64 x1]))
  | _ => none
noncomputable def S16 := addS 16 sp16 S21
theorem D8 : Dom V S16 T48 8 := Dom.s (m := 7) (n := 0) D7 D7 (O := o16) (OrcOk.fn (fn0 := Try.f16) (by kernel_rfl) (by kernel_rfl) pc16) fun args R K r h => by
  unfold sp16 at h; split at h
  · rw [bits_Get_unf] at h; exact Eq.trans (by kernel_rfl) h
  · cases h

theorem bits_Set_eq {R : Type} (K : AV → Option R) (n123 : Int) (xs124 : List Int) (n125 : Int) (b126 : Bool) : evSpec (V 19) S16 T48 (fun _ => none) 10 19 ([AV.agg (Blk.any [AV.int .i64 n123, AV.fsl (Blk.ints .u64 xs124)]), AV.int .i64 n125, AV.bool b126]) R K = bits_Set_B n123 xs124 n125 b126 (fun x0 x1 x2 => K (AV.tup [AV.agg (Blk.any [AV.int .i64 x0, AV.fsl (Blk.ints .u64 x1)]), AV.int .i64 x2])) := by kernel_rfl

noncomputable def sp19 : Ev.Spec := fun args _ K => match args with
  | ([AV.agg (Blk.any [AV.int .i64 n123, AV.fsl (Blk.ints .u64 xs124)]), AV.int .i64 n125, AV.bool b126]) => bits_Set n123 xs124 n125 b126 (fun x0 x1 x2 => K (AV.tup [AV.agg (Blk.any [AV.int .i64 x0, AV.fsl (Blk.ints .u64 x1)]), AV.int .i64 x2]))
  | _ => none
noncomputable def S19 := addS 19 sp19 S16
theorem D9 : Dom V S19 T48 9 := Dom.s (m := 8) (n := 0) D8 D8 (O := (fun _ => none)) (fun _ _ _ _ => OrcOk.none _ _) fun args R K r h => by
  unfold sp19 at h; split at h
  · rw [bits_Set_unf] at h; exact (bits_Set_eq K _ _ _ _).trans h
  · cases h

noncomputable def o18_3000_in {R : Type} (K : Ex → St → Option R) (vs : List AV) (hh : H) : Option R := match vs, hh with
  | [AV.int .i64 n151, AV.int .i64 n152, AV.ptr 0 0, AV.bool b153], [HB.live (Blk.any [AV.int .i64 n154, AV.fsl (Blk.ints .u64 xs155)])] => bits_Slice_j3 n151 n152 b153 n154 xs155 (fun x0 x1 => K (Ex.ret) (St.mk (spread 73 0 [6, 7] [AV.int .u64 x0, AV.int .i64 x1]) [])) (fun x0 x1 x2 x3 => K (Ex.normal) (St.mk (spread 73 0 [1, 2, 3] [AV.int .i64 x0, AV.int .i64 x1, AV.ptr 0 0]) [HB.live (Blk.any [AV.int .i64 x2, AV.fsl (Blk.ints .u64 x3)])]))
  | _, _ => none

noncomputable def o18_5000_in {R : Type} (K : Ex → St → Option R) (vs : List AV) (hh : H) : Option R := match vs, hh with
  | [AV.int .i64 n156, AV.int .i64 n157, AV.ptr 0 0, AV.bool b158], [HB.live (Blk.any [AV.int .i64 n159, AV.fsl (Blk.ints .u64 xs160)])] => bits_Slice_j5 n156 n157 b158 n159 xs160 (fun x0 x1 => K (Ex.ret) (St.mk (spread 73 0 [6, 7] [AV.int .u64 x0, AV.int .i64 x1]) [])) (fun x0 x1 x2 x3 => K (Ex.normal) (St.mk (spread 73 0 [1, 2, 3] [AV.int .i64 x0, AV.int .i64 x1, AV.ptr 0 0]) [HB.live (Blk.any [AV.int .i64 x2, AV.fsl (Blk.ints .u64 x3)])]))
  | _, _ => none

noncomputable def o18_8000_in {R : Type} (K : Ex → St → Option R) (vs : List AV) (hh : H) : Option R := match vs, hh with
  | [AV.int .i64 n185, AV.int .i64 n186, AV.ptr 0 0], [HB.live (Blk.any [AV.int .i64 n187, AV.fsl (Blk.ints .u64 xs188)])] => bits_Slice_j8 n185 n186 n187 xs188 (fun x0 x1 => K (Ex.ret) (St.mk (spread 73 0 [6, 7] [AV.int .u64 x0, AV.int .i64 x1]) []))
  | _, _ => none

noncomputable def o18_12000_in {R : Type} (K : Ex → St → Option R) (vs : List AV) (hh : H) : Option R := match vs, hh with
  | [AV.int .i64 n190, AV.int .u64 n191], [] => bits_Slice_j12 n190 n191 (fun x0 x1 => K (Ex.ret) (St.mk (spread 73 0 [6, 7] [AV.int .u64 x0, AV.int .i64 x1]) []))
  | _, _ => none

noncomputable def o18 : Nat → Option PSpec := lkN [(3000, fun st _ K => pickM 73 [1, 2, 3, 11] st (o18_3000_in K)), (5000, fun st _ K => pickM 73 [1, 2, 3, 23] st (o18_5000_in K)), (8000, fun st _ K => pickM 73 [1, 2, 3] st (o18_8000_in K)), (12000, fun st _ K => pickM 73 [2, 10] st (o18_12000_in K))]
noncomputable def q18 : CallF := evFun (V 18) S19 T48 10

noncomputable def c18_8000 : Code := subC [1, 1] (bodyOf Try.f18)

noncomputable def c18_3000 : Code := subC [1, 0, 0, 1] (bodyOf Try.f18)

noncomputable def c18_5000 : Code := subC [1, 0, 0, 1, 1, 1] (bodyOf Try.f18)

noncomputable def c18_12000 : Code := subC [1, 1, 1, 1, 1] (bodyOf Try.f18)

theorem bits_Slice_j8_eq {R : Type} (K : Ex → St → Option R) (n185 : Int) (n186 : Int) (n187 : Int) (xs188 : List Int) : evCode (V 18) q18 o18 18 0 3998 c18_8000 (St.mk (spread 73 0 [1, 2, 3] [AV.int .i64 n185, AV.int .i64 n186, AV.ptr 0 0]) [HB.live (Blk.any [AV.int .i64 n187, AV.fsl (Blk.ints .u64 xs188)])]) (kOut (V 18) 18 0 (Ev.keyOf c18_8000 * 1000 + 1) K) = bits_Slice_j8_B n185 n186 n187 xs188 (fun x0 x1 => K (Ex.ret) (St.mk (spread 73 0 [6, 7] [AV.int .u64 x0, AV.int .i64 x1]) [])) := by kernel_rfl

theorem p18_8000 : PieceOk (V 18) q18 o18 18 0 (3998, 0, c18_8000) := .s (size := 73) (ss := [1, 2, 3]) (F := @o18_8000_in) (by kernel_rfl) fun R r K vs hh h => by
  unfold o18_8000_in at h; split at h
  · rw [bits_Slice_j8_unf] at h; exact (bits_Slice_j8_eq K _ _ _ _).trans h
  · cases h

theorem p18_3000 : PieceOk (V 18) q18 o18 18 0 (3996, 0, c18_3000) := .s (size := 73) (ss := [1, 2, 3, 11]) (F := @o18_3000_in) (by kernel_rfl) fun R r K vs hh h => by
  unfold o18_3000_in at h; split at h
  · rw [bits_Slice_j3_unf] at h; exact Eq.trans (by kernel_rfl) h
  · cases h

theorem p18_5000 : PieceOk (V 18) q18 o18 18 0 (3994, 0, c18_5000) := .s (size := 73) (ss := [1, 2, 3, 23]) (F := @o18_5000_in) (by kernel_rfl) fun R r K vs hh h => by
  unfold o18_5000_in at h; split at h
  · rw [bits_Slice_j5_unf] at h; exact Eq.trans (by kernel_rfl) h
  · cases h

theorem p18_12000 : PieceOk (V 18) q18 o18 18 0 (3995, 0, c18_12000) := .s (size := 73) (ss := [2, 10]) (F := @o18_12000_in) (by kernel_rfl) fun R r K vs hh h => by
  unfold o18_12000_in at h; split at h
  · rw [bits_Slice_j12_unf] at h; exact Eq.trans (by kernel_rfl) h
  · cases h

theorem pc18 : ∀ x ∈ [(3998, 0, c18_8000), (3996, 0, c18_3000), (3994, 0, c18_5000), (3995, 0, c18_12000)], PieceOk (V 18) q18 o18 18 0 x := List.forall_mem_cons.2 ⟨p18_8000, List.forall_mem_cons.2 ⟨p18_3000, List.forall_mem_cons.2 ⟨p18_5000, List.forall_mem_cons.2 ⟨p18_12000, fun _ h => nomatch h⟩⟩⟩⟩

noncomputable def sp18 : Ev.Spec := fun args _ K => match args with
  | ([AV.agg (Blk.any [AV.int .i64 n146, AV.fsl (Blk.ints .u64 xs147)]), AV.int .i64 n148, AV.int .i64 n149]) => bits_Slice n146 xs147 n148 n149 (fun x0 x1 => K (AV.tup [AV.int .u64 x0, AV.int .i64 x1]))
  | _ => none
noncomputable def S18 := addS 18 sp18 S19
theorem D10 : Dom V S18 T48 10 := Dom.s (m := 9) (n := 0) D9 D9 (O := o18) (OrcOk.fn (fn0 := Try.f18) (by kernel_rfl) (by kernel_rfl) pc18) fun args R K r h => by
  unfold sp18 at h; split at h
  · rw [bits_Slice_unf] at h; exact Eq.trans (by kernel_rfl) h
  · cases h

noncomputable def o23_3000_in {R : Type} (K : Ex → St → Option R) (vs : List AV) (hh : H) : Option R := match vs, hh with
  | [AV.ptr 0 0, AV.ptr 1 0, AV.ptr 2 0, AV.bool b224], [HB.live (Blk.any [AV.int .i64 n225, AV.fsl (Blk.ints .u64 xs226)]), HB.live (Blk.any [AV.int .i64 n227, AV.fsl (Blk.ints .u64 xs228)]), HB.live (Blk.any [AV.int .i64 n229, AV.esl])] => bits_Join_j3 b224 n225 xs226 n227 xs228 n229 (fun x0 x1 x2 => K (Ex.ret) (St.mk (spread 51 0 [4, 5] [AV.ptr 0 0, AV.int .i64 x0]) [HB.live (Blk.any [AV.int .i64 x1, AV.fsl (Blk.ints .u64 x2)])])) (fun x0 x1 x2 x3 x4 => K (Ex.normal) (St.mk (spread 51 0 [2, 3, 4] [AV.ptr 0 0, AV.ptr 1 0, AV.ptr 2 0]) [HB.live (Blk.any [AV.int .i64 x0, AV.fsl (Blk.ints .u64 x1)]), HB.live (Blk.any [AV.int .i64 x2, AV.fsl (Blk.ints .u64 x3)]), HB.live (Blk.any [AV.int .i64 x4, AV.esl])]))
  | _, _ => none

noncomputable def o23_4000_in {R : Type} (K : Ex → St → Option R) (vs : List AV) (hh : H) : Option R := match vs, hh with
  | [AV.ptr 0 0, AV.ptr 1 0, AV.ptr 2 0], [HB.live (Blk.any [AV.int .i64 n238, AV.fsl (Blk.ints .u64 xs239)]), HB.live (Blk.any [AV.int .i64 n240, AV.fsl (Blk.ints .u64 xs241)]), HB.live (Blk.any [AV.int .i64 n242, AV.esl])] => bits_Join_j4 n238 xs239 n240 xs241 n242 (fun x0 x1 x2 x3 => K (Ex.ret) (St.mk (spread 51 0 [4, 5] [AV.ptr 0 0, AV.int .i64 x0]) [HB.live (Blk.any [AV.int .i64 x1, AV.sl 1 0 x2 1]), HB.live (Blk.ints .u64 x3)]))
  | _, _ => none

noncomputable def o23_6400_in {R : Type} (K : Ex → St → Option R) (vs : List AV) (hh : H) : Option R := match vs, hh with
  | [AV.ptr 0 0, AV.ptr 1 0, AV.ptr 2 0, AV.fsl (Blk.ints .u64 xs246), AV.int .i64 n247, AV.int .i64 n248], [HB.live (Blk.any [AV.int .i64 n249, AV.fsl (Blk.ints .u64 xs250)]), HB.live (Blk.any [AV.int .i64 n251, AV.esl]), HB.live (Blk.any [AV.int .i64 n252, AV.sl 3 0 l253 1]), HB.live (Blk.ints .u64 xs254)] => bits_Join_l6 xs246 n247 n248 n249 xs250 n251 n252 l253 xs254 (fun x0 x1 x2 x3 => K (Ex.exit 0) (St.mk (spread 51 0 [4, 6] [AV.ptr 0 0, AV.ptr 1 0]) [HB.live (Blk.any [AV.int .i64 x0, AV.esl]), HB.live (Blk.any [AV.int .i64 x1, AV.sl 2 0 x2 1]), HB.live (Blk.ints .u64 x3)]))
  | _, _ => none

noncomputable def o23 : Nat → Option PSpec := lkN [(3000, fun st _ K => pickM 51 [2, 3, 4, 24] st (o23_3000_in K)), (4000, fun st _ K => pickM 51 [2, 3, 4] st (o23_4000_in K)), (6400, fun st _ K => pickM 51 [2, 4, 6, 34, 35, 36] st (o23_6400_in K))]
noncomputable def q23 : CallF := evFun (V 23) S18 T48 10

noncomputable def c23_4000 : Code := subC [1, 1] (bodyOf Try.f23)

noncomputable def c23_3000 : Code := subC [1, 0, 1] (bodyOf Try.f23)

noncomputable def c23_6400 : Code := subC [1, 1, 1, 0, 1, 0, 0] (bodyOf Try.f23)

noncomputable def lp23_6400 {R : Type} (N : Nat) (st : St) (K : Ex → St → Option R) : Option R := evLoop (norm ((V 23).keep 23 (Ev.keyOf c23_6400 * 1000 + 400)) 0) (evCode (V 23) q23 o23 23 0 3993 c23_6400) N st (kOut (V 23) 23 0 (Ev.keyOf c23_6400 * 1000 + 401) K)

theorem bits_Join_l6_L_eq {R : Type} (K : Ex → St → Option R) : ∀ N : Nat, (fun (xs246 : List Int) (n247 : Int) (n248 : Int) (n249 : Int) (xs250 : List Int) (n251 : Int) (n252 : Int) (l253 : Nat) (xs254 : List Int) => lp23_6400 N (St.mk (spread 51 0 [2, 4, 6, 34, 35, 36] [AV.ptr 0 0, AV.ptr 1 0, AV.ptr 2 0, AV.fsl (Blk.ints .u64 xs246), AV.int .i64 n247, AV.int .i64 n248]) [HB.live (Blk.any [AV.int .i64 n249, AV.fsl (Blk.ints .u64 xs250)]), HB.live (Blk.any [AV.int .i64 n251, AV.esl]), HB.live (Blk.any [AV.int .i64 n252, AV.sl 3 0 l253 1]), HB.live (Blk.ints .u64 xs254)]) K) = bits_Join_l6_L (fun x0 x1 x2 x3 => K (Ex.exit 0) (St.mk (spread 51 0 [4, 6] [AV.ptr 0 0, AV.ptr 1 0]) [HB.live (Blk.any [AV.int .i64 x0, AV.esl]), HB.live (Blk.any [AV.int .i64 x1, AV.sl 2 0 x2 1]), HB.live (Blk.ints .u64 x3)])) N
  | 0 => by funext xs246 n247 n248 n249 xs250 n251 n252 l253 xs254; rfl
  | N + 1 => by
    funext xs246 n247 n248 n249 xs250 n251 n252 l253 xs254
    simp only [bits_Join_l6_L]
    rw [← bits_Join_l6_L_eq K N]
    kernel_rfl

theorem p23_4000 : PieceOk (V 23) q23 o23 23 0 (3998, 0, c23_4000) := .s (size := 51) (ss := [2, 3, 4]) (F := @o23_4000_in) (by kernel_rfl) fun R r K vs hh h => by
  unfold o23_4000_in at h; split at h
  · rw [bits_Join_j4_unf] at h; exact Eq.trans (by kernel_rfl) h
  · cases h

theorem p23_3000 : PieceOk (V 23) q23 o23 23 0 (3997, 0, c23_3000) := .s (size := 51) (ss := [2, 3, 4, 24]) (F := @o23_3000_in) (by kernel_rfl) fun R r K vs hh h => by
  unfold o23_3000_in at h; split at h
  · rw [bits_Join_j3_unf] at h; exact Eq.trans (by kernel_rfl) h
  · cases h

theorem p23_6400 : PieceOk (V 23) q23 o23 23 0 (3993, 1, c23_6400) := .l (size := 51) (ss := [2, 4, 6, 34, 35, 36]) (F := @o23_6400_in) (by kernel_rfl) (by kernel_rfl) fun R r K vs hh h => by
  unfold o23_6400_in at h; split at h
  · rw [bits_Join_l6_unf] at h; unfold bits_Join_l6_B at h; rw [← bits_Join_l6_L_eq K NR] at h; exact h
  · cases h

theorem pc23 : ∀ x ∈ [(3998, 0, c23_4000), (3997, 0, c23_3000), (3993, 1, c23_6400)], PieceOk (V 23) q23 o23 23 0 x := List.forall_mem_cons.2 ⟨p23_4000, List.forall_mem_cons.2 ⟨p23_3000, List.forall_mem_cons.2 ⟨p23_6400, fun _ h => nomatch h⟩⟩⟩

theorem bits_Join_eq {R : Type} (K : AV → Option R) (n219 : Int) (xs220 : List Int) (n221 : Int) (xs222 : List Int) : evSpec (V 23) S18 T48 o23 10 23 ([AV.agg (Blk.any [AV.int .i64 n219, AV.fsl (Blk.ints .u64 xs220)]), AV.agg (Blk.any [AV.int .i64 n221, AV.fsl (Blk.ints .u64 xs222)])]) R K = bits_Join_B n219 xs220 n221 xs222 (fun x0 x1 x2 => K (AV.tup [AV.agg (Blk.any [AV.int .i64 x0, AV.fsl (Blk.ints .u64 x1)]), AV.int .i64 x2])) := by kernel_rfl

noncomputable def sp23 : Ev.Spec := fun args _ K => match args with
  | ([AV.agg (Blk.any [AV.int .i64 n219, AV.fsl (Blk.ints .u64 xs220)]), AV.agg (Blk.any [AV.int .i64 n221, AV.fsl (Blk.ints .u64 xs222)])]) => bits_Join n219 xs220 n221 xs222 (fun x0 x1 x2 => K (AV.tup [AV.agg (Blk.any [AV.int .i64 x0, AV.fsl (Blk.ints .u64 x1)]), AV.int .i64 x2]))
  | _ => none
noncomputable def S23 := addS 23 sp23 S18
theorem D11 : Dom V S23 T48 11 := Dom.s (m := 10) (n := 0) D10 D10 (O := o23) (OrcOk.fn (fn0 := Try.f23) (by kernel_rfl) (by kernel_rfl) pc23) fun args R K r h => by
  unfold sp23 at h; split at h
  · rw [bits_Join_unf] at h; exact (bits_Join_eq K _ _ _ _).trans h
  · cases h

noncomputable def o42r0_3000_in {R : Type} (K : Ex → St → Option R) (vs : List AV) (hh : H) : Option R := match vs, hh with
  | [AV.int .i64 n293, AV.ptr 0 0, AV.bool b294], [HB.live (Blk.any [AV.int .i64 n295, AV.esl])] => bits_New_j3 n293 b294 n295 (fun x0 x1 => K (Ex.ret) (St.mk (spread 16 0 [2, 3] [AV.ptr 0 0, AV.int .i64 x0]) [HB.live (Blk.any [AV.int .i64 x1, AV.esl])])) (fun x0 x1 => K (Ex.normal) (St.mk (spread 16 0 [0, 2] [AV.int .i64 x0, AV.ptr 0 0]) [HB.live (Blk.any [AV.int .i64 x1, AV.esl])]))
  | _, _ => none

noncomputable def o42r0_4000_in {R : Type} (K : Ex → St → Option R) (vs : List AV) (hh : H) : Option R := match vs, hh with
  | [AV.int .i64 n300, AV.ptr 0 0], [HB.live (Blk.any [AV.int .i64 n301, AV.esl])] => bits_New_j4 n300 n301 (fun x0 x1 x2 x3 => K (Ex.ret) (St.mk (spread 16 0 [2, 3] [AV.ptr 0 0, AV.int .i64 x0]) [HB.live (Blk.any [AV.int .i64 x1, AV.sl 1 0 x2 1]), HB.live (Blk.ints .u64 x3)]))
  | _, _ => none

noncomputable def o42r0 : Nat → Option PSpec := lkN [(3000, fun st _ K => pickM 16 [0, 2, 9] st (o42r0_3000_in K)), (4000, fun st _ K => pickM 16 [0, 2] st (o42r0_4000_in K))]
noncomputable def q42r0 : CallF := evFun (V 42) S23 T48 10

noncomputable def c42r0_4000 : Code := subC [1, 1] (bodyOf Try.f42)

noncomputable def c42r0_3000 : Code := subC [1, 0, 1] (bodyOf Try.f42)

theorem p42r0_4000 : PieceOk (V 42) q42r0 o42r0 42 0 (3998, 0, c42r0_4000) := .s (size := 16) (ss := [0, 2]) (F := @o42r0_4000_in) (by kernel_rfl) fun R r K vs hh h => by
  unfold o42r0_4000_in at h; split at h
  · rw [bits_New_j4_unf] at h; exact Eq.trans (by kernel_rfl) h
  · cases h

theorem p42r0_3000 : PieceOk (V 42) q42r0 o42r0 42 0 (3997, 0, c42r0_3000) := .s (size := 16) (ss := [0, 2, 9]) (F := @o42r0_3000_in) (by kernel_rfl) fun R r K vs hh h => by
  unfold o42r0_3000_in at h; split at h
  · rw [bits_New_j3_unf] at h; exact Eq.trans (by kernel_rfl) h
  · cases h

theorem pc42r0 : ∀ x ∈ [(3998, 0, c42r0_4000), (3997, 0, c42r0_3000)], PieceOk (V 42) q42r0 o42r0 42 0 x := List.forall_mem_cons.2 ⟨p42r0_4000, List.forall_mem_cons.2 ⟨p42r0_3000, fun _ h => nomatch h⟩⟩

noncomputable def hs42 : HSpec := fun args h _ K => match args, h with
  | [AV.int .i64 n332], [] => bits_New_r n332 (fun x0 x1 => K (AV.tup [AV.agg (Blk.any [AV.int .i64 x0, AV.esl]), AV.int .i64 x1]) ([])) (fun x0 x1 x2 x3 => K (AV.tup [AV.agg (Blk.any [AV.int .i64 x0, AV.sl 0 0 x1 1]), AV.int .i64 x2]) ([HB.live (Blk.ints .u64 x3)]))
  | _, _ => none
noncomputable def T42 := addT 42 hs42 T48
theorem D12 : Dom V S23 T42 12 := Dom.t D11 fun args hh R K r h => by
  unfold hs42 at h; split at h
  · rw [bits_New_r_unf] at h; exact ⟨o42r0, (OrcOk.fn (fn0 := Try.f42) (by kernel_rfl) (by kernel_rfl) pc42r0), Eq.trans (by kernel_rfl) h⟩
  · cases h

noncomputable def sp42 : Ev.Spec := fun args _ K => match args with
  | ([AV.int .i64 n292]) => bits_New n292 (fun x0 x1 x2 => K (AV.tup [AV.agg (Blk.any [AV.int .i64 x0, AV.fsl (Blk.ints .u64 x1)]), AV.int .i64 x2]))
  | _ => none
noncomputable def S42 := addS 42 sp42 S23
theorem D13 : Dom V S42 T42 13 := Dom.s (m := 11) (n := 1) D12 D11 (O := o42r0) (OrcOk.fn (fn0 := Try.f42) (by kernel_rfl) (by kernel_rfl) pc42r0) fun args R K r h => by
  unfold sp42 at h; split at h
  · rw [bits_New_unf] at h; exact Eq.trans (by kernel_rfl) h
  · cases h

noncomputable def o43r1_6400_in {R : Type} (K : Ex → St → Option R) (vs : List AV) (hh : H) : Option R := match vs, hh with
  | [AV.ptr 1 0, AV.ptr 2 0, AV.sl 0 0 l351 1, AV.int .i64 n352, AV.int .i64 n353], [HB.live (Blk.bools bs354), HB.live (Blk.any [AV.int .i64 n355, AV.esl]), HB.live (Blk.any [AV.int .i64 n356, AV.esl])] => bits_From_l6 l351 n352 n353 bs354 n355 n356 (fun x0 x1 x2 => K (Ex.exit 0) (St.mk (spread 39 0 [2, 4] [AV.ptr 1 0, AV.ptr 2 0]) [HB.live (Blk.bools x0), HB.live (Blk.any [AV.int .i64 x1, AV.esl]), HB.live (Blk.any [AV.int .i64 x2, AV.esl])]))
  | [AV.ptr 1 0, AV.ptr 2 0, AV.sl 0 0 l364 1, AV.int .i64 n365, AV.int .i64 n366], [HB.live (Blk.bools bs367), HB.live (Blk.any [AV.int .i64 n368, AV.esl]), HB.live (Blk.any [AV.int .i64 n369, AV.sl 3 0 l370 1]), HB.live (Blk.ints .u64 xs371)] => bits_From_l6_1 l364 n365 n366 bs367 n368 n369 l370 xs371 (fun x0 x1 x2 x3 x4 => K (Ex.exit 0) (St.mk (spread 39 0 [2, 4] [AV.ptr 1 0, AV.ptr 2 0]) [HB.live (Blk.bools x0), HB.live (Blk.any [AV.int .i64 x1, AV.esl]), HB.live (Blk.any [AV.int .i64 x2, AV.sl 3 0 x3 1]), HB.live (Blk.ints .u64 x4)]))
  | _, _ => none

noncomputable def o43r1 : Nat → Option PSpec := lkN [(6400, fun st _ K => pickM 39 [2, 4, 18, 19, 20] st (o43r1_6400_in K))]
noncomputable def q43r1 : CallF := evFun (V 43) S42 T42 10

noncomputable def c43r1_6400 : Code := subC [1, 1, 1, 0, 1, 0, 0] (bodyOf Try.f43)

noncomputable def lp43r1_6400 {R : Type} (N : Nat) (st : St) (K : Ex → St → Option R) : Option R := evLoop (norm ((V 43).keep 43 (Ev.keyOf c43r1_6400 * 1000 + 400)) 1) (evCode (V 43) q43r1 o43r1 43 1 3993 c43r1_6400) N st (kOut (V 43) 43 1 (Ev.keyOf c43r1_6400 * 1000 + 401) K)

theorem bits_From_l6_L_eq {R : Type} (K : Ex → St → Option R) : ∀ N : Nat, (fun (l351 : Nat) (n352 : Int) (n353 : Int) (bs354 : List Bool) (n355 : Int) (n356 : Int) => lp43r1_6400 N (St.mk (spread 39 0 [2, 4, 18, 19, 20] [AV.ptr 1 0, AV.ptr 2 0, AV.sl 0 0 l351 1, AV.int .i64 n352, AV.int .i64 n353]) [HB.live (Blk.bools bs354), HB.live (Blk.any [AV.int .i64 n355, AV.esl]), HB.live (Blk.any [AV.int .i64 n356, AV.esl])]) K) = bits_From_l6_L (fun x0 x1 x2 => K (Ex.exit 0) (St.mk (spread 39 0 [2, 4] [AV.ptr 1 0, AV.ptr 2 0]) [HB.live (Blk.bools x0), HB.live (Blk.any [AV.int .i64 x1, AV.esl]), HB.live (Blk.any [AV.int .i64 x2, AV.esl])])) N
  | 0 => by funext l351 n352 n353 bs354 n355 n356; rfl
  | N + 1 => by
    funext l351 n352 n353 bs354 n355 n356
    simp only [bits_From_l6_L]
    rw [← bits_From_l6_L_eq K N]
    kernel_rfl

theorem bits_From_l6_1_L_eq {R : Type} (K : Ex → St → Option R) : ∀ N : Nat, (fun (l364 : Nat) (n365 : Int) (n366 : Int) (bs367 : List Bool) (n368 : Int) (n369 : Int) (l370 : Nat) (xs371 : List Int) => lp43r1_6400 N (St.mk (spread 39 0 [2, 4, 18, 19, 20] [AV.ptr 1 0, AV.ptr 2 0, AV.sl 0 0 l364 1, AV.int .i64 n365, AV.int .i64 n366]) [HB.live (Blk.bools bs367), HB.live (Blk.any [AV.int .i64 n368, AV.esl]), HB.live (Blk.any [AV.int .i64 n369, AV.sl 3 0 l370 1]), HB.live (Blk.ints .u64 xs371)]) K) = bits_From_l6_1_L (fun x0 x1 x2 x3 x4 => K (Ex.exit 0) (St.mk (spread 39 0 [2, 4] [AV.ptr 1 0, AV.ptr 2 0]) [HB.live (Blk.bools x0), HB.live (Blk.any [AV.int .i64 x1, AV.esl]), HB.live (Blk.any [AV.int .i64 x2, AV.sl 3 0 x3 1]), HB.live (Blk.ints .u64 x4)])) N
  | 0 => by funext l364 n365 n366 bs367 n368 n369 l370 xs371; rfl
  | N + 1 => by
    funext l364 n365 n366 bs367 n368 n369 l370 xs371
    simp only [bits_From_l6_1_L]
    rw [← bits_From_l6_1_L_eq K N]
    kernel_rfl

theorem p43r1_6400 : PieceOk (V 43) q43r1 o43r1 43 1 (3993, 1, c43r1_6400) := .l (size := 39) (ss := [2, 4, 18, 19, 20]) (F := @o43r1_6400_in) (by kernel_rfl) (by kernel_rfl) fun R r K vs hh h => by
  unfold o43r1_6400_in at h; split at h
  · rw [bits_From_l6_unf] at h; unfold bits_From_l6_B at h; rw [← bits_From_l6_L_eq K NR] at h; exact h
  · rw [bits_From_l6_1_unf] at h; unfold bits_From_l6_1_B at h; rw [← bits_From_l6_1_L_eq K NR] at h; exact h
  · cases h

theorem pc43r1 : ∀ x ∈ [(3993, 1, c43r1_6400)], PieceOk (V 43) q43r1 o43r1 43 1 x := List.forall_mem_cons.2 ⟨p43r1_6400, fun _ h => nomatch h⟩

noncomputable def hs43 : HSpec := fun args h _ K => match args, h with
  | [AV.sl 0 0 l330 1], [HB.live (Blk.bools bs331)] => bits_From_r l330 bs331 (fun x0 x1 x2 => K (AV.tup [AV.agg (Blk.any [AV.int .i64 x0, AV.esl]), AV.int .i64 x1]) ([HB.live (Blk.bools x2)])) (fun x0 x1 x2 x3 x4 => K (AV.tup [AV.agg (Blk.any [AV.int .i64 x0, AV.sl 1 0 x1 1]), AV.int .i64 x2]) ([HB.live (Blk.bools x3), HB.live (Blk.ints .u64 x4)]))
  | _, _ => none
noncomputable def T43 := addT 43 hs43 T42
theorem D14 : Dom V S42 T43 14 := Dom.t D13 fun args hh R K r h => by
  unfold hs43 at h; split at h
  · rw [bits_From_r_unf] at h; exact ⟨o43r1, (OrcOk.fn (fn0 := Try.f43) (by kernel_rfl) (by kernel_rfl) pc43r1), Eq.trans (by kernel_rfl) h⟩
  · cases h

noncomputable def o25_4000_in {R : Type} (K : Ex → St → Option R) (vs : List AV) (hh : H) : Option R := match vs, hh with
  | [AV.ptr 0 0, AV.ptr 1 0], [HB.live (Blk.any [AV.int .i64 n387, AV.fsl (Blk.ints .u64 xs388)]), HB.live (Blk.any [AV.int .i64 n389, AV.fsl (Blk.ints .u64 xs390)])] => haystackref02_Same_j4 n387 xs388 n389 xs390 (fun x0 => K (Ex.ret) (St.mk (spread 38 0 [4] [AV.bool x0]) []))
  | _, _ => none

noncomputable def o25_5400_in {R : Type} (K : Ex → St → Option R) (vs : List AV) (hh : H) : Option R := match vs, hh with
  | [AV.ptr 0 0, AV.ptr 1 0, AV.int .i64 n391], [HB.live (Blk.any [AV.int .i64 n392, AV.fsl (Blk.ints .u64 xs393)]), HB.live (Blk.any [AV.int .i64 n394, AV.fsl (Blk.ints .u64 xs395)])] => haystackref02_Same_l5 n391 n392 xs393 n394 xs395 (fun x0 => K (Ex.ret) (St.mk (spread 38 0 [4] [AV.bool x0]) [])) (fun _ => K (Ex.exit 0) (St.mk (spread 38 0 [] []) []))
  | _, _ => none

noncomputable def o25 : Nat → Option PSpec := lkN [(4000, fun st _ K => pickM 38 [2, 3] st (o25_4000_in K)), (5400, fun st _ K => pickM 38 [2, 3, 5] st (o25_5400_in K))]
noncomputable def q25 : CallF := evFun (V 25) S42 T43 10

noncomputable def c25_4000 : Code := subC [1, 1] (bodyOf Try.f25)

noncomputable def c25_5400 : Code := subC [1, 1, 0, 1, 0, 0] (bodyOf Try.f25)

noncomputable def lp25_5400 {R : Type} (N : Nat) (st : St) (K : Ex → St → Option R) : Option R := evLoop (norm ((V 25).keep 25 (Ev.keyOf c25_5400 * 1000 + 400)) 0) (evCode (V 25) q25 o25 25 0 3994 c25_5400) N st (kOut (V 25) 25 0 (Ev.keyOf c25_5400 * 1000 + 401) K)

theorem haystackref02_Same_l5_L_eq {R : Type} (K : Ex → St → Option R) : ∀ N : Nat, (fun (n391 : Int) (n392 : Int) (xs393 : List Int) (n394 : Int) (xs395 : List Int) => lp25_5400 N (St.mk (spread 38 0 [2, 3, 5] [AV.ptr 0 0, AV.ptr 1 0, AV.int .i64 n391]) [HB.live (Blk.any [AV.int .i64 n392, AV.fsl (Blk.ints .u64 xs393)]), HB.live (Blk.any [AV.int .i64 n394, AV.fsl (Blk.ints .u64 xs395)])]) K) = haystackref02_Same_l5_L (fun x0 => K (Ex.ret) (St.mk (spread 38 0 [4] [AV.bool x0]) [])) (fun _ => K (Ex.exit 0) (St.mk (spread 38 0 [] []) [])) N
  | 0 => by funext n391 n392 xs393 n394 xs395; rfl
  | N + 1 => by
    funext n391 n392 xs393 n394 xs395
    simp only [haystackref02_Same_l5_L]
    rw [← haystackref02_Same_l5_L_eq K N]
    kernel_rfl

theorem p25_4000 : PieceOk (V 25) q25 o25 25 0 (3998, 0, c25_4000) := .s (size := 38) (ss := [2, 3]) (F := @o25_4000_in) (by kernel_rfl) fun R r K vs hh h => by
  unfold o25_4000_in at h; split at h
  · rw [haystackref02_Same_j4_unf] at h; exact Eq.trans (by kernel_rfl) h
  · cases h

theorem p25_5400 : PieceOk (V 25) q25 o25 25 0 (3994, 1, c25_5400) := .l (size := 38) (ss := [2, 3, 5]) (F := @o25_5400_in) (by kernel_rfl) (by kernel_rfl) fun R r K vs hh h => by
  unfold o25_5400_in at h; split at h
  · rw [haystackref02_Same_l5_unf] at h; unfold haystackref02_Same_l5_B at h; rw [← haystackref02_Same_l5_L_eq K NR] at h; exact h
  · cases h

theorem pc25 : ∀ x ∈ [(3998, 0, c25_4000), (3994, 1, c25_5400)], PieceOk (V 25) q25 o25 25 0 x := List.forall_mem_cons.2 ⟨p25_4000, List.forall_mem_cons.2 ⟨p25_5400, fun _ h => nomatch h⟩⟩

noncomputable def sp25 : Ev.Spec := fun args _ K => match args with
  | ([AV.agg (Blk.any [AV.int .i64 n383, AV.fsl (Blk.ints .u64 xs384)]), AV.agg (Blk.any [AV.int .i64 n385, AV.fsl (Blk.ints .u64 xs386)])]) => haystackref02_Same n383 xs384 n385 xs386 (fun x0 => K (AV.bool x0))
  | _ => none
noncomputable def S25 := addS 25 sp25 S42
theorem D15 : Dom V S25 T43 15 := Dom.s (m := 14) (n := 0) D14 D14 (O := o25) (OrcOk.fn (fn0 := Try.f25) (by kernel_rfl) (by kernel_rfl) pc25) fun args R K r h => by
  unfold sp25 at h; split at h
  · rw [haystackref02_Same_unf] at h; exact Eq.trans (by kernel_rfl) h
  · cases h

theorem math_bits_OnesCount64_eq {R : Type} (K : AV → Option R) (n414 : Int) : evSpec (V 63) S25 T43 (fun _ => none) 10 63 ([AV.int .u64 n414]) R K = math_bits_OnesCount64_B n414 (fun x0 => K (AV.int .i64 x0)) := by kernel_rfl

noncomputable def sp63 : Ev.Spec := fun args _ K => match args with
  | ([AV.int .u64 n414]) => math_bits_OnesCount64 n414 (fun x0 => K (AV.int .i64 x0))
  | _ => none
noncomputable def S63 := addS 63 sp63 S25
theorem D16 : Dom V S63 T43 16 := Dom.s (m := 15) (n := 0) D15 D15 (O := (fun _ => none)) (fun _ _ _ _ => OrcOk.none _ _) fun args R K r h => by
  unfold sp63 at h; split at h
  · rw [math_bits_OnesCount64_unf] at h; exact (math_bits_OnesCount64_eq K _).trans h
  · cases h

noncomputable def sp44 : Ev.Spec := fun args _ K => match args with
  | ([AV.int .u64 n413]) => word_Pop n413 (fun x0 => K (AV.int .i64 x0))
  | _ => none
noncomputable def S44 := addS 44 sp44 S63
theorem D17 : Dom V S44 T43 17 := Dom.s (m := 16) (n := 0) D16 D16 (O := (fun _ => none)) (fun _ _ _ _ => OrcOk.none _ _) fun args R K r h => by
  unfold sp44 at h; split at h
  · rw [word_Pop_unf] at h; exact Eq.trans (by kernel_rfl) h
  · cases h

noncomputable def sp45 : Ev.Spec := fun args _ K => match args with
  | ([AV.int .u64 n424, AV.int .i64 n425]) => word_Rank n424 n425 (fun x0 => K (AV.int .i64 x0))
  | _ => none
noncomputable def S45 := addS 45 sp45 S44
theorem D18 : Dom V S45 T43 18 := Dom.s (m := 17) (n := 0) D17 D17 (O := (fun _ => none)) (fun _ _ _ _ => OrcOk.none _ _) fun args R K r h => by
  unfold sp45 at h; split at h
  · rw [word_Rank_unf] at h; exact Eq.trans (by kernel_rfl) h
  · cases h

noncomputable def o17_7400_in {R : Type} (K : Ex → St → Option R) (vs : List AV) (hh : H) : Option R := match vs, hh with
  | [AV.int .i64 n406, AV.ptr 0 0, AV.int .i64 n407, AV.fsl (Blk.ints .u64 xs408), AV.int .i64 n409, AV.int .i64 n410], [HB.live (Blk.any [AV.int .i64 n411, AV.fsl (Blk.ints .u64 xs412)])] => bits_Ones_l7 n406 n407 xs408 n409 n410 n411 xs412 (fun x0 x1 x2 x3 => K (Ex.exit 0) (St.mk (spread 46 0 [1, 2, 5] [AV.int .i64 x0, AV.ptr 0 0, AV.int .i64 x1]) [HB.live (Blk.any [AV.int .i64 x2, AV.fsl (Blk.ints .u64 x3)])]))
  | _, _ => none

noncomputable def o17 : Nat → Option PSpec := lkN [(7400, fun st _ K => pickM 46 [1, 2, 5, 20, 21, 22] st (o17_7400_in K))]
noncomputable def q17 : CallF := evFun (V 17) S45 T43 10

noncomputable def c17_7400 : Code := subC [1, 1, 1, 1, 0, 1, 0, 0] (bodyOf Try.f17)

noncomputable def lp17_7400 {R : Type} (N : Nat) (st : St) (K : Ex → St → Option R) : Option R := evLoop (norm ((V 17).keep 17 (Ev.keyOf c17_7400 * 1000 + 400)) 0) (evCode (V 17) q17 o17 17 0 3992 c17_7400) N st (kOut (V 17) 17 0 (Ev.keyOf c17_7400 * 1000 + 401) K)

theorem bits_Ones_l7_L_eq {R : Type} (K : Ex → St → Option R) : ∀ N : Nat, (fun (n406 : Int) (n407 : Int) (xs408 : List Int) (n409 : Int) (n410 : Int) (n411 : Int) (xs412 : List Int) => lp17_7400 N (St.mk (spread 46 0 [1, 2, 5, 20, 21, 22] [AV.int .i64 n406, AV.ptr 0 0, AV.int .i64 n407, AV.fsl (Blk.ints .u64 xs408), AV.int .i64 n409, AV.int .i64 n410]) [HB.live (Blk.any [AV.int .i64 n411, AV.fsl (Blk.ints .u64 xs412)])]) K) = bits_Ones_l7_L (fun x0 x1 x2 x3 => K (Ex.exit 0) (St.mk (spread 46 0 [1, 2, 5] [AV.int .i64 x0, AV.ptr 0 0, AV.int .i64 x1]) [HB.live (Blk.any [AV.int .i64 x2, AV.fsl (Blk.ints .u64 x3)])])) N
  | 0 => by funext n406 n407 xs408 n409 n410 n411 xs412; rfl
  | N + 1 => by
    funext n406 n407 xs408 n409 n410 n411 xs412
    simp only [bits_Ones_l7_L]
    rw [← bits_Ones_l7_L_eq K N]
    kernel_rfl

theorem p17_7400 : PieceOk (V 17) q17 o17 17 0 (3992, 1, c17_7400) := .l (size := 46) (ss := [1, 2, 5, 20, 21, 22]) (F := @o17_7400_in) (by kernel_rfl) (by kernel_rfl) fun R r K vs hh h => by
  unfold o17_7400_in at h; split at h
  · rw [bits_Ones_l7_unf] at h; unfold bits_Ones_l7_B at h; rw [← bits_Ones_l7_L_eq K NR] at h; exact h
  · cases h

theorem pc17 : ∀ x ∈ [(3992, 1, c17_7400)], PieceOk (V 17) q17 o17 17 0 x := List.forall_mem_cons.2 ⟨p17_7400, fun _ h => nomatch h⟩

noncomputable def sp17 : Ev.Spec := fun args _ K => match args with
  | ([AV.agg (Blk.any [AV.int .i64 n401, AV.fsl (Blk.ints .u64 xs402)]), AV.int .i64 n403]) => bits_Ones n401 xs402 n403 (fun x0 => K (AV.int .i64 x0))
  | _ => none
noncomputable def S17 := addS 17 sp17 S45
theorem D19 : Dom V S17 T43 19 := Dom.s (m := 18) (n := 0) D18 D18 (O := o17) (OrcOk.fn (fn0 := Try.f17) (by kernel_rfl) (by kernel_rfl) pc17) fun args R K r h => by
  unfold sp17 at h; split at h
  · rw [bits_Ones_unf] at h; exact Eq.trans (by kernel_rfl) h
  · cases h

noncomputable def o15_8000_in {R : Type} (K : Ex → St → Option R) (vs : List AV) (hh : H) : Option R := match vs, hh with
  | [AV.ptr 0 0, AV.int .i64 n319, AV.int .i64 n320, AV.int .u64 n321, AV.int .i64 n322, AV.int .i64 n323, AV.ptr 1 0, AV.int .i64 n324, AV.int .i64 n325], [HB.live (Blk.any [AV.int .i64 n326, AV.fsl (Blk.ints .u64 xs327)]), HB.live (Blk.any [AV.int .i64 n328, AV.fsl (Blk.ints .u64 xs329)])] => haystacklaw02_heads_j8 n319 n320 n321 n322 n323 n324 n325 n326 xs327 n328 xs329 (fun x0 => K (Ex.ret) (St.mk (spread 136 0 [0] [AV.bool x0]) []))
  | _, _ => none

noncomputable def o15 : Nat → Option PSpec := lkN [(8000, fun st _ K => pickM 136 [1, 2, 4, 5, 6, 8, 9, 10, 12] st (o15_8000_in K))]
noncomputable def q15 : CallF := evFun (V 15) S17 T43 10

noncomputable def c15_8000 : Code := subC [1, 1, 1, 1, 1, 1, 1] (bodyOf Try.f15)

theorem haystacklaw02_heads_j8_eq {R : Type} (K : Ex → St → Option R) (n319 : Int) (n320 : Int) (n321 : Int) (n322 : Int) (n323 : Int) (n324 : Int) (n325 : Int) (n326 : Int) (xs327 : List Int) (n328 : Int) (xs329 : List Int) : evCode (V 15) q15 o15 15 0 3993 c15_8000 (St.mk (spread 136 0 [1, 2, 4, 5, 6, 8, 9, 10, 12] [AV.ptr 0 0, AV.int .i64 n319, AV.int .i64 n320, AV.int .u64 n321, AV.int .i64 n322, AV.int .i64 n323, AV.ptr 1 0, AV.int .i64 n324, AV.int .i64 n325]) [HB.live (Blk.any [AV.int .i64 n326, AV.fsl (Blk.ints .u64 xs327)]), HB.live (Blk.any [AV.int .i64 n328, AV.fsl (Blk.ints .u64 xs329)])]) (kOut (V 15) 15 0 (Ev.keyOf c15_8000 * 1000 + 1) K) = haystacklaw02_heads_j8_B n319 n320 n321 n322 n323 n324 n325 n326 xs327 n328 xs329 (fun x0 => K (Ex.ret) (St.mk (spread 136 0 [0] [AV.bool x0]) [])) := by kernel_rfl

theorem p15_8000 : PieceOk (V 15) q15 o15 15 0 (3993, 0, c15_8000) := .s (size := 136) (ss := [1, 2, 4, 5, 6, 8, 9, 10, 12]) (F := @o15_8000_in) (by kernel_rfl) fun R r K vs hh h => by
  unfold o15_8000_in at h; split at h
  · rw [haystacklaw02_heads_j8_unf] at h; exact (haystacklaw02_heads_j8_eq K _ _ _ _ _ _ _ _ _ _ _).trans h
  · cases h

theorem pc15 : ∀ x ∈ [(3993, 0, c15_8000)], PieceOk (V 15) q15 o15 15 0 x := List.forall_mem_cons.2 ⟨p15_8000, fun _ h => nomatch h⟩

noncomputable def sp15 : Ev.Spec := fun args _ K => match args with
  | ([]) => haystacklaw02_heads (fun x0 => K (AV.bool x0))
  | _ => none
noncomputable def S15 := addS 15 sp15 S17
theorem D20 : Dom V S15 T43 20 := Dom.s (m := 19) (n := 0) D19 D19 (O := o15) (OrcOk.fn (fn0 := Try.f15) (by kernel_rfl) (by kernel_rfl) pc15) fun args R K r h => by
  unfold sp15 at h; split at h
  · rw [haystacklaw02_heads_unf] at h; exact Eq.trans (by kernel_rfl) h
  · cases h

noncomputable def sp49 : Ev.Spec := fun args _ K => match args with
  | ([AV.int .i64 n470]) => haystackref02_Words n470 (fun x0 => K (AV.int .i64 x0))
  | _ => none
noncomputable def S49 := addS 49 sp49 S15
theorem D21 : Dom V S49 T43 21 := Dom.s (m := 20) (n := 0) D20 D20 (O := (fun _ => none)) (fun _ _ _ _ => OrcOk.none _ _) fun args R K r h => by
  unfold sp49 at h; split at h
  · rw [haystackref02_Words_unf] at h; exact Eq.trans (by kernel_rfl) h
  · cases h

noncomputable def o52_4400_in {R : Type} (K : Ex → St → Option R) (vs : List AV) (hh : H) : Option R := match vs, hh with
  | [AV.int .i64 n475, AV.int .u64 n476, AV.int .i64 n477], [] => haystackref01_Mask_l4 n475 n476 n477 (fun x0 => K (Ex.exit 0) (St.mk (spread 20 0 [3] [AV.int .u64 x0]) []))
  | _, _ => none

noncomputable def o52_6000_in {R : Type} (K : Ex → St → Option R) (vs : List AV) (hh : H) : Option R := match vs, hh with
  | [AV.int .i64 n478, AV.int .u64 n479, AV.int .i64 n480], [] => haystackref01_Mask_j6 n478 n479 n480 (fun x0 x1 x2 => K (Ex.normal) (St.mk (spread 20 0 [0, 3, 4] [AV.int .i64 x0, AV.int .u64 x1, AV.int .i64 x2]) []))
  | _, _ => none

noncomputable def o52 : Nat → Option PSpec := lkN [(4400, fun st _ K => pickM 20 [0, 3, 4] st (o52_4400_in K)), (6000, fun st _ K => pickM 20 [0, 3, 4] st (o52_6000_in K))]
noncomputable def q52 : CallF := evFun (V 52) S49 T43 10

noncomputable def c52_4400 : Code := subC [1, 1, 0, 1, 0, 0] (bodyOf Try.f52)

noncomputable def lp52_4400 {R : Type} (N : Nat) (st : St) (K : Ex → St → Option R) : Option R := evLoop (norm ((V 52).keep 52 (Ev.keyOf c52_4400 * 1000 + 400)) 0) (evCode (V 52) q52 o52 52 0 3994 c52_4400) N st (kOut (V 52) 52 0 (Ev.keyOf c52_4400 * 1000 + 401) K)

noncomputable def c52_6000 : Code := subC [1, 1, 0, 1, 0, 0, 1] (bodyOf Try.f52)

theorem haystackref01_Mask_l4_L_eq {R : Type} (K : Ex → St → Option R) : ∀ N : Nat, (fun (n475 : Int) (n476 : Int) (n477 : Int) => lp52_4400 N (St.mk (spread 20 0 [0, 3, 4] [AV.int .i64 n475, AV.int .u64 n476, AV.int .i64 n477]) []) K) = haystackref01_Mask_l4_L (fun x0 => K (Ex.exit 0) (St.mk (spread 20 0 [3] [AV.int .u64 x0]) [])) N
  | 0 => by funext n475 n476 n477; rfl
  | N + 1 => by
    funext n475 n476 n477
    simp only [haystackref01_Mask_l4_L]
    rw [← haystackref01_Mask_l4_L_eq K N]
    kernel_rfl

theorem p52_4400 : PieceOk (V 52) q52 o52 52 0 (3994, 1, c52_4400) := .l (size := 20) (ss := [0, 3, 4]) (F := @o52_4400_in) (by kernel_rfl) (by kernel_rfl) fun R r K vs hh h => by
  unfold o52_4400_in at h; split at h
  · rw [haystackref01_Mask_l4_unf] at h; unfold haystackref01_Mask_l4_B at h; rw [← haystackref01_Mask_l4_L_eq K NR] at h; exact h
  · cases h

theorem p52_6000 : PieceOk (V 52) q52 o52 52 0 (3993, 0, c52_6000) := .s (size := 20) (ss := [0, 3, 4]) (F := @o52_6000_in) (by kernel_rfl) fun R r K vs hh h => by
  unfold o52_6000_in at h; split at h
  · rw [haystackref01_Mask_j6_unf] at h; exact Eq.trans (by kernel_rfl) h
  · cases h

theorem pc52 : ∀ x ∈ [(3994, 1, c52_4400), (3993, 0, c52_6000)], PieceOk (V 52) q52 o52 52 0 x := List.forall_mem_cons.2 ⟨p52_4400, List.forall_mem_cons.2 ⟨p52_6000, fun _ h => nomatch h⟩⟩

noncomputable def sp52 : Ev.Spec := fun args _ K => match args with
  | ([AV.int .i64 n474]) => haystackref01_Mask n474 (fun x0 => K (AV.int .u64 x0))
  | _ => none
noncomputable def S52 := addS 52 sp52 S49
theorem D22 : Dom V S52 T43 22 := Dom.s (m := 21) (n := 0) D21 D21 (O := o52) (OrcOk.fn (fn0 := Try.f52) (by kernel_rfl) (by kernel_rfl) pc52) fun args R K r h => by
  unfold sp52 at h; split at h
  · rw [haystackref01_Mask_unf] at h; exact Eq.trans (by kernel_rfl) h
  · cases h

noncomputable def o27_4000_in {R : Type} (K : Ex → St → Option R) (vs : List AV) (hh : H) : Option R := match vs, hh with
  | [AV.ptr 0 0], [HB.live (Blk.any [AV.int .i64 n472, AV.fsl (Blk.ints .u64 xs473)])] => haystackref02_Check_j4 n472 xs473 (fun x0 => K (Ex.ret) (St.mk (spread 40 0 [2] [AV.bool x0]) []))
  | _, _ => none

noncomputable def o27 : Nat → Option PSpec := lkN [(4000, fun st _ K => pickM 40 [1] st (o27_4000_in K))]
noncomputable def q27 : CallF := evFun (V 27) S52 T43 10

noncomputable def c27_4000 : Code := subC [1, 1] (bodyOf Try.f27)

theorem p27_4000 : PieceOk (V 27) q27 o27 27 0 (3998, 0, c27_4000) := .s (size := 40) (ss := [1]) (F := @o27_4000_in) (by kernel_rfl) fun R r K vs hh h => by
  unfold o27_4000_in at h; split at h
  · rw [haystackref02_Check_j4_unf] at h; exact Eq.trans (by kernel_rfl) h
  · cases h

theorem pc27 : ∀ x ∈ [(3998, 0, c27_4000)], PieceOk (V 27) q27 o27 27 0 x := List.forall_mem_cons.2 ⟨p27_4000, fun _ h => nomatch h⟩

noncomputable def sp27 : Ev.Spec := fun args _ K => match args with
  | ([AV.agg (Blk.any [AV.int .i64 n468, AV.fsl (Blk.ints .u64 xs469)])]) => haystackref02_Check n468 xs469 (fun x0 => K (AV.bool x0))
  | _ => none
noncomputable def S27 := addS 27 sp27 S52
theorem D23 : Dom V S27 T43 23 := Dom.s (m := 22) (n := 0) D22 D22 (O := o27) (OrcOk.fn (fn0 := Try.f27) (by kernel_rfl) (by kernel_rfl) pc27) fun args R K r h => by
  unfold sp27 at h; split at h
  · rw [haystackref02_Check_unf] at h; exact Eq.trans (by kernel_rfl) h
  · cases h

theorem haystackref02_put_r_eq {R : Type} (K : AV → H → Option R) (l508 : Nat) (n509 : Int) (b510 : Bool) (xs511 : List Int) : evH (V 47) S27 T43 (fun _ => none) 10 47 [AV.sl 0 0 l508 1, AV.int .i64 n509, AV.bool b510] [HB.live (Blk.ints .u64 xs511)] R K = haystackref02_put_r_B l508 n509 b510 xs511 (fun x0 => K (AV.tup []) ([HB.live (Blk.ints .u64 x0)])) := by kernel_rfl

noncomputable def hs47 : HSpec := fun args h _ K => match args, h with
  | [AV.sl 0 0 l508 1, AV.int .i64 n509, AV.bool b510], [HB.live (Blk.ints .u64 xs511)] => haystackref02_put_r l508 n509 b510 xs511 (fun x0 => K (AV.tup []) ([HB.live (Blk.ints .u64 x0)]))
  | _, _ => none
noncomputable def T47 := addT 47 hs47 T43
theorem D24 : Dom V S27 T47 24 := Dom.t D23 fun args hh R K r h => by
  unfold hs47 at h; split at h
  · rw [haystackref02_put_r_unf] at h; exact ⟨(fun _ => none), (fun _ _ _ _ => OrcOk.none _ _), (haystackref02_put_r_eq K _ _ _ _).trans h⟩
  · cases h

noncomputable def o20_5000_in {R : Type} (K : Ex → St → Option R) (vs : List AV) (hh : H) : Option R := match vs, hh with
  | [AV.int .i64 n489, AV.bool b490, AV.ptr 0 0, AV.ptr 1 0, AV.bool b491], [HB.live (Blk.any [AV.int .i64 n492, AV.fsl (Blk.ints .u64 xs493)]), HB.live (Blk.any [AV.int .i64 n494, AV.esl])] => haystackref02_Set_j5 n489 b490 b491 n492 xs493 n494 (fun x0 x1 x2 => K (Ex.ret) (St.mk (spread 35 0 [6, 7] [AV.ptr 0 0, AV.int .i64 x0]) [HB.live (Blk.any [AV.int .i64 x1, AV.fsl (Blk.ints .u64 x2)])])) (fun x0 x1 x2 x3 x4 => K (Ex.normal) (St.mk (spread 35 0 [1, 2, 3, 6] [AV.int .i64 x0, AV.bool x1, AV.ptr 0 0, AV.ptr 1 0]) [HB.live (Blk.any [AV.int .i64 x2, AV.fsl (Blk.ints .u64 x3)]), HB.live (Blk.any [AV.int .i64 x4, AV.esl])]))
  | _, _ => none

noncomputable def o20_6000_in {R : Type} (K : Ex → St → Option R) (vs : List AV) (hh : H) : Option R := match vs, hh with
  | [AV.int .i64 n503, AV.bool b504, AV.ptr 0 0, AV.ptr 1 0], [HB.live (Blk.any [AV.int .i64 n505, AV.fsl (Blk.ints .u64 xs506)]), HB.live (Blk.any [AV.int .i64 n507, AV.esl])] => haystackref02_Set_j6 n503 b504 n505 xs506 n507 (fun x0 x1 x2 x3 => K (Ex.ret) (St.mk (spread 35 0 [6, 7] [AV.ptr 0 0, AV.int .i64 x0]) [HB.live (Blk.any [AV.int .i64 x1, AV.sl 1 0 x2 1]), HB.live (Blk.ints .u64 x3)]))
  | _, _ => none

noncomputable def o20 : Nat → Option PSpec := lkN [(5000, fun st _ K => pickM 35 [1, 2, 3, 6, 20] st (o20_5000_in K)), (6000, fun st _ K => pickM 35 [1, 2, 3, 6] st (o20_6000_in K))]
noncomputable def q20 : CallF := evFun (V 20) S27 T47 10

noncomputable def c20_6000 : Code := subC [1, 1, 1] (bodyOf Try.f20)

noncomputable def c20_5000 : Code := subC [1, 1, 0, 1] (bodyOf Try.f20)

theorem p20_6000 : PieceOk (V 20) q20 o20 20 0 (3997, 0, c20_6000) := .s (size := 35) (ss := [1, 2, 3, 6]) (F := @o20_6000_in) (by kernel_rfl) fun R r K vs hh h => by
  unfold o20_6000_in at h; split at h
  · rw [haystackref02_Set_j6_unf] at h; exact Eq.trans (by kernel_rfl) h
  · cases h

theorem p20_5000 : PieceOk (V 20) q20 o20 20 0 (3996, 0, c20_5000) := .s (size := 35) (ss := [1, 2, 3, 6, 20]) (F := @o20_5000_in) (by kernel_rfl) fun R r K vs hh h => by
  unfold o20_5000_in at h; split at h
  · rw [haystackref02_Set_j5_unf] at h; exact Eq.trans (by kernel_rfl) h
  · cases h

theorem pc20 : ∀ x ∈ [(3997, 0, c20_6000), (3996, 0, c20_5000)], PieceOk (V 20) q20 o20 20 0 x := List.forall_mem_cons.2 ⟨p20_6000, List.forall_mem_cons.2 ⟨p20_5000, fun _ h => nomatch h⟩⟩

noncomputable def sp20 : Ev.Spec := fun args _ K => match args with
  | ([AV.agg (Blk.any [AV.int .i64 n464, AV.fsl (Blk.ints .u64 xs465)]), AV.int .i64 n466, AV.bool b467]) => haystackref02_Set n464 xs465 n466 b467 (fun x0 x1 x2 => K (AV.tup [AV.agg (Blk.any [AV.int .i64 x0, AV.fsl (Blk.ints .u64 x1)]), AV.int .i64 x2]))
  | _ => none
noncomputable def S20 := addS 20 sp20 S27
theorem D25 : Dom V S20 T47 25 := Dom.s (m := 24) (n := 0) D24 D24 (O := o20) (OrcOk.fn (fn0 := Try.f20) (by kernel_rfl) (by kernel_rfl) pc20) fun args R K r h => by
  unfold sp20 at h; split at h
  · rw [haystackref02_Set_unf] at h; exact Eq.trans (by kernel_rfl) h
  · cases h

noncomputable def o22_3000_in {R : Type} (K : Ex → St → Option R) (vs : List AV) (hh : H) : Option R := match vs, hh with
  | [AV.int .u64 n542, AV.int .i64 n543, AV.ptr 0 0, AV.ptr 1 0, AV.bool b544], [HB.live (Blk.any [AV.int .i64 n545, AV.fsl (Blk.ints .u64 xs546)]), HB.live (Blk.any [AV.int .i64 n547, AV.esl])] => haystackref02_Append_j3 n542 n543 b544 n545 xs546 n547 (fun x0 x1 x2 => K (Ex.ret) (St.mk (spread 69 0 [6, 7] [AV.ptr 0 0, AV.int .i64 x0]) [HB.live (Blk.any [AV.int .i64 x1, AV.fsl (Blk.ints .u64 x2)])])) (fun x0 x1 x2 x3 x4 => K (Ex.normal) (St.mk (spread 69 0 [1, 2, 3, 6] [AV.int .u64 x0, AV.int .i64 x1, AV.ptr 0 0, AV.ptr 1 0]) [HB.live (Blk.any [AV.int .i64 x2, AV.fsl (Blk.ints .u64 x3)]), HB.live (Blk.any [AV.int .i64 x4, AV.esl])]))
  | _, _ => none

noncomputable def o22_4000_in {R : Type} (K : Ex → St → Option R) (vs : List AV) (hh : H) : Option R := match vs, hh with
  | [AV.int .u64 n556, AV.int .i64 n557, AV.ptr 0 0, AV.ptr 1 0], [HB.live (Blk.any [AV.int .i64 n558, AV.fsl (Blk.ints .u64 xs559)]), HB.live (Blk.any [AV.int .i64 n560, AV.esl])] => haystackref02_Append_j4 n556 n557 n558 xs559 n560 (fun x0 x1 x2 x3 => K (Ex.ret) (St.mk (spread 69 0 [6, 7] [AV.ptr 0 0, AV.int .i64 x0]) [HB.live (Blk.any [AV.int .i64 x1, AV.sl 1 0 x2 1]), HB.live (Blk.ints .u64 x3)]))
  | _, _ => none

noncomputable def o22_5400_in {R : Type} (K : Ex → St → Option R) (vs : List AV) (hh : H) : Option R := match vs, hh with
  | [AV.int .u64 n561, AV.int .i64 n562, AV.ptr 0 0, AV.ptr 1 0, AV.ptr 2 0], [HB.live (Blk.any [AV.int .i64 n563, AV.fsl (Blk.ints .u64 xs564)]), HB.live (Blk.any [AV.int .i64 n565, AV.esl]), HB.live (Blk.any [AV.int .i64 n566, AV.sl 3 0 l567 1]), HB.live (Blk.ints .u64 xs568)] => haystackref02_Append_l5 n561 n562 n563 xs564 n565 n566 l567 xs568 (fun x0 x1 x2 x3 x4 x5 x6 x7 => K (Ex.exit 0) (St.mk (spread 69 0 [1, 2, 3, 6, 8] [AV.int .u64 x0, AV.int .i64 x1, AV.ptr 0 0, AV.ptr 1 0, AV.ptr 2 0]) [HB.live (Blk.any [AV.int .i64 x2, AV.fsl (Blk.ints .u64 x3)]), HB.live (Blk.any [AV.int .i64 x4, AV.esl]), HB.live (Blk.any [AV.int .i64 x5, AV.sl 3 0 x6 1]), HB.live (Blk.ints .u64 x7)]))
  | _, _ => none

noncomputable def o22_8400_in {R : Type} (K : Ex → St → Option R) (vs : List AV) (hh : H) : Option R := match vs, hh with
  | [AV.int .u64 n579, AV.int .i64 n580, AV.ptr 0 0, AV.ptr 1 0, AV.ptr 2 0, AV.int .i64 n581], [HB.live (Blk.any [AV.int .i64 n582, AV.fsl (Blk.ints .u64 xs583)]), HB.live (Blk.any [AV.int .i64 n584, AV.esl]), HB.live (Blk.any [AV.int .i64 n585, AV.sl 3 0 l586 1]), HB.live (Blk.ints .u64 xs587)] => haystackref02_Append_l8 n579 n580 n581 n582 xs583 n584 n585 l586 xs587 (fun x0 x1 x2 x3 => K (Ex.exit 2) (St.mk (spread 69 0 [6, 8] [AV.ptr 0 0, AV.ptr 1 0]) [HB.live (Blk.any [AV.int .i64 x0, AV.esl]), HB.live (Blk.any [AV.int .i64 x1, AV.sl 2 0 x2 1]), HB.live (Blk.ints .u64 x3)]))
  | _, _ => none

noncomputable def o22 : Nat → Option PSpec := lkN [(3000, fun st _ K => pickM 69 [1, 2, 3, 6, 27] st (o22_3000_in K)), (4000, fun st _ K => pickM 69 [1, 2, 3, 6] st (o22_4000_in K)), (5400, fun st _ K => pickM 69 [1, 2, 3, 6, 8] st (o22_5400_in K)), (8400, fun st _ K => pickM 69 [1, 2, 3, 6, 8, 9] st (o22_8400_in K))]
noncomputable def q22 : CallF := evFun (V 22) S20 T47 10

noncomputable def c22_4000 : Code := subC [1, 1] (bodyOf Try.f22)

noncomputable def c22_3000 : Code := subC [1, 0, 1] (bodyOf Try.f22)

noncomputable def c22_5400 : Code := subC [1, 1, 1, 0, 0, 0] (bodyOf Try.f22)

noncomputable def lp22_5400 {R : Type} (N : Nat) (st : St) (K : Ex → St → Option R) : Option R := evLoop (norm ((V 22).keep 22 (Ev.keyOf c22_5400 * 1000 + 400)) 0) (evCode (V 22) q22 o22 22 0 3994 c22_5400) N st (kOut (V 22) 22 0 (Ev.keyOf c22_5400 * 1000 + 401) K)

noncomputable def c22_8400 : Code := subC [1, 1, 1, 1, 0, 1, 0, 0] (bodyOf Try.f22)

noncomputable def lp22_8400 {R : Type} (N : Nat) (st : St) (K : Ex → St → Option R) : Option R := evLoop (norm ((V 22).keep 22 (Ev.keyOf c22_8400 * 1000 + 400)) 0) (evCode (V 22) q22 o22 22 0 3992 c22_8400) N st (kOut (V 22) 22 0 (Ev.keyOf c22_8400 * 1000 + 401) K)

theorem haystackref02_Append_l5_L_eq {R : Type} (K : Ex → St → Option R) : ∀ N : Nat, (fun (n561 : Int) (n562 : Int) (n563 : Int) (xs564 : List Int) (n565 : Int) (n566 : Int) (l567 : Nat) (xs568 : List Int) => lp22_5400 N (St.mk (spread 69 0 [1, 2, 3, 6, 8] [AV.int .u64 n561, AV.int .i64 n562, AV.ptr 0 0, AV.ptr 1 0, AV.ptr 2 0]) [HB.live (Blk.any [AV.int .i64 n563, AV.fsl (Blk.ints .u64 xs564)]), HB.live (Blk.any [AV.int .i64 n565, AV.esl]), HB.live (Blk.any [AV.int .i64 n566, AV.sl 3 0 l567 1]), HB.live (Blk.ints .u64 xs568)]) K) = haystackref02_Append_l5_L (fun x0 x1 x2 x3 x4 x5 x6 x7 => K (Ex.exit 0) (St.mk (spread 69 0 [1, 2, 3, 6, 8] [AV.int .u64 x0, AV.int .i64 x1, AV.ptr 0 0, AV.ptr 1 0, AV.ptr 2 0]) [HB.live (Blk.any [AV.int .i64 x2, AV.fsl (Blk.ints .u64 x3)]), HB.live (Blk.any [AV.int .i64 x4, AV.esl]), HB.live (Blk.any [AV.int .i64 x5, AV.sl 3 0 x6 1]), HB.live (Blk.ints .u64 x7)])) N
  | 0 => by funext n561 n562 n563 xs564 n565 n566 l567 xs568; rfl
  | N + 1 => by
    funext n561 n562 n563 xs564 n565 n566 l567 xs568
    simp only [haystackref02_Append_l5_L]
    rw [← haystackref02_Append_l5_L_eq K N]
    kernel_rfl

theorem haystackref02_Append_l8_L_eq {R : Type} (K : Ex → St → Option R) : ∀ N : Nat, (fun (n579 : Int) (n580 : Int) (n581 : Int) (n582 : Int) (xs583 : List Int) (n584 : Int) (n585 : Int) (l586 : Nat) (xs587 : List Int) => lp22_8400 N (St.mk (spread 69 0 [1, 2, 3, 6, 8, 9] [AV.int .u64 n579, AV.int .i64 n580, AV.ptr 0 0, AV.ptr 1 0, AV.ptr 2 0, AV.int .i64 n581]) [HB.live (Blk.any [AV.int .i64 n582, AV.fsl (Blk.ints .u64 xs583)]), HB.live (Blk.any [AV.int .i64 n584, AV.esl]), HB.live (Blk.any [AV.int .i64 n585, AV.sl 3 0 l586 1]), HB.live (Blk.ints .u64 xs587)]) K) = haystackref02_Append_l8_L (fun x0 x1 x2 x3 => K (Ex.exit 2) (St.mk (spread 69 0 [6, 8] [AV.ptr 0 0, AV.ptr 1 0]) [HB.live (Blk.any [AV.int .i64 x0, AV.esl]), HB.live (Blk.any [AV.int .i64 x1, AV.sl 2 0 x2 1]), HB.live (Blk.ints .u64 x3)])) N
  | 0 => by funext n579 n580 n581 n582 xs583 n584 n585 l586 xs587; rfl
  | N + 1 => by
    funext n579 n580 n581 n582 xs583 n584 n585 l586 xs587
    simp only [haystackref02_Append_l8_L]
    rw [← haystackref02_Append_l8_L_eq K N]
    kernel_rfl

theorem p22_4000 : PieceOk (V 22) q22 o22 22 0 (3998, 0, c22_4000) := .s (size := 69) (ss := [1, 2, 3, 6]) (F := @o22_4000_in) (by kernel_rfl) fun R r K vs hh h => by
  unfold o22_4000_in at h; split at h
  · rw [haystackref02_Append_j4_unf] at h; exact Eq.trans (by kernel_rfl) h
  · cases h

theorem p22_3000 : PieceOk (V 22) q22 o22 22 0 (3997, 0, c22_3000) := .s (size := 69) (ss := [1, 2, 3, 6, 27]) (F := @o22_3000_in) (by kernel_rfl) fun R r K vs hh h => by
  unfold o22_3000_in at h; split at h
  · rw [haystackref02_Append_j3_unf] at h; exact Eq.trans (by kernel_rfl) h
  · cases h

theorem p22_5400 : PieceOk (V 22) q22 o22 22 0 (3994, 1, c22_5400) := .l (size := 69) (ss := [1, 2, 3, 6, 8]) (F := @o22_5400_in) (by kernel_rfl) (by kernel_rfl) fun R r K vs hh h => by
  unfold o22_5400_in at h; split at h
  · rw [haystackref02_Append_l5_unf] at h; unfold haystackref02_Append_l5_B at h; rw [← haystackref02_Append_l5_L_eq K NR] at h; exact h
  · cases h

theorem p22_8400 : PieceOk (V 22) q22 o22 22 0 (3992, 1, c22_8400) := .l (size := 69) (ss := [1, 2, 3, 6, 8, 9]) (F := @o22_8400_in) (by kernel_rfl) (by kernel_rfl) fun R r K vs hh h => by
  unfold o22_8400_in at h; split at h
  · rw [haystackref02_Append_l8_unf] at h; unfold haystackref02_Append_l8_B at h; rw [← haystackref02_Append_l8_L_eq K NR] at h; exact h
  · cases h

theorem pc22 : ∀ x ∈ [(3998, 0, c22_4000), (3997, 0, c22_3000), (3994, 1, c22_5400), (3992, 1, c22_8400)], PieceOk (V 22) q22 o22 22 0 x := List.forall_mem_cons.2 ⟨p22_4000, List.forall_mem_cons.2 ⟨p22_3000, List.forall_mem_cons.2 ⟨p22_5400, List.forall_mem_cons.2 ⟨p22_8400, fun _ h => nomatch h⟩⟩⟩⟩

theorem haystackref02_Append_eq {R : Type} (K : AV → Option R) (n537 : Int) (xs538 : List Int) (n539 : Int) (n540 : Int) : evSpec (V 22) S20 T47 o22 10 22 ([AV.agg (Blk.any [AV.int .i64 n537, AV.fsl (Blk.ints .u64 xs538)]), AV.int .u64 n539, AV.int .i64 n540]) R K = haystackref02_Append_B n537 xs538 n539 n540 (fun x0 x1 x2 => K (AV.tup [AV.agg (Blk.any [AV.int .i64 x0, AV.fsl (Blk.ints .u64 x1)]), AV.int .i64 x2])) := by kernel_rfl

noncomputable def sp22 : Ev.Spec := fun args _ K => match args with
  | ([AV.agg (Blk.any [AV.int .i64 n537, AV.fsl (Blk.ints .u64 xs538)]), AV.int .u64 n539, AV.int .i64 n540]) => haystackref02_Append n537 xs538 n539 n540 (fun x0 x1 x2 => K (AV.tup [AV.agg (Blk.any [AV.int .i64 x0, AV.fsl (Blk.ints .u64 x1)]), AV.int .i64 x2]))
  | _ => none
noncomputable def S22 := addS 22 sp22 S20
theorem D26 : Dom V S22 T47 26 := Dom.s (m := 25) (n := 0) D25 D25 (O := o22) (OrcOk.fn (fn0 := Try.f22) (by kernel_rfl) (by kernel_rfl) pc22) fun args R K r h => by
  unfold sp22 at h; split at h
  · rw [haystackref02_Append_unf] at h; exact (haystackref02_Append_eq K _ _ _ _).trans h
  · cases h

noncomputable def sp58 : Ev.Spec := fun args _ K => match args with
  | ([AV.agg (Blk.any [AV.int .i64 n668, AV.fsl (Blk.ints .u64 xs669)]), AV.int .i64 n670]) => haystackref02_At n668 xs669 n670 (fun x0 => K (AV.bool x0))
  | _ => none
noncomputable def S58 := addS 58 sp58 S22
theorem D27 : Dom V S58 T47 27 := Dom.s (m := 26) (n := 0) D26 D26 (O := (fun _ => none)) (fun _ _ _ _ => OrcOk.none _ _) fun args R K r h => by
  unfold sp58 at h; split at h
  · rw [haystackref02_At_unf] at h; exact Eq.trans (by kernel_rfl) h
  · cases h

noncomputable def o51r0_4400_in {R : Type} (K : Ex → St → Option R) (vs : List AV) (hh : H) : Option R := match vs, hh with
  | [AV.ptr 0 0, AV.esl, AV.int .i64 n665], [HB.live (Blk.any [AV.int .i64 n666, AV.fsl (Blk.ints .u64 xs667)])] => haystackref02_Bools_l4 n665 n666 xs667 (fun x0 x1 => K (Ex.exit 0) (St.mk (spread 18 0 [3] [AV.sl 0 0 x0 1]) [HB.live (Blk.bools x1)])) (fun _ => K (Ex.exit 0) (St.mk (spread 18 0 [3] [AV.esl]) []))
  | [AV.ptr 0 0, AV.sl 1 0 l674 1, AV.int .i64 n675], [HB.live (Blk.any [AV.int .i64 n676, AV.fsl (Blk.ints .u64 xs677)]), HB.live (Blk.bools bs678)] => haystackref02_Bools_l4_1 l674 n675 n676 xs677 bs678 (fun x0 x1 => K (Ex.exit 0) (St.mk (spread 18 0 [3] [AV.sl 0 0 x0 1]) [HB.live (Blk.bools x1)]))
  | _, _ => none

noncomputable def o51r0 : Nat → Option PSpec := lkN [(4400, fun st _ K => pickM 18 [1, 3, 4] st (o51r0_4400_in K))]
noncomputable def q51r0 : CallF := evFun (V 51) S58 T47 10

noncomputable def c51r0_4400 : Code := subC [1, 1, 0, 1, 0, 0] (bodyOf Try.f51)

noncomputable def lp51r0_4400 {R : Type} (N : Nat) (st : St) (K : Ex → St → Option R) : Option R := evLoop (norm ((V 51).keep 51 (Ev.keyOf c51r0_4400 * 1000 + 400)) 0) (evCode (V 51) q51r0 o51r0 51 0 3994 c51r0_4400) N st (kOut (V 51) 51 0 (Ev.keyOf c51r0_4400 * 1000 + 401) K)

theorem haystackref02_Bools_l4_1_L_eq {R : Type} (K : Ex → St → Option R) : ∀ N : Nat, (fun (l674 : Nat) (n675 : Int) (n676 : Int) (xs677 : List Int) (bs678 : List Bool) => lp51r0_4400 N (St.mk (spread 18 0 [1, 3, 4] [AV.ptr 0 0, AV.sl 1 0 l674 1, AV.int .i64 n675]) [HB.live (Blk.any [AV.int .i64 n676, AV.fsl (Blk.ints .u64 xs677)]), HB.live (Blk.bools bs678)]) K) = haystackref02_Bools_l4_1_L (fun x0 x1 => K (Ex.exit 0) (St.mk (spread 18 0 [3] [AV.sl 0 0 x0 1]) [HB.live (Blk.bools x1)])) N
  | 0 => by funext l674 n675 n676 xs677 bs678; rfl
  | N + 1 => by
    funext l674 n675 n676 xs677 bs678
    simp only [haystackref02_Bools_l4_1_L]
    rw [← haystackref02_Bools_l4_1_L_eq K N]
    kernel_rfl

theorem haystackref02_Bools_l4_L_eq {R : Type} (K : Ex → St → Option R) : ∀ N : Nat, (fun (n665 : Int) (n666 : Int) (xs667 : List Int) => lp51r0_4400 N (St.mk (spread 18 0 [1, 3, 4] [AV.ptr 0 0, AV.esl, AV.int .i64 n665]) [HB.live (Blk.any [AV.int .i64 n666, AV.fsl (Blk.ints .u64 xs667)])]) K) = haystackref02_Bools_l4_L (fun x0 x1 => K (Ex.exit 0) (St.mk (spread 18 0 [3] [AV.sl 0 0 x0 1]) [HB.live (Blk.bools x1)])) (fun _ => K (Ex.exit 0) (St.mk (spread 18 0 [3] [AV.esl]) [])) N
  | 0 => by funext n665 n666 xs667; rfl
  | N + 1 => by
    funext n665 n666 xs667
    simp only [haystackref02_Bools_l4_L]
    rw [← haystackref02_Bools_l4_L_eq K N, ← haystackref02_Bools_l4_1_L_eq K N]
    kernel_rfl

theorem p51r0_4400 : PieceOk (V 51) q51r0 o51r0 51 0 (3994, 1, c51r0_4400) := .l (size := 18) (ss := [1, 3, 4]) (F := @o51r0_4400_in) (by kernel_rfl) (by kernel_rfl) fun R r K vs hh h => by
  unfold o51r0_4400_in at h; split at h
  · rw [haystackref02_Bools_l4_unf] at h; unfold haystackref02_Bools_l4_B at h; rw [← haystackref02_Bools_l4_L_eq K NR] at h; exact h
  · rw [haystackref02_Bools_l4_1_unf] at h; unfold haystackref02_Bools_l4_1_B at h; rw [← haystackref02_Bools_l4_1_L_eq K NR] at h; exact h
  · cases h

theorem pc51r0 : ∀ x ∈ [(3994, 1, c51r0_4400)], PieceOk (V 51) q51r0 o51r0 51 0 x := List.forall_mem_cons.2 ⟨p51r0_4400, fun _ h => nomatch h⟩

noncomputable def hs51 : HSpec := fun args h _ K => match args, h with
  | [AV.agg (Blk.any [AV.int .i64 n663, AV.fsl (Blk.ints .u64 xs664)])], [] => haystackref02_Bools_r n663 xs664 (fun x0 x1 => K (AV.sl 0 0 x0 1) ([HB.live (Blk.bools x1)])) (fun _ => K (AV.esl) ([]))
  | _, _ => none
noncomputable def T51 := addT 51 hs51 T47
theorem D28 : Dom V S58 T51 28 := Dom.t D27 fun args hh R K r h => by
  unfold hs51 at h; split at h
  · rw [haystackref02_Bools_r_unf] at h; exact ⟨o51r0, (OrcOk.fn (fn0 := Try.f51) (by kernel_rfl) (by kernel_rfl) pc51r0), Eq.trans (by kernel_rfl) h⟩
  · cases h

noncomputable def o64r0_3000_in {R : Type} (K : Ex → St → Option R) (vs : List AV) (hh : H) : Option R := match vs, hh with
  | [AV.int .i64 n694, AV.ptr 0 0, AV.bool b695], [HB.live (Blk.any [AV.int .i64 n696, AV.esl])] => haystackref02_New_j3 n694 b695 n696 (fun x0 x1 => K (Ex.ret) (St.mk (spread 16 0 [2, 3] [AV.ptr 0 0, AV.int .i64 x0]) [HB.live (Blk.any [AV.int .i64 x1, AV.esl])])) (fun x0 x1 => K (Ex.normal) (St.mk (spread 16 0 [0, 2] [AV.int .i64 x0, AV.ptr 0 0]) [HB.live (Blk.any [AV.int .i64 x1, AV.esl])]))
  | _, _ => none

noncomputable def o64r0_4000_in {R : Type} (K : Ex → St → Option R) (vs : List AV) (hh : H) : Option R := match vs, hh with
  | [AV.int .i64 n701, AV.ptr 0 0], [HB.live (Blk.any [AV.int .i64 n702, AV.esl])] => haystackref02_New_j4 n701 n702 (fun x0 x1 x2 x3 => K (Ex.ret) (St.mk (spread 16 0 [2, 3] [AV.ptr 0 0, AV.int .i64 x0]) [HB.live (Blk.any [AV.int .i64 x1, AV.sl 1 0 x2 1]), HB.live (Blk.ints .u64 x3)]))
  | _, _ => none

noncomputable def o64r0 : Nat → Option PSpec := lkN [(3000, fun st _ K => pickM 16 [0, 2, 9] st (o64r0_3000_in K)), (4000, fun st _ K => pickM 16 [0, 2] st (o64r0_4000_in K))]
noncomputable def q64r0 : CallF := evFun (V 64) S58 T51 10

noncomputable def c64r0_4000 : Code := subC [1, 1] (bodyOf Try.f64)

noncomputable def c64r0_3000 : Code := subC [1, 0, 1] (bodyOf Try.f64)

theorem p64r0_4000 : PieceOk (V 64) q64r0 o64r0 64 0 (3998, 0, c64r0_4000) := .s (size := 16) (ss := [0, 2]) (F := @o64r0_4000_in) (by kernel_rfl) fun R r K vs hh h => by
  unfold o64r0_4000_in at h; split at h
  · rw [haystackref02_New_j4_unf] at h; exact Eq.trans (by kernel_rfl) h
  · cases h

theorem p64r0_3000 : PieceOk (V 64) q64r0 o64r0 64 0 (3997, 0, c64r0_3000) := .s (size := 16) (ss := [0, 2, 9]) (F := @o64r0_3000_in) (by kernel_rfl) fun R r K vs hh h => by
  unfold o64r0_3000_in at h; split at h
  · rw [haystackref02_New_j3_unf] at h; exact Eq.trans (by kernel_rfl) h
  · cases h

theorem pc64r0 : ∀ x ∈ [(3998, 0, c64r0_4000), (3997, 0, c64r0_3000)], PieceOk (V 64) q64r0 o64r0 64 0 x := List.forall_mem_cons.2 ⟨p64r0_4000, List.forall_mem_cons.2 ⟨p64r0_3000, fun _ h => nomatch h⟩⟩

noncomputable def hs64 : HSpec := fun args h _ K => match args, h with
  | [AV.int .i64 n693], [] => haystackref02_New_r n693 (fun x0 x1 => K (AV.tup [AV.agg (Blk.any [AV.int .i64 x0, AV.esl]), AV.int .i64 x1]) ([])) (fun x0 x1 x2 x3 => K (AV.tup [AV.agg (Blk.any [AV.int .i64 x0, AV.sl 0 0 x1 1]), AV.int .i64 x2]) ([HB.live (Blk.ints .u64 x3)]))
  | _, _ => none
noncomputable def T64 := addT 64 hs64 T51
theorem D29 : Dom V S58 T64 29 := Dom.t D28 fun args hh R K r h => by
  unfold hs64 at h; split at h
  · rw [haystackref02_New_r_unf] at h; exact ⟨o64r0, (OrcOk.fn (fn0 := Try.f64) (by kernel_rfl) (by kernel_rfl) pc64r0), Eq.trans (by kernel_rfl) h⟩
  · cases h

noncomputable def sp47 : Ev.Spec := fun args _ K => match args with
  | ([AV.fsl (Blk.ints .u64 xs725), AV.int .i64 n726, AV.bool b727]) => haystackref02_put xs725 n726 b727
  | _ => none
noncomputable def S47 := addS 47 sp47 S58
theorem D30 : Dom V S47 T64 30 := Dom.s (m := 29) (n := 0) D29 D29 (O := (fun _ => none)) (fun _ _ _ _ => OrcOk.none _ _) fun args R K r h => by
  unfold sp47 at h; split at h
  · rw [haystackref02_put_unf] at h; exact Eq.trans (by kernel_rfl) h
  · cases h

noncomputable def o50r1_4400_in {R : Type} (K : Ex → St → Option R) (vs : List AV) (hh : H) : Option R := match vs, hh with
  | [AV.sl 0 0 l719 1, AV.ptr 1 0, AV.ptr 2 0, AV.int .i64 n720, AV.int .i64 n721], [HB.live (Blk.bools bs722), HB.live (Blk.any [AV.int .i64 n723, AV.esl]), HB.live (Blk.any [AV.int .i64 n724, AV.esl])] => haystackref02_From_l4 l719 n720 n721 bs722 n723 n724 (fun x0 x1 x2 x3 => K (Ex.exit 0) (St.mk (spread 29 0 [2, 4, 5] [AV.ptr 1 0, AV.ptr 2 0, AV.int .i64 x0]) [HB.live (Blk.bools x1), HB.live (Blk.any [AV.int .i64 x2, AV.esl]), HB.live (Blk.any [AV.int .i64 x3, AV.esl])]))
  | [AV.sl 0 0 l736 1, AV.ptr 1 0, AV.ptr 2 0, AV.int .i64 n737, AV.int .i64 n738], [HB.live (Blk.bools bs739), HB.live (Blk.any [AV.int .i64 n740, AV.esl]), HB.live (Blk.any [AV.int .i64 n741, AV.sl 3 0 l742 1]), HB.live (Blk.ints .u64 xs743)] => haystackref02_From_l4_1 l736 n737 n738 bs739 n740 n741 l742 xs743 (fun x0 x1 x2 x3 x4 x5 => K (Ex.exit 0) (St.mk (spread 29 0 [2, 4, 5] [AV.ptr 1 0, AV.ptr 2 0, AV.int .i64 x0]) [HB.live (Blk.bools x1), HB.live (Blk.any [AV.int .i64 x2, AV.esl]), HB.live (Blk.any [AV.int .i64 x3, AV.sl 3 0 x4 1]), HB.live (Blk.ints .u64 x5)]))
  | [AV.sl 0 0 l798 1, AV.ptr 1 0, AV.ptr 2 0, AV.int .i64 n799, AV.int .i64 n800], [HB.live (Blk.any []), HB.live (Blk.any [AV.int .i64 n801, AV.esl]), HB.live (Blk.any [AV.int .i64 n802, AV.esl])] => haystackref02_From_l4_2 l798 n799 n800 n801 n802 (fun x0 x1 x2 => K (Ex.exit 0) (St.mk (spread 29 0 [2, 4, 5] [AV.ptr 1 0, AV.ptr 2 0, AV.int .i64 x0]) [HB.live (Blk.any []), HB.live (Blk.any [AV.int .i64 x1, AV.esl]), HB.live (Blk.any [AV.int .i64 x2, AV.esl])]))
  | [AV.sl 0 0 l810 1, AV.ptr 1 0, AV.ptr 2 0, AV.int .i64 n811, AV.int .i64 n812], [HB.live (Blk.any []), HB.live (Blk.any [AV.int .i64 n813, AV.esl]), HB.live (Blk.any [AV.int .i64 n814, AV.sl 3 0 l815 1]), HB.live (Blk.ints .u64 xs816)] => haystackref02_From_l4_3 l810 n811 n812 n813 n814 l815 xs816 (fun x0 x1 x2 x3 x4 => K (Ex.exit 0) (St.mk (spread 29 0 [2, 4, 5] [AV.ptr 1 0, AV.ptr 2 0, AV.int .i64 x0]) [HB.live (Blk.any []), HB.live (Blk.any [AV.int .i64 x1, AV.esl]), HB.live (Blk.any [AV.int .i64 x2, AV.sl 3 0 x3 1]), HB.live (Blk.ints .u64 x4)]))
  | _, _ => none

noncomputable def o50r1 : Nat → Option PSpec := lkN [(4400, fun st _ K => pickM 29 [0, 2, 4, 5, 6] st (o50r1_4400_in K))]
noncomputable def q50r1 : CallF := evFun (V 50) S47 T64 10

noncomputable def c50r1_4400 : Code := subC [1, 1, 0, 1, 0, 0] (bodyOf Try.f50)

noncomputable def lp50r1_4400 {R : Type} (N : Nat) (st : St) (K : Ex → St → Option R) : Option R := evLoop (norm ((V 50).keep 50 (Ev.keyOf c50r1_4400 * 1000 + 400)) 1) (evCode (V 50) q50r1 o50r1 50 1 3994 c50r1_4400) N st (kOut (V 50) 50 1 (Ev.keyOf c50r1_4400 * 1000 + 401) K)

theorem haystackref02_From_l4_L_eq {R : Type} (K : Ex → St → Option R) : ∀ N : Nat, (fun (l719 : Nat) (n720 : Int) (n721 : Int) (bs722 : List Bool) (n723 : Int) (n724 : Int) => lp50r1_4400 N (St.mk (spread 29 0 [0, 2, 4, 5, 6] [AV.sl 0 0 l719 1, AV.ptr 1 0, AV.ptr 2 0, AV.int .i64 n720, AV.int .i64 n721]) [HB.live (Blk.bools bs722), HB.live (Blk.any [AV.int .i64 n723, AV.esl]), HB.live (Blk.any [AV.int .i64 n724, AV.esl])]) K) = haystackref02_From_l4_L (fun x0 x1 x2 x3 => K (Ex.exit 0) (St.mk (spread 29 0 [2, 4, 5] [AV.ptr 1 0, AV.ptr 2 0, AV.int .i64 x0]) [HB.live (Blk.bools x1), HB.live (Blk.any [AV.int .i64 x2, AV.esl]), HB.live (Blk.any [AV.int .i64 x3, AV.esl])])) N
  | 0 => by funext l719 n720 n721 bs722 n723 n724; rfl
  | N + 1 => by
    funext l719 n720 n721 bs722 n723 n724
    simp only [haystackref02_From_l4_L]
    rw [← haystackref02_From_l4_L_eq K N]
    kernel_rfl

theorem haystackref02_From_l4_1_L_eq {R : Type} (K : Ex → St → Option R) : ∀ N : Nat, (fun (l736 : Nat) (n737 : Int) (n738 : Int) (bs739 : List Bool) (n740 : Int) (n741 : Int) (l742 : Nat) (xs743 : List Int) => lp50r1_4400 N (St.mk (spread 29 0 [0, 2, 4, 5, 6] [AV.sl 0 0 l736 1, AV.ptr 1 0, AV.ptr 2 0, AV.int .i64 n737, AV.int .i64 n738]) [HB.live (Blk.bools bs739), HB.live (Blk.any [AV.int .i64 n740, AV.esl]), HB.live (Blk.any [AV.int .i64 n741, AV.sl 3 0 l742 1]), HB.live (Blk.ints .u64 xs743)]) K) = haystackref02_From_l4_1_L (fun x0 x1 x2 x3 x4 x5 => K (Ex.exit 0) (St.mk (spread 29 0 [2, 4, 5] [AV.ptr 1 0, AV.ptr 2 0, AV.int .i64 x0]) [HB.live (Blk.bools x1), HB.live (Blk.any [AV.int .i64 x2, AV.esl]), HB.live (Blk.any [AV.int .i64 x3, AV.sl 3 0 x4 1]), HB.live (Blk.ints .u64 x5)])) N
  | 0 => by funext l736 n737 n738 bs739 n740 n741 l742 xs743; rfl
  | N + 1 => by
    funext l736 n737 n738 bs739 n740 n741 l742 xs743
    simp only [haystackref02_From_l4_1_L]
    rw [← haystackref02_From_l4_1_L_eq K N]
    kernel_rfl

theorem haystackref02_From_l4_2_L_eq {R : Type} (K : Ex → St → Option R) : ∀ N : Nat, (fun (l798 : Nat) (n799 : Int) (n800 : Int) (n801 : Int) (n802 : Int) => lp50r1_4400 N (St.mk (spread 29 0 [0, 2, 4, 5, 6] [AV.sl 0 0 l798 1, AV.ptr 1 0, AV.ptr 2 0, AV.int .i64 n799, AV.int .i64 n800]) [HB.live (Blk.any []), HB.live (Blk.any [AV.int .i64 n801, AV.esl]), HB.live (Blk.any [AV.int .i64 n802, AV.esl])]) K) = haystackref02_From_l4_2_L (fun x0 x1 x2 => K (Ex.exit 0) (St.mk (spread 29 0 [2, 4, 5] [AV.ptr 1 0, AV.ptr 2 0, AV.int .i64 x0]) [HB.live (Blk.any []), HB.live (Blk.any [AV.int .i64 x1, AV.esl]), HB.live (Blk.any [AV.int .i64 x2, AV.esl])])) N
  | 0 => by funext l798 n799 n800 n801 n802; rfl
  | N + 1 => by
    funext l798 n799 n800 n801 n802
    simp only [haystackref02_From_l4_2_L]
    rw [← haystackref02_From_l4_2_L_eq K N]
    kernel_rfl

theorem haystackref02_From_l4_3_L_eq {R : Type} (K : Ex → St → Option R) : ∀ N : Nat, (fun (l810 : Nat) (n811 : Int) (n812 : Int) (n813 : Int) (n814 : Int) (l815 : Nat) (xs816 : List Int) => lp50r1_4400 N (St.mk (spread 29 0 [0, 2, 4, 5, 6] [AV.sl 0 0 l810 1, AV.ptr 1 0, AV.ptr 2 0, AV.int .i64 n811, AV.int .i64 n812]) [HB.live (Blk.any []), HB.live (Blk.any [AV.int .i64 n813, AV.esl]), HB.live (Blk.any [AV.int .i64 n814, AV.sl 3 0 l815 1]), HB.live (Blk.ints .u64 xs816)]) K) = haystackref02_From_l4_3_L (fun x0 x1 x2 x3 x4 => K (Ex.exit 0) (St.mk (spread 29 0 [2, 4, 5] [AV.ptr 1 0, AV.ptr 2 0, AV.int .i64 x0]) [HB.live (Blk.any []), HB.live (Blk.any [AV.int .i64 x1, AV.esl]), HB.live (Blk.any [AV.int .i64 x2, AV.sl 3 0 x3 1]), HB.live (Blk.ints .u64 x4)])) N
  | 0 => by funext l810 n811 n812 n813 n814 l815 xs816; rfl
  | N + 1 => by
    funext l810 n811 n812 n813 n814 l815 xs816
    simp only [haystackref02_From_l4_3_L]
    rw [← haystackref02_From_l4_3_L_eq K N]
    kernel_rfl

theorem p50r1_4400 : PieceOk (V 50) q50r1 o50r1 50 1 (3994, 1, c50r1_4400) := .l (size := 29) (ss := [0, 2, 4, 5, 6]) (F := @o50r1_4400_in) (by kernel_rfl) (by kernel_rfl) fun R r K vs hh h => by
  unfold o50r1_4400_in at h; split at h
  · rw [haystackref02_From_l4_unf] at h; unfold haystackref02_From_l4_B at h; rw [← haystackref02_From_l4_L_eq K NR] at h; exact h
  · rw [haystackref02_From_l4_1_unf] at h; unfold haystackref02_From_l4_1_B at h; rw [← haystackref02_From_l4_1_L_eq K NR] at h; exact h
  · rw [haystackref02_From_l4_2_unf] at h; unfold haystackref02_From_l4_2_B at h; rw [← haystackref02_From_l4_2_L_eq K NR] at h; exact h
  · rw [haystackref02_From_l4_3_unf] at h; unfold haystackref02_From_l4_3_B at h; rw [← haystackref02_From_l4_3_L_eq K NR] at h; exact h
  · cases h

theorem pc50r1 : ∀ x ∈ [(3994, 1, c50r1_4400)], PieceOk (V 50) q50r1 o50r1 50 1 x := List.forall_mem_cons.2 ⟨p50r1_4400, fun _ h => nomatch h⟩

noncomputable def hs50 : HSpec := fun args h _ K => match args, h with
  | [AV.sl 0 0 l691 1], [HB.live (Blk.bools bs692)] => haystackref02_From_r l691 bs692 (fun x0 x1 x2 => K (AV.tup [AV.agg (Blk.any [AV.int .i64 x0, AV.esl]), AV.int .i64 x1]) ([HB.live (Blk.bools x2)])) (fun x0 x1 x2 x3 x4 => K (AV.tup [AV.agg (Blk.any [AV.int .i64 x0, AV.sl 1 0 x1 1]), AV.int .i64 x2]) ([HB.live (Blk.bools x3), HB.live (Blk.ints .u64 x4)]))
  | [AV.sl 0 0 l795 1], [HB.live (Blk.any [])] => haystackref02_From_r_1 l795 (fun x0 x1 => K (AV.tup [AV.agg (Blk.any [AV.int .i64 x0, AV.esl]), AV.int .i64 x1]) ([HB.live (Blk.any [])])) (fun x0 x1 x2 x3 => K (AV.tup [AV.agg (Blk.any [AV.int .i64 x0, AV.sl 1 0 x1 1]), AV.int .i64 x2]) ([HB.live (Blk.any []), HB.live (Blk.ints .u64 x3)]))
  | _, _ => none
noncomputable def T50 := addT 50 hs50 T64
theorem D31 : Dom V S47 T50 31 := Dom.t D30 fun args hh R K r h => by
  unfold hs50 at h; split at h
  · rw [haystackref02_From_r_unf] at h; exact ⟨o50r1, (OrcOk.fn (fn0 := Try.f50) (by kernel_rfl) (by kernel_rfl) pc50r1), Eq.trans (by kernel_rfl) h⟩
  · rw [haystackref02_From_r_1_unf] at h; exact ⟨o50r1, (OrcOk.fn (fn0 := Try.f50) (by kernel_rfl) (by kernel_rfl) pc50r1), Eq.trans (by kernel_rfl) h⟩
  · cases h

noncomputable def o24_3000_in {R : Type} (K : Ex → St → Option R) (vs : List AV) (hh : H) : Option R := match vs, hh with
  | [AV.ptr 0 0, AV.ptr 1 0, AV.ptr 2 0, AV.bool b644], [HB.live (Blk.any [AV.int .i64 n645, AV.fsl (Blk.ints .u64 xs646)]), HB.live (Blk.any [AV.int .i64 n647, AV.fsl (Blk.ints .u64 xs648)]), HB.live (Blk.any [AV.int .i64 n649, AV.esl])] => haystackref02_Join_j3 b644 n645 xs646 n647 xs648 n649 (fun x0 x1 x2 => K (Ex.ret) (St.mk (spread 31 0 [4, 5] [AV.ptr 0 0, AV.int .i64 x0]) [HB.live (Blk.any [AV.int .i64 x1, AV.fsl (Blk.ints .u64 x2)])])) (fun x0 x1 x2 x3 x4 => K (Ex.normal) (St.mk (spread 31 0 [2, 3, 4] [AV.ptr 0 0, AV.ptr 1 0, AV.ptr 2 0]) [HB.live (Blk.any [AV.int .i64 x0, AV.fsl (Blk.ints .u64 x1)]), HB.live (Blk.any [AV.int .i64 x2, AV.fsl (Blk.ints .u64 x3)]), HB.live (Blk.any [AV.int .i64 x4, AV.esl])]))
  | _, _ => none

noncomputable def o24_4000_in {R : Type} (K : Ex → St → Option R) (vs : List AV) (hh : H) : Option R := match vs, hh with
  | [AV.ptr 0 0, AV.ptr 1 0, AV.ptr 2 0], [HB.live (Blk.any [AV.int .i64 n658, AV.fsl (Blk.ints .u64 xs659)]), HB.live (Blk.any [AV.int .i64 n660, AV.fsl (Blk.ints .u64 xs661)]), HB.live (Blk.any [AV.int .i64 n662, AV.esl])] => haystackref02_Join_j4 n658 xs659 n660 xs661 n662 (fun x0 x1 => K (Ex.ret) (St.mk (spread 31 0 [4, 5] [AV.ptr 0 0, AV.int .i64 x0]) [HB.live (Blk.any [AV.int .i64 x1, AV.esl])])) (fun x0 x1 x2 x3 => K (Ex.ret) (St.mk (spread 31 0 [4, 5] [AV.ptr 0 0, AV.int .i64 x0]) [HB.live (Blk.any [AV.int .i64 x1, AV.sl 1 0 x2 1]), HB.live (Blk.ints .u64 x3)]))
  | _, _ => none

noncomputable def o24 : Nat → Option PSpec := lkN [(3000, fun st _ K => pickM 31 [2, 3, 4, 21] st (o24_3000_in K)), (4000, fun st _ K => pickM 31 [2, 3, 4] st (o24_4000_in K))]
noncomputable def q24 : CallF := evFun (V 24) S47 T50 10

noncomputable def c24_4000 : Code := subC [1, 1] (bodyOf Try.f24)

noncomputable def c24_3000 : Code := subC [1, 0, 1] (bodyOf Try.f24)

theorem haystackref02_Join_j4_eq {R : Type} (K : Ex → St → Option R) (n658 : Int) (xs659 : List Int) (n660 : Int) (xs661 : List Int) (n662 : Int) : evCode (V 24) q24 o24 24 0 3998 c24_4000 (St.mk (spread 31 0 [2, 3, 4] [AV.ptr 0 0, AV.ptr 1 0, AV.ptr 2 0]) [HB.live (Blk.any [AV.int .i64 n658, AV.fsl (Blk.ints .u64 xs659)]), HB.live (Blk.any [AV.int .i64 n660, AV.fsl (Blk.ints .u64 xs661)]), HB.live (Blk.any [AV.int .i64 n662, AV.esl])]) (kOut (V 24) 24 0 (Ev.keyOf c24_4000 * 1000 + 1) K) = haystackref02_Join_j4_B n658 xs659 n660 xs661 n662 (fun x0 x1 => K (Ex.ret) (St.mk (spread 31 0 [4, 5] [AV.ptr 0 0, AV.int .i64 x0]) [HB.live (Blk.any [AV.int .i64 x1, AV.esl])])) (fun x0 x1 x2 x3 => K (Ex.ret) (St.mk (spread 31 0 [4, 5] [AV.ptr 0 0, AV.int .i64 x0]) [HB.live (Blk.any [AV.int .i64 x1, AV.sl 1 0 x2 1]), HB.live (Blk.ints .u64 x3)])) := by kernel_rfl

theorem p24_4000 : PieceOk (V 24) q24 o24 24 0 (3998, 0, c24_4000) := .s (size := 31) (ss := [2, 3, 4]) (F := @o24_4000_in) (by kernel_rfl) fun R r K vs hh h => by
  unfold o24_4000_in at h; split at h
  · rw [haystackref02_Join_j4_unf] at h; exact (haystackref02_Join_j4_eq K _ _ _ _ _).trans h
  · cases h

theorem p24_3000 : PieceOk (V 24) q24 o24 24 0 (3997, 0, c24_3000) := .s (size := 31) (ss := [2, 3, 4, 21]) (F := @o24_3000_in) (by kernel_rfl) fun R r K vs hh h => by
  unfold o24_3000_in at h; split at h
  · rw [haystackref02_Join_j3_unf] at h; exact Eq.trans (by kernel_rfl) h
  · cases h

theorem pc24 : ∀ x ∈ [(3998, 0, c24_4000), (3997, 0, c24_3000)], PieceOk (V 24) q24 o24 24 0 x := List.forall_mem_cons.2 ⟨p24_4000, List.forall_mem_cons.2 ⟨p24_3000, fun _ h => nomatch h⟩⟩

theorem haystackref02_Join_eq {R : Type} (K : AV → Option R) (n639 : Int) (xs640 : List Int) (n641 : Int) (xs642 : List Int) : evSpec (V 24) S47 T50 o24 10 24 ([AV.agg (Blk.any [AV.int .i64 n639, AV.fsl (Blk.ints .u64 xs640)]), AV.agg (Blk.any [AV.int .i64 n641, AV.fsl (Blk.ints .u64 xs642)])]) R K = haystackref02_Join_B n639 xs640 n641 xs642 (fun x0 x1 x2 => K (AV.tup [AV.agg (Blk.any [AV.int .i64 x0, AV.fsl (Blk.ints .u64 x1)]), AV.int .i64 x2])) := by kernel_rfl

noncomputable def sp24 : Ev.Spec := fun args _ K => match args with
  | ([AV.agg (Blk.any [AV.int .i64 n639, AV.fsl (Blk.ints .u64 xs640)]), AV.agg (Blk.any [AV.int .i64 n641, AV.fsl (Blk.ints .u64 xs642)])]) => haystackref02_Join n639 xs640 n641 xs642 (fun x0 x1 x2 => K (AV.tup [AV.agg (Blk.any [AV.int .i64 x0, AV.fsl (Blk.ints .u64 x1)]), AV.int .i64 x2]))
  | _ => none
noncomputable def S24 := addS 24 sp24 S47
theorem D32 : Dom V S24 T50 32 := Dom.s (m := 31) (n := 0) D31 D31 (O := o24) (OrcOk.fn (fn0 := Try.f24) (by kernel_rfl) (by kernel_rfl) pc24) fun args R K r h => by
  unfold sp24 at h; split at h
  · rw [haystackref02_Join_unf] at h; exact (haystackref02_Join_eq K _ _ _ _).trans h
  · cases h

noncomputable def o5_4000_in {R : Type} (K : Ex → St → Option R) (vs : List AV) (hh : H) : Option R := match vs, hh with
  | [AV.int .i64 n445, AV.int .u64 n446, AV.int .i64 n447, AV.ptr 0 0, AV.ptr 1 0], [HB.live (Blk.any [AV.int .i64 n448, AV.fsl (Blk.ints .u64 xs449)]), HB.live (Blk.any [AV.int .i64 n450, AV.fsl (Blk.ints .u64 xs451)])] => haystacklaw02_BitsBecome_j4 n445 n446 n447 n448 xs449 n450 xs451 (fun x0 => K (Ex.ret) (St.mk (spread 120 0 [10] [AV.bool x0]) []))
  | _, _ => none

noncomputable def o5_5000_in {R : Type} (K : Ex → St → Option R) (vs : List AV) (hh : H) : Option R := match vs, hh with
  | [AV.int .i64 n452, AV.int .u64 n453, AV.int .i64 n454, AV.ptr 0 0, AV.ptr 1 0, AV.ptr 2 0], [HB.live (Blk.any [AV.int .i64 n455, AV.fsl (Blk.ints .u64 xs456)]), HB.live (Blk.any [AV.int .i64 n457, AV.fsl (Blk.ints .u64 xs458)]), HB.live (Blk.any [AV.int .i64 n459, AV.fsl (Blk.ints .u64 xs460)])] => haystacklaw02_BitsBecome_j5 n452 n453 n454 n455 xs456 n457 xs458 n459 xs460 (fun x0 => K (Ex.ret) (St.mk (spread 120 0 [10] [AV.bool x0]) []))
  | _, _ => none

noncomputable def o5 : Nat → Option PSpec := lkN [(4000, fun st _ K => pickM 120 [2, 3, 4, 5, 6] st (o5_4000_in K)), (5000, fun st _ K => pickM 120 [2, 3, 4, 5, 6, 11] st (o5_5000_in K))]
noncomputable def q5 : CallF := evFun (V 5) S24 T50 10

noncomputable def c5_4000 : Code := subC [1, 1] (bodyOf Try.f5)

noncomputable def c5_5000 : Code := subC [1, 1, 1] (bodyOf Try.f5)

theorem haystacklaw02_BitsBecome_j5_eq {R : Type} (K : Ex → St → Option R) (n452 : Int) (n453 : Int) (n454 : Int) (n455 : Int) (xs456 : List Int) (n457 : Int) (xs458 : List Int) (n459 : Int) (xs460 : List Int) : evCode (V 5) q5 o5 5 0 3997 c5_5000 (St.mk (spread 120 0 [2, 3, 4, 5, 6, 11] [AV.int .i64 n452, AV.int .u64 n453, AV.int .i64 n454, AV.ptr 0 0, AV.ptr 1 0, AV.ptr 2 0]) [HB.live (Blk.any [AV.int .i64 n455, AV.fsl (Blk.ints .u64 xs456)]), HB.live (Blk.any [AV.int .i64 n457, AV.fsl (Blk.ints .u64 xs458)]), HB.live (Blk.any [AV.int .i64 n459, AV.fsl (Blk.ints .u64 xs460)])]) (kOut (V 5) 5 0 (Ev.keyOf c5_5000 * 1000 + 1) K) = haystacklaw02_BitsBecome_j5_B n452 n453 n454 n455 xs456 n457 xs458 n459 xs460 (fun x0 => K (Ex.ret) (St.mk (spread 120 0 [10] [AV.bool x0]) [])) := by kernel_rfl

theorem p5_4000 : PieceOk (V 5) q5 o5 5 0 (3998, 0, c5_4000) := .s (size := 120) (ss := [2, 3, 4, 5, 6]) (F := @o5_4000_in) (by kernel_rfl) fun R r K vs hh h => by
  unfold o5_4000_in at h; split at h
  · rw [haystacklaw02_BitsBecome_j4_unf] at h; exact Eq.trans (by kernel_rfl) h
  · cases h

theorem p5_5000 : PieceOk (V 5) q5 o5 5 0 (3997, 0, c5_5000) := .s (size := 120) (ss := [2, 3, 4, 5, 6, 11]) (F := @o5_5000_in) (by kernel_rfl) fun R r K vs hh h => by
  unfold o5_5000_in at h; split at h
  · rw [haystacklaw02_BitsBecome_j5_unf] at h; exact (haystacklaw02_BitsBecome_j5_eq K _ _ _ _ _ _ _ _ _).trans h
  · cases h

theorem pc5 : ∀ x ∈ [(3998, 0, c5_4000), (3997, 0, c5_5000)], PieceOk (V 5) q5 o5 5 0 x := List.forall_mem_cons.2 ⟨p5_4000, List.forall_mem_cons.2 ⟨p5_5000, fun _ h => nomatch h⟩⟩

noncomputable def sp5 : Ev.Spec := fun args _ K => match args with
  | ([AV.agg (Blk.any [AV.int .i64 n0, AV.fsl (Blk.ints .u64 xs1)]), AV.agg (Blk.any [AV.int .i64 n2, AV.fsl (Blk.ints .u64 xs3)]), AV.int .i64 n4, AV.int .u64 n5, AV.int .i64 n6]) => haystacklaw02_BitsBecome n0 xs1 n2 xs3 n4 n5 n6 (fun x0 => K (AV.bool x0))
  | _ => none
noncomputable def S5 := addS 5 sp5 S24
theorem D33 : Dom V S5 T50 33 := Dom.s (m := 32) (n := 0) D32 D32 (O := o5) (OrcOk.fn (fn0 := Try.f5) (by kernel_rfl) (by kernel_rfl) pc5) fun args R K r h => by
  unfold sp5 at h; split at h
  · rw [haystacklaw02_BitsBecome_unf] at h; exact Eq.trans (by kernel_rfl) h
  · cases h

theorem ok5 : ∃ sp, SpecOk Try.prog (V 5) 5 sp ∧ ∀ args z, sp5 args AV some = some z → sp args AV some = some z := by
  obtain ⟨sp, h1, h2⟩ := Dom.law (P := Try.prog) (V := V) (fun _ => env_types _ _) (fun _ => env_funs _ _) (fun _ _ => rfl) D33 (f := 5) (sp := sp5) (by kernel_rfl)
  exact ⟨sp, h1, fun args z => h2 args AV some z⟩

end Go.Proofs.Ytkjadjdcbpiebaa
