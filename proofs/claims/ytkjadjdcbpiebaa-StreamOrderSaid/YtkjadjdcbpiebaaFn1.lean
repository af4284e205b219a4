/- The functions that this seat's laws reach, as plain functions, and that they are what the program does. Printed by a program of this repo (wip/Prt). -/
import Derived.Test.YtkjadjdcbpiebaaEnv
import Derived.Test.YtkjadjdcbpiebaaEv27
import Derived.KernelRfl
namespace Go.Proofs.Ytkjadjdcbpiebaa
open Go Go.Ev
def txt__14a5d8 : ByteArray := ByteArray.mk (List.toArray (List.append (List.append [0, 1, 2, 2, 3, 3, 3, 3, 4, 4, 4, 4, 4, 4, 4, 4, 5, 5, 5, 5, 5, 5, 5, 5, 5, 5, 5, 5, 5, 5, 5, 5, 6, 6, 6, 6, 6, 6, 6, 6, 6, 6, 6, 6, 6, 6, 6, 6, 6, 6, 6, 6, 6, 6, 6, 6, 6, 6, 6, 6, 6, 6, 6, 6] [7, 7, 7, 7, 7, 7, 7, 7, 7, 7, 7, 7, 7, 7, 7, 7, 7, 7, 7, 7, 7, 7, 7, 7, 7, 7, 7, 7, 7, 7, 7, 7, 7, 7, 7, 7, 7, 7, 7, 7, 7, 7, 7, 7, 7, 7, 7, 7, 7, 7, 7, 7, 7, 7, 7, 7, 7, 7, 7, 7, 7, 7, 7, 7]) (List.append [8, 8, 8, 8, 8, 8, 8, 8, 8, 8, 8, 8, 8, 8, 8, 8, 8, 8, 8, 8, 8, 8, 8, 8, 8, 8, 8, 8, 8, 8, 8, 8, 8, 8, 8, 8, 8, 8, 8, 8, 8, 8, 8, 8, 8, 8, 8, 8, 8, 8, 8, 8, 8, 8, 8, 8, 8, 8, 8, 8, 8, 8, 8, 8] [8, 8, 8, 8, 8, 8, 8, 8, 8, 8, 8, 8, 8, 8, 8, 8, 8, 8, 8, 8, 8, 8, 8, 8, 8, 8, 8, 8, 8, 8, 8, 8, 8, 8, 8, 8, 8, 8, 8, 8, 8, 8, 8, 8, 8, 8, 8, 8, 8, 8, 8, 8, 8, 8, 8, 8, 8, 8, 8, 8, 8, 8, 8, 8])))
set_option maxRecDepth 100000


noncomputable def haystacklaw04_small_B {R : Type} (n4 : Int) (xs5 : List Int) (K0 : Bool → Option R) : Option R :=
 sel (decide (n4 ≤ 3000))
  (K0 (decide ((↑(List.length xs5) : Int) ≤ 3000)))
  (K0 (false))
noncomputable def haystacklaw04_small {R : Type} := shut (@haystacklaw04_small_B R)
theorem haystacklaw04_small_unf {R : Type} : @haystacklaw04_small R = @haystacklaw04_small_B R := shut_eq _

noncomputable def bits_words_B {R : Type} (n12 : Int) (K0 : Int → Option R) : Option R :=
 K0 (quoW .i64 (subW .i64 (addW .i64 n12 64) 1) 64)
noncomputable def bits_words {R : Type} := shut (@bits_words_B R)
theorem bits_words_unf {R : Type} : @bits_words R = @bits_words_B R := shut_eq _

noncomputable def word_Mask_B {R : Type} (n16 : Int) (K0 : Int → Option R) : Option R :=
 sel (decide (n16 ≤ 0))
  (K0 (0))
  (sel (decide (0 ≤ max2 0 (subW .i64 64 n16)))
   (K0 (shrW .u64 18446744073709551615 (max2 0 (subW .i64 64 n16))))
   (none))
noncomputable def word_Mask {R : Type} := shut (@word_Mask_B R)
theorem word_Mask_unf {R : Type} : @word_Mask R = @word_Mask_B R := shut_eq _

noncomputable def bits_Check_j4_B {R : Type} (n14 : Int) (xs15 : List Int) (K0 : Bool → Option R) : Option R :=
 sel (decide (remW n14 64 = 0))
  (K0 (true))
  (sel (decide (0 ≤ subW .i64 (↑(List.length xs15) : Int) 1))
   (sel (decide (subW .i64 (↑(List.length xs15) : Int) 1 < (↑(List.length xs15) : Int)))
    (word_Mask (remW n14 64)
     (fun n17 => letV (decide (andNotW .u64 (List.getD xs15 (Int.toNat (subW .i64 (↑(List.length xs15) : Int) 1)) 0) n17 = 0)) (fun (b18 : Bool) =>
     K0 (b18))))
    (none))
   (none))
noncomputable def bits_Check_j4 {R : Type} := shut (@bits_Check_j4_B R)
theorem bits_Check_j4_unf {R : Type} : @bits_Check_j4 R = @bits_Check_j4_B R := shut_eq _

noncomputable def bits_Check_B {R : Type} (n10 : Int) (xs11 : List Int) (K0 : Bool → Option R) : Option R :=
 sel (decide (n10 < 0))
  (K0 (false))
  (sel (decide (1048576 < n10))
   (K0 (false))
   (bits_words (n10)
    (fun n13 => sel (!decide ((↑(List.length xs11) : Int) = n13))
     (K0 (false))
     (bits_Check_j4 (n10) (xs11)
      (fun b19 => K0 (b19))))))
noncomputable def bits_Check {R : Type} := shut (@bits_Check_B R)
theorem bits_Check_unf {R : Type} : @bits_Check R = @bits_Check_B R := shut_eq _

noncomputable def math_bits_Len64_j11_B {R : Type} (n38 : Int) (n39 : Int) (K0 : Int → Option R) : Option R :=
 sel (decide (0 ≤ cvtW .u8 n38))
  (sel (decide (cvtW .u8 n38 < (↑(ByteArray.size (txt__14a5d8)) : Int)))
   (letV ((↑(UInt8.toNat (List.getD (Array.toList (ByteArray.data (txt__14a5d8))) (Int.toNat (cvtW .u8 n38)) 0)) : Int)) (fun (n40 : Int) =>
   K0 (addW .i64 n39 (cvtW .i64 n40))))
   (none))
  (none)
noncomputable def math_bits_Len64_j11 {R : Type} := shut (@math_bits_Len64_j11_B R)
theorem math_bits_Len64_j11_unf {R : Type} : @math_bits_Len64_j11 R = @math_bits_Len64_j11_B R := shut_eq _

noncomputable def math_bits_Len64_j8_B {R : Type} (n36 : Int) (n37 : Int) (K0 : Int → Option R) : Option R :=
 sel (decide (256 ≤ n36))
  (math_bits_Len64_j11 (shrW .u64 n36 8) (addW .i64 n37 8)
   (fun n41 => K0 (n41)))
  (math_bits_Len64_j11 (n36) (n37)
   (fun n42 => K0 (n42)))
noncomputable def math_bits_Len64_j8 {R : Type} := shut (@math_bits_Len64_j8_B R)
theorem math_bits_Len64_j8_unf {R : Type} : @math_bits_Len64_j8 R = @math_bits_Len64_j8_B R := shut_eq _

noncomputable def math_bits_Len64_j5_B {R : Type} (n34 : Int) (n35 : Int) (K0 : Int → Option R) : Option R :=
 sel (decide (65536 ≤ n34))
  (math_bits_Len64_j8 (shrW .u64 n34 16) (addW .i64 n35 16)
   (fun n43 => K0 (n43)))
  (math_bits_Len64_j8 (n34) (n35)
   (fun n44 => K0 (n44)))
noncomputable def math_bits_Len64_j5 {R : Type} := shut (@math_bits_Len64_j5_B R)
theorem math_bits_Len64_j5_unf {R : Type} : @math_bits_Len64_j5 R = @math_bits_Len64_j5_B R := shut_eq _

noncomputable def math_bits_Len64_B {R : Type} (n33 : Int) (K0 : Int → Option R) : Option R :=
 sel (decide (4294967296 ≤ n33))
  (math_bits_Len64_j5 (shrW .u64 n33 32) (32)
   (fun n45 => K0 (n45)))
  (math_bits_Len64_j5 (n33) (0)
   (fun n46 => K0 (n46)))
noncomputable def math_bits_Len64 {R : Type} := shut (@math_bits_Len64_B R)
theorem math_bits_Len64_unf {R : Type} : @math_bits_Len64 R = @math_bits_Len64_B R := shut_eq _

noncomputable def word_Len_B {R : Type} (n32 : Int) (K0 : Int → Option R) : Option R :=
 math_bits_Len64 (n32)
  (fun n47 => K0 (n47))
noncomputable def word_Len {R : Type} := shut (@word_Len_B R)
theorem word_Len_unf {R : Type} : @word_Len R = @word_Len_B R := shut_eq _

noncomputable def bits_Append_j3_B {R : Type} (n59 : Int) (n60 : Int) (b61 : Bool) (n62 : Int) (xs63 : List Int) (n64 : Int) (K0 : Int → Int → List Int → Option R) (K1 : Int → Int → Int → List Int → Int → Option R) : Option R :=
 sel (b61)
  (K0 (2) (n62) (xs63))
  (K1 (n59) (n60) (n62) (xs63) (n64))
noncomputable def bits_Append_j3 {R : Type} := shut (@bits_Append_j3_B R)
theorem bits_Append_j3_unf {R : Type} : @bits_Append_j3 R = @bits_Append_j3_B R := shut_eq _

noncomputable def bits_own_r_B {R : Type} (_n78 : Int) (xs79 : List Int) (n80 : Int) (K0 : Int → Nat → List Int → Option R) : Option R :=
 bits_words (n80)
  (fun n81 => sel (decide (0 ≤ n81))
   (sel (decide (n81 ≤ n81))
    (sel (decide (n81 ≤ 281474976710656))
     (sel (decide ((↑8 : Int) * n81 ≤ 281474976710656))
      (letV (List.replicate (Int.toNat n81) 0) (fun (xs82 : List Int) =>
      sel (decide (0 + Int.toNat n81 ≤ List.length xs82))
       (sel (decide (List.length xs79 ≤ Int.toNat n81))
        (sel (decide (0 + List.length xs79 ≤ List.length xs82))
         (letV (List.take 0 xs82 ++ (xs79 ++ List.drop (0 + List.length xs79) xs82)) (fun (xs83 : List Int) =>
         K0 (n80) (Int.toNat n81) (xs83)))
         (none))
        (sel (decide (0 + Int.toNat n81 ≤ List.length xs79))
         (sel (decide (0 + List.length (List.take (Int.toNat n81) (List.drop 0 xs79)) ≤ List.length xs82))
          (letV (List.take 0 xs82 ++ (List.take (Int.toNat n81) (List.drop 0 xs79) ++ List.drop (0 + List.length (List.take (Int.toNat n81) (List.drop 0 xs79))) xs82)) (fun (xs84 : List Int) =>
          K0 (n80) (Int.toNat n81) (xs84)))
          (none))
         (none)))
       (none)))
      (none))
     (none))
    (none))
   (none))
noncomputable def bits_own_r {R : Type} := shut (@bits_own_r_B R)
theorem bits_own_r_unf {R : Type} : @bits_own_r R = @bits_own_r_B R := shut_eq _

noncomputable def bits_fill_j6_B {R : Type} (n101 : Int) (n102 : Int) (n103 : Int) (b104 : Bool) (xs105 : List Int) (_n106 : Int) (l107 : Nat) (K0 : List Int → Option R) : Option R :=
 sel (b104)
  (sel (decide (0 ≤ addW .i64 n102 1))
   (sel (decide (addW .i64 n102 1 < (↑l107 : Int)))
    (sel (decide (Int.toNat (addW .i64 n102 1) < List.length xs105))
     (sel (decide (0 ≤ subW .i64 64 n103))
      (sel (decide (0 ≤ addW .i64 n102 1))
       (sel (decide (addW .i64 n102 1 < (↑l107 : Int)))
        (sel (decide (Int.toNat (addW .i64 n102 1) < List.length xs105))
         (letV (List.set xs105 (Int.toNat (addW .i64 n102 1)) (orW .u64 (List.getD xs105 (Int.toNat (addW .i64 n102 1)) 0) (shrW .u64 n101 (subW .i64 64 n103)))) (fun (xs108 : List Int) =>
         K0 (xs108)))
         (none))
        (none))
       (none))
      (none))
     (none))
    (none))
   (none))
  (K0 (xs105))
noncomputable def bits_fill_j6 {R : Type} := shut (@bits_fill_j6_B R)
theorem bits_fill_j6_unf {R : Type} : @bits_fill_j6 R = @bits_fill_j6_B R := shut_eq _

noncomputable def bits_fill_j5_B {R : Type} (n95 : Int) (n96 : Int) (n97 : Int) (xs98 : List Int) (n99 : Int) (l100 : Nat) (K0 : List Int → Option R) : Option R :=
 sel (decide (0 < n97))
  (bits_fill_j6 (n95) (n96) (n97) (decide (addW .i64 n96 1 < (↑l100 : Int))) (xs98) (n99) (l100)
   (fun xs109 => K0 (xs109)))
  (bits_fill_j6 (n95) (n96) (n97) (false) (xs98) (n99) (l100)
   (fun xs110 => K0 (xs110)))
noncomputable def bits_fill_j5 {R : Type} := shut (@bits_fill_j5_B R)
theorem bits_fill_j5_unf {R : Type} : @bits_fill_j5 R = @bits_fill_j5_B R := shut_eq _

noncomputable def bits_fill_r_B {R : Type} (n89 : Int) (l90 : Nat) (n91 : Int) (n92 : Int) (xs93 : List Int) (K0 : List Int → Option R) : Option R :=
 sel (decide (quoW .i64 n91 64 < (↑l90 : Int)))
  (sel (decide (0 ≤ quoW .i64 n91 64))
   (sel (decide (quoW .i64 n91 64 < (↑l90 : Int)))
    (sel (decide (Int.toNat (quoW .i64 n91 64) < List.length xs93))
     (sel (decide (0 ≤ remW n91 64))
      (sel (decide (0 ≤ quoW .i64 n91 64))
       (sel (decide (quoW .i64 n91 64 < (↑l90 : Int)))
        (sel (decide (Int.toNat (quoW .i64 n91 64) < List.length xs93))
         (letV (List.set xs93 (Int.toNat (quoW .i64 n91 64)) (orW .u64 (List.getD xs93 (Int.toNat (quoW .i64 n91 64)) 0) (shlW .u64 n92 (remW n91 64)))) (fun (xs94 : List Int) =>
         bits_fill_j5 (n92) (quoW .i64 n91 64) (remW n91 64) (xs94) (n89) (l90)
          (fun xs111 => K0 (xs111))))
         (none))
        (none))
       (none))
      (none))
     (none))
    (none))
   (none))
  (bits_fill_j5 (n92) (quoW .i64 n91 64) (remW n91 64) (xs93) (n89) (l90)
   (fun xs112 => K0 (xs112)))
noncomputable def bits_fill_r {R : Type} := shut (@bits_fill_r_B R)
theorem bits_fill_r_unf {R : Type} : @bits_fill_r R = @bits_fill_r_B R := shut_eq _

noncomputable def bits_Append_j4_B {R : Type} (n73 : Int) (n74 : Int) (n75 : Int) (xs76 : List Int) (_n77 : Int) (K0 : Int → Int → Nat → List Int → Option R) : Option R :=
 bits_own_r (n75) (xs76) (addW .i64 n75 n74)
  (fun n85 l86 xs87 => word_Mask (n74)
   (fun n88 => bits_fill_r (n85) (l86) (n75) (andW .u64 n73 n88) (xs87)
    (fun xs113 => K0 (0) (n85) (l86) (xs113))))
noncomputable def bits_Append_j4 {R : Type} := shut (@bits_Append_j4_B R)
theorem bits_Append_j4_unf {R : Type} : @bits_Append_j4 R = @bits_Append_j4_B R := shut_eq _

noncomputable def bits_Append_B {R : Type} (n54 : Int) (xs55 : List Int) (n56 : Int) (n57 : Int) (K0 : Int → List Int → Int → Option R) : Option R :=
 bits_Check (n54) (xs55)
  (fun b58 => sel (!b58)
   (bits_Append_j3 (n56) (n57) (true) (n54) (xs55) (0)
    (fun n65 n66 xs67 => K0 (n66) (xs67) (n65))
    (fun n68 n69 n70 xs71 n72 => bits_Append_j4 (n68) (n69) (n70) (xs71) (n72)
     (fun n114 n115 l116 xs117 => sel (decide (l116 = List.length xs117))
      (K0 (n115) (xs117) (n114))
      (sel (decide (0 + l116 ≤ List.length xs117))
       (K0 (n115) (List.take l116 (List.drop 0 xs117)) (n114))
       (none)))))
   (sel (decide (n57 < 0))
    (bits_Append_j3 (n56) (n57) (true) (n54) (xs55) (0)
     (fun n118 n119 xs120 => K0 (n119) (xs120) (n118))
     (fun n121 n122 n123 xs124 n125 => bits_Append_j4 (n121) (n122) (n123) (xs124) (n125)
      (fun n126 n127 l128 xs129 => sel (decide (l128 = List.length xs129))
       (K0 (n127) (xs129) (n126))
       (sel (decide (0 + l128 ≤ List.length xs129))
        (K0 (n127) (List.take l128 (List.drop 0 xs129)) (n126))
        (none)))))
    (sel (decide (64 < n57))
     (bits_Append_j3 (n56) (n57) (true) (n54) (xs55) (0)
      (fun n130 n131 xs132 => K0 (n131) (xs132) (n130))
      (fun n133 n134 n135 xs136 n137 => bits_Append_j4 (n133) (n134) (n135) (xs136) (n137)
       (fun n138 n139 l140 xs141 => sel (decide (l140 = List.length xs141))
        (K0 (n139) (xs141) (n138))
        (sel (decide (0 + l140 ≤ List.length xs141))
         (K0 (n139) (List.take l140 (List.drop 0 xs141)) (n138))
         (none)))))
     (bits_Append_j3 (n56) (n57) (decide (subW .i64 1048576 n54 < n57)) (n54) (xs55) (0)
      (fun n142 n143 xs144 => K0 (n143) (xs144) (n142))
      (fun n145 n146 n147 xs148 n149 => bits_Append_j4 (n145) (n146) (n147) (xs148) (n149)
       (fun n150 n151 l152 xs153 => sel (decide (l152 = List.length xs153))
        (K0 (n151) (xs153) (n150))
        (sel (decide (0 + l152 ≤ List.length xs153))
         (K0 (n151) (List.take l152 (List.drop 0 xs153)) (n150))
         (none))))))))
noncomputable def bits_Append {R : Type} := shut (@bits_Append_B R)
theorem bits_Append_unf {R : Type} : @bits_Append R = @bits_Append_B R := shut_eq _

noncomputable def stream_row_put_j3_B {R : Type} (_n157 : Int) (_xs158 : List Int) (b159 : Bool) (n160 : Int) (xs161 : List Int) (K0 : Int → List Int → Bool → Option R) : Option R :=
 K0 (n160) (xs161) (b159)
noncomputable def stream_row_put_j3 {R : Type} := shut (@stream_row_put_j3_B R)
theorem stream_row_put_j3_unf {R : Type} : @stream_row_put_j3 R = @stream_row_put_j3_B R := shut_eq _

noncomputable def stream_row_put_r_B {R : Type} (n49 : Int) (n50 : Int) (n51 : Int) (xs52 : List Int) (b53 : Bool) (K0 : Int → List Int → Bool → Option R) : Option R :=
 bits_Append (n51) (xs52) (n49) (n50)
  (fun n154 xs155 n156 => sel (b53)
   (stream_row_put_j3 (n51) (xs52) (decide (n156 = 0)) (n154) (xs155)
    (fun n162 xs163 b164 => K0 (n162) (xs163) (b164)))
   (stream_row_put_j3 (n51) (xs52) (false) (n154) (xs155)
    (fun n165 xs166 b167 => K0 (n165) (xs166) (b167))))
noncomputable def stream_row_put_r {R : Type} := shut (@stream_row_put_r_B R)
theorem stream_row_put_r_unf {R : Type} : @stream_row_put_r R = @stream_row_put_r_B R := shut_eq _

noncomputable def stream_row_gamma_r_B {R : Type} (n28 : Int) (n29 : Int) (xs30 : List Int) (b31 : Bool) (K0 : Int → List Int → Bool → Option R) : Option R :=
 word_Len (n28)
  (fun n48 => stream_row_put_r (0) (subW .i64 n48 1) (n29) (xs30) (b31)
   (fun n168 xs169 b170 => stream_row_put_r (1) (1) (n168) (xs169) (b170)
    (fun n171 xs172 b173 => stream_row_put_r (n28) (subW .i64 n48 1) (n171) (xs172) (b173)
     (fun n174 xs175 b176 => K0 (n174) (xs175) (b176)))))
noncomputable def stream_row_gamma_r {R : Type} := shut (@stream_row_gamma_r_B R)
theorem stream_row_gamma_r_unf {R : Type} : @stream_row_gamma_r R = @stream_row_gamma_r_B R := shut_eq _

noncomputable def stream_row_done_r_B {R : Type} (n186 : Int) (xs187 : List Int) (n188 : Int) (xs189 : List Int) (b190 : Bool) (K0 : Int → List Int → Int → Int → List Int → Bool → Option R) : Option R :=
 sel (!b190)
  (K0 (n186) (xs187) (2) (n188) (xs189) (b190))
  (K0 (n188) (xs189) (0) (n188) (xs189) (b190))
noncomputable def stream_row_done_r {R : Type} := shut (@stream_row_done_r_B R)
theorem stream_row_done_r_unf {R : Type} : @stream_row_done_r R = @stream_row_done_r_B R := shut_eq _

noncomputable def stream_PutGamma_j5_B {R : Type} (n180 : Int) (xs181 : List Int) (_n182 : Int) (n183 : Int) (xs184 : List Int) (b185 : Bool) (K0 : Int → Int → List Int → Option R) : Option R :=
 stream_row_done_r (n180) (xs181) (n183) (xs184) (b185)
  (fun n191 xs192 n193 n194 xs195 b196 => K0 (n193) (n191) (xs192))
noncomputable def stream_PutGamma_j5 {R : Type} := shut (@stream_PutGamma_j5_B R)
theorem stream_PutGamma_j5_unf {R : Type} : @stream_PutGamma_j5 R = @stream_PutGamma_j5_B R := shut_eq _

noncomputable def stream_PutGamma_j3_B {R : Type} (n21 : Int) (n22 : Int) (xs23 : List Int) (n24 : Int) (n25 : Int) (xs26 : List Int) (b27 : Bool) (K0 : Int → Int → List Int → Option R) : Option R :=
 sel (b27)
  (stream_row_gamma_r (n21) (n25) (xs26) (b27)
   (fun n177 xs178 b179 => stream_PutGamma_j5 (n22) (xs23) (n24) (n177) (xs178) (b179)
    (fun n197 n198 xs199 => K0 (n197) (n198) (xs199))))
  (stream_PutGamma_j5 (n22) (xs23) (n24) (n25) (xs26) (b27)
   (fun n200 n201 xs202 => K0 (n200) (n201) (xs202)))
noncomputable def stream_PutGamma_j3 {R : Type} := shut (@stream_PutGamma_j3_B R)
theorem stream_PutGamma_j3_unf {R : Type} : @stream_PutGamma_j3 R = @stream_PutGamma_j3_B R := shut_eq _

noncomputable def stream_PutGamma_B {R : Type} (n7 : Int) (xs8 : List Int) (n9 : Int) (K0 : Int → List Int → Int → Option R) : Option R :=
 bits_Check (n7) (xs8)
  (fun b20 => sel (b20)
   (stream_PutGamma_j3 (n9) (n7) (xs8) (0) (n7) (xs8) (decide (0 < n9))
    (fun n203 n204 xs205 => K0 (n204) (xs205) (n203)))
   (stream_PutGamma_j3 (n9) (n7) (xs8) (0) (n7) (xs8) (false)
    (fun n206 n207 xs208 => K0 (n207) (xs208) (n206))))
noncomputable def stream_PutGamma {R : Type} := shut (@stream_PutGamma_B R)
theorem stream_PutGamma_unf {R : Type} : @stream_PutGamma R = @stream_PutGamma_B R := shut_eq _

noncomputable def stream_PutDelta_j7_B {R : Type} (n230 : Int) (xs231 : List Int) (_n232 : Int) (n233 : Int) (xs234 : List Int) (b235 : Bool) (K0 : Int → Int → List Int → Option R) : Option R :=
 stream_row_done_r (n230) (xs231) (n233) (xs234) (b235)
  (fun n236 xs237 n238 n239 xs240 b241 => K0 (n238) (n236) (xs237))
noncomputable def stream_PutDelta_j7 {R : Type} := shut (@stream_PutDelta_j7_B R)
theorem stream_PutDelta_j7_unf {R : Type} : @stream_PutDelta_j7 R = @stream_PutDelta_j7_B R := shut_eq _

noncomputable def stream_PutDelta_j3_B {R : Type} (n216 : Int) (n217 : Int) (xs218 : List Int) (n219 : Int) (n220 : Int) (xs221 : List Int) (b222 : Bool) (K0 : Int → Int → List Int → Option R) : Option R :=
 sel (b222)
  (word_Len (n216)
   (fun n223 => stream_row_gamma_r (cvtW .u64 n223) (n220) (xs221) (b222)
    (fun n224 xs225 b226 => stream_row_put_r (n216) (subW .i64 n223 1) (n224) (xs225) (b226)
     (fun n227 xs228 b229 => stream_PutDelta_j7 (n217) (xs218) (n219) (n227) (xs228) (b229)
      (fun n242 n243 xs244 => K0 (n242) (n243) (xs244))))))
  (stream_PutDelta_j7 (n217) (xs218) (n219) (n220) (xs221) (b222)
   (fun n245 n246 xs247 => K0 (n245) (n246) (xs247)))
noncomputable def stream_PutDelta_j3 {R : Type} := shut (@stream_PutDelta_j3_B R)
theorem stream_PutDelta_j3_unf {R : Type} : @stream_PutDelta_j3 R = @stream_PutDelta_j3_B R := shut_eq _

noncomputable def stream_PutDelta_B {R : Type} (n212 : Int) (xs213 : List Int) (n214 : Int) (K0 : Int → List Int → Int → Option R) : Option R :=
 bits_Check (n212) (xs213)
  (fun b215 => sel (b215)
   (stream_PutDelta_j3 (n214) (n212) (xs213) (0) (n212) (xs213) (decide (0 < n214))
    (fun n248 n249 xs250 => K0 (n249) (xs250) (n248)))
   (stream_PutDelta_j3 (n214) (n212) (xs213) (0) (n212) (xs213) (false)
    (fun n251 n252 xs253 => K0 (n252) (xs253) (n251))))
noncomputable def stream_PutDelta {R : Type} := shut (@stream_PutDelta_B R)
theorem stream_PutDelta_unf {R : Type} : @stream_PutDelta R = @stream_PutDelta_B R := shut_eq _

noncomputable def stream_Gamma_j5_B {R : Type} (n261 : Int) (b262 : Bool) (n263 : Int) (xs264 : List Int) (K0 : Int → Int → Int → Option R) (K1 : Int → Int → List Int → Option R) : Option R :=
 sel (b262)
  (K0 (0) (0) (3))
  (K1 (n261) (n263) (xs264))
noncomputable def stream_Gamma_j5 {R : Type} := shut (@stream_Gamma_j5_B R)
theorem stream_Gamma_j5_unf {R : Type} : @stream_Gamma_j5 R = @stream_Gamma_j5_B R := shut_eq _

noncomputable def bits_Get_j6_B {R : Type} (n278 : Int) (_n279 : Int) (xs280 : List Int) (K0 : Bool → Int → Option R) : Option R :=
 sel (decide (0 ≤ quoW .i64 n278 64))
  (sel (decide (quoW .i64 n278 64 < (↑(List.length xs280) : Int)))
   (sel (decide (0 ≤ remW n278 64))
    (letV (decide (andW .u64 (shrW .u64 (List.getD xs280 (Int.toNat (quoW .i64 n278 64)) 0) (remW n278 64)) 1 = 1)) (fun (b281 : Bool) =>
    K0 (b281) (0)))
    (none))
   (none))
  (none)
noncomputable def bits_Get_j6 {R : Type} := shut (@bits_Get_j6_B R)
theorem bits_Get_j6_unf {R : Type} : @bits_Get_j6 R = @bits_Get_j6_B R := shut_eq _

noncomputable def bits_Get_B {R : Type} (n274 : Int) (xs275 : List Int) (n276 : Int) (K0 : Bool → Int → Option R) : Option R :=
 bits_Check (n274) (xs275)
  (fun b277 => sel (!b277)
   (K0 (false) (2))
   (sel (decide (n276 < 0))
    (K0 (false) (3))
    (sel (decide (n274 ≤ n276))
     (K0 (false) (3))
     (bits_Get_j6 (n276) (n274) (xs275)
      (fun b282 n283 => K0 (b282) (n283))))))
noncomputable def bits_Get {R : Type} := shut (@bits_Get_B R)
theorem bits_Get_unf {R : Type} : @bits_Get R = @bits_Get_B R := shut_eq _

noncomputable def bits_Slice_j5_B {R : Type} (n300 : Int) (n301 : Int) (b302 : Bool) (n303 : Int) (xs304 : List Int) (K0 : Int → Int → Option R) (K1 : Int → Int → Int → List Int → Option R) : Option R :=
 sel (b302)
  (K0 (0) (3))
  (sel (decide (n301 = 0))
   (K0 (0) (0))
   (K1 (n300) (n301) (n303) (xs304)))
noncomputable def bits_Slice_j5 {R : Type} := shut (@bits_Slice_j5_B R)
theorem bits_Slice_j5_unf {R : Type} : @bits_Slice_j5 R = @bits_Slice_j5_B R := shut_eq _

noncomputable def bits_Slice_j3_B {R : Type} (n295 : Int) (n296 : Int) (b297 : Bool) (n298 : Int) (xs299 : List Int) (K0 : Int → Int → Option R) (K1 : Int → Int → Int → List Int → Option R) : Option R :=
 sel (b297)
  (K0 (0) (2))
  (sel (decide (n295 < 0))
   (bits_Slice_j5 (n295) (n296) (true) (n298) (xs299)
    (fun n305 n306 => K0 (n305) (n306))
    (fun n307 n308 n309 xs310 => K1 (n307) (n308) (n309) (xs310)))
   (sel (decide (n298 < n295))
    (bits_Slice_j5 (n295) (n296) (true) (n298) (xs299)
     (fun n311 n312 => K0 (n311) (n312))
     (fun n313 n314 n315 xs316 => K1 (n313) (n314) (n315) (xs316)))
    (bits_Slice_j5 (n295) (n296) (decide (subW .i64 n298 n295 < n296)) (n298) (xs299)
     (fun n317 n318 => K0 (n317) (n318))
     (fun n319 n320 n321 xs322 => K1 (n319) (n320) (n321) (xs322)))))
noncomputable def bits_Slice_j3 {R : Type} := shut (@bits_Slice_j3_B R)
theorem bits_Slice_j3_unf {R : Type} : @bits_Slice_j3 R = @bits_Slice_j3_B R := shut_eq _

noncomputable def bits_Slice_j12_B {R : Type} (n334 : Int) (n335 : Int) (K0 : Int → Int → Option R) : Option R :=
 word_Mask (n334)
  (fun n336 => K0 (andW .u64 n335 n336) (0))
noncomputable def bits_Slice_j12 {R : Type} := shut (@bits_Slice_j12_B R)
theorem bits_Slice_j12_unf {R : Type} : @bits_Slice_j12 R = @bits_Slice_j12_B R := shut_eq _

noncomputable def bits_Slice_j8_B {R : Type} (n329 : Int) (n330 : Int) (_n331 : Int) (xs332 : List Int) (K0 : Int → Int → Option R) : Option R :=
 sel (decide (0 ≤ quoW .i64 n329 64))
  (sel (decide (quoW .i64 n329 64 < (↑(List.length xs332) : Int)))
   (sel (decide (0 ≤ remW n329 64))
    (sel (decide (64 < addW .i64 (remW n329 64) n330))
     (sel (decide (0 ≤ addW .i64 (quoW .i64 n329 64) 1))
      (sel (decide (addW .i64 (quoW .i64 n329 64) 1 < (↑(List.length xs332) : Int)))
       (sel (decide (0 ≤ subW .i64 64 (remW n329 64)))
        (letV (orW .u64 (shrW .u64 (List.getD xs332 (Int.toNat (quoW .i64 n329 64)) 0) (remW n329 64)) (shlW .u64 (List.getD xs332 (Int.toNat (addW .i64 (quoW .i64 n329 64) 1)) 0) (subW .i64 64 (remW n329 64)))) (fun (n333 : Int) =>
        bits_Slice_j12 (n330) (n333)
         (fun n337 n338 => K0 (n337) (n338))))
        (none))
       (none))
      (none))
     (bits_Slice_j12 (n330) (shrW .u64 (List.getD xs332 (Int.toNat (quoW .i64 n329 64)) 0) (remW n329 64))
      (fun n339 n340 => K0 (n339) (n340))))
    (none))
   (none))
  (none)
noncomputable def bits_Slice_j8 {R : Type} := shut (@bits_Slice_j8_B R)
theorem bits_Slice_j8_unf {R : Type} : @bits_Slice_j8 R = @bits_Slice_j8_B R := shut_eq _

noncomputable def bits_Slice_B {R : Type} (n290 : Int) (xs291 : List Int) (n292 : Int) (n293 : Int) (K0 : Int → Int → Option R) : Option R :=
 bits_Check (n290) (xs291)
  (fun b294 => sel (!b294)
   (bits_Slice_j3 (n292) (n293) (true) (n290) (xs291)
    (fun n323 n324 => K0 (n323) (n324))
    (fun n325 n326 n327 xs328 => bits_Slice_j8 (n325) (n326) (n327) (xs328)
     (fun n341 n342 => K0 (n341) (n342))))
   (sel (decide (n293 < 0))
    (bits_Slice_j3 (n292) (n293) (true) (n290) (xs291)
     (fun n343 n344 => K0 (n343) (n344))
     (fun n345 n346 n347 xs348 => bits_Slice_j8 (n345) (n346) (n347) (xs348)
      (fun n349 n350 => K0 (n349) (n350))))
    (bits_Slice_j3 (n292) (n293) (decide (64 < n293)) (n290) (xs291)
     (fun n351 n352 => K0 (n351) (n352))
     (fun n353 n354 n355 xs356 => bits_Slice_j8 (n353) (n354) (n355) (xs356)
      (fun n357 n358 => K0 (n357) (n358))))))
noncomputable def bits_Slice {R : Type} := shut (@bits_Slice_B R)
theorem bits_Slice_unf {R : Type} : @bits_Slice R = @bits_Slice_B R := shut_eq _

noncomputable def stream_tail_B {R : Type} (n286 : Int) (xs287 : List Int) (n288 : Int) (n289 : Int) (K0 : Int → Int → Int → Option R) : Option R :=
 bits_Slice (n286) (xs287) (n288) (n289)
  (fun n359 n360 => sel (!decide (n360 = 0))
   (K0 (0) (0) (160))
   (sel (decide (0 ≤ n289))
    (K0 (orW .u64 n359 (shlW .u64 1 n289)) (addW .i64 n288 n289) (0))
    (none)))
noncomputable def stream_tail {R : Type} := shut (@stream_tail_B R)
theorem stream_tail_unf {R : Type} : @stream_tail R = @stream_tail_B R := shut_eq _

noncomputable def stream_Gamma_j6_B {R : Type} (n271 : Int) (n272 : Int) (xs273 : List Int) (K0 : Int → Int → Int → Option R) (K1 : Int → Int → Int → List Int → Option R) : Option R :=
 bits_Get (n272) (xs273) (addW .i64 n271 0)
  (fun b284 n285 => sel (!decide (n285 = 0))
   (K0 (0) (0) (160))
   (sel (b284)
    (stream_tail (n272) (xs273) (addW .i64 (addW .i64 n271 0) 1) (0)
     (fun n361 n362 n363 => K0 (n361) (n362) (n363)))
    (sel (decide (addW .i64 0 1 < 64))
     (K1 (n271) (addW .i64 0 1) (n272) (xs273))
     (K0 (0) (0) (161)))))
noncomputable def stream_Gamma_j6 {R : Type} := shut (@stream_Gamma_j6_B R)
theorem stream_Gamma_j6_unf {R : Type} : @stream_Gamma_j6 R = @stream_Gamma_j6_B R := shut_eq _

noncomputable def stream_Gamma_g7_T {R : Type} (rec : Int → Int → Int → List Int → Option R) (n371 : Int) (n372 : Int) (n373 : Int) (xs374 : List Int) (K0 : Int → Int → Int → Option R) : Option R :=
 bits_Get (n373) (xs374) (addW .i64 n371 n372)
  (fun b375 n376 => sel (!decide (n376 = 0))
   (K0 (0) (0) (160))
   (sel (b375)
    (stream_tail (n373) (xs374) (addW .i64 (addW .i64 n371 n372) 1) (n372)
     (fun n377 n378 n379 => K0 (n377) (n378) (n379)))
    (sel (decide (addW .i64 n372 1 < 64))
     (rec (n371) (addW .i64 n372 1) (n373) (xs374))
     (K0 (0) (0) (161)))))
noncomputable def stream_Gamma_g7_L {R : Type} (K0 : Int → Int → Int → Option R) : Nat → Int → Int → Int → List Int → Option R
  | 0, _, _, _, _ => none
  | N + 1, n371, n372, n373, xs374 => stream_Gamma_g7_T (stream_Gamma_g7_L K0 N) n371 n372 n373 xs374 K0
noncomputable def stream_Gamma_g7_B {R : Type} (n371 : Int) (n372 : Int) (n373 : Int) (xs374 : List Int) (K0 : Int → Int → Int → Option R) : Option R :=
 stream_Gamma_g7_L K0 NR n371 n372 n373 xs374
noncomputable def stream_Gamma_g7 {R : Type} := shut (@stream_Gamma_g7_B R)
theorem stream_Gamma_g7_unf {R : Type} : @stream_Gamma_g7 R = @stream_Gamma_g7_B R := shut_eq _

noncomputable def stream_Gamma_B {R : Type} (n257 : Int) (xs258 : List Int) (n259 : Int) (K0 : Int → Int → Int → Option R) : Option R :=
 bits_Check (n257) (xs258)
  (fun b260 => sel (!b260)
   (K0 (0) (0) (2))
   (sel (decide (n259 < 0))
    (stream_Gamma_j5 (n259) (true) (n257) (xs258)
     (fun n265 n266 n267 => K0 (n265) (n266) (n267))
     (fun n268 n269 xs270 => stream_Gamma_j6 (n268) (n269) (xs270)
      (fun n364 n365 n366 => K0 (n364) (n365) (n366))
      (fun n367 n368 n369 xs370 => stream_Gamma_g7 (n367) (n368) (n369) (xs370)
       (fun n380 n381 n382 => K0 (n380) (n381) (n382)))))
    (stream_Gamma_j5 (n259) (decide (n257 < n259)) (n257) (xs258)
     (fun n383 n384 n385 => K0 (n383) (n384) (n385))
     (fun n386 n387 xs388 => stream_Gamma_j6 (n386) (n387) (xs388)
      (fun n389 n390 n391 => K0 (n389) (n390) (n391))
      (fun n392 n393 n394 xs395 => stream_Gamma_g7 (n392) (n393) (n394) (xs395)
       (fun n396 n397 n398 => K0 (n396) (n397) (n398)))))))
noncomputable def stream_Gamma {R : Type} := shut (@stream_Gamma_B R)
theorem stream_Gamma_unf {R : Type} : @stream_Gamma R = @stream_Gamma_B R := shut_eq _

noncomputable def stream_Delta_B {R : Type} (n411 : Int) (xs412 : List Int) (n413 : Int) (K0 : Int → Int → Int → Option R) : Option R :=
 stream_Gamma (n411) (xs412) (n413)
  (fun n414 n415 n416 => sel (!decide (n416 = 0))
   (K0 (0) (0) (n416))
   (sel (decide (64 < n414))
    (K0 (0) (0) (161))
    (stream_tail (n411) (xs412) (n415) (subW .i64 (cvtW .i64 n414) 1)
     (fun n417 n418 n419 => K0 (n417) (n418) (n419)))))
noncomputable def stream_Delta {R : Type} := shut (@stream_Delta_B R)
theorem stream_Delta_unf {R : Type} : @stream_Delta R = @stream_Delta_B R := shut_eq _

noncomputable def stream_Size_d_B {R : Type} (n432 : Int) (b433 : Bool) (K0 : Int → Option R) : Option R :=
 word_Len (n432)
  (fun n434 => sel (decide (n434 = 0))
   (K0 (0))
   (sel (b433)
    (none)
    (K0 (subW .i64 (mulW .i64 2 n434) 1))))
noncomputable def stream_Size_d {R : Type} := shut (@stream_Size_d_B R)
theorem stream_Size_d_unf {R : Type} : @stream_Size_d R = @stream_Size_d_B R := shut_eq _

noncomputable def stream_Size_B {R : Type} (n429 : Int) (b430 : Bool) (K0 : Int → Option R) : Option R :=
 word_Len (n429)
  (fun n431 => sel (decide (n431 = 0))
   (K0 (0))
   (sel (b430)
    (stream_Size_d (cvtW .u64 n431) (false)
     (fun n435 => K0 (subW .i64 (addW .i64 n435 n431) 1)))
    (K0 (subW .i64 (mulW .i64 2 n431) 1))))
noncomputable def stream_Size {R : Type} := shut (@stream_Size_B R)
theorem stream_Size_unf {R : Type} : @stream_Size R = @stream_Size_B R := shut_eq _

noncomputable def haystacklaw04_heads_j5_B {R : Type} (n402 : Int) (n403 : Int) (n404 : Int) (n405 : Int) (n406 : Int) (n407 : Int) (xs408 : List Int) (n409 : Int) (xs410 : List Int) (K0 : Bool → Option R) : Option R :=
 stream_Delta (n409) (xs410) (n405)
  (fun n420 n421 n422 => stream_Gamma (n409) (xs410) (n421)
   (fun n423 n424 n425 => stream_PutGamma (n407) (xs408) (0)
    (fun n426 xs427 n428 => sel (decide (n402 = 0))
     (sel (decide (n407 = 5))
      (sel (decide ((↑(List.length xs408) : Int) = 1))
       (sel (decide (0 < (↑(List.length xs408) : Int)))
        (sel (decide (List.getD xs408 (Int.toNat 0) 0 = 12))
         (sel (decide (n403 = 0))
          (sel (decide (n404 = 5))
           (sel (decide (n405 = 5))
            (sel (decide (n406 = 0))
             (sel (decide (n420 = 9223372036854775808))
              (sel (decide (n421 = n409))
               (sel (decide (n422 = 0))
                (sel (decide (n425 = 160))
                 (sel (decide (n428 = 2))
                  (stream_Size (5) (false)
                   (fun n436 => K0 (decide (n436 = 5))))
                  (K0 (false)))
                 (K0 (false)))
                (K0 (false)))
               (K0 (false)))
              (K0 (false)))
             (K0 (false)))
            (K0 (false)))
           (K0 (false)))
          (K0 (false)))
         (K0 (false)))
        (none))
       (K0 (false)))
      (K0 (false)))
     (K0 (false)))))
noncomputable def haystacklaw04_heads_j5 {R : Type} := shut (@haystacklaw04_heads_j5_B R)
theorem haystacklaw04_heads_j5_unf {R : Type} : @haystacklaw04_heads_j5 R = @haystacklaw04_heads_j5_B R := shut_eq _

noncomputable def haystacklaw04_heads_B {R : Type} (K0 : Bool → Option R) : Option R :=
 stream_PutGamma (0) ([]) (5)
  (fun n209 xs210 n211 => stream_PutDelta (n209) (xs210) (9223372036854775808)
   (fun n254 xs255 n256 => stream_Gamma (n254) (xs255) (0)
    (fun n399 n400 n401 => haystacklaw04_heads_j5 (n211) (n256) (n399) (n400) (n401) (n209) (xs210) (n254) (xs255)
     (fun b437 => K0 (b437)))))
noncomputable def haystacklaw04_heads {R : Type} := shut (@haystacklaw04_heads_B R)
theorem haystacklaw04_heads_unf {R : Type} : @haystacklaw04_heads R = @haystacklaw04_heads_B R := shut_eq _

noncomputable def haystackref02_Words_B {R : Type} (n441 : Int) (K0 : Int → Option R) : Option R :=
 K0 (quoW .i64 (addW .i64 n441 63) 64)
noncomputable def haystackref02_Words {R : Type} := shut (@haystackref02_Words_B R)
theorem haystackref02_Words_unf {R : Type} : @haystackref02_Words R = @haystackref02_Words_B R := shut_eq _

noncomputable def haystackref01_Mask_j6_B {R : Type} (n449 : Int) (n450 : Int) (n451 : Int) (K0 : Int → Int → Int → Option R) : Option R :=
 sel (decide (0 ≤ cvtW .u64 n451))
  (K0 (n449) (orW .u64 n450 (shlW .u64 1 (cvtW .u64 n451))) (addW .i64 n451 1))
  (none)
noncomputable def haystackref01_Mask_j6 {R : Type} := shut (@haystackref01_Mask_j6_B R)
theorem haystackref01_Mask_j6_unf {R : Type} : @haystackref01_Mask_j6 R = @haystackref01_Mask_j6_B R := shut_eq _

noncomputable def haystackref01_Mask_l4_T {R : Type} (rec : Int → Int → Int → Option R) (n446 : Int) (n447 : Int) (n448 : Int) (K0 : Int → Option R) : Option R :=
 sel (decide (n448 < 64))
  (sel (decide (n448 < n446))
   (haystackref01_Mask_j6 (n446) (n447) (n448)
    (fun n452 n453 n454 => rec (n452) (n453) (n454)))
   (K0 (n447)))
  (K0 (n447))
noncomputable def haystackref01_Mask_l4_L {R : Type} (K0 : Int → Option R) : Nat → Int → Int → Int → Option R
  | 0, _, _, _ => none
  | N + 1, n446, n447, n448 => haystackref01_Mask_l4_T (haystackref01_Mask_l4_L K0 N) n446 n447 n448 K0
noncomputable def haystackref01_Mask_l4_B {R : Type} (n446 : Int) (n447 : Int) (n448 : Int) (K0 : Int → Option R) : Option R :=
 haystackref01_Mask_l4_L K0 NR n446 n447 n448
noncomputable def haystackref01_Mask_l4 {R : Type} := shut (@haystackref01_Mask_l4_B R)
theorem haystackref01_Mask_l4_unf {R : Type} : @haystackref01_Mask_l4 R = @haystackref01_Mask_l4_B R := shut_eq _

noncomputable def haystackref01_Mask_B {R : Type} (n445 : Int) (K0 : Int → Option R) : Option R :=
 haystackref01_Mask_l4 (n445) (0) (0)
  (fun n455 => K0 (n455))
noncomputable def haystackref01_Mask {R : Type} := shut (@haystackref01_Mask_B R)
theorem haystackref01_Mask_unf {R : Type} : @haystackref01_Mask R = @haystackref01_Mask_B R := shut_eq _

noncomputable def haystackref02_Check_j4_B {R : Type} (n443 : Int) (xs444 : List Int) (K0 : Bool → Option R) : Option R :=
 sel (decide (remW n443 64 = 0))
  (K0 (true))
  (sel (decide (0 ≤ subW .i64 (↑(List.length xs444) : Int) 1))
   (sel (decide (subW .i64 (↑(List.length xs444) : Int) 1 < (↑(List.length xs444) : Int)))
    (haystackref01_Mask (remW n443 64)
     (fun n456 => letV (decide (andNotW .u64 (List.getD xs444 (Int.toNat (subW .i64 (↑(List.length xs444) : Int) 1)) 0) n456 = 0)) (fun (b457 : Bool) =>
     K0 (b457))))
    (none))
   (none))
noncomputable def haystackref02_Check_j4 {R : Type} := shut (@haystackref02_Check_j4_B R)
theorem haystackref02_Check_j4_unf {R : Type} : @haystackref02_Check_j4 R = @haystackref02_Check_j4_B R := shut_eq _

noncomputable def haystackref02_Check_B {R : Type} (n439 : Int) (xs440 : List Int) (K0 : Bool → Option R) : Option R :=
 sel (decide (n439 < 0))
  (K0 (false))
  (sel (decide (1048576 < n439))
   (K0 (false))
   (haystackref02_Words (n439)
    (fun n442 => sel (!decide ((↑(List.length xs440) : Int) = n442))
     (K0 (false))
     (haystackref02_Check_j4 (n439) (xs440)
      (fun b458 => K0 (b458))))))
noncomputable def haystackref02_Check {R : Type} := shut (@haystackref02_Check_B R)
theorem haystackref02_Check_unf {R : Type} : @haystackref02_Check R = @haystackref02_Check_B R := shut_eq _

noncomputable def haystackref02_At_B {R : Type} (_n519 : Int) (xs520 : List Int) (n521 : Int) (K0 : Bool → Option R) : Option R :=
 sel (decide (0 ≤ quoW .i64 n521 64))
  (sel (decide (quoW .i64 n521 64 < (↑(List.length xs520) : Int)))
   (sel (decide (0 ≤ cvtW .u64 (remW n521 64)))
    (letV (decide (remW (shrW .u64 (List.getD xs520 (Int.toNat (quoW .i64 n521 64)) 0) (cvtW .u64 (remW n521 64))) 2 = 1)) (fun (b522 : Bool) =>
    K0 (b522)))
    (none))
   (none))
  (none)
noncomputable def haystackref02_At {R : Type} := shut (@haystackref02_At_B R)
theorem haystackref02_At_unf {R : Type} : @haystackref02_At R = @haystackref02_At_B R := shut_eq _

noncomputable def haystackref02_Get_j6_B {R : Type} (n516 : Int) (n517 : Int) (xs518 : List Int) (K0 : Bool → Int → Option R) : Option R :=
 haystackref02_At (n517) (xs518) (n516)
  (fun b523 => K0 (b523) (0))
noncomputable def haystackref02_Get_j6 {R : Type} := shut (@haystackref02_Get_j6_B R)
theorem haystackref02_Get_j6_unf {R : Type} : @haystackref02_Get_j6 R = @haystackref02_Get_j6_B R := shut_eq _

noncomputable def haystackref02_Get_B {R : Type} (n512 : Int) (xs513 : List Int) (n514 : Int) (K0 : Bool → Int → Option R) : Option R :=
 haystackref02_Check (n512) (xs513)
  (fun b515 => sel (!b515)
   (K0 (false) (2))
   (sel (decide (n514 < 0))
    (K0 (false) (3))
    (sel (decide (n512 ≤ n514))
     (K0 (false) (3))
     (haystackref02_Get_j6 (n514) (n512) (xs513)
      (fun b524 n525 => K0 (b524) (n525))))))
noncomputable def haystackref02_Get {R : Type} := shut (@haystackref02_Get_B R)
theorem haystackref02_Get_unf {R : Type} : @haystackref02_Get R = @haystackref02_Get_B R := shut_eq _

noncomputable def haystacklaw04_StreamOnce_l15_T {R : Type} (rec : Int → Int → Int → List Int → Int → List Int → Option R) (n506 : Int) (n507 : Int) (n508 : Int) (xs509 : List Int) (n510 : Int) (xs511 : List Int) (K0 : Bool → Option R) (K1 : Unit → Option R) : Option R :=
 sel (decide (n507 < n510))
  (haystackref02_Get (n508) (xs509) (addW .i64 n506 n507)
   (fun b526 n527 => haystackref02_Get (n510) (xs511) (n507)
    (fun b528 n529 => sel (!b526 == b528)
     (K0 (false))
     (rec (n506) (addW .i64 n507 1) (n508) (xs509) (n510) (xs511)))))
  (K1 ())
noncomputable def haystacklaw04_StreamOnce_l15_L {R : Type} (K0 : Bool → Option R) (K1 : Unit → Option R) : Nat → Int → Int → Int → List Int → Int → List Int → Option R
  | 0, _, _, _, _, _, _ => none
  | N + 1, n506, n507, n508, xs509, n510, xs511 => haystacklaw04_StreamOnce_l15_T (haystacklaw04_StreamOnce_l15_L K0 K1 N) n506 n507 n508 xs509 n510 xs511 K0 K1
noncomputable def haystacklaw04_StreamOnce_l15_B {R : Type} (n506 : Int) (n507 : Int) (n508 : Int) (xs509 : List Int) (n510 : Int) (xs511 : List Int) (K0 : Bool → Option R) (K1 : Unit → Option R) : Option R :=
 haystacklaw04_StreamOnce_l15_L K0 K1 NR n506 n507 n508 xs509 n510 xs511
noncomputable def haystacklaw04_StreamOnce_l15 {R : Type} := shut (@haystacklaw04_StreamOnce_l15_B R)
theorem haystacklaw04_StreamOnce_l15_unf {R : Type} : @haystacklaw04_StreamOnce_l15 R = @haystacklaw04_StreamOnce_l15_B R := shut_eq _

noncomputable def haystacklaw04_StreamOnce_j14_B {R : Type} (n501 : Int) (n502 : Int) (xs503 : List Int) (n504 : Int) (xs505 : List Int) (K0 : Bool → Option R) : Option R :=
 haystacklaw04_StreamOnce_l15 (n501) (0) (n502) (xs503) (n504) (xs505)
  (fun b530 => K0 (b530))
  (fun _ => haystacklaw04_heads 
   (fun b531 => K0 (b531)))
noncomputable def haystacklaw04_StreamOnce_j14 {R : Type} := shut (@haystacklaw04_StreamOnce_j14_B R)
theorem haystacklaw04_StreamOnce_j14_unf {R : Type} : @haystacklaw04_StreamOnce_j14 R = @haystacklaw04_StreamOnce_j14_B R := shut_eq _

noncomputable def haystacklaw04_StreamOnce_j12_B {R : Type} (n494 : Int) (n495 : Int) (n496 : Int) (n497 : Int) (xs498 : List Int) (n499 : Int) (xs500 : List Int) (K0 : Bool → Option R) : Option R :=
 sel (!decide (n496 = 0))
  (K0 (false))
  (sel (!decide (n499 = subW .i64 n495 n494))
   (K0 (false))
   (sel (decide (n497 < n495))
    (K0 (false))
    (haystacklaw04_StreamOnce_j14 (n494) (n497) (xs498) (n499) (xs500)
     (fun b532 => K0 (b532)))))
noncomputable def haystacklaw04_StreamOnce_j12 {R : Type} := shut (@haystacklaw04_StreamOnce_j12_B R)
theorem haystacklaw04_StreamOnce_j12_unf {R : Type} : @haystacklaw04_StreamOnce_j12 R = @haystacklaw04_StreamOnce_j12_B R := shut_eq _

noncomputable def haystacklaw04_StreamOnce_j7_B {R : Type} (n480 : Int) (b481 : Bool) (n482 : Int) (n483 : Int) (n484 : Int) (n485 : Int) (xs486 : List Int) (K0 : Bool → Option R) : Option R :=
 sel (!decide (n484 = 0))
  (sel (decide (n482 = 0))
   (sel (decide (n483 = 0))
    (haystacklaw04_heads 
     (fun b487 => K0 (b487)))
    (K0 (false)))
   (K0 (false)))
  (stream_PutGamma (0) ([]) (n482)
   (fun n488 xs489 n490 => sel (b481)
    (stream_PutDelta (0) ([]) (n482)
     (fun n491 xs492 n493 => haystacklaw04_StreamOnce_j12 (n480) (n483) (n493) (n485) (xs486) (n491) (xs492)
      (fun b533 => K0 (b533))))
    (haystacklaw04_StreamOnce_j12 (n480) (n483) (n490) (n485) (xs486) (n488) (xs489)
     (fun b534 => K0 (b534)))))
noncomputable def haystacklaw04_StreamOnce_j7 {R : Type} := shut (@haystacklaw04_StreamOnce_j7_B R)
theorem haystacklaw04_StreamOnce_j7_unf {R : Type} : @haystacklaw04_StreamOnce_j7 R = @haystacklaw04_StreamOnce_j7_B R := shut_eq _

noncomputable def haystacklaw04_StreamOnce_j5_B {R : Type} (n470 : Int) (b471 : Bool) (n472 : Int) (n473 : Int) (n474 : Int) (n475 : Int) (xs476 : List Int) (K0 : Bool → Option R) : Option R :=
 sel (b471)
  (stream_Delta (n475) (xs476) (n470)
   (fun n477 n478 n479 => haystacklaw04_StreamOnce_j7 (n470) (b471) (n477) (n478) (n479) (n475) (xs476)
    (fun b535 => K0 (b535))))
  (haystacklaw04_StreamOnce_j7 (n470) (b471) (n472) (n473) (n474) (n475) (xs476)
   (fun b536 => K0 (b536)))
noncomputable def haystacklaw04_StreamOnce_j5 {R : Type} := shut (@haystacklaw04_StreamOnce_j5_B R)
theorem haystacklaw04_StreamOnce_j5_unf {R : Type} : @haystacklaw04_StreamOnce_j5 R = @haystacklaw04_StreamOnce_j5_B R := shut_eq _

noncomputable def haystacklaw04_StreamOnce_j4_B {R : Type} (n463 : Int) (b464 : Bool) (n465 : Int) (xs466 : List Int) (K0 : Bool → Option R) : Option R :=
 stream_Gamma (n465) (xs466) (n463)
  (fun n467 n468 n469 => haystacklaw04_StreamOnce_j5 (n463) (b464) (n467) (n468) (n469) (n465) (xs466)
   (fun b537 => K0 (b537)))
noncomputable def haystacklaw04_StreamOnce_j4 {R : Type} := shut (@haystacklaw04_StreamOnce_j4_B R)
theorem haystacklaw04_StreamOnce_j4_unf {R : Type} : @haystacklaw04_StreamOnce_j4 R = @haystacklaw04_StreamOnce_j4_B R := shut_eq _

noncomputable def haystacklaw04_StreamOnce_B {R : Type} (n0 : Int) (xs1 : List Int) (n2 : Int) (b3 : Bool) (K0 : Bool → Option R) : Option R :=
 haystacklaw04_small (n0) (xs1)
  (fun b6 => sel (!b6)
   (haystacklaw04_heads 
    (fun b438 => K0 (b438)))
   (haystackref02_Check (n0) (xs1)
    (fun b459 => sel (!b459)
     (haystacklaw04_heads 
      (fun b460 => K0 (b460)))
     (sel (decide (n2 < 0))
      (haystacklaw04_heads 
       (fun b461 => K0 (b461)))
      (sel (decide (n0 < n2))
       (haystacklaw04_heads 
        (fun b462 => K0 (b462)))
       (haystacklaw04_StreamOnce_j4 (n2) (b3) (n0) (xs1)
        (fun b538 => K0 (b538))))))))
noncomputable def haystacklaw04_StreamOnce {R : Type} := shut (@haystacklaw04_StreamOnce_B R)
theorem haystacklaw04_StreamOnce_unf {R : Type} : @haystacklaw04_StreamOnce R = @haystacklaw04_StreamOnce_B R := shut_eq _

noncomputable def haystackref01_Len_l3_T {R : Type} (rec : Int → Int → Option R) (n557 : Int) (n558 : Int) (K0 : Int → Option R) (K1 : Unit → Option R) : Option R :=
 sel (decide (0 < n558))
  (sel (decide (0 ≤ cvtW .u64 (subW .i64 n558 1)))
   (sel (decide (remW (shrW .u64 n557 (cvtW .u64 (subW .i64 n558 1))) 2 = 1))
    (K0 (n558))
    (rec (n557) (subW .i64 n558 1)))
   (none))
  (K1 ())
noncomputable def haystackref01_Len_l3_L {R : Type} (K0 : Int → Option R) (K1 : Unit → Option R) : Nat → Int → Int → Option R
  | 0, _, _ => none
  | N + 1, n557, n558 => haystackref01_Len_l3_T (haystackref01_Len_l3_L K0 K1 N) n557 n558 K0 K1
noncomputable def haystackref01_Len_l3_B {R : Type} (n557 : Int) (n558 : Int) (K0 : Int → Option R) (K1 : Unit → Option R) : Option R :=
 haystackref01_Len_l3_L K0 K1 NR n557 n558
noncomputable def haystackref01_Len_l3 {R : Type} := shut (@haystackref01_Len_l3_B R)
theorem haystackref01_Len_l3_unf {R : Type} : @haystackref01_Len_l3 R = @haystackref01_Len_l3_B R := shut_eq _

noncomputable def haystackref01_Len_B {R : Type} (n556 : Int) (K0 : Int → Option R) : Option R :=
 haystackref01_Len_l3 (n556) (64)
  (fun n559 => K0 (n559))
  (fun _ => K0 (0))
noncomputable def haystackref01_Len {R : Type} := shut (@haystackref01_Len_B R)
theorem haystackref01_Len_unf {R : Type} : @haystackref01_Len R = @haystackref01_Len_B R := shut_eq _

noncomputable def haystackref04_low_l4_1_T {R : Type} (rec : Int → Int → Nat → Int → List Bool → Option R) (n569 : Int) (n570 : Int) (l571 : Nat) (n572 : Int) (bs573 : List Bool) (K0 : Nat → List Bool → Option R) : Option R :=
 sel (decide (n572 < n570))
  (sel (decide (0 ≤ cvtW .u64 n572))
   (letV ([decide (remW (shrW .u64 n569 (cvtW .u64 n572)) 2 = 1)]) (fun (bs574 : List Bool) =>
   sel (decide (1 = List.length bs574))
    (sel (decide (List.length bs573 = l571))
     (sel (decide ((l571 + 1) * 1 ≤ 140737488355328))
      (letV (bs573 ++ bs574) (fun (bs575 : List Bool) =>
      rec (n569) (n570) (l571 + 1) (addW .i64 n572 1) (bs575)))
      (none))
     (none))
    (sel (decide (0 + 1 ≤ List.length bs574))
     (sel (decide (List.length bs573 = l571))
      (sel (decide ((l571 + 1) * 1 ≤ 140737488355328))
       (letV (bs573 ++ List.take 1 (List.drop 0 bs574)) (fun (bs576 : List Bool) =>
       rec (n569) (n570) (l571 + 1) (addW .i64 n572 1) (bs576)))
       (none))
      (none))
     (none))))
   (none))
  (K0 (l571) (bs573))
noncomputable def haystackref04_low_l4_1_L {R : Type} (K0 : Nat → List Bool → Option R) : Nat → Int → Int → Nat → Int → List Bool → Option R
  | 0, _, _, _, _, _ => none
  | N + 1, n569, n570, l571, n572, bs573 => haystackref04_low_l4_1_T (haystackref04_low_l4_1_L K0 N) n569 n570 l571 n572 bs573 K0
noncomputable def haystackref04_low_l4_1_B {R : Type} (n569 : Int) (n570 : Int) (l571 : Nat) (n572 : Int) (bs573 : List Bool) (K0 : Nat → List Bool → Option R) : Option R :=
 haystackref04_low_l4_1_L K0 NR n569 n570 l571 n572 bs573
noncomputable def haystackref04_low_l4_1 {R : Type} := shut (@haystackref04_low_l4_1_B R)
theorem haystackref04_low_l4_1_unf {R : Type} : @haystackref04_low_l4_1 R = @haystackref04_low_l4_1_B R := shut_eq _

noncomputable def haystackref04_low_l4_T {R : Type} (rec : Int → Int → Int → Option R) (rec0 : Int → Int → Nat → Int → List Bool → Option R) (n565 : Int) (n566 : Int) (n567 : Int) (K0 : Nat → List Bool → Option R) (K1 : Unit → Option R) : Option R :=
 sel (decide (n567 < n566))
  (sel (decide (0 ≤ cvtW .u64 n567))
   (letV ([decide (remW (shrW .u64 n565 (cvtW .u64 n567)) 2 = 1)]) (fun (bs568 : List Bool) =>
   sel (decide (1 = List.length bs568))
    (rec0 (n565) (n566) (1) (addW .i64 n567 1) (bs568))
    (sel (decide (0 + 1 ≤ List.length bs568))
     (letV (List.take 1 (List.drop 0 bs568)) (fun (bs577 : List Bool) =>
     rec0 (n565) (n566) (1) (addW .i64 n567 1) (bs577)))
     (none))))
   (none))
  (K1 ())
noncomputable def haystackref04_low_l4_L {R : Type} (K0 : Nat → List Bool → Option R) (K1 : Unit → Option R) : Nat → Int → Int → Int → Option R
  | 0, _, _, _ => none
  | N + 1, n565, n566, n567 => haystackref04_low_l4_T (haystackref04_low_l4_L K0 K1 N) (haystackref04_low_l4_1_L K0 N) n565 n566 n567 K0 K1
noncomputable def haystackref04_low_l4_B {R : Type} (n565 : Int) (n566 : Int) (n567 : Int) (K0 : Nat → List Bool → Option R) (K1 : Unit → Option R) : Option R :=
 haystackref04_low_l4_L K0 K1 NR n565 n566 n567
noncomputable def haystackref04_low_l4 {R : Type} := shut (@haystackref04_low_l4_B R)
theorem haystackref04_low_l4_unf {R : Type} : @haystackref04_low_l4 R = @haystackref04_low_l4_B R := shut_eq _

noncomputable def haystackref04_low_B {R : Type} (n563 : Int) (n564 : Int) (K0 : List Bool → Option R) : Option R :=
 haystackref04_low_l4 (n563) (n564) (0)
  (fun l578 bs579 => sel (decide (l578 = List.length bs579))
   (K0 (bs579))
   (sel (decide (0 + l578 ≤ List.length bs579))
    (K0 (List.take l578 (List.drop 0 bs579)))
    (none)))
  (fun _ => K0 ([]))
noncomputable def haystackref04_low {R : Type} := shut (@haystackref04_low_B R)
theorem haystackref04_low_unf {R : Type} : @haystackref04_low R = @haystackref04_low_B R := shut_eq _

noncomputable def haystackref04_gamma_B {R : Type} (n555 : Int) (K0 : List Bool → Option R) : Option R :=
 haystackref01_Len (n555)
  (fun n560 => sel (decide (0 ≤ subW .i64 n560 1))
   (sel (decide (subW .i64 n560 1 ≤ subW .i64 n560 1))
    (sel (decide (subW .i64 n560 1 ≤ 281474976710656))
     (sel (decide ((↑1 : Int) * subW .i64 n560 1 ≤ 281474976710656))
      (letV (List.replicate (Int.toNat (subW .i64 n560 1)) false) (fun (bs561 : List Bool) =>
      sel (decide (List.length bs561 = Int.toNat (subW .i64 n560 1)))
       (sel (decide ((Int.toNat (subW .i64 n560 1) + 1) * 1 ≤ 140737488355328))
        (letV (bs561 ++ [true]) (fun (bs562 : List Bool) =>
        haystackref04_low (n555) (subW .i64 n560 1)
         (fun bs580 => sel (decide (List.length bs562 = Nat.succ (Nat.add (Int.toNat (subW .i64 n560 1)) 0)))
          (sel (decide ((Int.toNat (subW .i64 n560 1) + 1 + List.length bs580) * 1 ≤ 140737488355328))
           (letV (bs562 ++ bs580) (fun (bs581 : List Bool) =>
           sel (decide (Int.toNat (subW .i64 n560 1) + 1 + List.length bs580 = List.length bs581))
            (K0 (bs581))
            (sel (decide (0 + Nat.add (Int.toNat (subW .i64 n560 1) + 1) (List.length bs580) ≤ List.length bs581))
             (K0 (List.take (Nat.add (Int.toNat (subW .i64 n560 1) + 1) (List.length bs580)) (List.drop 0 bs581)))
             (none))))
           (none))
          (none))))
        (none))
       (none)))
      (none))
     (none))
    (none))
   (none))
noncomputable def haystackref04_gamma {R : Type} := shut (@haystackref04_gamma_B R)
theorem haystackref04_gamma_unf {R : Type} : @haystackref04_gamma R = @haystackref04_gamma_B R := shut_eq _

noncomputable def haystackref02_New_j3_B {R : Type} (n588 : Int) (b589 : Bool) (n590 : Int) (K0 : Int → Int → Option R) (K1 : Int → Int → Option R) : Option R :=
 sel (b589)
  (K0 (2) (0))
  (K1 (n588) (n590))
noncomputable def haystackref02_New_j3 {R : Type} := shut (@haystackref02_New_j3_B R)
theorem haystackref02_New_j3_unf {R : Type} : @haystackref02_New_j3 R = @haystackref02_New_j3_B R := shut_eq _

noncomputable def haystackref02_New_j4_B {R : Type} (n595 : Int) (_n596 : Int) (K0 : Int → Int → Nat → List Int → Option R) : Option R :=
 haystackref02_Words (n595)
  (fun n597 => sel (decide (0 ≤ n597))
   (sel (decide (n597 ≤ n597))
    (sel (decide (n597 ≤ 281474976710656))
     (sel (decide ((↑8 : Int) * n597 ≤ 281474976710656))
      (letV (List.replicate (Int.toNat n597) 0) (fun (xs598 : List Int) =>
      K0 (0) (n595) (Int.toNat n597) (xs598)))
      (none))
     (none))
    (none))
   (none))
noncomputable def haystackref02_New_j4 {R : Type} := shut (@haystackref02_New_j4_B R)
theorem haystackref02_New_j4_unf {R : Type} : @haystackref02_New_j4 R = @haystackref02_New_j4_B R := shut_eq _

noncomputable def haystackref02_New_r_B {R : Type} (n587 : Int) (K0 : Int → Int → Option R) (K1 : Int → Nat → Int → List Int → Option R) : Option R :=
 sel (decide (n587 < 0))
  (haystackref02_New_j3 (n587) (true) (0)
   (fun n591 n592 => K0 (n592) (n591))
   (fun n593 n594 => haystackref02_New_j4 (n593) (n594)
    (fun n599 n600 l601 xs602 => K1 (n600) (l601) (n599) (xs602))))
  (haystackref02_New_j3 (n587) (decide (1048576 < n587)) (0)
   (fun n603 n604 => K0 (n604) (n603))
   (fun n605 n606 => haystackref02_New_j4 (n605) (n606)
    (fun n607 n608 l609 xs610 => K1 (n608) (l609) (n607) (xs610))))
noncomputable def haystackref02_New_r {R : Type} := shut (@haystackref02_New_r_B R)
theorem haystackref02_New_r_unf {R : Type} : @haystackref02_New_r R = @haystackref02_New_r_B R := shut_eq _

noncomputable def haystackref02_put_B {R : Type} (xs618 : List Int) (n619 : Int) (_b620 : Bool) : Option R :=
 sel (decide (0 ≤ quoW .i64 n619 64))
  (sel (decide (quoW .i64 n619 64 < (↑(List.length xs618) : Int)))
   (sel (decide (0 ≤ cvtW .u64 (remW n619 64)))
    (sel (decide (0 ≤ quoW .i64 n619 64))
     (sel (decide (quoW .i64 n619 64 < (↑(List.length xs618) : Int)))
      (none)
      (none))
     (none))
    (none))
   (none))
  (none)
noncomputable def haystackref02_put {R : Type} := shut (@haystackref02_put_B R)
theorem haystackref02_put_unf {R : Type} : @haystackref02_put R = @haystackref02_put_B R := shut_eq _

noncomputable def haystackref02_From_l4_T {R : Type} (rec : List Bool → Int → Int → Int → Int → Option R) (bs613 : List Bool) (n614 : Int) (n615 : Int) (n616 : Int) (n617 : Int) (K0 : Int → Int → Int → Option R) : Option R :=
 sel (decide (n615 < n617))
  (sel (decide (0 ≤ n615))
   (sel (decide (n615 < (↑(List.length bs613) : Int)))
    (haystackref02_put ([]) (n615) (List.getD bs613 (Int.toNat n615) false))
    (none))
   (none))
  (K0 (n614) (n616) (n617))
noncomputable def haystackref02_From_l4_L {R : Type} (K0 : Int → Int → Int → Option R) : Nat → List Bool → Int → Int → Int → Int → Option R
  | 0, _, _, _, _, _ => none
  | N + 1, bs613, n614, n615, n616, n617 => haystackref02_From_l4_T (haystackref02_From_l4_L K0 N) bs613 n614 n615 n616 n617 K0
noncomputable def haystackref02_From_l4_B {R : Type} (bs613 : List Bool) (n614 : Int) (n615 : Int) (n616 : Int) (n617 : Int) (K0 : Int → Int → Int → Option R) : Option R :=
 haystackref02_From_l4_L K0 NR bs613 n614 n615 n616 n617
noncomputable def haystackref02_From_l4 {R : Type} := shut (@haystackref02_From_l4_B R)
theorem haystackref02_From_l4_unf {R : Type} : @haystackref02_From_l4 R = @haystackref02_From_l4_B R := shut_eq _

noncomputable def haystackref02_put_r_B {R : Type} (l635 : Nat) (n636 : Int) (b637 : Bool) (xs638 : List Int) (K0 : List Int → Option R) : Option R :=
 sel (decide (0 ≤ quoW .i64 n636 64))
  (sel (decide (quoW .i64 n636 64 < (↑l635 : Int)))
   (sel (decide (Int.toNat (quoW .i64 n636 64) < List.length xs638))
    (sel (decide (0 ≤ cvtW .u64 (remW n636 64)))
     (sel (decide (0 ≤ quoW .i64 n636 64))
      (sel (decide (quoW .i64 n636 64 < (↑l635 : Int)))
       (sel (decide (Int.toNat (quoW .i64 n636 64) < List.length xs638))
        (letV (List.set xs638 (Int.toNat (quoW .i64 n636 64)) (andNotW .u64 (List.getD xs638 (Int.toNat (quoW .i64 n636 64)) 0) (shlW .u64 1 (cvtW .u64 (remW n636 64))))) (fun (xs639 : List Int) =>
        sel (b637)
         (sel (decide (0 ≤ quoW .i64 n636 64))
          (sel (decide (quoW .i64 n636 64 < (↑l635 : Int)))
           (sel (decide (Int.toNat (quoW .i64 n636 64) < List.length xs639))
            (sel (decide (0 ≤ cvtW .u64 (remW n636 64)))
             (sel (decide (0 ≤ quoW .i64 n636 64))
              (sel (decide (quoW .i64 n636 64 < (↑l635 : Int)))
               (sel (decide (Int.toNat (quoW .i64 n636 64) < List.length xs639))
                (letV (List.set xs639 (Int.toNat (quoW .i64 n636 64)) (orW .u64 (List.getD xs639 (Int.toNat (quoW .i64 n636 64)) 0) (shlW .u64 1 (cvtW .u64 (remW n636 64))))) (fun (xs640 : List Int) =>
                K0 (xs640)))
                (none))
               (none))
              (none))
             (none))
            (none))
           (none))
          (none))
         (K0 (xs639))))
        (none))
       (none))
      (none))
     (none))
    (none))
   (none))
  (none)
noncomputable def haystackref02_put_r {R : Type} := shut (@haystackref02_put_r_B R)
theorem haystackref02_put_r_unf {R : Type} : @haystackref02_put_r R = @haystackref02_put_r_B R := shut_eq _

noncomputable def haystackref02_From_l4_1_T {R : Type} (rec : List Bool → Int → Int → Int → Int → Nat → List Int → Option R) (bs628 : List Bool) (n629 : Int) (n630 : Int) (n631 : Int) (n632 : Int) (l633 : Nat) (xs634 : List Int) (K0 : Int → Int → Int → Nat → List Int → Option R) : Option R :=
 sel (decide (n630 < n632))
  (sel (decide (0 ≤ n630))
   (sel (decide (n630 < (↑(List.length bs628) : Int)))
    (haystackref02_put_r (l633) (n630) (List.getD bs628 (Int.toNat n630) false) (xs634)
     (fun xs641 => rec (bs628) (n629) (addW .i64 n630 1) (n631) (n632) (l633) (xs641)))
    (none))
   (none))
  (K0 (n629) (n631) (n632) (l633) (xs634))
noncomputable def haystackref02_From_l4_1_L {R : Type} (K0 : Int → Int → Int → Nat → List Int → Option R) : Nat → List Bool → Int → Int → Int → Int → Nat → List Int → Option R
  | 0, _, _, _, _, _, _, _ => none
  | N + 1, bs628, n629, n630, n631, n632, l633, xs634 => haystackref02_From_l4_1_T (haystackref02_From_l4_1_L K0 N) bs628 n629 n630 n631 n632 l633 xs634 K0
noncomputable def haystackref02_From_l4_1_B {R : Type} (bs628 : List Bool) (n629 : Int) (n630 : Int) (n631 : Int) (n632 : Int) (l633 : Nat) (xs634 : List Int) (K0 : Int → Int → Int → Nat → List Int → Option R) : Option R :=
 haystackref02_From_l4_1_L K0 NR bs628 n629 n630 n631 n632 l633 xs634
noncomputable def haystackref02_From_l4_1 {R : Type} := shut (@haystackref02_From_l4_1_B R)
theorem haystackref02_From_l4_1_unf {R : Type} : @haystackref02_From_l4_1 R = @haystackref02_From_l4_1_B R := shut_eq _

noncomputable def haystackref02_From_B {R : Type} (bs586 : List Bool) (K0 : Int → List Int → Int → Option R) : Option R :=
 haystackref02_New_r ((↑(List.length bs586) : Int))
  (fun n611 n612 => haystackref02_From_l4 (bs586) (n612) (0) (0) (n611)
   (fun n621 n622 n623 => K0 (n623) ([]) (n621)))
  (fun n624 l625 n626 xs627 => haystackref02_From_l4_1 (bs586) (n626) (0) (0) (n624) (l625) (xs627)
   (fun n642 n643 n644 l645 xs646 => sel (decide (l645 = List.length xs646))
    (K0 (n644) (xs646) (n642))
    (sel (decide (0 + l645 ≤ List.length xs646))
     (K0 (n644) (List.take l645 (List.drop 0 xs646)) (n642))
     (none))))
noncomputable def haystackref02_From {R : Type} := shut (@haystackref02_From_B R)
theorem haystackref02_From_unf {R : Type} : @haystackref02_From R = @haystackref02_From_B R := shut_eq _

noncomputable def haystackref02_Join_j3_B {R : Type} (b655 : Bool) (n656 : Int) (xs657 : List Int) (n658 : Int) (xs659 : List Int) (n660 : Int) (K0 : Int → Int → List Int → Option R) (K1 : Int → List Int → Int → List Int → Int → Option R) : Option R :=
 sel (b655)
  (K0 (2) (n656) (xs657))
  (K1 (n656) (xs657) (n658) (xs659) (n660))
noncomputable def haystackref02_Join_j3 {R : Type} := shut (@haystackref02_Join_j3_B R)
theorem haystackref02_Join_j3_unf {R : Type} : @haystackref02_Join_j3 R = @haystackref02_Join_j3_B R := shut_eq _

noncomputable def haystackref02_Bools_l4_1_T {R : Type} (rec : Nat → Int → Int → List Int → List Bool → Option R) (l681 : Nat) (n682 : Int) (n683 : Int) (xs684 : List Int) (bs685 : List Bool) (K0 : Nat → List Bool → Option R) : Option R :=
 sel (decide (n682 < n683))
  (haystackref02_At (n683) (xs684) (n682)
   (fun b686 => letV ([b686]) (fun (bs687 : List Bool) =>
   sel (decide (1 = List.length bs687))
    (sel (decide (List.length bs685 = l681))
     (sel (decide ((l681 + 1) * 1 ≤ 140737488355328))
      (letV (bs685 ++ bs687) (fun (bs688 : List Bool) =>
      rec (l681 + 1) (addW .i64 n682 1) (n683) (xs684) (bs688)))
      (none))
     (none))
    (sel (decide (0 + 1 ≤ List.length bs687))
     (sel (decide (List.length bs685 = l681))
      (sel (decide ((l681 + 1) * 1 ≤ 140737488355328))
       (letV (bs685 ++ List.take 1 (List.drop 0 bs687)) (fun (bs689 : List Bool) =>
       rec (l681 + 1) (addW .i64 n682 1) (n683) (xs684) (bs689)))
       (none))
      (none))
     (none)))))
  (K0 (l681) (bs685))
noncomputable def haystackref02_Bools_l4_1_L {R : Type} (K0 : Nat → List Bool → Option R) : Nat → Nat → Int → Int → List Int → List Bool → Option R
  | 0, _, _, _, _, _ => none
  | N + 1, l681, n682, n683, xs684, bs685 => haystackref02_Bools_l4_1_T (haystackref02_Bools_l4_1_L K0 N) l681 n682 n683 xs684 bs685 K0
noncomputable def haystackref02_Bools_l4_1_B {R : Type} (l681 : Nat) (n682 : Int) (n683 : Int) (xs684 : List Int) (bs685 : List Bool) (K0 : Nat → List Bool → Option R) : Option R :=
 haystackref02_Bools_l4_1_L K0 NR l681 n682 n683 xs684 bs685
noncomputable def haystackref02_Bools_l4_1 {R : Type} := shut (@haystackref02_Bools_l4_1_B R)
theorem haystackref02_Bools_l4_1_unf {R : Type} : @haystackref02_Bools_l4_1 R = @haystackref02_Bools_l4_1_B R := shut_eq _

noncomputable def haystackref02_Bools_l4_T {R : Type} (rec : Int → Int → List Int → Option R) (rec0 : Nat → Int → Int → List Int → List Bool → Option R) (n676 : Int) (n677 : Int) (xs678 : List Int) (K0 : Nat → List Bool → Option R) (K1 : Unit → Option R) : Option R :=
 sel (decide (n676 < n677))
  (haystackref02_At (n677) (xs678) (n676)
   (fun b679 => letV ([b679]) (fun (bs680 : List Bool) =>
   sel (decide (1 = List.length bs680))
    (rec0 (1) (addW .i64 n676 1) (n677) (xs678) (bs680))
    (sel (decide (0 + 1 ≤ List.length bs680))
     (letV (List.take 1 (List.drop 0 bs680)) (fun (bs690 : List Bool) =>
     rec0 (1) (addW .i64 n676 1) (n677) (xs678) (bs690)))
     (none)))))
  (K1 ())
noncomputable def haystackref02_Bools_l4_L {R : Type} (K0 : Nat → List Bool → Option R) (K1 : Unit → Option R) : Nat → Int → Int → List Int → Option R
  | 0, _, _, _ => none
  | N + 1, n676, n677, xs678 => haystackref02_Bools_l4_T (haystackref02_Bools_l4_L K0 K1 N) (haystackref02_Bools_l4_1_L K0 N) n676 n677 xs678 K0 K1
noncomputable def haystackref02_Bools_l4_B {R : Type} (n676 : Int) (n677 : Int) (xs678 : List Int) (K0 : Nat → List Bool → Option R) (K1 : Unit → Option R) : Option R :=
 haystackref02_Bools_l4_L K0 K1 NR n676 n677 xs678
noncomputable def haystackref02_Bools_l4 {R : Type} := shut (@haystackref02_Bools_l4_B R)
theorem haystackref02_Bools_l4_unf {R : Type} : @haystackref02_Bools_l4 R = @haystackref02_Bools_l4_B R := shut_eq _

noncomputable def haystackref02_Bools_r_B {R : Type} (n674 : Int) (xs675 : List Int) (K0 : Nat → List Bool → Option R) (K1 : Unit → Option R) : Option R :=
 haystackref02_Bools_l4 (0) (n674) (xs675)
  (fun l691 bs692 => K0 (l691) (bs692))
  (fun _ => K1 ())
noncomputable def haystackref02_Bools_r {R : Type} := shut (@haystackref02_Bools_r_B R)
theorem haystackref02_Bools_r_unf {R : Type} : @haystackref02_Bools_r R = @haystackref02_Bools_r_B R := shut_eq _

noncomputable def haystackref02_From_l4_2_T {R : Type} (rec : Nat → Int → Int → List Bool → Int → Int → Option R) (l702 : Nat) (n703 : Int) (n704 : Int) (bs705 : List Bool) (n706 : Int) (n707 : Int) (K0 : Int → List Bool → Int → Int → Option R) : Option R :=
 sel (decide (n704 < n707))
  (sel (decide (0 ≤ n704))
   (sel (decide (n704 < (↑l702 : Int)))
    (sel (decide (Int.toNat n704 < List.length bs705))
     (haystackref02_put ([]) (n704) (List.getD bs705 (Int.toNat n704) false))
     (none))
    (none))
   (none))
  (K0 (n703) (bs705) (n706) (n707))
noncomputable def haystackref02_From_l4_2_L {R : Type} (K0 : Int → List Bool → Int → Int → Option R) : Nat → Nat → Int → Int → List Bool → Int → Int → Option R
  | 0, _, _, _, _, _, _ => none
  | N + 1, l702, n703, n704, bs705, n706, n707 => haystackref02_From_l4_2_T (haystackref02_From_l4_2_L K0 N) l702 n703 n704 bs705 n706 n707 K0
noncomputable def haystackref02_From_l4_2_B {R : Type} (l702 : Nat) (n703 : Int) (n704 : Int) (bs705 : List Bool) (n706 : Int) (n707 : Int) (K0 : Int → List Bool → Int → Int → Option R) : Option R :=
 haystackref02_From_l4_2_L K0 NR l702 n703 n704 bs705 n706 n707
noncomputable def haystackref02_From_l4_2 {R : Type} := shut (@haystackref02_From_l4_2_B R)
theorem haystackref02_From_l4_2_unf {R : Type} : @haystackref02_From_l4_2 R = @haystackref02_From_l4_2_B R := shut_eq _

noncomputable def haystackref02_From_l4_3_T {R : Type} (rec : Nat → Int → Int → List Bool → Int → Int → Nat → List Int → Option R) (l716 : Nat) (n717 : Int) (n718 : Int) (bs719 : List Bool) (n720 : Int) (n721 : Int) (l722 : Nat) (xs723 : List Int) (K0 : Int → List Bool → Int → Int → Nat → List Int → Option R) : Option R :=
 sel (decide (n718 < n721))
  (sel (decide (0 ≤ n718))
   (sel (decide (n718 < (↑l716 : Int)))
    (sel (decide (Int.toNat n718 < List.length bs719))
     (haystackref02_put_r (l722) (n718) (List.getD bs719 (Int.toNat n718) false) (xs723)
      (fun xs724 => rec (l716) (n717) (addW .i64 n718 1) (bs719) (n720) (n721) (l722) (xs724)))
     (none))
    (none))
   (none))
  (K0 (n717) (bs719) (n720) (n721) (l722) (xs723))
noncomputable def haystackref02_From_l4_3_L {R : Type} (K0 : Int → List Bool → Int → Int → Nat → List Int → Option R) : Nat → Nat → Int → Int → List Bool → Int → Int → Nat → List Int → Option R
  | 0, _, _, _, _, _, _, _, _ => none
  | N + 1, l716, n717, n718, bs719, n720, n721, l722, xs723 => haystackref02_From_l4_3_T (haystackref02_From_l4_3_L K0 N) l716 n717 n718 bs719 n720 n721 l722 xs723 K0
noncomputable def haystackref02_From_l4_3_B {R : Type} (l716 : Nat) (n717 : Int) (n718 : Int) (bs719 : List Bool) (n720 : Int) (n721 : Int) (l722 : Nat) (xs723 : List Int) (K0 : Int → List Bool → Int → Int → Nat → List Int → Option R) : Option R :=
 haystackref02_From_l4_3_L K0 NR l716 n717 n718 bs719 n720 n721 l722 xs723
noncomputable def haystackref02_From_l4_3 {R : Type} := shut (@haystackref02_From_l4_3_B R)
theorem haystackref02_From_l4_3_unf {R : Type} : @haystackref02_From_l4_3 R = @haystackref02_From_l4_3_B R := shut_eq _

noncomputable def haystackref02_From_r_B {R : Type} (l698 : Nat) (bs699 : List Bool) (K0 : Int → Int → List Bool → Option R) (K1 : Int → Nat → Int → List Bool → List Int → Option R) : Option R :=
 haystackref02_New_r ((↑l698 : Int))
  (fun n700 n701 => haystackref02_From_l4_2 (l698) (n701) (0) (bs699) (0) (n700)
   (fun n708 bs709 n710 n711 => K0 (n711) (n708) (bs709)))
  (fun n712 l713 n714 xs715 => haystackref02_From_l4_3 (l698) (n714) (0) (bs699) (0) (n712) (l713) (xs715)
   (fun n725 bs726 n727 n728 l729 xs730 => K1 (n728) (l729) (n725) (bs726) (xs730)))
noncomputable def haystackref02_From_r {R : Type} := shut (@haystackref02_From_r_B R)
theorem haystackref02_From_r_unf {R : Type} : @haystackref02_From_r R = @haystackref02_From_r_B R := shut_eq _

noncomputable def haystackref02_From_l4_4_T {R : Type} (rec : Nat → Int → Int → Int → Int → Option R) (l778 : Nat) (n779 : Int) (n780 : Int) (n781 : Int) (n782 : Int) (K0 : Int → Int → Int → Option R) : Option R :=
 sel (decide (n780 < n782))
  (sel (decide (0 ≤ n780))
   (sel (decide (n780 < (↑l778 : Int)))
    (none)
    (none))
   (none))
  (K0 (n779) (n781) (n782))
noncomputable def haystackref02_From_l4_4_L {R : Type} (K0 : Int → Int → Int → Option R) : Nat → Nat → Int → Int → Int → Int → Option R
  | 0, _, _, _, _, _ => none
  | N + 1, l778, n779, n780, n781, n782 => haystackref02_From_l4_4_T (haystackref02_From_l4_4_L K0 N) l778 n779 n780 n781 n782 K0
noncomputable def haystackref02_From_l4_4_B {R : Type} (l778 : Nat) (n779 : Int) (n780 : Int) (n781 : Int) (n782 : Int) (K0 : Int → Int → Int → Option R) : Option R :=
 haystackref02_From_l4_4_L K0 NR l778 n779 n780 n781 n782
noncomputable def haystackref02_From_l4_4 {R : Type} := shut (@haystackref02_From_l4_4_B R)
theorem haystackref02_From_l4_4_unf {R : Type} : @haystackref02_From_l4_4 R = @haystackref02_From_l4_4_B R := shut_eq _

noncomputable def haystackref02_From_l4_5_T {R : Type} (rec : Nat → Int → Int → Int → Int → Nat → List Int → Option R) (l790 : Nat) (n791 : Int) (n792 : Int) (n793 : Int) (n794 : Int) (l795 : Nat) (xs796 : List Int) (K0 : Int → Int → Int → Nat → List Int → Option R) : Option R :=
 sel (decide (n792 < n794))
  (sel (decide (0 ≤ n792))
   (sel (decide (n792 < (↑l790 : Int)))
    (none)
    (none))
   (none))
  (K0 (n791) (n793) (n794) (l795) (xs796))
noncomputable def haystackref02_From_l4_5_L {R : Type} (K0 : Int → Int → Int → Nat → List Int → Option R) : Nat → Nat → Int → Int → Int → Int → Nat → List Int → Option R
  | 0, _, _, _, _, _, _, _ => none
  | N + 1, l790, n791, n792, n793, n794, l795, xs796 => haystackref02_From_l4_5_T (haystackref02_From_l4_5_L K0 N) l790 n791 n792 n793 n794 l795 xs796 K0
noncomputable def haystackref02_From_l4_5_B {R : Type} (l790 : Nat) (n791 : Int) (n792 : Int) (n793 : Int) (n794 : Int) (l795 : Nat) (xs796 : List Int) (K0 : Int → Int → Int → Nat → List Int → Option R) : Option R :=
 haystackref02_From_l4_5_L K0 NR l790 n791 n792 n793 n794 l795 xs796
noncomputable def haystackref02_From_l4_5 {R : Type} := shut (@haystackref02_From_l4_5_B R)
theorem haystackref02_From_l4_5_unf {R : Type} : @haystackref02_From_l4_5 R = @haystackref02_From_l4_5_B R := shut_eq _

noncomputable def haystackref02_From_r_1_B {R : Type} (l775 : Nat) (K0 : Int → Int → Option R) (K1 : Int → Nat → Int → List Int → Option R) : Option R :=
 haystackref02_New_r ((↑l775 : Int))
  (fun n776 n777 => haystackref02_From_l4_4 (l775) (n777) (0) (0) (n776)
   (fun n783 n784 n785 => K0 (n785) (n783)))
  (fun n786 l787 n788 xs789 => haystackref02_From_l4_5 (l775) (n788) (0) (0) (n786) (l787) (xs789)
   (fun n797 n798 n799 l800 xs801 => K1 (n799) (l800) (n797) (xs801)))
noncomputable def haystackref02_From_r_1 {R : Type} := shut (@haystackref02_From_r_1_B R)
theorem haystackref02_From_r_1_unf {R : Type} : @haystackref02_From_r_1 R = @haystackref02_From_r_1_B R := shut_eq _

noncomputable def haystackref02_Join_j4_B {R : Type} (n669 : Int) (xs670 : List Int) (n671 : Int) (xs672 : List Int) (_n673 : Int) (K0 : Int → Int → Option R) (K1 : Int → Int → Nat → List Int → Option R) : Option R :=
 haystackref02_Bools_r (n669) (xs670)
  (fun l693 bs694 => haystackref02_Bools_r (n671) (xs672)
   (fun l695 bs696 => sel (decide (l695 = List.length bs696))
    (sel (decide (List.length bs694 = l693))
     (sel (decide ((l693 + l695) * 1 ≤ 140737488355328))
      (letV (bs694 ++ bs696) (fun (bs697 : List Bool) =>
      haystackref02_From_r (l693 + l695) (bs697)
       (fun n731 n732 bs733 => K0 (n732) (n731))
       (fun n734 l735 n736 bs737 xs738 => K1 (n736) (n734) (l735) (xs738))))
      (none))
     (none))
    (sel (decide (0 + l695 ≤ List.length bs696))
     (sel (decide (List.length bs694 = l693))
      (sel (decide ((l693 + l695) * 1 ≤ 140737488355328))
       (letV (bs694 ++ List.take l695 (List.drop 0 bs696)) (fun (bs739 : List Bool) =>
       haystackref02_From_r (l693 + l695) (bs739)
        (fun n740 n741 bs742 => K0 (n741) (n740))
        (fun n743 l744 n745 bs746 xs747 => K1 (n745) (n743) (l744) (xs747))))
       (none))
      (none))
     (none)))
   (fun _ => sel (decide (List.length bs694 = l693))
    (sel (decide ((l693 + 0) * 1 ≤ 140737488355328))
     (haystackref02_From_r (l693 + 0) (bs694)
      (fun n748 n749 bs750 => K0 (n749) (n748))
      (fun n751 l752 n753 bs754 xs755 => K1 (n753) (n751) (l752) (xs755)))
     (none))
    (none)))
  (fun _ => haystackref02_Bools_r (n671) (xs672)
   (fun l756 bs757 => sel (decide (l756 = List.length bs757))
    (sel (decide (l756 * 1 ≤ 140737488355328))
     (haystackref02_From_r (l756) (bs757)
      (fun n758 n759 bs760 => K0 (n759) (n758))
      (fun n761 l762 n763 bs764 xs765 => K1 (n763) (n761) (l762) (xs765)))
     (none))
    (sel (decide (0 + l756 ≤ List.length bs757))
     (sel (decide (l756 * 1 ≤ 140737488355328))
      (letV (List.take l756 (List.drop 0 bs757)) (fun (bs766 : List Bool) =>
      haystackref02_From_r (l756) (bs766)
       (fun n767 n768 bs769 => K0 (n768) (n767))
       (fun n770 l771 n772 bs773 xs774 => K1 (n772) (n770) (l771) (xs774))))
      (none))
     (none)))
   (fun _ => haystackref02_From_r_1 (0)
    (fun n802 n803 => K0 (n803) (n802))
    (fun n804 l805 n806 xs807 => K1 (n806) (n804) (l805) (xs807))))
noncomputable def haystackref02_Join_j4 {R : Type} := shut (@haystackref02_Join_j4_B R)
theorem haystackref02_Join_j4_unf {R : Type} : @haystackref02_Join_j4 R = @haystackref02_Join_j4_B R := shut_eq _

noncomputable def haystackref02_Join_B {R : Type} (n650 : Int) (xs651 : List Int) (n652 : Int) (xs653 : List Int) (K0 : Int → List Int → Int → Option R) : Option R :=
 haystackref02_Check (n650) (xs651)
  (fun b654 => sel (!b654)
   (haystackref02_Join_j3 (true) (n650) (xs651) (n652) (xs653) (0)
    (fun n661 n662 xs663 => K0 (n662) (xs663) (n661))
    (fun n664 xs665 n666 xs667 n668 => haystackref02_Join_j4 (n664) (xs665) (n666) (xs667) (n668)
     (fun n808 n809 => K0 (n809) ([]) (n808))
     (fun n810 n811 l812 xs813 => sel (decide (l812 = List.length xs813))
      (K0 (n811) (xs813) (n810))
      (sel (decide (0 + l812 ≤ List.length xs813))
       (K0 (n811) (List.take l812 (List.drop 0 xs813)) (n810))
       (none)))))
   (haystackref02_Check (n652) (xs653)
    (fun b814 => sel (!b814)
     (haystackref02_Join_j3 (true) (n650) (xs651) (n652) (xs653) (0)
      (fun n815 n816 xs817 => K0 (n816) (xs817) (n815))
      (fun n818 xs819 n820 xs821 n822 => haystackref02_Join_j4 (n818) (xs819) (n820) (xs821) (n822)
       (fun n823 n824 => K0 (n824) ([]) (n823))
       (fun n825 n826 l827 xs828 => sel (decide (l827 = List.length xs828))
        (K0 (n826) (xs828) (n825))
        (sel (decide (0 + l827 ≤ List.length xs828))
         (K0 (n826) (List.take l827 (List.drop 0 xs828)) (n825))
         (none)))))
     (haystackref02_Join_j3 (decide (1048576 < addW .i64 n650 n652)) (n650) (xs651) (n652) (xs653) (0)
      (fun n829 n830 xs831 => K0 (n830) (xs831) (n829))
      (fun n832 xs833 n834 xs835 n836 => haystackref02_Join_j4 (n832) (xs833) (n834) (xs835) (n836)
       (fun n837 n838 => K0 (n838) ([]) (n837))
       (fun n839 n840 l841 xs842 => sel (decide (l841 = List.length xs842))
        (K0 (n840) (xs842) (n839))
        (sel (decide (0 + l841 ≤ List.length xs842))
         (K0 (n840) (List.take l841 (List.drop 0 xs842)) (n839))
         (none))))))))
noncomputable def haystackref02_Join {R : Type} := shut (@haystackref02_Join_B R)
theorem haystackref02_Join_unf {R : Type} : @haystackref02_Join R = @haystackref02_Join_B R := shut_eq _

noncomputable def haystackref04_put_B {R : Type} (n583 : Int) (xs584 : List Int) (bs585 : List Bool) (K0 : Int → List Int → Int → Option R) : Option R :=
 haystackref02_From (bs585)
  (fun n647 xs648 n649 => haystackref02_Join (n583) (xs584) (n647) (xs648)
   (fun n843 xs844 n845 => sel (!decide (n845 = 0))
    (K0 (n583) (xs584) (2))
    (K0 (n843) (xs844) (0))))
noncomputable def haystackref04_put {R : Type} := shut (@haystackref04_put_B R)
theorem haystackref04_put_unf {R : Type} : @haystackref04_put R = @haystackref04_put_B R := shut_eq _

noncomputable def haystackref04_PutGamma_B {R : Type} (n552 : Int) (xs553 : List Int) (n554 : Int) (K0 : Int → List Int → Int → Option R) : Option R :=
 sel (decide (n554 = 0))
  (K0 (n552) (xs553) (2))
  (haystackref04_gamma (n554)
   (fun bs582 => haystackref04_put (n552) (xs553) (bs582)
    (fun n846 xs847 n848 => K0 (n846) (xs847) (n848))))
noncomputable def haystackref04_PutGamma {R : Type} := shut (@haystackref04_PutGamma_B R)
theorem haystackref04_PutGamma_unf {R : Type} : @haystackref04_PutGamma R = @haystackref04_PutGamma_B R := shut_eq _

noncomputable def haystackref04_gamma_r_B {R : Type} (n860 : Int) (K0 : Nat → List Bool → Option R) : Option R :=
 haystackref01_Len (n860)
  (fun n861 => sel (decide (0 ≤ subW .i64 n861 1))
   (sel (decide (subW .i64 n861 1 ≤ subW .i64 n861 1))
    (sel (decide (subW .i64 n861 1 ≤ 281474976710656))
     (sel (decide ((↑1 : Int) * subW .i64 n861 1 ≤ 281474976710656))
      (letV (List.replicate (Int.toNat (subW .i64 n861 1)) false) (fun (bs862 : List Bool) =>
      sel (decide (List.length bs862 = Int.toNat (subW .i64 n861 1)))
       (sel (decide ((Int.toNat (subW .i64 n861 1) + 1) * 1 ≤ 140737488355328))
        (letV (bs862 ++ [true]) (fun (bs863 : List Bool) =>
        haystackref04_low (n860) (subW .i64 n861 1)
         (fun bs864 => sel (decide (List.length bs863 = Nat.succ (Nat.add (Int.toNat (subW .i64 n861 1)) 0)))
          (sel (decide ((Int.toNat (subW .i64 n861 1) + 1 + List.length bs864) * 1 ≤ 140737488355328))
           (letV (bs863 ++ bs864) (fun (bs865 : List Bool) =>
           K0 (Int.toNat (subW .i64 n861 1) + 1 + List.length bs864) (bs865)))
           (none))
          (none))))
        (none))
       (none)))
      (none))
     (none))
    (none))
   (none))
noncomputable def haystackref04_gamma_r {R : Type} := shut (@haystackref04_gamma_r_B R)
theorem haystackref04_gamma_r_unf {R : Type} : @haystackref04_gamma_r R = @haystackref04_gamma_r_B R := shut_eq _

noncomputable def haystackref04_delta_B {R : Type} (n858 : Int) (K0 : List Bool → Option R) : Option R :=
 haystackref01_Len (n858)
  (fun n859 => haystackref04_gamma_r (cvtW .u64 n859)
   (fun l866 bs867 => haystackref04_low (n858) (subW .i64 n859 1)
    (fun bs868 => sel (decide (List.length bs867 = l866))
     (sel (decide ((l866 + List.length bs868) * 1 ≤ 140737488355328))
      (letV (bs867 ++ bs868) (fun (bs869 : List Bool) =>
      sel (decide (l866 + List.length bs868 = List.length bs869))
       (K0 (bs869))
       (sel (decide (0 + Nat.add l866 (List.length bs868) ≤ List.length bs869))
        (K0 (List.take (Nat.add l866 (List.length bs868)) (List.drop 0 bs869)))
        (none))))
      (none))
     (none))))
noncomputable def haystackref04_delta {R : Type} := shut (@haystackref04_delta_B R)
theorem haystackref04_delta_unf {R : Type} : @haystackref04_delta R = @haystackref04_delta_B R := shut_eq _

noncomputable def haystackref04_PutDelta_B {R : Type} (n855 : Int) (xs856 : List Int) (n857 : Int) (K0 : Int → List Int → Int → Option R) : Option R :=
 sel (decide (n857 = 0))
  (K0 (n855) (xs856) (2))
  (haystackref04_delta (n857)
   (fun bs870 => haystackref04_put (n855) (xs856) (bs870)
    (fun n871 xs872 n873 => K0 (n871) (xs872) (n873))))
noncomputable def haystackref04_PutDelta {R : Type} := shut (@haystackref04_PutDelta_B R)
theorem haystackref04_PutDelta_unf {R : Type} : @haystackref04_PutDelta R = @haystackref04_PutDelta_B R := shut_eq _

noncomputable def haystackref04_Gamma_j5_B {R : Type} (n903 : Int) (b904 : Bool) (n905 : Int) (xs906 : List Int) (K0 : Int → Int → Int → Option R) (K1 : Int → Int → List Int → Option R) : Option R :=
 sel (b904)
  (K0 (0) (0) (3))
  (K1 (n903) (n905) (xs906))
noncomputable def haystackref04_Gamma_j5 {R : Type} := shut (@haystackref04_Gamma_j5_B R)
theorem haystackref04_Gamma_j5_unf {R : Type} : @haystackref04_Gamma_j5 R = @haystackref04_Gamma_j5_B R := shut_eq _

noncomputable def haystackref04_Gamma_l7_T {R : Type} (rec : Int → Int → Int → List Int → Option R) (n916 : Int) (n917 : Int) (n918 : Int) (xs919 : List Int) (K0 : Int → Int → Int → List Int → Option R) : Option R :=
 sel (decide (n917 < 64))
  (sel (decide (n917 < subW .i64 n918 n916))
   (haystackref02_At (n918) (xs919) (addW .i64 n916 n917)
    (fun b920 => sel (!b920)
     (rec (n916) (addW .i64 n917 1) (n918) (xs919))
     (K0 (n916) (n917) (n918) (xs919))))
   (K0 (n916) (n917) (n918) (xs919)))
  (K0 (n916) (n917) (n918) (xs919))
noncomputable def haystackref04_Gamma_l7_L {R : Type} (K0 : Int → Int → Int → List Int → Option R) : Nat → Int → Int → Int → List Int → Option R
  | 0, _, _, _, _ => none
  | N + 1, n916, n917, n918, xs919 => haystackref04_Gamma_l7_T (haystackref04_Gamma_l7_L K0 N) n916 n917 n918 xs919 K0
noncomputable def haystackref04_Gamma_l7_B {R : Type} (n916 : Int) (n917 : Int) (n918 : Int) (xs919 : List Int) (K0 : Int → Int → Int → List Int → Option R) : Option R :=
 haystackref04_Gamma_l7_L K0 NR n916 n917 n918 xs919
noncomputable def haystackref04_Gamma_l7 {R : Type} := shut (@haystackref04_Gamma_l7_B R)
theorem haystackref04_Gamma_l7_unf {R : Type} : @haystackref04_Gamma_l7 R = @haystackref04_Gamma_l7_B R := shut_eq _

noncomputable def haystackref04_bits_l6_T {R : Type} (rec : Int → Int → Int → Int → Int → List Int → Option R) (n929 : Int) (n930 : Int) (n931 : Int) (n932 : Int) (n933 : Int) (xs934 : List Int) (K0 : Int → Int → Int → Option R) : Option R :=
 sel (decide (n932 < n930))
  (haystackref02_At (n933) (xs934) (addW .i64 n929 n932)
   (fun b935 => sel (b935)
    (sel (decide (0 ≤ cvtW .u64 n932))
     (rec (n929) (n930) (orW .u64 n931 (shlW .u64 1 (cvtW .u64 n932))) (addW .i64 n932 1) (n933) (xs934))
     (none))
    (rec (n929) (n930) (n931) (addW .i64 n932 1) (n933) (xs934))))
  (K0 (n929) (n930) (n931))
noncomputable def haystackref04_bits_l6_L {R : Type} (K0 : Int → Int → Int → Option R) : Nat → Int → Int → Int → Int → Int → List Int → Option R
  | 0, _, _, _, _, _, _ => none
  | N + 1, n929, n930, n931, n932, n933, xs934 => haystackref04_bits_l6_T (haystackref04_bits_l6_L K0 N) n929 n930 n931 n932 n933 xs934 K0
noncomputable def haystackref04_bits_l6_B {R : Type} (n929 : Int) (n930 : Int) (n931 : Int) (n932 : Int) (n933 : Int) (xs934 : List Int) (K0 : Int → Int → Int → Option R) : Option R :=
 haystackref04_bits_l6_L K0 NR n929 n930 n931 n932 n933 xs934
noncomputable def haystackref04_bits_l6 {R : Type} := shut (@haystackref04_bits_l6_B R)
theorem haystackref04_bits_l6_unf {R : Type} : @haystackref04_bits_l6 R = @haystackref04_bits_l6_B R := shut_eq _

noncomputable def haystackref04_bits_B {R : Type} (n925 : Int) (xs926 : List Int) (n927 : Int) (n928 : Int) (K0 : Int → Int → Int → Option R) : Option R :=
 sel (decide (subW .i64 n925 n927 < n928))
  (K0 (0) (0) (160))
  (sel (decide (0 ≤ cvtW .u64 n928))
   (haystackref04_bits_l6 (n927) (n928) (shlW .u64 1 (cvtW .u64 n928)) (0) (n925) (xs926)
    (fun n936 n937 n938 => K0 (n938) (addW .i64 n936 n937) (0)))
   (none))
noncomputable def haystackref04_bits {R : Type} := shut (@haystackref04_bits_B R)
theorem haystackref04_bits_unf {R : Type} : @haystackref04_bits R = @haystackref04_bits_B R := shut_eq _

noncomputable def haystackref04_Gamma_j6_B {R : Type} (n913 : Int) (n914 : Int) (xs915 : List Int) (K0 : Int → Int → Int → Option R) : Option R :=
 haystackref04_Gamma_l7 (n913) (0) (n914) (xs915)
  (fun n921 n922 n923 xs924 => sel (decide (n922 = 64))
   (K0 (0) (0) (161))
   (sel (decide (subW .i64 n923 n921 ≤ n922))
    (K0 (0) (0) (160))
    (haystackref04_bits (n923) (xs924) (addW .i64 (addW .i64 n921 n922) 1) (n922)
     (fun n939 n940 n941 => K0 (n939) (n940) (n941)))))
noncomputable def haystackref04_Gamma_j6 {R : Type} := shut (@haystackref04_Gamma_j6_B R)
theorem haystackref04_Gamma_j6_unf {R : Type} : @haystackref04_Gamma_j6 R = @haystackref04_Gamma_j6_B R := shut_eq _

noncomputable def haystackref04_Gamma_B {R : Type} (n899 : Int) (xs900 : List Int) (n901 : Int) (K0 : Int → Int → Int → Option R) : Option R :=
 haystackref02_Check (n899) (xs900)
  (fun b902 => sel (!b902)
   (K0 (0) (0) (2))
   (sel (decide (n901 < 0))
    (haystackref04_Gamma_j5 (n901) (true) (n899) (xs900)
     (fun n907 n908 n909 => K0 (n907) (n908) (n909))
     (fun n910 n911 xs912 => haystackref04_Gamma_j6 (n910) (n911) (xs912)
      (fun n942 n943 n944 => K0 (n942) (n943) (n944))))
    (haystackref04_Gamma_j5 (n901) (decide (n899 < n901)) (n899) (xs900)
     (fun n945 n946 n947 => K0 (n945) (n946) (n947))
     (fun n948 n949 xs950 => haystackref04_Gamma_j6 (n948) (n949) (xs950)
      (fun n951 n952 n953 => K0 (n951) (n952) (n953))))))
noncomputable def haystackref04_Gamma {R : Type} := shut (@haystackref04_Gamma_B R)
theorem haystackref04_Gamma_unf {R : Type} : @haystackref04_Gamma R = @haystackref04_Gamma_B R := shut_eq _

noncomputable def haystackref04_Delta_B {R : Type} (n960 : Int) (xs961 : List Int) (n962 : Int) (K0 : Int → Int → Int → Option R) : Option R :=
 haystackref04_Gamma (n960) (xs961) (n962)
  (fun n963 n964 n965 => sel (!decide (n965 = 0))
   (K0 (0) (0) (n965))
   (sel (decide (64 < n963))
    (K0 (0) (0) (161))
    (haystackref04_bits (n960) (xs961) (n964) (subW .i64 (cvtW .i64 n963) 1)
     (fun n966 n967 n968 => K0 (n966) (n967) (n968)))))
noncomputable def haystackref04_Delta {R : Type} := shut (@haystackref04_Delta_B R)
theorem haystackref04_Delta_unf {R : Type} : @haystackref04_Delta R = @haystackref04_Delta_B R := shut_eq _

noncomputable def haystackref02_Same_l5_T {R : Type} (rec : Int → Int → List Int → Int → List Int → Option R) (n980 : Int) (n981 : Int) (xs982 : List Int) (n983 : Int) (xs984 : List Int) (K0 : Bool → Option R) (K1 : Unit → Option R) : Option R :=
 sel (decide (n980 < (↑(List.length xs982) : Int)))
  (sel (decide (0 ≤ n980))
   (sel (decide (n980 < (↑(List.length xs982) : Int)))
    (sel (decide (0 ≤ n980))
     (sel (decide (n980 < (↑(List.length xs984) : Int)))
      (sel (!decide (List.getD xs982 (Int.toNat n980) 0 = List.getD xs984 (Int.toNat n980) 0))
       (K0 (false))
       (rec (addW .i64 n980 1) (n981) (xs982) (n983) (xs984)))
      (none))
     (none))
    (none))
   (none))
  (K1 ())
noncomputable def haystackref02_Same_l5_L {R : Type} (K0 : Bool → Option R) (K1 : Unit → Option R) : Nat → Int → Int → List Int → Int → List Int → Option R
  | 0, _, _, _, _, _ => none
  | N + 1, n980, n981, xs982, n983, xs984 => haystackref02_Same_l5_T (haystackref02_Same_l5_L K0 K1 N) n980 n981 xs982 n983 xs984 K0 K1
noncomputable def haystackref02_Same_l5_B {R : Type} (n980 : Int) (n981 : Int) (xs982 : List Int) (n983 : Int) (xs984 : List Int) (K0 : Bool → Option R) (K1 : Unit → Option R) : Option R :=
 haystackref02_Same_l5_L K0 K1 NR n980 n981 xs982 n983 xs984
noncomputable def haystackref02_Same_l5 {R : Type} := shut (@haystackref02_Same_l5_B R)
theorem haystackref02_Same_l5_unf {R : Type} : @haystackref02_Same_l5 R = @haystackref02_Same_l5_B R := shut_eq _

noncomputable def haystackref02_Same_j4_B {R : Type} (n976 : Int) (xs977 : List Int) (n978 : Int) (xs979 : List Int) (K0 : Bool → Option R) : Option R :=
 haystackref02_Same_l5 (0) (n976) (xs977) (n978) (xs979)
  (fun b985 => K0 (b985))
  (fun _ => K0 (true))
noncomputable def haystackref02_Same_j4 {R : Type} := shut (@haystackref02_Same_j4_B R)
theorem haystackref02_Same_j4_unf {R : Type} : @haystackref02_Same_j4 R = @haystackref02_Same_j4_B R := shut_eq _

noncomputable def haystackref02_Same_B {R : Type} (n972 : Int) (xs973 : List Int) (n974 : Int) (xs975 : List Int) (K0 : Bool → Option R) : Option R :=
 sel (!decide (n972 = n974))
  (K0 (false))
  (sel (!decide ((↑(List.length xs973) : Int) = (↑(List.length xs975) : Int)))
   (K0 (false))
   (haystackref02_Same_j4 (n972) (xs973) (n974) (xs975)
    (fun b986 => K0 (b986))))
noncomputable def haystackref02_Same {R : Type} := shut (@haystackref02_Same_B R)
theorem haystackref02_Same_unf {R : Type} : @haystackref02_Same R = @haystackref02_Same_B R := shut_eq _

noncomputable def haystackref04_Size_B {R : Type} (n991 : Int) (b992 : Bool) (K0 : Int → Option R) : Option R :=
 sel (decide (n991 = 0))
  (K0 (0))
  (sel (b992)
   (haystackref04_delta (n991)
    (fun bs993 => K0 ((↑(List.length bs993) : Int))))
   (haystackref04_gamma (n991)
    (fun bs994 => K0 ((↑(List.length bs994) : Int)))))
noncomputable def haystackref04_Size {R : Type} := shut (@haystackref04_Size_B R)
theorem haystackref04_Size_unf {R : Type} : @haystackref04_Size R = @haystackref04_Size_B R := shut_eq _

noncomputable def haystacklaw04_StreamTells_j14_B {R : Type} (n989 : Int) (K0 : Bool → Option R) : Option R :=
 stream_Size (n989) (false)
  (fun n990 => haystackref04_Size (n989) (false)
   (fun n995 => sel (decide (n990 = n995))
    (stream_Size (n989) (true)
     (fun n996 => haystackref04_Size (n989) (true)
      (fun n997 => sel (decide (n996 = n997))
       (haystacklaw04_heads 
        (fun b998 => K0 (b998)))
       (K0 (false)))))
    (K0 (false))))
noncomputable def haystacklaw04_StreamTells_j14 {R : Type} := shut (@haystacklaw04_StreamTells_j14_B R)
theorem haystacklaw04_StreamTells_j14_unf {R : Type} : @haystacklaw04_StreamTells_j14 R = @haystacklaw04_StreamTells_j14_B R := shut_eq _

noncomputable def haystacklaw04_StreamTells_j9_B {R : Type} (n880 : Int) (n881 : Int) (n882 : Int) (n883 : Int) (n884 : Int) (n885 : Int) (n886 : Int) (n887 : Int) (n888 : Int) (n889 : Int) (xs890 : List Int) (n891 : Int) (xs892 : List Int) (n893 : Int) (xs894 : List Int) (n895 : Int) (xs896 : List Int) (n897 : Int) (xs898 : List Int) (K0 : Bool → Option R) : Option R :=
 haystackref04_Gamma (n889) (xs890) (n880)
  (fun n954 n955 n956 => stream_Delta (n889) (xs890) (n880)
   (fun n957 n958 n959 => haystackref04_Delta (n889) (xs890) (n880)
    (fun n969 n970 n971 => haystackref02_Same (n891) (xs892) (n893) (xs894)
     (fun b987 => sel (!b987)
      (K0 (false))
      (sel (!decide (n882 = n883))
       (K0 (false))
       (haystackref02_Same (n895) (xs896) (n897) (xs898)
        (fun b988 => sel (!b988)
         (K0 (false))
         (sel (!decide (n884 = n885))
          (K0 (false))
          (sel (!decide (n886 = n954))
           (K0 (false))
           (sel (!decide (n887 = n955))
            (K0 (false))
            (sel (!decide (n888 = n956))
             (K0 (false))
             (sel (!decide (n957 = n969))
              (K0 (false))
              (sel (!decide (n958 = n970))
               (K0 (false))
               (sel (!decide (n959 = n971))
                (K0 (false))
                (haystacklaw04_StreamTells_j14 (n881)
                 (fun b999 => K0 (b999)))))))))))))))))
noncomputable def haystacklaw04_StreamTells_j9 {R : Type} := shut (@haystacklaw04_StreamTells_j9_B R)
theorem haystacklaw04_StreamTells_j9_unf {R : Type} : @haystacklaw04_StreamTells_j9 R = @haystacklaw04_StreamTells_j9_B R := shut_eq _

noncomputable def haystacklaw04_StreamTells_j4_B {R : Type} (n545 : Int) (n546 : Int) (n547 : Int) (xs548 : List Int) (K0 : Bool → Option R) : Option R :=
 stream_PutGamma (n547) (xs548) (n546)
  (fun n549 xs550 n551 => haystackref04_PutGamma (n547) (xs548) (n546)
   (fun n849 xs850 n851 => stream_PutDelta (n547) (xs548) (n546)
    (fun n852 xs853 n854 => haystackref04_PutDelta (n547) (xs548) (n546)
     (fun n874 xs875 n876 => stream_Gamma (n547) (xs548) (n545)
      (fun n877 n878 n879 => haystacklaw04_StreamTells_j9 (n545) (n546) (n551) (n851) (n854) (n876) (n877) (n878) (n879) (n547) (xs548) (n549) (xs550) (n849) (xs850) (n852) (xs853) (n874) (xs875)
       (fun b1000 => K0 (b1000)))))))
noncomputable def haystacklaw04_StreamTells_j4 {R : Type} := shut (@haystacklaw04_StreamTells_j4_B R)
theorem haystacklaw04_StreamTells_j4_unf {R : Type} : @haystacklaw04_StreamTells_j4 R = @haystacklaw04_StreamTells_j4_B R := shut_eq _

noncomputable def haystacklaw04_StreamTells_B {R : Type} (n539 : Int) (xs540 : List Int) (n541 : Int) (n542 : Int) (K0 : Bool → Option R) : Option R :=
 haystacklaw04_small (n539) (xs540)
  (fun b543 => sel (!b543)
   (haystacklaw04_heads 
    (fun b544 => K0 (b544)))
   (haystacklaw04_StreamTells_j4 (n541) (n542) (n539) (xs540)
    (fun b1001 => K0 (b1001))))
noncomputable def haystacklaw04_StreamTells {R : Type} := shut (@haystacklaw04_StreamTells_B R)
theorem haystacklaw04_StreamTells_unf {R : Type} : @haystacklaw04_StreamTells R = @haystacklaw04_StreamTells_B R := shut_eq _

noncomputable def haystacklaw04_StreamBack_j14_B {R : Type} (xs1021 : List Int) (bs1022 : List Bool) (n1023 : Int) (n1024 : Int) (b1025 : Bool) (n1026 : Int) (n1027 : Int) (xs1028 : List Int) (K0 : Bool → Option R) (K1 : List Int → List Bool → Int → Int → Int → List Int → Option R) : Option R :=
 sel (decide (0 ≤ n1024))
  (sel (decide (n1024 < (↑(List.length xs1021) : Int)))
   (letV (!decide (n1026 = 0) == !decide (List.getD xs1021 (Int.toNat n1024) 0 = 0)) (fun (b1029 : Bool) =>
   sel (b1029)
    (K0 (false))
    (sel (decide (0 ≤ n1024))
     (sel (decide (n1024 < (↑(List.length xs1021) : Int)))
      (stream_Size (List.getD xs1021 (Int.toNat n1024) 0) (b1025)
       (fun n1030 => K1 (xs1021) (bs1022) (addW .i64 n1023 n1030) (n1024) (n1027) (xs1028)))
      (none))
     (none))))
   (none))
  (none)
noncomputable def haystacklaw04_StreamBack_j14 {R : Type} := shut (@haystacklaw04_StreamBack_j14_B R)
theorem haystacklaw04_StreamBack_j14_unf {R : Type} : @haystacklaw04_StreamBack_j14 R = @haystacklaw04_StreamBack_j14_B R := shut_eq _

noncomputable def haystacklaw04_StreamBack_j10_B {R : Type} (xs1012 : List Int) (bs1013 : List Bool) (n1014 : Int) (n1015 : Int) (b1016 : Bool) (n1017 : Int) (K0 : Bool → Option R) (K1 : List Int → List Bool → Int → Int → Int → List Int → Option R) : Option R :=
 sel (b1016)
  (sel (decide (0 ≤ n1015))
   (sel (decide (n1015 < (↑(List.length xs1012) : Int)))
    (stream_PutDelta (n1017) ([]) (List.getD xs1012 (Int.toNat n1015) 0)
     (fun n1018 xs1019 n1020 => haystacklaw04_StreamBack_j14 (xs1012) (bs1013) (n1014) (n1015) (b1016) (n1020) (n1018) (xs1019)
      (fun b1031 => K0 (b1031))
      (fun xs1032 bs1033 n1034 n1035 n1036 xs1037 => K1 (xs1032) (bs1033) (n1034) (n1035) (n1036) (xs1037))))
    (none))
   (none))
  (sel (decide (0 ≤ n1015))
   (sel (decide (n1015 < (↑(List.length xs1012) : Int)))
    (stream_PutGamma (n1017) ([]) (List.getD xs1012 (Int.toNat n1015) 0)
     (fun n1038 xs1039 n1040 => haystacklaw04_StreamBack_j14 (xs1012) (bs1013) (n1014) (n1015) (b1016) (n1040) (n1038) (xs1039)
      (fun b1041 => K0 (b1041))
      (fun xs1042 bs1043 n1044 n1045 n1046 xs1047 => K1 (xs1042) (bs1043) (n1044) (n1045) (n1046) (xs1047))))
    (none))
   (none))
noncomputable def haystacklaw04_StreamBack_j10 {R : Type} := shut (@haystacklaw04_StreamBack_j10_B R)
theorem haystacklaw04_StreamBack_j10_unf {R : Type} : @haystacklaw04_StreamBack_j10 R = @haystacklaw04_StreamBack_j10_B R := shut_eq _

noncomputable def haystacklaw04_StreamBack_j10_1_B {R : Type} (xs1061 : List Int) (bs1062 : List Bool) (n1063 : Int) (n1064 : Int) (b1065 : Bool) (n1066 : Int) (xs1067 : List Int) (K0 : Bool → Option R) (K1 : List Int → List Bool → Int → Int → Int → List Int → Option R) : Option R :=
 sel (b1065)
  (sel (decide (0 ≤ n1064))
   (sel (decide (n1064 < (↑(List.length xs1061) : Int)))
    (stream_PutDelta (n1066) (xs1067) (List.getD xs1061 (Int.toNat n1064) 0)
     (fun n1068 xs1069 n1070 => haystacklaw04_StreamBack_j14 (xs1061) (bs1062) (n1063) (n1064) (b1065) (n1070) (n1068) (xs1069)
      (fun b1071 => K0 (b1071))
      (fun xs1072 bs1073 n1074 n1075 n1076 xs1077 => K1 (xs1072) (bs1073) (n1074) (n1075) (n1076) (xs1077))))
    (none))
   (none))
  (sel (decide (0 ≤ n1064))
   (sel (decide (n1064 < (↑(List.length xs1061) : Int)))
    (stream_PutGamma (n1066) (xs1067) (List.getD xs1061 (Int.toNat n1064) 0)
     (fun n1078 xs1079 n1080 => haystacklaw04_StreamBack_j14 (xs1061) (bs1062) (n1063) (n1064) (b1065) (n1080) (n1078) (xs1079)
      (fun b1081 => K0 (b1081))
      (fun xs1082 bs1083 n1084 n1085 n1086 xs1087 => K1 (xs1082) (bs1083) (n1084) (n1085) (n1086) (xs1087))))
    (none))
   (none))
noncomputable def haystacklaw04_StreamBack_j10_1 {R : Type} := shut (@haystacklaw04_StreamBack_j10_1_B R)
theorem haystacklaw04_StreamBack_j10_1_unf {R : Type} : @haystacklaw04_StreamBack_j10_1 R = @haystacklaw04_StreamBack_j10_1_B R := shut_eq _

noncomputable def haystacklaw04_StreamBack_l7_1_T {R : Type} (rec : List Int → List Bool → Int → Int → Int → List Int → Option R) (xs1055 : List Int) (bs1056 : List Bool) (n1057 : Int) (n1058 : Int) (n1059 : Int) (xs1060 : List Int) (K0 : Bool → Option R) (K1 : List Int → List Bool → Int → Int → List Int → Option R) : Option R :=
 sel (decide (n1058 < (↑(List.length xs1055) : Int)))
  (sel (decide (n1058 < (↑(List.length bs1056) : Int)))
   (sel (decide (0 ≤ n1058))
    (sel (decide (n1058 < (↑(List.length bs1056) : Int)))
     (haystacklaw04_StreamBack_j10_1 (xs1055) (bs1056) (n1057) (n1058) (List.getD bs1056 (Int.toNat n1058) false) (n1059) (xs1060)
      (fun b1088 => K0 (b1088))
      (fun xs1089 bs1090 n1091 n1092 n1093 xs1094 => rec (xs1089) (bs1090) (n1091) (addW .i64 n1092 1) (n1093) (xs1094)))
     (none))
    (none))
   (haystacklaw04_StreamBack_j10_1 (xs1055) (bs1056) (n1057) (n1058) (false) (n1059) (xs1060)
    (fun b1095 => K0 (b1095))
    (fun xs1096 bs1097 n1098 n1099 n1100 xs1101 => rec (xs1096) (bs1097) (n1098) (addW .i64 n1099 1) (n1100) (xs1101))))
  (K1 (xs1055) (bs1056) (n1057) (n1059) (xs1060))
noncomputable def haystacklaw04_StreamBack_l7_1_L {R : Type} (K0 : Bool → Option R) (K1 : List Int → List Bool → Int → Int → List Int → Option R) : Nat → List Int → List Bool → Int → Int → Int → List Int → Option R
  | 0, _, _, _, _, _, _ => none
  | N + 1, xs1055, bs1056, n1057, n1058, n1059, xs1060 => haystacklaw04_StreamBack_l7_1_T (haystacklaw04_StreamBack_l7_1_L K0 K1 N) xs1055 bs1056 n1057 n1058 n1059 xs1060 K0 K1
noncomputable def haystacklaw04_StreamBack_l7_1_B {R : Type} (xs1055 : List Int) (bs1056 : List Bool) (n1057 : Int) (n1058 : Int) (n1059 : Int) (xs1060 : List Int) (K0 : Bool → Option R) (K1 : List Int → List Bool → Int → Int → List Int → Option R) : Option R :=
 haystacklaw04_StreamBack_l7_1_L K0 K1 NR xs1055 bs1056 n1057 n1058 n1059 xs1060
noncomputable def haystacklaw04_StreamBack_l7_1 {R : Type} := shut (@haystacklaw04_StreamBack_l7_1_B R)
theorem haystacklaw04_StreamBack_l7_1_unf {R : Type} : @haystacklaw04_StreamBack_l7_1 R = @haystacklaw04_StreamBack_l7_1_B R := shut_eq _

noncomputable def haystacklaw04_StreamBack_l7_T {R : Type} (rec : List Int → List Bool → Int → Int → Int → Option R) (rec0 : List Int → List Bool → Int → Int → Int → List Int → Option R) (xs1007 : List Int) (bs1008 : List Bool) (n1009 : Int) (n1010 : Int) (n1011 : Int) (K0 : Bool → Option R) (K1 : List Int → List Bool → Int → Int → List Int → Option R) (K2 : List Int → List Bool → Int → Int → Option R) : Option R :=
 sel (decide (n1010 < (↑(List.length xs1007) : Int)))
  (sel (decide (n1010 < (↑(List.length bs1008) : Int)))
   (sel (decide (0 ≤ n1010))
    (sel (decide (n1010 < (↑(List.length bs1008) : Int)))
     (haystacklaw04_StreamBack_j10 (xs1007) (bs1008) (n1009) (n1010) (List.getD bs1008 (Int.toNat n1010) false) (n1011)
      (fun b1048 => K0 (b1048))
      (fun xs1049 bs1050 n1051 n1052 n1053 xs1054 => rec0 (xs1049) (bs1050) (n1051) (addW .i64 n1052 1) (n1053) (xs1054)))
     (none))
    (none))
   (haystacklaw04_StreamBack_j10 (xs1007) (bs1008) (n1009) (n1010) (false) (n1011)
    (fun b1102 => K0 (b1102))
    (fun xs1103 bs1104 n1105 n1106 n1107 xs1108 => rec0 (xs1103) (bs1104) (n1105) (addW .i64 n1106 1) (n1107) (xs1108))))
  (K2 (xs1007) (bs1008) (n1009) (n1011))
noncomputable def haystacklaw04_StreamBack_l7_L {R : Type} (K0 : Bool → Option R) (K1 : List Int → List Bool → Int → Int → List Int → Option R) (K2 : List Int → List Bool → Int → Int → Option R) : Nat → List Int → List Bool → Int → Int → Int → Option R
  | 0, _, _, _, _, _ => none
  | N + 1, xs1007, bs1008, n1009, n1010, n1011 => haystacklaw04_StreamBack_l7_T (haystacklaw04_StreamBack_l7_L K0 K1 K2 N) (haystacklaw04_StreamBack_l7_1_L K0 K1 N) xs1007 bs1008 n1009 n1010 n1011 K0 K1 K2
noncomputable def haystacklaw04_StreamBack_l7_B {R : Type} (xs1007 : List Int) (bs1008 : List Bool) (n1009 : Int) (n1010 : Int) (n1011 : Int) (K0 : Bool → Option R) (K1 : List Int → List Bool → Int → Int → List Int → Option R) (K2 : List Int → List Bool → Int → Int → Option R) : Option R :=
 haystacklaw04_StreamBack_l7_L K0 K1 K2 NR xs1007 bs1008 n1009 n1010 n1011
noncomputable def haystacklaw04_StreamBack_l7 {R : Type} := shut (@haystacklaw04_StreamBack_l7_B R)
theorem haystacklaw04_StreamBack_l7_unf {R : Type} : @haystacklaw04_StreamBack_l7 R = @haystacklaw04_StreamBack_l7_B R := shut_eq _

noncomputable def haystacklaw04_StreamBack_j24_B {R : Type} (xs1130 : List Int) (bs1131 : List Bool) (n1132 : Int) (n1133 : Int) (n1134 : Int) (n1135 : Int) (n1136 : Int) (n1137 : Int) (b1138 : Bool) (n1139 : Int) (xs1140 : List Int) (K0 : List Int → List Bool → Int → Int → Int → Int → Int → Int → List Int → Option R) : Option R :=
 sel (b1138)
  (stream_Delta (n1139) (xs1140) (n1133)
   (fun n1141 n1142 n1143 => K0 (xs1130) (bs1131) (n1132) (n1134) (n1141) (n1142) (n1143) (n1139) (xs1140)))
  (K0 (xs1130) (bs1131) (n1132) (n1134) (n1135) (n1136) (n1137) (n1139) (xs1140))
noncomputable def haystacklaw04_StreamBack_j24 {R : Type} := shut (@haystacklaw04_StreamBack_j24_B R)
theorem haystacklaw04_StreamBack_j24_unf {R : Type} : @haystacklaw04_StreamBack_j24 R = @haystacklaw04_StreamBack_j24_B R := shut_eq _

noncomputable def haystacklaw04_StreamBack_j25_B {R : Type} (xs1153 : List Int) (bs1154 : List Bool) (n1155 : Int) (n1156 : Int) (n1157 : Int) (n1158 : Int) (n1159 : Int) (n1160 : Int) (xs1161 : List Int) (K0 : Bool → Option R) (K1 : List Int → List Bool → Int → Int → Int → Int → List Int → Option R) : Option R :=
 sel (!decide (n1159 = 0))
  (K0 (false))
  (sel (decide (0 ≤ n1156))
   (sel (decide (n1156 < (↑(List.length xs1153) : Int)))
    (sel (!decide (n1157 = List.getD xs1153 (Int.toNat n1156) 0))
     (K0 (false))
     (K1 (xs1153) (bs1154) (n1155) (n1158) (n1156) (n1160) (xs1161)))
    (none))
   (none))
noncomputable def haystacklaw04_StreamBack_j25 {R : Type} := shut (@haystacklaw04_StreamBack_j25_B R)
theorem haystacklaw04_StreamBack_j25_unf {R : Type} : @haystacklaw04_StreamBack_j25 R = @haystacklaw04_StreamBack_j25_B R := shut_eq _

noncomputable def haystacklaw04_StreamBack_l19_T {R : Type} (rec : List Int → List Bool → Int → Int → Int → Int → List Int → Option R) (xs1120 : List Int) (bs1121 : List Bool) (n1122 : Int) (n1123 : Int) (n1124 : Int) (n1125 : Int) (xs1126 : List Int) (K0 : Bool → Option R) (K1 : Int → Int → Int → List Int → Option R) : Option R :=
 sel (decide (n1124 < (↑(List.length xs1120) : Int)))
  (sel (decide (0 ≤ n1124))
   (sel (decide (n1124 < (↑(List.length xs1120) : Int)))
    (sel (decide (List.getD xs1120 (Int.toNat n1124) 0 = 0))
     (rec (xs1120) (bs1121) (n1122) (n1123) (addW .i64 n1124 1) (n1125) (xs1126))
     (stream_Gamma (n1125) (xs1126) (n1123)
      (fun n1127 n1128 n1129 => sel (decide (n1124 < (↑(List.length bs1121) : Int)))
       (sel (decide (0 ≤ n1124))
        (sel (decide (n1124 < (↑(List.length bs1121) : Int)))
         (haystacklaw04_StreamBack_j24 (xs1120) (bs1121) (n1122) (n1123) (n1124) (n1127) (n1128) (n1129) (List.getD bs1121 (Int.toNat n1124) false) (n1125) (xs1126)
          (fun xs1144 bs1145 n1146 n1147 n1148 n1149 n1150 n1151 xs1152 => haystacklaw04_StreamBack_j25 (xs1144) (bs1145) (n1146) (n1147) (n1148) (n1149) (n1150) (n1151) (xs1152)
           (fun b1162 => K0 (b1162))
           (fun xs1163 bs1164 n1165 n1166 n1167 n1168 xs1169 => rec (xs1163) (bs1164) (n1165) (n1166) (addW .i64 n1167 1) (n1168) (xs1169))))
         (none))
        (none))
       (haystacklaw04_StreamBack_j24 (xs1120) (bs1121) (n1122) (n1123) (n1124) (n1127) (n1128) (n1129) (false) (n1125) (xs1126)
        (fun xs1170 bs1171 n1172 n1173 n1174 n1175 n1176 n1177 xs1178 => haystacklaw04_StreamBack_j25 (xs1170) (bs1171) (n1172) (n1173) (n1174) (n1175) (n1176) (n1177) (xs1178)
         (fun b1179 => K0 (b1179))
         (fun xs1180 bs1181 n1182 n1183 n1184 n1185 xs1186 => rec (xs1180) (bs1181) (n1182) (n1183) (addW .i64 n1184 1) (n1185) (xs1186)))))))
    (none))
   (none))
  (K1 (n1122) (n1123) (n1125) (xs1126))
noncomputable def haystacklaw04_StreamBack_l19_L {R : Type} (K0 : Bool → Option R) (K1 : Int → Int → Int → List Int → Option R) : Nat → List Int → List Bool → Int → Int → Int → Int → List Int → Option R
  | 0, _, _, _, _, _, _, _ => none
  | N + 1, xs1120, bs1121, n1122, n1123, n1124, n1125, xs1126 => haystacklaw04_StreamBack_l19_T (haystacklaw04_StreamBack_l19_L K0 K1 N) xs1120 bs1121 n1122 n1123 n1124 n1125 xs1126 K0 K1
noncomputable def haystacklaw04_StreamBack_l19_B {R : Type} (xs1120 : List Int) (bs1121 : List Bool) (n1122 : Int) (n1123 : Int) (n1124 : Int) (n1125 : Int) (xs1126 : List Int) (K0 : Bool → Option R) (K1 : Int → Int → Int → List Int → Option R) : Option R :=
 haystacklaw04_StreamBack_l19_L K0 K1 NR xs1120 bs1121 n1122 n1123 n1124 n1125 xs1126
noncomputable def haystacklaw04_StreamBack_l19 {R : Type} := shut (@haystacklaw04_StreamBack_l19_B R)
theorem haystacklaw04_StreamBack_l19_unf {R : Type} : @haystacklaw04_StreamBack_l19 R = @haystacklaw04_StreamBack_l19_B R := shut_eq _

noncomputable def haystacklaw04_StreamBack_j17_B {R : Type} (xs1115 : List Int) (bs1116 : List Bool) (n1117 : Int) (n1118 : Int) (xs1119 : List Int) (K0 : Bool → Option R) : Option R :=
 haystacklaw04_StreamBack_l19 (xs1115) (bs1116) (n1117) (0) (0) (n1118) (xs1119)
  (fun b1187 => K0 (b1187))
  (fun n1188 n1189 n1190 xs1191 => sel (decide (n1189 = n1190))
   (sel (decide (n1188 = n1190))
    (haystacklaw04_heads 
     (fun b1192 => K0 (b1192)))
    (K0 (false)))
   (K0 (false)))
noncomputable def haystacklaw04_StreamBack_j17 {R : Type} := shut (@haystacklaw04_StreamBack_j17_B R)
theorem haystacklaw04_StreamBack_j17_unf {R : Type} : @haystacklaw04_StreamBack_j17 R = @haystacklaw04_StreamBack_j17_B R := shut_eq _

noncomputable def haystacklaw04_StreamBack_j24_1_B {R : Type} (xs1211 : List Int) (bs1212 : List Bool) (n1213 : Int) (n1214 : Int) (n1215 : Int) (n1216 : Int) (n1217 : Int) (n1218 : Int) (b1219 : Bool) (n1220 : Int) (K0 : List Int → List Bool → Int → Int → Int → Int → Int → Int → Option R) : Option R :=
 sel (b1219)
  (stream_Delta (n1220) ([]) (n1214)
   (fun n1221 n1222 n1223 => K0 (xs1211) (bs1212) (n1213) (n1215) (n1221) (n1222) (n1223) (n1220)))
  (K0 (xs1211) (bs1212) (n1213) (n1215) (n1216) (n1217) (n1218) (n1220))
noncomputable def haystacklaw04_StreamBack_j24_1 {R : Type} := shut (@haystacklaw04_StreamBack_j24_1_B R)
theorem haystacklaw04_StreamBack_j24_1_unf {R : Type} : @haystacklaw04_StreamBack_j24_1 R = @haystacklaw04_StreamBack_j24_1_B R := shut_eq _

noncomputable def haystacklaw04_StreamBack_j25_1_B {R : Type} (xs1232 : List Int) (bs1233 : List Bool) (n1234 : Int) (n1235 : Int) (n1236 : Int) (n1237 : Int) (n1238 : Int) (n1239 : Int) (K0 : Bool → Option R) (K1 : List Int → List Bool → Int → Int → Int → Int → Option R) : Option R :=
 sel (!decide (n1238 = 0))
  (K0 (false))
  (sel (decide (0 ≤ n1235))
   (sel (decide (n1235 < (↑(List.length xs1232) : Int)))
    (sel (!decide (n1236 = List.getD xs1232 (Int.toNat n1235) 0))
     (K0 (false))
     (K1 (xs1232) (bs1233) (n1234) (n1237) (n1235) (n1239)))
    (none))
   (none))
noncomputable def haystacklaw04_StreamBack_j25_1 {R : Type} := shut (@haystacklaw04_StreamBack_j25_1_B R)
theorem haystacklaw04_StreamBack_j25_1_unf {R : Type} : @haystacklaw04_StreamBack_j25_1 R = @haystacklaw04_StreamBack_j25_1_B R := shut_eq _

noncomputable def haystacklaw04_StreamBack_l19_1_T {R : Type} (rec : List Int → List Bool → Int → Int → Int → Int → Option R) (xs1202 : List Int) (bs1203 : List Bool) (n1204 : Int) (n1205 : Int) (n1206 : Int) (n1207 : Int) (K0 : Bool → Option R) (K1 : Int → Int → Int → Option R) : Option R :=
 sel (decide (n1206 < (↑(List.length xs1202) : Int)))
  (sel (decide (0 ≤ n1206))
   (sel (decide (n1206 < (↑(List.length xs1202) : Int)))
    (sel (decide (List.getD xs1202 (Int.toNat n1206) 0 = 0))
     (rec (xs1202) (bs1203) (n1204) (n1205) (addW .i64 n1206 1) (n1207))
     (stream_Gamma (n1207) ([]) (n1205)
      (fun n1208 n1209 n1210 => sel (decide (n1206 < (↑(List.length bs1203) : Int)))
       (sel (decide (0 ≤ n1206))
        (sel (decide (n1206 < (↑(List.length bs1203) : Int)))
         (haystacklaw04_StreamBack_j24_1 (xs1202) (bs1203) (n1204) (n1205) (n1206) (n1208) (n1209) (n1210) (List.getD bs1203 (Int.toNat n1206) false) (n1207)
          (fun xs1224 bs1225 n1226 n1227 n1228 n1229 n1230 n1231 => haystacklaw04_StreamBack_j25_1 (xs1224) (bs1225) (n1226) (n1227) (n1228) (n1229) (n1230) (n1231)
           (fun b1240 => K0 (b1240))
           (fun xs1241 bs1242 n1243 n1244 n1245 n1246 => rec (xs1241) (bs1242) (n1243) (n1244) (addW .i64 n1245 1) (n1246))))
         (none))
        (none))
       (haystacklaw04_StreamBack_j24_1 (xs1202) (bs1203) (n1204) (n1205) (n1206) (n1208) (n1209) (n1210) (false) (n1207)
        (fun xs1247 bs1248 n1249 n1250 n1251 n1252 n1253 n1254 => haystacklaw04_StreamBack_j25_1 (xs1247) (bs1248) (n1249) (n1250) (n1251) (n1252) (n1253) (n1254)
         (fun b1255 => K0 (b1255))
         (fun xs1256 bs1257 n1258 n1259 n1260 n1261 => rec (xs1256) (bs1257) (n1258) (n1259) (addW .i64 n1260 1) (n1261)))))))
    (none))
   (none))
  (K1 (n1204) (n1205) (n1207))
noncomputable def haystacklaw04_StreamBack_l19_1_L {R : Type} (K0 : Bool → Option R) (K1 : Int → Int → Int → Option R) : Nat → List Int → List Bool → Int → Int → Int → Int → Option R
  | 0, _, _, _, _, _, _ => none
  | N + 1, xs1202, bs1203, n1204, n1205, n1206, n1207 => haystacklaw04_StreamBack_l19_1_T (haystacklaw04_StreamBack_l19_1_L K0 K1 N) xs1202 bs1203 n1204 n1205 n1206 n1207 K0 K1
noncomputable def haystacklaw04_StreamBack_l19_1_B {R : Type} (xs1202 : List Int) (bs1203 : List Bool) (n1204 : Int) (n1205 : Int) (n1206 : Int) (n1207 : Int) (K0 : Bool → Option R) (K1 : Int → Int → Int → Option R) : Option R :=
 haystacklaw04_StreamBack_l19_1_L K0 K1 NR xs1202 bs1203 n1204 n1205 n1206 n1207
noncomputable def haystacklaw04_StreamBack_l19_1 {R : Type} := shut (@haystacklaw04_StreamBack_l19_1_B R)
theorem haystacklaw04_StreamBack_l19_1_unf {R : Type} : @haystacklaw04_StreamBack_l19_1 R = @haystacklaw04_StreamBack_l19_1_B R := shut_eq _

noncomputable def haystacklaw04_StreamBack_j17_1_B {R : Type} (xs1198 : List Int) (bs1199 : List Bool) (n1200 : Int) (n1201 : Int) (K0 : Bool → Option R) : Option R :=
 haystacklaw04_StreamBack_l19_1 (xs1198) (bs1199) (n1200) (0) (0) (n1201)
  (fun b1262 => K0 (b1262))
  (fun n1263 n1264 n1265 => sel (decide (n1264 = n1265))
   (sel (decide (n1263 = n1265))
    (haystacklaw04_heads 
     (fun b1266 => K0 (b1266)))
    (K0 (false)))
   (K0 (false)))
noncomputable def haystacklaw04_StreamBack_j17_1 {R : Type} := shut (@haystacklaw04_StreamBack_j17_1_B R)
theorem haystacklaw04_StreamBack_j17_1_unf {R : Type} : @haystacklaw04_StreamBack_j17_1 R = @haystacklaw04_StreamBack_j17_1_B R := shut_eq _

noncomputable def haystacklaw04_StreamBack_j2_B {R : Type} (xs1004 : List Int) (bs1005 : List Bool) (K0 : Bool → Option R) : Option R :=
 sel (decide (60 < (↑(List.length xs1004) : Int)))
  (haystacklaw04_heads 
   (fun b1006 => K0 (b1006)))
  (haystacklaw04_StreamBack_l7 (xs1004) (bs1005) (0) (0) (0)
   (fun b1109 => K0 (b1109))
   (fun xs1110 bs1111 n1112 n1113 xs1114 => haystacklaw04_StreamBack_j17 (xs1110) (bs1111) (n1112) (n1113) (xs1114)
    (fun b1193 => K0 (b1193)))
   (fun xs1194 bs1195 n1196 n1197 => haystacklaw04_StreamBack_j17_1 (xs1194) (bs1195) (n1196) (n1197)
    (fun b1267 => K0 (b1267))))
noncomputable def haystacklaw04_StreamBack_j2 {R : Type} := shut (@haystacklaw04_StreamBack_j2_B R)
theorem haystacklaw04_StreamBack_j2_unf {R : Type} : @haystacklaw04_StreamBack_j2 R = @haystacklaw04_StreamBack_j2_B R := shut_eq _

noncomputable def haystacklaw04_StreamBack_B {R : Type} (xs1002 : List Int) (bs1003 : List Bool) (K0 : Bool → Option R) : Option R :=
 haystacklaw04_StreamBack_j2 (xs1002) (bs1003)
  (fun b1268 => K0 (b1268))
noncomputable def haystacklaw04_StreamBack {R : Type} := shut (@haystacklaw04_StreamBack_B R)
theorem haystacklaw04_StreamBack_unf {R : Type} : @haystacklaw04_StreamBack R = @haystacklaw04_StreamBack_B R := shut_eq _

noncomputable def haystacklaw04_StreamOrder_j6_B {R : Type} (n1275 : Int) (n1276 : Int) (n1277 : Int) (K0 : Bool → Option R) : Option R :=
 sel (decide (n1275 < 32))
  (sel (decide (n1276 ≤ 127))
   (sel (decide (n1277 ≤ 76))
    (haystacklaw04_heads 
     (fun b1278 => K0 (b1278)))
    (K0 (false)))
   (K0 (false)))
  (sel (decide (n1277 ≤ n1276))
   (sel (decide (n1276 ≤ 127))
    (sel (decide (n1277 ≤ 76))
     (haystacklaw04_heads 
      (fun b1279 => K0 (b1279)))
     (K0 (false)))
    (K0 (false)))
   (K0 (false)))
noncomputable def haystacklaw04_StreamOrder_j6 {R : Type} := shut (@haystacklaw04_StreamOrder_j6_B R)
theorem haystacklaw04_StreamOrder_j6_unf {R : Type} : @haystacklaw04_StreamOrder_j6 R = @haystacklaw04_StreamOrder_j6_B R := shut_eq _

noncomputable def haystacklaw04_StreamOrder_B {R : Type} (n1269 : Int) (n1270 : Int) (K0 : Bool → Option R) : Option R :=
 stream_Size (n1269) (false)
  (fun n1271 => stream_Size (n1270) (false)
   (fun n1272 => stream_Size (n1269) (true)
    (fun n1273 => stream_Size (n1270) (true)
     (fun n1274 => sel (decide (n1269 ≤ n1270))
      (sel (decide (n1272 < n1271))
       (K0 (false))
       (sel (decide (n1274 < n1273))
        (K0 (false))
        (haystacklaw04_StreamOrder_j6 (n1269) (n1271) (n1273)
         (fun b1280 => K0 (b1280)))))
      (haystacklaw04_StreamOrder_j6 (n1269) (n1271) (n1273)
       (fun b1281 => K0 (b1281)))))))
noncomputable def haystacklaw04_StreamOrder {R : Type} := shut (@haystacklaw04_StreamOrder_B R)
theorem haystacklaw04_StreamOrder_unf {R : Type} : @haystacklaw04_StreamOrder R = @haystacklaw04_StreamOrder_B R := shut_eq _

/-- what is kept where -/
def kpt : List (Nat × List (Nat × List Nat)) := [(9, [(15403, []), (15402, [6]), (15401, []), (15400, [1, 3, 10, 12]), (14002, [6]), (14001, [6]), (14000, [1, 3, 10]), (12002, [6]), (12001, [6]), (12000, [1, 3, 8, 10, 11]), (7002, [6]), (7001, [6]), (7000, [1, 2, 3, 7, 8, 9]), (5002, [6]), (5001, [6]), (5000, [1, 2, 3, 7, 8, 9]), (4002, [6]), (4001, [6]), (4000, [1, 2, 3])]), (10, [(14002, [6]), (14001, [6]), (14000, [2]), (9002, [6]), (9001, [6]), (9000, [1, 2, 3, 7, 8, 9, 10, 11, 12, 13, 14, 15, 16, 17]), (4002, [6]), (4001, [6]), (4000, [1, 2, 3])]), (11, [(25005, [5, 6, 10]), (25006, [0, 1, 5, 6, 10, 11]), (25002, [4]), (25001, [0, 1, 5, 6, 10, 11]), (25000, [0, 1, 5, 6, 11, 12, 13, 14]), (24005, [5, 6, 10]), (24006, [0, 1, 5, 6, 10, 11]), (24002, [4]), (24001, [0, 1, 5, 6, 11, 12, 13, 14]), (24000, [0, 1, 5, 6, 10, 11, 12, 13, 14, 98]), (19405, [5, 6, 10]), (19402, [4]), (19401, []), (19400, [0, 1, 5, 6, 10, 11]), (17002, [4]), (17001, [4]), (17000, [0, 1, 5, 6]), (14003, [0, 1, 5, 6]), (14004, [0, 1, 5, 6, 7]), (14002, [4]), (14001, [0, 1, 5, 6, 7]), (14000, [0, 1, 5, 6, 7, 8, 9]), (10003, [0, 1, 5, 6]), (10004, [0, 1, 5, 6, 7]), (10002, [4]), (10001, [0, 1, 5, 6, 7]), (10000, [0, 1, 5, 6, 7, 8]), (7403, [0, 1, 5, 6]), (7402, [4]), (7401, []), (7400, [0, 1, 5, 6, 7]), (2002, [4]), (2001, [4]), (2000, [0, 1])]), (12, [(6002, [4]), (6001, [4]), (6000, [0, 5, 7])]), (14, [(4002, [2]), (4001, [2]), (4000, [1])]), (16, [(6002, [4, 5]), (6001, [4, 5]), (6000, [1, 2])]), (18, [(12002, [6, 7]), (12001, [6, 7]), (12000, [2, 10]), (8002, [6, 7]), (8001, [6, 7]), (8000, [1, 2, 3]), (5003, [1, 2, 3]), (5002, [6, 7]), (5001, [1, 2, 3]), (5000, [1, 2, 3, 23]), (3003, [1, 2, 3]), (3002, [6, 7]), (3001, [1, 2, 3]), (3000, [1, 2, 3, 11])]), (21, [(4002, [6, 7]), (4001, [6, 7]), (4000, [1, 2, 3, 6]), (3002, [6, 7]), (3001, [1, 2, 3, 6]), (3000, [1, 2, 3, 6, 26])]), (24, [(4002, [4, 5]), (4001, [4, 5]), (4000, [2, 3, 4]), (3002, [4, 5]), (3001, [2, 3, 4]), (3000, [2, 3, 4, 21])]), (25, [(5403, []), (5402, [4]), (5401, []), (5400, [2, 3, 5]), (4002, [4]), (4001, [4]), (4000, [2, 3])]), (27, [(4002, [2]), (4001, [2]), (4000, [1])]), (28, [(5002, [0]), (5001, [0]), (5000, [1, 2, 3, 4, 5, 6, 7])]), (29, [(6201, [1, 2, 7]), (6002, [4, 5, 6]), (6001, [4, 5, 6]), (6000, [1, 2]), (5201, [1, 2, 7]), (5002, [4, 5, 6]), (5001, [1, 2]), (5000, [1, 2, 20]), (7702, [4, 5, 6]), (7701, [4, 5, 6]), (7700, [1, 2, 7])]), (31, [(5002, [4, 5]), (5001, [4, 5]), (5000, [2, 4, 6]), (3002, [4, 5]), (3001, [4, 5]), (3000, [1, 2, 4, 6])]), (32, [(7002, [4, 5]), (7001, [4, 5]), (7000, [2, 4, 6]), (3002, [4, 5]), (3001, [4, 5]), (3000, [1, 2, 4, 6])]), (33, [(6002, [4, 5]), (6001, [4, 5]), (6000, [1, 2])]), (36, [(7403, [1, 2, 7]), (7402, [4, 5, 6]), (7401, []), (7400, [1, 2, 7]), (6002, [4, 5, 6]), (6001, [4, 5, 6]), (6000, [1, 2]), (5002, [4, 5, 6]), (5001, [1, 2]), (5000, [1, 2, 18])]), (48, [(6002, []), (6001, []), (6000, [2, 3, 6, 7, 36]), (5002, []), (5001, []), (5000, [2, 3, 6, 7])]), (50, [(4403, [2, 4, 5]), (4402, [2, 3]), (4401, []), (4400, [0, 2, 4, 5, 6])]), (51, [(4403, [3]), (4402, [2]), (4401, []), (4400, [1, 3, 4])]), (52, [(6003, [3]), (6002, [2]), (6001, [0, 3, 4]), (6000, [0, 3, 4]), (4403, [3]), (4402, [2]), (4401, []), (4400, [0, 3, 4])]), (57, [(3002, []), (3001, []), (3000, [0, 6])]), (62, [(6403, [1, 2, 9]), (6402, [6, 7, 8]), (6401, []), (6400, [1, 2, 3, 9, 10])]), (64, [(4002, [2, 3]), (4001, [2, 3]), (4000, [0, 2]), (3002, [2, 3]), (3001, [0, 2]), (3000, [0, 2, 9])]), (65, [(11002, [2]), (11001, [2]), (11000, [0, 2]), (8002, [2]), (8001, [2]), (8000, [0, 2]), (5002, [2]), (5001, [2]), (5000, [0, 2])]), (66, [(3403, []), (3402, [2]), (3401, []), (3400, [0, 3])]), (67, [(4403, [5]), (4402, [4]), (4401, []), (4400, [0, 1, 5, 6])])]
/-- what is handed back open -/
def lvt : List (Nat × List Nat) := [(21, [46]), (50, [64]), (24, [51]), (61, [60])]
noncomputable def V (f : FuncId) : Env := env (keepOf kpt) (vsOf (match lkN lvt f with | some l => l | none => []))
theorem D0 : Dom V S0 T0 0 := Dom.nil

noncomputable def sp26 : Ev.Spec := fun args _ K => match args with
  | ([AV.agg (Blk.any [AV.int .i64 n4, AV.fsl (Blk.ints .u64 xs5)])]) => haystacklaw04_small n4 xs5 (fun x0 => K (AV.bool x0))
  | _ => none
noncomputable def S26 := addS 26 sp26 S0
theorem D1 : Dom V S26 T0 1 := Dom.s (m := 0) (n := 0) D0 D0 (O := (fun _ => none)) (fun _ _ _ _ => OrcOk.none _ _) fun args R K r h => by
  unfold sp26 at h; split at h
  · rw [haystacklaw04_small_unf] at h; exact Eq.trans (by kernel_rfl) h
  · cases h

noncomputable def sp40 : Ev.Spec := fun args _ K => match args with
  | ([AV.int .i64 n12]) => bits_words n12 (fun x0 => K (AV.int .i64 x0))
  | _ => none
noncomputable def S40 := addS 40 sp40 S26
theorem D2 : Dom V S40 T0 2 := Dom.s (m := 1) (n := 0) D1 D1 (O := (fun _ => none)) (fun _ _ _ _ => OrcOk.none _ _) fun args R K r h => by
  unfold sp40 at h; split at h
  · rw [bits_words_unf] at h; exact Eq.trans (by kernel_rfl) h
  · cases h

noncomputable def sp41 : Ev.Spec := fun args _ K => match args with
  | ([AV.int .i64 n16]) => word_Mask n16 (fun x0 => K (AV.int .u64 x0))
  | _ => none
noncomputable def S41 := addS 41 sp41 S40
theorem D3 : Dom V S41 T0 3 := Dom.s (m := 2) (n := 0) D2 D2 (O := (fun _ => none)) (fun _ _ _ _ => OrcOk.none _ _) fun args R K r h => by
  unfold sp41 at h; split at h
  · rw [word_Mask_unf] at h; exact Eq.trans (by kernel_rfl) h
  · cases h

noncomputable def o14_4000_in {R : Type} (K : Ex → St → Option R) (vs : List AV) (hh : H) : Option R := match vs, hh with
  | [AV.ptr 0 0], [HB.live (Blk.any [AV.int .i64 n14, AV.fsl (Blk.ints .u64 xs15)])] => bits_Check_j4 n14 xs15 (fun x0 => K (Ex.ret) (St.mk (spread 40 0 [2] [AV.bool x0]) []))
  | _, _ => none

noncomputable def o14 : Nat → Option PSpec := lkN [(4000, fun st _ K => pickM 40 [1] st (o14_4000_in K))]
noncomputable def q14 : CallF := evFun (V 14) S41 T0 10

noncomputable def c14_4000 : Code := subC [1, 1] (bodyOf Try.f14)

theorem p14_4000 : PieceOk (V 14) q14 o14 14 0 (3998, 0, c14_4000) := .s (size := 40) (ss := [1]) (F := @o14_4000_in) (by kernel_rfl) fun R r K vs hh h => by
  unfold o14_4000_in at h; split at h
  · rw [bits_Check_j4_unf] at h; exact Eq.trans (by kernel_rfl) h
  · cases h

theorem pc14 : ∀ x ∈ [(3998, 0, c14_4000)], PieceOk (V 14) q14 o14 14 0 x := List.forall_mem_cons.2 ⟨p14_4000, fun _ h => nomatch h⟩

noncomputable def sp14 : Ev.Spec := fun args _ K => match args with
  | ([AV.agg (Blk.any [AV.int .i64 n10, AV.fsl (Blk.ints .u64 xs11)])]) => bits_Check n10 xs11 (fun x0 => K (AV.bool x0))
  | _ => none
noncomputable def S14 := addS 14 sp14 S41
theorem D4 : Dom V S14 T0 4 := Dom.s (m := 3) (n := 0) D3 D3 (O := o14) (OrcOk.fn (fn0 := Try.f14) (by kernel_rfl) (by kernel_rfl) pc14) fun args R K r h => by
  unfold sp14 at h; split at h
  · rw [bits_Check_unf] at h; exact Eq.trans (by kernel_rfl) h
  · cases h

noncomputable def o65_5000_in {R : Type} (K : Ex → St → Option R) (vs : List AV) (hh : H) : Option R := match vs, hh with
  | [AV.int .u64 n34, AV.int .i64 n35], [] => math_bits_Len64_j5 n34 n35 (fun x0 => K (Ex.ret) (St.mk (spread 25 0 [2] [AV.int .i64 x0]) []))
  | _, _ => none

noncomputable def o65_8000_in {R : Type} (K : Ex → St → Option R) (vs : List AV) (hh : H) : Option R := match vs, hh with
  | [AV.int .u64 n36, AV.int .i64 n37], [] => math_bits_Len64_j8 n36 n37 (fun x0 => K (Ex.ret) (St.mk (spread 25 0 [2] [AV.int .i64 x0]) []))
  | _, _ => none

noncomputable def o65_11000_in {R : Type} (K : Ex → St → Option R) (vs : List AV) (hh : H) : Option R := match vs, hh with
  | [AV.int .u64 n38, AV.int .i64 n39], [] => math_bits_Len64_j11 n38 n39 (fun x0 => K (Ex.ret) (St.mk (spread 25 0 [2] [AV.int .i64 x0]) []))
  | _, _ => none

noncomputable def o65 : Nat → Option PSpec := lkN [(5000, fun st _ K => pickM 25 [0, 2] st (o65_5000_in K)), (8000, fun st _ K => pickM 25 [0, 2] st (o65_8000_in K)), (11000, fun st _ K => pickM 25 [0, 2] st (o65_11000_in K))]
noncomputable def q65 : CallF := evFun (V 65) S14 T0 10

noncomputable def c65_5000 : Code := subC [1, 1] (bodyOf Try.f65)

noncomputable def c65_8000 : Code := subC [1, 1, 1] (bodyOf Try.f65)

noncomputable def c65_11000 : Code := subC [1, 1, 1, 1] (bodyOf Try.f65)

theorem p65_5000 : PieceOk (V 65) q65 o65 65 0 (3998, 0, c65_5000) := .s (size := 25) (ss := [0, 2]) (F := @o65_5000_in) (by kernel_rfl) fun R r K vs hh h => by
  unfold o65_5000_in at h; split at h
  · rw [math_bits_Len64_j5_unf] at h; exact Eq.trans (by kernel_rfl) h
  · cases h

theorem p65_8000 : PieceOk (V 65) q65 o65 65 0 (3997, 0, c65_8000) := .s (size := 25) (ss := [0, 2]) (F := @o65_8000_in) (by kernel_rfl) fun R r K vs hh h => by
  unfold o65_8000_in at h; split at h
  · rw [math_bits_Len64_j8_unf] at h; exact Eq.trans (by kernel_rfl) h
  · cases h

theorem p65_11000 : PieceOk (V 65) q65 o65 65 0 (3996, 0, c65_11000) := .s (size := 25) (ss := [0, 2]) (F := @o65_11000_in) (by kernel_rfl) fun R r K vs hh h => by
  unfold o65_11000_in at h; split at h
  · rw [math_bits_Len64_j11_unf] at h; exact Eq.trans (by kernel_rfl) h
  · cases h

theorem pc65 : ∀ x ∈ [(3998, 0, c65_5000), (3997, 0, c65_8000), (3996, 0, c65_11000)], PieceOk (V 65) q65 o65 65 0 x := List.forall_mem_cons.2 ⟨p65_5000, List.forall_mem_cons.2 ⟨p65_8000, List.forall_mem_cons.2 ⟨p65_11000, fun _ h => nomatch h⟩⟩⟩

noncomputable def sp65 : Ev.Spec := fun args _ K => match args with
  | ([AV.int .u64 n33]) => math_bits_Len64 n33 (fun x0 => K (AV.int .i64 x0))
  | _ => none
noncomputable def S65 := addS 65 sp65 S14
theorem D5 : Dom V S65 T0 5 := Dom.s (m := 4) (n := 0) D4 D4 (O := o65) (OrcOk.fn (fn0 := Try.f65) (by kernel_rfl) (by kernel_rfl) pc65) fun args R K r h => by
  unfold sp65 at h; split at h
  · rw [math_bits_Len64_unf] at h; exact Eq.trans (by kernel_rfl) h
  · cases h

noncomputable def sp56 : Ev.Spec := fun args _ K => match args with
  | ([AV.int .u64 n32]) => word_Len n32 (fun x0 => K (AV.int .i64 x0))
  | _ => none
noncomputable def S56 := addS 56 sp56 S65
theorem D6 : Dom V S56 T0 6 := Dom.s (m := 5) (n := 0) D5 D5 (O := (fun _ => none)) (fun _ _ _ _ => OrcOk.none _ _) fun args R K r h => by
  unfold sp56 at h; split at h
  · rw [word_Len_unf] at h; exact Eq.trans (by kernel_rfl) h
  · cases h

noncomputable def hs46 : HSpec := fun args h _ K => match args, h with
  | [AV.agg (Blk.any [AV.int .i64 n78, AV.fsl (Blk.ints .u64 xs79)]), AV.int .i64 n80], [] => bits_own_r n78 xs79 n80 (fun x0 x1 x2 => K (AV.agg (Blk.any [AV.int .i64 x0, AV.sl 0 0 x1 1])) ([HB.live (Blk.ints .u64 x2)]))
  | _, _ => none
noncomputable def T46 := addT 46 hs46 T0
theorem D7 : Dom V S56 T46 7 := Dom.t D6 fun args hh R K r h => by
  unfold hs46 at h; split at h
  · rw [bits_own_r_unf] at h; exact ⟨(fun _ => none), (fun _ _ _ _ => OrcOk.none _ _), Eq.trans (by kernel_rfl) h⟩
  · cases h

noncomputable def o48r1_5000_in {R : Type} (K : Ex → St → Option R) (vs : List AV) (hh : H) : Option R := match vs, hh with
  | [AV.int .u64 n95, AV.ptr 1 0, AV.int .i64 n96, AV.int .i64 n97], [HB.live (Blk.ints .u64 xs98), HB.live (Blk.any [AV.int .i64 n99, AV.sl 0 0 l100 1])] => bits_fill_j5 n95 n96 n97 xs98 n99 l100 (fun x0 => K (Ex.normal) (St.mk (spread 49 0 [] []) [HB.live (Blk.ints .u64 x0)]))
  | _, _ => none

noncomputable def o48r1_6000_in {R : Type} (K : Ex → St → Option R) (vs : List AV) (hh : H) : Option R := match vs, hh with
  | [AV.int .u64 n101, AV.ptr 1 0, AV.int .i64 n102, AV.int .i64 n103, AV.bool b104], [HB.live (Blk.ints .u64 xs105), HB.live (Blk.any [AV.int .i64 n106, AV.sl 0 0 l107 1])] => bits_fill_j6 n101 n102 n103 b104 xs105 n106 l107 (fun x0 => K (Ex.normal) (St.mk (spread 49 0 [] []) [HB.live (Blk.ints .u64 x0)]))
  | _, _ => none

noncomputable def o48r1 : Nat → Option PSpec := lkN [(5000, fun st _ K => pickM 49 [2, 3, 6, 7] st (o48r1_5000_in K)), (6000, fun st _ K => pickM 49 [2, 3, 6, 7, 36] st (o48r1_6000_in K))]
noncomputable def q48r1 : CallF := evFun (V 48) S56 T46 10

noncomputable def c48r1_5000 : Code := subC [1, 1, 1] (bodyOf Try.f48)

noncomputable def c48r1_6000 : Code := subC [1, 1, 1, 1] (bodyOf Try.f48)

theorem p48r1_5000 : PieceOk (V 48) q48r1 o48r1 48 1 (3997, 0, c48r1_5000) := .s (size := 49) (ss := [2, 3, 6, 7]) (F := @o48r1_5000_in) (by kernel_rfl) fun R r K vs hh h => by
  unfold o48r1_5000_in at h; split at h
  · rw [bits_fill_j5_unf] at h; exact Eq.trans (by kernel_rfl) h
  · cases h

theorem p48r1_6000 : PieceOk (V 48) q48r1 o48r1 48 1 (3996, 0, c48r1_6000) := .s (size := 49) (ss := [2, 3, 6, 7, 36]) (F := @o48r1_6000_in) (by kernel_rfl) fun R r K vs hh h => by
  unfold o48r1_6000_in at h; split at h
  · rw [bits_fill_j6_unf] at h; exact Eq.trans (by kernel_rfl) h
  · cases h

theorem pc48r1 : ∀ x ∈ [(3997, 0, c48r1_5000), (3996, 0, c48r1_6000)], PieceOk (V 48) q48r1 o48r1 48 1 x := List.forall_mem_cons.2 ⟨p48r1_5000, List.forall_mem_cons.2 ⟨p48r1_6000, fun _ h => nomatch h⟩⟩

noncomputable def hs48 : HSpec := fun args h _ K => match args, h with
  | [AV.agg (Blk.any [AV.int .i64 n89, AV.sl 0 0 l90 1]), AV.int .i64 n91, AV.int .u64 n92], [HB.live (Blk.ints .u64 xs93)] => bits_fill_r n89 l90 n91 n92 xs93 (fun x0 => K (AV.tup []) ([HB.live (Blk.ints .u64 x0)]))
  | _, _ => none
noncomputable def T48 := addT 48 hs48 T46
theorem D8 : Dom V S56 T48 8 := Dom.t D7 fun args hh R K r h => by
  unfold hs48 at h; split at h
  · rw [bits_fill_r_unf] at h; exact ⟨o48r1, (OrcOk.fn (fn0 := Try.f48) (by kernel_rfl) (by kernel_rfl) pc48r1), Eq.trans (by kernel_rfl) h⟩
  · cases h

noncomputable def o21_3000_in {R : Type} (K : Ex → St → Option R) (vs : List AV) (hh : H) : Option R := match vs, hh with
  | [AV.int .u64 n59, AV.int .i64 n60, AV.ptr 0 0, AV.ptr 1 0, AV.bool b61], [HB.live (Blk.any [AV.int .i64 n62, AV.fsl (Blk.ints .u64 xs63)]), HB.live (Blk.any [AV.int .i64 n64, AV.esl])] => bits_Append_j3 n59 n60 b61 n62 xs63 n64 (fun x0 x1 x2 => K (Ex.ret) (St.mk (spread 43 0 [6, 7] [AV.ptr 0 0, AV.int .i64 x0]) [HB.live (Blk.any [AV.int .i64 x1, AV.fsl (Blk.ints .u64 x2)])])) (fun x0 x1 x2 x3 x4 => K (Ex.normal) (St.mk (spread 43 0 [1, 2, 3, 6] [AV.int .u64 x0, AV.int .i64 x1, AV.ptr 0 0, AV.ptr 1 0]) [HB.live (Blk.any [AV.int .i64 x2, AV.fsl (Blk.ints .u64 x3)]), HB.live (Blk.any [AV.int .i64 x4, AV.esl])]))
  | _, _ => none

noncomputable def o21_4000_in {R : Type} (K : Ex → St → Option R) (vs : List AV) (hh : H) : Option R := match vs, hh with
  | [AV.int .u64 n73, AV.int .i64 n74, AV.ptr 0 0, AV.ptr 1 0], [HB.live (Blk.any [AV.int .i64 n75, AV.fsl (Blk.ints .u64 xs76)]), HB.live (Blk.any [AV.int .i64 n77, AV.esl])] => bits_Append_j4 n73 n74 n75 xs76 n77 (fun x0 x1 x2 x3 => K (Ex.ret) (St.mk (spread 43 0 [6, 7] [AV.ptr 0 0, AV.int .i64 x0]) [HB.live (Blk.any [AV.int .i64 x1, AV.sl 1 0 x2 1]), HB.live (Blk.ints .u64 x3)]))
  | _, _ => none

noncomputable def o21 : Nat → Option PSpec := lkN [(3000, fun st _ K => pickM 43 [1, 2, 3, 6, 26] st (o21_3000_in K)), (4000, fun st _ K => pickM 43 [1, 2, 3, 6] st (o21_4000_in K))]
noncomputable def q21 : CallF := evFun (V 21) S56 T48 10

noncomputable def c21_4000 : Code := subC [1, 1] (bodyOf Try.f21)

noncomputable def c21_3000 : Code := subC [1, 0, 1] (bodyOf Try.f21)

theorem p21_4000 : PieceOk (V 21) q21 o21 21 0 (3998, 0, c21_4000) := .s (size := 43) (ss := [1, 2, 3, 6]) (F := @o21_4000_in) (by kernel_rfl) fun R r K vs hh h => by
  unfold o21_4000_in at h; split at h
  · rw [bits_Append_j4_unf] at h; exact Eq.trans (by kernel_rfl) h
  · cases h

theorem p21_3000 : PieceOk (V 21) q21 o21 21 0 (3997, 0, c21_3000) := .s (size := 43) (ss := [1, 2, 3, 6, 26]) (F := @o21_3000_in) (by kernel_rfl) fun R r K vs hh h => by
  unfold o21_3000_in at h; split at h
  · rw [bits_Append_j3_unf] at h; exact Eq.trans (by kernel_rfl) h
  · cases h

theorem pc21 : ∀ x ∈ [(3998, 0, c21_4000), (3997, 0, c21_3000)], PieceOk (V 21) q21 o21 21 0 x := List.forall_mem_cons.2 ⟨p21_4000, List.forall_mem_cons.2 ⟨p21_3000, fun _ h => nomatch h⟩⟩

noncomputable def sp21 : Ev.Spec := fun args _ K => match args with
  | ([AV.agg (Blk.any [AV.int .i64 n54, AV.fsl (Blk.ints .u64 xs55)]), AV.int .u64 n56, AV.int .i64 n57]) => bits_Append n54 xs55 n56 n57 (fun x0 x1 x2 => K (AV.tup [AV.agg (Blk.any [AV.int .i64 x0, AV.fsl (Blk.ints .u64 x1)]), AV.int .i64 x2]))
  | _ => none
noncomputable def S21 := addS 21 sp21 S56
theorem D9 : Dom V S21 T48 9 := Dom.s (m := 8) (n := 0) D8 D8 (O := o21) (OrcOk.fn (fn0 := Try.f21) (by kernel_rfl) (by kernel_rfl) pc21) fun args R K r h => by
  unfold sp21 at h; split at h
  · rw [bits_Append_unf] at h; exact Eq.trans (by kernel_rfl) h
  · cases h

noncomputable def o57r1_3000_in {R : Type} (K : Ex → St → Option R) (vs : List AV) (hh : H) : Option R := match vs, hh with
  | [AV.ptr 0 0, AV.ptr 1 0], [HB.live (Blk.any [AV.int .i64 n157, AV.fsl (Blk.ints .u64 xs158), AV.bool b159]), HB.live (Blk.any [AV.int .i64 n160, AV.fsl (Blk.ints .u64 xs161)])] => stream_row_put_j3 n157 xs158 b159 n160 xs161 (fun x0 x1 x2 => K (Ex.normal) (St.mk (spread 33 0 [] []) [HB.live (Blk.any [AV.int .i64 x0, AV.fsl (Blk.ints .u64 x1), AV.bool x2])]))
  | _, _ => none

noncomputable def o57r1 : Nat → Option PSpec := lkN [(3000, fun st _ K => pickM 33 [0, 6] st (o57r1_3000_in K))]
noncomputable def q57r1 : CallF := evFun (V 57) S21 T48 10

noncomputable def c57r1_3000 : Code := subC [1, 1] (bodyOf Try.f57)

theorem p57r1_3000 : PieceOk (V 57) q57r1 o57r1 57 1 (3998, 0, c57r1_3000) := .s (size := 33) (ss := [0, 6]) (F := @o57r1_3000_in) (by kernel_rfl) fun R r K vs hh h => by
  unfold o57r1_3000_in at h; split at h
  · rw [stream_row_put_j3_unf] at h; exact Eq.trans (by kernel_rfl) h
  · cases h

theorem pc57r1 : ∀ x ∈ [(3998, 0, c57r1_3000)], PieceOk (V 57) q57r1 o57r1 57 1 x := List.forall_mem_cons.2 ⟨p57r1_3000, fun _ h => nomatch h⟩

noncomputable def hs57 : HSpec := fun args h _ K => match args, h with
  | [AV.ptr 0 0, AV.int .u64 n49, AV.int .i64 n50], [HB.live (Blk.any [AV.int .i64 n51, AV.fsl (Blk.ints .u64 xs52), AV.bool b53])] => stream_row_put_r n49 n50 n51 xs52 b53 (fun x0 x1 x2 => K (AV.tup []) ([HB.live (Blk.any [AV.int .i64 x0, AV.fsl (Blk.ints .u64 x1), AV.bool x2])]))
  | _, _ => none
noncomputable def T57 := addT 57 hs57 T48
theorem D10 : Dom V S21 T57 10 := Dom.t D9 fun args hh R K r h => by
  unfold hs57 at h; split at h
  · rw [stream_row_put_r_unf] at h; exact ⟨o57r1, (OrcOk.fn (fn0 := Try.f57) (by kernel_rfl) (by kernel_rfl) pc57r1), Eq.trans (by kernel_rfl) h⟩
  · cases h

noncomputable def hs54 : HSpec := fun args h _ K => match args, h with
  | [AV.ptr 0 0, AV.int .u64 n28], [HB.live (Blk.any [AV.int .i64 n29, AV.fsl (Blk.ints .u64 xs30), AV.bool b31])] => stream_row_gamma_r n28 n29 xs30 b31 (fun x0 x1 x2 => K (AV.tup []) ([HB.live (Blk.any [AV.int .i64 x0, AV.fsl (Blk.ints .u64 x1), AV.bool x2])]))
  | _, _ => none
noncomputable def T54 := addT 54 hs54 T57
theorem D11 : Dom V S21 T54 11 := Dom.t D10 fun args hh R K r h => by
  unfold hs54 at h; split at h
  · rw [stream_row_gamma_r_unf] at h; exact ⟨(fun _ => none), (fun _ _ _ _ => OrcOk.none _ _), Eq.trans (by kernel_rfl) h⟩
  · cases h

noncomputable def hs55 : HSpec := fun args h _ K => match args, h with
  | [AV.ptr 0 0, AV.agg (Blk.any [AV.int .i64 n186, AV.fsl (Blk.ints .u64 xs187)])], [HB.live (Blk.any [AV.int .i64 n188, AV.fsl (Blk.ints .u64 xs189), AV.bool b190])] => stream_row_done_r n186 xs187 n188 xs189 b190 (fun x0 x1 x2 x3 x4 x5 => K (AV.tup [AV.agg (Blk.any [AV.int .i64 x0, AV.fsl (Blk.ints .u64 x1)]), AV.int .i64 x2]) ([HB.live (Blk.any [AV.int .i64 x3, AV.fsl (Blk.ints .u64 x4), AV.bool x5])]))
  | _, _ => none
noncomputable def T55 := addT 55 hs55 T54
theorem D12 : Dom V S21 T55 12 := Dom.t D11 fun args hh R K r h => by
  unfold hs55 at h; split at h
  · rw [stream_row_done_r_unf] at h; exact ⟨(fun _ => none), (fun _ _ _ _ => OrcOk.none _ _), Eq.trans (by kernel_rfl) h⟩
  · cases h

noncomputable def o31_3000_in {R : Type} (K : Ex → St → Option R) (vs : List AV) (hh : H) : Option R := match vs, hh with
  | [AV.int .u64 n21, AV.ptr 0 0, AV.ptr 1 0, AV.ptr 2 0], [HB.live (Blk.any [AV.int .i64 n22, AV.fsl (Blk.ints .u64 xs23)]), HB.live (Blk.any [AV.int .i64 n24, AV.esl]), HB.live (Blk.any [AV.int .i64 n25, AV.fsl (Blk.ints .u64 xs26), AV.bool b27])] => stream_PutGamma_j3 n21 n22 xs23 n24 n25 xs26 b27 (fun x0 x1 x2 => K (Ex.ret) (St.mk (spread 28 0 [4, 5] [AV.ptr 0 0, AV.int .i64 x0]) [HB.live (Blk.any [AV.int .i64 x1, AV.fsl (Blk.ints .u64 x2)])]))
  | _, _ => none

noncomputable def o31_5000_in {R : Type} (K : Ex → St → Option R) (vs : List AV) (hh : H) : Option R := match vs, hh with
  | [AV.ptr 0 0, AV.ptr 1 0, AV.ptr 2 0], [HB.live (Blk.any [AV.int .i64 n180, AV.fsl (Blk.ints .u64 xs181)]), HB.live (Blk.any [AV.int .i64 n182, AV.esl]), HB.live (Blk.any [AV.int .i64 n183, AV.fsl (Blk.ints .u64 xs184), AV.bool b185])] => stream_PutGamma_j5 n180 xs181 n182 n183 xs184 b185 (fun x0 x1 x2 => K (Ex.ret) (St.mk (spread 28 0 [4, 5] [AV.ptr 0 0, AV.int .i64 x0]) [HB.live (Blk.any [AV.int .i64 x1, AV.fsl (Blk.ints .u64 x2)])]))
  | _, _ => none

noncomputable def o31 : Nat → Option PSpec := lkN [(3000, fun st _ K => pickM 28 [1, 2, 4, 6] st (o31_3000_in K)), (5000, fun st _ K => pickM 28 [2, 4, 6] st (o31_5000_in K))]
noncomputable def q31 : CallF := evFun (V 31) S21 T55 10

noncomputable def c31_3000 : Code := subC [1, 1] (bodyOf Try.f31)

noncomputable def c31_5000 : Code := subC [1, 1, 1] (bodyOf Try.f31)

theorem p31_3000 : PieceOk (V 31) q31 o31 31 0 (3998, 0, c31_3000) := .s (size := 28) (ss := [1, 2, 4, 6]) (F := @o31_3000_in) (by kernel_rfl) fun R r K vs hh h => by
  unfold o31_3000_in at h; split at h
  · rw [stream_PutGamma_j3_unf] at h; exact Eq.trans (by kernel_rfl) h
  · cases h

theorem p31_5000 : PieceOk (V 31) q31 o31 31 0 (3997, 0, c31_5000) := .s (size := 28) (ss := [2, 4, 6]) (F := @o31_5000_in) (by kernel_rfl) fun R r K vs hh h => by
  unfold o31_5000_in at h; split at h
  · rw [stream_PutGamma_j5_unf] at h; exact Eq.trans (by kernel_rfl) h
  · cases h

theorem pc31 : ∀ x ∈ [(3998, 0, c31_3000), (3997, 0, c31_5000)], PieceOk (V 31) q31 o31 31 0 x := List.forall_mem_cons.2 ⟨p31_3000, List.forall_mem_cons.2 ⟨p31_5000, fun _ h => nomatch h⟩⟩

noncomputable def sp31 : Ev.Spec := fun args _ K => match args with
  | ([AV.agg (Blk.any [AV.int .i64 n7, AV.fsl (Blk.ints .u64 xs8)]), AV.int .u64 n9]) => stream_PutGamma n7 xs8 n9 (fun x0 x1 x2 => K (AV.tup [AV.agg (Blk.any [AV.int .i64 x0, AV.fsl (Blk.ints .u64 x1)]), AV.int .i64 x2]))
  | _ => none
noncomputable def S31 := addS 31 sp31 S21
theorem D13 : Dom V S31 T55 13 := Dom.s (m := 12) (n := 0) D12 D12 (O := o31) (OrcOk.fn (fn0 := Try.f31) (by kernel_rfl) (by kernel_rfl) pc31) fun args R K r h => by
  unfold sp31 at h; split at h
  · rw [stream_PutGamma_unf] at h; exact Eq.trans (by kernel_rfl) h
  · cases h

noncomputable def o32_3000_in {R : Type} (K : Ex → St → Option R) (vs : List AV) (hh : H) : Option R := match vs, hh with
  | [AV.int .u64 n216, AV.ptr 0 0, AV.ptr 1 0, AV.ptr 2 0], [HB.live (Blk.any [AV.int .i64 n217, AV.fsl (Blk.ints .u64 xs218)]), HB.live (Blk.any [AV.int .i64 n219, AV.esl]), HB.live (Blk.any [AV.int .i64 n220, AV.fsl (Blk.ints .u64 xs221), AV.bool b222])] => stream_PutDelta_j3 n216 n217 xs218 n219 n220 xs221 b222 (fun x0 x1 x2 => K (Ex.ret) (St.mk (spread 37 0 [4, 5] [AV.ptr 0 0, AV.int .i64 x0]) [HB.live (Blk.any [AV.int .i64 x1, AV.fsl (Blk.ints .u64 x2)])]))
  | _, _ => none

noncomputable def o32_7000_in {R : Type} (K : Ex → St → Option R) (vs : List AV) (hh : H) : Option R := match vs, hh with
  | [AV.ptr 0 0, AV.ptr 1 0, AV.ptr 2 0], [HB.live (Blk.any [AV.int .i64 n230, AV.fsl (Blk.ints .u64 xs231)]), HB.live (Blk.any [AV.int .i64 n232, AV.esl]), HB.live (Blk.any [AV.int .i64 n233, AV.fsl (Blk.ints .u64 xs234), AV.bool b235])] => stream_PutDelta_j7 n230 xs231 n232 n233 xs234 b235 (fun x0 x1 x2 => K (Ex.ret) (St.mk (spread 37 0 [4, 5] [AV.ptr 0 0, AV.int .i64 x0]) [HB.live (Blk.any [AV.int .i64 x1, AV.fsl (Blk.ints .u64 x2)])]))
  | _, _ => none

noncomputable def o32 : Nat → Option PSpec := lkN [(3000, fun st _ K => pickM 37 [1, 2, 4, 6] st (o32_3000_in K)), (7000, fun st _ K => pickM 37 [2, 4, 6] st (o32_7000_in K))]
noncomputable def q32 : CallF := evFun (V 32) S31 T55 10

noncomputable def c32_3000 : Code := subC [1, 1] (bodyOf Try.f32)

noncomputable def c32_7000 : Code := subC [1, 1, 1] (bodyOf Try.f32)

theorem p32_3000 : PieceOk (V 32) q32 o32 32 0 (3998, 0, c32_3000) := .s (size := 37) (ss := [1, 2, 4, 6]) (F := @o32_3000_in) (by kernel_rfl) fun R r K vs hh h => by
  unfold o32_3000_in at h; split at h
  · rw [stream_PutDelta_j3_unf] at h; exact Eq.trans (by kernel_rfl) h
  · cases h

theorem p32_7000 : PieceOk (V 32) q32 o32 32 0 (3997, 0, c32_7000) := .s (size := 37) (ss := [2, 4, 6]) (F := @o32_7000_in) (by kernel_rfl) fun R r K vs hh h => by
  unfold o32_7000_in at h; split at h
  · rw [stream_PutDelta_j7_unf] at h; exact Eq.trans (by kernel_rfl) h
  · cases h

theorem pc32 : ∀ x ∈ [(3998, 0, c32_3000), (3997, 0, c32_7000)], PieceOk (V 32) q32 o32 32 0 x := List.forall_mem_cons.2 ⟨p32_3000, List.forall_mem_cons.2 ⟨p32_7000, fun _ h => nomatch h⟩⟩

noncomputable def sp32 : Ev.Spec := fun args _ K => match args with
  | ([AV.agg (Blk.any [AV.int .i64 n212, AV.fsl (Blk.ints .u64 xs213)]), AV.int .u64 n214]) => stream_PutDelta n212 xs213 n214 (fun x0 x1 x2 => K (AV.tup [AV.agg (Blk.any [AV.int .i64 x0, AV.fsl (Blk.ints .u64 x1)]), AV.int .i64 x2]))
  | _ => none
noncomputable def S32 := addS 32 sp32 S31
theorem D14 : Dom V S32 T55 14 := Dom.s (m := 13) (n := 0) D13 D13 (O := o32) (OrcOk.fn (fn0 := Try.f32) (by kernel_rfl) (by kernel_rfl) pc32) fun args R K r h => by
  unfold sp32 at h; split at h
  · rw [stream_PutDelta_unf] at h; exact Eq.trans (by kernel_rfl) h
  · cases h

noncomputable def o16_6000_in {R : Type} (K : Ex → St → Option R) (vs : List AV) (hh : H) : Option R := match vs, hh with
  | [AV.int .i64 n278, AV.ptr 0 0], [HB.live (Blk.any [AV.int .i64 n279, AV.fsl (Blk.ints .u64 xs280)])] => bits_Get_j6 n278 n279 xs280 (fun x0 x1 => K (Ex.ret) (St.mk (spread 30 0 [4, 5] [AV.bool x0, AV.int .i64 x1]) []))
  | _, _ => none

noncomputable def o16 : Nat → Option PSpec := lkN [(6000, fun st _ K => pickM 30 [1, 2] st (o16_6000_in K))]
noncomputable def q16 : CallF := evFun (V 16) S32 T55 10

noncomputable def c16_6000 : Code := subC [1, 1] (bodyOf Try.f16)

theorem p16_6000 : PieceOk (V 16) q16 o16 16 0 (3998, 0, c16_6000) := .s (size := 30) (ss := [1, 2]) (F := @o16_6000_in) (by kernel_rfl) fun R r K vs hh h => by
  unfold o16_6000_in at h; split at h
  · rw [bits_Get_j6_unf] at h; exact Eq.trans (by kernel_rfl) h
  · cases h

theorem pc16 : ∀ x ∈ [(3998, 0, c16_6000)], PieceOk (V 16) q16 o16 16 0 x := List.forall_mem_cons.2 ⟨p16_6000, fun _ h => nomatch h⟩

noncomputable def sp16 : Ev.Spec := fun args _ K => match args with
  | ([AV.agg (Blk.any [AV.int .i64 n274, AV.fsl (Blk.ints .u64 xs275)]), AV.int .i64 n276]) => bits_Get n274 xs275 n276 (fun x0 x1 => K (AV.tup [AV.bool x0, AV.int .i64 x1]))
  | _ => none
noncomputable def S16 := addS 16 sp16 S32
theorem D15 : Dom V S16 T55 15 := Dom.s (m := 14) (n := 0) D14 D14 (O := o16) (OrcOk.fn (fn0 := Try.f16) (by kernel_rfl) (by kernel_rfl) pc16) fun args R K r h => by
  unfold sp16 at h; split at h
  · rw [bits_Get_unf] at h; exact Eq.trans (by kernel_rfl) h
  · cases h

noncomputable def o18_3000_in {R : Type} (K : Ex → St → Option R) (vs : List AV) (hh : H) : Option R := match vs, hh with
  | [AV.int .i64 n295, AV.int .i64 n296, AV.ptr 0 0, AV.bool b297], [HB.live (Blk.any [AV.int .i64 n298, AV.fsl (Blk.ints .u64 xs299)])] => bits_Slice_j3 n295 n296 b297 n298 xs299 (fun x0 x1 => K (Ex.ret) (St.mk (spread 73 0 [6, 7] [AV.int .u64 x0, AV.int .i64 x1]) [])) (fun x0 x1 x2 x3 => K (Ex.normal) (St.mk (spread 73 0 [1, 2, 3] [AV.int .i64 x0, AV.int .i64 x1, AV.ptr 0 0]) [HB.live (Blk.any [AV.int .i64 x2, AV.fsl (Blk.ints .u64 x3)])]))
  | _, _ => none

noncomputable def o18_5000_in {R : Type} (K : Ex → St → Option R) (vs : List AV) (hh : H) : Option R := match vs, hh with
  | [AV.int .i64 n300, AV.int .i64 n301, AV.ptr 0 0, AV.bool b302], [HB.live (Blk.any [AV.int .i64 n303, AV.fsl (Blk.ints .u64 xs304)])] => bits_Slice_j5 n300 n301 b302 n303 xs304 (fun x0 x1 => K (Ex.ret) (St.mk (spread 73 0 [6, 7] [AV.int .u64 x0, AV.int .i64 x1]) [])) (fun x0 x1 x2 x3 => K (Ex.normal) (St.mk (spread 73 0 [1, 2, 3] [AV.int .i64 x0, AV.int .i64 x1, AV.ptr 0 0]) [HB.live (Blk.any [AV.int .i64 x2, AV.fsl (Blk.ints .u64 x3)])]))
  | _, _ => none

noncomputable def o18_8000_in {R : Type} (K : Ex → St → Option R) (vs : List AV) (hh : H) : Option R := match vs, hh with
  | [AV.int .i64 n329, AV.int .i64 n330, AV.ptr 0 0], [HB.live (Blk.any [AV.int .i64 n331, AV.fsl (Blk.ints .u64 xs332)])] => bits_Slice_j8 n329 n330 n331 xs332 (fun x0 x1 => K (Ex.ret) (St.mk (spread 73 0 [6, 7] [AV.int .u64 x0, AV.int .i64 x1]) []))
  | _, _ => none

noncomputable def o18_12000_in {R : Type} (K : Ex → St → Option R) (vs : List AV) (hh : H) : Option R := match vs, hh with
  | [AV.int .i64 n334, AV.int .u64 n335], [] => bits_Slice_j12 n334 n335 (fun x0 x1 => K (Ex.ret) (St.mk (spread 73 0 [6, 7] [AV.int .u64 x0, AV.int .i64 x1]) []))
  | _, _ => none

noncomputable def o18 : Nat → Option PSpec := lkN [(3000, fun st _ K => pickM 73 [1, 2, 3, 11] st (o18_3000_in K)), (5000, fun st _ K => pickM 73 [1, 2, 3, 23] st (o18_5000_in K)), (8000, fun st _ K => pickM 73 [1, 2, 3] st (o18_8000_in K)), (12000, fun st _ K => pickM 73 [2, 10] st (o18_12000_in K))]
noncomputable def q18 : CallF := evFun (V 18) S16 T55 10

noncomputable def c18_8000 : Code := subC [1, 1] (bodyOf Try.f18)

noncomputable def c18_3000 : Code := subC [1, 0, 0, 1] (bodyOf Try.f18)

noncomputable def c18_5000 : Code := subC [1, 0, 0, 1, 1, 1] (bodyOf Try.f18)

noncomputable def c18_12000 : Code := subC [1, 1, 1, 1, 1] (bodyOf Try.f18)

theorem p18_8000 : PieceOk (V 18) q18 o18 18 0 (3998, 0, c18_8000) := .s (size := 73) (ss := [1, 2, 3]) (F := @o18_8000_in) (by kernel_rfl) fun R r K vs hh h => by
  unfold o18_8000_in at h; split at h
  · rw [bits_Slice_j8_unf] at h; exact Eq.trans (by kernel_rfl) h
  · cases h

theorem p18_3000 : PieceOk (V 18) q18 o18 18 0 (3996, 0, c18_3000) := .s (size := 73) (ss := [1, 2, 3, 11]) (F := @o18_3000_in) (by kernel_rfl) fun R r K vs hh h => by
  unfold o18_3000_in at h; split at h
  · rw [bits_Slice_j3_unf] at h; exact Eq.trans (by kernel_rfl) h
  · cases h

theorem p18_5000 : PieceOk (V 18) q18 o18 18 0 (3994, 0, c18_5000) := .s (size := 73) (ss := [1, 2, 3, 23]) (F := @o18_5000_in) (by kernel_rfl) fun R r K vs hh h => by
  unfold o18_5000_in at h; split at h
  · rw [bits_Slice_j5_unf] at h; exact Eq.trans (by kernel_rfl) h
  · cases h

theorem p18_12000 : PieceOk (V 18) q18 o18 18 0 (3995, 0, c18_12000) := .s (size := 73) (ss := [2, 10]) (F := @o18_12000_in) (by kernel_rfl) fun R r K vs hh h => by
  unfold o18_12000_in at h; split at h
  · rw [bits_Slice_j12_unf] at h; exact Eq.trans (by kernel_rfl) h
  · cases h

theorem pc18 : ∀ x ∈ [(3998, 0, c18_8000), (3996, 0, c18_3000), (3994, 0, c18_5000), (3995, 0, c18_12000)], PieceOk (V 18) q18 o18 18 0 x := List.forall_mem_cons.2 ⟨p18_8000, List.forall_mem_cons.2 ⟨p18_3000, List.forall_mem_cons.2 ⟨p18_5000, List.forall_mem_cons.2 ⟨p18_12000, fun _ h => nomatch h⟩⟩⟩⟩

noncomputable def sp18 : Ev.Spec := fun args _ K => match args with
  | ([AV.agg (Blk.any [AV.int .i64 n290, AV.fsl (Blk.ints .u64 xs291)]), AV.int .i64 n292, AV.int .i64 n293]) => bits_Slice n290 xs291 n292 n293 (fun x0 x1 => K (AV.tup [AV.int .u64 x0, AV.int .i64 x1]))
  | _ => none
noncomputable def S18 := addS 18 sp18 S16
theorem D16 : Dom V S18 T55 16 := Dom.s (m := 15) (n := 0) D15 D15 (O := o18) (OrcOk.fn (fn0 := Try.f18) (by kernel_rfl) (by kernel_rfl) pc18) fun args R K r h => by
  unfold sp18 at h; split at h
  · rw [bits_Slice_unf] at h; exact Eq.trans (by kernel_rfl) h
  · cases h

noncomputable def sp53 : Ev.Spec := fun args _ K => match args with
  | ([AV.agg (Blk.any [AV.int .i64 n286, AV.fsl (Blk.ints .u64 xs287)]), AV.int .i64 n288, AV.int .i64 n289]) => stream_tail n286 xs287 n288 n289 (fun x0 x1 x2 => K (AV.tup [AV.int .u64 x0, AV.int .i64 x1, AV.int .i64 x2]))
  | _ => none
noncomputable def S53 := addS 53 sp53 S18
theorem D17 : Dom V S53 T55 17 := Dom.s (m := 16) (n := 0) D16 D16 (O := (fun _ => none)) (fun _ _ _ _ => OrcOk.none _ _) fun args R K r h => by
  unfold sp53 at h; split at h
  · rw [stream_tail_unf] at h; exact Eq.trans (by kernel_rfl) h
  · cases h

noncomputable def o29_5000_in {R : Type} (K : Ex → St → Option R) (vs : List AV) (hh : H) : Option R := match vs, hh with
  | [AV.int .i64 n261, AV.ptr 0 0, AV.bool b262], [HB.live (Blk.any [AV.int .i64 n263, AV.fsl (Blk.ints .u64 xs264)])] => stream_Gamma_j5 n261 b262 n263 xs264 (fun x0 x1 x2 => K (Ex.ret) (St.mk (spread 48 0 [4, 5, 6] [AV.int .u64 x0, AV.int .i64 x1, AV.int .i64 x2]) [])) (fun x0 x1 x2 => K (Ex.normal) (St.mk (spread 48 0 [1, 2] [AV.int .i64 x0, AV.ptr 0 0]) [HB.live (Blk.any [AV.int .i64 x1, AV.fsl (Blk.ints .u64 x2)])]))
  | _, _ => none

noncomputable def o29_6000_in {R : Type} (K : Ex → St → Option R) (vs : List AV) (hh : H) : Option R := match vs, hh with
  | [AV.int .i64 n271, AV.ptr 0 0], [HB.live (Blk.any [AV.int .i64 n272, AV.fsl (Blk.ints .u64 xs273)])] => stream_Gamma_j6 n271 n272 xs273 (fun x0 x1 x2 => K (Ex.ret) (St.mk (spread 48 0 [4, 5, 6] [AV.int .u64 x0, AV.int .i64 x1, AV.int .i64 x2]) [])) (fun x0 x1 x2 x3 => K (Ex.goto 0) (St.mk (spread 48 0 [1, 2, 7] [AV.int .i64 x0, AV.ptr 0 0, AV.int .i64 x1]) [HB.live (Blk.any [AV.int .i64 x2, AV.fsl (Blk.ints .u64 x3)])]))
  | _, _ => none

noncomputable def o29_7700_in {R : Type} (K : Ex → St → Option R) (vs : List AV) (hh : H) : Option R := match vs, hh with
  | [AV.int .i64 n371, AV.ptr 0 0, AV.int .i64 n372], [HB.live (Blk.any [AV.int .i64 n373, AV.fsl (Blk.ints .u64 xs374)])] => stream_Gamma_g7 n371 n372 n373 xs374 (fun x0 x1 x2 => K (Ex.ret) (St.mk (spread 48 0 [4, 5, 6] [AV.int .u64 x0, AV.int .i64 x1, AV.int .i64 x2]) []))
  | _, _ => none

noncomputable def o29 : Nat → Option PSpec := lkN [(5000, fun st _ K => pickM 48 [1, 2, 20] st (o29_5000_in K)), (6000, fun st _ K => pickM 48 [1, 2] st (o29_6000_in K)), (7700, fun st _ K => pickM 48 [1, 2, 7] st (o29_7700_in K))]
noncomputable def q29 : CallF := evFun (V 29) S53 T55 10

noncomputable def c29_7700 : Code := restC (subC [1] (bodyOf Try.f29))

noncomputable def lp29_7700 {R : Type} (N : Nat) (st : St) (K : Ex → St → Option R) : Option R := evJump (norm ((V 29).keep 29 (Ev.keyOf c29_7700 * 1000 + 700)) 0) (evCode (V 29) q29 o29 29 0 3998 c29_7700) 0 N st (kOut (V 29) 29 0 (Ev.keyOf c29_7700 * 1000 + 701) K)

noncomputable def c29_6000 : Code := subC [1, 0, 1, 1] (bodyOf Try.f29)

noncomputable def c29_5000 : Code := subC [1, 0, 1, 0, 1] (bodyOf Try.f29)

theorem stream_Gamma_g7_L_eq {R : Type} (K : Ex → St → Option R) : ∀ N : Nat, (fun (n371 : Int) (n372 : Int) (n373 : Int) (xs374 : List Int) => lp29_7700 N (St.mk (spread 48 0 [1, 2, 7] [AV.int .i64 n371, AV.ptr 0 0, AV.int .i64 n372]) [HB.live (Blk.any [AV.int .i64 n373, AV.fsl (Blk.ints .u64 xs374)])]) K) = stream_Gamma_g7_L (fun x0 x1 x2 => K (Ex.ret) (St.mk (spread 48 0 [4, 5, 6] [AV.int .u64 x0, AV.int .i64 x1, AV.int .i64 x2]) [])) N
  | 0 => by funext n371 n372 n373 xs374; rfl
  | N + 1 => by
    funext n371 n372 n373 xs374
    simp only [stream_Gamma_g7_L]
    rw [← stream_Gamma_g7_L_eq K N]
    kernel_rfl

theorem p29_7700 : PieceOk (V 29) q29 o29 29 0 (3998, 2, c29_7700) := .g (size := 48) (ss := [1, 2, 7]) (F := @o29_7700_in) (by kernel_rfl) (by kernel_rfl) fun R r K vs hh h => by
  unfold o29_7700_in at h; split at h
  · rw [stream_Gamma_g7_unf] at h; unfold stream_Gamma_g7_B at h; rw [← stream_Gamma_g7_L_eq K NR] at h; exact h
  · cases h

theorem p29_6000 : PieceOk (V 29) q29 o29 29 0 (3996, 0, c29_6000) := .s (size := 48) (ss := [1, 2]) (F := @o29_6000_in) (by kernel_rfl) fun R r K vs hh h => by
  unfold o29_6000_in at h; split at h
  · rw [stream_Gamma_j6_unf] at h; exact Eq.trans (by kernel_rfl) h
  · cases h

theorem p29_5000 : PieceOk (V 29) q29 o29 29 0 (3995, 0, c29_5000) := .s (size := 48) (ss := [1, 2, 20]) (F := @o29_5000_in) (by kernel_rfl) fun R r K vs hh h => by
  unfold o29_5000_in at h; split at h
  · rw [stream_Gamma_j5_unf] at h; exact Eq.trans (by kernel_rfl) h
  · cases h

theorem pc29 : ∀ x ∈ [(3998, 2, c29_7700), (3996, 0, c29_6000), (3995, 0, c29_5000)], PieceOk (V 29) q29 o29 29 0 x := List.forall_mem_cons.2 ⟨p29_7700, List.forall_mem_cons.2 ⟨p29_6000, List.forall_mem_cons.2 ⟨p29_5000, fun _ h => nomatch h⟩⟩⟩

noncomputable def sp29 : Ev.Spec := fun args _ K => match args with
  | ([AV.agg (Blk.any [AV.int .i64 n257, AV.fsl (Blk.ints .u64 xs258)]), AV.int .i64 n259]) => stream_Gamma n257 xs258 n259 (fun x0 x1 x2 => K (AV.tup [AV.int .u64 x0, AV.int .i64 x1, AV.int .i64 x2]))
  | _ => none
noncomputable def S29 := addS 29 sp29 S53
theorem D18 : Dom V S29 T55 18 := Dom.s (m := 17) (n := 0) D17 D17 (O := o29) (OrcOk.fn (fn0 := Try.f29) (by kernel_rfl) (by kernel_rfl) pc29) fun args R K r h => by
  unfold sp29 at h; split at h
  · rw [stream_Gamma_unf] at h; exact Eq.trans (by kernel_rfl) h
  · cases h

noncomputable def sp30 : Ev.Spec := fun args _ K => match args with
  | ([AV.agg (Blk.any [AV.int .i64 n411, AV.fsl (Blk.ints .u64 xs412)]), AV.int .i64 n413]) => stream_Delta n411 xs412 n413 (fun x0 x1 x2 => K (AV.tup [AV.int .u64 x0, AV.int .i64 x1, AV.int .i64 x2]))
  | _ => none
noncomputable def S30 := addS 30 sp30 S29
theorem D19 : Dom V S30 T55 19 := Dom.s (m := 18) (n := 0) D18 D18 (O := (fun _ => none)) (fun _ _ _ _ => OrcOk.none _ _) fun args R K r h => by
  unfold sp30 at h; split at h
  · rw [stream_Delta_unf] at h; exact Eq.trans (by kernel_rfl) h
  · cases h

noncomputable def sp1000038 : Ev.Spec := fun args _ K => match args with
  | ([AV.int .u64 n432, AV.bool b433]) => stream_Size_d n432 b433 (fun x0 => K (AV.int .i64 x0))
  | _ => none
noncomputable def S1000038 := addS 38 sp1000038 S30
theorem D20 : Dom V S1000038 T55 20 := Dom.s (m := 19) (n := 0) D19 D19 (O := (fun _ => none)) (fun _ _ _ _ => OrcOk.none _ _) fun args R K r h => by
  unfold sp1000038 at h; split at h
  · rw [stream_Size_d_unf] at h; exact Eq.trans (by kernel_rfl) h
  · cases h

noncomputable def sp38 : Ev.Spec := fun args _ K => match args with
  | ([AV.int .u64 n429, AV.bool b430]) => stream_Size n429 b430 (fun x0 => K (AV.int .i64 x0))
  | _ => none
noncomputable def S38 := addS 38 sp38 S1000038
theorem D21 : Dom V S38 T55 21 := Dom.s (m := 20) (n := 0) D20 D20 (O := (fun _ => none)) (fun _ _ _ _ => OrcOk.none _ _) fun args R K r h => by
  unfold sp38 at h; split at h
  · rw [stream_Size_unf] at h; exact Eq.trans (by kernel_rfl) h
  · cases h

noncomputable def o28_5000_in {R : Type} (K : Ex → St → Option R) (vs : List AV) (hh : H) : Option R := match vs, hh with
  | [AV.ptr 0 0, AV.int .i64 n402, AV.ptr 1 0, AV.int .i64 n403, AV.int .u64 n404, AV.int .i64 n405, AV.int .i64 n406], [HB.live (Blk.any [AV.int .i64 n407, AV.fsl (Blk.ints .u64 xs408)]), HB.live (Blk.any [AV.int .i64 n409, AV.fsl (Blk.ints .u64 xs410)])] => haystacklaw04_heads_j5 n402 n403 n404 n405 n406 n407 xs408 n409 xs410 (fun x0 => K (Ex.ret) (St.mk (spread 113 0 [0] [AV.bool x0]) []))
  | _, _ => none

noncomputable def o28 : Nat → Option PSpec := lkN [(5000, fun st _ K => pickM 113 [1, 2, 3, 4, 5, 6, 7] st (o28_5000_in K))]
noncomputable def q28 : CallF := evFun (V 28) S38 T55 10

noncomputable def c28_5000 : Code := subC [1, 1, 1, 1] (bodyOf Try.f28)

theorem p28_5000 : PieceOk (V 28) q28 o28 28 0 (3996, 0, c28_5000) := .s (size := 113) (ss := [1, 2, 3, 4, 5, 6, 7]) (F := @o28_5000_in) (by kernel_rfl) fun R r K vs hh h => by
  unfold o28_5000_in at h; split at h
  · rw [haystacklaw04_heads_j5_unf] at h; exact Eq.trans (by kernel_rfl) h
  · cases h

theorem pc28 : ∀ x ∈ [(3996, 0, c28_5000)], PieceOk (V 28) q28 o28 28 0 x := List.forall_mem_cons.2 ⟨p28_5000, fun _ h => nomatch h⟩

noncomputable def sp28 : Ev.Spec := fun args _ K => match args with
  | ([]) => haystacklaw04_heads (fun x0 => K (AV.bool x0))
  | _ => none
noncomputable def S28 := addS 28 sp28 S38
theorem D22 : Dom V S28 T55 22 := Dom.s (m := 21) (n := 0) D21 D21 (O := o28) (OrcOk.fn (fn0 := Try.f28) (by kernel_rfl) (by kernel_rfl) pc28) fun args R K r h => by
  unfold sp28 at h; split at h
  · rw [haystacklaw04_heads_unf] at h; exact Eq.trans (by kernel_rfl) h
  · cases h

noncomputable def sp49 : Ev.Spec := fun args _ K => match args with
  | ([AV.int .i64 n441]) => haystackref02_Words n441 (fun x0 => K (AV.int .i64 x0))
  | _ => none
noncomputable def S49 := addS 49 sp49 S28
theorem D23 : Dom V S49 T55 23 := Dom.s (m := 22) (n := 0) D22 D22 (O := (fun _ => none)) (fun _ _ _ _ => OrcOk.none _ _) fun args R K r h => by
  unfold sp49 at h; split at h
  · rw [haystackref02_Words_unf] at h; exact Eq.trans (by kernel_rfl) h
  · cases h

noncomputable def o52_4400_in {R : Type} (K : Ex → St → Option R) (vs : List AV) (hh : H) : Option R := match vs, hh with
  | [AV.int .i64 n446, AV.int .u64 n447, AV.int .i64 n448], [] => haystackref01_Mask_l4 n446 n447 n448 (fun x0 => K (Ex.exit 0) (St.mk (spread 20 0 [3] [AV.int .u64 x0]) []))
  | _, _ => none

noncomputable def o52_6000_in {R : Type} (K : Ex → St → Option R) (vs : List AV) (hh : H) : Option R := match vs, hh with
  | [AV.int .i64 n449, AV.int .u64 n450, AV.int .i64 n451], [] => haystackref01_Mask_j6 n449 n450 n451 (fun x0 x1 x2 => K (Ex.normal) (St.mk (spread 20 0 [0, 3, 4] [AV.int .i64 x0, AV.int .u64 x1, AV.int .i64 x2]) []))
  | _, _ => none

noncomputable def o52 : Nat → Option PSpec := lkN [(4400, fun st _ K => pickM 20 [0, 3, 4] st (o52_4400_in K)), (6000, fun st _ K => pickM 20 [0, 3, 4] st (o52_6000_in K))]
noncomputable def q52 : CallF := evFun (V 52) S49 T55 10

noncomputable def c52_4400 : Code := subC [1, 1, 0, 1, 0, 0] (bodyOf Try.f52)

noncomputable def lp52_4400 {R : Type} (N : Nat) (st : St) (K : Ex → St → Option R) : Option R := evLoop (norm ((V 52).keep 52 (Ev.keyOf c52_4400 * 1000 + 400)) 0) (evCode (V 52) q52 o52 52 0 3994 c52_4400) N st (kOut (V 52) 52 0 (Ev.keyOf c52_4400 * 1000 + 401) K)

noncomputable def c52_6000 : Code := subC [1, 1, 0, 1, 0, 0, 1] (bodyOf Try.f52)

theorem haystackref01_Mask_l4_L_eq {R : Type} (K : Ex → St → Option R) : ∀ N : Nat, (fun (n446 : Int) (n447 : Int) (n448 : Int) => lp52_4400 N (St.mk (spread 20 0 [0, 3, 4] [AV.int .i64 n446, AV.int .u64 n447, AV.int .i64 n448]) []) K) = haystackref01_Mask_l4_L (fun x0 => K (Ex.exit 0) (St.mk (spread 20 0 [3] [AV.int .u64 x0]) [])) N
  | 0 => by funext n446 n447 n448; rfl
  | N + 1 => by
    funext n446 n447 n448
    simp only [haystackref01_Mask_l4_L]
    rw [← haystackref01_Mask_l4_L_eq K N]
    kernel_rfl

theorem p52_4400 : PieceOk (V 52) q52 o52 52 0 (3994, 1, c52_4400) := .l (size := 20) (ss := [0, 3, 4]) (F := @o52_4400_in) (by kernel_rfl) (by kernel_rfl) fun R r K vs hh h => by
  unfold o52_4400_in at h; split at h
  · rw [haystackref01_Mask_l4_unf] at h; unfold haystackref01_Mask_l4_B at h; rw [← haystackref01_Mask_l4_L_eq K NR] at h; exact h
  · cases h

theorem p52_6000 : PieceOk (V 52) q52 o52 52 0 (3993, 0, c52_6000) := .s (size := 20) (ss := [0, 3, 4]) (F := @o52_6000_in) (by kernel_rfl) fun R r K vs hh h => by
  unfold o52_6000_in at h; split at h
  · rw [haystackref01_Mask_j6_unf] at h; exact Eq.trans (by kernel_rfl) h
  · cases h

theorem pc52 : ∀ x ∈ [(3994, 1, c52_4400), (3993, 0, c52_6000)], PieceOk (V 52) q52 o52 52 0 x := List.forall_mem_cons.2 ⟨p52_4400, List.forall_mem_cons.2 ⟨p52_6000, fun _ h => nomatch h⟩⟩

noncomputable def sp52 : Ev.Spec := fun args _ K => match args with
  | ([AV.int .i64 n445]) => haystackref01_Mask n445 (fun x0 => K (AV.int .u64 x0))
  | _ => none
noncomputable def S52 := addS 52 sp52 S49
theorem D24 : Dom V S52 T55 24 := Dom.s (m := 23) (n := 0) D23 D23 (O := o52) (OrcOk.fn (fn0 := Try.f52) (by kernel_rfl) (by kernel_rfl) pc52) fun args R K r h => by
  unfold sp52 at h; split at h
  · rw [haystackref01_Mask_unf] at h; exact Eq.trans (by kernel_rfl) h
  · cases h

noncomputable def o27_4000_in {R : Type} (K : Ex → St → Option R) (vs : List AV) (hh : H) : Option R := match vs, hh with
  | [AV.ptr 0 0], [HB.live (Blk.any [AV.int .i64 n443, AV.fsl (Blk.ints .u64 xs444)])] => haystackref02_Check_j4 n443 xs444 (fun x0 => K (Ex.ret) (St.mk (spread 40 0 [2] [AV.bool x0]) []))
  | _, _ => none

noncomputable def o27 : Nat → Option PSpec := lkN [(4000, fun st _ K => pickM 40 [1] st (o27_4000_in K))]
noncomputable def q27 : CallF := evFun (V 27) S52 T55 10

noncomputable def c27_4000 : Code := subC [1, 1] (bodyOf Try.f27)

theorem p27_4000 : PieceOk (V 27) q27 o27 27 0 (3998, 0, c27_4000) := .s (size := 40) (ss := [1]) (F := @o27_4000_in) (by kernel_rfl) fun R r K vs hh h => by
  unfold o27_4000_in at h; split at h
  · rw [haystackref02_Check_j4_unf] at h; exact Eq.trans (by kernel_rfl) h
  · cases h

theorem pc27 : ∀ x ∈ [(3998, 0, c27_4000)], PieceOk (V 27) q27 o27 27 0 x := List.forall_mem_cons.2 ⟨p27_4000, fun _ h => nomatch h⟩

noncomputable def sp27 : Ev.Spec := fun args _ K => match args with
  | ([AV.agg (Blk.any [AV.int .i64 n439, AV.fsl (Blk.ints .u64 xs440)])]) => haystackref02_Check n439 xs440 (fun x0 => K (AV.bool x0))
  | _ => none
noncomputable def S27 := addS 27 sp27 S52
theorem D25 : Dom V S27 T55 25 := Dom.s (m := 24) (n := 0) D24 D24 (O := o27) (OrcOk.fn (fn0 := Try.f27) (by kernel_rfl) (by kernel_rfl) pc27) fun args R K r h => by
  unfold sp27 at h; split at h
  · rw [haystackref02_Check_unf] at h; exact Eq.trans (by kernel_rfl) h
  · cases h

noncomputable def sp58 : Ev.Spec := fun args _ K => match args with
  | ([AV.agg (Blk.any [AV.int .i64 n519, AV.fsl (Blk.ints .u64 xs520)]), AV.int .i64 n521]) => haystackref02_At n519 xs520 n521 (fun x0 => K (AV.bool x0))
  | _ => none
noncomputable def S58 := addS 58 sp58 S27
theorem D26 : Dom V S58 T55 26 := Dom.s (m := 25) (n := 0) D25 D25 (O := (fun _ => none)) (fun _ _ _ _ => OrcOk.none _ _) fun args R K r h => by
  unfold sp58 at h; split at h
  · rw [haystackref02_At_unf] at h; exact Eq.trans (by kernel_rfl) h
  · cases h

noncomputable def o33_6000_in {R : Type} (K : Ex → St → Option R) (vs : List AV) (hh : H) : Option R := match vs, hh with
  | [AV.int .i64 n516, AV.ptr 0 0], [HB.live (Blk.any [AV.int .i64 n517, AV.fsl (Blk.ints .u64 xs518)])] => haystackref02_Get_j6 n516 n517 xs518 (fun x0 x1 => K (Ex.ret) (St.mk (spread 20 0 [4, 5] [AV.bool x0, AV.int .i64 x1]) []))
  | _, _ => none

noncomputable def o33 : Nat → Option PSpec := lkN [(6000, fun st _ K => pickM 20 [1, 2] st (o33_6000_in K))]
noncomputable def q33 : CallF := evFun (V 33) S58 T55 10

noncomputable def c33_6000 : Code := subC [1, 1, 1] (bodyOf Try.f33)

theorem p33_6000 : PieceOk (V 33) q33 o33 33 0 (3997, 0, c33_6000) := .s (size := 20) (ss := [1, 2]) (F := @o33_6000_in) (by kernel_rfl) fun R r K vs hh h => by
  unfold o33_6000_in at h; split at h
  · rw [haystackref02_Get_j6_unf] at h; exact Eq.trans (by kernel_rfl) h
  · cases h

theorem pc33 : ∀ x ∈ [(3997, 0, c33_6000)], PieceOk (V 33) q33 o33 33 0 x := List.forall_mem_cons.2 ⟨p33_6000, fun _ h => nomatch h⟩

noncomputable def sp33 : Ev.Spec := fun args _ K => match args with
  | ([AV.agg (Blk.any [AV.int .i64 n512, AV.fsl (Blk.ints .u64 xs513)]), AV.int .i64 n514]) => haystackref02_Get n512 xs513 n514 (fun x0 x1 => K (AV.tup [AV.bool x0, AV.int .i64 x1]))
  | _ => none
noncomputable def S33 := addS 33 sp33 S58
theorem D27 : Dom V S33 T55 27 := Dom.s (m := 26) (n := 0) D26 D26 (O := o33) (OrcOk.fn (fn0 := Try.f33) (by kernel_rfl) (by kernel_rfl) pc33) fun args R K r h => by
  unfold sp33 at h; split at h
  · rw [haystackref02_Get_unf] at h; exact Eq.trans (by kernel_rfl) h
  · cases h

noncomputable def o9_4000_in {R : Type} (K : Ex → St → Option R) (vs : List AV) (hh : H) : Option R := match vs, hh with
  | [AV.int .i64 n463, AV.bool b464, AV.ptr 0 0], [HB.live (Blk.any [AV.int .i64 n465, AV.fsl (Blk.ints .u64 xs466)])] => haystacklaw04_StreamOnce_j4 n463 b464 n465 xs466 (fun x0 => K (Ex.ret) (St.mk (spread 115 0 [6] [AV.bool x0]) []))
  | _, _ => none

noncomputable def o9_5000_in {R : Type} (K : Ex → St → Option R) (vs : List AV) (hh : H) : Option R := match vs, hh with
  | [AV.int .i64 n470, AV.bool b471, AV.ptr 0 0, AV.int .u64 n472, AV.int .i64 n473, AV.int .i64 n474], [HB.live (Blk.any [AV.int .i64 n475, AV.fsl (Blk.ints .u64 xs476)])] => haystacklaw04_StreamOnce_j5 n470 b471 n472 n473 n474 n475 xs476 (fun x0 => K (Ex.ret) (St.mk (spread 115 0 [6] [AV.bool x0]) []))
  | _, _ => none

noncomputable def o9_7000_in {R : Type} (K : Ex → St → Option R) (vs : List AV) (hh : H) : Option R := match vs, hh with
  | [AV.int .i64 n480, AV.bool b481, AV.ptr 0 0, AV.int .u64 n482, AV.int .i64 n483, AV.int .i64 n484], [HB.live (Blk.any [AV.int .i64 n485, AV.fsl (Blk.ints .u64 xs486)])] => haystacklaw04_StreamOnce_j7 n480 b481 n482 n483 n484 n485 xs486 (fun x0 => K (Ex.ret) (St.mk (spread 115 0 [6] [AV.bool x0]) []))
  | _, _ => none

noncomputable def o9_12000_in {R : Type} (K : Ex → St → Option R) (vs : List AV) (hh : H) : Option R := match vs, hh with
  | [AV.int .i64 n494, AV.ptr 0 0, AV.int .i64 n495, AV.ptr 1 0, AV.int .i64 n496], [HB.live (Blk.any [AV.int .i64 n497, AV.fsl (Blk.ints .u64 xs498)]), HB.live (Blk.any [AV.int .i64 n499, AV.fsl (Blk.ints .u64 xs500)])] => haystacklaw04_StreamOnce_j12 n494 n495 n496 n497 xs498 n499 xs500 (fun x0 => K (Ex.ret) (St.mk (spread 115 0 [6] [AV.bool x0]) []))
  | _, _ => none

noncomputable def o9_14000_in {R : Type} (K : Ex → St → Option R) (vs : List AV) (hh : H) : Option R := match vs, hh with
  | [AV.int .i64 n501, AV.ptr 0 0, AV.ptr 1 0], [HB.live (Blk.any [AV.int .i64 n502, AV.fsl (Blk.ints .u64 xs503)]), HB.live (Blk.any [AV.int .i64 n504, AV.fsl (Blk.ints .u64 xs505)])] => haystacklaw04_StreamOnce_j14 n501 n502 xs503 n504 xs505 (fun x0 => K (Ex.ret) (St.mk (spread 115 0 [6] [AV.bool x0]) []))
  | _, _ => none

noncomputable def o9_15400_in {R : Type} (K : Ex → St → Option R) (vs : List AV) (hh : H) : Option R := match vs, hh with
  | [AV.int .i64 n506, AV.ptr 0 0, AV.ptr 1 0, AV.int .i64 n507], [HB.live (Blk.any [AV.int .i64 n508, AV.fsl (Blk.ints .u64 xs509)]), HB.live (Blk.any [AV.int .i64 n510, AV.fsl (Blk.ints .u64 xs511)])] => haystacklaw04_StreamOnce_l15 n506 n507 n508 xs509 n510 xs511 (fun x0 => K (Ex.ret) (St.mk (spread 115 0 [6] [AV.bool x0]) [])) (fun _ => K (Ex.exit 0) (St.mk (spread 115 0 [] []) []))
  | _, _ => none

noncomputable def o9 : Nat → Option PSpec := lkN [(4000, fun st _ K => pickM 115 [1, 2, 3] st (o9_4000_in K)), (5000, fun st _ K => pickM 115 [1, 2, 3, 7, 8, 9] st (o9_5000_in K)), (7000, fun st _ K => pickM 115 [1, 2, 3, 7, 8, 9] st (o9_7000_in K)), (12000, fun st _ K => pickM 115 [1, 3, 8, 10, 11] st (o9_12000_in K)), (14000, fun st _ K => pickM 115 [1, 3, 10] st (o9_14000_in K)), (15400, fun st _ K => pickM 115 [1, 3, 10, 12] st (o9_15400_in K))]
noncomputable def q9 : CallF := evFun (V 9) S33 T55 10

noncomputable def c9_4000 : Code := subC [1, 1] (bodyOf Try.f9)

noncomputable def c9_5000 : Code := subC [1, 1, 1] (bodyOf Try.f9)

noncomputable def c9_7000 : Code := subC [1, 1, 1, 1] (bodyOf Try.f9)

noncomputable def c9_12000 : Code := subC [1, 1, 1, 1, 1, 1, 1] (bodyOf Try.f9)

noncomputable def c9_14000 : Code := subC [1, 1, 1, 1, 1, 1, 1, 1] (bodyOf Try.f9)

noncomputable def c9_15400 : Code := subC [1, 1, 1, 1, 1, 1, 1, 1, 0, 1, 0, 0] (bodyOf Try.f9)

noncomputable def lp9_15400 {R : Type} (N : Nat) (st : St) (K : Ex → St → Option R) : Option R := evLoop (norm ((V 9).keep 9 (Ev.keyOf c9_15400 * 1000 + 400)) 0) (evCode (V 9) q9 o9 9 0 3988 c9_15400) N st (kOut (V 9) 9 0 (Ev.keyOf c9_15400 * 1000 + 401) K)

theorem haystacklaw04_StreamOnce_l15_L_eq {R : Type} (K : Ex → St → Option R) : ∀ N : Nat, (fun (n506 : Int) (n507 : Int) (n508 : Int) (xs509 : List Int) (n510 : Int) (xs511 : List Int) => lp9_15400 N (St.mk (spread 115 0 [1, 3, 10, 12] [AV.int .i64 n506, AV.ptr 0 0, AV.ptr 1 0, AV.int .i64 n507]) [HB.live (Blk.any [AV.int .i64 n508, AV.fsl (Blk.ints .u64 xs509)]), HB.live (Blk.any [AV.int .i64 n510, AV.fsl (Blk.ints .u64 xs511)])]) K) = haystacklaw04_StreamOnce_l15_L (fun x0 => K (Ex.ret) (St.mk (spread 115 0 [6] [AV.bool x0]) [])) (fun _ => K (Ex.exit 0) (St.mk (spread 115 0 [] []) [])) N
  | 0 => by funext n506 n507 n508 xs509 n510 xs511; rfl
  | N + 1 => by
    funext n506 n507 n508 xs509 n510 xs511
    simp only [haystacklaw04_StreamOnce_l15_L]
    rw [← haystacklaw04_StreamOnce_l15_L_eq K N]
    kernel_rfl

theorem p9_4000 : PieceOk (V 9) q9 o9 9 0 (3998, 0, c9_4000) := .s (size := 115) (ss := [1, 2, 3]) (F := @o9_4000_in) (by kernel_rfl) fun R r K vs hh h => by
  unfold o9_4000_in at h; split at h
  · rw [haystacklaw04_StreamOnce_j4_unf] at h; exact Eq.trans (by kernel_rfl) h
  · cases h

theorem p9_5000 : PieceOk (V 9) q9 o9 9 0 (3997, 0, c9_5000) := .s (size := 115) (ss := [1, 2, 3, 7, 8, 9]) (F := @o9_5000_in) (by kernel_rfl) fun R r K vs hh h => by
  unfold o9_5000_in at h; split at h
  · rw [haystacklaw04_StreamOnce_j5_unf] at h; exact Eq.trans (by kernel_rfl) h
  · cases h

theorem p9_7000 : PieceOk (V 9) q9 o9 9 0 (3996, 0, c9_7000) := .s (size := 115) (ss := [1, 2, 3, 7, 8, 9]) (F := @o9_7000_in) (by kernel_rfl) fun R r K vs hh h => by
  unfold o9_7000_in at h; split at h
  · rw [haystacklaw04_StreamOnce_j7_unf] at h; exact Eq.trans (by kernel_rfl) h
  · cases h

theorem p9_12000 : PieceOk (V 9) q9 o9 9 0 (3993, 0, c9_12000) := .s (size := 115) (ss := [1, 3, 8, 10, 11]) (F := @o9_12000_in) (by kernel_rfl) fun R r K vs hh h => by
  unfold o9_12000_in at h; split at h
  · rw [haystacklaw04_StreamOnce_j12_unf] at h; exact Eq.trans (by kernel_rfl) h
  · cases h

theorem p9_14000 : PieceOk (V 9) q9 o9 9 0 (3992, 0, c9_14000) := .s (size := 115) (ss := [1, 3, 10]) (F := @o9_14000_in) (by kernel_rfl) fun R r K vs hh h => by
  unfold o9_14000_in at h; split at h
  · rw [haystacklaw04_StreamOnce_j14_unf] at h; exact Eq.trans (by kernel_rfl) h
  · cases h

theorem p9_15400 : PieceOk (V 9) q9 o9 9 0 (3988, 1, c9_15400) := .l (size := 115) (ss := [1, 3, 10, 12]) (F := @o9_15400_in) (by kernel_rfl) (by kernel_rfl) fun R r K vs hh h => by
  unfold o9_15400_in at h; split at h
  · rw [haystacklaw04_StreamOnce_l15_unf] at h; unfold haystacklaw04_StreamOnce_l15_B at h; rw [← haystacklaw04_StreamOnce_l15_L_eq K NR] at h; exact h
  · cases h

theorem pc9 : ∀ x ∈ [(3998, 0, c9_4000), (3997, 0, c9_5000), (3996, 0, c9_7000), (3993, 0, c9_12000), (3992, 0, c9_14000), (3988, 1, c9_15400)], PieceOk (V 9) q9 o9 9 0 x := List.forall_mem_cons.2 ⟨p9_4000, List.forall_mem_cons.2 ⟨p9_5000, List.forall_mem_cons.2 ⟨p9_7000, List.forall_mem_cons.2 ⟨p9_12000, List.forall_mem_cons.2 ⟨p9_14000, List.forall_mem_cons.2 ⟨p9_15400, fun _ h => nomatch h⟩⟩⟩⟩⟩⟩

noncomputable def sp9 : Ev.Spec := fun args _ K => match args with
  | ([AV.agg (Blk.any [AV.int .i64 n0, AV.fsl (Blk.ints .u64 xs1)]), AV.int .i64 n2, AV.bool b3]) => haystacklaw04_StreamOnce n0 xs1 n2 b3 (fun x0 => K (AV.bool x0))
  | _ => none
noncomputable def S9 := addS 9 sp9 S33
theorem D28 : Dom V S9 T55 28 := Dom.s (m := 27) (n := 0) D27 D27 (O := o9) (OrcOk.fn (fn0 := Try.f9) (by kernel_rfl) (by kernel_rfl) pc9) fun args R K r h => by
  unfold sp9 at h; split at h
  · rw [haystacklaw04_StreamOnce_unf] at h; exact Eq.trans (by kernel_rfl) h
  · cases h

noncomputable def o66_3400_in {R : Type} (K : Ex → St → Option R) (vs : List AV) (hh : H) : Option R := match vs, hh with
  | [AV.int .u64 n557, AV.int .i64 n558], [] => haystackref01_Len_l3 n557 n558 (fun x0 => K (Ex.ret) (St.mk (spread 16 0 [2] [AV.int .i64 x0]) [])) (fun _ => K (Ex.exit 0) (St.mk (spread 16 0 [] []) []))
  | _, _ => none

noncomputable def o66 : Nat → Option PSpec := lkN [(3400, fun st _ K => pickM 16 [0, 3] st (o66_3400_in K))]
noncomputable def q66 : CallF := evFun (V 66) S9 T55 10

noncomputable def c66_3400 : Code := subC [1, 0, 1, 0, 0] (bodyOf Try.f66)

noncomputable def lp66_3400 {R : Type} (N : Nat) (st : St) (K : Ex → St → Option R) : Option R := evLoop (norm ((V 66).keep 66 (Ev.keyOf c66_3400 * 1000 + 400)) 0) (evCode (V 66) q66 o66 66 0 3995 c66_3400) N st (kOut (V 66) 66 0 (Ev.keyOf c66_3400 * 1000 + 401) K)

theorem haystackref01_Len_l3_L_eq {R : Type} (K : Ex → St → Option R) : ∀ N : Nat, (fun (n557 : Int) (n558 : Int) => lp66_3400 N (St.mk (spread 16 0 [0, 3] [AV.int .u64 n557, AV.int .i64 n558]) []) K) = haystackref01_Len_l3_L (fun x0 => K (Ex.ret) (St.mk (spread 16 0 [2] [AV.int .i64 x0]) [])) (fun _ => K (Ex.exit 0) (St.mk (spread 16 0 [] []) [])) N
  | 0 => by funext n557 n558; rfl
  | N + 1 => by
    funext n557 n558
    simp only [haystackref01_Len_l3_L]
    rw [← haystackref01_Len_l3_L_eq K N]
    kernel_rfl

theorem p66_3400 : PieceOk (V 66) q66 o66 66 0 (3995, 1, c66_3400) := .l (size := 16) (ss := [0, 3]) (F := @o66_3400_in) (by kernel_rfl) (by kernel_rfl) fun R r K vs hh h => by
  unfold o66_3400_in at h; split at h
  · rw [haystackref01_Len_l3_unf] at h; unfold haystackref01_Len_l3_B at h; rw [← haystackref01_Len_l3_L_eq K NR] at h; exact h
  · cases h

theorem pc66 : ∀ x ∈ [(3995, 1, c66_3400)], PieceOk (V 66) q66 o66 66 0 x := List.forall_mem_cons.2 ⟨p66_3400, fun _ h => nomatch h⟩

noncomputable def sp66 : Ev.Spec := fun args _ K => match args with
  | ([AV.int .u64 n556]) => haystackref01_Len n556 (fun x0 => K (AV.int .i64 x0))
  | _ => none
noncomputable def S66 := addS 66 sp66 S9
theorem D29 : Dom V S66 T55 29 := Dom.s (m := 28) (n := 0) D28 D28 (O := o66) (OrcOk.fn (fn0 := Try.f66) (by kernel_rfl) (by kernel_rfl) pc66) fun args R K r h => by
  unfold sp66 at h; split at h
  · rw [haystackref01_Len_unf] at h; exact Eq.trans (by kernel_rfl) h
  · cases h

noncomputable def o67_4400_in {R : Type} (K : Ex → St → Option R) (vs : List AV) (hh : H) : Option R := match vs, hh with
  | [AV.int .u64 n565, AV.int .i64 n566, AV.esl, AV.int .i64 n567], [] => haystackref04_low_l4 n565 n566 n567 (fun x0 x1 => K (Ex.exit 0) (St.mk (spread 22 0 [5] [AV.sl 0 0 x0 1]) [HB.live (Blk.bools x1)])) (fun _ => K (Ex.exit 0) (St.mk (spread 22 0 [5] [AV.esl]) []))
  | [AV.int .u64 n569, AV.int .i64 n570, AV.sl 0 0 l571 1, AV.int .i64 n572], [HB.live (Blk.bools bs573)] => haystackref04_low_l4_1 n569 n570 l571 n572 bs573 (fun x0 x1 => K (Ex.exit 0) (St.mk (spread 22 0 [5] [AV.sl 0 0 x0 1]) [HB.live (Blk.bools x1)]))
  | _, _ => none

noncomputable def o67 : Nat → Option PSpec := lkN [(4400, fun st _ K => pickM 22 [0, 1, 5, 6] st (o67_4400_in K))]
noncomputable def q67 : CallF := evFun (V 67) S66 T55 10

noncomputable def c67_4400 : Code := subC [1, 1, 0, 1, 0, 0] (bodyOf Try.f67)

noncomputable def lp67_4400 {R : Type} (N : Nat) (st : St) (K : Ex → St → Option R) : Option R := evLoop (norm ((V 67).keep 67 (Ev.keyOf c67_4400 * 1000 + 400)) 0) (evCode (V 67) q67 o67 67 0 3994 c67_4400) N st (kOut (V 67) 67 0 (Ev.keyOf c67_4400 * 1000 + 401) K)

theorem haystackref04_low_l4_1_L_eq {R : Type} (K : Ex → St → Option R) : ∀ N : Nat, (fun (n569 : Int) (n570 : Int) (l571 : Nat) (n572 : Int) (bs573 : List Bool) => lp67_4400 N (St.mk (spread 22 0 [0, 1, 5, 6] [AV.int .u64 n569, AV.int .i64 n570, AV.sl 0 0 l571 1, AV.int .i64 n572]) [HB.live (Blk.bools bs573)]) K) = haystackref04_low_l4_1_L (fun x0 x1 => K (Ex.exit 0) (St.mk (spread 22 0 [5] [AV.sl 0 0 x0 1]) [HB.live (Blk.bools x1)])) N
  | 0 => by funext n569 n570 l571 n572 bs573; rfl
  | N + 1 => by
    funext n569 n570 l571 n572 bs573
    simp only [haystackref04_low_l4_1_L]
    rw [← haystackref04_low_l4_1_L_eq K N]
    kernel_rfl

theorem haystackref04_low_l4_L_eq {R : Type} (K : Ex → St → Option R) : ∀ N : Nat, (fun (n565 : Int) (n566 : Int) (n567 : Int) => lp67_4400 N (St.mk (spread 22 0 [0, 1, 5, 6] [AV.int .u64 n565, AV.int .i64 n566, AV.esl, AV.int .i64 n567]) []) K) = haystackref04_low_l4_L (fun x0 x1 => K (Ex.exit 0) (St.mk (spread 22 0 [5] [AV.sl 0 0 x0 1]) [HB.live (Blk.bools x1)])) (fun _ => K (Ex.exit 0) (St.mk (spread 22 0 [5] [AV.esl]) [])) N
  | 0 => by funext n565 n566 n567; rfl
  | N + 1 => by
    funext n565 n566 n567
    simp only [haystackref04_low_l4_L]
    rw [← haystackref04_low_l4_L_eq K N, ← haystackref04_low_l4_1_L_eq K N]
    kernel_rfl

theorem p67_4400 : PieceOk (V 67) q67 o67 67 0 (3994, 1, c67_4400) := .l (size := 22) (ss := [0, 1, 5, 6]) (F := @o67_4400_in) (by kernel_rfl) (by kernel_rfl) fun R r K vs hh h => by
  unfold o67_4400_in at h; split at h
  · rw [haystackref04_low_l4_unf] at h; unfold haystackref04_low_l4_B at h; rw [← haystackref04_low_l4_L_eq K NR] at h; exact h
  · rw [haystackref04_low_l4_1_unf] at h; unfold haystackref04_low_l4_1_B at h; rw [← haystackref04_low_l4_1_L_eq K NR] at h; exact h
  · cases h

theorem pc67 : ∀ x ∈ [(3994, 1, c67_4400)], PieceOk (V 67) q67 o67 67 0 x := List.forall_mem_cons.2 ⟨p67_4400, fun _ h => nomatch h⟩

noncomputable def sp67 : Ev.Spec := fun args _ K => match args with
  | ([AV.int .u64 n563, AV.int .i64 n564]) => haystackref04_low n563 n564 (fun x0 => K (AV.fsl (Blk.bools x0)))
  | _ => none
noncomputable def S67 := addS 67 sp67 S66
theorem D30 : Dom V S67 T55 30 := Dom.s (m := 29) (n := 0) D29 D29 (O := o67) (OrcOk.fn (fn0 := Try.f67) (by kernel_rfl) (by kernel_rfl) pc67) fun args R K r h => by
  unfold sp67 at h; split at h
  · rw [haystackref04_low_unf] at h; exact Eq.trans (by kernel_rfl) h
  · cases h

noncomputable def sp60 : Ev.Spec := fun args _ K => match args with
  | ([AV.int .u64 n555]) => haystackref04_gamma n555 (fun x0 => K (AV.fsl (Blk.bools x0)))
  | _ => none
noncomputable def S60 := addS 60 sp60 S67
theorem D31 : Dom V S60 T55 31 := Dom.s (m := 30) (n := 0) D30 D30 (O := (fun _ => none)) (fun _ _ _ _ => OrcOk.none _ _) fun args R K r h => by
  unfold sp60 at h; split at h
  · rw [haystackref04_gamma_unf] at h; exact Eq.trans (by kernel_rfl) h
  · cases h

noncomputable def o64r0_3000_in {R : Type} (K : Ex → St → Option R) (vs : List AV) (hh : H) : Option R := match vs, hh with
  | [AV.int .i64 n588, AV.ptr 0 0, AV.bool b589], [HB.live (Blk.any [AV.int .i64 n590, AV.esl])] => haystackref02_New_j3 n588 b589 n590 (fun x0 x1 => K (Ex.ret) (St.mk (spread 16 0 [2, 3] [AV.ptr 0 0, AV.int .i64 x0]) [HB.live (Blk.any [AV.int .i64 x1, AV.esl])])) (fun x0 x1 => K (Ex.normal) (St.mk (spread 16 0 [0, 2] [AV.int .i64 x0, AV.ptr 0 0]) [HB.live (Blk.any [AV.int .i64 x1, AV.esl])]))
  | _, _ => none

noncomputable def o64r0_4000_in {R : Type} (K : Ex → St → Option R) (vs : List AV) (hh : H) : Option R := match vs, hh with
  | [AV.int .i64 n595, AV.ptr 0 0], [HB.live (Blk.any [AV.int .i64 n596, AV.esl])] => haystackref02_New_j4 n595 n596 (fun x0 x1 x2 x3 => K (Ex.ret) (St.mk (spread 16 0 [2, 3] [AV.ptr 0 0, AV.int .i64 x0]) [HB.live (Blk.any [AV.int .i64 x1, AV.sl 1 0 x2 1]), HB.live (Blk.ints .u64 x3)]))
  | _, _ => none

noncomputable def o64r0 : Nat → Option PSpec := lkN [(3000, fun st _ K => pickM 16 [0, 2, 9] st (o64r0_3000_in K)), (4000, fun st _ K => pickM 16 [0, 2] st (o64r0_4000_in K))]
noncomputable def q64r0 : CallF := evFun (V 64) S60 T55 10

noncomputable def c64r0_4000 : Code := subC [1, 1] (bodyOf Try.f64)

noncomputable def c64r0_3000 : Code := subC [1, 0, 1] (bodyOf Try.f64)

theorem p64r0_4000 : PieceOk (V 64) q64r0 o64r0 64 0 (3998, 0, c64r0_4000) := .s (size := 16) (ss := [0, 2]) (F := @o64r0_4000_in) (by kernel_rfl) fun R r K vs hh h => by
  unfold o64r0_4000_in at h; split at h
  · rw [haystackref02_New_j4_unf] at h; exact Eq.trans (by kernel_rfl) h
  · cases h

theorem p64r0_3000 : PieceOk (V 64) q64r0 o64r0 64 0 (3997, 0, c64r0_3000) := .s (size := 16) (ss := [0, 2, 9]) (F := @o64r0_3000_in) (by kernel_rfl) fun R r K vs hh h => by
  unfold o64r0_3000_in at h; split at h
  · rw [haystackref02_New_j3_unf] at h; exact Eq.trans (by kernel_rfl) h
  · cases h

theorem pc64r0 : ∀ x ∈ [(3998, 0, c64r0_4000), (3997, 0, c64r0_3000)], PieceOk (V 64) q64r0 o64r0 64 0 x := List.forall_mem_cons.2 ⟨p64r0_4000, List.forall_mem_cons.2 ⟨p64r0_3000, fun _ h => nomatch h⟩⟩

noncomputable def hs64 : HSpec := fun args h _ K => match args, h with
  | [AV.int .i64 n587], [] => haystackref02_New_r n587 (fun x0 x1 => K (AV.tup [AV.agg (Blk.any [AV.int .i64 x0, AV.esl]), AV.int .i64 x1]) ([])) (fun x0 x1 x2 x3 => K (AV.tup [AV.agg (Blk.any [AV.int .i64 x0, AV.sl 0 0 x1 1]), AV.int .i64 x2]) ([HB.live (Blk.ints .u64 x3)]))
  | _, _ => none
noncomputable def T64 := addT 64 hs64 T55
theorem D32 : Dom V S60 T64 32 := Dom.t D31 fun args hh R K r h => by
  unfold hs64 at h; split at h
  · rw [haystackref02_New_r_unf] at h; exact ⟨o64r0, (OrcOk.fn (fn0 := Try.f64) (by kernel_rfl) (by kernel_rfl) pc64r0), Eq.trans (by kernel_rfl) h⟩
  · cases h

noncomputable def sp47 : Ev.Spec := fun args _ K => match args with
  | ([AV.fsl (Blk.ints .u64 xs618), AV.int .i64 n619, AV.bool b620]) => haystackref02_put xs618 n619 b620
  | _ => none
noncomputable def S47 := addS 47 sp47 S60
theorem D33 : Dom V S47 T64 33 := Dom.s (m := 32) (n := 0) D32 D32 (O := (fun _ => none)) (fun _ _ _ _ => OrcOk.none _ _) fun args R K r h => by
  unfold sp47 at h; split at h
  · rw [haystackref02_put_unf] at h; exact Eq.trans (by kernel_rfl) h
  · cases h

noncomputable def hs47 : HSpec := fun args h _ K => match args, h with
  | [AV.sl 0 0 l635 1, AV.int .i64 n636, AV.bool b637], [HB.live (Blk.ints .u64 xs638)] => haystackref02_put_r l635 n636 b637 xs638 (fun x0 => K (AV.tup []) ([HB.live (Blk.ints .u64 x0)]))
  | _, _ => none
noncomputable def T47 := addT 47 hs47 T64
theorem D34 : Dom V S47 T47 34 := Dom.t D33 fun args hh R K r h => by
  unfold hs47 at h; split at h
  · rw [haystackref02_put_r_unf] at h; exact ⟨(fun _ => none), (fun _ _ _ _ => OrcOk.none _ _), Eq.trans (by kernel_rfl) h⟩
  · cases h

noncomputable def o50_4400_in {R : Type} (K : Ex → St → Option R) (vs : List AV) (hh : H) : Option R := match vs, hh with
  | [AV.fsl (Blk.bools bs613), AV.ptr 0 0, AV.ptr 1 0, AV.int .i64 n614, AV.int .i64 n615], [HB.live (Blk.any [AV.int .i64 n616, AV.esl]), HB.live (Blk.any [AV.int .i64 n617, AV.esl])] => haystackref02_From_l4 bs613 n614 n615 n616 n617 (fun x0 x1 x2 => K (Ex.exit 0) (St.mk (spread 29 0 [2, 4, 5] [AV.ptr 0 0, AV.ptr 1 0, AV.int .i64 x0]) [HB.live (Blk.any [AV.int .i64 x1, AV.esl]), HB.live (Blk.any [AV.int .i64 x2, AV.esl])]))
  | [AV.fsl (Blk.bools bs628), AV.ptr 0 0, AV.ptr 1 0, AV.int .i64 n629, AV.int .i64 n630], [HB.live (Blk.any [AV.int .i64 n631, AV.esl]), HB.live (Blk.any [AV.int .i64 n632, AV.sl 2 0 l633 1]), HB.live (Blk.ints .u64 xs634)] => haystackref02_From_l4_1 bs628 n629 n630 n631 n632 l633 xs634 (fun x0 x1 x2 x3 x4 => K (Ex.exit 0) (St.mk (spread 29 0 [2, 4, 5] [AV.ptr 0 0, AV.ptr 1 0, AV.int .i64 x0]) [HB.live (Blk.any [AV.int .i64 x1, AV.esl]), HB.live (Blk.any [AV.int .i64 x2, AV.sl 2 0 x3 1]), HB.live (Blk.ints .u64 x4)]))
  | _, _ => none

noncomputable def o50 : Nat → Option PSpec := lkN [(4400, fun st _ K => pickM 29 [0, 2, 4, 5, 6] st (o50_4400_in K))]
noncomputable def q50 : CallF := evFun (V 50) S47 T47 10

noncomputable def c50_4400 : Code := subC [1, 1, 0, 1, 0, 0] (bodyOf Try.f50)

noncomputable def lp50_4400 {R : Type} (N : Nat) (st : St) (K : Ex → St → Option R) : Option R := evLoop (norm ((V 50).keep 50 (Ev.keyOf c50_4400 * 1000 + 400)) 0) (evCode (V 50) q50 o50 50 0 3994 c50_4400) N st (kOut (V 50) 50 0 (Ev.keyOf c50_4400 * 1000 + 401) K)

theorem haystackref02_From_l4_L_eq {R : Type} (K : Ex → St → Option R) : ∀ N : Nat, (fun (bs613 : List Bool) (n614 : Int) (n615 : Int) (n616 : Int) (n617 : Int) => lp50_4400 N (St.mk (spread 29 0 [0, 2, 4, 5, 6] [AV.fsl (Blk.bools bs613), AV.ptr 0 0, AV.ptr 1 0, AV.int .i64 n614, AV.int .i64 n615]) [HB.live (Blk.any [AV.int .i64 n616, AV.esl]), HB.live (Blk.any [AV.int .i64 n617, AV.esl])]) K) = haystackref02_From_l4_L (fun x0 x1 x2 => K (Ex.exit 0) (St.mk (spread 29 0 [2, 4, 5] [AV.ptr 0 0, AV.ptr 1 0, AV.int .i64 x0]) [HB.live (Blk.any [AV.int .i64 x1, AV.esl]), HB.live (Blk.any [AV.int .i64 x2, AV.esl])])) N
  | 0 => by funext bs613 n614 n615 n616 n617; rfl
  | N + 1 => by
    funext bs613 n614 n615 n616 n617
    simp only [haystackref02_From_l4_L]
    rw [← haystackref02_From_l4_L_eq K N]
    kernel_rfl

theorem haystackref02_From_l4_1_L_eq {R : Type} (K : Ex → St → Option R) : ∀ N : Nat, (fun (bs628 : List Bool) (n629 : Int) (n630 : Int) (n631 : Int) (n632 : Int) (l633 : Nat) (xs634 : List Int) => lp50_4400 N (St.mk (spread 29 0 [0, 2, 4, 5, 6] [AV.fsl (Blk.bools bs628), AV.ptr 0 0, AV.ptr 1 0, AV.int .i64 n629, AV.int .i64 n630]) [HB.live (Blk.any [AV.int .i64 n631, AV.esl]), HB.live (Blk.any [AV.int .i64 n632, AV.sl 2 0 l633 1]), HB.live (Blk.ints .u64 xs634)]) K) = haystackref02_From_l4_1_L (fun x0 x1 x2 x3 x4 => K (Ex.exit 0) (St.mk (spread 29 0 [2, 4, 5] [AV.ptr 0 0, AV.ptr 1 0, AV.int .i64 x0]) [HB.live (Blk.any [AV.int .i64 x1, AV.esl]), HB.live (Blk.any [AV.int .i64 x2, AV.sl 2 0 x3 1]), HB.live (Blk.ints .u64 x4)])) N
  | 0 => by funext bs628 n629 n630 n631 n632 l633 xs634; rfl
  | N + 1 => by
    funext bs628 n629 n630 n631 n632 l633 xs634
    simp only [haystackref02_From_l4_1_L]
    rw [← haystackref02_From_l4_1_L_eq K N]
    kernel_rfl

theorem p50_4400 : PieceOk (V 50) q50 o50 50 0 (3994, 1, c50_4400) := .l (size := 29) (ss := [0, 2, 4, 5, 6]) (F := @o50_4400_in) (by kernel_rfl) (by kernel_rfl) fun R r K vs hh h => by
  unfold o50_4400_in at h; split at h
  · rw [haystackref02_From_l4_unf] at h; unfold haystackref02_From_l4_B at h; rw [← haystackref02_From_l4_L_eq K NR] at h; exact h
  · rw [haystackref02_From_l4_1_unf] at h; unfold haystackref02_From_l4_1_B at h; rw [← haystackref02_From_l4_1_L_eq K NR] at h; exact h
  · cases h

theorem pc50 : ∀ x ∈ [(3994, 1, c50_4400)], PieceOk (V 50) q50 o50 50 0 x := List.forall_mem_cons.2 ⟨p50_4400, fun _ h => nomatch h⟩

noncomputable def sp50 : Ev.Spec := fun args _ K => match args with
  | ([AV.fsl (Blk.bools bs586)]) => haystackref02_From bs586 (fun x0 x1 x2 => K (AV.tup [AV.agg (Blk.any [AV.int .i64 x0, AV.fsl (Blk.ints .u64 x1)]), AV.int .i64 x2]))
  | _ => none
noncomputable def S50 := addS 50 sp50 S47
theorem D35 : Dom V S50 T47 35 := Dom.s (m := 34) (n := 0) D34 D34 (O := o50) (OrcOk.fn (fn0 := Try.f50) (by kernel_rfl) (by kernel_rfl) pc50) fun args R K r h => by
  unfold sp50 at h; split at h
  · rw [haystackref02_From_unf] at h; exact Eq.trans (by kernel_rfl) h
  · cases h

noncomputable def o51r0_4400_in {R : Type} (K : Ex → St → Option R) (vs : List AV) (hh : H) : Option R := match vs, hh with
  | [AV.ptr 0 0, AV.esl, AV.int .i64 n676], [HB.live (Blk.any [AV.int .i64 n677, AV.fsl (Blk.ints .u64 xs678)])] => haystackref02_Bools_l4 n676 n677 xs678 (fun x0 x1 => K (Ex.exit 0) (St.mk (spread 18 0 [3] [AV.sl 0 0 x0 1]) [HB.live (Blk.bools x1)])) (fun _ => K (Ex.exit 0) (St.mk (spread 18 0 [3] [AV.esl]) []))
  | [AV.ptr 0 0, AV.sl 1 0 l681 1, AV.int .i64 n682], [HB.live (Blk.any [AV.int .i64 n683, AV.fsl (Blk.ints .u64 xs684)]), HB.live (Blk.bools bs685)] => haystackref02_Bools_l4_1 l681 n682 n683 xs684 bs685 (fun x0 x1 => K (Ex.exit 0) (St.mk (spread 18 0 [3] [AV.sl 0 0 x0 1]) [HB.live (Blk.bools x1)]))
  | _, _ => none

noncomputable def o51r0 : Nat → Option PSpec := lkN [(4400, fun st _ K => pickM 18 [1, 3, 4] st (o51r0_4400_in K))]
noncomputable def q51r0 : CallF := evFun (V 51) S50 T47 10

noncomputable def c51r0_4400 : Code := subC [1, 1, 0, 1, 0, 0] (bodyOf Try.f51)

noncomputable def lp51r0_4400 {R : Type} (N : Nat) (st : St) (K : Ex → St → Option R) : Option R := evLoop (norm ((V 51).keep 51 (Ev.keyOf c51r0_4400 * 1000 + 400)) 0) (evCode (V 51) q51r0 o51r0 51 0 3994 c51r0_4400) N st (kOut (V 51) 51 0 (Ev.keyOf c51r0_4400 * 1000 + 401) K)

theorem haystackref02_Bools_l4_1_L_eq {R : Type} (K : Ex → St → Option R) : ∀ N : Nat, (fun (l681 : Nat) (n682 : Int) (n683 : Int) (xs684 : List Int) (bs685 : List Bool) => lp51r0_4400 N (St.mk (spread 18 0 [1, 3, 4] [AV.ptr 0 0, AV.sl 1 0 l681 1, AV.int .i64 n682]) [HB.live (Blk.any [AV.int .i64 n683, AV.fsl (Blk.ints .u64 xs684)]), HB.live (Blk.bools bs685)]) K) = haystackref02_Bools_l4_1_L (fun x0 x1 => K (Ex.exit 0) (St.mk (spread 18 0 [3] [AV.sl 0 0 x0 1]) [HB.live (Blk.bools x1)])) N
  | 0 => by funext l681 n682 n683 xs684 bs685; rfl
  | N + 1 => by
    funext l681 n682 n683 xs684 bs685
    simp only [haystackref02_Bools_l4_1_L]
    rw [← haystackref02_Bools_l4_1_L_eq K N]
    kernel_rfl

theorem haystackref02_Bools_l4_L_eq {R : Type} (K : Ex → St → Option R) : ∀ N : Nat, (fun (n676 : Int) (n677 : Int) (xs678 : List Int) => lp51r0_4400 N (St.mk (spread 18 0 [1, 3, 4] [AV.ptr 0 0, AV.esl, AV.int .i64 n676]) [HB.live (Blk.any [AV.int .i64 n677, AV.fsl (Blk.ints .u64 xs678)])]) K) = haystackref02_Bools_l4_L (fun x0 x1 => K (Ex.exit 0) (St.mk (spread 18 0 [3] [AV.sl 0 0 x0 1]) [HB.live (Blk.bools x1)])) (fun _ => K (Ex.exit 0) (St.mk (spread 18 0 [3] [AV.esl]) [])) N
  | 0 => by funext n676 n677 xs678; rfl
  | N + 1 => by
    funext n676 n677 xs678
    simp only [haystackref02_Bools_l4_L]
    rw [← haystackref02_Bools_l4_L_eq K N, ← haystackref02_Bools_l4_1_L_eq K N]
    kernel_rfl

theorem p51r0_4400 : PieceOk (V 51) q51r0 o51r0 51 0 (3994, 1, c51r0_4400) := .l (size := 18) (ss := [1, 3, 4]) (F := @o51r0_4400_in) (by kernel_rfl) (by kernel_rfl) fun R r K vs hh h => by
  unfold o51r0_4400_in at h; split at h
  · rw [haystackref02_Bools_l4_unf] at h; unfold haystackref02_Bools_l4_B at h; rw [← haystackref02_Bools_l4_L_eq K NR] at h; exact h
  · rw [haystackref02_Bools_l4_1_unf] at h; unfold haystackref02_Bools_l4_1_B at h; rw [← haystackref02_Bools_l4_1_L_eq K NR] at h; exact h
  · cases h

theorem pc51r0 : ∀ x ∈ [(3994, 1, c51r0_4400)], PieceOk (V 51) q51r0 o51r0 51 0 x := List.forall_mem_cons.2 ⟨p51r0_4400, fun _ h => nomatch h⟩

noncomputable def hs51 : HSpec := fun args h _ K => match args, h with
  | [AV.agg (Blk.any [AV.int .i64 n674, AV.fsl (Blk.ints .u64 xs675)])], [] => haystackref02_Bools_r n674 xs675 (fun x0 x1 => K (AV.sl 0 0 x0 1) ([HB.live (Blk.bools x1)])) (fun _ => K (AV.esl) ([]))
  | _, _ => none
noncomputable def T51 := addT 51 hs51 T47
theorem D36 : Dom V S50 T51 36 := Dom.t D35 fun args hh R K r h => by
  unfold hs51 at h; split at h
  · rw [haystackref02_Bools_r_unf] at h; exact ⟨o51r0, (OrcOk.fn (fn0 := Try.f51) (by kernel_rfl) (by kernel_rfl) pc51r0), Eq.trans (by kernel_rfl) h⟩
  · cases h

noncomputable def o50r1_4400_in {R : Type} (K : Ex → St → Option R) (vs : List AV) (hh : H) : Option R := match vs, hh with
  | [AV.sl 0 0 l702 1, AV.ptr 1 0, AV.ptr 2 0, AV.int .i64 n703, AV.int .i64 n704], [HB.live (Blk.bools bs705), HB.live (Blk.any [AV.int .i64 n706, AV.esl]), HB.live (Blk.any [AV.int .i64 n707, AV.esl])] => haystackref02_From_l4_2 l702 n703 n704 bs705 n706 n707 (fun x0 x1 x2 x3 => K (Ex.exit 0) (St.mk (spread 29 0 [2, 4, 5] [AV.ptr 1 0, AV.ptr 2 0, AV.int .i64 x0]) [HB.live (Blk.bools x1), HB.live (Blk.any [AV.int .i64 x2, AV.esl]), HB.live (Blk.any [AV.int .i64 x3, AV.esl])]))
  | [AV.sl 0 0 l716 1, AV.ptr 1 0, AV.ptr 2 0, AV.int .i64 n717, AV.int .i64 n718], [HB.live (Blk.bools bs719), HB.live (Blk.any [AV.int .i64 n720, AV.esl]), HB.live (Blk.any [AV.int .i64 n721, AV.sl 3 0 l722 1]), HB.live (Blk.ints .u64 xs723)] => haystackref02_From_l4_3 l716 n717 n718 bs719 n720 n721 l722 xs723 (fun x0 x1 x2 x3 x4 x5 => K (Ex.exit 0) (St.mk (spread 29 0 [2, 4, 5] [AV.ptr 1 0, AV.ptr 2 0, AV.int .i64 x0]) [HB.live (Blk.bools x1), HB.live (Blk.any [AV.int .i64 x2, AV.esl]), HB.live (Blk.any [AV.int .i64 x3, AV.sl 3 0 x4 1]), HB.live (Blk.ints .u64 x5)]))
  | [AV.sl 0 0 l778 1, AV.ptr 1 0, AV.ptr 2 0, AV.int .i64 n779, AV.int .i64 n780], [HB.live (Blk.any []), HB.live (Blk.any [AV.int .i64 n781, AV.esl]), HB.live (Blk.any [AV.int .i64 n782, AV.esl])] => haystackref02_From_l4_4 l778 n779 n780 n781 n782 (fun x0 x1 x2 => K (Ex.exit 0) (St.mk (spread 29 0 [2, 4, 5] [AV.ptr 1 0, AV.ptr 2 0, AV.int .i64 x0]) [HB.live (Blk.any []), HB.live (Blk.any [AV.int .i64 x1, AV.esl]), HB.live (Blk.any [AV.int .i64 x2, AV.esl])]))
  | [AV.sl 0 0 l790 1, AV.ptr 1 0, AV.ptr 2 0, AV.int .i64 n791, AV.int .i64 n792], [HB.live (Blk.any []), HB.live (Blk.any [AV.int .i64 n793, AV.esl]), HB.live (Blk.any [AV.int .i64 n794, AV.sl 3 0 l795 1]), HB.live (Blk.ints .u64 xs796)] => haystackref02_From_l4_5 l790 n791 n792 n793 n794 l795 xs796 (fun x0 x1 x2 x3 x4 => K (Ex.exit 0) (St.mk (spread 29 0 [2, 4, 5] [AV.ptr 1 0, AV.ptr 2 0, AV.int .i64 x0]) [HB.live (Blk.any []), HB.live (Blk.any [AV.int .i64 x1, AV.esl]), HB.live (Blk.any [AV.int .i64 x2, AV.sl 3 0 x3 1]), HB.live (Blk.ints .u64 x4)]))
  | _, _ => none

noncomputable def o50r1 : Nat → Option PSpec := lkN [(4400, fun st _ K => pickM 29 [0, 2, 4, 5, 6] st (o50r1_4400_in K))]
noncomputable def q50r1 : CallF := evFun (V 50) S50 T51 10

noncomputable def c50r1_4400 : Code := subC [1, 1, 0, 1, 0, 0] (bodyOf Try.f50)

noncomputable def lp50r1_4400 {R : Type} (N : Nat) (st : St) (K : Ex → St → Option R) : Option R := evLoop (norm ((V 50).keep 50 (Ev.keyOf c50r1_4400 * 1000 + 400)) 1) (evCode (V 50) q50r1 o50r1 50 1 3994 c50r1_4400) N st (kOut (V 50) 50 1 (Ev.keyOf c50r1_4400 * 1000 + 401) K)

theorem haystackref02_From_l4_2_L_eq {R : Type} (K : Ex → St → Option R) : ∀ N : Nat, (fun (l702 : Nat) (n703 : Int) (n704 : Int) (bs705 : List Bool) (n706 : Int) (n707 : Int) => lp50r1_4400 N (St.mk (spread 29 0 [0, 2, 4, 5, 6] [AV.sl 0 0 l702 1, AV.ptr 1 0, AV.ptr 2 0, AV.int .i64 n703, AV.int .i64 n704]) [HB.live (Blk.bools bs705), HB.live (Blk.any [AV.int .i64 n706, AV.esl]), HB.live (Blk.any [AV.int .i64 n707, AV.esl])]) K) = haystackref02_From_l4_2_L (fun x0 x1 x2 x3 => K (Ex.exit 0) (St.mk (spread 29 0 [2, 4, 5] [AV.ptr 1 0, AV.ptr 2 0, AV.int .i64 x0]) [HB.live (Blk.bools x1), HB.live (Blk.any [AV.int .i64 x2, AV.esl]), HB.live (Blk.any [AV.int .i64 x3, AV.esl])])) N
  | 0 => by funext l702 n703 n704 bs705 n706 n707; rfl
  | N + 1 => by
    funext l702 n703 n704 bs705 n706 n707
    simp only [haystackref02_From_l4_2_L]
    rw [← haystackref02_From_l4_2_L_eq K N]
    kernel_rfl

theorem haystackref02_From_l4_3_L_eq {R : Type} (K : Ex → St → Option R) : ∀ N : Nat, (fun (l716 : Nat) (n717 : Int) (n718 : Int) (bs719 : List Bool) (n720 : Int) (n721 : Int) (l722 : Nat) (xs723 : List Int) => lp50r1_4400 N (St.mk (spread 29 0 [0, 2, 4, 5, 6] [AV.sl 0 0 l716 1, AV.ptr 1 0, AV.ptr 2 0, AV.int .i64 n717, AV.int .i64 n718]) [HB.live (Blk.bools bs719), HB.live (Blk.any [AV.int .i64 n720, AV.esl]), HB.live (Blk.any [AV.int .i64 n721, AV.sl 3 0 l722 1]), HB.live (Blk.ints .u64 xs723)]) K) = haystackref02_From_l4_3_L (fun x0 x1 x2 x3 x4 x5 => K (Ex.exit 0) (St.mk (spread 29 0 [2, 4, 5] [AV.ptr 1 0, AV.ptr 2 0, AV.int .i64 x0]) [HB.live (Blk.bools x1), HB.live (Blk.any [AV.int .i64 x2, AV.esl]), HB.live (Blk.any [AV.int .i64 x3, AV.sl 3 0 x4 1]), HB.live (Blk.ints .u64 x5)])) N
  | 0 => by funext l716 n717 n718 bs719 n720 n721 l722 xs723; rfl
  | N + 1 => by
    funext l716 n717 n718 bs719 n720 n721 l722 xs723
    simp only [haystackref02_From_l4_3_L]
    rw [← haystackref02_From_l4_3_L_eq K N]
    kernel_rfl

theorem haystackref02_From_l4_4_L_eq {R : Type} (K : Ex → St → Option R) : ∀ N : Nat, (fun (l778 : Nat) (n779 : Int) (n780 : Int) (n781 : Int) (n782 : Int) => lp50r1_4400 N (St.mk (spread 29 0 [0, 2, 4, 5, 6] [AV.sl 0 0 l778 1, AV.ptr 1 0, AV.ptr 2 0, AV.int .i64 n779, AV.int .i64 n780]) [HB.live (Blk.any []), HB.live (Blk.any [AV.int .i64 n781, AV.esl]), HB.live (Blk.any [AV.int .i64 n782, AV.esl])]) K) = haystackref02_From_l4_4_L (fun x0 x1 x2 => K (Ex.exit 0) (St.mk (spread 29 0 [2, 4, 5] [AV.ptr 1 0, AV.ptr 2 0, AV.int .i64 x0]) [HB.live (Blk.any []), HB.live (Blk.any [AV.int .i64 x1, AV.esl]), HB.live (Blk.any [AV.int .i64 x2, AV.esl])])) N
  | 0 => by funext l778 n779 n780 n781 n782; rfl
  | N + 1 => by
    funext l778 n779 n780 n781 n782
    simp only [haystackref02_From_l4_4_L]
    rw [← haystackref02_From_l4_4_L_eq K N]
    kernel_rfl

theorem haystackref02_From_l4_5_L_eq {R : Type} (K : Ex → St → Option R) : ∀ N : Nat, (fun (l790 : Nat) (n791 : Int) (n792 : Int) (n793 : Int) (n794 : Int) (l795 : Nat) (xs796 : List Int) => lp50r1_4400 N (St.mk (spread 29 0 [0, 2, 4, 5, 6] [AV.sl 0 0 l790 1, AV.ptr 1 0, AV.ptr 2 0, AV.int .i64 n791, AV.int .i64 n792]) [HB.live (Blk.any []), HB.live (Blk.any [AV.int .i64 n793, AV.esl]), HB.live (Blk.any [AV.int .i64 n794, AV.sl 3 0 l795 1]), HB.live (Blk.ints .u64 xs796)]) K) = haystackref02_From_l4_5_L (fun x0 x1 x2 x3 x4 => K (Ex.exit 0) (St.mk (spread 29 0 [2, 4, 5] [AV.ptr 1 0, AV.ptr 2 0, AV.int .i64 x0]) [HB.live (Blk.any []), HB.live (Blk.any [AV.int .i64 x1, AV.esl]), HB.live (Blk.any [AV.int .i64 x2, AV.sl 3 0 x3 1]), HB.live (Blk.ints .u64 x4)])) N
  | 0 => by funext l790 n791 n792 n793 n794 l795 xs796; rfl
  | N + 1 => by
    funext l790 n791 n792 n793 n794 l795 xs796
    simp only [haystackref02_From_l4_5_L]
    rw [← haystackref02_From_l4_5_L_eq K N]
    kernel_rfl

theorem p50r1_4400 : PieceOk (V 50) q50r1 o50r1 50 1 (3994, 1, c50r1_4400) := .l (size := 29) (ss := [0, 2, 4, 5, 6]) (F := @o50r1_4400_in) (by kernel_rfl) (by kernel_rfl) fun R r K vs hh h => by
  unfold o50r1_4400_in at h; split at h
  · rw [haystackref02_From_l4_2_unf] at h; unfold haystackref02_From_l4_2_B at h; rw [← haystackref02_From_l4_2_L_eq K NR] at h; exact h
  · rw [haystackref02_From_l4_3_unf] at h; unfold haystackref02_From_l4_3_B at h; rw [← haystackref02_From_l4_3_L_eq K NR] at h; exact h
  · rw [haystackref02_From_l4_4_unf] at h; unfold haystackref02_From_l4_4_B at h; rw [← haystackref02_From_l4_4_L_eq K NR] at h; exact h
  · rw [haystackref02_From_l4_5_unf] at h; unfold haystackref02_From_l4_5_B at h; rw [← haystackref02_From_l4_5_L_eq K NR] at h; exact h
  · cases h

theorem pc50r1 : ∀ x ∈ [(3994, 1, c50r1_4400)], PieceOk (V 50) q50r1 o50r1 50 1 x := List.forall_mem_cons.2 ⟨p50r1_4400, fun _ h => nomatch h⟩

noncomputable def hs50 : HSpec := fun args h _ K => match args, h with
  | [AV.sl 0 0 l698 1], [HB.live (Blk.bools bs699)] => haystackref02_From_r l698 bs699 (fun x0 x1 x2 => K (AV.tup [AV.agg (Blk.any [AV.int .i64 x0, AV.esl]), AV.int .i64 x1]) ([HB.live (Blk.bools x2)])) (fun x0 x1 x2 x3 x4 => K (AV.tup [AV.agg (Blk.any [AV.int .i64 x0, AV.sl 1 0 x1 1]), AV.int .i64 x2]) ([HB.live (Blk.bools x3), HB.live (Blk.ints .u64 x4)]))
  | [AV.sl 0 0 l775 1], [HB.live (Blk.any [])] => haystackref02_From_r_1 l775 (fun x0 x1 => K (AV.tup [AV.agg (Blk.any [AV.int .i64 x0, AV.esl]), AV.int .i64 x1]) ([HB.live (Blk.any [])])) (fun x0 x1 x2 x3 => K (AV.tup [AV.agg (Blk.any [AV.int .i64 x0, AV.sl 1 0 x1 1]), AV.int .i64 x2]) ([HB.live (Blk.any []), HB.live (Blk.ints .u64 x3)]))
  | _, _ => none
noncomputable def T50 := addT 50 hs50 T51
theorem D37 : Dom V S50 T50 37 := Dom.t D36 fun args hh R K r h => by
  unfold hs50 at h; split at h
  · rw [haystackref02_From_r_unf] at h; exact ⟨o50r1, (OrcOk.fn (fn0 := Try.f50) (by kernel_rfl) (by kernel_rfl) pc50r1), Eq.trans (by kernel_rfl) h⟩
  · rw [haystackref02_From_r_1_unf] at h; exact ⟨o50r1, (OrcOk.fn (fn0 := Try.f50) (by kernel_rfl) (by kernel_rfl) pc50r1), Eq.trans (by kernel_rfl) h⟩
  · cases h

noncomputable def o24_3000_in {R : Type} (K : Ex → St → Option R) (vs : List AV) (hh : H) : Option R := match vs, hh with
  | [AV.ptr 0 0, AV.ptr 1 0, AV.ptr 2 0, AV.bool b655], [HB.live (Blk.any [AV.int .i64 n656, AV.fsl (Blk.ints .u64 xs657)]), HB.live (Blk.any [AV.int .i64 n658, AV.fsl (Blk.ints .u64 xs659)]), HB.live (Blk.any [AV.int .i64 n660, AV.esl])] => haystackref02_Join_j3 b655 n656 xs657 n658 xs659 n660 (fun x0 x1 x2 => K (Ex.ret) (St.mk (spread 31 0 [4, 5] [AV.ptr 0 0, AV.int .i64 x0]) [HB.live (Blk.any [AV.int .i64 x1, AV.fsl (Blk.ints .u64 x2)])])) (fun x0 x1 x2 x3 x4 => K (Ex.normal) (St.mk (spread 31 0 [2, 3, 4] [AV.ptr 0 0, AV.ptr 1 0, AV.ptr 2 0]) [HB.live (Blk.any [AV.int .i64 x0, AV.fsl (Blk.ints .u64 x1)]), HB.live (Blk.any [AV.int .i64 x2, AV.fsl (Blk.ints .u64 x3)]), HB.live (Blk.any [AV.int .i64 x4, AV.esl])]))
  | _, _ => none

noncomputable def o24_4000_in {R : Type} (K : Ex → St → Option R) (vs : List AV) (hh : H) : Option R := match vs, hh with
  | [AV.ptr 0 0, AV.ptr 1 0, AV.ptr 2 0], [HB.live (Blk.any [AV.int .i64 n669, AV.fsl (Blk.ints .u64 xs670)]), HB.live (Blk.any [AV.int .i64 n671, AV.fsl (Blk.ints .u64 xs672)]), HB.live (Blk.any [AV.int .i64 n673, AV.esl])] => haystackref02_Join_j4 n669 xs670 n671 xs672 n673 (fun x0 x1 => K (Ex.ret) (St.mk (spread 31 0 [4, 5] [AV.ptr 0 0, AV.int .i64 x0]) [HB.live (Blk.any [AV.int .i64 x1, AV.esl])])) (fun x0 x1 x2 x3 => K (Ex.ret) (St.mk (spread 31 0 [4, 5] [AV.ptr 0 0, AV.int .i64 x0]) [HB.live (Blk.any [AV.int .i64 x1, AV.sl 1 0 x2 1]), HB.live (Blk.ints .u64 x3)]))
  | _, _ => none

noncomputable def o24 : Nat → Option PSpec := lkN [(3000, fun st _ K => pickM 31 [2, 3, 4, 21] st (o24_3000_in K)), (4000, fun st _ K => pickM 31 [2, 3, 4] st (o24_4000_in K))]
noncomputable def q24 : CallF := evFun (V 24) S50 T50 10

noncomputable def c24_4000 : Code := subC [1, 1] (bodyOf Try.f24)

noncomputable def c24_3000 : Code := subC [1, 0, 1] (bodyOf Try.f24)

theorem p24_4000 : PieceOk (V 24) q24 o24 24 0 (3998, 0, c24_4000) := .s (size := 31) (ss := [2, 3, 4]) (F := @o24_4000_in) (by kernel_rfl) fun R r K vs hh h => by
  unfold o24_4000_in at h; split at h
  · rw [haystackref02_Join_j4_unf] at h; exact Eq.trans (by kernel_rfl) h
  · cases h

theorem p24_3000 : PieceOk (V 24) q24 o24 24 0 (3997, 0, c24_3000) := .s (size := 31) (ss := [2, 3, 4, 21]) (F := @o24_3000_in) (by kernel_rfl) fun R r K vs hh h => by
  unfold o24_3000_in at h; split at h
  · rw [haystackref02_Join_j3_unf] at h; exact Eq.trans (by kernel_rfl) h
  · cases h

theorem pc24 : ∀ x ∈ [(3998, 0, c24_4000), (3997, 0, c24_3000)], PieceOk (V 24) q24 o24 24 0 x := List.forall_mem_cons.2 ⟨p24_4000, List.forall_mem_cons.2 ⟨p24_3000, fun _ h => nomatch h⟩⟩

noncomputable def sp24 : Ev.Spec := fun args _ K => match args with
  | ([AV.agg (Blk.any [AV.int .i64 n650, AV.fsl (Blk.ints .u64 xs651)]), AV.agg (Blk.any [AV.int .i64 n652, AV.fsl (Blk.ints .u64 xs653)])]) => haystackref02_Join n650 xs651 n652 xs653 (fun x0 x1 x2 => K (AV.tup [AV.agg (Blk.any [AV.int .i64 x0, AV.fsl (Blk.ints .u64 x1)]), AV.int .i64 x2]))
  | _ => none
noncomputable def S24 := addS 24 sp24 S50
theorem D38 : Dom V S24 T50 38 := Dom.s (m := 37) (n := 0) D37 D37 (O := o24) (OrcOk.fn (fn0 := Try.f24) (by kernel_rfl) (by kernel_rfl) pc24) fun args R K r h => by
  unfold sp24 at h; split at h
  · rw [haystackref02_Join_unf] at h; exact Eq.trans (by kernel_rfl) h
  · cases h

noncomputable def sp59 : Ev.Spec := fun args _ K => match args with
  | ([AV.agg (Blk.any [AV.int .i64 n583, AV.fsl (Blk.ints .u64 xs584)]), AV.fsl (Blk.bools bs585)]) => haystackref04_put n583 xs584 bs585 (fun x0 x1 x2 => K (AV.tup [AV.agg (Blk.any [AV.int .i64 x0, AV.fsl (Blk.ints .u64 x1)]), AV.int .i64 x2]))
  | _ => none
noncomputable def S59 := addS 59 sp59 S24
theorem D39 : Dom V S59 T50 39 := Dom.s (m := 38) (n := 0) D38 D38 (O := (fun _ => none)) (fun _ _ _ _ => OrcOk.none _ _) fun args R K r h => by
  unfold sp59 at h; split at h
  · rw [haystackref04_put_unf] at h; exact Eq.trans (by kernel_rfl) h
  · cases h

noncomputable def sp34 : Ev.Spec := fun args _ K => match args with
  | ([AV.agg (Blk.any [AV.int .i64 n552, AV.fsl (Blk.ints .u64 xs553)]), AV.int .u64 n554]) => haystackref04_PutGamma n552 xs553 n554 (fun x0 x1 x2 => K (AV.tup [AV.agg (Blk.any [AV.int .i64 x0, AV.fsl (Blk.ints .u64 x1)]), AV.int .i64 x2]))
  | _ => none
noncomputable def S34 := addS 34 sp34 S59
theorem D40 : Dom V S34 T50 40 := Dom.s (m := 39) (n := 0) D39 D39 (O := (fun _ => none)) (fun _ _ _ _ => OrcOk.none _ _) fun args R K r h => by
  unfold sp34 at h; split at h
  · rw [haystackref04_PutGamma_unf] at h; exact Eq.trans (by kernel_rfl) h
  · cases h

noncomputable def hs60 : HSpec := fun args h _ K => match args, h with
  | [AV.int .u64 n860], [] => haystackref04_gamma_r n860 (fun x0 x1 => K (AV.sl 0 0 x0 1) ([HB.live (Blk.bools x1)]))
  | _, _ => none
noncomputable def T60 := addT 60 hs60 T50
theorem D41 : Dom V S34 T60 41 := Dom.t D40 fun args hh R K r h => by
  unfold hs60 at h; split at h
  · rw [haystackref04_gamma_r_unf] at h; exact ⟨(fun _ => none), (fun _ _ _ _ => OrcOk.none _ _), Eq.trans (by kernel_rfl) h⟩
  · cases h

noncomputable def sp61 : Ev.Spec := fun args _ K => match args with
  | ([AV.int .u64 n858]) => haystackref04_delta n858 (fun x0 => K (AV.fsl (Blk.bools x0)))
  | _ => none
noncomputable def S61 := addS 61 sp61 S34
theorem D42 : Dom V S61 T60 42 := Dom.s (m := 41) (n := 0) D41 D41 (O := (fun _ => none)) (fun _ _ _ _ => OrcOk.none _ _) fun args R K r h => by
  unfold sp61 at h; split at h
  · rw [haystackref04_delta_unf] at h; exact Eq.trans (by kernel_rfl) h
  · cases h

noncomputable def sp35 : Ev.Spec := fun args _ K => match args with
  | ([AV.agg (Blk.any [AV.int .i64 n855, AV.fsl (Blk.ints .u64 xs856)]), AV.int .u64 n857]) => haystackref04_PutDelta n855 xs856 n857 (fun x0 x1 x2 => K (AV.tup [AV.agg (Blk.any [AV.int .i64 x0, AV.fsl (Blk.ints .u64 x1)]), AV.int .i64 x2]))
  | _ => none
noncomputable def S35 := addS 35 sp35 S61
theorem D43 : Dom V S35 T60 43 := Dom.s (m := 42) (n := 0) D42 D42 (O := (fun _ => none)) (fun _ _ _ _ => OrcOk.none _ _) fun args R K r h => by
  unfold sp35 at h; split at h
  · rw [haystackref04_PutDelta_unf] at h; exact Eq.trans (by kernel_rfl) h
  · cases h

noncomputable def o62_6400_in {R : Type} (K : Ex → St → Option R) (vs : List AV) (hh : H) : Option R := match vs, hh with
  | [AV.int .i64 n929, AV.int .i64 n930, AV.ptr 0 0, AV.int .u64 n931, AV.int .i64 n932], [HB.live (Blk.any [AV.int .i64 n933, AV.fsl (Blk.ints .u64 xs934)])] => haystackref04_bits_l6 n929 n930 n931 n932 n933 xs934 (fun x0 x1 x2 => K (Ex.exit 0) (St.mk (spread 39 0 [1, 2, 9] [AV.int .i64 x0, AV.int .i64 x1, AV.int .u64 x2]) []))
  | _, _ => none

noncomputable def o62 : Nat → Option PSpec := lkN [(6400, fun st _ K => pickM 39 [1, 2, 3, 9, 10] st (o62_6400_in K))]
noncomputable def q62 : CallF := evFun (V 62) S35 T60 10

noncomputable def c62_6400 : Code := subC [1, 1, 1, 0, 1, 0, 0] (bodyOf Try.f62)

noncomputable def lp62_6400 {R : Type} (N : Nat) (st : St) (K : Ex → St → Option R) : Option R := evLoop (norm ((V 62).keep 62 (Ev.keyOf c62_6400 * 1000 + 400)) 0) (evCode (V 62) q62 o62 62 0 3993 c62_6400) N st (kOut (V 62) 62 0 (Ev.keyOf c62_6400 * 1000 + 401) K)

theorem haystackref04_bits_l6_L_eq {R : Type} (K : Ex → St → Option R) : ∀ N : Nat, (fun (n929 : Int) (n930 : Int) (n931 : Int) (n932 : Int) (n933 : Int) (xs934 : List Int) => lp62_6400 N (St.mk (spread 39 0 [1, 2, 3, 9, 10] [AV.int .i64 n929, AV.int .i64 n930, AV.ptr 0 0, AV.int .u64 n931, AV.int .i64 n932]) [HB.live (Blk.any [AV.int .i64 n933, AV.fsl (Blk.ints .u64 xs934)])]) K) = haystackref04_bits_l6_L (fun x0 x1 x2 => K (Ex.exit 0) (St.mk (spread 39 0 [1, 2, 9] [AV.int .i64 x0, AV.int .i64 x1, AV.int .u64 x2]) [])) N
  | 0 => by funext n929 n930 n931 n932 n933 xs934; rfl
  | N + 1 => by
    funext n929 n930 n931 n932 n933 xs934
    simp only [haystackref04_bits_l6_L]
    rw [← haystackref04_bits_l6_L_eq K N]
    kernel_rfl

theorem p62_6400 : PieceOk (V 62) q62 o62 62 0 (3993, 1, c62_6400) := .l (size := 39) (ss := [1, 2, 3, 9, 10]) (F := @o62_6400_in) (by kernel_rfl) (by kernel_rfl) fun R r K vs hh h => by
  unfold o62_6400_in at h; split at h
  · rw [haystackref04_bits_l6_unf] at h; unfold haystackref04_bits_l6_B at h; rw [← haystackref04_bits_l6_L_eq K NR] at h; exact h
  · cases h

theorem pc62 : ∀ x ∈ [(3993, 1, c62_6400)], PieceOk (V 62) q62 o62 62 0 x := List.forall_mem_cons.2 ⟨p62_6400, fun _ h => nomatch h⟩

noncomputable def sp62 : Ev.Spec := fun args _ K => match args with
  | ([AV.agg (Blk.any [AV.int .i64 n925, AV.fsl (Blk.ints .u64 xs926)]), AV.int .i64 n927, AV.int .i64 n928]) => haystackref04_bits n925 xs926 n927 n928 (fun x0 x1 x2 => K (AV.tup [AV.int .u64 x0, AV.int .i64 x1, AV.int .i64 x2]))
  | _ => none
noncomputable def S62 := addS 62 sp62 S35
theorem D44 : Dom V S62 T60 44 := Dom.s (m := 43) (n := 0) D43 D43 (O := o62) (OrcOk.fn (fn0 := Try.f62) (by kernel_rfl) (by kernel_rfl) pc62) fun args R K r h => by
  unfold sp62 at h; split at h
  · rw [haystackref04_bits_unf] at h; exact Eq.trans (by kernel_rfl) h
  · cases h

noncomputable def o36_5000_in {R : Type} (K : Ex → St → Option R) (vs : List AV) (hh : H) : Option R := match vs, hh with
  | [AV.int .i64 n903, AV.ptr 0 0, AV.bool b904], [HB.live (Blk.any [AV.int .i64 n905, AV.fsl (Blk.ints .u64 xs906)])] => haystackref04_Gamma_j5 n903 b904 n905 xs906 (fun x0 x1 x2 => K (Ex.ret) (St.mk (spread 57 0 [4, 5, 6] [AV.int .u64 x0, AV.int .i64 x1, AV.int .i64 x2]) [])) (fun x0 x1 x2 => K (Ex.normal) (St.mk (spread 57 0 [1, 2] [AV.int .i64 x0, AV.ptr 0 0]) [HB.live (Blk.any [AV.int .i64 x1, AV.fsl (Blk.ints .u64 x2)])]))
  | _, _ => none

noncomputable def o36_6000_in {R : Type} (K : Ex → St → Option R) (vs : List AV) (hh : H) : Option R := match vs, hh with
  | [AV.int .i64 n913, AV.ptr 0 0], [HB.live (Blk.any [AV.int .i64 n914, AV.fsl (Blk.ints .u64 xs915)])] => haystackref04_Gamma_j6 n913 n914 xs915 (fun x0 x1 x2 => K (Ex.ret) (St.mk (spread 57 0 [4, 5, 6] [AV.int .u64 x0, AV.int .i64 x1, AV.int .i64 x2]) []))
  | _, _ => none

noncomputable def o36_7400_in {R : Type} (K : Ex → St → Option R) (vs : List AV) (hh : H) : Option R := match vs, hh with
  | [AV.int .i64 n916, AV.ptr 0 0, AV.int .i64 n917], [HB.live (Blk.any [AV.int .i64 n918, AV.fsl (Blk.ints .u64 xs919)])] => haystackref04_Gamma_l7 n916 n917 n918 xs919 (fun x0 x1 x2 x3 => K (Ex.exit 0) (St.mk (spread 57 0 [1, 2, 7] [AV.int .i64 x0, AV.ptr 0 0, AV.int .i64 x1]) [HB.live (Blk.any [AV.int .i64 x2, AV.fsl (Blk.ints .u64 x3)])]))
  | _, _ => none

noncomputable def o36 : Nat → Option PSpec := lkN [(5000, fun st _ K => pickM 57 [1, 2, 18] st (o36_5000_in K)), (6000, fun st _ K => pickM 57 [1, 2] st (o36_6000_in K)), (7400, fun st _ K => pickM 57 [1, 2, 7] st (o36_7400_in K))]
noncomputable def q36 : CallF := evFun (V 36) S62 T60 10

noncomputable def c36_6000 : Code := subC [1, 1, 1] (bodyOf Try.f36)

noncomputable def c36_5000 : Code := subC [1, 1, 0, 1] (bodyOf Try.f36)

noncomputable def c36_7400 : Code := subC [1, 1, 1, 1, 0, 0, 0] (bodyOf Try.f36)

noncomputable def lp36_7400 {R : Type} (N : Nat) (st : St) (K : Ex → St → Option R) : Option R := evLoop (norm ((V 36).keep 36 (Ev.keyOf c36_7400 * 1000 + 400)) 0) (evCode (V 36) q36 o36 36 0 3993 c36_7400) N st (kOut (V 36) 36 0 (Ev.keyOf c36_7400 * 1000 + 401) K)

theorem haystackref04_Gamma_l7_L_eq {R : Type} (K : Ex → St → Option R) : ∀ N : Nat, (fun (n916 : Int) (n917 : Int) (n918 : Int) (xs919 : List Int) => lp36_7400 N (St.mk (spread 57 0 [1, 2, 7] [AV.int .i64 n916, AV.ptr 0 0, AV.int .i64 n917]) [HB.live (Blk.any [AV.int .i64 n918, AV.fsl (Blk.ints .u64 xs919)])]) K) = haystackref04_Gamma_l7_L (fun x0 x1 x2 x3 => K (Ex.exit 0) (St.mk (spread 57 0 [1, 2, 7] [AV.int .i64 x0, AV.ptr 0 0, AV.int .i64 x1]) [HB.live (Blk.any [AV.int .i64 x2, AV.fsl (Blk.ints .u64 x3)])])) N
  | 0 => by funext n916 n917 n918 xs919; rfl
  | N + 1 => by
    funext n916 n917 n918 xs919
    simp only [haystackref04_Gamma_l7_L]
    rw [← haystackref04_Gamma_l7_L_eq K N]
    kernel_rfl

theorem p36_6000 : PieceOk (V 36) q36 o36 36 0 (3997, 0, c36_6000) := .s (size := 57) (ss := [1, 2]) (F := @o36_6000_in) (by kernel_rfl) fun R r K vs hh h => by
  unfold o36_6000_in at h; split at h
  · rw [haystackref04_Gamma_j6_unf] at h; exact Eq.trans (by kernel_rfl) h
  · cases h

theorem p36_5000 : PieceOk (V 36) q36 o36 36 0 (3996, 0, c36_5000) := .s (size := 57) (ss := [1, 2, 18]) (F := @o36_5000_in) (by kernel_rfl) fun R r K vs hh h => by
  unfold o36_5000_in at h; split at h
  · rw [haystackref04_Gamma_j5_unf] at h; exact Eq.trans (by kernel_rfl) h
  · cases h

theorem p36_7400 : PieceOk (V 36) q36 o36 36 0 (3993, 1, c36_7400) := .l (size := 57) (ss := [1, 2, 7]) (F := @o36_7400_in) (by kernel_rfl) (by kernel_rfl) fun R r K vs hh h => by
  unfold o36_7400_in at h; split at h
  · rw [haystackref04_Gamma_l7_unf] at h; unfold haystackref04_Gamma_l7_B at h; rw [← haystackref04_Gamma_l7_L_eq K NR] at h; exact h
  · cases h

theorem pc36 : ∀ x ∈ [(3997, 0, c36_6000), (3996, 0, c36_5000), (3993, 1, c36_7400)], PieceOk (V 36) q36 o36 36 0 x := List.forall_mem_cons.2 ⟨p36_6000, List.forall_mem_cons.2 ⟨p36_5000, List.forall_mem_cons.2 ⟨p36_7400, fun _ h => nomatch h⟩⟩⟩

noncomputable def sp36 : Ev.Spec := fun args _ K => match args with
  | ([AV.agg (Blk.any [AV.int .i64 n899, AV.fsl (Blk.ints .u64 xs900)]), AV.int .i64 n901]) => haystackref04_Gamma n899 xs900 n901 (fun x0 x1 x2 => K (AV.tup [AV.int .u64 x0, AV.int .i64 x1, AV.int .i64 x2]))
  | _ => none
noncomputable def S36 := addS 36 sp36 S62
theorem D45 : Dom V S36 T60 45 := Dom.s (m := 44) (n := 0) D44 D44 (O := o36) (OrcOk.fn (fn0 := Try.f36) (by kernel_rfl) (by kernel_rfl) pc36) fun args R K r h => by
  unfold sp36 at h; split at h
  · rw [haystackref04_Gamma_unf] at h; exact Eq.trans (by kernel_rfl) h
  · cases h

noncomputable def sp37 : Ev.Spec := fun args _ K => match args with
  | ([AV.agg (Blk.any [AV.int .i64 n960, AV.fsl (Blk.ints .u64 xs961)]), AV.int .i64 n962]) => haystackref04_Delta n960 xs961 n962 (fun x0 x1 x2 => K (AV.tup [AV.int .u64 x0, AV.int .i64 x1, AV.int .i64 x2]))
  | _ => none
noncomputable def S37 := addS 37 sp37 S36
theorem D46 : Dom V S37 T60 46 := Dom.s (m := 45) (n := 0) D45 D45 (O := (fun _ => none)) (fun _ _ _ _ => OrcOk.none _ _) fun args R K r h => by
  unfold sp37 at h; split at h
  · rw [haystackref04_Delta_unf] at h; exact Eq.trans (by kernel_rfl) h
  · cases h

noncomputable def o25_4000_in {R : Type} (K : Ex → St → Option R) (vs : List AV) (hh : H) : Option R := match vs, hh with
  | [AV.ptr 0 0, AV.ptr 1 0], [HB.live (Blk.any [AV.int .i64 n976, AV.fsl (Blk.ints .u64 xs977)]), HB.live (Blk.any [AV.int .i64 n978, AV.fsl (Blk.ints .u64 xs979)])] => haystackref02_Same_j4 n976 xs977 n978 xs979 (fun x0 => K (Ex.ret) (St.mk (spread 38 0 [4] [AV.bool x0]) []))
  | _, _ => none

noncomputable def o25_5400_in {R : Type} (K : Ex → St → Option R) (vs : List AV) (hh : H) : Option R := match vs, hh with
  | [AV.ptr 0 0, AV.ptr 1 0, AV.int .i64 n980], [HB.live (Blk.any [AV.int .i64 n981, AV.fsl (Blk.ints .u64 xs982)]), HB.live (Blk.any [AV.int .i64 n983, AV.fsl (Blk.ints .u64 xs984)])] => haystackref02_Same_l5 n980 n981 xs982 n983 xs984 (fun x0 => K (Ex.ret) (St.mk (spread 38 0 [4] [AV.bool x0]) [])) (fun _ => K (Ex.exit 0) (St.mk (spread 38 0 [] []) []))
  | _, _ => none

noncomputable def o25 : Nat → Option PSpec := lkN [(4000, fun st _ K => pickM 38 [2, 3] st (o25_4000_in K)), (5400, fun st _ K => pickM 38 [2, 3, 5] st (o25_5400_in K))]
noncomputable def q25 : CallF := evFun (V 25) S37 T60 10

noncomputable def c25_4000 : Code := subC [1, 1] (bodyOf Try.f25)

noncomputable def c25_5400 : Code := subC [1, 1, 0, 1, 0, 0] (bodyOf Try.f25)

noncomputable def lp25_5400 {R : Type} (N : Nat) (st : St) (K : Ex → St → Option R) : Option R := evLoop (norm ((V 25).keep 25 (Ev.keyOf c25_5400 * 1000 + 400)) 0) (evCode (V 25) q25 o25 25 0 3994 c25_5400) N st (kOut (V 25) 25 0 (Ev.keyOf c25_5400 * 1000 + 401) K)

theorem haystackref02_Same_l5_L_eq {R : Type} (K : Ex → St → Option R) : ∀ N : Nat, (fun (n980 : Int) (n981 : Int) (xs982 : List Int) (n983 : Int) (xs984 : List Int) => lp25_5400 N (St.mk (spread 38 0 [2, 3, 5] [AV.ptr 0 0, AV.ptr 1 0, AV.int .i64 n980]) [HB.live (Blk.any [AV.int .i64 n981, AV.fsl (Blk.ints .u64 xs982)]), HB.live (Blk.any [AV.int .i64 n983, AV.fsl (Blk.ints .u64 xs984)])]) K) = haystackref02_Same_l5_L (fun x0 => K (Ex.ret) (St.mk (spread 38 0 [4] [AV.bool x0]) [])) (fun _ => K (Ex.exit 0) (St.mk (spread 38 0 [] []) [])) N
  | 0 => by funext n980 n981 xs982 n983 xs984; rfl
  | N + 1 => by
    funext n980 n981 xs982 n983 xs984
    simp only [haystackref02_Same_l5_L]
    rw [← haystackref02_Same_l5_L_eq K N]
    kernel_rfl

theorem p25_4000 : PieceOk (V 25) q25 o25 25 0 (3998, 0, c25_4000) := .s (size := 38) (ss := [2, 3]) (F := @o25_4000_in) (by kernel_rfl) fun R r K vs hh h => by
  unfold o25_4000_in at h; split at h
  · rw [haystackref02_Same_j4_unf] at h; exact Eq.trans (by kernel_rfl) h
  · cases h

theorem p25_5400 : PieceOk (V 25) q25 o25 25 0 (3994, 1, c25_5400) := .l (size := 38) (ss := [2, 3, 5]) (F := @o25_5400_in) (by kernel_rfl) (by kernel_rfl) fun R r K vs hh h => by
  unfold o25_5400_in at h; split at h
  · rw [haystackref02_Same_l5_unf] at h; unfold haystackref02_Same_l5_B at h; rw [← haystackref02_Same_l5_L_eq K NR] at h; exact h
  · cases h

theorem pc25 : ∀ x ∈ [(3998, 0, c25_4000), (3994, 1, c25_5400)], PieceOk (V 25) q25 o25 25 0 x := List.forall_mem_cons.2 ⟨p25_4000, List.forall_mem_cons.2 ⟨p25_5400, fun _ h => nomatch h⟩⟩

noncomputable def sp25 : Ev.Spec := fun args _ K => match args with
  | ([AV.agg (Blk.any [AV.int .i64 n972, AV.fsl (Blk.ints .u64 xs973)]), AV.agg (Blk.any [AV.int .i64 n974, AV.fsl (Blk.ints .u64 xs975)])]) => haystackref02_Same n972 xs973 n974 xs975 (fun x0 => K (AV.bool x0))
  | _ => none
noncomputable def S25 := addS 25 sp25 S37
theorem D47 : Dom V S25 T60 47 := Dom.s (m := 46) (n := 0) D46 D46 (O := o25) (OrcOk.fn (fn0 := Try.f25) (by kernel_rfl) (by kernel_rfl) pc25) fun args R K r h => by
  unfold sp25 at h; split at h
  · rw [haystackref02_Same_unf] at h; exact Eq.trans (by kernel_rfl) h
  · cases h

noncomputable def sp39 : Ev.Spec := fun args _ K => match args with
  | ([AV.int .u64 n991, AV.bool b992]) => haystackref04_Size n991 b992 (fun x0 => K (AV.int .i64 x0))
  | _ => none
noncomputable def S39 := addS 39 sp39 S25
theorem D48 : Dom V S39 T60 48 := Dom.s (m := 47) (n := 0) D47 D47 (O := (fun _ => none)) (fun _ _ _ _ => OrcOk.none _ _) fun args R K r h => by
  unfold sp39 at h; split at h
  · rw [haystackref04_Size_unf] at h; exact Eq.trans (by kernel_rfl) h
  · cases h

noncomputable def o10_4000_in {R : Type} (K : Ex → St → Option R) (vs : List AV) (hh : H) : Option R := match vs, hh with
  | [AV.int .i64 n545, AV.int .u64 n546, AV.ptr 0 0], [HB.live (Blk.any [AV.int .i64 n547, AV.fsl (Blk.ints .u64 xs548)])] => haystacklaw04_StreamTells_j4 n545 n546 n547 xs548 (fun x0 => K (Ex.ret) (St.mk (spread 148 0 [6] [AV.bool x0]) []))
  | _, _ => none

noncomputable def o10_9000_in {R : Type} (K : Ex → St → Option R) (vs : List AV) (hh : H) : Option R := match vs, hh with
  | [AV.int .i64 n880, AV.int .u64 n881, AV.ptr 0 0, AV.ptr 1 0, AV.int .i64 n882, AV.ptr 2 0, AV.int .i64 n883, AV.ptr 3 0, AV.int .i64 n884, AV.ptr 4 0, AV.int .i64 n885, AV.int .u64 n886, AV.int .i64 n887, AV.int .i64 n888], [HB.live (Blk.any [AV.int .i64 n889, AV.fsl (Blk.ints .u64 xs890)]), HB.live (Blk.any [AV.int .i64 n891, AV.fsl (Blk.ints .u64 xs892)]), HB.live (Blk.any [AV.int .i64 n893, AV.fsl (Blk.ints .u64 xs894)]), HB.live (Blk.any [AV.int .i64 n895, AV.fsl (Blk.ints .u64 xs896)]), HB.live (Blk.any [AV.int .i64 n897, AV.fsl (Blk.ints .u64 xs898)])] => haystacklaw04_StreamTells_j9 n880 n881 n882 n883 n884 n885 n886 n887 n888 n889 xs890 n891 xs892 n893 xs894 n895 xs896 n897 xs898 (fun x0 => K (Ex.ret) (St.mk (spread 148 0 [6] [AV.bool x0]) []))
  | _, _ => none

noncomputable def o10_14000_in {R : Type} (K : Ex → St → Option R) (vs : List AV) (hh : H) : Option R := match vs, hh with
  | [AV.int .u64 n989], [] => haystacklaw04_StreamTells_j14 n989 (fun x0 => K (Ex.ret) (St.mk (spread 148 0 [6] [AV.bool x0]) []))
  | _, _ => none

noncomputable def o10 : Nat → Option PSpec := lkN [(4000, fun st _ K => pickM 148 [1, 2, 3] st (o10_4000_in K)), (9000, fun st _ K => pickM 148 [1, 2, 3, 7, 8, 9, 10, 11, 12, 13, 14, 15, 16, 17] st (o10_9000_in K)), (14000, fun st _ K => pickM 148 [2] st (o10_14000_in K))]
noncomputable def q10 : CallF := evFun (V 10) S39 T60 10

noncomputable def c10_4000 : Code := subC [1, 1] (bodyOf Try.f10)

noncomputable def c10_9000 : Code := subC [1, 1, 1, 1, 1, 1, 1] (bodyOf Try.f10)

noncomputable def c10_14000 : Code := subC [1, 1, 1, 1, 1, 1, 1, 1, 1, 1, 1] (bodyOf Try.f10)

theorem p10_4000 : PieceOk (V 10) q10 o10 10 0 (3998, 0, c10_4000) := .s (size := 148) (ss := [1, 2, 3]) (F := @o10_4000_in) (by kernel_rfl) fun R r K vs hh h => by
  unfold o10_4000_in at h; split at h
  · rw [haystacklaw04_StreamTells_j4_unf] at h; exact Eq.trans (by kernel_rfl) h
  · cases h

theorem p10_9000 : PieceOk (V 10) q10 o10 10 0 (3993, 0, c10_9000) := .s (size := 148) (ss := [1, 2, 3, 7, 8, 9, 10, 11, 12, 13, 14, 15, 16, 17]) (F := @o10_9000_in) (by kernel_rfl) fun R r K vs hh h => by
  unfold o10_9000_in at h; split at h
  · rw [haystacklaw04_StreamTells_j9_unf] at h; exact Eq.trans (by kernel_rfl) h
  · cases h

theorem p10_14000 : PieceOk (V 10) q10 o10 10 0 (3989, 0, c10_14000) := .s (size := 148) (ss := [2]) (F := @o10_14000_in) (by kernel_rfl) fun R r K vs hh h => by
  unfold o10_14000_in at h; split at h
  · rw [haystacklaw04_StreamTells_j14_unf] at h; exact Eq.trans (by kernel_rfl) h
  · cases h

theorem pc10 : ∀ x ∈ [(3998, 0, c10_4000), (3993, 0, c10_9000), (3989, 0, c10_14000)], PieceOk (V 10) q10 o10 10 0 x := List.forall_mem_cons.2 ⟨p10_4000, List.forall_mem_cons.2 ⟨p10_9000, List.forall_mem_cons.2 ⟨p10_14000, fun _ h => nomatch h⟩⟩⟩

noncomputable def sp10 : Ev.Spec := fun args _ K => match args with
  | ([AV.agg (Blk.any [AV.int .i64 n539, AV.fsl (Blk.ints .u64 xs540)]), AV.int .i64 n541, AV.int .u64 n542]) => haystacklaw04_StreamTells n539 xs540 n541 n542 (fun x0 => K (AV.bool x0))
  | _ => none
noncomputable def S10 := addS 10 sp10 S39
theorem D49 : Dom V S10 T60 49 := Dom.s (m := 48) (n := 0) D48 D48 (O := o10) (OrcOk.fn (fn0 := Try.f10) (by kernel_rfl) (by kernel_rfl) pc10) fun args R K r h => by
  unfold sp10 at h; split at h
  · rw [haystacklaw04_StreamTells_unf] at h; exact Eq.trans (by kernel_rfl) h
  · cases h

noncomputable def o11_2000_in {R : Type} (K : Ex → St → Option R) (vs : List AV) (hh : H) : Option R := match vs, hh with
  | [AV.fsl (Blk.ints .u64 xs1004), AV.fsl (Blk.bools bs1005)], [] => haystacklaw04_StreamBack_j2 xs1004 bs1005 (fun x0 => K (Ex.ret) (St.mk (spread 130 0 [4] [AV.bool x0]) []))
  | _, _ => none

noncomputable def o11_7400_in {R : Type} (K : Ex → St → Option R) (vs : List AV) (hh : H) : Option R := match vs, hh with
  | [AV.fsl (Blk.ints .u64 xs1007), AV.fsl (Blk.bools bs1008), AV.ptr 0 0, AV.int .i64 n1009, AV.int .i64 n1010], [HB.live (Blk.any [AV.int .i64 n1011, AV.esl])] => haystacklaw04_StreamBack_l7 xs1007 bs1008 n1009 n1010 n1011 (fun x0 => K (Ex.ret) (St.mk (spread 130 0 [4] [AV.bool x0]) [])) (fun x0 x1 x2 x3 x4 => K (Ex.exit 0) (St.mk (spread 130 0 [0, 1, 5, 6] [AV.fsl (Blk.ints .u64 x0), AV.fsl (Blk.bools x1), AV.ptr 0 0, AV.int .i64 x2]) [HB.live (Blk.any [AV.int .i64 x3, AV.fsl (Blk.ints .u64 x4)])])) (fun x0 x1 x2 x3 => K (Ex.exit 0) (St.mk (spread 130 0 [0, 1, 5, 6] [AV.fsl (Blk.ints .u64 x0), AV.fsl (Blk.bools x1), AV.ptr 0 0, AV.int .i64 x2]) [HB.live (Blk.any [AV.int .i64 x3, AV.esl])]))
  | [AV.fsl (Blk.ints .u64 xs1055), AV.fsl (Blk.bools bs1056), AV.ptr 0 0, AV.int .i64 n1057, AV.int .i64 n1058], [HB.live (Blk.any [AV.int .i64 n1059, AV.fsl (Blk.ints .u64 xs1060)])] => haystacklaw04_StreamBack_l7_1 xs1055 bs1056 n1057 n1058 n1059 xs1060 (fun x0 => K (Ex.ret) (St.mk (spread 130 0 [4] [AV.bool x0]) [])) (fun x0 x1 x2 x3 x4 => K (Ex.exit 0) (St.mk (spread 130 0 [0, 1, 5, 6] [AV.fsl (Blk.ints .u64 x0), AV.fsl (Blk.bools x1), AV.ptr 0 0, AV.int .i64 x2]) [HB.live (Blk.any [AV.int .i64 x3, AV.fsl (Blk.ints .u64 x4)])]))
  | _, _ => none

noncomputable def o11_10000_in {R : Type} (K : Ex → St → Option R) (vs : List AV) (hh : H) : Option R := match vs, hh with
  | [AV.fsl (Blk.ints .u64 xs1012), AV.fsl (Blk.bools bs1013), AV.ptr 0 0, AV.int .i64 n1014, AV.int .i64 n1015, AV.bool b1016], [HB.live (Blk.any [AV.int .i64 n1017, AV.esl])] => haystacklaw04_StreamBack_j10 xs1012 bs1013 n1014 n1015 b1016 n1017 (fun x0 => K (Ex.ret) (St.mk (spread 130 0 [4] [AV.bool x0]) [])) (fun x0 x1 x2 x3 x4 x5 => K (Ex.normal) (St.mk (spread 130 0 [0, 1, 5, 6, 7] [AV.fsl (Blk.ints .u64 x0), AV.fsl (Blk.bools x1), AV.ptr 0 0, AV.int .i64 x2, AV.int .i64 x3]) [HB.live (Blk.any [AV.int .i64 x4, AV.fsl (Blk.ints .u64 x5)])]))
  | [AV.fsl (Blk.ints .u64 xs1061), AV.fsl (Blk.bools bs1062), AV.ptr 0 0, AV.int .i64 n1063, AV.int .i64 n1064, AV.bool b1065], [HB.live (Blk.any [AV.int .i64 n1066, AV.fsl (Blk.ints .u64 xs1067)])] => haystacklaw04_StreamBack_j10_1 xs1061 bs1062 n1063 n1064 b1065 n1066 xs1067 (fun x0 => K (Ex.ret) (St.mk (spread 130 0 [4] [AV.bool x0]) [])) (fun x0 x1 x2 x3 x4 x5 => K (Ex.normal) (St.mk (spread 130 0 [0, 1, 5, 6, 7] [AV.fsl (Blk.ints .u64 x0), AV.fsl (Blk.bools x1), AV.ptr 0 0, AV.int .i64 x2, AV.int .i64 x3]) [HB.live (Blk.any [AV.int .i64 x4, AV.fsl (Blk.ints .u64 x5)])]))
  | _, _ => none

noncomputable def o11_14000_in {R : Type} (K : Ex → St → Option R) (vs : List AV) (hh : H) : Option R := match vs, hh with
  | [AV.fsl (Blk.ints .u64 xs1021), AV.fsl (Blk.bools bs1022), AV.ptr 0 0, AV.int .i64 n1023, AV.int .i64 n1024, AV.bool b1025, AV.int .i64 n1026], [HB.live (Blk.any [AV.int .i64 n1027, AV.fsl (Blk.ints .u64 xs1028)])] => haystacklaw04_StreamBack_j14 xs1021 bs1022 n1023 n1024 b1025 n1026 n1027 xs1028 (fun x0 => K (Ex.ret) (St.mk (spread 130 0 [4] [AV.bool x0]) [])) (fun x0 x1 x2 x3 x4 x5 => K (Ex.normal) (St.mk (spread 130 0 [0, 1, 5, 6, 7] [AV.fsl (Blk.ints .u64 x0), AV.fsl (Blk.bools x1), AV.ptr 0 0, AV.int .i64 x2, AV.int .i64 x3]) [HB.live (Blk.any [AV.int .i64 x4, AV.fsl (Blk.ints .u64 x5)])]))
  | _, _ => none

noncomputable def o11_17000_in {R : Type} (K : Ex → St → Option R) (vs : List AV) (hh : H) : Option R := match vs, hh with
  | [AV.fsl (Blk.ints .u64 xs1115), AV.fsl (Blk.bools bs1116), AV.ptr 0 0, AV.int .i64 n1117], [HB.live (Blk.any [AV.int .i64 n1118, AV.fsl (Blk.ints .u64 xs1119)])] => haystacklaw04_StreamBack_j17 xs1115 bs1116 n1117 n1118 xs1119 (fun x0 => K (Ex.ret) (St.mk (spread 130 0 [4] [AV.bool x0]) []))
  | [AV.fsl (Blk.ints .u64 xs1198), AV.fsl (Blk.bools bs1199), AV.ptr 0 0, AV.int .i64 n1200], [HB.live (Blk.any [AV.int .i64 n1201, AV.esl])] => haystacklaw04_StreamBack_j17_1 xs1198 bs1199 n1200 n1201 (fun x0 => K (Ex.ret) (St.mk (spread 130 0 [4] [AV.bool x0]) []))
  | _, _ => none

noncomputable def o11_19400_in {R : Type} (K : Ex → St → Option R) (vs : List AV) (hh : H) : Option R := match vs, hh with
  | [AV.fsl (Blk.ints .u64 xs1120), AV.fsl (Blk.bools bs1121), AV.ptr 0 0, AV.int .i64 n1122, AV.int .i64 n1123, AV.int .i64 n1124], [HB.live (Blk.any [AV.int .i64 n1125, AV.fsl (Blk.ints .u64 xs1126)])] => haystacklaw04_StreamBack_l19 xs1120 bs1121 n1122 n1123 n1124 n1125 xs1126 (fun x0 => K (Ex.ret) (St.mk (spread 130 0 [4] [AV.bool x0]) [])) (fun x0 x1 x2 x3 => K (Ex.exit 2) (St.mk (spread 130 0 [5, 6, 10] [AV.ptr 0 0, AV.int .i64 x0, AV.int .i64 x1]) [HB.live (Blk.any [AV.int .i64 x2, AV.fsl (Blk.ints .u64 x3)])]))
  | [AV.fsl (Blk.ints .u64 xs1202), AV.fsl (Blk.bools bs1203), AV.ptr 0 0, AV.int .i64 n1204, AV.int .i64 n1205, AV.int .i64 n1206], [HB.live (Blk.any [AV.int .i64 n1207, AV.esl])] => haystacklaw04_StreamBack_l19_1 xs1202 bs1203 n1204 n1205 n1206 n1207 (fun x0 => K (Ex.ret) (St.mk (spread 130 0 [4] [AV.bool x0]) [])) (fun x0 x1 x2 => K (Ex.exit 2) (St.mk (spread 130 0 [5, 6, 10] [AV.ptr 0 0, AV.int .i64 x0, AV.int .i64 x1]) [HB.live (Blk.any [AV.int .i64 x2, AV.esl])]))
  | _, _ => none

noncomputable def o11_24000_in {R : Type} (K : Ex → St → Option R) (vs : List AV) (hh : H) : Option R := match vs, hh with
  | [AV.fsl (Blk.ints .u64 xs1130), AV.fsl (Blk.bools bs1131), AV.ptr 0 0, AV.int .i64 n1132, AV.int .i64 n1133, AV.int .i64 n1134, AV.int .u64 n1135, AV.int .i64 n1136, AV.int .i64 n1137, AV.bool b1138], [HB.live (Blk.any [AV.int .i64 n1139, AV.fsl (Blk.ints .u64 xs1140)])] => haystacklaw04_StreamBack_j24 xs1130 bs1131 n1132 n1133 n1134 n1135 n1136 n1137 b1138 n1139 xs1140 (fun x0 x1 x2 x3 x4 x5 x6 x7 x8 => K (Ex.normal) (St.mk (spread 130 0 [0, 1, 5, 6, 11, 12, 13, 14] [AV.fsl (Blk.ints .u64 x0), AV.fsl (Blk.bools x1), AV.ptr 0 0, AV.int .i64 x2, AV.int .i64 x3, AV.int .u64 x4, AV.int .i64 x5, AV.int .i64 x6]) [HB.live (Blk.any [AV.int .i64 x7, AV.fsl (Blk.ints .u64 x8)])]))
  | [AV.fsl (Blk.ints .u64 xs1211), AV.fsl (Blk.bools bs1212), AV.ptr 0 0, AV.int .i64 n1213, AV.int .i64 n1214, AV.int .i64 n1215, AV.int .u64 n1216, AV.int .i64 n1217, AV.int .i64 n1218, AV.bool b1219], [HB.live (Blk.any [AV.int .i64 n1220, AV.esl])] => haystacklaw04_StreamBack_j24_1 xs1211 bs1212 n1213 n1214 n1215 n1216 n1217 n1218 b1219 n1220 (fun x0 x1 x2 x3 x4 x5 x6 x7 => K (Ex.normal) (St.mk (spread 130 0 [0, 1, 5, 6, 11, 12, 13, 14] [AV.fsl (Blk.ints .u64 x0), AV.fsl (Blk.bools x1), AV.ptr 0 0, AV.int .i64 x2, AV.int .i64 x3, AV.int .u64 x4, AV.int .i64 x5, AV.int .i64 x6]) [HB.live (Blk.any [AV.int .i64 x7, AV.esl])]))
  | _, _ => none

noncomputable def o11_25000_in {R : Type} (K : Ex → St → Option R) (vs : List AV) (hh : H) : Option R := match vs, hh with
  | [AV.fsl (Blk.ints .u64 xs1153), AV.fsl (Blk.bools bs1154), AV.ptr 0 0, AV.int .i64 n1155, AV.int .i64 n1156, AV.int .u64 n1157, AV.int .i64 n1158, AV.int .i64 n1159], [HB.live (Blk.any [AV.int .i64 n1160, AV.fsl (Blk.ints .u64 xs1161)])] => haystacklaw04_StreamBack_j25 xs1153 bs1154 n1155 n1156 n1157 n1158 n1159 n1160 xs1161 (fun x0 => K (Ex.ret) (St.mk (spread 130 0 [4] [AV.bool x0]) [])) (fun x0 x1 x2 x3 x4 x5 x6 => K (Ex.normal) (St.mk (spread 130 0 [0, 1, 5, 6, 10, 11] [AV.fsl (Blk.ints .u64 x0), AV.fsl (Blk.bools x1), AV.ptr 0 0, AV.int .i64 x2, AV.int .i64 x3, AV.int .i64 x4]) [HB.live (Blk.any [AV.int .i64 x5, AV.fsl (Blk.ints .u64 x6)])]))
  | [AV.fsl (Blk.ints .u64 xs1232), AV.fsl (Blk.bools bs1233), AV.ptr 0 0, AV.int .i64 n1234, AV.int .i64 n1235, AV.int .u64 n1236, AV.int .i64 n1237, AV.int .i64 n1238], [HB.live (Blk.any [AV.int .i64 n1239, AV.esl])] => haystacklaw04_StreamBack_j25_1 xs1232 bs1233 n1234 n1235 n1236 n1237 n1238 n1239 (fun x0 => K (Ex.ret) (St.mk (spread 130 0 [4] [AV.bool x0]) [])) (fun x0 x1 x2 x3 x4 x5 => K (Ex.normal) (St.mk (spread 130 0 [0, 1, 5, 6, 10, 11] [AV.fsl (Blk.ints .u64 x0), AV.fsl (Blk.bools x1), AV.ptr 0 0, AV.int .i64 x2, AV.int .i64 x3, AV.int .i64 x4]) [HB.live (Blk.any [AV.int .i64 x5, AV.esl])]))
  | _, _ => none

noncomputable def o11 : Nat → Option PSpec := lkN [(2000, fun st _ K => pickM 130 [0, 1] st (o11_2000_in K)), (7400, fun st _ K => pickM 130 [0, 1, 5, 6, 7] st (o11_7400_in K)), (10000, fun st _ K => pickM 130 [0, 1, 5, 6, 7, 8] st (o11_10000_in K)), (14000, fun st _ K => pickM 130 [0, 1, 5, 6, 7, 8, 9] st (o11_14000_in K)), (17000, fun st _ K => pickM 130 [0, 1, 5, 6] st (o11_17000_in K)), (19400, fun st _ K => pickM 130 [0, 1, 5, 6, 10, 11] st (o11_19400_in K)), (24000, fun st _ K => pickM 130 [0, 1, 5, 6, 10, 11, 12, 13, 14, 98] st (o11_24000_in K)), (25000, fun st _ K => pickM 130 [0, 1, 5, 6, 11, 12, 13, 14] st (o11_25000_in K))]
noncomputable def q11 : CallF := evFun (V 11) S10 T60 10

noncomputable def c11_2000 : Code := subC [1] (bodyOf Try.f11)

noncomputable def c11_17000 : Code := subC [1, 1, 1, 1, 1] (bodyOf Try.f11)

noncomputable def c11_7400 : Code := subC [1, 1, 1, 1, 0, 1, 0, 0] (bodyOf Try.f11)

noncomputable def lp11_7400 {R : Type} (N : Nat) (st : St) (K : Ex → St → Option R) : Option R := evLoop (norm ((V 11).keep 11 (Ev.keyOf c11_7400 * 1000 + 400)) 0) (evCode (V 11) q11 o11 11 0 3992 c11_7400) N st (kOut (V 11) 11 0 (Ev.keyOf c11_7400 * 1000 + 401) K)

noncomputable def c11_10000 : Code := subC [1, 1, 1, 1, 0, 1, 0, 0, 1, 0, 0, 1] (bodyOf Try.f11)

noncomputable def c11_14000 : Code := subC [1, 1, 1, 1, 0, 1, 0, 0, 1, 0, 0, 1, 1, 1] (bodyOf Try.f11)

noncomputable def c11_19400 : Code := subC [1, 1, 1, 1, 1, 1, 0, 1, 0, 0] (bodyOf Try.f11)

noncomputable def lp11_19400 {R : Type} (N : Nat) (st : St) (K : Ex → St → Option R) : Option R := evLoop (norm ((V 11).keep 11 (Ev.keyOf c11_19400 * 1000 + 400)) 0) (evCode (V 11) q11 o11 11 0 3990 c11_19400) N st (kOut (V 11) 11 0 (Ev.keyOf c11_19400 * 1000 + 401) K)

noncomputable def c11_25000 : Code := subC [1, 1, 1, 1, 1, 1, 0, 1, 0, 0, 1, 0, 0, 1, 1, 1] (bodyOf Try.f11)

noncomputable def c11_24000 : Code := subC [1, 1, 1, 1, 1, 1, 0, 1, 0, 0, 1, 0, 0, 1, 1, 0, 1] (bodyOf Try.f11)

theorem haystacklaw04_StreamBack_l7_1_L_eq {R : Type} (K : Ex → St → Option R) : ∀ N : Nat, (fun (xs1055 : List Int) (bs1056 : List Bool) (n1057 : Int) (n1058 : Int) (n1059 : Int) (xs1060 : List Int) => lp11_7400 N (St.mk (spread 130 0 [0, 1, 5, 6, 7] [AV.fsl (Blk.ints .u64 xs1055), AV.fsl (Blk.bools bs1056), AV.ptr 0 0, AV.int .i64 n1057, AV.int .i64 n1058]) [HB.live (Blk.any [AV.int .i64 n1059, AV.fsl (Blk.ints .u64 xs1060)])]) K) = haystacklaw04_StreamBack_l7_1_L (fun x0 => K (Ex.ret) (St.mk (spread 130 0 [4] [AV.bool x0]) [])) (fun x0 x1 x2 x3 x4 => K (Ex.exit 0) (St.mk (spread 130 0 [0, 1, 5, 6] [AV.fsl (Blk.ints .u64 x0), AV.fsl (Blk.bools x1), AV.ptr 0 0, AV.int .i64 x2]) [HB.live (Blk.any [AV.int .i64 x3, AV.fsl (Blk.ints .u64 x4)])])) N
  | 0 => by funext xs1055 bs1056 n1057 n1058 n1059 xs1060; rfl
  | N + 1 => by
    funext xs1055 bs1056 n1057 n1058 n1059 xs1060
    simp only [haystacklaw04_StreamBack_l7_1_L]
    rw [← haystacklaw04_StreamBack_l7_1_L_eq K N]
    kernel_rfl

theorem haystacklaw04_StreamBack_l7_L_eq {R : Type} (K : Ex → St → Option R) : ∀ N : Nat, (fun (xs1007 : List Int) (bs1008 : List Bool) (n1009 : Int) (n1010 : Int) (n1011 : Int) => lp11_7400 N (St.mk (spread 130 0 [0, 1, 5, 6, 7] [AV.fsl (Blk.ints .u64 xs1007), AV.fsl (Blk.bools bs1008), AV.ptr 0 0, AV.int .i64 n1009, AV.int .i64 n1010]) [HB.live (Blk.any [AV.int .i64 n1011, AV.esl])]) K) = haystacklaw04_StreamBack_l7_L (fun x0 => K (Ex.ret) (St.mk (spread 130 0 [4] [AV.bool x0]) [])) (fun x0 x1 x2 x3 x4 => K (Ex.exit 0) (St.mk (spread 130 0 [0, 1, 5, 6] [AV.fsl (Blk.ints .u64 x0), AV.fsl (Blk.bools x1), AV.ptr 0 0, AV.int .i64 x2]) [HB.live (Blk.any [AV.int .i64 x3, AV.fsl (Blk.ints .u64 x4)])])) (fun x0 x1 x2 x3 => K (Ex.exit 0) (St.mk (spread 130 0 [0, 1, 5, 6] [AV.fsl (Blk.ints .u64 x0), AV.fsl (Blk.bools x1), AV.ptr 0 0, AV.int .i64 x2]) [HB.live (Blk.any [AV.int .i64 x3, AV.esl])])) N
  | 0 => by funext xs1007 bs1008 n1009 n1010 n1011; rfl
  | N + 1 => by
    funext xs1007 bs1008 n1009 n1010 n1011
    simp only [haystacklaw04_StreamBack_l7_L]
    rw [← haystacklaw04_StreamBack_l7_L_eq K N, ← haystacklaw04_StreamBack_l7_1_L_eq K N]
    kernel_rfl

theorem haystacklaw04_StreamBack_l19_L_eq {R : Type} (K : Ex → St → Option R) : ∀ N : Nat, (fun (xs1120 : List Int) (bs1121 : List Bool) (n1122 : Int) (n1123 : Int) (n1124 : Int) (n1125 : Int) (xs1126 : List Int) => lp11_19400 N (St.mk (spread 130 0 [0, 1, 5, 6, 10, 11] [AV.fsl (Blk.ints .u64 xs1120), AV.fsl (Blk.bools bs1121), AV.ptr 0 0, AV.int .i64 n1122, AV.int .i64 n1123, AV.int .i64 n1124]) [HB.live (Blk.any [AV.int .i64 n1125, AV.fsl (Blk.ints .u64 xs1126)])]) K) = haystacklaw04_StreamBack_l19_L (fun x0 => K (Ex.ret) (St.mk (spread 130 0 [4] [AV.bool x0]) [])) (fun x0 x1 x2 x3 => K (Ex.exit 2) (St.mk (spread 130 0 [5, 6, 10] [AV.ptr 0 0, AV.int .i64 x0, AV.int .i64 x1]) [HB.live (Blk.any [AV.int .i64 x2, AV.fsl (Blk.ints .u64 x3)])])) N
  | 0 => by funext xs1120 bs1121 n1122 n1123 n1124 n1125 xs1126; rfl
  | N + 1 => by
    funext xs1120 bs1121 n1122 n1123 n1124 n1125 xs1126
    simp only [haystacklaw04_StreamBack_l19_L]
    rw [← haystacklaw04_StreamBack_l19_L_eq K N]
    kernel_rfl

theorem haystacklaw04_StreamBack_l19_1_L_eq {R : Type} (K : Ex → St → Option R) : ∀ N : Nat, (fun (xs1202 : List Int) (bs1203 : List Bool) (n1204 : Int) (n1205 : Int) (n1206 : Int) (n1207 : Int) => lp11_19400 N (St.mk (spread 130 0 [0, 1, 5, 6, 10, 11] [AV.fsl (Blk.ints .u64 xs1202), AV.fsl (Blk.bools bs1203), AV.ptr 0 0, AV.int .i64 n1204, AV.int .i64 n1205, AV.int .i64 n1206]) [HB.live (Blk.any [AV.int .i64 n1207, AV.esl])]) K) = haystacklaw04_StreamBack_l19_1_L (fun x0 => K (Ex.ret) (St.mk (spread 130 0 [4] [AV.bool x0]) [])) (fun x0 x1 x2 => K (Ex.exit 2) (St.mk (spread 130 0 [5, 6, 10] [AV.ptr 0 0, AV.int .i64 x0, AV.int .i64 x1]) [HB.live (Blk.any [AV.int .i64 x2, AV.esl])])) N
  | 0 => by funext xs1202 bs1203 n1204 n1205 n1206 n1207; rfl
  | N + 1 => by
    funext xs1202 bs1203 n1204 n1205 n1206 n1207
    simp only [haystacklaw04_StreamBack_l19_1_L]
    rw [← haystacklaw04_StreamBack_l19_1_L_eq K N]
    kernel_rfl

theorem p11_2000 : PieceOk (V 11) q11 o11 11 0 (3999, 0, c11_2000) := .s (size := 130) (ss := [0, 1]) (F := @o11_2000_in) (by kernel_rfl) fun R r K vs hh h => by
  unfold o11_2000_in at h; split at h
  · rw [haystacklaw04_StreamBack_j2_unf] at h; exact Eq.trans (by kernel_rfl) h
  · cases h

theorem p11_17000 : PieceOk (V 11) q11 o11 11 0 (3995, 0, c11_17000) := .s (size := 130) (ss := [0, 1, 5, 6]) (F := @o11_17000_in) (by kernel_rfl) fun R r K vs hh h => by
  unfold o11_17000_in at h; split at h
  · rw [haystacklaw04_StreamBack_j17_unf] at h; exact Eq.trans (by kernel_rfl) h
  · rw [haystacklaw04_StreamBack_j17_1_unf] at h; exact Eq.trans (by kernel_rfl) h
  · cases h

theorem p11_7400 : PieceOk (V 11) q11 o11 11 0 (3992, 1, c11_7400) := .l (size := 130) (ss := [0, 1, 5, 6, 7]) (F := @o11_7400_in) (by kernel_rfl) (by kernel_rfl) fun R r K vs hh h => by
  unfold o11_7400_in at h; split at h
  · rw [haystacklaw04_StreamBack_l7_unf] at h; unfold haystacklaw04_StreamBack_l7_B at h; rw [← haystacklaw04_StreamBack_l7_L_eq K NR] at h; exact h
  · rw [haystacklaw04_StreamBack_l7_1_unf] at h; unfold haystacklaw04_StreamBack_l7_1_B at h; rw [← haystacklaw04_StreamBack_l7_1_L_eq K NR] at h; exact h
  · cases h

theorem p11_10000 : PieceOk (V 11) q11 o11 11 0 (3988, 0, c11_10000) := .s (size := 130) (ss := [0, 1, 5, 6, 7, 8]) (F := @o11_10000_in) (by kernel_rfl) fun R r K vs hh h => by
  unfold o11_10000_in at h; split at h
  · rw [haystacklaw04_StreamBack_j10_unf] at h; exact Eq.trans (by kernel_rfl) h
  · rw [haystacklaw04_StreamBack_j10_1_unf] at h; exact Eq.trans (by kernel_rfl) h
  · cases h

theorem p11_14000 : PieceOk (V 11) q11 o11 11 0 (3986, 0, c11_14000) := .s (size := 130) (ss := [0, 1, 5, 6, 7, 8, 9]) (F := @o11_14000_in) (by kernel_rfl) fun R r K vs hh h => by
  unfold o11_14000_in at h; split at h
  · rw [haystacklaw04_StreamBack_j14_unf] at h; exact Eq.trans (by kernel_rfl) h
  · cases h

theorem p11_19400 : PieceOk (V 11) q11 o11 11 0 (3990, 1, c11_19400) := .l (size := 130) (ss := [0, 1, 5, 6, 10, 11]) (F := @o11_19400_in) (by kernel_rfl) (by kernel_rfl) fun R r K vs hh h => by
  unfold o11_19400_in at h; split at h
  · rw [haystacklaw04_StreamBack_l19_unf] at h; unfold haystacklaw04_StreamBack_l19_B at h; rw [← haystacklaw04_StreamBack_l19_L_eq K NR] at h; exact h
  · rw [haystacklaw04_StreamBack_l19_1_unf] at h; unfold haystacklaw04_StreamBack_l19_1_B at h; rw [← haystacklaw04_StreamBack_l19_1_L_eq K NR] at h; exact h
  · cases h

theorem p11_25000 : PieceOk (V 11) q11 o11 11 0 (3984, 0, c11_25000) := .s (size := 130) (ss := [0, 1, 5, 6, 11, 12, 13, 14]) (F := @o11_25000_in) (by kernel_rfl) fun R r K vs hh h => by
  unfold o11_25000_in at h; split at h
  · rw [haystacklaw04_StreamBack_j25_unf] at h; exact Eq.trans (by kernel_rfl) h
  · rw [haystacklaw04_StreamBack_j25_1_unf] at h; exact Eq.trans (by kernel_rfl) h
  · cases h

theorem p11_24000 : PieceOk (V 11) q11 o11 11 0 (3983, 0, c11_24000) := .s (size := 130) (ss := [0, 1, 5, 6, 10, 11, 12, 13, 14, 98]) (F := @o11_24000_in) (by kernel_rfl) fun R r K vs hh h => by
  unfold o11_24000_in at h; split at h
  · rw [haystacklaw04_StreamBack_j24_unf] at h; exact Eq.trans (by kernel_rfl) h
  · rw [haystacklaw04_StreamBack_j24_1_unf] at h; exact Eq.trans (by kernel_rfl) h
  · cases h

theorem pc11 : ∀ x ∈ [(3999, 0, c11_2000), (3995, 0, c11_17000), (3992, 1, c11_7400), (3988, 0, c11_10000), (3986, 0, c11_14000), (3990, 1, c11_19400), (3984, 0, c11_25000), (3983, 0, c11_24000)], PieceOk (V 11) q11 o11 11 0 x := List.forall_mem_cons.2 ⟨p11_2000, List.forall_mem_cons.2 ⟨p11_17000, List.forall_mem_cons.2 ⟨p11_7400, List.forall_mem_cons.2 ⟨p11_10000, List.forall_mem_cons.2 ⟨p11_14000, List.forall_mem_cons.2 ⟨p11_19400, List.forall_mem_cons.2 ⟨p11_25000, List.forall_mem_cons.2 ⟨p11_24000, fun _ h => nomatch h⟩⟩⟩⟩⟩⟩⟩⟩

noncomputable def sp11 : Ev.Spec := fun args _ K => match args with
  | ([AV.fsl (Blk.ints .u64 xs1002), AV.fsl (Blk.bools bs1003)]) => haystacklaw04_StreamBack xs1002 bs1003 (fun x0 => K (AV.bool x0))
  | _ => none
noncomputable def S11 := addS 11 sp11 S10
theorem D50 : Dom V S11 T60 50 := Dom.s (m := 49) (n := 0) D49 D49 (O := o11) (OrcOk.fn (fn0 := Try.f11) (by kernel_rfl) (by kernel_rfl) pc11) fun args R K r h => by
  unfold sp11 at h; split at h
  · rw [haystacklaw04_StreamBack_unf] at h; exact Eq.trans (by kernel_rfl) h
  · cases h

noncomputable def o12_6000_in {R : Type} (K : Ex → St → Option R) (vs : List AV) (hh : H) : Option R := match vs, hh with
  | [AV.int .u64 n1275, AV.int .i64 n1276, AV.int .i64 n1277], [] => haystacklaw04_StreamOrder_j6 n1275 n1276 n1277 (fun x0 => K (Ex.ret) (St.mk (spread 48 0 [4] [AV.bool x0]) []))
  | _, _ => none

noncomputable def o12 : Nat → Option PSpec := lkN [(6000, fun st _ K => pickM 48 [0, 5, 7] st (o12_6000_in K))]
noncomputable def q12 : CallF := evFun (V 12) S11 T60 10

noncomputable def c12_6000 : Code := subC [1, 1, 1, 1] (bodyOf Try.f12)

theorem p12_6000 : PieceOk (V 12) q12 o12 12 0 (3996, 0, c12_6000) := .s (size := 48) (ss := [0, 5, 7]) (F := @o12_6000_in) (by kernel_rfl) fun R r K vs hh h => by
  unfold o12_6000_in at h; split at h
  · rw [haystacklaw04_StreamOrder_j6_unf] at h; exact Eq.trans (by kernel_rfl) h
  · cases h

theorem pc12 : ∀ x ∈ [(3996, 0, c12_6000)], PieceOk (V 12) q12 o12 12 0 x := List.forall_mem_cons.2 ⟨p12_6000, fun _ h => nomatch h⟩
end Go.Proofs.Ytkjadjdcbpiebaa
