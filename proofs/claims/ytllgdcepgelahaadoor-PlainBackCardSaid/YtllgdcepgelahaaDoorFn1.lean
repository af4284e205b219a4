/- The functions that this seat's laws reach, as plain functions, and that they are what the program does. Printed by a program of this repo (wip/Prt). -/
import Derived.Test.YtllgdcepgelahaaDoorEnv
import Derived.Test.YtllgdcepgelahaaDoorEv27
import Derived.KernelRfl
namespace Go.Proofs.YtllgdcepgelahaaDoor
open Go Go.Ev
set_option maxRecDepth 100000


noncomputable def bits_words_B {R : Type} (n9 : Int) (K0 : Int → Option R) : Option R :=
 K0 (quoW .i64 (subW .i64 (addW .i64 n9 64) 1) 64)
noncomputable def bits_words {R : Type} := shut (@bits_words_B R)
theorem bits_words_unf {R : Type} : @bits_words R = @bits_words_B R := shut_eq _

noncomputable def word_Mask_B {R : Type} (n14 : Int) (K0 : Int → Option R) : Option R :=
 sel (decide (n14 ≤ 0))
  (K0 (0))
  (sel (decide (0 ≤ max2 0 (subW .i64 64 n14)))
   (K0 (shrW .u64 18446744073709551615 (max2 0 (subW .i64 64 n14))))
   (none))
noncomputable def word_Mask {R : Type} := shut (@word_Mask_B R)
theorem word_Mask_unf {R : Type} : @word_Mask R = @word_Mask_B R := shut_eq _

noncomputable def bits_Check_j4_B {R : Type} (xs11 : List Int) (n12 : Int) (l13 : Nat) (K0 : Bool → List Int → Option R) : Option R :=
 sel (decide (remW n12 64 = 0))
  (K0 (true) (xs11))
  (sel (decide (0 ≤ subW .i64 (↑l13 : Int) 1))
   (sel (decide (subW .i64 (↑l13 : Int) 1 < (↑l13 : Int)))
    (sel (decide (Int.toNat (subW .i64 (↑l13 : Int) 1) < List.length xs11))
     (word_Mask (remW n12 64)
      (fun n15 => letV (decide (andNotW .u64 (List.getD xs11 (Int.toNat (subW .i64 (↑l13 : Int) 1)) 0) n15 = 0)) (fun (b16 : Bool) =>
      K0 (b16) (xs11))))
     (none))
    (none))
   (none))
noncomputable def bits_Check_j4 {R : Type} := shut (@bits_Check_j4_B R)
theorem bits_Check_j4_unf {R : Type} : @bits_Check_j4 R = @bits_Check_j4_B R := shut_eq _

noncomputable def bits_Check_r_B {R : Type} (n6 : Int) (l7 : Nat) (xs8 : List Int) (K0 : Bool → List Int → Option R) : Option R :=
 sel (decide (n6 < 0))
  (K0 (false) (xs8))
  (sel (decide (1048576 < n6))
   (K0 (false) (xs8))
   (bits_words (n6)
    (fun n10 => sel (!decide ((↑l7 : Int) = n10))
     (K0 (false) (xs8))
     (bits_Check_j4 (xs8) (n6) (l7)
      (fun b17 xs18 => K0 (b17) (xs18))))))
noncomputable def bits_Check_r {R : Type} := shut (@bits_Check_r_B R)
theorem bits_Check_r_unf {R : Type} : @bits_Check_r R = @bits_Check_r_B R := shut_eq _

noncomputable def plain_Build_j10_B {R : Type} (n30 : Int) (n31 : Int) (n32 : Int) (n33 : Int) (b34 : Bool) (xs35 : List Int) (n36 : Int) (l37 : Nat) (n38 : Int) (n39 : Int) (l40 : Nat) (K0 : Int → Int → Int → Int → List Int → Int → Nat → Int → Int → Nat → Nat → List Int → Option R) (K1 : Int → Int → Int → Int → List Int → Int → Nat → Int → Int → Nat → Option R) : Option R :=
 sel (b34)
  (letV ([n30]) (fun (xs41 : List Int) =>
  sel (decide (1 = List.length xs41))
   (K0 (n30) (n31) (n32) (n33) (xs35) (n36) (l37) (n38) (n39) (l40) (1) (xs41))
   (sel (decide (0 + 1 ≤ List.length xs41))
    (letV (List.take 1 (List.drop 0 xs41)) (fun (xs42 : List Int) =>
    K0 (n30) (n31) (n32) (n33) (xs35) (n36) (l37) (n38) (n39) (l40) (1) (xs42)))
    (none))))
  (K1 (n30) (n31) (n32) (n33) (xs35) (n36) (l37) (n38) (n39) (l40))
noncomputable def plain_Build_j10 {R : Type} := shut (@plain_Build_j10_B R)
theorem plain_Build_j10_unf {R : Type} : @plain_Build_j10 R = @plain_Build_j10_B R := shut_eq _

noncomputable def math_bits_OnesCount64_B {R : Type} (n69 : Int) (K0 : Int → Option R) : Option R :=
 letV (shrW .u64 (addW .u64 (andW .u64 (shrW .u64 (addW .u64 (andW .u64 (shrW .u64 n69 1) 6148914691236517205) (andW .u64 n69 6148914691236517205)) 2) 3689348814741910323) (andW .u64 (addW .u64 (andW .u64 (shrW .u64 n69 1) 6148914691236517205) (andW .u64 n69 6148914691236517205)) 3689348814741910323)) 4) (fun (n70 : Int) =>
 letV (addW .u64 n70 (addW .u64 (andW .u64 (shrW .u64 (addW .u64 (andW .u64 (shrW .u64 n69 1) 6148914691236517205) (andW .u64 n69 6148914691236517205)) 2) 3689348814741910323) (andW .u64 (addW .u64 (andW .u64 (shrW .u64 n69 1) 6148914691236517205) (andW .u64 n69 6148914691236517205)) 3689348814741910323))) (fun (n71 : Int) =>
 letV (addW .u64 (addW .u64 (addW .u64 (andW .u64 n71 1085102592571150095) (shrW .u64 (andW .u64 n71 1085102592571150095) 8)) (shrW .u64 (addW .u64 (andW .u64 n71 1085102592571150095) (shrW .u64 (andW .u64 n71 1085102592571150095) 8)) 16)) (shrW .u64 (addW .u64 (addW .u64 (andW .u64 n71 1085102592571150095) (shrW .u64 (andW .u64 n71 1085102592571150095) 8)) (shrW .u64 (addW .u64 (andW .u64 n71 1085102592571150095) (shrW .u64 (andW .u64 n71 1085102592571150095) 8)) 16)) 32)) (fun (n72 : Int) =>
 K0 (andW .i64 (cvtW .i64 n72) 127))))
noncomputable def math_bits_OnesCount64 {R : Type} := shut (@math_bits_OnesCount64_B R)
theorem math_bits_OnesCount64_unf {R : Type} : @math_bits_OnesCount64 R = @math_bits_OnesCount64_B R := shut_eq _

noncomputable def word_Pop_B {R : Type} (n68 : Int) (K0 : Int → Option R) : Option R :=
 math_bits_OnesCount64 (n68)
  (fun n73 => K0 (n73))
noncomputable def word_Pop {R : Type} := shut (@word_Pop_B R)
theorem word_Pop_unf {R : Type} : @word_Pop R = @word_Pop_B R := shut_eq _

noncomputable def plain_Build_j11_B {R : Type} (n55 : Int) (n56 : Int) (n57 : Int) (n58 : Int) (xs59 : List Int) (n60 : Int) (l61 : Nat) (n62 : Int) (n63 : Int) (l64 : Nat) (l65 : Nat) (xs66 : List Int) (K0 : Int → Int → Int → List Int → Int → Nat → Int → Int → Nat → Nat → Nat → List Int → List Int → Option R) (K1 : Int → Int → Int → List Int → Int → Nat → Int → Int → Nat → Nat → List Int → Option R) : Option R :=
 sel (decide (n56 < (↑l61 : Int)))
  (sel (decide (0 ≤ quoW .i64 n56 8))
   (sel (decide (quoW .i64 n56 8 < (↑l65 : Int)))
    (sel (decide (Int.toNat (quoW .i64 n56 8) < List.length xs66))
     (letV ([subW .i64 n55 (List.getD xs66 (Int.toNat (quoW .i64 n56 8)) 0)]) (fun (xs67 : List Int) =>
     sel (decide (1 = List.length xs67))
      (sel (decide (0 ≤ n56))
       (sel (decide (n56 < (↑l61 : Int)))
        (sel (decide (Int.toNat n56 < List.length xs59))
         (word_Pop (List.getD xs59 (Int.toNat n56) 0)
          (fun n74 => K0 (addW .i64 n55 n74) (n57) (n58) (xs59) (n60) (l61) (n62) (n63) (l64) (l65) (1) (xs66) (xs67)))
         (none))
        (none))
       (none))
      (sel (decide (0 + 1 ≤ List.length xs67))
       (letV (List.take 1 (List.drop 0 xs67)) (fun (xs75 : List Int) =>
       sel (decide (0 ≤ n56))
        (sel (decide (n56 < (↑l61 : Int)))
         (sel (decide (Int.toNat n56 < List.length xs59))
          (word_Pop (List.getD xs59 (Int.toNat n56) 0)
           (fun n76 => K0 (addW .i64 n55 n76) (n57) (n58) (xs59) (n60) (l61) (n62) (n63) (l64) (l65) (1) (xs66) (xs75)))
          (none))
         (none))
        (none)))
       (none))))
     (none))
    (none))
   (none))
  (K1 (n55) (n57) (n58) (xs59) (n60) (l61) (n62) (n63) (l64) (l65) (xs66))
noncomputable def plain_Build_j11 {R : Type} := shut (@plain_Build_j11_B R)
theorem plain_Build_j11_unf {R : Type} : @plain_Build_j11 R = @plain_Build_j11_B R := shut_eq _

noncomputable def plain_Build_j10_1_B {R : Type} (n103 : Int) (n104 : Int) (n105 : Int) (n106 : Int) (b107 : Bool) (xs108 : List Int) (n109 : Int) (l110 : Nat) (n111 : Int) (n112 : Int) (l113 : Nat) (l114 : Nat) (l115 : Nat) (xs116 : List Int) (xs117 : List Int) (K0 : Int → Int → Int → Int → List Int → Int → Nat → Int → Int → Nat → Nat → Nat → List Int → List Int → Option R) : Option R :=
 sel (b107)
  (letV ([n103]) (fun (xs118 : List Int) =>
  sel (decide (1 = List.length xs118))
   (sel (decide (List.length xs116 = l114))
    (sel (decide ((l114 + 1) * 8 ≤ 140737488355328))
     (letV (xs116 ++ xs118) (fun (xs119 : List Int) =>
     K0 (n103) (n104) (n105) (n106) (xs108) (n109) (l110) (n111) (n112) (l113) (l114 + 1) (l115) (xs119) (xs117)))
     (none))
    (none))
   (sel (decide (0 + 1 ≤ List.length xs118))
    (sel (decide (List.length xs116 = l114))
     (sel (decide ((l114 + 1) * 8 ≤ 140737488355328))
      (letV (xs116 ++ List.take 1 (List.drop 0 xs118)) (fun (xs120 : List Int) =>
      K0 (n103) (n104) (n105) (n106) (xs108) (n109) (l110) (n111) (n112) (l113) (l114 + 1) (l115) (xs120) (xs117)))
      (none))
     (none))
    (none))))
  (K0 (n103) (n104) (n105) (n106) (xs108) (n109) (l110) (n111) (n112) (l113) (l114) (l115) (xs116) (xs117))
noncomputable def plain_Build_j10_1 {R : Type} := shut (@plain_Build_j10_1_B R)
theorem plain_Build_j10_1_unf {R : Type} : @plain_Build_j10_1 R = @plain_Build_j10_1_B R := shut_eq _

noncomputable def plain_Build_j11_1_B {R : Type} (n135 : Int) (n136 : Int) (n137 : Int) (n138 : Int) (xs139 : List Int) (n140 : Int) (l141 : Nat) (n142 : Int) (n143 : Int) (l144 : Nat) (l145 : Nat) (l146 : Nat) (xs147 : List Int) (xs148 : List Int) (K0 : Int → Int → Int → List Int → Int → Nat → Int → Int → Nat → Nat → Nat → List Int → List Int → Option R) : Option R :=
 sel (decide (n136 < (↑l141 : Int)))
  (sel (decide (0 ≤ quoW .i64 n136 8))
   (sel (decide (quoW .i64 n136 8 < (↑l145 : Int)))
    (sel (decide (Int.toNat (quoW .i64 n136 8) < List.length xs147))
     (letV ([subW .i64 n135 (List.getD xs147 (Int.toNat (quoW .i64 n136 8)) 0)]) (fun (xs149 : List Int) =>
     sel (decide (1 = List.length xs149))
      (sel (decide (List.length xs148 = l146))
       (sel (decide ((l146 + 1) * 8 ≤ 140737488355328))
        (letV (xs148 ++ xs149) (fun (xs150 : List Int) =>
        sel (decide (0 ≤ n136))
         (sel (decide (n136 < (↑l141 : Int)))
          (sel (decide (Int.toNat n136 < List.length xs139))
           (word_Pop (List.getD xs139 (Int.toNat n136) 0)
            (fun n151 => K0 (addW .i64 n135 n151) (n137) (n138) (xs139) (n140) (l141) (n142) (n143) (l144) (l145) (l146 + 1) (xs147) (xs150)))
           (none))
          (none))
         (none)))
        (none))
       (none))
      (sel (decide (0 + 1 ≤ List.length xs149))
       (sel (decide (List.length xs148 = l146))
        (sel (decide ((l146 + 1) * 8 ≤ 140737488355328))
         (letV (xs148 ++ List.take 1 (List.drop 0 xs149)) (fun (xs152 : List Int) =>
         sel (decide (0 ≤ n136))
          (sel (decide (n136 < (↑l141 : Int)))
           (sel (decide (Int.toNat n136 < List.length xs139))
            (word_Pop (List.getD xs139 (Int.toNat n136) 0)
             (fun n153 => K0 (addW .i64 n135 n153) (n137) (n138) (xs139) (n140) (l141) (n142) (n143) (l144) (l145) (l146 + 1) (xs147) (xs152)))
            (none))
           (none))
          (none)))
         (none))
        (none))
       (none))))
     (none))
    (none))
   (none))
  (K0 (n135) (n137) (n138) (xs139) (n140) (l141) (n142) (n143) (l144) (l145) (l146) (xs147) (xs148))
noncomputable def plain_Build_j11_1 {R : Type} := shut (@plain_Build_j11_1_B R)
theorem plain_Build_j11_1_unf {R : Type} : @plain_Build_j11_1 R = @plain_Build_j11_1_B R := shut_eq _

noncomputable def plain_Build_l7_1_T {R : Type} (rec : Int → Int → Int → List Int → Int → Nat → Int → Int → Nat → Nat → Nat → List Int → List Int → Option R) (n90 : Int) (n91 : Int) (n92 : Int) (xs93 : List Int) (n94 : Int) (l95 : Nat) (n96 : Int) (n97 : Int) (l98 : Nat) (l99 : Nat) (l100 : Nat) (xs101 : List Int) (xs102 : List Int) (K0 : List Int → Int → Int → Nat → Nat → Nat → List Int → List Int → Option R) : Option R :=
 sel (decide (n92 < n91))
  (sel (decide (remW n92 8 = 0))
   (plain_Build_j10_1 (n90) (n92) (n91) (n92) (decide (mulW .i64 n92 64 ≤ n94)) (xs93) (n94) (l95) (n96) (n97) (l98) (l99) (l100) (xs101) (xs102)
    (fun n121 n122 n123 n124 xs125 n126 l127 n128 n129 l130 l131 l132 xs133 xs134 => plain_Build_j11_1 (n121) (n122) (n123) (n124) (xs125) (n126) (l127) (n128) (n129) (l130) (l131) (l132) (xs133) (xs134)
     (fun n154 n155 n156 xs157 n158 l159 n160 n161 l162 l163 l164 xs165 xs166 => rec (n154) (n155) (addW .i64 n156 1) (xs157) (n158) (l159) (n160) (n161) (l162) (l163) (l164) (xs165) (xs166))))
   (plain_Build_j10_1 (n90) (n92) (n91) (n92) (false) (xs93) (n94) (l95) (n96) (n97) (l98) (l99) (l100) (xs101) (xs102)
    (fun n167 n168 n169 n170 xs171 n172 l173 n174 n175 l176 l177 l178 xs179 xs180 => plain_Build_j11_1 (n167) (n168) (n169) (n170) (xs171) (n172) (l173) (n174) (n175) (l176) (l177) (l178) (xs179) (xs180)
     (fun n181 n182 n183 xs184 n185 l186 n187 n188 l189 l190 l191 xs192 xs193 => rec (n181) (n182) (addW .i64 n183 1) (xs184) (n185) (l186) (n187) (n188) (l189) (l190) (l191) (xs192) (xs193)))))
  (K0 (xs93) (n96) (n97) (l98) (l99) (l100) (xs101) (xs102))
noncomputable def plain_Build_l7_1_L {R : Type} (K0 : List Int → Int → Int → Nat → Nat → Nat → List Int → List Int → Option R) : Nat → Int → Int → Int → List Int → Int → Nat → Int → Int → Nat → Nat → Nat → List Int → List Int → Option R
  | 0, _, _, _, _, _, _, _, _, _, _, _, _, _ => none
  | N + 1, n90, n91, n92, xs93, n94, l95, n96, n97, l98, l99, l100, xs101, xs102 => plain_Build_l7_1_T (plain_Build_l7_1_L K0 N) n90 n91 n92 xs93 n94 l95 n96 n97 l98 l99 l100 xs101 xs102 K0
noncomputable def plain_Build_l7_1_B {R : Type} (n90 : Int) (n91 : Int) (n92 : Int) (xs93 : List Int) (n94 : Int) (l95 : Nat) (n96 : Int) (n97 : Int) (l98 : Nat) (l99 : Nat) (l100 : Nat) (xs101 : List Int) (xs102 : List Int) (K0 : List Int → Int → Int → Nat → Nat → Nat → List Int → List Int → Option R) : Option R :=
 plain_Build_l7_1_L K0 NR n90 n91 n92 xs93 n94 l95 n96 n97 l98 l99 l100 xs101 xs102
noncomputable def plain_Build_l7_1 {R : Type} := shut (@plain_Build_l7_1_B R)
theorem plain_Build_l7_1_unf {R : Type} : @plain_Build_l7_1 R = @plain_Build_l7_1_B R := shut_eq _

noncomputable def plain_Build_j10_2_B {R : Type} (n216 : Int) (n217 : Int) (n218 : Int) (n219 : Int) (b220 : Bool) (xs221 : List Int) (n222 : Int) (l223 : Nat) (n224 : Int) (n225 : Int) (l226 : Nat) (l227 : Nat) (xs228 : List Int) (K0 : Int → Int → Int → Int → List Int → Int → Nat → Int → Int → Nat → Nat → List Int → Option R) : Option R :=
 sel (b220)
  (letV ([n216]) (fun (xs229 : List Int) =>
  sel (decide (1 = List.length xs229))
   (sel (decide (List.length xs228 = l227))
    (sel (decide ((l227 + 1) * 8 ≤ 140737488355328))
     (letV (xs228 ++ xs229) (fun (xs230 : List Int) =>
     K0 (n216) (n217) (n218) (n219) (xs221) (n222) (l223) (n224) (n225) (l226) (l227 + 1) (xs230)))
     (none))
    (none))
   (sel (decide (0 + 1 ≤ List.length xs229))
    (sel (decide (List.length xs228 = l227))
     (sel (decide ((l227 + 1) * 8 ≤ 140737488355328))
      (letV (xs228 ++ List.take 1 (List.drop 0 xs229)) (fun (xs231 : List Int) =>
      K0 (n216) (n217) (n218) (n219) (xs221) (n222) (l223) (n224) (n225) (l226) (l227 + 1) (xs231)))
      (none))
     (none))
    (none))))
  (K0 (n216) (n217) (n218) (n219) (xs221) (n222) (l223) (n224) (n225) (l226) (l227) (xs228))
noncomputable def plain_Build_j10_2 {R : Type} := shut (@plain_Build_j10_2_B R)
theorem plain_Build_j10_2_unf {R : Type} : @plain_Build_j10_2 R = @plain_Build_j10_2_B R := shut_eq _

noncomputable def plain_Build_l7_2_T {R : Type} (rec : Int → Int → Int → List Int → Int → Nat → Int → Int → Nat → Nat → List Int → Option R) (rec0 : Int → Int → Int → List Int → Int → Nat → Int → Int → Nat → Nat → Nat → List Int → List Int → Option R) (n205 : Int) (n206 : Int) (n207 : Int) (xs208 : List Int) (n209 : Int) (l210 : Nat) (n211 : Int) (n212 : Int) (l213 : Nat) (l214 : Nat) (xs215 : List Int) (K0 : List Int → Int → Int → Nat → Nat → Nat → List Int → List Int → Option R) (K1 : List Int → Int → Int → Nat → Nat → List Int → Option R) : Option R :=
 sel (decide (n207 < n206))
  (sel (decide (remW n207 8 = 0))
   (plain_Build_j10_2 (n205) (n207) (n206) (n207) (decide (mulW .i64 n207 64 ≤ n209)) (xs208) (n209) (l210) (n211) (n212) (l213) (l214) (xs215)
    (fun n232 n233 n234 n235 xs236 n237 l238 n239 n240 l241 l242 xs243 => plain_Build_j11 (n232) (n233) (n234) (n235) (xs236) (n237) (l238) (n239) (n240) (l241) (l242) (xs243)
     (fun n244 n245 n246 xs247 n248 l249 n250 n251 l252 l253 l254 xs255 xs256 => rec0 (n244) (n245) (addW .i64 n246 1) (xs247) (n248) (l249) (n250) (n251) (l252) (l253) (l254) (xs255) (xs256))
     (fun n257 n258 n259 xs260 n261 l262 n263 n264 l265 l266 xs267 => rec (n257) (n258) (addW .i64 n259 1) (xs260) (n261) (l262) (n263) (n264) (l265) (l266) (xs267))))
   (plain_Build_j10_2 (n205) (n207) (n206) (n207) (false) (xs208) (n209) (l210) (n211) (n212) (l213) (l214) (xs215)
    (fun n268 n269 n270 n271 xs272 n273 l274 n275 n276 l277 l278 xs279 => plain_Build_j11 (n268) (n269) (n270) (n271) (xs272) (n273) (l274) (n275) (n276) (l277) (l278) (xs279)
     (fun n280 n281 n282 xs283 n284 l285 n286 n287 l288 l289 l290 xs291 xs292 => rec0 (n280) (n281) (addW .i64 n282 1) (xs283) (n284) (l285) (n286) (n287) (l288) (l289) (l290) (xs291) (xs292))
     (fun n293 n294 n295 xs296 n297 l298 n299 n300 l301 l302 xs303 => rec (n293) (n294) (addW .i64 n295 1) (xs296) (n297) (l298) (n299) (n300) (l301) (l302) (xs303)))))
  (K1 (xs208) (n211) (n212) (l213) (l214) (xs215))
noncomputable def plain_Build_l7_2_L {R : Type} (K0 : List Int → Int → Int → Nat → Nat → Nat → List Int → List Int → Option R) (K1 : List Int → Int → Int → Nat → Nat → List Int → Option R) : Nat → Int → Int → Int → List Int → Int → Nat → Int → Int → Nat → Nat → List Int → Option R
  | 0, _, _, _, _, _, _, _, _, _, _, _ => none
  | N + 1, n205, n206, n207, xs208, n209, l210, n211, n212, l213, l214, xs215 => plain_Build_l7_2_T (plain_Build_l7_2_L K0 K1 N) (plain_Build_l7_1_L K0 N) n205 n206 n207 xs208 n209 l210 n211 n212 l213 l214 xs215 K0 K1
noncomputable def plain_Build_l7_2_B {R : Type} (n205 : Int) (n206 : Int) (n207 : Int) (xs208 : List Int) (n209 : Int) (l210 : Nat) (n211 : Int) (n212 : Int) (l213 : Nat) (l214 : Nat) (xs215 : List Int) (K0 : List Int → Int → Int → Nat → Nat → Nat → List Int → List Int → Option R) (K1 : List Int → Int → Int → Nat → Nat → List Int → Option R) : Option R :=
 plain_Build_l7_2_L K0 K1 NR n205 n206 n207 xs208 n209 l210 n211 n212 l213 l214 xs215
noncomputable def plain_Build_l7_2 {R : Type} := shut (@plain_Build_l7_2_B R)
theorem plain_Build_l7_2_unf {R : Type} : @plain_Build_l7_2 R = @plain_Build_l7_2_B R := shut_eq _

noncomputable def plain_Build_j11_2_B {R : Type} (n314 : Int) (n315 : Int) (n316 : Int) (n317 : Int) (xs318 : List Int) (n319 : Int) (l320 : Nat) (n321 : Int) (n322 : Int) (l323 : Nat) (K0 : Int → Int → Int → List Int → Int → Nat → Int → Int → Nat → Option R) : Option R :=
 sel (decide (n315 < (↑l320 : Int)))
  (none)
  (K0 (n314) (n316) (n317) (xs318) (n319) (l320) (n321) (n322) (l323))
noncomputable def plain_Build_j11_2 {R : Type} := shut (@plain_Build_j11_2_B R)
theorem plain_Build_j11_2_unf {R : Type} : @plain_Build_j11_2 R = @plain_Build_j11_2_B R := shut_eq _

noncomputable def plain_Build_l7_T {R : Type} (rec : Int → Int → Int → List Int → Int → Nat → Int → Int → Nat → Option R) (rec0 : Int → Int → Int → List Int → Int → Nat → Int → Int → Nat → Nat → Nat → List Int → List Int → Option R) (rec1 : Int → Int → Int → List Int → Int → Nat → Int → Int → Nat → Nat → List Int → Option R) (n21 : Int) (n22 : Int) (n23 : Int) (xs24 : List Int) (n25 : Int) (l26 : Nat) (n27 : Int) (n28 : Int) (l29 : Nat) (K0 : List Int → Int → Int → Nat → Nat → Nat → List Int → List Int → Option R) (K1 : List Int → Int → Int → Nat → Nat → List Int → Option R) (K2 : List Int → Int → Int → Nat → Option R) : Option R :=
 sel (decide (n23 < n22))
  (sel (decide (remW n23 8 = 0))
   (plain_Build_j10 (n21) (n23) (n22) (n23) (decide (mulW .i64 n23 64 ≤ n25)) (xs24) (n25) (l26) (n27) (n28) (l29)
    (fun n43 n44 n45 n46 xs47 n48 l49 n50 n51 l52 l53 xs54 => plain_Build_j11 (n43) (n44) (n45) (n46) (xs47) (n48) (l49) (n50) (n51) (l52) (l53) (xs54)
     (fun n77 n78 n79 xs80 n81 l82 n83 n84 l85 l86 l87 xs88 xs89 => rec0 (n77) (n78) (addW .i64 n79 1) (xs80) (n81) (l82) (n83) (n84) (l85) (l86) (l87) (xs88) (xs89))
     (fun n194 n195 n196 xs197 n198 l199 n200 n201 l202 l203 xs204 => rec1 (n194) (n195) (addW .i64 n196 1) (xs197) (n198) (l199) (n200) (n201) (l202) (l203) (xs204)))
    (fun n304 n305 n306 n307 xs308 n309 l310 n311 n312 l313 => plain_Build_j11_2 (n304) (n305) (n306) (n307) (xs308) (n309) (l310) (n311) (n312) (l313)
     (fun n324 n325 n326 xs327 n328 l329 n330 n331 l332 => rec (n324) (n325) (addW .i64 n326 1) (xs327) (n328) (l329) (n330) (n331) (l332))))
   (plain_Build_j10 (n21) (n23) (n22) (n23) (false) (xs24) (n25) (l26) (n27) (n28) (l29)
    (fun n333 n334 n335 n336 xs337 n338 l339 n340 n341 l342 l343 xs344 => plain_Build_j11 (n333) (n334) (n335) (n336) (xs337) (n338) (l339) (n340) (n341) (l342) (l343) (xs344)
     (fun n345 n346 n347 xs348 n349 l350 n351 n352 l353 l354 l355 xs356 xs357 => rec0 (n345) (n346) (addW .i64 n347 1) (xs348) (n349) (l350) (n351) (n352) (l353) (l354) (l355) (xs356) (xs357))
     (fun n358 n359 n360 xs361 n362 l363 n364 n365 l366 l367 xs368 => rec1 (n358) (n359) (addW .i64 n360 1) (xs361) (n362) (l363) (n364) (n365) (l366) (l367) (xs368)))
    (fun n369 n370 n371 n372 xs373 n374 l375 n376 n377 l378 => plain_Build_j11_2 (n369) (n370) (n371) (n372) (xs373) (n374) (l375) (n376) (n377) (l378)
     (fun n379 n380 n381 xs382 n383 l384 n385 n386 l387 => rec (n379) (n380) (addW .i64 n381 1) (xs382) (n383) (l384) (n385) (n386) (l387)))))
  (K2 (xs24) (n27) (n28) (l29))
noncomputable def plain_Build_l7_L {R : Type} (K0 : List Int → Int → Int → Nat → Nat → Nat → List Int → List Int → Option R) (K1 : List Int → Int → Int → Nat → Nat → List Int → Option R) (K2 : List Int → Int → Int → Nat → Option R) : Nat → Int → Int → Int → List Int → Int → Nat → Int → Int → Nat → Option R
  | 0, _, _, _, _, _, _, _, _, _ => none
  | N + 1, n21, n22, n23, xs24, n25, l26, n27, n28, l29 => plain_Build_l7_T (plain_Build_l7_L K0 K1 K2 N) (plain_Build_l7_1_L K0 N) (plain_Build_l7_2_L K0 K1 N) n21 n22 n23 xs24 n25 l26 n27 n28 l29 K0 K1 K2
noncomputable def plain_Build_l7_B {R : Type} (n21 : Int) (n22 : Int) (n23 : Int) (xs24 : List Int) (n25 : Int) (l26 : Nat) (n27 : Int) (n28 : Int) (l29 : Nat) (K0 : List Int → Int → Int → Nat → Nat → Nat → List Int → List Int → Option R) (K1 : List Int → Int → Int → Nat → Nat → List Int → Option R) (K2 : List Int → Int → Int → Nat → Option R) : Option R :=
 plain_Build_l7_L K0 K1 K2 NR n21 n22 n23 xs24 n25 l26 n27 n28 l29
noncomputable def plain_Build_l7 {R : Type} := shut (@plain_Build_l7_B R)
theorem plain_Build_l7_unf {R : Type} : @plain_Build_l7 R = @plain_Build_l7_B R := shut_eq _

noncomputable def plain_Build_r_B {R : Type} (n3 : Int) (l4 : Nat) (xs5 : List Int) (K0 : Int → Int → List Int → Option R) (K1 : Int → Nat → Nat → Nat → Int → List Int → List Int → List Int → Option R) (K2 : Int → Nat → Nat → Int → List Int → List Int → Option R) (K3 : Int → Nat → Int → List Int → Option R) : Option R :=
 bits_Check_r (n3) (l4) (xs5)
  (fun b19 xs20 => sel (!b19)
   (K0 (0) (2) (xs20))
   (plain_Build_l7 (0) (addW .i64 (↑l4 : Int) 1) (0) (xs20) (n3) (l4) (0) (n3) (l4)
    (fun xs388 n389 n390 l391 l392 l393 xs394 xs395 => K1 (n390) (l391) (l392) (l393) (0) (xs388) (xs394) (xs395))
    (fun xs396 n397 n398 l399 l400 xs401 => K2 (n398) (l399) (l400) (0) (xs396) (xs401))
    (fun xs402 n403 n404 l405 => K3 (n404) (l405) (0) (xs402))))
noncomputable def plain_Build_r {R : Type} := shut (@plain_Build_r_B R)
theorem plain_Build_r_unf {R : Type} : @plain_Build_r R = @plain_Build_r_B R := shut_eq _

noncomputable def bits_Check_j4_1_B {R : Type} (n423 : Int) (xs424 : List Int) (K0 : Bool → Option R) : Option R :=
 sel (decide (remW n423 64 = 0))
  (K0 (true))
  (sel (decide (0 ≤ subW .i64 (↑(List.length xs424) : Int) 1))
   (sel (decide (subW .i64 (↑(List.length xs424) : Int) 1 < (↑(List.length xs424) : Int)))
    (word_Mask (remW n423 64)
     (fun n425 => letV (decide (andNotW .u64 (List.getD xs424 (Int.toNat (subW .i64 (↑(List.length xs424) : Int) 1)) 0) n425 = 0)) (fun (b426 : Bool) =>
     K0 (b426))))
    (none))
   (none))
noncomputable def bits_Check_j4_1 {R : Type} := shut (@bits_Check_j4_1_B R)
theorem bits_Check_j4_1_unf {R : Type} : @bits_Check_j4_1 R = @bits_Check_j4_1_B R := shut_eq _

noncomputable def bits_Check_B {R : Type} (n420 : Int) (xs421 : List Int) (K0 : Bool → Option R) : Option R :=
 sel (decide (n420 < 0))
  (K0 (false))
  (sel (decide (1048576 < n420))
   (K0 (false))
   (bits_words (n420)
    (fun n422 => sel (!decide ((↑(List.length xs421) : Int) = n422))
     (K0 (false))
     (bits_Check_j4_1 (n420) (xs421)
      (fun b427 => K0 (b427))))))
noncomputable def bits_Check {R : Type} := shut (@bits_Check_B R)
theorem bits_Check_unf {R : Type} : @bits_Check R = @bits_Check_B R := shut_eq _

noncomputable def plain_Build_j10_3_B {R : Type} (n437 : Int) (n438 : Int) (n439 : Int) (n440 : Int) (b441 : Bool) (n442 : Int) (xs443 : List Int) (n444 : Int) (n445 : Int) (xs446 : List Int) (K0 : Int → Int → Int → Int → Int → List Int → Int → Int → List Int → Nat → List Int → Option R) (K1 : Int → Int → Int → Int → Int → List Int → Int → Int → List Int → Option R) : Option R :=
 sel (b441)
  (letV ([n437]) (fun (xs447 : List Int) =>
  sel (decide (1 = List.length xs447))
   (K0 (n437) (n438) (n439) (n440) (n442) (xs443) (n444) (n445) (xs446) (1) (xs447))
   (sel (decide (0 + 1 ≤ List.length xs447))
    (letV (List.take 1 (List.drop 0 xs447)) (fun (xs448 : List Int) =>
    K0 (n437) (n438) (n439) (n440) (n442) (xs443) (n444) (n445) (xs446) (1) (xs448)))
    (none))))
  (K1 (n437) (n438) (n439) (n440) (n442) (xs443) (n444) (n445) (xs446))
noncomputable def plain_Build_j10_3 {R : Type} := shut (@plain_Build_j10_3_B R)
theorem plain_Build_j10_3_unf {R : Type} : @plain_Build_j10_3 R = @plain_Build_j10_3_B R := shut_eq _

noncomputable def plain_Build_j11_3_B {R : Type} (n460 : Int) (n461 : Int) (n462 : Int) (n463 : Int) (n464 : Int) (xs465 : List Int) (n466 : Int) (n467 : Int) (xs468 : List Int) (l469 : Nat) (xs470 : List Int) (K0 : Int → Int → Int → Int → List Int → Int → Int → List Int → Nat → Nat → List Int → List Int → Option R) (K1 : Int → Int → Int → Int → List Int → Int → Int → List Int → Nat → List Int → Option R) : Option R :=
 sel (decide (n461 < (↑(List.length xs465) : Int)))
  (sel (decide (0 ≤ quoW .i64 n461 8))
   (sel (decide (quoW .i64 n461 8 < (↑l469 : Int)))
    (sel (decide (Int.toNat (quoW .i64 n461 8) < List.length xs470))
     (letV ([subW .i64 n460 (List.getD xs470 (Int.toNat (quoW .i64 n461 8)) 0)]) (fun (xs471 : List Int) =>
     sel (decide (1 = List.length xs471))
      (sel (decide (0 ≤ n461))
       (sel (decide (n461 < (↑(List.length xs465) : Int)))
        (word_Pop (List.getD xs465 (Int.toNat n461) 0)
         (fun n472 => K0 (addW .i64 n460 n472) (n462) (n463) (n464) (xs465) (n466) (n467) (xs468) (l469) (1) (xs470) (xs471)))
        (none))
       (none))
      (sel (decide (0 + 1 ≤ List.length xs471))
       (letV (List.take 1 (List.drop 0 xs471)) (fun (xs473 : List Int) =>
       sel (decide (0 ≤ n461))
        (sel (decide (n461 < (↑(List.length xs465) : Int)))
         (word_Pop (List.getD xs465 (Int.toNat n461) 0)
          (fun n474 => K0 (addW .i64 n460 n474) (n462) (n463) (n464) (xs465) (n466) (n467) (xs468) (l469) (1) (xs470) (xs473)))
         (none))
        (none)))
       (none))))
     (none))
    (none))
   (none))
  (K1 (n460) (n462) (n463) (n464) (xs465) (n466) (n467) (xs468) (l469) (xs470))
noncomputable def plain_Build_j11_3 {R : Type} := shut (@plain_Build_j11_3_B R)
theorem plain_Build_j11_3_unf {R : Type} : @plain_Build_j11_3 R = @plain_Build_j11_3_B R := shut_eq _

noncomputable def plain_Build_j10_4_B {R : Type} (n499 : Int) (n500 : Int) (n501 : Int) (n502 : Int) (b503 : Bool) (n504 : Int) (xs505 : List Int) (n506 : Int) (n507 : Int) (xs508 : List Int) (l509 : Nat) (l510 : Nat) (xs511 : List Int) (xs512 : List Int) (K0 : Int → Int → Int → Int → Int → List Int → Int → Int → List Int → Nat → Nat → List Int → List Int → Option R) : Option R :=
 sel (b503)
  (letV ([n499]) (fun (xs513 : List Int) =>
  sel (decide (1 = List.length xs513))
   (sel (decide (List.length xs511 = l509))
    (sel (decide ((l509 + 1) * 8 ≤ 140737488355328))
     (letV (xs511 ++ xs513) (fun (xs514 : List Int) =>
     K0 (n499) (n500) (n501) (n502) (n504) (xs505) (n506) (n507) (xs508) (l509 + 1) (l510) (xs514) (xs512)))
     (none))
    (none))
   (sel (decide (0 + 1 ≤ List.length xs513))
    (sel (decide (List.length xs511 = l509))
     (sel (decide ((l509 + 1) * 8 ≤ 140737488355328))
      (letV (xs511 ++ List.take 1 (List.drop 0 xs513)) (fun (xs515 : List Int) =>
      K0 (n499) (n500) (n501) (n502) (n504) (xs505) (n506) (n507) (xs508) (l509 + 1) (l510) (xs515) (xs512)))
      (none))
     (none))
    (none))))
  (K0 (n499) (n500) (n501) (n502) (n504) (xs505) (n506) (n507) (xs508) (l509) (l510) (xs511) (xs512))
noncomputable def plain_Build_j10_4 {R : Type} := shut (@plain_Build_j10_4_B R)
theorem plain_Build_j10_4_unf {R : Type} : @plain_Build_j10_4 R = @plain_Build_j10_4_B R := shut_eq _

noncomputable def plain_Build_j11_4_B {R : Type} (n529 : Int) (n530 : Int) (n531 : Int) (n532 : Int) (n533 : Int) (xs534 : List Int) (n535 : Int) (n536 : Int) (xs537 : List Int) (l538 : Nat) (l539 : Nat) (xs540 : List Int) (xs541 : List Int) (K0 : Int → Int → Int → Int → List Int → Int → Int → List Int → Nat → Nat → List Int → List Int → Option R) : Option R :=
 sel (decide (n530 < (↑(List.length xs534) : Int)))
  (sel (decide (0 ≤ quoW .i64 n530 8))
   (sel (decide (quoW .i64 n530 8 < (↑l538 : Int)))
    (sel (decide (Int.toNat (quoW .i64 n530 8) < List.length xs540))
     (letV ([subW .i64 n529 (List.getD xs540 (Int.toNat (quoW .i64 n530 8)) 0)]) (fun (xs542 : List Int) =>
     sel (decide (1 = List.length xs542))
      (sel (decide (List.length xs541 = l539))
       (sel (decide ((l539 + 1) * 8 ≤ 140737488355328))
        (letV (xs541 ++ xs542) (fun (xs543 : List Int) =>
        sel (decide (0 ≤ n530))
         (sel (decide (n530 < (↑(List.length xs534) : Int)))
          (word_Pop (List.getD xs534 (Int.toNat n530) 0)
           (fun n544 => K0 (addW .i64 n529 n544) (n531) (n532) (n533) (xs534) (n535) (n536) (xs537) (l538) (l539 + 1) (xs540) (xs543)))
          (none))
         (none)))
        (none))
       (none))
      (sel (decide (0 + 1 ≤ List.length xs542))
       (sel (decide (List.length xs541 = l539))
        (sel (decide ((l539 + 1) * 8 ≤ 140737488355328))
         (letV (xs541 ++ List.take 1 (List.drop 0 xs542)) (fun (xs545 : List Int) =>
         sel (decide (0 ≤ n530))
          (sel (decide (n530 < (↑(List.length xs534) : Int)))
           (word_Pop (List.getD xs534 (Int.toNat n530) 0)
            (fun n546 => K0 (addW .i64 n529 n546) (n531) (n532) (n533) (xs534) (n535) (n536) (xs537) (l538) (l539 + 1) (xs540) (xs545)))
           (none))
          (none)))
         (none))
        (none))
       (none))))
     (none))
    (none))
   (none))
  (K0 (n529) (n531) (n532) (n533) (xs534) (n535) (n536) (xs537) (l538) (l539) (xs540) (xs541))
noncomputable def plain_Build_j11_4 {R : Type} := shut (@plain_Build_j11_4_B R)
theorem plain_Build_j11_4_unf {R : Type} : @plain_Build_j11_4 R = @plain_Build_j11_4_B R := shut_eq _

noncomputable def plain_Build_l7_4_T {R : Type} (rec : Int → Int → Int → Int → List Int → Int → Int → List Int → Nat → Nat → List Int → List Int → Option R) (n487 : Int) (n488 : Int) (n489 : Int) (n490 : Int) (xs491 : List Int) (n492 : Int) (n493 : Int) (xs494 : List Int) (l495 : Nat) (l496 : Nat) (xs497 : List Int) (xs498 : List Int) (K0 : Int → Int → List Int → Nat → Nat → List Int → List Int → Option R) : Option R :=
 sel (decide (n489 < n488))
  (sel (decide (remW n489 8 = 0))
   (plain_Build_j10_4 (n487) (n489) (n488) (n489) (decide (mulW .i64 n489 64 ≤ n490)) (n490) (xs491) (n492) (n493) (xs494) (l495) (l496) (xs497) (xs498)
    (fun n516 n517 n518 n519 n520 xs521 n522 n523 xs524 l525 l526 xs527 xs528 => plain_Build_j11_4 (n516) (n517) (n518) (n519) (n520) (xs521) (n522) (n523) (xs524) (l525) (l526) (xs527) (xs528)
     (fun n547 n548 n549 n550 xs551 n552 n553 xs554 l555 l556 xs557 xs558 => rec (n547) (n548) (addW .i64 n549 1) (n550) (xs551) (n552) (n553) (xs554) (l555) (l556) (xs557) (xs558))))
   (plain_Build_j10_4 (n487) (n489) (n488) (n489) (false) (n490) (xs491) (n492) (n493) (xs494) (l495) (l496) (xs497) (xs498)
    (fun n559 n560 n561 n562 n563 xs564 n565 n566 xs567 l568 l569 xs570 xs571 => plain_Build_j11_4 (n559) (n560) (n561) (n562) (n563) (xs564) (n565) (n566) (xs567) (l568) (l569) (xs570) (xs571)
     (fun n572 n573 n574 n575 xs576 n577 n578 xs579 l580 l581 xs582 xs583 => rec (n572) (n573) (addW .i64 n574 1) (n575) (xs576) (n577) (n578) (xs579) (l580) (l581) (xs582) (xs583)))))
  (K0 (n492) (n493) (xs494) (l495) (l496) (xs497) (xs498))
noncomputable def plain_Build_l7_4_L {R : Type} (K0 : Int → Int → List Int → Nat → Nat → List Int → List Int → Option R) : Nat → Int → Int → Int → Int → List Int → Int → Int → List Int → Nat → Nat → List Int → List Int → Option R
  | 0, _, _, _, _, _, _, _, _, _, _, _, _ => none
  | N + 1, n487, n488, n489, n490, xs491, n492, n493, xs494, l495, l496, xs497, xs498 => plain_Build_l7_4_T (plain_Build_l7_4_L K0 N) n487 n488 n489 n490 xs491 n492 n493 xs494 l495 l496 xs497 xs498 K0
noncomputable def plain_Build_l7_4_B {R : Type} (n487 : Int) (n488 : Int) (n489 : Int) (n490 : Int) (xs491 : List Int) (n492 : Int) (n493 : Int) (xs494 : List Int) (l495 : Nat) (l496 : Nat) (xs497 : List Int) (xs498 : List Int) (K0 : Int → Int → List Int → Nat → Nat → List Int → List Int → Option R) : Option R :=
 plain_Build_l7_4_L K0 NR n487 n488 n489 n490 xs491 n492 n493 xs494 l495 l496 xs497 xs498
noncomputable def plain_Build_l7_4 {R : Type} := shut (@plain_Build_l7_4_B R)
theorem plain_Build_l7_4_unf {R : Type} : @plain_Build_l7_4 R = @plain_Build_l7_4_B R := shut_eq _

noncomputable def plain_Build_j10_5_B {R : Type} (n604 : Int) (n605 : Int) (n606 : Int) (n607 : Int) (b608 : Bool) (n609 : Int) (xs610 : List Int) (n611 : Int) (n612 : Int) (xs613 : List Int) (l614 : Nat) (xs615 : List Int) (K0 : Int → Int → Int → Int → Int → List Int → Int → Int → List Int → Nat → List Int → Option R) : Option R :=
 sel (b608)
  (letV ([n604]) (fun (xs616 : List Int) =>
  sel (decide (1 = List.length xs616))
   (sel (decide (List.length xs615 = l614))
    (sel (decide ((l614 + 1) * 8 ≤ 140737488355328))
     (letV (xs615 ++ xs616) (fun (xs617 : List Int) =>
     K0 (n604) (n605) (n606) (n607) (n609) (xs610) (n611) (n612) (xs613) (l614 + 1) (xs617)))
     (none))
    (none))
   (sel (decide (0 + 1 ≤ List.length xs616))
    (sel (decide (List.length xs615 = l614))
     (sel (decide ((l614 + 1) * 8 ≤ 140737488355328))
      (letV (xs615 ++ List.take 1 (List.drop 0 xs616)) (fun (xs618 : List Int) =>
      K0 (n604) (n605) (n606) (n607) (n609) (xs610) (n611) (n612) (xs613) (l614 + 1) (xs618)))
      (none))
     (none))
    (none))))
  (K0 (n604) (n605) (n606) (n607) (n609) (xs610) (n611) (n612) (xs613) (l614) (xs615))
noncomputable def plain_Build_j10_5 {R : Type} := shut (@plain_Build_j10_5_B R)
theorem plain_Build_j10_5_unf {R : Type} : @plain_Build_j10_5 R = @plain_Build_j10_5_B R := shut_eq _

noncomputable def plain_Build_l7_5_T {R : Type} (rec : Int → Int → Int → Int → List Int → Int → Int → List Int → Nat → List Int → Option R) (rec0 : Int → Int → Int → Int → List Int → Int → Int → List Int → Nat → Nat → List Int → List Int → Option R) (n594 : Int) (n595 : Int) (n596 : Int) (n597 : Int) (xs598 : List Int) (n599 : Int) (n600 : Int) (xs601 : List Int) (l602 : Nat) (xs603 : List Int) (K0 : Int → Int → List Int → Nat → Nat → List Int → List Int → Option R) (K1 : Int → Int → List Int → Nat → List Int → Option R) : Option R :=
 sel (decide (n596 < n595))
  (sel (decide (remW n596 8 = 0))
   (plain_Build_j10_5 (n594) (n596) (n595) (n596) (decide (mulW .i64 n596 64 ≤ n597)) (n597) (xs598) (n599) (n600) (xs601) (l602) (xs603)
    (fun n619 n620 n621 n622 n623 xs624 n625 n626 xs627 l628 xs629 => plain_Build_j11_3 (n619) (n620) (n621) (n622) (n623) (xs624) (n625) (n626) (xs627) (l628) (xs629)
     (fun n630 n631 n632 n633 xs634 n635 n636 xs637 l638 l639 xs640 xs641 => rec0 (n630) (n631) (addW .i64 n632 1) (n633) (xs634) (n635) (n636) (xs637) (l638) (l639) (xs640) (xs641))
     (fun n642 n643 n644 n645 xs646 n647 n648 xs649 l650 xs651 => rec (n642) (n643) (addW .i64 n644 1) (n645) (xs646) (n647) (n648) (xs649) (l650) (xs651))))
   (plain_Build_j10_5 (n594) (n596) (n595) (n596) (false) (n597) (xs598) (n599) (n600) (xs601) (l602) (xs603)
    (fun n652 n653 n654 n655 n656 xs657 n658 n659 xs660 l661 xs662 => plain_Build_j11_3 (n652) (n653) (n654) (n655) (n656) (xs657) (n658) (n659) (xs660) (l661) (xs662)
     (fun n663 n664 n665 n666 xs667 n668 n669 xs670 l671 l672 xs673 xs674 => rec0 (n663) (n664) (addW .i64 n665 1) (n666) (xs667) (n668) (n669) (xs670) (l671) (l672) (xs673) (xs674))
     (fun n675 n676 n677 n678 xs679 n680 n681 xs682 l683 xs684 => rec (n675) (n676) (addW .i64 n677 1) (n678) (xs679) (n680) (n681) (xs682) (l683) (xs684)))))
  (K1 (n599) (n600) (xs601) (l602) (xs603))
noncomputable def plain_Build_l7_5_L {R : Type} (K0 : Int → Int → List Int → Nat → Nat → List Int → List Int → Option R) (K1 : Int → Int → List Int → Nat → List Int → Option R) : Nat → Int → Int → Int → Int → List Int → Int → Int → List Int → Nat → List Int → Option R
  | 0, _, _, _, _, _, _, _, _, _, _ => none
  | N + 1, n594, n595, n596, n597, xs598, n599, n600, xs601, l602, xs603 => plain_Build_l7_5_T (plain_Build_l7_5_L K0 K1 N) (plain_Build_l7_4_L K0 N) n594 n595 n596 n597 xs598 n599 n600 xs601 l602 xs603 K0 K1
noncomputable def plain_Build_l7_5_B {R : Type} (n594 : Int) (n595 : Int) (n596 : Int) (n597 : Int) (xs598 : List Int) (n599 : Int) (n600 : Int) (xs601 : List Int) (l602 : Nat) (xs603 : List Int) (K0 : Int → Int → List Int → Nat → Nat → List Int → List Int → Option R) (K1 : Int → Int → List Int → Nat → List Int → Option R) : Option R :=
 plain_Build_l7_5_L K0 K1 NR n594 n595 n596 n597 xs598 n599 n600 xs601 l602 xs603
noncomputable def plain_Build_l7_5 {R : Type} := shut (@plain_Build_l7_5_B R)
theorem plain_Build_l7_5_unf {R : Type} : @plain_Build_l7_5 R = @plain_Build_l7_5_B R := shut_eq _

noncomputable def plain_Build_j11_5_B {R : Type} (n694 : Int) (n695 : Int) (n696 : Int) (n697 : Int) (n698 : Int) (xs699 : List Int) (n700 : Int) (n701 : Int) (xs702 : List Int) (K0 : Int → Int → Int → Int → List Int → Int → Int → List Int → Option R) : Option R :=
 sel (decide (n695 < (↑(List.length xs699) : Int)))
  (none)
  (K0 (n694) (n696) (n697) (n698) (xs699) (n700) (n701) (xs702))
noncomputable def plain_Build_j11_5 {R : Type} := shut (@plain_Build_j11_5_B R)
theorem plain_Build_j11_5_unf {R : Type} : @plain_Build_j11_5 R = @plain_Build_j11_5_B R := shut_eq _

noncomputable def plain_Build_l7_3_T {R : Type} (rec : Int → Int → Int → Int → List Int → Int → Int → List Int → Option R) (rec0 : Int → Int → Int → Int → List Int → Int → Int → List Int → Nat → Nat → List Int → List Int → Option R) (rec1 : Int → Int → Int → Int → List Int → Int → Int → List Int → Nat → List Int → Option R) (n429 : Int) (n430 : Int) (n431 : Int) (n432 : Int) (xs433 : List Int) (n434 : Int) (n435 : Int) (xs436 : List Int) (K0 : Int → Int → List Int → Nat → Nat → List Int → List Int → Option R) (K1 : Int → Int → List Int → Nat → List Int → Option R) (K2 : Int → Int → List Int → Option R) : Option R :=
 sel (decide (n431 < n430))
  (sel (decide (remW n431 8 = 0))
   (plain_Build_j10_3 (n429) (n431) (n430) (n431) (decide (mulW .i64 n431 64 ≤ n432)) (n432) (xs433) (n434) (n435) (xs436)
    (fun n449 n450 n451 n452 n453 xs454 n455 n456 xs457 l458 xs459 => plain_Build_j11_3 (n449) (n450) (n451) (n452) (n453) (xs454) (n455) (n456) (xs457) (l458) (xs459)
     (fun n475 n476 n477 n478 xs479 n480 n481 xs482 l483 l484 xs485 xs486 => rec0 (n475) (n476) (addW .i64 n477 1) (n478) (xs479) (n480) (n481) (xs482) (l483) (l484) (xs485) (xs486))
     (fun n584 n585 n586 n587 xs588 n589 n590 xs591 l592 xs593 => rec1 (n584) (n585) (addW .i64 n586 1) (n587) (xs588) (n589) (n590) (xs591) (l592) (xs593)))
    (fun n685 n686 n687 n688 n689 xs690 n691 n692 xs693 => plain_Build_j11_5 (n685) (n686) (n687) (n688) (n689) (xs690) (n691) (n692) (xs693)
     (fun n703 n704 n705 n706 xs707 n708 n709 xs710 => rec (n703) (n704) (addW .i64 n705 1) (n706) (xs707) (n708) (n709) (xs710))))
   (plain_Build_j10_3 (n429) (n431) (n430) (n431) (false) (n432) (xs433) (n434) (n435) (xs436)
    (fun n711 n712 n713 n714 n715 xs716 n717 n718 xs719 l720 xs721 => plain_Build_j11_3 (n711) (n712) (n713) (n714) (n715) (xs716) (n717) (n718) (xs719) (l720) (xs721)
     (fun n722 n723 n724 n725 xs726 n727 n728 xs729 l730 l731 xs732 xs733 => rec0 (n722) (n723) (addW .i64 n724 1) (n725) (xs726) (n727) (n728) (xs729) (l730) (l731) (xs732) (xs733))
     (fun n734 n735 n736 n737 xs738 n739 n740 xs741 l742 xs743 => rec1 (n734) (n735) (addW .i64 n736 1) (n737) (xs738) (n739) (n740) (xs741) (l742) (xs743)))
    (fun n744 n745 n746 n747 n748 xs749 n750 n751 xs752 => plain_Build_j11_5 (n744) (n745) (n746) (n747) (n748) (xs749) (n750) (n751) (xs752)
     (fun n753 n754 n755 n756 xs757 n758 n759 xs760 => rec (n753) (n754) (addW .i64 n755 1) (n756) (xs757) (n758) (n759) (xs760)))))
  (K2 (n434) (n435) (xs436))
noncomputable def plain_Build_l7_3_L {R : Type} (K0 : Int → Int → List Int → Nat → Nat → List Int → List Int → Option R) (K1 : Int → Int → List Int → Nat → List Int → Option R) (K2 : Int → Int → List Int → Option R) : Nat → Int → Int → Int → Int → List Int → Int → Int → List Int → Option R
  | 0, _, _, _, _, _, _, _, _ => none
  | N + 1, n429, n430, n431, n432, xs433, n434, n435, xs436 => plain_Build_l7_3_T (plain_Build_l7_3_L K0 K1 K2 N) (plain_Build_l7_4_L K0 N) (plain_Build_l7_5_L K0 K1 N) n429 n430 n431 n432 xs433 n434 n435 xs436 K0 K1 K2
noncomputable def plain_Build_l7_3_B {R : Type} (n429 : Int) (n430 : Int) (n431 : Int) (n432 : Int) (xs433 : List Int) (n434 : Int) (n435 : Int) (xs436 : List Int) (K0 : Int → Int → List Int → Nat → Nat → List Int → List Int → Option R) (K1 : Int → Int → List Int → Nat → List Int → Option R) (K2 : Int → Int → List Int → Option R) : Option R :=
 plain_Build_l7_3_L K0 K1 K2 NR n429 n430 n431 n432 xs433 n434 n435 xs436
noncomputable def plain_Build_l7_3 {R : Type} := shut (@plain_Build_l7_3_B R)
theorem plain_Build_l7_3_unf {R : Type} : @plain_Build_l7_3 R = @plain_Build_l7_3_B R := shut_eq _

noncomputable def plain_Build_B {R : Type} (n418 : Int) (xs419 : List Int) (K0 : Int → List Int → List Int → List Int → Int → Option R) : Option R :=
 bits_Check (n418) (xs419)
  (fun b428 => sel (!b428)
   (K0 (0) ([]) ([]) ([]) (2))
   (plain_Build_l7_3 (0) (addW .i64 (↑(List.length xs419) : Int) 1) (0) (n418) (xs419) (0) (n418) (xs419)
    (fun n761 n762 xs763 l764 l765 xs766 xs767 => sel (decide (l764 = List.length xs766))
     (sel (decide (l765 = List.length xs767))
      (K0 (n762) (xs763) (xs766) (xs767) (0))
      (sel (decide (0 + l765 ≤ List.length xs767))
       (K0 (n762) (xs763) (xs766) (List.take l765 (List.drop 0 xs767)) (0))
       (none)))
     (sel (decide (0 + l764 ≤ List.length xs766))
      (sel (decide (l765 = List.length xs767))
       (K0 (n762) (xs763) (List.take l764 (List.drop 0 xs766)) (xs767) (0))
       (sel (decide (0 + l765 ≤ List.length xs767))
        (K0 (n762) (xs763) (List.take l764 (List.drop 0 xs766)) (List.take l765 (List.drop 0 xs767)) (0))
        (none)))
      (none)))
    (fun n768 n769 xs770 l771 xs772 => sel (decide (l771 = List.length xs772))
     (K0 (n769) (xs770) (xs772) ([]) (0))
     (sel (decide (0 + l771 ≤ List.length xs772))
      (K0 (n769) (xs770) (List.take l771 (List.drop 0 xs772)) ([]) (0))
      (none)))
    (fun n773 n774 xs775 => K0 (n774) (xs775) ([]) ([]) (0))))
noncomputable def plain_Build {R : Type} := shut (@plain_Build_B R)
theorem plain_Build_unf {R : Type} : @plain_Build R = @plain_Build_B R := shut_eq _

noncomputable def slices_Equal_int_int_l5_T {R : Type} (rec : List Int → List Int → Int → Int → Option R) (xs783 : List Int) (xs784 : List Int) (n785 : Int) (n786 : Int) (K0 : Bool → Option R) (K1 : Unit → Option R) : Option R :=
 sel (decide (n786 < n785))
  (sel (decide (0 ≤ n786))
   (sel (decide (n786 < (↑(List.length xs783) : Int)))
    (sel (decide (0 ≤ n786))
     (sel (decide (n786 < (↑(List.length xs784) : Int)))
      (sel (!decide (List.getD xs783 (Int.toNat n786) 0 = List.getD xs784 (Int.toNat n786) 0))
       (K0 (false))
       (rec (xs783) (xs784) (n785) (addW .i64 n786 1)))
      (none))
     (none))
    (none))
   (none))
  (K1 ())
noncomputable def slices_Equal_int_int_l5_L {R : Type} (K0 : Bool → Option R) (K1 : Unit → Option R) : Nat → List Int → List Int → Int → Int → Option R
  | 0, _, _, _, _ => none
  | N + 1, xs783, xs784, n785, n786 => slices_Equal_int_int_l5_T (slices_Equal_int_int_l5_L K0 K1 N) xs783 xs784 n785 n786 K0 K1
noncomputable def slices_Equal_int_int_l5_B {R : Type} (xs783 : List Int) (xs784 : List Int) (n785 : Int) (n786 : Int) (K0 : Bool → Option R) (K1 : Unit → Option R) : Option R :=
 slices_Equal_int_int_l5_L K0 K1 NR xs783 xs784 n785 n786
noncomputable def slices_Equal_int_int_l5 {R : Type} := shut (@slices_Equal_int_int_l5_B R)
theorem slices_Equal_int_int_l5_unf {R : Type} : @slices_Equal_int_int_l5 R = @slices_Equal_int_int_l5_B R := shut_eq _

noncomputable def slices_Equal_int_int_B {R : Type} (xs781 : List Int) (xs782 : List Int) (K0 : Bool → Option R) : Option R :=
 sel (!decide ((↑(List.length xs781) : Int) = (↑(List.length xs782) : Int)))
  (K0 (false))
  (slices_Equal_int_int_l5 (xs781) (xs782) ((↑(List.length xs781) : Int)) (0)
   (fun b787 => K0 (b787))
   (fun _ => K0 (true)))
noncomputable def slices_Equal_int_int {R : Type} := shut (@slices_Equal_int_int_B R)
theorem slices_Equal_int_int_unf {R : Type} : @slices_Equal_int_int R = @slices_Equal_int_int_B R := shut_eq _

noncomputable def plain_Check_B {R : Type} (n414 : Int) (xs415 : List Int) (xs416 : List Int) (xs417 : List Int) (K0 : Bool → Option R) : Option R :=
 plain_Build (n414) (xs415)
  (fun n776 xs777 xs778 xs779 n780 => sel (decide (n780 = 0))
   (slices_Equal_int_int (xs416) (xs778)
    (fun b788 => sel (b788)
     (slices_Equal_int_int (xs417) (xs779)
      (fun b789 => K0 (b789)))
     (K0 (false))))
   (K0 (false)))
noncomputable def plain_Check {R : Type} := shut (@plain_Check_B R)
theorem plain_Check_unf {R : Type} : @plain_Check R = @plain_Check_B R := shut_eq _

noncomputable def bits_Get_j6_B {R : Type} (n795 : Int) (_n796 : Int) (xs797 : List Int) (K0 : Bool → Int → Option R) : Option R :=
 sel (decide (0 ≤ quoW .i64 n795 64))
  (sel (decide (quoW .i64 n795 64 < (↑(List.length xs797) : Int)))
   (sel (decide (0 ≤ remW n795 64))
    (letV (decide (andW .u64 (shrW .u64 (List.getD xs797 (Int.toNat (quoW .i64 n795 64)) 0) (remW n795 64)) 1 = 1)) (fun (b798 : Bool) =>
    K0 (b798) (0)))
    (none))
   (none))
  (none)
noncomputable def bits_Get_j6 {R : Type} := shut (@bits_Get_j6_B R)
theorem bits_Get_j6_unf {R : Type} : @bits_Get_j6 R = @bits_Get_j6_B R := shut_eq _

noncomputable def bits_Get_B {R : Type} (n791 : Int) (xs792 : List Int) (n793 : Int) (K0 : Bool → Int → Option R) : Option R :=
 bits_Check (n791) (xs792)
  (fun b794 => sel (!b794)
   (K0 (false) (2))
   (sel (decide (n793 < 0))
    (K0 (false) (3))
    (sel (decide (n791 ≤ n793))
     (K0 (false) (3))
     (bits_Get_j6 (n793) (n791) (xs792)
      (fun b799 n800 => K0 (b799) (n800))))))
noncomputable def bits_Get {R : Type} := shut (@bits_Get_B R)
theorem bits_Get_unf {R : Type} : @bits_Get R = @bits_Get_B R := shut_eq _

noncomputable def plain_Access_B {R : Type} (n409 : Int) (xs410 : List Int) (xs411 : List Int) (xs412 : List Int) (n413 : Int) (K0 : Bool → Int → Option R) : Option R :=
 plain_Check (n409) (xs410) (xs411) (xs412)
  (fun b790 => sel (!b790)
   (K0 (false) (2))
   (bits_Get (n409) (xs410) (n413)
    (fun b801 n802 => K0 (b801) (n802))))
noncomputable def plain_Access {R : Type} := shut (@plain_Access_B R)
theorem plain_Access_unf {R : Type} : @plain_Access R = @plain_Access_B R := shut_eq _

noncomputable def bits_Ones_l7_T {R : Type} (rec : Int → Int → List Int → Int → Int → Int → List Int → Option R) (n838 : Int) (n839 : Int) (xs840 : List Int) (n841 : Int) (n842 : Int) (n843 : Int) (xs844 : List Int) (K0 : Int → Int → Int → List Int → Option R) : Option R :=
 sel (decide (n842 < n841))
  (sel (decide (0 ≤ n842))
   (sel (decide (n842 < (↑(List.length xs840) : Int)))
    (word_Pop (List.getD xs840 (Int.toNat n842) 0)
     (fun n845 => rec (n838) (addW .i64 n839 n845) (xs840) (n841) (addW .i64 n842 1) (n843) (xs844)))
    (none))
   (none))
  (K0 (n838) (n839) (n843) (xs844))
noncomputable def bits_Ones_l7_L {R : Type} (K0 : Int → Int → Int → List Int → Option R) : Nat → Int → Int → List Int → Int → Int → Int → List Int → Option R
  | 0, _, _, _, _, _, _, _ => none
  | N + 1, n838, n839, xs840, n841, n842, n843, xs844 => bits_Ones_l7_T (bits_Ones_l7_L K0 N) n838 n839 xs840 n841 n842 n843 xs844 K0
noncomputable def bits_Ones_l7_B {R : Type} (n838 : Int) (n839 : Int) (xs840 : List Int) (n841 : Int) (n842 : Int) (n843 : Int) (xs844 : List Int) (K0 : Int → Int → Int → List Int → Option R) : Option R :=
 bits_Ones_l7_L K0 NR n838 n839 xs840 n841 n842 n843 xs844
noncomputable def bits_Ones_l7 {R : Type} := shut (@bits_Ones_l7_B R)
theorem bits_Ones_l7_unf {R : Type} : @bits_Ones_l7 R = @bits_Ones_l7_B R := shut_eq _

noncomputable def word_Rank_B {R : Type} (n850 : Int) (n851 : Int) (K0 : Int → Option R) : Option R :=
 word_Mask (n851)
  (fun n852 => word_Pop (andW .u64 n850 n852)
   (fun n853 => K0 (n853)))
noncomputable def word_Rank {R : Type} := shut (@word_Rank_B R)
theorem word_Rank_unf {R : Type} : @word_Rank R = @word_Rank_B R := shut_eq _

noncomputable def bits_Ones_B {R : Type} (n833 : Int) (xs834 : List Int) (n835 : Int) (K0 : Int → Option R) : Option R :=
 bits_Check (n833) (xs834)
  (fun b836 => sel (!b836)
   (K0 (0))
   (sel (decide (0 ≤ quoW .i64 (max2 0 (min2 n835 n833)) 64))
    (sel (decide (quoW .i64 (max2 0 (min2 n835 n833)) 64 ≤ (↑(List.length xs834) : Int)))
     (letV (List.drop (Int.toNat 0) (List.take (Int.toNat (quoW .i64 (max2 0 (min2 n835 n833)) 64)) xs834)) (fun (xs837 : List Int) =>
     bits_Ones_l7 (max2 0 (min2 n835 n833)) (0) (xs837) ((↑(List.length xs837) : Int)) (0) (n833) (xs834)
      (fun n846 n847 n848 xs849 => sel (decide (0 < remW n846 64))
       (sel (decide (0 ≤ quoW .i64 n846 64))
        (sel (decide (quoW .i64 n846 64 < (↑(List.length xs849) : Int)))
         (word_Rank (List.getD xs849 (Int.toNat (quoW .i64 n846 64)) 0) (remW n846 64)
          (fun n854 => K0 (addW .i64 n847 n854)))
         (none))
        (none))
       (K0 (n847)))))
     (none))
    (none)))
noncomputable def bits_Ones {R : Type} := shut (@bits_Ones_B R)
theorem bits_Ones_unf {R : Type} : @bits_Ones R = @bits_Ones_B R := shut_eq _

noncomputable def plain_ones_B {R : Type} (n828 : Int) (xs829 : List Int) (xs830 : List Int) (xs831 : List Int) (n832 : Int) (K0 : Int → Option R) : Option R :=
 sel (decide (quoW .i64 n832 64 = (↑(List.length xs831) : Int)))
  (bits_Ones (n828) (xs829) (n832)
   (fun n855 => K0 (n855)))
  (sel (decide (0 ≤ quoW .i64 (quoW .i64 n832 64) 8))
   (sel (decide (quoW .i64 (quoW .i64 n832 64) 8 < (↑(List.length xs830) : Int)))
    (sel (decide (0 ≤ quoW .i64 n832 64))
     (sel (decide (quoW .i64 n832 64 < (↑(List.length xs831) : Int)))
      (sel (decide (0 ≤ quoW .i64 n832 64))
       (sel (decide (quoW .i64 n832 64 < (↑(List.length xs829) : Int)))
        (word_Rank (List.getD xs829 (Int.toNat (quoW .i64 n832 64)) 0) (remW n832 64)
         (fun n856 => K0 (addW .i64 (addW .i64 (List.getD xs830 (Int.toNat (quoW .i64 (quoW .i64 n832 64) 8)) 0) (List.getD xs831 (Int.toNat (quoW .i64 n832 64)) 0)) n856)))
        (none))
       (none))
      (none))
     (none))
    (none))
   (none))
noncomputable def plain_ones {R : Type} := shut (@plain_ones_B R)
theorem plain_ones_unf {R : Type} : @plain_ones R = @plain_ones_B R := shut_eq _

noncomputable def plain_ahead_B {R : Type} (n822 : Int) (xs823 : List Int) (xs824 : List Int) (xs825 : List Int) (b826 : Bool) (n827 : Int) (K0 : Int → Option R) : Option R :=
 sel (b826)
  (plain_ones (n822) (xs823) (xs824) (xs825) (n827)
   (fun n857 => K0 (n857)))
  (plain_ones (n822) (xs823) (xs824) (xs825) (n827)
   (fun n858 => K0 (subW .i64 n827 n858)))
noncomputable def plain_ahead {R : Type} := shut (@plain_ahead_B R)
theorem plain_ahead_unf {R : Type} : @plain_ahead R = @plain_ahead_B R := shut_eq _

noncomputable def plain_Rank_j6_B {R : Type} (b816 : Bool) (n817 : Int) (n818 : Int) (xs819 : List Int) (xs820 : List Int) (xs821 : List Int) (K0 : Int → Int → Option R) : Option R :=
 plain_ahead (n818) (xs819) (xs820) (xs821) (b816) (n817)
  (fun n859 => K0 (n859) (0))
noncomputable def plain_Rank_j6 {R : Type} := shut (@plain_Rank_j6_B R)
theorem plain_Rank_j6_unf {R : Type} : @plain_Rank_j6 R = @plain_Rank_j6_B R := shut_eq _

noncomputable def plain_Rank_B {R : Type} (n809 : Int) (xs810 : List Int) (xs811 : List Int) (xs812 : List Int) (b813 : Bool) (n814 : Int) (K0 : Int → Int → Option R) : Option R :=
 plain_Check (n809) (xs810) (xs811) (xs812)
  (fun b815 => sel (!b815)
   (K0 (0) (2))
   (sel (decide (n814 < 0))
    (K0 (0) (3))
    (sel (decide (n809 < n814))
     (K0 (0) (3))
     (plain_Rank_j6 (b813) (n814) (n809) (xs810) (xs811) (xs812)
      (fun n860 n861 => K0 (n860) (n861))))))
noncomputable def plain_Rank {R : Type} := shut (@plain_Rank_B R)
theorem plain_Rank_unf {R : Type} : @plain_Rank R = @plain_Rank_B R := shut_eq _

noncomputable def plain_Select_l7_T {R : Type} (rec : Bool → Int → Int → Int → Int → List Int → List Int → List Int → Option R) (b878 : Bool) (n879 : Int) (n880 : Int) (n881 : Int) (n882 : Int) (xs883 : List Int) (xs884 : List Int) (xs885 : List Int) (K0 : Bool → Int → Int → Int → List Int → List Int → List Int → Option R) : Option R :=
 sel (decide (1 < subW .i64 n881 n880))
  (plain_ahead (n882) (xs883) (xs884) (xs885) (b878) (mulW .i64 (quoW .i64 (addW .i64 n880 n881) 2) 64)
   (fun n886 => sel (decide (n886 ≤ n879))
    (rec (b878) (n879) (quoW .i64 (addW .i64 n880 n881) 2) (n881) (n882) (xs883) (xs884) (xs885))
    (rec (b878) (n879) (n880) (quoW .i64 (addW .i64 n880 n881) 2) (n882) (xs883) (xs884) (xs885))))
  (K0 (b878) (n879) (n880) (n882) (xs883) (xs884) (xs885))
noncomputable def plain_Select_l7_L {R : Type} (K0 : Bool → Int → Int → Int → List Int → List Int → List Int → Option R) : Nat → Bool → Int → Int → Int → Int → List Int → List Int → List Int → Option R
  | 0, _, _, _, _, _, _, _, _ => none
  | N + 1, b878, n879, n880, n881, n882, xs883, xs884, xs885 => plain_Select_l7_T (plain_Select_l7_L K0 N) b878 n879 n880 n881 n882 xs883 xs884 xs885 K0
noncomputable def plain_Select_l7_B {R : Type} (b878 : Bool) (n879 : Int) (n880 : Int) (n881 : Int) (n882 : Int) (xs883 : List Int) (xs884 : List Int) (xs885 : List Int) (K0 : Bool → Int → Int → Int → List Int → List Int → List Int → Option R) : Option R :=
 plain_Select_l7_L K0 NR b878 n879 n880 n881 n882 xs883 xs884 xs885
noncomputable def plain_Select_l7 {R : Type} := shut (@plain_Select_l7_B R)
theorem plain_Select_l7_unf {R : Type} : @plain_Select_l7 R = @plain_Select_l7_B R := shut_eq _

noncomputable def word_Select_l5_T {R : Type} (rec : Int → Int → Int → Option R) (n908 : Int) (n909 : Int) (n910 : Int) (K0 : Int → Option R) : Option R :=
 sel (decide (n910 < n909))
  (rec (andW .u64 n908 (subW .u64 n908 1)) (n909) (addW .i64 n910 1))
  (K0 (n908))
noncomputable def word_Select_l5_L {R : Type} (K0 : Int → Option R) : Nat → Int → Int → Int → Option R
  | 0, _, _, _ => none
  | N + 1, n908, n909, n910 => word_Select_l5_T (word_Select_l5_L K0 N) n908 n909 n910 K0
noncomputable def word_Select_l5_B {R : Type} (n908 : Int) (n909 : Int) (n910 : Int) (K0 : Int → Option R) : Option R :=
 word_Select_l5_L K0 NR n908 n909 n910
noncomputable def word_Select_l5 {R : Type} := shut (@word_Select_l5_B R)
theorem word_Select_l5_unf {R : Type} : @word_Select_l5 R = @word_Select_l5_B R := shut_eq _

noncomputable def math_bits_TrailingZeros64_B {R : Type} (n912 : Int) (K0 : Int → Option R) : Option R :=
 sel (decide (n912 = 0))
  (K0 (64))
  (sel (decide (0 ≤ shrW .u64 (mulW .u64 (andW .u64 n912 (negW .u64 n912)) 285870213051353865) 58))
   (sel (decide (shrW .u64 (mulW .u64 (andW .u64 n912 (negW .u64 n912)) 285870213051353865) 58 < (↑64 : Int)))
    (K0 (cvtW .i64 (List.getD tzTab (Int.toNat (shrW .u64 (mulW .u64 (andW .u64 n912 (negW .u64 n912)) 285870213051353865) 58)) 0)))
    (none))
   (none))
noncomputable def math_bits_TrailingZeros64 {R : Type} := shut (@math_bits_TrailingZeros64_B R)
theorem math_bits_TrailingZeros64_unf {R : Type} : @math_bits_TrailingZeros64 R = @math_bits_TrailingZeros64_B R := shut_eq _

noncomputable def word_Select_j4_B {R : Type} (n906 : Int) (n907 : Int) (K0 : Int → Option R) : Option R :=
 word_Select_l5 (n906) (n907) (0)
  (fun n911 => math_bits_TrailingZeros64 (n911)
   (fun n913 => K0 (n913)))
noncomputable def word_Select_j4 {R : Type} := shut (@word_Select_j4_B R)
theorem word_Select_j4_unf {R : Type} : @word_Select_j4 R = @word_Select_j4_B R := shut_eq _

noncomputable def word_Select_B {R : Type} (n903 : Int) (n904 : Int) (K0 : Int → Option R) : Option R :=
 sel (decide (n904 < 0))
  (K0 (64))
  (word_Pop (n903)
   (fun n905 => sel (decide (n905 ≤ n904))
    (K0 (64))
    (word_Select_j4 (n903) (n904)
     (fun n914 => K0 (n914)))))
noncomputable def word_Select {R : Type} := shut (@word_Select_B R)
theorem word_Select_unf {R : Type} : @word_Select R = @word_Select_B R := shut_eq _

noncomputable def plain_Select_j15_B {R : Type} (b894 : Bool) (n895 : Int) (n896 : Int) (n897 : Int) (n898 : Int) (xs899 : List Int) (xs900 : List Int) (xs901 : List Int) (K0 : Int → Int → Option R) : Option R :=
 plain_ahead (n898) (xs899) (xs900) (xs901) (b894) (mulW .i64 n896 64)
  (fun n902 => word_Select (n897) (subW .i64 n895 n902)
   (fun n915 => K0 (addW .i64 (mulW .i64 n896 64) n915) (0)))
noncomputable def plain_Select_j15 {R : Type} := shut (@plain_Select_j15_B R)
theorem plain_Select_j15_unf {R : Type} : @plain_Select_j15 R = @plain_Select_j15_B R := shut_eq _

noncomputable def plain_Select_j6_B {R : Type} (b872 : Bool) (n873 : Int) (n874 : Int) (xs875 : List Int) (xs876 : List Int) (xs877 : List Int) (K0 : Int → Int → Option R) : Option R :=
 plain_Select_l7 (b872) (n873) (0) ((↑(List.length xs877) : Int)) (n874) (xs875) (xs876) (xs877)
  (fun b887 n888 n889 n890 xs891 xs892 xs893 => sel (decide (0 ≤ n889))
   (sel (decide (n889 < (↑(List.length xs891) : Int)))
    (sel (!b887)
     (plain_Select_j15 (b887) (n888) (n889) (notW .u64 (List.getD xs891 (Int.toNat n889) 0)) (n890) (xs891) (xs892) (xs893)
      (fun n916 n917 => K0 (n916) (n917)))
     (plain_Select_j15 (b887) (n888) (n889) (List.getD xs891 (Int.toNat n889) 0) (n890) (xs891) (xs892) (xs893)
      (fun n918 n919 => K0 (n918) (n919))))
    (none))
   (none))
noncomputable def plain_Select_j6 {R : Type} := shut (@plain_Select_j6_B R)
theorem plain_Select_j6_unf {R : Type} : @plain_Select_j6 R = @plain_Select_j6_B R := shut_eq _

noncomputable def plain_Select_B {R : Type} (n864 : Int) (xs865 : List Int) (xs866 : List Int) (xs867 : List Int) (b868 : Bool) (n869 : Int) (K0 : Int → Int → Option R) : Option R :=
 plain_Check (n864) (xs865) (xs866) (xs867)
  (fun b870 => sel (!b870)
   (K0 (0) (2))
   (sel (decide (n869 < 0))
    (K0 (0) (3))
    (plain_ahead (n864) (xs865) (xs866) (xs867) (b868) (n864)
     (fun n871 => sel (decide (n871 ≤ n869))
      (K0 (0) (3))
      (plain_Select_j6 (b868) (n869) (n864) (xs865) (xs866) (xs867)
       (fun n920 n921 => K0 (n920) (n921)))))))
noncomputable def plain_Select {R : Type} := shut (@plain_Select_B R)
theorem plain_Select_unf {R : Type} : @plain_Select R = @plain_Select_B R := shut_eq _

noncomputable def plain_Size_B {R : Type} (n934 : Int) (xs935 : List Int) (xs936 : List Int) (xs937 : List Int) (K0 : Int → Option R) : Option R :=
 plain_Check (n934) (xs935) (xs936) (xs937)
  (fun b938 => sel (!b938)
   (K0 (0))
   (K0 (addW .i64 (addW .i64 n934 (mulW .i64 32 (↑(List.length xs936) : Int))) (mulW .i64 16 (↑(List.length xs937) : Int)))))
noncomputable def plain_Size {R : Type} := shut (@plain_Size_B R)
theorem plain_Size_unf {R : Type} : @plain_Size R = @plain_Size_B R := shut_eq _

noncomputable def plain_Bits_B {R : Type} (n940 : Int) (xs941 : List Int) (xs942 : List Int) (xs943 : List Int) (K0 : Int → List Int → Option R) : Option R :=
 plain_Check (n940) (xs941) (xs942) (xs943)
  (fun b944 => sel (!b944)
   (K0 (0) ([]))
   (K0 (n940) (xs941)))
noncomputable def plain_Bits {R : Type} := shut (@plain_Bits_B R)
theorem plain_Bits_unf {R : Type} : @plain_Bits R = @plain_Bits_B R := shut_eq _

noncomputable def haystackref02_Same_l5_T {R : Type} (rec : Int → List Int → Int → List Int → Int → Nat → Option R) (n957 : Int) (xs958 : List Int) (n959 : Int) (xs960 : List Int) (n961 : Int) (l962 : Nat) (K0 : Bool → List Int → Option R) (K1 : List Int → Option R) : Option R :=
 sel (decide (n957 < (↑(List.length xs960) : Int)))
  (sel (decide (0 ≤ n957))
   (sel (decide (n957 < (↑(List.length xs960) : Int)))
    (sel (decide (0 ≤ n957))
     (sel (decide (n957 < (↑l962 : Int)))
      (sel (decide (Int.toNat n957 < List.length xs958))
       (sel (!decide (List.getD xs960 (Int.toNat n957) 0 = List.getD xs958 (Int.toNat n957) 0))
        (K0 (false) (xs958))
        (rec (addW .i64 n957 1) (xs958) (n959) (xs960) (n961) (l962)))
       (none))
      (none))
     (none))
    (none))
   (none))
  (K1 (xs958))
noncomputable def haystackref02_Same_l5_L {R : Type} (K0 : Bool → List Int → Option R) (K1 : List Int → Option R) : Nat → Int → List Int → Int → List Int → Int → Nat → Option R
  | 0, _, _, _, _, _, _ => none
  | N + 1, n957, xs958, n959, xs960, n961, l962 => haystackref02_Same_l5_T (haystackref02_Same_l5_L K0 K1 N) n957 xs958 n959 xs960 n961 l962 K0 K1
noncomputable def haystackref02_Same_l5_B {R : Type} (n957 : Int) (xs958 : List Int) (n959 : Int) (xs960 : List Int) (n961 : Int) (l962 : Nat) (K0 : Bool → List Int → Option R) (K1 : List Int → Option R) : Option R :=
 haystackref02_Same_l5_L K0 K1 NR n957 xs958 n959 xs960 n961 l962
noncomputable def haystackref02_Same_l5 {R : Type} := shut (@haystackref02_Same_l5_B R)
theorem haystackref02_Same_l5_unf {R : Type} : @haystackref02_Same_l5 R = @haystackref02_Same_l5_B R := shut_eq _

noncomputable def haystackref02_Same_j4_B {R : Type} (xs952 : List Int) (n953 : Int) (xs954 : List Int) (n955 : Int) (l956 : Nat) (K0 : Bool → List Int → Option R) : Option R :=
 haystackref02_Same_l5 (0) (xs952) (n953) (xs954) (n955) (l956)
  (fun b963 xs964 => K0 (b963) (xs964))
  (fun xs965 => K0 (true) (xs965))
noncomputable def haystackref02_Same_j4 {R : Type} := shut (@haystackref02_Same_j4_B R)
theorem haystackref02_Same_j4_unf {R : Type} : @haystackref02_Same_j4 R = @haystackref02_Same_j4_B R := shut_eq _

noncomputable def haystackref02_Same_r_B {R : Type} (n947 : Int) (xs948 : List Int) (n949 : Int) (l950 : Nat) (xs951 : List Int) (K0 : Bool → List Int → Option R) : Option R :=
 sel (!decide (n947 = n949))
  (K0 (false) (xs951))
  (sel (!decide ((↑(List.length xs948) : Int) = (↑l950 : Int)))
   (K0 (false) (xs951))
   (haystackref02_Same_j4 (xs951) (n947) (xs948) (n949) (l950)
    (fun b966 xs967 => K0 (b966) (xs967))))
noncomputable def haystackref02_Same_r {R : Type} := shut (@haystackref02_Same_r_B R)
theorem haystackref02_Same_r_unf {R : Type} : @haystackref02_Same_r R = @haystackref02_Same_r_B R := shut_eq _

noncomputable def haystacklaw07_heads_j4_B {R : Type} (n805 : Int) (b806 : Bool) (n807 : Int) (n808 : Int) (K0 : Bool → Option R) : Option R :=
 plain_Rank (n808) ([]) ([]) ([]) (true) (4)
  (fun n862 n863 => plain_Select (n808) ([]) ([]) ([]) (true) (2)
   (fun n922 n923 => plain_Select (n808) ([]) ([]) ([]) (false) (1)
    (fun n924 n925 => plain_Select (n808) ([]) ([]) ([]) (true) (3)
     (fun n926 n927 => plain_Build (1) ([])
      (fun n928 xs929 xs930 xs931 n932 => sel (decide (n805 = 0))
       (sel (b806)
        (sel (decide (n807 = 0))
         (sel (decide (n862 = 2))
          (sel (decide (n863 = 0))
           (sel (decide (n922 = 4))
            (sel (decide (n923 = 0))
             (sel (decide (n924 = 3))
              (sel (decide (n925 = 0))
               (sel (decide (n927 = 3))
                (sel (decide (n932 = 2))
                 (plain_Check (n808) ([]) ([]) ([])
                  (fun b933 => sel (b933)
                   (plain_Size (n808) ([]) ([]) ([])
                    (fun n939 => sel (decide (0 < n939))
                     (plain_Bits (n808) ([]) ([]) ([])
                      (fun n945 xs946 => haystackref02_Same_r (n945) (xs946) (5) (1) ([22])
                       (fun b968 xs969 => K0 (b968))))
                     (none)))
                   (none)))
                 (none))
                (none))
               (none))
              (none))
             (none))
            (none))
           (none))
          (none))
         (none))
        (none))
       (none))))))
noncomputable def haystacklaw07_heads_j4 {R : Type} := shut (@haystacklaw07_heads_j4_B R)
theorem haystacklaw07_heads_j4_unf {R : Type} : @haystacklaw07_heads_j4 R = @haystacklaw07_heads_j4_B R := shut_eq _

noncomputable def haystacklaw07_heads_j4_1_B {R : Type} (n981 : Int) (b982 : Bool) (n983 : Int) (n984 : Int) (xs985 : List Int) (xs986 : List Int) (xs987 : List Int) (K0 : Bool → Option R) : Option R :=
 plain_Rank (n984) (xs985) (xs986) (xs987) (true) (4)
  (fun n988 n989 => plain_Select (n984) (xs985) (xs986) (xs987) (true) (2)
   (fun n990 n991 => plain_Select (n984) (xs985) (xs986) (xs987) (false) (1)
    (fun n992 n993 => plain_Select (n984) (xs985) (xs986) (xs987) (true) (3)
     (fun n994 n995 => plain_Build (1) ([])
      (fun n996 xs997 xs998 xs999 n1000 => sel (decide (n981 = 0))
       (sel (b982)
        (sel (decide (n983 = 0))
         (sel (decide (n988 = 2))
          (sel (decide (n989 = 0))
           (sel (decide (n990 = 4))
            (sel (decide (n991 = 0))
             (sel (decide (n992 = 3))
              (sel (decide (n993 = 0))
               (sel (decide (n995 = 3))
                (sel (decide (n1000 = 2))
                 (plain_Check (n984) (xs985) (xs986) (xs987)
                  (fun b1001 => sel (b1001)
                   (plain_Size (n984) (xs985) (xs986) (xs987)
                    (fun n1002 => sel (decide (0 < n1002))
                     (plain_Bits (n984) (xs985) (xs986) (xs987)
                      (fun n1003 xs1004 => haystackref02_Same_r (n1003) (xs1004) (5) (1) ([22])
                       (fun b1005 xs1006 => K0 (b1005))))
                     (none)))
                   (none)))
                 (none))
                (none))
               (none))
              (none))
             (none))
            (none))
           (none))
          (none))
         (none))
        (none))
       (none))))))
noncomputable def haystacklaw07_heads_j4_1 {R : Type} := shut (@haystacklaw07_heads_j4_1_B R)
theorem haystacklaw07_heads_j4_1_unf {R : Type} : @haystacklaw07_heads_j4_1 R = @haystacklaw07_heads_j4_1_B R := shut_eq _

noncomputable def haystacklaw07_heads_j4_2_B {R : Type} (n1016 : Int) (b1017 : Bool) (n1018 : Int) (n1019 : Int) (xs1020 : List Int) (xs1021 : List Int) (K0 : Bool → Option R) : Option R :=
 plain_Rank (n1019) (xs1020) (xs1021) ([]) (true) (4)
  (fun n1022 n1023 => plain_Select (n1019) (xs1020) (xs1021) ([]) (true) (2)
   (fun n1024 n1025 => plain_Select (n1019) (xs1020) (xs1021) ([]) (false) (1)
    (fun n1026 n1027 => plain_Select (n1019) (xs1020) (xs1021) ([]) (true) (3)
     (fun n1028 n1029 => plain_Build (1) ([])
      (fun n1030 xs1031 xs1032 xs1033 n1034 => sel (decide (n1016 = 0))
       (sel (b1017)
        (sel (decide (n1018 = 0))
         (sel (decide (n1022 = 2))
          (sel (decide (n1023 = 0))
           (sel (decide (n1024 = 4))
            (sel (decide (n1025 = 0))
             (sel (decide (n1026 = 3))
              (sel (decide (n1027 = 0))
               (sel (decide (n1029 = 3))
                (sel (decide (n1034 = 2))
                 (plain_Check (n1019) (xs1020) (xs1021) ([])
                  (fun b1035 => sel (b1035)
                   (plain_Size (n1019) (xs1020) (xs1021) ([])
                    (fun n1036 => sel (decide (0 < n1036))
                     (plain_Bits (n1019) (xs1020) (xs1021) ([])
                      (fun n1037 xs1038 => haystackref02_Same_r (n1037) (xs1038) (5) (1) ([22])
                       (fun b1039 xs1040 => K0 (b1039))))
                     (none)))
                   (none)))
                 (none))
                (none))
               (none))
              (none))
             (none))
            (none))
           (none))
          (none))
         (none))
        (none))
       (none))))))
noncomputable def haystacklaw07_heads_j4_2 {R : Type} := shut (@haystacklaw07_heads_j4_2_B R)
theorem haystacklaw07_heads_j4_2_unf {R : Type} : @haystacklaw07_heads_j4_2 R = @haystacklaw07_heads_j4_2_B R := shut_eq _

noncomputable def haystacklaw07_heads_j4_3_B {R : Type} (n1048 : Int) (b1049 : Bool) (n1050 : Int) (n1051 : Int) (xs1052 : List Int) (K0 : Bool → Option R) : Option R :=
 plain_Rank (n1051) (xs1052) ([]) ([]) (true) (4)
  (fun n1053 n1054 => plain_Select (n1051) (xs1052) ([]) ([]) (true) (2)
   (fun n1055 n1056 => plain_Select (n1051) (xs1052) ([]) ([]) (false) (1)
    (fun n1057 n1058 => plain_Select (n1051) (xs1052) ([]) ([]) (true) (3)
     (fun n1059 n1060 => plain_Build (1) ([])
      (fun n1061 xs1062 xs1063 xs1064 n1065 => sel (decide (n1048 = 0))
       (sel (b1049)
        (sel (decide (n1050 = 0))
         (sel (decide (n1053 = 2))
          (sel (decide (n1054 = 0))
           (sel (decide (n1055 = 4))
            (sel (decide (n1056 = 0))
             (sel (decide (n1057 = 3))
              (sel (decide (n1058 = 0))
               (sel (decide (n1060 = 3))
                (sel (decide (n1065 = 2))
                 (plain_Check (n1051) (xs1052) ([]) ([])
                  (fun b1066 => sel (b1066)
                   (plain_Size (n1051) (xs1052) ([]) ([])
                    (fun n1067 => sel (decide (0 < n1067))
                     (plain_Bits (n1051) (xs1052) ([]) ([])
                      (fun n1068 xs1069 => haystackref02_Same_r (n1068) (xs1069) (5) (1) ([22])
                       (fun b1070 xs1071 => K0 (b1070))))
                     (none)))
                   (none)))
                 (none))
                (none))
               (none))
              (none))
             (none))
            (none))
           (none))
          (none))
         (none))
        (none))
       (none))))))
noncomputable def haystacklaw07_heads_j4_3 {R : Type} := shut (@haystacklaw07_heads_j4_3_B R)
theorem haystacklaw07_heads_j4_3_unf {R : Type} : @haystacklaw07_heads_j4_3 R = @haystacklaw07_heads_j4_3_B R := shut_eq _

noncomputable def haystacklaw07_heads_B {R : Type} (K0 : Bool → Option R) : Option R :=
 plain_Build_r (5) (1) ([22])
  (fun n406 n407 xs408 => plain_Access (n406) ([]) ([]) ([]) (4)
   (fun b803 n804 => haystacklaw07_heads_j4 (n407) (b803) (n804) (n406)
    (fun b970 => K0 (b970))))
  (fun n971 l972 l973 l974 n975 xs976 xs977 xs978 => sel (decide (l972 = List.length xs976))
   (sel (decide (l973 = List.length xs977))
    (sel (decide (l974 = List.length xs978))
     (plain_Access (n971) (xs976) (xs977) (xs978) (4)
      (fun b979 n980 => haystacklaw07_heads_j4_1 (n975) (b979) (n980) (n971) (xs976) (xs977) (xs978)
       (fun b1007 => K0 (b1007))))
     (none))
    (none))
   (none))
  (fun n1008 l1009 l1010 n1011 xs1012 xs1013 => sel (decide (l1009 = List.length xs1012))
   (sel (decide (l1010 = List.length xs1013))
    (plain_Access (n1008) (xs1012) (xs1013) ([]) (4)
     (fun b1014 n1015 => haystacklaw07_heads_j4_2 (n1011) (b1014) (n1015) (n1008) (xs1012) (xs1013)
      (fun b1041 => K0 (b1041))))
    (none))
   (none))
  (fun n1042 l1043 n1044 xs1045 => sel (decide (l1043 = List.length xs1045))
   (plain_Access (n1042) (xs1045) ([]) ([]) (4)
    (fun b1046 n1047 => haystacklaw07_heads_j4_3 (n1044) (b1046) (n1047) (n1042) (xs1045)
     (fun b1072 => K0 (b1072))))
   (none))
noncomputable def haystacklaw07_heads {R : Type} := shut (@haystacklaw07_heads_B R)
theorem haystacklaw07_heads_unf {R : Type} : @haystacklaw07_heads R = @haystacklaw07_heads_B R := shut_eq _

noncomputable def haystackref02_Words_B {R : Type} (n1077 : Int) (K0 : Int → Option R) : Option R :=
 K0 (quoW .i64 (addW .i64 n1077 63) 64)
noncomputable def haystackref02_Words {R : Type} := shut (@haystackref02_Words_B R)
theorem haystackref02_Words_unf {R : Type} : @haystackref02_Words R = @haystackref02_Words_B R := shut_eq _

noncomputable def haystackref01_Mask_j6_B {R : Type} (n1085 : Int) (n1086 : Int) (n1087 : Int) (K0 : Int → Int → Int → Option R) : Option R :=
 sel (decide (0 ≤ cvtW .u64 n1087))
  (K0 (n1085) (orW .u64 n1086 (shlW .u64 1 (cvtW .u64 n1087))) (addW .i64 n1087 1))
  (none)
noncomputable def haystackref01_Mask_j6 {R : Type} := shut (@haystackref01_Mask_j6_B R)
theorem haystackref01_Mask_j6_unf {R : Type} : @haystackref01_Mask_j6 R = @haystackref01_Mask_j6_B R := shut_eq _

noncomputable def haystackref01_Mask_l4_T {R : Type} (rec : Int → Int → Int → Option R) (n1082 : Int) (n1083 : Int) (n1084 : Int) (K0 : Int → Option R) : Option R :=
 sel (decide (n1084 < 64))
  (sel (decide (n1084 < n1082))
   (haystackref01_Mask_j6 (n1082) (n1083) (n1084)
    (fun n1088 n1089 n1090 => rec (n1088) (n1089) (n1090)))
   (K0 (n1083)))
  (K0 (n1083))
noncomputable def haystackref01_Mask_l4_L {R : Type} (K0 : Int → Option R) : Nat → Int → Int → Int → Option R
  | 0, _, _, _ => none
  | N + 1, n1082, n1083, n1084 => haystackref01_Mask_l4_T (haystackref01_Mask_l4_L K0 N) n1082 n1083 n1084 K0
noncomputable def haystackref01_Mask_l4_B {R : Type} (n1082 : Int) (n1083 : Int) (n1084 : Int) (K0 : Int → Option R) : Option R :=
 haystackref01_Mask_l4_L K0 NR n1082 n1083 n1084
noncomputable def haystackref01_Mask_l4 {R : Type} := shut (@haystackref01_Mask_l4_B R)
theorem haystackref01_Mask_l4_unf {R : Type} : @haystackref01_Mask_l4 R = @haystackref01_Mask_l4_B R := shut_eq _

noncomputable def haystackref01_Mask_B {R : Type} (n1081 : Int) (K0 : Int → Option R) : Option R :=
 haystackref01_Mask_l4 (n1081) (0) (0)
  (fun n1091 => K0 (n1091))
noncomputable def haystackref01_Mask {R : Type} := shut (@haystackref01_Mask_B R)
theorem haystackref01_Mask_unf {R : Type} : @haystackref01_Mask R = @haystackref01_Mask_B R := shut_eq _

noncomputable def haystackref02_Check_j4_B {R : Type} (n1079 : Int) (xs1080 : List Int) (K0 : Bool → Option R) : Option R :=
 sel (decide (remW n1079 64 = 0))
  (K0 (true))
  (sel (decide (0 ≤ subW .i64 (↑(List.length xs1080) : Int) 1))
   (sel (decide (subW .i64 (↑(List.length xs1080) : Int) 1 < (↑(List.length xs1080) : Int)))
    (haystackref01_Mask (remW n1079 64)
     (fun n1092 => letV (decide (andNotW .u64 (List.getD xs1080 (Int.toNat (subW .i64 (↑(List.length xs1080) : Int) 1)) 0) n1092 = 0)) (fun (b1093 : Bool) =>
     K0 (b1093))))
    (none))
   (none))
noncomputable def haystackref02_Check_j4 {R : Type} := shut (@haystackref02_Check_j4_B R)
theorem haystackref02_Check_j4_unf {R : Type} : @haystackref02_Check_j4 R = @haystackref02_Check_j4_B R := shut_eq _

noncomputable def haystackref02_Check_B {R : Type} (n1075 : Int) (xs1076 : List Int) (K0 : Bool → Option R) : Option R :=
 sel (decide (n1075 < 0))
  (K0 (false))
  (sel (decide (1048576 < n1075))
   (K0 (false))
   (haystackref02_Words (n1075)
    (fun n1078 => sel (!decide ((↑(List.length xs1076) : Int) = n1078))
     (K0 (false))
     (haystackref02_Check_j4 (n1075) (xs1076)
      (fun b1094 => K0 (b1094))))))
noncomputable def haystackref02_Check {R : Type} := shut (@haystackref02_Check_B R)
theorem haystackref02_Check_unf {R : Type} : @haystackref02_Check R = @haystackref02_Check_B R := shut_eq _

noncomputable def haystacklaw07_PlainCounts_j4_B {R : Type} (n1099 : Int) (n1100 : Int) (xs1101 : List Int) (K0 : Bool → Option R) : Option R :=
 plain_Build (n1100) (xs1101)
  (fun n1102 xs1103 xs1104 xs1105 n1106 => plain_Rank (n1102) (xs1103) (xs1104) (xs1105) (true) (n1099)
   (fun n1107 n1108 => plain_Rank (n1102) (xs1103) (xs1104) (xs1105) (false) (n1099)
    (fun n1109 n1110 => plain_Rank (n1102) (xs1103) (xs1104) (xs1105) (true) (addW .i64 n1099 1)
     (fun n1111 n1112 => plain_Access (n1102) (xs1103) (xs1104) (xs1105) (n1099)
      (fun b1113 n1114 => sel (decide (n1106 = 0))
       (sel (decide (n1108 = 0))
        (sel (decide (n1110 = 0))
         (sel (decide (n1112 = 0))
          (sel (decide (n1114 = 0))
           (sel (decide (addW .i64 n1107 n1109 = n1099))
            (sel (decide (n1111 = addW .i64 n1107 1) == b1113)
             (sel (decide (n1111 = n1107) == !b1113)
              (haystacklaw07_heads 
               (fun b1115 => K0 (b1115)))
              (K0 (false)))
             (K0 (false)))
            (K0 (false)))
           (K0 (false)))
          (K0 (false)))
         (K0 (false)))
        (K0 (false)))
       (K0 (false)))))))
noncomputable def haystacklaw07_PlainCounts_j4 {R : Type} := shut (@haystacklaw07_PlainCounts_j4_B R)
theorem haystacklaw07_PlainCounts_j4_unf {R : Type} : @haystacklaw07_PlainCounts_j4 R = @haystacklaw07_PlainCounts_j4_B R := shut_eq _

noncomputable def haystacklaw07_PlainCounts_B {R : Type} (n0 : Int) (xs1 : List Int) (n2 : Int) (K0 : Bool → Option R) : Option R :=
 sel (decide (3000 < n0))
  (haystacklaw07_heads 
   (fun b1073 => K0 (b1073)))
  (sel (decide (3000 < (↑(List.length xs1) : Int)))
   (haystacklaw07_heads 
    (fun b1074 => K0 (b1074)))
   (haystackref02_Check (n0) (xs1)
    (fun b1095 => sel (!b1095)
     (haystacklaw07_heads 
      (fun b1096 => K0 (b1096)))
     (sel (decide (n2 < 0))
      (haystacklaw07_heads 
       (fun b1097 => K0 (b1097)))
      (sel (decide (n0 ≤ n2))
       (haystacklaw07_heads 
        (fun b1098 => K0 (b1098)))
       (haystacklaw07_PlainCounts_j4 (n2) (n0) (xs1)
        (fun b1116 => K0 (b1116))))))))
noncomputable def haystacklaw07_PlainCounts {R : Type} := shut (@haystacklaw07_PlainCounts_B R)
theorem haystacklaw07_PlainCounts_unf {R : Type} : @haystacklaw07_PlainCounts R = @haystacklaw07_PlainCounts_B R := shut_eq _

noncomputable def haystackref02_At_B {R : Type} (_n1151 : Int) (xs1152 : List Int) (n1153 : Int) (K0 : Bool → Option R) : Option R :=
 sel (decide (0 ≤ quoW .i64 n1153 64))
  (sel (decide (quoW .i64 n1153 64 < (↑(List.length xs1152) : Int)))
   (sel (decide (0 ≤ cvtW .u64 (remW n1153 64)))
    (letV (decide (remW (shrW .u64 (List.getD xs1152 (Int.toNat (quoW .i64 n1153 64)) 0) (cvtW .u64 (remW n1153 64))) 2 = 1)) (fun (b1154 : Bool) =>
    K0 (b1154)))
    (none))
   (none))
  (none)
noncomputable def haystackref02_At {R : Type} := shut (@haystackref02_At_B R)
theorem haystackref02_At_unf {R : Type} : @haystackref02_At R = @haystackref02_At_B R := shut_eq _

noncomputable def haystackref02_Ones_j6_B {R : Type} (n1146 : Int) (n1147 : Int) (n1148 : Int) (n1149 : Int) (xs1150 : List Int) (K0 : Int → Int → Int → Int → List Int → Option R) : Option R :=
 haystackref02_At (n1149) (xs1150) (n1148)
  (fun b1155 => sel (b1155)
   (K0 (n1146) (addW .i64 n1147 1) (addW .i64 n1148 1) (n1149) (xs1150))
   (K0 (n1146) (n1147) (addW .i64 n1148 1) (n1149) (xs1150)))
noncomputable def haystackref02_Ones_j6 {R : Type} := shut (@haystackref02_Ones_j6_B R)
theorem haystackref02_Ones_j6_unf {R : Type} : @haystackref02_Ones_j6 R = @haystackref02_Ones_j6_B R := shut_eq _

noncomputable def haystackref02_Ones_l4_T {R : Type} (rec : Int → Int → Int → Int → List Int → Option R) (n1140 : Int) (n1141 : Int) (n1142 : Int) (n1143 : Int) (xs1144 : List Int) (K0 : Int → Option R) : Option R :=
 sel (decide (n1142 < n1140))
  (sel (decide (n1142 < n1143))
   (haystackref02_Check (n1143) (xs1144)
    (fun b1145 => sel (b1145)
     (haystackref02_Ones_j6 (n1140) (n1141) (n1142) (n1143) (xs1144)
      (fun n1156 n1157 n1158 n1159 xs1160 => rec (n1156) (n1157) (n1158) (n1159) (xs1160)))
     (K0 (n1141))))
   (K0 (n1141)))
  (K0 (n1141))
noncomputable def haystackref02_Ones_l4_L {R : Type} (K0 : Int → Option R) : Nat → Int → Int → Int → Int → List Int → Option R
  | 0, _, _, _, _, _ => none
  | N + 1, n1140, n1141, n1142, n1143, xs1144 => haystackref02_Ones_l4_T (haystackref02_Ones_l4_L K0 N) n1140 n1141 n1142 n1143 xs1144 K0
noncomputable def haystackref02_Ones_l4_B {R : Type} (n1140 : Int) (n1141 : Int) (n1142 : Int) (n1143 : Int) (xs1144 : List Int) (K0 : Int → Option R) : Option R :=
 haystackref02_Ones_l4_L K0 NR n1140 n1141 n1142 n1143 xs1144
noncomputable def haystackref02_Ones_l4 {R : Type} := shut (@haystackref02_Ones_l4_B R)
theorem haystackref02_Ones_l4_unf {R : Type} : @haystackref02_Ones_l4 R = @haystackref02_Ones_l4_B R := shut_eq _

noncomputable def haystackref02_Ones_B {R : Type} (n1137 : Int) (xs1138 : List Int) (n1139 : Int) (K0 : Int → Option R) : Option R :=
 haystackref02_Ones_l4 (n1139) (0) (0) (n1137) (xs1138)
  (fun n1161 => K0 (n1161))
noncomputable def haystackref02_Ones {R : Type} := shut (@haystackref02_Ones_B R)
theorem haystackref02_Ones_unf {R : Type} : @haystackref02_Ones R = @haystackref02_Ones_B R := shut_eq _

noncomputable def haystackref07_Build_l6_1_T {R : Type} (rec : Int → Int → List Int → Int → Int → List Int → Nat → List Int → Option R) (n1164 : Int) (n1165 : Int) (xs1166 : List Int) (n1167 : Int) (n1168 : Int) (xs1169 : List Int) (l1170 : Nat) (xs1171 : List Int) (K0 : Int → List Int → Int → Int → List Int → Nat → List Int → Option R) : Option R :=
 sel (decide (n1164 ≤ quoW .i64 n1165 512))
  (haystackref02_Ones (n1165) (xs1166) (mulW .i64 512 n1164)
   (fun n1172 => letV ([n1172]) (fun (xs1173 : List Int) =>
   sel (decide (1 = List.length xs1173))
    (sel (decide (List.length xs1171 = l1170))
     (sel (decide ((l1170 + 1) * 8 ≤ 140737488355328))
      (letV (xs1171 ++ xs1173) (fun (xs1174 : List Int) =>
      rec (addW .i64 n1164 1) (n1165) (xs1166) (n1167) (n1168) (xs1169) (l1170 + 1) (xs1174)))
      (none))
     (none))
    (sel (decide (0 + 1 ≤ List.length xs1173))
     (sel (decide (List.length xs1171 = l1170))
      (sel (decide ((l1170 + 1) * 8 ≤ 140737488355328))
       (letV (xs1171 ++ List.take 1 (List.drop 0 xs1173)) (fun (xs1175 : List Int) =>
       rec (addW .i64 n1164 1) (n1165) (xs1166) (n1167) (n1168) (xs1169) (l1170 + 1) (xs1175)))
       (none))
      (none))
     (none)))))
  (K0 (n1165) (xs1166) (n1167) (n1168) (xs1169) (l1170) (xs1171))
noncomputable def haystackref07_Build_l6_1_L {R : Type} (K0 : Int → List Int → Int → Int → List Int → Nat → List Int → Option R) : Nat → Int → Int → List Int → Int → Int → List Int → Nat → List Int → Option R
  | 0, _, _, _, _, _, _, _, _ => none
  | N + 1, n1164, n1165, xs1166, n1167, n1168, xs1169, l1170, xs1171 => haystackref07_Build_l6_1_T (haystackref07_Build_l6_1_L K0 N) n1164 n1165 xs1166 n1167 n1168 xs1169 l1170 xs1171 K0
noncomputable def haystackref07_Build_l6_1_B {R : Type} (n1164 : Int) (n1165 : Int) (xs1166 : List Int) (n1167 : Int) (n1168 : Int) (xs1169 : List Int) (l1170 : Nat) (xs1171 : List Int) (K0 : Int → List Int → Int → Int → List Int → Nat → List Int → Option R) : Option R :=
 haystackref07_Build_l6_1_L K0 NR n1164 n1165 xs1166 n1167 n1168 xs1169 l1170 xs1171
noncomputable def haystackref07_Build_l6_1 {R : Type} := shut (@haystackref07_Build_l6_1_B R)
theorem haystackref07_Build_l6_1_unf {R : Type} : @haystackref07_Build_l6_1 R = @haystackref07_Build_l6_1_B R := shut_eq _

noncomputable def haystackref07_Build_l6_T {R : Type} (rec : Int → Int → List Int → Int → Int → List Int → Option R) (rec0 : Int → Int → List Int → Int → Int → List Int → Nat → List Int → Option R) (n1131 : Int) (n1132 : Int) (xs1133 : List Int) (n1134 : Int) (n1135 : Int) (xs1136 : List Int) (K0 : Int → List Int → Int → Int → List Int → Nat → List Int → Option R) (K1 : Int → List Int → Int → Int → List Int → Option R) : Option R :=
 sel (decide (n1131 ≤ quoW .i64 n1132 512))
  (haystackref02_Ones (n1132) (xs1133) (mulW .i64 512 n1131)
   (fun n1162 => letV ([n1162]) (fun (xs1163 : List Int) =>
   sel (decide (1 = List.length xs1163))
    (rec0 (addW .i64 n1131 1) (n1132) (xs1133) (n1134) (n1135) (xs1136) (1) (xs1163))
    (sel (decide (0 + 1 ≤ List.length xs1163))
     (letV (List.take 1 (List.drop 0 xs1163)) (fun (xs1176 : List Int) =>
     rec0 (addW .i64 n1131 1) (n1132) (xs1133) (n1134) (n1135) (xs1136) (1) (xs1176)))
     (none)))))
  (K1 (n1132) (xs1133) (n1134) (n1135) (xs1136))
noncomputable def haystackref07_Build_l6_L {R : Type} (K0 : Int → List Int → Int → Int → List Int → Nat → List Int → Option R) (K1 : Int → List Int → Int → Int → List Int → Option R) : Nat → Int → Int → List Int → Int → Int → List Int → Option R
  | 0, _, _, _, _, _, _ => none
  | N + 1, n1131, n1132, xs1133, n1134, n1135, xs1136 => haystackref07_Build_l6_T (haystackref07_Build_l6_L K0 K1 N) (haystackref07_Build_l6_1_L K0 N) n1131 n1132 xs1133 n1134 n1135 xs1136 K0 K1
noncomputable def haystackref07_Build_l6_B {R : Type} (n1131 : Int) (n1132 : Int) (xs1133 : List Int) (n1134 : Int) (n1135 : Int) (xs1136 : List Int) (K0 : Int → List Int → Int → Int → List Int → Nat → List Int → Option R) (K1 : Int → List Int → Int → Int → List Int → Option R) : Option R :=
 haystackref07_Build_l6_L K0 K1 NR n1131 n1132 xs1133 n1134 n1135 xs1136
noncomputable def haystackref07_Build_l6 {R : Type} := shut (@haystackref07_Build_l6_B R)
theorem haystackref07_Build_l6_unf {R : Type} : @haystackref07_Build_l6 R = @haystackref07_Build_l6_B R := shut_eq _

noncomputable def haystackref07_Build_l10_1_T {R : Type} (rec : Int → Int → List Int → Int → Int → List Int → Nat → Nat → List Int → List Int → Option R) (n1194 : Int) (n1195 : Int) (xs1196 : List Int) (n1197 : Int) (n1198 : Int) (xs1199 : List Int) (l1200 : Nat) (l1201 : Nat) (xs1202 : List Int) (xs1203 : List Int) (K0 : Int → Int → List Int → Nat → Nat → List Int → List Int → Option R) : Option R :=
 sel (decide (n1194 < (↑(List.length xs1196) : Int)))
  (haystackref02_Ones (n1195) (xs1196) (mulW .i64 64 n1194)
   (fun n1204 => sel (decide (0 ≤ quoW .i64 n1194 8))
    (sel (decide (quoW .i64 n1194 8 < (↑l1200 : Int)))
     (sel (decide (Int.toNat (quoW .i64 n1194 8) < List.length xs1202))
      (letV ([subW .i64 n1204 (List.getD xs1202 (Int.toNat (quoW .i64 n1194 8)) 0)]) (fun (xs1205 : List Int) =>
      sel (decide (1 = List.length xs1205))
       (sel (decide (List.length xs1203 = l1201))
        (sel (decide ((l1201 + 1) * 8 ≤ 140737488355328))
         (letV (xs1203 ++ xs1205) (fun (xs1206 : List Int) =>
         rec (addW .i64 n1194 1) (n1195) (xs1196) (n1197) (n1198) (xs1199) (l1200) (l1201 + 1) (xs1202) (xs1206)))
         (none))
        (none))
       (sel (decide (0 + 1 ≤ List.length xs1205))
        (sel (decide (List.length xs1203 = l1201))
         (sel (decide ((l1201 + 1) * 8 ≤ 140737488355328))
          (letV (xs1203 ++ List.take 1 (List.drop 0 xs1205)) (fun (xs1207 : List Int) =>
          rec (addW .i64 n1194 1) (n1195) (xs1196) (n1197) (n1198) (xs1199) (l1200) (l1201 + 1) (xs1202) (xs1207)))
          (none))
         (none))
        (none))))
      (none))
     (none))
    (none)))
  (K0 (n1197) (n1198) (xs1199) (l1200) (l1201) (xs1202) (xs1203))
noncomputable def haystackref07_Build_l10_1_L {R : Type} (K0 : Int → Int → List Int → Nat → Nat → List Int → List Int → Option R) : Nat → Int → Int → List Int → Int → Int → List Int → Nat → Nat → List Int → List Int → Option R
  | 0, _, _, _, _, _, _, _, _, _, _ => none
  | N + 1, n1194, n1195, xs1196, n1197, n1198, xs1199, l1200, l1201, xs1202, xs1203 => haystackref07_Build_l10_1_T (haystackref07_Build_l10_1_L K0 N) n1194 n1195 xs1196 n1197 n1198 xs1199 l1200 l1201 xs1202 xs1203 K0
noncomputable def haystackref07_Build_l10_1_B {R : Type} (n1194 : Int) (n1195 : Int) (xs1196 : List Int) (n1197 : Int) (n1198 : Int) (xs1199 : List Int) (l1200 : Nat) (l1201 : Nat) (xs1202 : List Int) (xs1203 : List Int) (K0 : Int → Int → List Int → Nat → Nat → List Int → List Int → Option R) : Option R :=
 haystackref07_Build_l10_1_L K0 NR n1194 n1195 xs1196 n1197 n1198 xs1199 l1200 l1201 xs1202 xs1203
noncomputable def haystackref07_Build_l10_1 {R : Type} := shut (@haystackref07_Build_l10_1_B R)
theorem haystackref07_Build_l10_1_unf {R : Type} : @haystackref07_Build_l10_1 R = @haystackref07_Build_l10_1_B R := shut_eq _

noncomputable def haystackref07_Build_l10_T {R : Type} (rec : Int → Int → List Int → Int → Int → List Int → Nat → List Int → Option R) (rec0 : Int → Int → List Int → Int → Int → List Int → Nat → Nat → List Int → List Int → Option R) (n1184 : Int) (n1185 : Int) (xs1186 : List Int) (n1187 : Int) (n1188 : Int) (xs1189 : List Int) (l1190 : Nat) (xs1191 : List Int) (K0 : Int → Int → List Int → Nat → Nat → List Int → List Int → Option R) (K1 : Int → Int → List Int → Nat → List Int → Option R) : Option R :=
 sel (decide (n1184 < (↑(List.length xs1186) : Int)))
  (haystackref02_Ones (n1185) (xs1186) (mulW .i64 64 n1184)
   (fun n1192 => sel (decide (0 ≤ quoW .i64 n1184 8))
    (sel (decide (quoW .i64 n1184 8 < (↑l1190 : Int)))
     (sel (decide (Int.toNat (quoW .i64 n1184 8) < List.length xs1191))
      (letV ([subW .i64 n1192 (List.getD xs1191 (Int.toNat (quoW .i64 n1184 8)) 0)]) (fun (xs1193 : List Int) =>
      sel (decide (1 = List.length xs1193))
       (rec0 (addW .i64 n1184 1) (n1185) (xs1186) (n1187) (n1188) (xs1189) (l1190) (1) (xs1191) (xs1193))
       (sel (decide (0 + 1 ≤ List.length xs1193))
        (letV (List.take 1 (List.drop 0 xs1193)) (fun (xs1208 : List Int) =>
        rec0 (addW .i64 n1184 1) (n1185) (xs1186) (n1187) (n1188) (xs1189) (l1190) (1) (xs1191) (xs1208)))
        (none))))
      (none))
     (none))
    (none)))
  (K1 (n1187) (n1188) (xs1189) (l1190) (xs1191))
noncomputable def haystackref07_Build_l10_L {R : Type} (K0 : Int → Int → List Int → Nat → Nat → List Int → List Int → Option R) (K1 : Int → Int → List Int → Nat → List Int → Option R) : Nat → Int → Int → List Int → Int → Int → List Int → Nat → List Int → Option R
  | 0, _, _, _, _, _, _, _, _ => none
  | N + 1, n1184, n1185, xs1186, n1187, n1188, xs1189, l1190, xs1191 => haystackref07_Build_l10_T (haystackref07_Build_l10_L K0 K1 N) (haystackref07_Build_l10_1_L K0 N) n1184 n1185 xs1186 n1187 n1188 xs1189 l1190 xs1191 K0 K1
noncomputable def haystackref07_Build_l10_B {R : Type} (n1184 : Int) (n1185 : Int) (xs1186 : List Int) (n1187 : Int) (n1188 : Int) (xs1189 : List Int) (l1190 : Nat) (xs1191 : List Int) (K0 : Int → Int → List Int → Nat → Nat → List Int → List Int → Option R) (K1 : Int → Int → List Int → Nat → List Int → Option R) : Option R :=
 haystackref07_Build_l10_L K0 K1 NR n1184 n1185 xs1186 n1187 n1188 xs1189 l1190 xs1191
noncomputable def haystackref07_Build_l10 {R : Type} := shut (@haystackref07_Build_l10_B R)
theorem haystackref07_Build_l10_unf {R : Type} : @haystackref07_Build_l10 R = @haystackref07_Build_l10_B R := shut_eq _

noncomputable def haystackref07_Build_l10_2_T {R : Type} (rec : Int → Int → List Int → Int → Int → List Int → Option R) (n1226 : Int) (n1227 : Int) (xs1228 : List Int) (n1229 : Int) (n1230 : Int) (xs1231 : List Int) (K0 : Int → Int → List Int → Option R) : Option R :=
 sel (decide (n1226 < (↑(List.length xs1228) : Int)))
  (haystackref02_Ones (n1227) (xs1228) (mulW .i64 64 n1226)
   (fun n1232 => none))
  (K0 (n1229) (n1230) (xs1231))
noncomputable def haystackref07_Build_l10_2_L {R : Type} (K0 : Int → Int → List Int → Option R) : Nat → Int → Int → List Int → Int → Int → List Int → Option R
  | 0, _, _, _, _, _, _ => none
  | N + 1, n1226, n1227, xs1228, n1229, n1230, xs1231 => haystackref07_Build_l10_2_T (haystackref07_Build_l10_2_L K0 N) n1226 n1227 xs1228 n1229 n1230 xs1231 K0
noncomputable def haystackref07_Build_l10_2_B {R : Type} (n1226 : Int) (n1227 : Int) (xs1228 : List Int) (n1229 : Int) (n1230 : Int) (xs1231 : List Int) (K0 : Int → Int → List Int → Option R) : Option R :=
 haystackref07_Build_l10_2_L K0 NR n1226 n1227 xs1228 n1229 n1230 xs1231
noncomputable def haystackref07_Build_l10_2 {R : Type} := shut (@haystackref07_Build_l10_2_B R)
theorem haystackref07_Build_l10_2_unf {R : Type} : @haystackref07_Build_l10_2 R = @haystackref07_Build_l10_2_B R := shut_eq _

noncomputable def haystackref07_Build_B {R : Type} (n1128 : Int) (xs1129 : List Int) (K0 : Int → List Int → List Int → List Int → Int → Option R) : Option R :=
 haystackref02_Check (n1128) (xs1129)
  (fun b1130 => sel (!b1130)
   (K0 (0) ([]) ([]) ([]) (2))
   (haystackref07_Build_l6 (0) (n1128) (xs1129) (0) (n1128) (xs1129)
    (fun n1177 xs1178 n1179 n1180 xs1181 l1182 xs1183 => haystackref07_Build_l10 (0) (n1177) (xs1178) (n1179) (n1180) (xs1181) (l1182) (xs1183)
     (fun n1209 n1210 xs1211 l1212 l1213 xs1214 xs1215 => sel (decide (l1212 = List.length xs1214))
      (sel (decide (l1213 = List.length xs1215))
       (K0 (n1210) (xs1211) (xs1214) (xs1215) (0))
       (sel (decide (0 + l1213 ≤ List.length xs1215))
        (K0 (n1210) (xs1211) (xs1214) (List.take l1213 (List.drop 0 xs1215)) (0))
        (none)))
      (sel (decide (0 + l1212 ≤ List.length xs1214))
       (sel (decide (l1213 = List.length xs1215))
        (K0 (n1210) (xs1211) (List.take l1212 (List.drop 0 xs1214)) (xs1215) (0))
        (sel (decide (0 + l1213 ≤ List.length xs1215))
         (K0 (n1210) (xs1211) (List.take l1212 (List.drop 0 xs1214)) (List.take l1213 (List.drop 0 xs1215)) (0))
         (none)))
       (none)))
     (fun n1216 n1217 xs1218 l1219 xs1220 => sel (decide (l1219 = List.length xs1220))
      (K0 (n1217) (xs1218) (xs1220) ([]) (0))
      (sel (decide (0 + l1219 ≤ List.length xs1220))
       (K0 (n1217) (xs1218) (List.take l1219 (List.drop 0 xs1220)) ([]) (0))
       (none))))
    (fun n1221 xs1222 n1223 n1224 xs1225 => haystackref07_Build_l10_2 (0) (n1221) (xs1222) (n1223) (n1224) (xs1225)
     (fun n1233 n1234 xs1235 => K0 (n1234) (xs1235) ([]) ([]) (0)))))
noncomputable def haystackref07_Build {R : Type} := shut (@haystackref07_Build_B R)
theorem haystackref07_Build_unf {R : Type} : @haystackref07_Build R = @haystackref07_Build_B R := shut_eq _

noncomputable def haystackref02_Same_l5_1_T {R : Type} (rec : Int → Int → List Int → Int → List Int → Option R) (n1257 : Int) (n1258 : Int) (xs1259 : List Int) (n1260 : Int) (xs1261 : List Int) (K0 : Bool → Option R) (K1 : Unit → Option R) : Option R :=
 sel (decide (n1257 < (↑(List.length xs1259) : Int)))
  (sel (decide (0 ≤ n1257))
   (sel (decide (n1257 < (↑(List.length xs1259) : Int)))
    (sel (decide (0 ≤ n1257))
     (sel (decide (n1257 < (↑(List.length xs1261) : Int)))
      (sel (!decide (List.getD xs1259 (Int.toNat n1257) 0 = List.getD xs1261 (Int.toNat n1257) 0))
       (K0 (false))
       (rec (addW .i64 n1257 1) (n1258) (xs1259) (n1260) (xs1261)))
      (none))
     (none))
    (none))
   (none))
  (K1 ())
noncomputable def haystackref02_Same_l5_1_L {R : Type} (K0 : Bool → Option R) (K1 : Unit → Option R) : Nat → Int → Int → List Int → Int → List Int → Option R
  | 0, _, _, _, _, _ => none
  | N + 1, n1257, n1258, xs1259, n1260, xs1261 => haystackref02_Same_l5_1_T (haystackref02_Same_l5_1_L K0 K1 N) n1257 n1258 xs1259 n1260 xs1261 K0 K1
noncomputable def haystackref02_Same_l5_1_B {R : Type} (n1257 : Int) (n1258 : Int) (xs1259 : List Int) (n1260 : Int) (xs1261 : List Int) (K0 : Bool → Option R) (K1 : Unit → Option R) : Option R :=
 haystackref02_Same_l5_1_L K0 K1 NR n1257 n1258 xs1259 n1260 xs1261
noncomputable def haystackref02_Same_l5_1 {R : Type} := shut (@haystackref02_Same_l5_1_B R)
theorem haystackref02_Same_l5_1_unf {R : Type} : @haystackref02_Same_l5_1 R = @haystackref02_Same_l5_1_B R := shut_eq _

noncomputable def haystackref02_Same_j4_1_B {R : Type} (n1253 : Int) (xs1254 : List Int) (n1255 : Int) (xs1256 : List Int) (K0 : Bool → Option R) : Option R :=
 haystackref02_Same_l5_1 (0) (n1253) (xs1254) (n1255) (xs1256)
  (fun b1262 => K0 (b1262))
  (fun _ => K0 (true))
noncomputable def haystackref02_Same_j4_1 {R : Type} := shut (@haystackref02_Same_j4_1_B R)
theorem haystackref02_Same_j4_1_unf {R : Type} : @haystackref02_Same_j4_1 R = @haystackref02_Same_j4_1_B R := shut_eq _

noncomputable def haystackref02_Same_B {R : Type} (n1249 : Int) (xs1250 : List Int) (n1251 : Int) (xs1252 : List Int) (K0 : Bool → Option R) : Option R :=
 sel (!decide (n1249 = n1251))
  (K0 (false))
  (sel (!decide ((↑(List.length xs1250) : Int) = (↑(List.length xs1252) : Int)))
   (K0 (false))
   (haystackref02_Same_j4_1 (n1249) (xs1250) (n1251) (xs1252)
    (fun b1263 => K0 (b1263))))
noncomputable def haystackref02_Same {R : Type} := shut (@haystackref02_Same_B R)
theorem haystackref02_Same_unf {R : Type} : @haystackref02_Same R = @haystackref02_Same_B R := shut_eq _

noncomputable def haystackref07_Numbers_l5_T {R : Type} (rec : List Int → List Int → Int → Option R) (xs1267 : List Int) (xs1268 : List Int) (n1269 : Int) (K0 : Bool → Option R) (K1 : Unit → Option R) : Option R :=
 sel (decide (n1269 < (↑(List.length xs1267) : Int)))
  (sel (decide (0 ≤ n1269))
   (sel (decide (n1269 < (↑(List.length xs1267) : Int)))
    (sel (decide (0 ≤ n1269))
     (sel (decide (n1269 < (↑(List.length xs1268) : Int)))
      (sel (!decide (List.getD xs1267 (Int.toNat n1269) 0 = List.getD xs1268 (Int.toNat n1269) 0))
       (K0 (false))
       (rec (xs1267) (xs1268) (addW .i64 n1269 1)))
      (none))
     (none))
    (none))
   (none))
  (K1 ())
noncomputable def haystackref07_Numbers_l5_L {R : Type} (K0 : Bool → Option R) (K1 : Unit → Option R) : Nat → List Int → List Int → Int → Option R
  | 0, _, _, _ => none
  | N + 1, xs1267, xs1268, n1269 => haystackref07_Numbers_l5_T (haystackref07_Numbers_l5_L K0 K1 N) xs1267 xs1268 n1269 K0 K1
noncomputable def haystackref07_Numbers_l5_B {R : Type} (xs1267 : List Int) (xs1268 : List Int) (n1269 : Int) (K0 : Bool → Option R) (K1 : Unit → Option R) : Option R :=
 haystackref07_Numbers_l5_L K0 K1 NR xs1267 xs1268 n1269
noncomputable def haystackref07_Numbers_l5 {R : Type} := shut (@haystackref07_Numbers_l5_B R)
theorem haystackref07_Numbers_l5_unf {R : Type} : @haystackref07_Numbers_l5 R = @haystackref07_Numbers_l5_B R := shut_eq _

noncomputable def haystackref07_Numbers_B {R : Type} (xs1265 : List Int) (xs1266 : List Int) (K0 : Bool → Option R) : Option R :=
 sel (!decide ((↑(List.length xs1265) : Int) = (↑(List.length xs1266) : Int)))
  (K0 (false))
  (haystackref07_Numbers_l5 (xs1265) (xs1266) (0)
   (fun b1270 => K0 (b1270))
   (fun _ => K0 (true)))
noncomputable def haystackref07_Numbers {R : Type} := shut (@haystackref07_Numbers_B R)
theorem haystackref07_Numbers_unf {R : Type} : @haystackref07_Numbers R = @haystackref07_Numbers_B R := shut_eq _

noncomputable def haystackref07_Same_B {R : Type} (n1241 : Int) (xs1242 : List Int) (xs1243 : List Int) (xs1244 : List Int) (n1245 : Int) (xs1246 : List Int) (xs1247 : List Int) (xs1248 : List Int) (K0 : Bool → Option R) : Option R :=
 haystackref02_Same (n1241) (xs1242) (n1245) (xs1246)
  (fun b1264 => sel (b1264)
   (haystackref07_Numbers (xs1243) (xs1247)
    (fun b1271 => sel (b1271)
     (haystackref07_Numbers (xs1244) (xs1248)
      (fun b1272 => K0 (b1272)))
     (K0 (false))))
   (K0 (false)))
noncomputable def haystackref07_Same {R : Type} := shut (@haystackref07_Same_B R)
theorem haystackref07_Same_unf {R : Type} : @haystackref07_Same R = @haystackref07_Same_B R := shut_eq _

noncomputable def haystackref07_Check_B {R : Type} (n1279 : Int) (xs1280 : List Int) (xs1281 : List Int) (xs1282 : List Int) (K0 : Bool → Option R) : Option R :=
 haystackref07_Build (n1279) (xs1280)
  (fun n1283 xs1284 xs1285 xs1286 n1287 => sel (decide (n1287 = 0))
   (haystackref07_Same (n1279) (xs1280) (xs1281) (xs1282) (n1283) (xs1284) (xs1285) (xs1286)
    (fun b1288 => K0 (b1288)))
   (K0 (false)))
noncomputable def haystackref07_Check {R : Type} := shut (@haystackref07_Check_B R)
theorem haystackref07_Check_unf {R : Type} : @haystackref07_Check R = @haystackref07_Check_B R := shut_eq _

noncomputable def haystackref07_Size_B {R : Type} (n1275 : Int) (xs1276 : List Int) (xs1277 : List Int) (xs1278 : List Int) (K0 : Int → Option R) : Option R :=
 haystackref07_Check (n1275) (xs1276) (xs1277) (xs1278)
  (fun b1289 => sel (!b1289)
   (K0 (0))
   (K0 (addW .i64 (addW .i64 n1275 (mulW .i64 32 (↑(List.length xs1277) : Int))) (mulW .i64 16 (↑(List.length xs1278) : Int)))))
noncomputable def haystackref07_Size {R : Type} := shut (@haystackref07_Size_B R)
theorem haystackref07_Size_unf {R : Type} : @haystackref07_Size R = @haystackref07_Size_B R := shut_eq _

noncomputable def haystacklaw07_PlainBuilds_j4_B {R : Type} (n1121 : Int) (xs1122 : List Int) (K0 : Bool → Option R) : Option R :=
 plain_Build (n1121) (xs1122)
  (fun n1123 xs1124 xs1125 xs1126 n1127 => haystackref07_Build (n1121) (xs1122)
   (fun n1236 xs1237 xs1238 xs1239 n1240 => haystackref07_Same (n1123) (xs1124) (xs1125) (xs1126) (n1236) (xs1237) (xs1238) (xs1239)
    (fun b1273 => sel (b1273)
     (sel (decide (n1127 = n1240))
      (plain_Size (n1123) (xs1124) (xs1125) (xs1126)
       (fun n1274 => haystackref07_Size (n1236) (xs1237) (xs1238) (xs1239)
        (fun n1290 => sel (decide (n1274 = n1290))
         (haystacklaw07_heads 
          (fun b1291 => K0 (b1291)))
         (K0 (false)))))
      (K0 (false)))
     (K0 (false)))))
noncomputable def haystacklaw07_PlainBuilds_j4 {R : Type} := shut (@haystacklaw07_PlainBuilds_j4_B R)
theorem haystacklaw07_PlainBuilds_j4_unf {R : Type} : @haystacklaw07_PlainBuilds_j4 R = @haystacklaw07_PlainBuilds_j4_B R := shut_eq _

noncomputable def haystacklaw07_PlainBuilds_B {R : Type} (n1117 : Int) (xs1118 : List Int) (K0 : Bool → Option R) : Option R :=
 sel (decide (3000 < n1117))
  (haystacklaw07_heads 
   (fun b1119 => K0 (b1119)))
  (sel (decide (3000 < (↑(List.length xs1118) : Int)))
   (haystacklaw07_heads 
    (fun b1120 => K0 (b1120)))
   (haystacklaw07_PlainBuilds_j4 (n1117) (xs1118)
    (fun b1292 => K0 (b1292))))
noncomputable def haystacklaw07_PlainBuilds {R : Type} := shut (@haystacklaw07_PlainBuilds_B R)
theorem haystacklaw07_PlainBuilds_unf {R : Type} : @haystacklaw07_PlainBuilds R = @haystacklaw07_PlainBuilds_B R := shut_eq _

noncomputable def haystacklaw07_small_B {R : Type} (n1299 : Int) (xs1300 : List Int) (xs1301 : List Int) (xs1302 : List Int) (K0 : Bool → Option R) : Option R :=
 sel (decide (n1299 ≤ 3000))
  (sel (decide ((↑(List.length xs1300) : Int) ≤ 3000))
   (sel (decide ((↑(List.length xs1301) : Int) ≤ 3000))
    (K0 (decide ((↑(List.length xs1302) : Int) ≤ 3000)))
    (K0 (false)))
   (K0 (false)))
  (K0 (false))
noncomputable def haystacklaw07_small {R : Type} := shut (@haystacklaw07_small_B R)
theorem haystacklaw07_small_unf {R : Type} : @haystacklaw07_small R = @haystacklaw07_small_B R := shut_eq _

noncomputable def haystackref07_Whole_B {R : Type} (n1320 : Int) (xs1321 : List Int) (xs1322 : List Int) (xs1323 : List Int) (K0 : Int → List Int → Bool → Option R) : Option R :=
 haystackref07_Check (n1320) (xs1321) (xs1322) (xs1323)
  (fun b1324 => sel (!b1324)
   (K0 (0) ([]) (false))
   (K0 (n1320) (xs1321) (true)))
noncomputable def haystackref07_Whole {R : Type} := shut (@haystackref07_Whole_B R)
theorem haystackref07_Whole_unf {R : Type} : @haystackref07_Whole R = @haystackref07_Whole_B R := shut_eq _

noncomputable def haystackref02_Get_j6_B {R : Type} (n1332 : Int) (n1333 : Int) (xs1334 : List Int) (K0 : Bool → Int → Option R) : Option R :=
 haystackref02_At (n1333) (xs1334) (n1332)
  (fun b1335 => K0 (b1335) (0))
noncomputable def haystackref02_Get_j6 {R : Type} := shut (@haystackref02_Get_j6_B R)
theorem haystackref02_Get_j6_unf {R : Type} : @haystackref02_Get_j6 R = @haystackref02_Get_j6_B R := shut_eq _

noncomputable def haystackref02_Get_B {R : Type} (n1328 : Int) (xs1329 : List Int) (n1330 : Int) (K0 : Bool → Int → Option R) : Option R :=
 haystackref02_Check (n1328) (xs1329)
  (fun b1331 => sel (!b1331)
   (K0 (false) (2))
   (sel (decide (n1330 < 0))
    (K0 (false) (3))
    (sel (decide (n1328 ≤ n1330))
     (K0 (false) (3))
     (haystackref02_Get_j6 (n1330) (n1328) (xs1329)
      (fun b1336 n1337 => K0 (b1336) (n1337))))))
noncomputable def haystackref02_Get {R : Type} := shut (@haystackref02_Get_B R)
theorem haystackref02_Get_unf {R : Type} : @haystackref02_Get R = @haystackref02_Get_B R := shut_eq _

noncomputable def haystackref07_Access_B {R : Type} (n1315 : Int) (xs1316 : List Int) (xs1317 : List Int) (xs1318 : List Int) (n1319 : Int) (K0 : Bool → Int → Option R) : Option R :=
 haystackref07_Whole (n1315) (xs1316) (xs1317) (xs1318)
  (fun n1325 xs1326 b1327 => sel (!b1327)
   (K0 (false) (2))
   (haystackref02_Get (n1325) (xs1326) (n1319)
    (fun b1338 n1339 => K0 (b1338) (n1339))))
noncomputable def haystackref07_Access {R : Type} := shut (@haystackref07_Access_B R)
theorem haystackref07_Access_unf {R : Type} : @haystackref07_Access R = @haystackref07_Access_B R := shut_eq _

noncomputable def haystackref07_Rank_j7_B {R : Type} (b1353 : Bool) (n1354 : Int) (n1355 : Int) (xs1356 : List Int) (K0 : Int → Int → Option R) : Option R :=
 haystackref02_Ones (n1355) (xs1356) (n1354)
  (fun n1357 => sel (!b1353)
   (K0 (subW .i64 n1354 n1357) (0))
   (K0 (n1357) (0)))
noncomputable def haystackref07_Rank_j7 {R : Type} := shut (@haystackref07_Rank_j7_B R)
theorem haystackref07_Rank_j7_unf {R : Type} : @haystackref07_Rank_j7 R = @haystackref07_Rank_j7_B R := shut_eq _

noncomputable def haystackref07_Rank_B {R : Type} (n1344 : Int) (xs1345 : List Int) (xs1346 : List Int) (xs1347 : List Int) (b1348 : Bool) (n1349 : Int) (K0 : Int → Int → Option R) : Option R :=
 haystackref07_Whole (n1344) (xs1345) (xs1346) (xs1347)
  (fun n1350 xs1351 b1352 => sel (!b1352)
   (K0 (0) (2))
   (sel (decide (n1349 < 0))
    (K0 (0) (3))
    (sel (decide (n1350 < n1349))
     (K0 (0) (3))
     (haystackref07_Rank_j7 (b1348) (n1349) (n1350) (xs1351)
      (fun n1358 n1359 => K0 (n1358) (n1359))))))
noncomputable def haystackref07_Rank {R : Type} := shut (@haystackref07_Rank_B R)
theorem haystackref07_Rank_unf {R : Type} : @haystackref07_Rank R = @haystackref07_Rank_B R := shut_eq _

noncomputable def haystackref07_Select_l7_T {R : Type} (rec : Bool → Int → Int → Int → Int → List Int → Option R) (b1373 : Bool) (n1374 : Int) (n1375 : Int) (n1376 : Int) (n1377 : Int) (xs1378 : List Int) (K0 : Int → Int → Option R) (K1 : Unit → Option R) : Option R :=
 sel (decide (n1376 < n1377))
  (haystackref02_At (n1377) (xs1378) (n1376)
   (fun b1379 => sel (!b1379 == b1373)
    (rec (b1373) (n1374) (n1375) (addW .i64 n1376 1) (n1377) (xs1378))
    (sel (decide (n1375 = n1374))
     (K0 (n1376) (0))
     (rec (b1373) (n1374) (addW .i64 n1375 1) (addW .i64 n1376 1) (n1377) (xs1378)))))
  (K1 ())
noncomputable def haystackref07_Select_l7_L {R : Type} (K0 : Int → Int → Option R) (K1 : Unit → Option R) : Nat → Bool → Int → Int → Int → Int → List Int → Option R
  | 0, _, _, _, _, _, _ => none
  | N + 1, b1373, n1374, n1375, n1376, n1377, xs1378 => haystackref07_Select_l7_T (haystackref07_Select_l7_L K0 K1 N) b1373 n1374 n1375 n1376 n1377 xs1378 K0 K1
noncomputable def haystackref07_Select_l7_B {R : Type} (b1373 : Bool) (n1374 : Int) (n1375 : Int) (n1376 : Int) (n1377 : Int) (xs1378 : List Int) (K0 : Int → Int → Option R) (K1 : Unit → Option R) : Option R :=
 haystackref07_Select_l7_L K0 K1 NR b1373 n1374 n1375 n1376 n1377 xs1378
noncomputable def haystackref07_Select_l7 {R : Type} := shut (@haystackref07_Select_l7_B R)
theorem haystackref07_Select_l7_unf {R : Type} : @haystackref07_Select_l7 R = @haystackref07_Select_l7_B R := shut_eq _

noncomputable def haystackref07_Select_B {R : Type} (n1364 : Int) (xs1365 : List Int) (xs1366 : List Int) (xs1367 : List Int) (b1368 : Bool) (n1369 : Int) (K0 : Int → Int → Option R) : Option R :=
 haystackref07_Whole (n1364) (xs1365) (xs1366) (xs1367)
  (fun n1370 xs1371 b1372 => sel (!b1372)
   (K0 (0) (2))
   (haystackref07_Select_l7 (b1368) (n1369) (0) (0) (n1370) (xs1371)
    (fun n1380 n1381 => K0 (n1380) (n1381))
    (fun _ => K0 (0) (3))))
noncomputable def haystackref07_Select {R : Type} := shut (@haystackref07_Select_B R)
theorem haystackref07_Select_unf {R : Type} : @haystackref07_Select R = @haystackref07_Select_B R := shut_eq _

noncomputable def haystackref07_Bits_B {R : Type} (n1394 : Int) (xs1395 : List Int) (xs1396 : List Int) (xs1397 : List Int) (K0 : Int → List Int → Option R) : Option R :=
 haystackref07_Whole (n1394) (xs1395) (xs1396) (xs1397)
  (fun n1398 xs1399 b1400 => K0 (n1398) (xs1399))
noncomputable def haystackref07_Bits {R : Type} := shut (@haystackref07_Bits_B R)
theorem haystackref07_Bits_unf {R : Type} : @haystackref07_Bits R = @haystackref07_Bits_B R := shut_eq _

noncomputable def haystacklaw07_PlainTells_j12_B {R : Type} (n1384 : Int) (xs1385 : List Int) (xs1386 : List Int) (xs1387 : List Int) (K0 : Bool → Option R) : Option R :=
 plain_Check (n1384) (xs1385) (xs1386) (xs1387)
  (fun b1388 => haystackref07_Check (n1384) (xs1385) (xs1386) (xs1387)
   (fun b1389 => sel (b1388 == b1389)
    (plain_Size (n1384) (xs1385) (xs1386) (xs1387)
     (fun n1390 => haystackref07_Size (n1384) (xs1385) (xs1386) (xs1387)
      (fun n1391 => sel (decide (n1390 = n1391))
       (plain_Bits (n1384) (xs1385) (xs1386) (xs1387)
        (fun n1392 xs1393 => haystackref07_Bits (n1384) (xs1385) (xs1386) (xs1387)
         (fun n1401 xs1402 => haystackref02_Same (n1392) (xs1393) (n1401) (xs1402)
          (fun b1403 => sel (b1403)
           (haystacklaw07_heads 
            (fun b1404 => K0 (b1404)))
           (K0 (false))))))
       (K0 (false)))))
    (K0 (false))))
noncomputable def haystacklaw07_PlainTells_j12 {R : Type} := shut (@haystacklaw07_PlainTells_j12_B R)
theorem haystacklaw07_PlainTells_j12_unf {R : Type} : @haystacklaw07_PlainTells_j12 R = @haystacklaw07_PlainTells_j12_B R := shut_eq _

noncomputable def haystacklaw07_PlainTells_j5_B {R : Type} (b1307 : Bool) (n1308 : Int) (b1309 : Bool) (n1310 : Int) (n1311 : Int) (xs1312 : List Int) (xs1313 : List Int) (xs1314 : List Int) (K0 : Bool → Option R) : Option R :=
 haystackref07_Access (n1311) (xs1312) (xs1313) (xs1314) (n1308)
  (fun b1340 n1341 => plain_Rank (n1311) (xs1312) (xs1313) (xs1314) (b1307) (n1308)
   (fun n1342 n1343 => haystackref07_Rank (n1311) (xs1312) (xs1313) (xs1314) (b1307) (n1308)
    (fun n1360 n1361 => plain_Select (n1311) (xs1312) (xs1313) (xs1314) (b1307) (n1308)
     (fun n1362 n1363 => haystackref07_Select (n1311) (xs1312) (xs1313) (xs1314) (b1307) (n1308)
      (fun n1382 n1383 => sel (!b1309 == b1340)
       (K0 (false))
       (sel (!decide (n1310 = n1341))
        (K0 (false))
        (sel (!decide (n1342 = n1360))
         (K0 (false))
         (sel (!decide (n1343 = n1361))
          (K0 (false))
          (sel (!decide (n1362 = n1382))
           (K0 (false))
           (sel (!decide (n1363 = n1383))
            (K0 (false))
            (haystacklaw07_PlainTells_j12 (n1311) (xs1312) (xs1313) (xs1314)
             (fun b1405 => K0 (b1405)))))))))))))
noncomputable def haystacklaw07_PlainTells_j5 {R : Type} := shut (@haystacklaw07_PlainTells_j5_B R)
theorem haystacklaw07_PlainTells_j5_unf {R : Type} : @haystacklaw07_PlainTells_j5 R = @haystacklaw07_PlainTells_j5_B R := shut_eq _

noncomputable def haystacklaw07_PlainTells_B {R : Type} (n1293 : Int) (xs1294 : List Int) (xs1295 : List Int) (xs1296 : List Int) (b1297 : Bool) (n1298 : Int) (K0 : Bool → Option R) : Option R :=
 haystacklaw07_small (n1293) (xs1294) (xs1295) (xs1296)
  (fun b1303 => sel (!b1303)
   (haystacklaw07_heads 
    (fun b1304 => K0 (b1304)))
   (plain_Access (n1293) (xs1294) (xs1295) (xs1296) (n1298)
    (fun b1305 n1306 => haystacklaw07_PlainTells_j5 (b1297) (n1298) (b1305) (n1306) (n1293) (xs1294) (xs1295) (xs1296)
     (fun b1406 => K0 (b1406)))))
noncomputable def haystacklaw07_PlainTells {R : Type} := shut (@haystacklaw07_PlainTells_B R)
theorem haystacklaw07_PlainTells_unf {R : Type} : @haystacklaw07_PlainTells R = @haystacklaw07_PlainTells_B R := shut_eq _

noncomputable def haystacklaw07_PlainBack_j11_B {R : Type} (b1449 : Bool) (n1450 : Int) (n1451 : Int) (n1452 : Int) (n1453 : Int) (xs1454 : List Int) (xs1455 : List Int) (xs1456 : List Int) (K0 : Bool → Option R) : Option R :=
 sel (!decide (n1452 = 0))
  (sel (decide (n1452 = 3))
   (haystacklaw07_heads 
    (fun b1457 => K0 (b1457)))
   (K0 (false)))
  (plain_Rank (n1453) (xs1454) (xs1455) (xs1456) (b1449) (n1451)
   (fun n1458 n1459 => plain_Access (n1453) (xs1454) (xs1455) (xs1456) (n1451)
    (fun b1460 n1461 => sel (decide (n1459 = 0))
     (sel (decide (n1458 = n1450))
      (sel (decide (n1461 = 0))
       (sel (b1460 == b1449)
        (haystacklaw07_heads 
         (fun b1462 => K0 (b1462)))
        (K0 (false)))
       (K0 (false)))
      (K0 (false)))
     (K0 (false)))))
noncomputable def haystacklaw07_PlainBack_j11 {R : Type} := shut (@haystacklaw07_PlainBack_j11_B R)
theorem haystacklaw07_PlainBack_j11_unf {R : Type} : @haystacklaw07_PlainBack_j11 R = @haystacklaw07_PlainBack_j11_B R := shut_eq _

noncomputable def haystacklaw07_PlainBack_j7_B {R : Type} (b1437 : Bool) (n1438 : Int) (n1439 : Int) (_xs1440 : List Int) (n1441 : Int) (xs1442 : List Int) (xs1443 : List Int) (xs1444 : List Int) (K0 : Bool → Option R) : Option R :=
 plain_Rank (n1441) (xs1442) (xs1443) (xs1444) (b1437) (n1439)
  (fun n1445 n1446 => plain_Select (n1441) (xs1442) (xs1443) (xs1444) (b1437) (n1438)
   (fun n1447 n1448 => sel (!decide (n1446 = 0))
    (K0 (false))
    (sel (decide (0 ≤ n1438))
     (sel (!decide (n1448 = 0) == decide (n1438 < n1445))
      (K0 (false))
      (haystacklaw07_PlainBack_j11 (b1437) (n1438) (n1447) (n1448) (n1441) (xs1442) (xs1443) (xs1444)
       (fun b1463 => K0 (b1463))))
     (sel (!decide (n1448 = 0) == false)
      (K0 (false))
      (haystacklaw07_PlainBack_j11 (b1437) (n1438) (n1447) (n1448) (n1441) (xs1442) (xs1443) (xs1444)
       (fun b1464 => K0 (b1464)))))))
noncomputable def haystacklaw07_PlainBack_j7 {R : Type} := shut (@haystacklaw07_PlainBack_j7_B R)
theorem haystacklaw07_PlainBack_j7_unf {R : Type} : @haystacklaw07_PlainBack_j7 R = @haystacklaw07_PlainBack_j7_B R := shut_eq _

noncomputable def haystacklaw07_PlainBack_j5_B {R : Type} (b1424 : Bool) (n1425 : Int) (n1426 : Int) (n1427 : Int) (xs1428 : List Int) (n1429 : Int) (xs1430 : List Int) (xs1431 : List Int) (xs1432 : List Int) (K0 : Bool → Option R) : Option R :=
 sel (!decide (n1426 = 0))
  (K0 (false))
  (plain_Check (n1429) (xs1430) (xs1431) (xs1432)
   (fun b1433 => sel (!b1433)
    (K0 (false))
    (plain_Bits (n1429) (xs1430) (xs1431) (xs1432)
     (fun n1434 xs1435 => haystackref02_Same (n1434) (xs1435) (n1427) (xs1428)
      (fun b1436 => sel (!b1436)
       (K0 (false))
       (haystacklaw07_PlainBack_j7 (b1424) (n1425) (n1427) (xs1428) (n1429) (xs1430) (xs1431) (xs1432)
        (fun b1465 => K0 (b1465))))))))
noncomputable def haystacklaw07_PlainBack_j5 {R : Type} := shut (@haystacklaw07_PlainBack_j5_B R)
theorem haystacklaw07_PlainBack_j5_unf {R : Type} : @haystacklaw07_PlainBack_j5 R = @haystacklaw07_PlainBack_j5_B R := shut_eq _

noncomputable def haystacklaw07_PlainBack_j4_B {R : Type} (b1415 : Bool) (n1416 : Int) (n1417 : Int) (xs1418 : List Int) (K0 : Bool → Option R) : Option R :=
 plain_Build (n1417) (xs1418)
  (fun n1419 xs1420 xs1421 xs1422 n1423 => haystacklaw07_PlainBack_j5 (b1415) (n1416) (n1423) (n1417) (xs1418) (n1419) (xs1420) (xs1421) (xs1422)
   (fun b1466 => K0 (b1466)))
noncomputable def haystacklaw07_PlainBack_j4 {R : Type} := shut (@haystacklaw07_PlainBack_j4_B R)
theorem haystacklaw07_PlainBack_j4_unf {R : Type} : @haystacklaw07_PlainBack_j4 R = @haystacklaw07_PlainBack_j4_B R := shut_eq _

noncomputable def haystacklaw07_PlainBack_B {R : Type} (n1407 : Int) (xs1408 : List Int) (b1409 : Bool) (n1410 : Int) (K0 : Bool → Option R) : Option R :=
 sel (decide (3000 < n1407))
  (haystacklaw07_heads 
   (fun b1411 => K0 (b1411)))
  (sel (decide (3000 < (↑(List.length xs1408) : Int)))
   (haystacklaw07_heads 
    (fun b1412 => K0 (b1412)))
   (haystackref02_Check (n1407) (xs1408)
    (fun b1413 => sel (!b1413)
     (haystacklaw07_heads 
      (fun b1414 => K0 (b1414)))
     (haystacklaw07_PlainBack_j4 (b1409) (n1410) (n1407) (xs1408)
      (fun b1467 => K0 (b1467))))))
noncomputable def haystacklaw07_PlainBack {R : Type} := shut (@haystacklaw07_PlainBack_B R)
theorem haystacklaw07_PlainBack_unf {R : Type} : @haystacklaw07_PlainBack R = @haystacklaw07_PlainBack_B R := shut_eq _

/-- what is kept where -/
def kpt : List (Nat × List (Nat × List Nat)) := [(7, [(9000, [1, 6, 7, 8, 9, 10, 11, 12, 13, 14, 999999]), (8000, [1, 5, 6, 7, 8, 9, 10, 11, 12, 999999]), (7000, [1, 5, 6, 7, 8, 9, 10, 999999]), (6000, [1, 5, 6, 7, 8, 999999]), (5000, [1, 5, 6, 999999]), (4002, [4]), (4001, [4]), (4000, [1, 2, 999999]), (3000, [1, 2, 38, 999999]), (2000, [1, 2, 999999])]), (8, [(6000, [3, 4, 5, 6, 999999]), (5000, [1, 3, 4, 999999]), (4002, [2]), (4001, [2]), (4000, [1, 999999]), (3000, [1, 15, 999999]), (2000, [1, 999999])]), (9, [(12002, [6]), (12001, [6]), (12000, [3, 999999]), (11000, [3, 90, 999999]), (10000, [3, 7, 8, 9, 10, 11, 12, 13, 14, 15, 16, 17, 18, 999999]), (9000, [1, 2, 3, 7, 8, 9, 10, 11, 12, 13, 14, 15, 16, 999999]), (8000, [1, 2, 3, 7, 8, 9, 10, 11, 12, 13, 14, 999999]), (7000, [1, 2, 3, 7, 8, 9, 10, 11, 12, 999999]), (6000, [1, 2, 3, 7, 8, 9, 10, 999999]), (5002, [6]), (5001, [6]), (5000, [1, 2, 3, 7, 8, 999999]), (4000, [1, 2, 3, 999999]), (3000, [1, 2, 3, 21, 999999]), (2000, [1, 2, 3, 999999])]), (10, [(15000, [1, 2, 13, 14, 15, 16, 999999]), (14000, [1, 2, 7, 11, 13, 14, 999999]), (13000, [1, 2, 7, 11, 999999]), (12000, [1, 2, 7, 11, 12, 81, 999999]), (11002, [6]), (11001, [6]), (11000, [1, 2, 7, 11, 12, 999999]), (10000, [1, 2, 7, 11, 12, 79, 999999]), (9000, [1, 2, 7, 9, 10, 11, 12, 999999]), (8000, [1, 2, 7, 9, 10, 999999]), (7002, [6]), (7001, [6]), (7000, [1, 2, 3, 7, 999999]), (6000, [1, 2, 3, 7, 50, 999999]), (5002, [6]), (5001, [6]), (5000, [1, 2, 3, 7, 8, 999999]), (4002, [6]), (4001, [6]), (4000, [1, 2, 3, 999999]), (3000, [1, 2, 3, 30, 999999]), (2000, [1, 2, 3, 999999])]), (31, [(4002, [2]), (4001, [2]), (4000, [1])]), (32, [(999999999, []), (9000, [1, 2, 3, 4, 5, 6, 7, 8, 9, 10, 12, 14, 999999]), (8000, [1, 2, 3, 4, 5, 6, 7, 8, 9, 10, 12, 999999]), (7000, [1, 2, 3, 4, 5, 6, 7, 8, 9, 10, 999999]), (6000, [1, 2, 3, 4, 5, 6, 7, 8, 999999]), (5000, [1, 2, 3, 4, 5, 6, 999999]), (4002, [0]), (4001, [0]), (4000, [1, 2, 3, 4, 999999]), (3000, [1, 2, 999999]), (2000, [999999])]), (33, [(11003, [2, 4]), (11004, [1, 2, 4, 5, 16, 17]), (11002, [2, 3]), (11001, [1, 2, 4, 5, 16, 17]), (11000, [1, 2, 4, 5, 6, 16, 17]), (10003, [2, 4]), (10004, [1, 2, 4, 5, 16, 17]), (10002, [2, 3]), (10001, [1, 2, 4, 5, 6, 16, 17]), (10000, [1, 2, 4, 5, 6, 16, 17, 29]), (7403, [2, 4]), (7402, [2, 3]), (7401, []), (7400, [1, 2, 4, 5, 16, 17])]), (34, [(6002, [6, 7]), (6001, [6, 7]), (6000, [1, 2, 3])]), (36, [(10405, [2, 4]), (10402, [2, 3]), (10401, []), (10400, [1, 2, 4, 6]), (6403, [1, 2, 4]), (6402, [2, 3]), (6401, []), (6400, [1, 2, 4, 5])]), (40, [(2000, [1, 999999])]), (42, [(7002, [6, 7]), (7001, [6, 7]), (7000, [1, 2, 8])]), (43, [(15002, [6, 7]), (15001, [6, 7]), (15000, [1, 2, 3, 8, 11]), (7404, [1, 2, 3, 8]), (7402, [6, 7]), (7401, []), (7400, [1, 2, 3, 8, 9]), (6002, [6, 7]), (6001, [6, 7]), (6000, [1, 2, 3])]), (44, [(7403, []), (7402, [6, 7]), (7401, []), (7400, [1, 2, 8, 10, 11])]), (47, [(5403, []), (5402, [4]), (5401, []), (5400, [2, 3, 5]), (4002, [4]), (4001, [4]), (4000, [2, 3])]), (72, [(4002, [2]), (4001, [2]), (4000, [1])]), (74, [(6003, [3]), (6002, [2]), (6001, [0, 3, 4]), (6000, [0, 3, 4]), (4403, [3]), (4402, [2]), (4401, []), (4400, [0, 3, 4])]), (77, [(6002, [4, 5]), (6001, [4, 5]), (6000, [1, 2])]), (78, [(6003, [5]), (6002, [4]), (6001, [1, 2, 5, 6]), (6000, [1, 2, 5, 6]), (4403, [5]), (4402, [4]), (4401, []), (4400, [1, 2, 5, 6])]), (79, [(5403, []), (5402, [4]), (5401, []), (5400, [0, 1, 5])]), (81, [(6002, [4, 5]), (6001, [4, 5]), (6000, [1, 2])]), (82, [(5403, [0]), (5402, [4]), (5401, []), (5400, [0, 13, 14]), (4002, [4]), (4001, [4]), (4000, [0, 1])]), (84, [(5403, []), (5402, [4]), (5401, []), (5400, [0, 1, 12, 13])]), (119, [(7403, [1, 2, 5]), (7402, [4]), (7401, []), (7400, [1, 2, 5, 20, 21, 22])])]
/-- what is handed back open -/
def lvt : List (Nat × List Nat) := []
noncomputable def V (f : FuncId) : Env := env (keepOf kpt) (vsOf (match lkN lvt f with | some l => l | none => []))
theorem D0 : Dom V S0 T0 0 := Dom.nil

noncomputable def sp99 : Ev.Spec := fun args _ K => match args with
  | ([AV.int .i64 n9]) => bits_words n9 (fun x0 => K (AV.int .i64 x0))
  | _ => none
noncomputable def S99 := addS 99 sp99 S0
theorem D1 : Dom V S99 T0 1 := Dom.s (m := 0) (n := 0) D0 D0 (O := (fun _ => none)) (fun _ _ _ _ => OrcOk.none _ _) fun args R K r h => by
  unfold sp99 at h; split at h
  · rw [bits_words_unf] at h; exact Eq.trans (by kernel_rfl) h
  · cases h

noncomputable def sp102 : Ev.Spec := fun args _ K => match args with
  | ([AV.int .i64 n14]) => word_Mask n14 (fun x0 => K (AV.int .u64 x0))
  | _ => none
noncomputable def S102 := addS 102 sp102 S99
theorem D2 : Dom V S102 T0 2 := Dom.s (m := 1) (n := 0) D1 D1 (O := (fun _ => none)) (fun _ _ _ _ => OrcOk.none _ _) fun args R K r h => by
  unfold sp102 at h; split at h
  · rw [word_Mask_unf] at h; exact Eq.trans (by kernel_rfl) h
  · cases h

noncomputable def o72r1_4000_in {R : Type} (K : Ex → St → Option R) (vs : List AV) (hh : H) : Option R := match vs, hh with
  | [AV.ptr 1 0], [HB.live (Blk.ints .u64 xs11), HB.live (Blk.any [AV.int .i64 n12, AV.sl 0 0 l13 1])] => bits_Check_j4 xs11 n12 l13 (fun x0 x1 => K (Ex.ret) (St.mk (spread 40 0 [2] [AV.bool x0]) [HB.live (Blk.ints .u64 x1)]))
  | _, _ => none

noncomputable def o72r1 : Nat → Option PSpec := lkN [(4000, fun st _ K => pickM 40 [1] st (o72r1_4000_in K))]
noncomputable def q72r1 : CallF := evFun (V 72) S102 T0 10

noncomputable def c72r1_4000 : Code := subC [1, 1] (bodyOf Tryd.f72)

theorem p72r1_4000 : PieceOk (V 72) q72r1 o72r1 72 1 (3998, 0, c72r1_4000) := .s (size := 40) (ss := [1]) (F := @o72r1_4000_in) (by kernel_rfl) fun R r K vs hh h => by
  unfold o72r1_4000_in at h; split at h
  · rw [bits_Check_j4_unf] at h; exact Eq.trans (by kernel_rfl) h
  · cases h

theorem pc72r1 : ∀ x ∈ [(3998, 0, c72r1_4000)], PieceOk (V 72) q72r1 o72r1 72 1 x := List.forall_mem_cons.2 ⟨p72r1_4000, fun _ h => nomatch h⟩

noncomputable def hs72 : HSpec := fun args h _ K => match args, h with
  | [AV.agg (Blk.any [AV.int .i64 n6, AV.sl 0 0 l7 1])], [HB.live (Blk.ints .u64 xs8)] => bits_Check_r n6 l7 xs8 (fun x0 x1 => K (AV.bool x0) ([HB.live (Blk.ints .u64 x1)]))
  | _, _ => none
noncomputable def T72 := addT 72 hs72 T0
theorem D3 : Dom V S102 T72 3 := Dom.t D2 fun args hh R K r h => by
  unfold hs72 at h; split at h
  · rw [bits_Check_r_unf] at h; exact ⟨o72r1, (OrcOk.fn (fn0 := Tryd.f72) (by kernel_rfl) (by kernel_rfl) pc72r1), Eq.trans (by kernel_rfl) h⟩
  · cases h

theorem math_bits_OnesCount64_eq {R : Type} (K : AV → Option R) (n69 : Int) : evSpec (V 107) S102 T72 (fun _ => none) 10 107 ([AV.int .u64 n69]) R K = math_bits_OnesCount64_B n69 (fun x0 => K (AV.int .i64 x0)) := by kernel_rfl

noncomputable def sp107 : Ev.Spec := fun args _ K => match args with
  | ([AV.int .u64 n69]) => math_bits_OnesCount64 n69 (fun x0 => K (AV.int .i64 x0))
  | _ => none
noncomputable def S107 := addS 107 sp107 S102
theorem D4 : Dom V S107 T72 4 := Dom.s (m := 3) (n := 0) D3 D3 (O := (fun _ => none)) (fun _ _ _ _ => OrcOk.none _ _) fun args R K r h => by
  unfold sp107 at h; split at h
  · rw [math_bits_OnesCount64_unf] at h; exact (math_bits_OnesCount64_eq K _).trans h
  · cases h

noncomputable def sp75 : Ev.Spec := fun args _ K => match args with
  | ([AV.int .u64 n68]) => word_Pop n68 (fun x0 => K (AV.int .i64 x0))
  | _ => none
noncomputable def S75 := addS 75 sp75 S107
theorem D5 : Dom V S75 T72 5 := Dom.s (m := 4) (n := 0) D4 D4 (O := (fun _ => none)) (fun _ _ _ _ => OrcOk.none _ _) fun args R K r h => by
  unfold sp75 at h; split at h
  · rw [word_Pop_unf] at h; exact Eq.trans (by kernel_rfl) h
  · cases h

noncomputable def o33r1_7400_in {R : Type} (K : Ex → St → Option R) (vs : List AV) (hh : H) : Option R := match vs, hh with
  | [AV.ptr 1 0, AV.ptr 2 0, AV.ptr 3 0, AV.int .i64 n21, AV.int .i64 n22, AV.int .i64 n23], [HB.live (Blk.ints .u64 xs24), HB.live (Blk.any [AV.int .i64 n25, AV.sl 0 0 l26 1]), HB.live (Blk.any [AV.int .i64 n27, AV.esl, AV.esl, AV.esl]), HB.live (Blk.any [AV.int .i64 n28, AV.sl 0 0 l29 1, AV.esl, AV.esl])] => plain_Build_l7 n21 n22 n23 xs24 n25 l26 n27 n28 l29 (fun x0 x1 x2 x3 x4 x5 x6 x7 => K (Ex.exit 0) (St.mk (spread 64 0 [2, 4] [AV.ptr 1 0, AV.ptr 2 0]) [HB.live (Blk.ints .u64 x0), HB.live (Blk.any [AV.int .i64 x1, AV.esl, AV.esl, AV.esl]), HB.live (Blk.any [AV.int .i64 x2, AV.sl 0 0 x3 1, AV.sl 3 0 x4 1, AV.sl 4 0 x5 1]), HB.live (Blk.ints .i64 x6), HB.live (Blk.ints .i64 x7)])) (fun x0 x1 x2 x3 x4 x5 => K (Ex.exit 0) (St.mk (spread 64 0 [2, 4] [AV.ptr 1 0, AV.ptr 2 0]) [HB.live (Blk.ints .u64 x0), HB.live (Blk.any [AV.int .i64 x1, AV.esl, AV.esl, AV.esl]), HB.live (Blk.any [AV.int .i64 x2, AV.sl 0 0 x3 1, AV.sl 3 0 x4 1, AV.esl]), HB.live (Blk.ints .i64 x5)])) (fun x0 x1 x2 x3 => K (Ex.exit 0) (St.mk (spread 64 0 [2, 4] [AV.ptr 1 0, AV.ptr 2 0]) [HB.live (Blk.ints .u64 x0), HB.live (Blk.any [AV.int .i64 x1, AV.esl, AV.esl, AV.esl]), HB.live (Blk.any [AV.int .i64 x2, AV.sl 0 0 x3 1, AV.esl, AV.esl])]))
  | [AV.ptr 1 0, AV.ptr 2 0, AV.ptr 3 0, AV.int .i64 n90, AV.int .i64 n91, AV.int .i64 n92], [HB.live (Blk.ints .u64 xs93), HB.live (Blk.any [AV.int .i64 n94, AV.sl 0 0 l95 1]), HB.live (Blk.any [AV.int .i64 n96, AV.esl, AV.esl, AV.esl]), HB.live (Blk.any [AV.int .i64 n97, AV.sl 0 0 l98 1, AV.sl 4 0 l99 1, AV.sl 5 0 l100 1]), HB.live (Blk.ints .i64 xs101), HB.live (Blk.ints .i64 xs102)] => plain_Build_l7_1 n90 n91 n92 xs93 n94 l95 n96 n97 l98 l99 l100 xs101 xs102 (fun x0 x1 x2 x3 x4 x5 x6 x7 => K (Ex.exit 0) (St.mk (spread 64 0 [2, 4] [AV.ptr 1 0, AV.ptr 2 0]) [HB.live (Blk.ints .u64 x0), HB.live (Blk.any [AV.int .i64 x1, AV.esl, AV.esl, AV.esl]), HB.live (Blk.any [AV.int .i64 x2, AV.sl 0 0 x3 1, AV.sl 3 0 x4 1, AV.sl 4 0 x5 1]), HB.live (Blk.ints .i64 x6), HB.live (Blk.ints .i64 x7)]))
  | [AV.ptr 1 0, AV.ptr 2 0, AV.ptr 3 0, AV.int .i64 n205, AV.int .i64 n206, AV.int .i64 n207], [HB.live (Blk.ints .u64 xs208), HB.live (Blk.any [AV.int .i64 n209, AV.sl 0 0 l210 1]), HB.live (Blk.any [AV.int .i64 n211, AV.esl, AV.esl, AV.esl]), HB.live (Blk.any [AV.int .i64 n212, AV.sl 0 0 l213 1, AV.sl 4 0 l214 1, AV.esl]), HB.live (Blk.ints .i64 xs215)] => plain_Build_l7_2 n205 n206 n207 xs208 n209 l210 n211 n212 l213 l214 xs215 (fun x0 x1 x2 x3 x4 x5 x6 x7 => K (Ex.exit 0) (St.mk (spread 64 0 [2, 4] [AV.ptr 1 0, AV.ptr 2 0]) [HB.live (Blk.ints .u64 x0), HB.live (Blk.any [AV.int .i64 x1, AV.esl, AV.esl, AV.esl]), HB.live (Blk.any [AV.int .i64 x2, AV.sl 0 0 x3 1, AV.sl 3 0 x4 1, AV.sl 4 0 x5 1]), HB.live (Blk.ints .i64 x6), HB.live (Blk.ints .i64 x7)])) (fun x0 x1 x2 x3 x4 x5 => K (Ex.exit 0) (St.mk (spread 64 0 [2, 4] [AV.ptr 1 0, AV.ptr 2 0]) [HB.live (Blk.ints .u64 x0), HB.live (Blk.any [AV.int .i64 x1, AV.esl, AV.esl, AV.esl]), HB.live (Blk.any [AV.int .i64 x2, AV.sl 0 0 x3 1, AV.sl 3 0 x4 1, AV.esl]), HB.live (Blk.ints .i64 x5)]))
  | _, _ => none

noncomputable def o33r1_10000_in {R : Type} (K : Ex → St → Option R) (vs : List AV) (hh : H) : Option R := match vs, hh with
  | [AV.ptr 1 0, AV.ptr 2 0, AV.ptr 3 0, AV.int .i64 n30, AV.int .i64 n31, AV.int .i64 n32, AV.int .i64 n33, AV.bool b34], [HB.live (Blk.ints .u64 xs35), HB.live (Blk.any [AV.int .i64 n36, AV.sl 0 0 l37 1]), HB.live (Blk.any [AV.int .i64 n38, AV.esl, AV.esl, AV.esl]), HB.live (Blk.any [AV.int .i64 n39, AV.sl 0 0 l40 1, AV.esl, AV.esl])] => plain_Build_j10 n30 n31 n32 n33 b34 xs35 n36 l37 n38 n39 l40 (fun x0 x1 x2 x3 x4 x5 x6 x7 x8 x9 x10 x11 => K (Ex.normal) (St.mk (spread 64 0 [1, 2, 4, 5, 6, 16, 17] [AV.ptr 1 0, AV.ptr 2 0, AV.ptr 3 0, AV.int .i64 x0, AV.int .i64 x1, AV.int .i64 x2, AV.int .i64 x3]) [HB.live (Blk.ints .u64 x4), HB.live (Blk.any [AV.int .i64 x5, AV.sl 0 0 x6 1]), HB.live (Blk.any [AV.int .i64 x7, AV.esl, AV.esl, AV.esl]), HB.live (Blk.any [AV.int .i64 x8, AV.sl 0 0 x9 1, AV.sl 4 0 x10 1, AV.esl]), HB.live (Blk.ints .i64 x11)])) (fun x0 x1 x2 x3 x4 x5 x6 x7 x8 x9 => K (Ex.normal) (St.mk (spread 64 0 [1, 2, 4, 5, 6, 16, 17] [AV.ptr 1 0, AV.ptr 2 0, AV.ptr 3 0, AV.int .i64 x0, AV.int .i64 x1, AV.int .i64 x2, AV.int .i64 x3]) [HB.live (Blk.ints .u64 x4), HB.live (Blk.any [AV.int .i64 x5, AV.sl 0 0 x6 1]), HB.live (Blk.any [AV.int .i64 x7, AV.esl, AV.esl, AV.esl]), HB.live (Blk.any [AV.int .i64 x8, AV.sl 0 0 x9 1, AV.esl, AV.esl])]))
  | [AV.ptr 1 0, AV.ptr 2 0, AV.ptr 3 0, AV.int .i64 n103, AV.int .i64 n104, AV.int .i64 n105, AV.int .i64 n106, AV.bool b107], [HB.live (Blk.ints .u64 xs108), HB.live (Blk.any [AV.int .i64 n109, AV.sl 0 0 l110 1]), HB.live (Blk.any [AV.int .i64 n111, AV.esl, AV.esl, AV.esl]), HB.live (Blk.any [AV.int .i64 n112, AV.sl 0 0 l113 1, AV.sl 4 0 l114 1, AV.sl 5 0 l115 1]), HB.live (Blk.ints .i64 xs116), HB.live (Blk.ints .i64 xs117)] => plain_Build_j10_1 n103 n104 n105 n106 b107 xs108 n109 l110 n111 n112 l113 l114 l115 xs116 xs117 (fun x0 x1 x2 x3 x4 x5 x6 x7 x8 x9 x10 x11 x12 x13 => K (Ex.normal) (St.mk (spread 64 0 [1, 2, 4, 5, 6, 16, 17] [AV.ptr 1 0, AV.ptr 2 0, AV.ptr 3 0, AV.int .i64 x0, AV.int .i64 x1, AV.int .i64 x2, AV.int .i64 x3]) [HB.live (Blk.ints .u64 x4), HB.live (Blk.any [AV.int .i64 x5, AV.sl 0 0 x6 1]), HB.live (Blk.any [AV.int .i64 x7, AV.esl, AV.esl, AV.esl]), HB.live (Blk.any [AV.int .i64 x8, AV.sl 0 0 x9 1, AV.sl 4 0 x10 1, AV.sl 5 0 x11 1]), HB.live (Blk.ints .i64 x12), HB.live (Blk.ints .i64 x13)]))
  | [AV.ptr 1 0, AV.ptr 2 0, AV.ptr 3 0, AV.int .i64 n216, AV.int .i64 n217, AV.int .i64 n218, AV.int .i64 n219, AV.bool b220], [HB.live (Blk.ints .u64 xs221), HB.live (Blk.any [AV.int .i64 n222, AV.sl 0 0 l223 1]), HB.live (Blk.any [AV.int .i64 n224, AV.esl, AV.esl, AV.esl]), HB.live (Blk.any [AV.int .i64 n225, AV.sl 0 0 l226 1, AV.sl 4 0 l227 1, AV.esl]), HB.live (Blk.ints .i64 xs228)] => plain_Build_j10_2 n216 n217 n218 n219 b220 xs221 n222 l223 n224 n225 l226 l227 xs228 (fun x0 x1 x2 x3 x4 x5 x6 x7 x8 x9 x10 x11 => K (Ex.normal) (St.mk (spread 64 0 [1, 2, 4, 5, 6, 16, 17] [AV.ptr 1 0, AV.ptr 2 0, AV.ptr 3 0, AV.int .i64 x0, AV.int .i64 x1, AV.int .i64 x2, AV.int .i64 x3]) [HB.live (Blk.ints .u64 x4), HB.live (Blk.any [AV.int .i64 x5, AV.sl 0 0 x6 1]), HB.live (Blk.any [AV.int .i64 x7, AV.esl, AV.esl, AV.esl]), HB.live (Blk.any [AV.int .i64 x8, AV.sl 0 0 x9 1, AV.sl 4 0 x10 1, AV.esl]), HB.live (Blk.ints .i64 x11)]))
  | _, _ => none

noncomputable def o33r1_11000_in {R : Type} (K : Ex → St → Option R) (vs : List AV) (hh : H) : Option R := match vs, hh with
  | [AV.ptr 1 0, AV.ptr 2 0, AV.ptr 3 0, AV.int .i64 n55, AV.int .i64 n56, AV.int .i64 n57, AV.int .i64 n58], [HB.live (Blk.ints .u64 xs59), HB.live (Blk.any [AV.int .i64 n60, AV.sl 0 0 l61 1]), HB.live (Blk.any [AV.int .i64 n62, AV.esl, AV.esl, AV.esl]), HB.live (Blk.any [AV.int .i64 n63, AV.sl 0 0 l64 1, AV.sl 4 0 l65 1, AV.esl]), HB.live (Blk.ints .i64 xs66)] => plain_Build_j11 n55 n56 n57 n58 xs59 n60 l61 n62 n63 l64 l65 xs66 (fun x0 x1 x2 x3 x4 x5 x6 x7 x8 x9 x10 x11 x12 => K (Ex.normal) (St.mk (spread 64 0 [1, 2, 4, 5, 16, 17] [AV.ptr 1 0, AV.ptr 2 0, AV.ptr 3 0, AV.int .i64 x0, AV.int .i64 x1, AV.int .i64 x2]) [HB.live (Blk.ints .u64 x3), HB.live (Blk.any [AV.int .i64 x4, AV.sl 0 0 x5 1]), HB.live (Blk.any [AV.int .i64 x6, AV.esl, AV.esl, AV.esl]), HB.live (Blk.any [AV.int .i64 x7, AV.sl 0 0 x8 1, AV.sl 4 0 x9 1, AV.sl 5 0 x10 1]), HB.live (Blk.ints .i64 x11), HB.live (Blk.ints .i64 x12)])) (fun x0 x1 x2 x3 x4 x5 x6 x7 x8 x9 x10 => K (Ex.normal) (St.mk (spread 64 0 [1, 2, 4, 5, 16, 17] [AV.ptr 1 0, AV.ptr 2 0, AV.ptr 3 0, AV.int .i64 x0, AV.int .i64 x1, AV.int .i64 x2]) [HB.live (Blk.ints .u64 x3), HB.live (Blk.any [AV.int .i64 x4, AV.sl 0 0 x5 1]), HB.live (Blk.any [AV.int .i64 x6, AV.esl, AV.esl, AV.esl]), HB.live (Blk.any [AV.int .i64 x7, AV.sl 0 0 x8 1, AV.sl 4 0 x9 1, AV.esl]), HB.live (Blk.ints .i64 x10)]))
  | [AV.ptr 1 0, AV.ptr 2 0, AV.ptr 3 0, AV.int .i64 n135, AV.int .i64 n136, AV.int .i64 n137, AV.int .i64 n138], [HB.live (Blk.ints .u64 xs139), HB.live (Blk.any [AV.int .i64 n140, AV.sl 0 0 l141 1]), HB.live (Blk.any [AV.int .i64 n142, AV.esl, AV.esl, AV.esl]), HB.live (Blk.any [AV.int .i64 n143, AV.sl 0 0 l144 1, AV.sl 4 0 l145 1, AV.sl 5 0 l146 1]), HB.live (Blk.ints .i64 xs147), HB.live (Blk.ints .i64 xs148)] => plain_Build_j11_1 n135 n136 n137 n138 xs139 n140 l141 n142 n143 l144 l145 l146 xs147 xs148 (fun x0 x1 x2 x3 x4 x5 x6 x7 x8 x9 x10 x11 x12 => K (Ex.normal) (St.mk (spread 64 0 [1, 2, 4, 5, 16, 17] [AV.ptr 1 0, AV.ptr 2 0, AV.ptr 3 0, AV.int .i64 x0, AV.int .i64 x1, AV.int .i64 x2]) [HB.live (Blk.ints .u64 x3), HB.live (Blk.any [AV.int .i64 x4, AV.sl 0 0 x5 1]), HB.live (Blk.any [AV.int .i64 x6, AV.esl, AV.esl, AV.esl]), HB.live (Blk.any [AV.int .i64 x7, AV.sl 0 0 x8 1, AV.sl 4 0 x9 1, AV.sl 5 0 x10 1]), HB.live (Blk.ints .i64 x11), HB.live (Blk.ints .i64 x12)]))
  | [AV.ptr 1 0, AV.ptr 2 0, AV.ptr 3 0, AV.int .i64 n314, AV.int .i64 n315, AV.int .i64 n316, AV.int .i64 n317], [HB.live (Blk.ints .u64 xs318), HB.live (Blk.any [AV.int .i64 n319, AV.sl 0 0 l320 1]), HB.live (Blk.any [AV.int .i64 n321, AV.esl, AV.esl, AV.esl]), HB.live (Blk.any [AV.int .i64 n322, AV.sl 0 0 l323 1, AV.esl, AV.esl])] => plain_Build_j11_2 n314 n315 n316 n317 xs318 n319 l320 n321 n322 l323 (fun x0 x1 x2 x3 x4 x5 x6 x7 x8 => K (Ex.normal) (St.mk (spread 64 0 [1, 2, 4, 5, 16, 17] [AV.ptr 1 0, AV.ptr 2 0, AV.ptr 3 0, AV.int .i64 x0, AV.int .i64 x1, AV.int .i64 x2]) [HB.live (Blk.ints .u64 x3), HB.live (Blk.any [AV.int .i64 x4, AV.sl 0 0 x5 1]), HB.live (Blk.any [AV.int .i64 x6, AV.esl, AV.esl, AV.esl]), HB.live (Blk.any [AV.int .i64 x7, AV.sl 0 0 x8 1, AV.esl, AV.esl])]))
  | _, _ => none

noncomputable def o33r1 : Nat → Option PSpec := lkN [(7400, fun st _ K => pickM 64 [1, 2, 4, 5, 16, 17] st (o33r1_7400_in K)), (10000, fun st _ K => pickM 64 [1, 2, 4, 5, 6, 16, 17, 29] st (o33r1_10000_in K)), (11000, fun st _ K => pickM 64 [1, 2, 4, 5, 6, 16, 17] st (o33r1_11000_in K))]
noncomputable def q33r1 : CallF := evFun (V 33) S75 T72 10

noncomputable def c33r1_7400 : Code := subC [1, 1, 1, 1, 0, 1, 0, 0] (bodyOf Tryd.f33)

noncomputable def lp33r1_7400 {R : Type} (N : Nat) (st : St) (K : Ex → St → Option R) : Option R := evLoop (norm ((V 33).keep 33 (Ev.keyOf c33r1_7400 * 1000 + 400)) 1) (evCode (V 33) q33r1 o33r1 33 1 3992 c33r1_7400) N st (kOut (V 33) 33 1 (Ev.keyOf c33r1_7400 * 1000 + 401) K)

noncomputable def c33r1_11000 : Code := subC [1, 1, 1, 1, 0, 1, 0, 0, 1, 1, 0, 0, 1, 1] (bodyOf Tryd.f33)

noncomputable def c33r1_10000 : Code := subC [1, 1, 1, 1, 0, 1, 0, 0, 1, 1, 0, 0, 1, 0, 1] (bodyOf Tryd.f33)

theorem plain_Build_l7_1_L_eq {R : Type} (K : Ex → St → Option R) : ∀ N : Nat, (fun (n90 : Int) (n91 : Int) (n92 : Int) (xs93 : List Int) (n94 : Int) (l95 : Nat) (n96 : Int) (n97 : Int) (l98 : Nat) (l99 : Nat) (l100 : Nat) (xs101 : List Int) (xs102 : List Int) => lp33r1_7400 N (St.mk (spread 64 0 [1, 2, 4, 5, 16, 17] [AV.ptr 1 0, AV.ptr 2 0, AV.ptr 3 0, AV.int .i64 n90, AV.int .i64 n91, AV.int .i64 n92]) [HB.live (Blk.ints .u64 xs93), HB.live (Blk.any [AV.int .i64 n94, AV.sl 0 0 l95 1]), HB.live (Blk.any [AV.int .i64 n96, AV.esl, AV.esl, AV.esl]), HB.live (Blk.any [AV.int .i64 n97, AV.sl 0 0 l98 1, AV.sl 4 0 l99 1, AV.sl 5 0 l100 1]), HB.live (Blk.ints .i64 xs101), HB.live (Blk.ints .i64 xs102)]) K) = plain_Build_l7_1_L (fun x0 x1 x2 x3 x4 x5 x6 x7 => K (Ex.exit 0) (St.mk (spread 64 0 [2, 4] [AV.ptr 1 0, AV.ptr 2 0]) [HB.live (Blk.ints .u64 x0), HB.live (Blk.any [AV.int .i64 x1, AV.esl, AV.esl, AV.esl]), HB.live (Blk.any [AV.int .i64 x2, AV.sl 0 0 x3 1, AV.sl 3 0 x4 1, AV.sl 4 0 x5 1]), HB.live (Blk.ints .i64 x6), HB.live (Blk.ints .i64 x7)])) N
  | 0 => by funext n90 n91 n92 xs93 n94 l95 n96 n97 l98 l99 l100 xs101 xs102; rfl
  | N + 1 => by
    funext n90 n91 n92 xs93 n94 l95 n96 n97 l98 l99 l100 xs101 xs102
    simp only [plain_Build_l7_1_L]
    rw [← plain_Build_l7_1_L_eq K N]
    kernel_rfl

theorem plain_Build_l7_2_L_eq {R : Type} (K : Ex → St → Option R) : ∀ N : Nat, (fun (n205 : Int) (n206 : Int) (n207 : Int) (xs208 : List Int) (n209 : Int) (l210 : Nat) (n211 : Int) (n212 : Int) (l213 : Nat) (l214 : Nat) (xs215 : List Int) => lp33r1_7400 N (St.mk (spread 64 0 [1, 2, 4, 5, 16, 17] [AV.ptr 1 0, AV.ptr 2 0, AV.ptr 3 0, AV.int .i64 n205, AV.int .i64 n206, AV.int .i64 n207]) [HB.live (Blk.ints .u64 xs208), HB.live (Blk.any [AV.int .i64 n209, AV.sl 0 0 l210 1]), HB.live (Blk.any [AV.int .i64 n211, AV.esl, AV.esl, AV.esl]), HB.live (Blk.any [AV.int .i64 n212, AV.sl 0 0 l213 1, AV.sl 4 0 l214 1, AV.esl]), HB.live (Blk.ints .i64 xs215)]) K) = plain_Build_l7_2_L (fun x0 x1 x2 x3 x4 x5 x6 x7 => K (Ex.exit 0) (St.mk (spread 64 0 [2, 4] [AV.ptr 1 0, AV.ptr 2 0]) [HB.live (Blk.ints .u64 x0), HB.live (Blk.any [AV.int .i64 x1, AV.esl, AV.esl, AV.esl]), HB.live (Blk.any [AV.int .i64 x2, AV.sl 0 0 x3 1, AV.sl 3 0 x4 1, AV.sl 4 0 x5 1]), HB.live (Blk.ints .i64 x6), HB.live (Blk.ints .i64 x7)])) (fun x0 x1 x2 x3 x4 x5 => K (Ex.exit 0) (St.mk (spread 64 0 [2, 4] [AV.ptr 1 0, AV.ptr 2 0]) [HB.live (Blk.ints .u64 x0), HB.live (Blk.any [AV.int .i64 x1, AV.esl, AV.esl, AV.esl]), HB.live (Blk.any [AV.int .i64 x2, AV.sl 0 0 x3 1, AV.sl 3 0 x4 1, AV.esl]), HB.live (Blk.ints .i64 x5)])) N
  | 0 => by funext n205 n206 n207 xs208 n209 l210 n211 n212 l213 l214 xs215; rfl
  | N + 1 => by
    funext n205 n206 n207 xs208 n209 l210 n211 n212 l213 l214 xs215
    simp only [plain_Build_l7_2_L]
    rw [← plain_Build_l7_2_L_eq K N, ← plain_Build_l7_1_L_eq K N]
    kernel_rfl

theorem plain_Build_l7_L_eq {R : Type} (K : Ex → St → Option R) : ∀ N : Nat, (fun (n21 : Int) (n22 : Int) (n23 : Int) (xs24 : List Int) (n25 : Int) (l26 : Nat) (n27 : Int) (n28 : Int) (l29 : Nat) => lp33r1_7400 N (St.mk (spread 64 0 [1, 2, 4, 5, 16, 17] [AV.ptr 1 0, AV.ptr 2 0, AV.ptr 3 0, AV.int .i64 n21, AV.int .i64 n22, AV.int .i64 n23]) [HB.live (Blk.ints .u64 xs24), HB.live (Blk.any [AV.int .i64 n25, AV.sl 0 0 l26 1]), HB.live (Blk.any [AV.int .i64 n27, AV.esl, AV.esl, AV.esl]), HB.live (Blk.any [AV.int .i64 n28, AV.sl 0 0 l29 1, AV.esl, AV.esl])]) K) = plain_Build_l7_L (fun x0 x1 x2 x3 x4 x5 x6 x7 => K (Ex.exit 0) (St.mk (spread 64 0 [2, 4] [AV.ptr 1 0, AV.ptr 2 0]) [HB.live (Blk.ints .u64 x0), HB.live (Blk.any [AV.int .i64 x1, AV.esl, AV.esl, AV.esl]), HB.live (Blk.any [AV.int .i64 x2, AV.sl 0 0 x3 1, AV.sl 3 0 x4 1, AV.sl 4 0 x5 1]), HB.live (Blk.ints .i64 x6), HB.live (Blk.ints .i64 x7)])) (fun x0 x1 x2 x3 x4 x5 => K (Ex.exit 0) (St.mk (spread 64 0 [2, 4] [AV.ptr 1 0, AV.ptr 2 0]) [HB.live (Blk.ints .u64 x0), HB.live (Blk.any [AV.int .i64 x1, AV.esl, AV.esl, AV.esl]), HB.live (Blk.any [AV.int .i64 x2, AV.sl 0 0 x3 1, AV.sl 3 0 x4 1, AV.esl]), HB.live (Blk.ints .i64 x5)])) (fun x0 x1 x2 x3 => K (Ex.exit 0) (St.mk (spread 64 0 [2, 4] [AV.ptr 1 0, AV.ptr 2 0]) [HB.live (Blk.ints .u64 x0), HB.live (Blk.any [AV.int .i64 x1, AV.esl, AV.esl, AV.esl]), HB.live (Blk.any [AV.int .i64 x2, AV.sl 0 0 x3 1, AV.esl, AV.esl])])) N
  | 0 => by funext n21 n22 n23 xs24 n25 l26 n27 n28 l29; rfl
  | N + 1 => by
    funext n21 n22 n23 xs24 n25 l26 n27 n28 l29
    simp only [plain_Build_l7_L]
    rw [← plain_Build_l7_L_eq K N, ← plain_Build_l7_1_L_eq K N, ← plain_Build_l7_2_L_eq K N]
    kernel_rfl

theorem plain_Build_j11_eq {R : Type} (K : Ex → St → Option R) (n55 : Int) (n56 : Int) (n57 : Int) (n58 : Int) (xs59 : List Int) (n60 : Int) (l61 : Nat) (n62 : Int) (n63 : Int) (l64 : Nat) (l65 : Nat) (xs66 : List Int) : evCode (V 33) q33r1 o33r1 33 1 3986 c33r1_11000 (St.mk (spread 64 0 [1, 2, 4, 5, 6, 16, 17] [AV.ptr 1 0, AV.ptr 2 0, AV.ptr 3 0, AV.int .i64 n55, AV.int .i64 n56, AV.int .i64 n57, AV.int .i64 n58]) [HB.live (Blk.ints .u64 xs59), HB.live (Blk.any [AV.int .i64 n60, AV.sl 0 0 l61 1]), HB.live (Blk.any [AV.int .i64 n62, AV.esl, AV.esl, AV.esl]), HB.live (Blk.any [AV.int .i64 n63, AV.sl 0 0 l64 1, AV.sl 4 0 l65 1, AV.esl]), HB.live (Blk.ints .i64 xs66)]) (kOut (V 33) 33 1 (Ev.keyOf c33r1_11000 * 1000 + 1) K) = plain_Build_j11_B n55 n56 n57 n58 xs59 n60 l61 n62 n63 l64 l65 xs66 (fun x0 x1 x2 x3 x4 x5 x6 x7 x8 x9 x10 x11 x12 => K (Ex.normal) (St.mk (spread 64 0 [1, 2, 4, 5, 16, 17] [AV.ptr 1 0, AV.ptr 2 0, AV.ptr 3 0, AV.int .i64 x0, AV.int .i64 x1, AV.int .i64 x2]) [HB.live (Blk.ints .u64 x3), HB.live (Blk.any [AV.int .i64 x4, AV.sl 0 0 x5 1]), HB.live (Blk.any [AV.int .i64 x6, AV.esl, AV.esl, AV.esl]), HB.live (Blk.any [AV.int .i64 x7, AV.sl 0 0 x8 1, AV.sl 4 0 x9 1, AV.sl 5 0 x10 1]), HB.live (Blk.ints .i64 x11), HB.live (Blk.ints .i64 x12)])) (fun x0 x1 x2 x3 x4 x5 x6 x7 x8 x9 x10 => K (Ex.normal) (St.mk (spread 64 0 [1, 2, 4, 5, 16, 17] [AV.ptr 1 0, AV.ptr 2 0, AV.ptr 3 0, AV.int .i64 x0, AV.int .i64 x1, AV.int .i64 x2]) [HB.live (Blk.ints .u64 x3), HB.live (Blk.any [AV.int .i64 x4, AV.sl 0 0 x5 1]), HB.live (Blk.any [AV.int .i64 x6, AV.esl, AV.esl, AV.esl]), HB.live (Blk.any [AV.int .i64 x7, AV.sl 0 0 x8 1, AV.sl 4 0 x9 1, AV.esl]), HB.live (Blk.ints .i64 x10)])) := by kernel_rfl

theorem plain_Build_j11_1_eq {R : Type} (K : Ex → St → Option R) (n135 : Int) (n136 : Int) (n137 : Int) (n138 : Int) (xs139 : List Int) (n140 : Int) (l141 : Nat) (n142 : Int) (n143 : Int) (l144 : Nat) (l145 : Nat) (l146 : Nat) (xs147 : List Int) (xs148 : List Int) : evCode (V 33) q33r1 o33r1 33 1 3986 c33r1_11000 (St.mk (spread 64 0 [1, 2, 4, 5, 6, 16, 17] [AV.ptr 1 0, AV.ptr 2 0, AV.ptr 3 0, AV.int .i64 n135, AV.int .i64 n136, AV.int .i64 n137, AV.int .i64 n138]) [HB.live (Blk.ints .u64 xs139), HB.live (Blk.any [AV.int .i64 n140, AV.sl 0 0 l141 1]), HB.live (Blk.any [AV.int .i64 n142, AV.esl, AV.esl, AV.esl]), HB.live (Blk.any [AV.int .i64 n143, AV.sl 0 0 l144 1, AV.sl 4 0 l145 1, AV.sl 5 0 l146 1]), HB.live (Blk.ints .i64 xs147), HB.live (Blk.ints .i64 xs148)]) (kOut (V 33) 33 1 (Ev.keyOf c33r1_11000 * 1000 + 1) K) = plain_Build_j11_1_B n135 n136 n137 n138 xs139 n140 l141 n142 n143 l144 l145 l146 xs147 xs148 (fun x0 x1 x2 x3 x4 x5 x6 x7 x8 x9 x10 x11 x12 => K (Ex.normal) (St.mk (spread 64 0 [1, 2, 4, 5, 16, 17] [AV.ptr 1 0, AV.ptr 2 0, AV.ptr 3 0, AV.int .i64 x0, AV.int .i64 x1, AV.int .i64 x2]) [HB.live (Blk.ints .u64 x3), HB.live (Blk.any [AV.int .i64 x4, AV.sl 0 0 x5 1]), HB.live (Blk.any [AV.int .i64 x6, AV.esl, AV.esl, AV.esl]), HB.live (Blk.any [AV.int .i64 x7, AV.sl 0 0 x8 1, AV.sl 4 0 x9 1, AV.sl 5 0 x10 1]), HB.live (Blk.ints .i64 x11), HB.live (Blk.ints .i64 x12)])) := by kernel_rfl

theorem p33r1_7400 : PieceOk (V 33) q33r1 o33r1 33 1 (3992, 1, c33r1_7400) := .l (size := 64) (ss := [1, 2, 4, 5, 16, 17]) (F := @o33r1_7400_in) (by kernel_rfl) (by kernel_rfl) fun R r K vs hh h => by
  unfold o33r1_7400_in at h; split at h
  · rw [plain_Build_l7_unf] at h; unfold plain_Build_l7_B at h; rw [← plain_Build_l7_L_eq K NR] at h; exact h
  · rw [plain_Build_l7_1_unf] at h; unfold plain_Build_l7_1_B at h; rw [← plain_Build_l7_1_L_eq K NR] at h; exact h
  · rw [plain_Build_l7_2_unf] at h; unfold plain_Build_l7_2_B at h; rw [← plain_Build_l7_2_L_eq K NR] at h; exact h
  · cases h

theorem p33r1_11000 : PieceOk (V 33) q33r1 o33r1 33 1 (3986, 0, c33r1_11000) := .s (size := 64) (ss := [1, 2, 4, 5, 6, 16, 17]) (F := @o33r1_11000_in) (by kernel_rfl) fun R r K vs hh h => by
  unfold o33r1_11000_in at h; split at h
  · rw [plain_Build_j11_unf] at h; exact (plain_Build_j11_eq K _ _ _ _ _ _ _ _ _ _ _ _).trans h
  · rw [plain_Build_j11_1_unf] at h; exact (plain_Build_j11_1_eq K _ _ _ _ _ _ _ _ _ _ _ _ _ _).trans h
  · rw [plain_Build_j11_2_unf] at h; exact Eq.trans (by kernel_rfl) h
  · cases h

theorem p33r1_10000 : PieceOk (V 33) q33r1 o33r1 33 1 (3985, 0, c33r1_10000) := .s (size := 64) (ss := [1, 2, 4, 5, 6, 16, 17, 29]) (F := @o33r1_10000_in) (by kernel_rfl) fun R r K vs hh h => by
  unfold o33r1_10000_in at h; split at h
  · rw [plain_Build_j10_unf] at h; exact Eq.trans (by kernel_rfl) h
  · rw [plain_Build_j10_1_unf] at h; exact Eq.trans (by kernel_rfl) h
  · rw [plain_Build_j10_2_unf] at h; exact Eq.trans (by kernel_rfl) h
  · cases h

theorem pc33r1 : ∀ x ∈ [(3992, 1, c33r1_7400), (3986, 0, c33r1_11000), (3985, 0, c33r1_10000)], PieceOk (V 33) q33r1 o33r1 33 1 x := List.forall_mem_cons.2 ⟨p33r1_7400, List.forall_mem_cons.2 ⟨p33r1_11000, List.forall_mem_cons.2 ⟨p33r1_10000, fun _ h => nomatch h⟩⟩⟩

noncomputable def hs33 : HSpec := fun args h _ K => match args, h with
  | [AV.agg (Blk.any [AV.int .i64 n3, AV.sl 0 0 l4 1])], [HB.live (Blk.ints .u64 xs5)] => plain_Build_r n3 l4 xs5 (fun x0 x1 x2 => K (AV.tup [AV.agg (Blk.any [AV.int .i64 x0, AV.esl, AV.esl, AV.esl]), AV.int .i64 x1]) ([HB.live (Blk.ints .u64 x2)])) (fun x0 x1 x2 x3 x4 x5 x6 x7 => K (AV.tup [AV.agg (Blk.any [AV.int .i64 x0, AV.sl 0 0 x1 1, AV.sl 1 0 x2 1, AV.sl 2 0 x3 1]), AV.int .i64 x4]) ([HB.live (Blk.ints .u64 x5), HB.live (Blk.ints .i64 x6), HB.live (Blk.ints .i64 x7)])) (fun x0 x1 x2 x3 x4 x5 => K (AV.tup [AV.agg (Blk.any [AV.int .i64 x0, AV.sl 0 0 x1 1, AV.sl 1 0 x2 1, AV.esl]), AV.int .i64 x3]) ([HB.live (Blk.ints .u64 x4), HB.live (Blk.ints .i64 x5)])) (fun x0 x1 x2 x3 => K (AV.tup [AV.agg (Blk.any [AV.int .i64 x0, AV.sl 0 0 x1 1, AV.esl, AV.esl]), AV.int .i64 x2]) ([HB.live (Blk.ints .u64 x3)]))
  | _, _ => none
noncomputable def T33 := addT 33 hs33 T72
theorem D6 : Dom V S75 T33 6 := Dom.t D5 fun args hh R K r h => by
  unfold hs33 at h; split at h
  · rw [plain_Build_r_unf] at h; exact ⟨o33r1, (OrcOk.fn (fn0 := Tryd.f33) (by kernel_rfl) (by kernel_rfl) pc33r1), Eq.trans (by kernel_rfl) h⟩
  · cases h

noncomputable def o72_4000_in {R : Type} (K : Ex → St → Option R) (vs : List AV) (hh : H) : Option R := match vs, hh with
  | [AV.ptr 0 0], [HB.live (Blk.any [AV.int .i64 n423, AV.fsl (Blk.ints .u64 xs424)])] => bits_Check_j4_1 n423 xs424 (fun x0 => K (Ex.ret) (St.mk (spread 40 0 [2] [AV.bool x0]) []))
  | _, _ => none

noncomputable def o72 : Nat → Option PSpec := lkN [(4000, fun st _ K => pickM 40 [1] st (o72_4000_in K))]
noncomputable def q72 : CallF := evFun (V 72) S75 T33 10

noncomputable def c72_4000 : Code := subC [1, 1] (bodyOf Tryd.f72)

theorem p72_4000 : PieceOk (V 72) q72 o72 72 0 (3998, 0, c72_4000) := .s (size := 40) (ss := [1]) (F := @o72_4000_in) (by kernel_rfl) fun R r K vs hh h => by
  unfold o72_4000_in at h; split at h
  · rw [bits_Check_j4_1_unf] at h; exact Eq.trans (by kernel_rfl) h
  · cases h

theorem pc72 : ∀ x ∈ [(3998, 0, c72_4000)], PieceOk (V 72) q72 o72 72 0 x := List.forall_mem_cons.2 ⟨p72_4000, fun _ h => nomatch h⟩

noncomputable def sp72 : Ev.Spec := fun args _ K => match args with
  | ([AV.agg (Blk.any [AV.int .i64 n420, AV.fsl (Blk.ints .u64 xs421)])]) => bits_Check n420 xs421 (fun x0 => K (AV.bool x0))
  | _ => none
noncomputable def S72 := addS 72 sp72 S75
theorem D7 : Dom V S72 T33 7 := Dom.s (m := 6) (n := 0) D6 D6 (O := o72) (OrcOk.fn (fn0 := Tryd.f72) (by kernel_rfl) (by kernel_rfl) pc72) fun args R K r h => by
  unfold sp72 at h; split at h
  · rw [bits_Check_unf] at h; exact Eq.trans (by kernel_rfl) h
  · cases h

noncomputable def o33_7400_in {R : Type} (K : Ex → St → Option R) (vs : List AV) (hh : H) : Option R := match vs, hh with
  | [AV.ptr 0 0, AV.ptr 1 0, AV.ptr 2 0, AV.int .i64 n429, AV.int .i64 n430, AV.int .i64 n431], [HB.live (Blk.any [AV.int .i64 n432, AV.fsl (Blk.ints .u64 xs433)]), HB.live (Blk.any [AV.int .i64 n434, AV.esl, AV.esl, AV.esl]), HB.live (Blk.any [AV.int .i64 n435, AV.fsl (Blk.ints .u64 xs436), AV.esl, AV.esl])] => plain_Build_l7_3 n429 n430 n431 n432 xs433 n434 n435 xs436 (fun x0 x1 x2 x3 x4 x5 x6 => K (Ex.exit 0) (St.mk (spread 64 0 [2, 4] [AV.ptr 0 0, AV.ptr 1 0]) [HB.live (Blk.any [AV.int .i64 x0, AV.esl, AV.esl, AV.esl]), HB.live (Blk.any [AV.int .i64 x1, AV.fsl (Blk.ints .u64 x2), AV.sl 2 0 x3 1, AV.sl 3 0 x4 1]), HB.live (Blk.ints .i64 x5), HB.live (Blk.ints .i64 x6)])) (fun x0 x1 x2 x3 x4 => K (Ex.exit 0) (St.mk (spread 64 0 [2, 4] [AV.ptr 0 0, AV.ptr 1 0]) [HB.live (Blk.any [AV.int .i64 x0, AV.esl, AV.esl, AV.esl]), HB.live (Blk.any [AV.int .i64 x1, AV.fsl (Blk.ints .u64 x2), AV.sl 2 0 x3 1, AV.esl]), HB.live (Blk.ints .i64 x4)])) (fun x0 x1 x2 => K (Ex.exit 0) (St.mk (spread 64 0 [2, 4] [AV.ptr 0 0, AV.ptr 1 0]) [HB.live (Blk.any [AV.int .i64 x0, AV.esl, AV.esl, AV.esl]), HB.live (Blk.any [AV.int .i64 x1, AV.fsl (Blk.ints .u64 x2), AV.esl, AV.esl])]))
  | [AV.ptr 0 0, AV.ptr 1 0, AV.ptr 2 0, AV.int .i64 n487, AV.int .i64 n488, AV.int .i64 n489], [HB.live (Blk.any [AV.int .i64 n490, AV.fsl (Blk.ints .u64 xs491)]), HB.live (Blk.any [AV.int .i64 n492, AV.esl, AV.esl, AV.esl]), HB.live (Blk.any [AV.int .i64 n493, AV.fsl (Blk.ints .u64 xs494), AV.sl 3 0 l495 1, AV.sl 4 0 l496 1]), HB.live (Blk.ints .i64 xs497), HB.live (Blk.ints .i64 xs498)] => plain_Build_l7_4 n487 n488 n489 n490 xs491 n492 n493 xs494 l495 l496 xs497 xs498 (fun x0 x1 x2 x3 x4 x5 x6 => K (Ex.exit 0) (St.mk (spread 64 0 [2, 4] [AV.ptr 0 0, AV.ptr 1 0]) [HB.live (Blk.any [AV.int .i64 x0, AV.esl, AV.esl, AV.esl]), HB.live (Blk.any [AV.int .i64 x1, AV.fsl (Blk.ints .u64 x2), AV.sl 2 0 x3 1, AV.sl 3 0 x4 1]), HB.live (Blk.ints .i64 x5), HB.live (Blk.ints .i64 x6)]))
  | [AV.ptr 0 0, AV.ptr 1 0, AV.ptr 2 0, AV.int .i64 n594, AV.int .i64 n595, AV.int .i64 n596], [HB.live (Blk.any [AV.int .i64 n597, AV.fsl (Blk.ints .u64 xs598)]), HB.live (Blk.any [AV.int .i64 n599, AV.esl, AV.esl, AV.esl]), HB.live (Blk.any [AV.int .i64 n600, AV.fsl (Blk.ints .u64 xs601), AV.sl 3 0 l602 1, AV.esl]), HB.live (Blk.ints .i64 xs603)] => plain_Build_l7_5 n594 n595 n596 n597 xs598 n599 n600 xs601 l602 xs603 (fun x0 x1 x2 x3 x4 x5 x6 => K (Ex.exit 0) (St.mk (spread 64 0 [2, 4] [AV.ptr 0 0, AV.ptr 1 0]) [HB.live (Blk.any [AV.int .i64 x0, AV.esl, AV.esl, AV.esl]), HB.live (Blk.any [AV.int .i64 x1, AV.fsl (Blk.ints .u64 x2), AV.sl 2 0 x3 1, AV.sl 3 0 x4 1]), HB.live (Blk.ints .i64 x5), HB.live (Blk.ints .i64 x6)])) (fun x0 x1 x2 x3 x4 => K (Ex.exit 0) (St.mk (spread 64 0 [2, 4] [AV.ptr 0 0, AV.ptr 1 0]) [HB.live (Blk.any [AV.int .i64 x0, AV.esl, AV.esl, AV.esl]), HB.live (Blk.any [AV.int .i64 x1, AV.fsl (Blk.ints .u64 x2), AV.sl 2 0 x3 1, AV.esl]), HB.live (Blk.ints .i64 x4)]))
  | _, _ => none

noncomputable def o33_10000_in {R : Type} (K : Ex → St → Option R) (vs : List AV) (hh : H) : Option R := match vs, hh with
  | [AV.ptr 0 0, AV.ptr 1 0, AV.ptr 2 0, AV.int .i64 n437, AV.int .i64 n438, AV.int .i64 n439, AV.int .i64 n440, AV.bool b441], [HB.live (Blk.any [AV.int .i64 n442, AV.fsl (Blk.ints .u64 xs443)]), HB.live (Blk.any [AV.int .i64 n444, AV.esl, AV.esl, AV.esl]), HB.live (Blk.any [AV.int .i64 n445, AV.fsl (Blk.ints .u64 xs446), AV.esl, AV.esl])] => plain_Build_j10_3 n437 n438 n439 n440 b441 n442 xs443 n444 n445 xs446 (fun x0 x1 x2 x3 x4 x5 x6 x7 x8 x9 x10 => K (Ex.normal) (St.mk (spread 64 0 [1, 2, 4, 5, 6, 16, 17] [AV.ptr 0 0, AV.ptr 1 0, AV.ptr 2 0, AV.int .i64 x0, AV.int .i64 x1, AV.int .i64 x2, AV.int .i64 x3]) [HB.live (Blk.any [AV.int .i64 x4, AV.fsl (Blk.ints .u64 x5)]), HB.live (Blk.any [AV.int .i64 x6, AV.esl, AV.esl, AV.esl]), HB.live (Blk.any [AV.int .i64 x7, AV.fsl (Blk.ints .u64 x8), AV.sl 3 0 x9 1, AV.esl]), HB.live (Blk.ints .i64 x10)])) (fun x0 x1 x2 x3 x4 x5 x6 x7 x8 => K (Ex.normal) (St.mk (spread 64 0 [1, 2, 4, 5, 6, 16, 17] [AV.ptr 0 0, AV.ptr 1 0, AV.ptr 2 0, AV.int .i64 x0, AV.int .i64 x1, AV.int .i64 x2, AV.int .i64 x3]) [HB.live (Blk.any [AV.int .i64 x4, AV.fsl (Blk.ints .u64 x5)]), HB.live (Blk.any [AV.int .i64 x6, AV.esl, AV.esl, AV.esl]), HB.live (Blk.any [AV.int .i64 x7, AV.fsl (Blk.ints .u64 x8), AV.esl, AV.esl])]))
  | [AV.ptr 0 0, AV.ptr 1 0, AV.ptr 2 0, AV.int .i64 n499, AV.int .i64 n500, AV.int .i64 n501, AV.int .i64 n502, AV.bool b503], [HB.live (Blk.any [AV.int .i64 n504, AV.fsl (Blk.ints .u64 xs505)]), HB.live (Blk.any [AV.int .i64 n506, AV.esl, AV.esl, AV.esl]), HB.live (Blk.any [AV.int .i64 n507, AV.fsl (Blk.ints .u64 xs508), AV.sl 3 0 l509 1, AV.sl 4 0 l510 1]), HB.live (Blk.ints .i64 xs511), HB.live (Blk.ints .i64 xs512)] => plain_Build_j10_4 n499 n500 n501 n502 b503 n504 xs505 n506 n507 xs508 l509 l510 xs511 xs512 (fun x0 x1 x2 x3 x4 x5 x6 x7 x8 x9 x10 x11 x12 => K (Ex.normal) (St.mk (spread 64 0 [1, 2, 4, 5, 6, 16, 17] [AV.ptr 0 0, AV.ptr 1 0, AV.ptr 2 0, AV.int .i64 x0, AV.int .i64 x1, AV.int .i64 x2, AV.int .i64 x3]) [HB.live (Blk.any [AV.int .i64 x4, AV.fsl (Blk.ints .u64 x5)]), HB.live (Blk.any [AV.int .i64 x6, AV.esl, AV.esl, AV.esl]), HB.live (Blk.any [AV.int .i64 x7, AV.fsl (Blk.ints .u64 x8), AV.sl 3 0 x9 1, AV.sl 4 0 x10 1]), HB.live (Blk.ints .i64 x11), HB.live (Blk.ints .i64 x12)]))
  | [AV.ptr 0 0, AV.ptr 1 0, AV.ptr 2 0, AV.int .i64 n604, AV.int .i64 n605, AV.int .i64 n606, AV.int .i64 n607, AV.bool b608], [HB.live (Blk.any [AV.int .i64 n609, AV.fsl (Blk.ints .u64 xs610)]), HB.live (Blk.any [AV.int .i64 n611, AV.esl, AV.esl, AV.esl]), HB.live (Blk.any [AV.int .i64 n612, AV.fsl (Blk.ints .u64 xs613), AV.sl 3 0 l614 1, AV.esl]), HB.live (Blk.ints .i64 xs615)] => plain_Build_j10_5 n604 n605 n606 n607 b608 n609 xs610 n611 n612 xs613 l614 xs615 (fun x0 x1 x2 x3 x4 x5 x6 x7 x8 x9 x10 => K (Ex.normal) (St.mk (spread 64 0 [1, 2, 4, 5, 6, 16, 17] [AV.ptr 0 0, AV.ptr 1 0, AV.ptr 2 0, AV.int .i64 x0, AV.int .i64 x1, AV.int .i64 x2, AV.int .i64 x3]) [HB.live (Blk.any [AV.int .i64 x4, AV.fsl (Blk.ints .u64 x5)]), HB.live (Blk.any [AV.int .i64 x6, AV.esl, AV.esl, AV.esl]), HB.live (Blk.any [AV.int .i64 x7, AV.fsl (Blk.ints .u64 x8), AV.sl 3 0 x9 1, AV.esl]), HB.live (Blk.ints .i64 x10)]))
  | _, _ => none

noncomputable def o33_11000_in {R : Type} (K : Ex → St → Option R) (vs : List AV) (hh : H) : Option R := match vs, hh with
  | [AV.ptr 0 0, AV.ptr 1 0, AV.ptr 2 0, AV.int .i64 n460, AV.int .i64 n461, AV.int .i64 n462, AV.int .i64 n463], [HB.live (Blk.any [AV.int .i64 n464, AV.fsl (Blk.ints .u64 xs465)]), HB.live (Blk.any [AV.int .i64 n466, AV.esl, AV.esl, AV.esl]), HB.live (Blk.any [AV.int .i64 n467, AV.fsl (Blk.ints .u64 xs468), AV.sl 3 0 l469 1, AV.esl]), HB.live (Blk.ints .i64 xs470)] => plain_Build_j11_3 n460 n461 n462 n463 n464 xs465 n466 n467 xs468 l469 xs470 (fun x0 x1 x2 x3 x4 x5 x6 x7 x8 x9 x10 x11 => K (Ex.normal) (St.mk (spread 64 0 [1, 2, 4, 5, 16, 17] [AV.ptr 0 0, AV.ptr 1 0, AV.ptr 2 0, AV.int .i64 x0, AV.int .i64 x1, AV.int .i64 x2]) [HB.live (Blk.any [AV.int .i64 x3, AV.fsl (Blk.ints .u64 x4)]), HB.live (Blk.any [AV.int .i64 x5, AV.esl, AV.esl, AV.esl]), HB.live (Blk.any [AV.int .i64 x6, AV.fsl (Blk.ints .u64 x7), AV.sl 3 0 x8 1, AV.sl 4 0 x9 1]), HB.live (Blk.ints .i64 x10), HB.live (Blk.ints .i64 x11)])) (fun x0 x1 x2 x3 x4 x5 x6 x7 x8 x9 => K (Ex.normal) (St.mk (spread 64 0 [1, 2, 4, 5, 16, 17] [AV.ptr 0 0, AV.ptr 1 0, AV.ptr 2 0, AV.int .i64 x0, AV.int .i64 x1, AV.int .i64 x2]) [HB.live (Blk.any [AV.int .i64 x3, AV.fsl (Blk.ints .u64 x4)]), HB.live (Blk.any [AV.int .i64 x5, AV.esl, AV.esl, AV.esl]), HB.live (Blk.any [AV.int .i64 x6, AV.fsl (Blk.ints .u64 x7), AV.sl 3 0 x8 1, AV.esl]), HB.live (Blk.ints .i64 x9)]))
  | [AV.ptr 0 0, AV.ptr 1 0, AV.ptr 2 0, AV.int .i64 n529, AV.int .i64 n530, AV.int .i64 n531, AV.int .i64 n532], [HB.live (Blk.any [AV.int .i64 n533, AV.fsl (Blk.ints .u64 xs534)]), HB.live (Blk.any [AV.int .i64 n535, AV.esl, AV.esl, AV.esl]), HB.live (Blk.any [AV.int .i64 n536, AV.fsl (Blk.ints .u64 xs537), AV.sl 3 0 l538 1, AV.sl 4 0 l539 1]), HB.live (Blk.ints .i64 xs540), HB.live (Blk.ints .i64 xs541)] => plain_Build_j11_4 n529 n530 n531 n532 n533 xs534 n535 n536 xs537 l538 l539 xs540 xs541 (fun x0 x1 x2 x3 x4 x5 x6 x7 x8 x9 x10 x11 => K (Ex.normal) (St.mk (spread 64 0 [1, 2, 4, 5, 16, 17] [AV.ptr 0 0, AV.ptr 1 0, AV.ptr 2 0, AV.int .i64 x0, AV.int .i64 x1, AV.int .i64 x2]) [HB.live (Blk.any [AV.int .i64 x3, AV.fsl (Blk.ints .u64 x4)]), HB.live (Blk.any [AV.int .i64 x5, AV.esl, AV.esl, AV.esl]), HB.live (Blk.any [AV.int .i64 x6, AV.fsl (Blk.ints .u64 x7), AV.sl 3 0 x8 1, AV.sl 4 0 x9 1]), HB.live (Blk.ints .i64 x10), HB.live (Blk.ints .i64 x11)]))
  | [AV.ptr 0 0, AV.ptr 1 0, AV.ptr 2 0, AV.int .i64 n694, AV.int .i64 n695, AV.int .i64 n696, AV.int .i64 n697], [HB.live (Blk.any [AV.int .i64 n698, AV.fsl (Blk.ints .u64 xs699)]), HB.live (Blk.any [AV.int .i64 n700, AV.esl, AV.esl, AV.esl]), HB.live (Blk.any [AV.int .i64 n701, AV.fsl (Blk.ints .u64 xs702), AV.esl, AV.esl])] => plain_Build_j11_5 n694 n695 n696 n697 n698 xs699 n700 n701 xs702 (fun x0 x1 x2 x3 x4 x5 x6 x7 => K (Ex.normal) (St.mk (spread 64 0 [1, 2, 4, 5, 16, 17] [AV.ptr 0 0, AV.ptr 1 0, AV.ptr 2 0, AV.int .i64 x0, AV.int .i64 x1, AV.int .i64 x2]) [HB.live (Blk.any [AV.int .i64 x3, AV.fsl (Blk.ints .u64 x4)]), HB.live (Blk.any [AV.int .i64 x5, AV.esl, AV.esl, AV.esl]), HB.live (Blk.any [AV.int .i64 x6, AV.fsl (Blk.ints .u64 x7), AV.esl, AV.esl])]))
  | _, _ => none

noncomputable def o33 : Nat → Option PSpec := lkN [(7400, fun st _ K => pickM 64 [1, 2, 4, 5, 16, 17] st (o33_7400_in K)), (10000, fun st _ K => pickM 64 [1, 2, 4, 5, 6, 16, 17, 29] st (o33_10000_in K)), (11000, fun st _ K => pickM 64 [1, 2, 4, 5, 6, 16, 17] st (o33_11000_in K))]
noncomputable def q33 : CallF := evFun (V 33) S72 T33 10

noncomputable def c33_7400 : Code := subC [1, 1, 1, 1, 0, 1, 0, 0] (bodyOf Tryd.f33)

noncomputable def lp33_7400 {R : Type} (N : Nat) (st : St) (K : Ex → St → Option R) : Option R := evLoop (norm ((V 33).keep 33 (Ev.keyOf c33_7400 * 1000 + 400)) 0) (evCode (V 33) q33 o33 33 0 3992 c33_7400) N st (kOut (V 33) 33 0 (Ev.keyOf c33_7400 * 1000 + 401) K)

noncomputable def c33_11000 : Code := subC [1, 1, 1, 1, 0, 1, 0, 0, 1, 1, 0, 0, 1, 1] (bodyOf Tryd.f33)

noncomputable def c33_10000 : Code := subC [1, 1, 1, 1, 0, 1, 0, 0, 1, 1, 0, 0, 1, 0, 1] (bodyOf Tryd.f33)

theorem plain_Build_l7_4_L_eq {R : Type} (K : Ex → St → Option R) : ∀ N : Nat, (fun (n487 : Int) (n488 : Int) (n489 : Int) (n490 : Int) (xs491 : List Int) (n492 : Int) (n493 : Int) (xs494 : List Int) (l495 : Nat) (l496 : Nat) (xs497 : List Int) (xs498 : List Int) => lp33_7400 N (St.mk (spread 64 0 [1, 2, 4, 5, 16, 17] [AV.ptr 0 0, AV.ptr 1 0, AV.ptr 2 0, AV.int .i64 n487, AV.int .i64 n488, AV.int .i64 n489]) [HB.live (Blk.any [AV.int .i64 n490, AV.fsl (Blk.ints .u64 xs491)]), HB.live (Blk.any [AV.int .i64 n492, AV.esl, AV.esl, AV.esl]), HB.live (Blk.any [AV.int .i64 n493, AV.fsl (Blk.ints .u64 xs494), AV.sl 3 0 l495 1, AV.sl 4 0 l496 1]), HB.live (Blk.ints .i64 xs497), HB.live (Blk.ints .i64 xs498)]) K) = plain_Build_l7_4_L (fun x0 x1 x2 x3 x4 x5 x6 => K (Ex.exit 0) (St.mk (spread 64 0 [2, 4] [AV.ptr 0 0, AV.ptr 1 0]) [HB.live (Blk.any [AV.int .i64 x0, AV.esl, AV.esl, AV.esl]), HB.live (Blk.any [AV.int .i64 x1, AV.fsl (Blk.ints .u64 x2), AV.sl 2 0 x3 1, AV.sl 3 0 x4 1]), HB.live (Blk.ints .i64 x5), HB.live (Blk.ints .i64 x6)])) N
  | 0 => by funext n487 n488 n489 n490 xs491 n492 n493 xs494 l495 l496 xs497 xs498; rfl
  | N + 1 => by
    funext n487 n488 n489 n490 xs491 n492 n493 xs494 l495 l496 xs497 xs498
    simp only [plain_Build_l7_4_L]
    rw [← plain_Build_l7_4_L_eq K N]
    kernel_rfl

theorem plain_Build_l7_5_L_eq {R : Type} (K : Ex → St → Option R) : ∀ N : Nat, (fun (n594 : Int) (n595 : Int) (n596 : Int) (n597 : Int) (xs598 : List Int) (n599 : Int) (n600 : Int) (xs601 : List Int) (l602 : Nat) (xs603 : List Int) => lp33_7400 N (St.mk (spread 64 0 [1, 2, 4, 5, 16, 17] [AV.ptr 0 0, AV.ptr 1 0, AV.ptr 2 0, AV.int .i64 n594, AV.int .i64 n595, AV.int .i64 n596]) [HB.live (Blk.any [AV.int .i64 n597, AV.fsl (Blk.ints .u64 xs598)]), HB.live (Blk.any [AV.int .i64 n599, AV.esl, AV.esl, AV.esl]), HB.live (Blk.any [AV.int .i64 n600, AV.fsl (Blk.ints .u64 xs601), AV.sl 3 0 l602 1, AV.esl]), HB.live (Blk.ints .i64 xs603)]) K) = plain_Build_l7_5_L (fun x0 x1 x2 x3 x4 x5 x6 => K (Ex.exit 0) (St.mk (spread 64 0 [2, 4] [AV.ptr 0 0, AV.ptr 1 0]) [HB.live (Blk.any [AV.int .i64 x0, AV.esl, AV.esl, AV.esl]), HB.live (Blk.any [AV.int .i64 x1, AV.fsl (Blk.ints .u64 x2), AV.sl 2 0 x3 1, AV.sl 3 0 x4 1]), HB.live (Blk.ints .i64 x5), HB.live (Blk.ints .i64 x6)])) (fun x0 x1 x2 x3 x4 => K (Ex.exit 0) (St.mk (spread 64 0 [2, 4] [AV.ptr 0 0, AV.ptr 1 0]) [HB.live (Blk.any [AV.int .i64 x0, AV.esl, AV.esl, AV.esl]), HB.live (Blk.any [AV.int .i64 x1, AV.fsl (Blk.ints .u64 x2), AV.sl 2 0 x3 1, AV.esl]), HB.live (Blk.ints .i64 x4)])) N
  | 0 => by funext n594 n595 n596 n597 xs598 n599 n600 xs601 l602 xs603; rfl
  | N + 1 => by
    funext n594 n595 n596 n597 xs598 n599 n600 xs601 l602 xs603
    simp only [plain_Build_l7_5_L]
    rw [← plain_Build_l7_5_L_eq K N, ← plain_Build_l7_4_L_eq K N]
    kernel_rfl

theorem plain_Build_l7_3_L_eq {R : Type} (K : Ex → St → Option R) : ∀ N : Nat, (fun (n429 : Int) (n430 : Int) (n431 : Int) (n432 : Int) (xs433 : List Int) (n434 : Int) (n435 : Int) (xs436 : List Int) => lp33_7400 N (St.mk (spread 64 0 [1, 2, 4, 5, 16, 17] [AV.ptr 0 0, AV.ptr 1 0, AV.ptr 2 0, AV.int .i64 n429, AV.int .i64 n430, AV.int .i64 n431]) [HB.live (Blk.any [AV.int .i64 n432, AV.fsl (Blk.ints .u64 xs433)]), HB.live (Blk.any [AV.int .i64 n434, AV.esl, AV.esl, AV.esl]), HB.live (Blk.any [AV.int .i64 n435, AV.fsl (Blk.ints .u64 xs436), AV.esl, AV.esl])]) K) = plain_Build_l7_3_L (fun x0 x1 x2 x3 x4 x5 x6 => K (Ex.exit 0) (St.mk (spread 64 0 [2, 4] [AV.ptr 0 0, AV.ptr 1 0]) [HB.live (Blk.any [AV.int .i64 x0, AV.esl, AV.esl, AV.esl]), HB.live (Blk.any [AV.int .i64 x1, AV.fsl (Blk.ints .u64 x2), AV.sl 2 0 x3 1, AV.sl 3 0 x4 1]), HB.live (Blk.ints .i64 x5), HB.live (Blk.ints .i64 x6)])) (fun x0 x1 x2 x3 x4 => K (Ex.exit 0) (St.mk (spread 64 0 [2, 4] [AV.ptr 0 0, AV.ptr 1 0]) [HB.live (Blk.any [AV.int .i64 x0, AV.esl, AV.esl, AV.esl]), HB.live (Blk.any [AV.int .i64 x1, AV.fsl (Blk.ints .u64 x2), AV.sl 2 0 x3 1, AV.esl]), HB.live (Blk.ints .i64 x4)])) (fun x0 x1 x2 => K (Ex.exit 0) (St.mk (spread 64 0 [2, 4] [AV.ptr 0 0, AV.ptr 1 0]) [HB.live (Blk.any [AV.int .i64 x0, AV.esl, AV.esl, AV.esl]), HB.live (Blk.any [AV.int .i64 x1, AV.fsl (Blk.ints .u64 x2), AV.esl, AV.esl])])) N
  | 0 => by funext n429 n430 n431 n432 xs433 n434 n435 xs436; rfl
  | N + 1 => by
    funext n429 n430 n431 n432 xs433 n434 n435 xs436
    simp only [plain_Build_l7_3_L]
    rw [← plain_Build_l7_3_L_eq K N, ← plain_Build_l7_4_L_eq K N, ← plain_Build_l7_5_L_eq K N]
    kernel_rfl

theorem plain_Build_j11_3_eq {R : Type} (K : Ex → St → Option R) (n460 : Int) (n461 : Int) (n462 : Int) (n463 : Int) (n464 : Int) (xs465 : List Int) (n466 : Int) (n467 : Int) (xs468 : List Int) (l469 : Nat) (xs470 : List Int) : evCode (V 33) q33 o33 33 0 3986 c33_11000 (St.mk (spread 64 0 [1, 2, 4, 5, 6, 16, 17] [AV.ptr 0 0, AV.ptr 1 0, AV.ptr 2 0, AV.int .i64 n460, AV.int .i64 n461, AV.int .i64 n462, AV.int .i64 n463]) [HB.live (Blk.any [AV.int .i64 n464, AV.fsl (Blk.ints .u64 xs465)]), HB.live (Blk.any [AV.int .i64 n466, AV.esl, AV.esl, AV.esl]), HB.live (Blk.any [AV.int .i64 n467, AV.fsl (Blk.ints .u64 xs468), AV.sl 3 0 l469 1, AV.esl]), HB.live (Blk.ints .i64 xs470)]) (kOut (V 33) 33 0 (Ev.keyOf c33_11000 * 1000 + 1) K) = plain_Build_j11_3_B n460 n461 n462 n463 n464 xs465 n466 n467 xs468 l469 xs470 (fun x0 x1 x2 x3 x4 x5 x6 x7 x8 x9 x10 x11 => K (Ex.normal) (St.mk (spread 64 0 [1, 2, 4, 5, 16, 17] [AV.ptr 0 0, AV.ptr 1 0, AV.ptr 2 0, AV.int .i64 x0, AV.int .i64 x1, AV.int .i64 x2]) [HB.live (Blk.any [AV.int .i64 x3, AV.fsl (Blk.ints .u64 x4)]), HB.live (Blk.any [AV.int .i64 x5, AV.esl, AV.esl, AV.esl]), HB.live (Blk.any [AV.int .i64 x6, AV.fsl (Blk.ints .u64 x7), AV.sl 3 0 x8 1, AV.sl 4 0 x9 1]), HB.live (Blk.ints .i64 x10), HB.live (Blk.ints .i64 x11)])) (fun x0 x1 x2 x3 x4 x5 x6 x7 x8 x9 => K (Ex.normal) (St.mk (spread 64 0 [1, 2, 4, 5, 16, 17] [AV.ptr 0 0, AV.ptr 1 0, AV.ptr 2 0, AV.int .i64 x0, AV.int .i64 x1, AV.int .i64 x2]) [HB.live (Blk.any [AV.int .i64 x3, AV.fsl (Blk.ints .u64 x4)]), HB.live (Blk.any [AV.int .i64 x5, AV.esl, AV.esl, AV.esl]), HB.live (Blk.any [AV.int .i64 x6, AV.fsl (Blk.ints .u64 x7), AV.sl 3 0 x8 1, AV.esl]), HB.live (Blk.ints .i64 x9)])) := by kernel_rfl

theorem plain_Build_j11_4_eq {R : Type} (K : Ex → St → Option R) (n529 : Int) (n530 : Int) (n531 : Int) (n532 : Int) (n533 : Int) (xs534 : List Int) (n535 : Int) (n536 : Int) (xs537 : List Int) (l538 : Nat) (l539 : Nat) (xs540 : List Int) (xs541 : List Int) : evCode (V 33) q33 o33 33 0 3986 c33_11000 (St.mk (spread 64 0 [1, 2, 4, 5, 6, 16, 17] [AV.ptr 0 0, AV.ptr 1 0, AV.ptr 2 0, AV.int .i64 n529, AV.int .i64 n530, AV.int .i64 n531, AV.int .i64 n532]) [HB.live (Blk.any [AV.int .i64 n533, AV.fsl (Blk.ints .u64 xs534)]), HB.live (Blk.any [AV.int .i64 n535, AV.esl, AV.esl, AV.esl]), HB.live (Blk.any [AV.int .i64 n536, AV.fsl (Blk.ints .u64 xs537), AV.sl 3 0 l538 1, AV.sl 4 0 l539 1]), HB.live (Blk.ints .i64 xs540), HB.live (Blk.ints .i64 xs541)]) (kOut (V 33) 33 0 (Ev.keyOf c33_11000 * 1000 + 1) K) = plain_Build_j11_4_B n529 n530 n531 n532 n533 xs534 n535 n536 xs537 l538 l539 xs540 xs541 (fun x0 x1 x2 x3 x4 x5 x6 x7 x8 x9 x10 x11 => K (Ex.normal) (St.mk (spread 64 0 [1, 2, 4, 5, 16, 17] [AV.ptr 0 0, AV.ptr 1 0, AV.ptr 2 0, AV.int .i64 x0, AV.int .i64 x1, AV.int .i64 x2]) [HB.live (Blk.any [AV.int .i64 x3, AV.fsl (Blk.ints .u64 x4)]), HB.live (Blk.any [AV.int .i64 x5, AV.esl, AV.esl, AV.esl]), HB.live (Blk.any [AV.int .i64 x6, AV.fsl (Blk.ints .u64 x7), AV.sl 3 0 x8 1, AV.sl 4 0 x9 1]), HB.live (Blk.ints .i64 x10), HB.live (Blk.ints .i64 x11)])) := by kernel_rfl

theorem p33_7400 : PieceOk (V 33) q33 o33 33 0 (3992, 1, c33_7400) := .l (size := 64) (ss := [1, 2, 4, 5, 16, 17]) (F := @o33_7400_in) (by kernel_rfl) (by kernel_rfl) fun R r K vs hh h => by
  unfold o33_7400_in at h; split at h
  · rw [plain_Build_l7_3_unf] at h; unfold plain_Build_l7_3_B at h; rw [← plain_Build_l7_3_L_eq K NR] at h; exact h
  · rw [plain_Build_l7_4_unf] at h; unfold plain_Build_l7_4_B at h; rw [← plain_Build_l7_4_L_eq K NR] at h; exact h
  · rw [plain_Build_l7_5_unf] at h; unfold plain_Build_l7_5_B at h; rw [← plain_Build_l7_5_L_eq K NR] at h; exact h
  · cases h

theorem p33_11000 : PieceOk (V 33) q33 o33 33 0 (3986, 0, c33_11000) := .s (size := 64) (ss := [1, 2, 4, 5, 6, 16, 17]) (F := @o33_11000_in) (by kernel_rfl) fun R r K vs hh h => by
  unfold o33_11000_in at h; split at h
  · rw [plain_Build_j11_3_unf] at h; exact (plain_Build_j11_3_eq K _ _ _ _ _ _ _ _ _ _ _).trans h
  · rw [plain_Build_j11_4_unf] at h; exact (plain_Build_j11_4_eq K _ _ _ _ _ _ _ _ _ _ _ _ _).trans h
  · rw [plain_Build_j11_5_unf] at h; exact Eq.trans (by kernel_rfl) h
  · cases h

theorem p33_10000 : PieceOk (V 33) q33 o33 33 0 (3985, 0, c33_10000) := .s (size := 64) (ss := [1, 2, 4, 5, 6, 16, 17, 29]) (F := @o33_10000_in) (by kernel_rfl) fun R r K vs hh h => by
  unfold o33_10000_in at h; split at h
  · rw [plain_Build_j10_3_unf] at h; exact Eq.trans (by kernel_rfl) h
  · rw [plain_Build_j10_4_unf] at h; exact Eq.trans (by kernel_rfl) h
  · rw [plain_Build_j10_5_unf] at h; exact Eq.trans (by kernel_rfl) h
  · cases h

theorem pc33 : ∀ x ∈ [(3992, 1, c33_7400), (3986, 0, c33_11000), (3985, 0, c33_10000)], PieceOk (V 33) q33 o33 33 0 x := List.forall_mem_cons.2 ⟨p33_7400, List.forall_mem_cons.2 ⟨p33_11000, List.forall_mem_cons.2 ⟨p33_10000, fun _ h => nomatch h⟩⟩⟩

theorem plain_Build_eq {R : Type} (K : AV → Option R) (n418 : Int) (xs419 : List Int) : evSpec (V 33) S72 T33 o33 10 33 ([AV.agg (Blk.any [AV.int .i64 n418, AV.fsl (Blk.ints .u64 xs419)])]) R K = plain_Build_B n418 xs419 (fun x0 x1 x2 x3 x4 => K (AV.tup [AV.agg (Blk.any [AV.int .i64 x0, AV.fsl (Blk.ints .u64 x1), AV.fsl (Blk.ints .i64 x2), AV.fsl (Blk.ints .i64 x3)]), AV.int .i64 x4])) := by kernel_rfl

noncomputable def sp33 : Ev.Spec := fun args _ K => match args with
  | ([AV.agg (Blk.any [AV.int .i64 n418, AV.fsl (Blk.ints .u64 xs419)])]) => plain_Build n418 xs419 (fun x0 x1 x2 x3 x4 => K (AV.tup [AV.agg (Blk.any [AV.int .i64 x0, AV.fsl (Blk.ints .u64 x1), AV.fsl (Blk.ints .i64 x2), AV.fsl (Blk.ints .i64 x3)]), AV.int .i64 x4]))
  | _ => none
noncomputable def S33 := addS 33 sp33 S72
theorem D8 : Dom V S33 T33 8 := Dom.s (m := 7) (n := 0) D7 D7 (O := o33) (OrcOk.fn (fn0 := Tryd.f33) (by kernel_rfl) (by kernel_rfl) pc33) fun args R K r h => by
  unfold sp33 at h; split at h
  · rw [plain_Build_unf] at h; exact (plain_Build_eq K _ _).trans h
  · cases h

noncomputable def o84_5400_in {R : Type} (K : Ex → St → Option R) (vs : List AV) (hh : H) : Option R := match vs, hh with
  | [AV.fsl (Blk.ints .i64 xs783), AV.fsl (Blk.ints .i64 xs784), AV.int .i64 n785, AV.int .i64 n786], [] => slices_Equal_int_int_l5 xs783 xs784 n785 n786 (fun x0 => K (Ex.ret) (St.mk (spread 26 0 [4] [AV.bool x0]) [])) (fun _ => K (Ex.exit 0) (St.mk (spread 26 0 [] []) []))
  | _, _ => none

noncomputable def o84 : Nat → Option PSpec := lkN [(5400, fun st _ K => pickM 26 [0, 1, 12, 13] st (o84_5400_in K))]
noncomputable def q84 : CallF := evFun (V 84) S33 T33 10

noncomputable def c84_5400 : Code := subC [1, 1, 0, 1, 0, 0] (bodyOf Tryd.f84)

noncomputable def lp84_5400 {R : Type} (N : Nat) (st : St) (K : Ex → St → Option R) : Option R := evLoop (norm ((V 84).keep 84 (Ev.keyOf c84_5400 * 1000 + 400)) 0) (evCode (V 84) q84 o84 84 0 3994 c84_5400) N st (kOut (V 84) 84 0 (Ev.keyOf c84_5400 * 1000 + 401) K)

theorem slices_Equal_int_int_l5_L_eq {R : Type} (K : Ex → St → Option R) : ∀ N : Nat, (fun (xs783 : List Int) (xs784 : List Int) (n785 : Int) (n786 : Int) => lp84_5400 N (St.mk (spread 26 0 [0, 1, 12, 13] [AV.fsl (Blk.ints .i64 xs783), AV.fsl (Blk.ints .i64 xs784), AV.int .i64 n785, AV.int .i64 n786]) []) K) = slices_Equal_int_int_l5_L (fun x0 => K (Ex.ret) (St.mk (spread 26 0 [4] [AV.bool x0]) [])) (fun _ => K (Ex.exit 0) (St.mk (spread 26 0 [] []) [])) N
  | 0 => by funext xs783 xs784 n785 n786; rfl
  | N + 1 => by
    funext xs783 xs784 n785 n786
    simp only [slices_Equal_int_int_l5_L]
    rw [← slices_Equal_int_int_l5_L_eq K N]
    kernel_rfl

theorem p84_5400 : PieceOk (V 84) q84 o84 84 0 (3994, 1, c84_5400) := .l (size := 26) (ss := [0, 1, 12, 13]) (F := @o84_5400_in) (by kernel_rfl) (by kernel_rfl) fun R r K vs hh h => by
  unfold o84_5400_in at h; split at h
  · rw [slices_Equal_int_int_l5_unf] at h; unfold slices_Equal_int_int_l5_B at h; rw [← slices_Equal_int_int_l5_L_eq K NR] at h; exact h
  · cases h

theorem pc84 : ∀ x ∈ [(3994, 1, c84_5400)], PieceOk (V 84) q84 o84 84 0 x := List.forall_mem_cons.2 ⟨p84_5400, fun _ h => nomatch h⟩

noncomputable def sp84 : Ev.Spec := fun args _ K => match args with
  | ([AV.fsl (Blk.ints .i64 xs781), AV.fsl (Blk.ints .i64 xs782)]) => slices_Equal_int_int xs781 xs782 (fun x0 => K (AV.bool x0))
  | _ => none
noncomputable def S84 := addS 84 sp84 S33
theorem D9 : Dom V S84 T33 9 := Dom.s (m := 8) (n := 0) D8 D8 (O := o84) (OrcOk.fn (fn0 := Tryd.f84) (by kernel_rfl) (by kernel_rfl) pc84) fun args R K r h => by
  unfold sp84 at h; split at h
  · rw [slices_Equal_int_int_unf] at h; exact Eq.trans (by kernel_rfl) h
  · cases h

noncomputable def sp45 : Ev.Spec := fun args _ K => match args with
  | ([AV.agg (Blk.any [AV.int .i64 n414, AV.fsl (Blk.ints .u64 xs415), AV.fsl (Blk.ints .i64 xs416), AV.fsl (Blk.ints .i64 xs417)])]) => plain_Check n414 xs415 xs416 xs417 (fun x0 => K (AV.bool x0))
  | _ => none
noncomputable def S45 := addS 45 sp45 S84
theorem D10 : Dom V S45 T33 10 := Dom.s (m := 9) (n := 0) D9 D9 (O := (fun _ => none)) (fun _ _ _ _ => OrcOk.none _ _) fun args R K r h => by
  unfold sp45 at h; split at h
  · rw [plain_Check_unf] at h; exact Eq.trans (by kernel_rfl) h
  · cases h

noncomputable def o77_6000_in {R : Type} (K : Ex → St → Option R) (vs : List AV) (hh : H) : Option R := match vs, hh with
  | [AV.int .i64 n795, AV.ptr 0 0], [HB.live (Blk.any [AV.int .i64 n796, AV.fsl (Blk.ints .u64 xs797)])] => bits_Get_j6 n795 n796 xs797 (fun x0 x1 => K (Ex.ret) (St.mk (spread 30 0 [4, 5] [AV.bool x0, AV.int .i64 x1]) []))
  | _, _ => none

noncomputable def o77 : Nat → Option PSpec := lkN [(6000, fun st _ K => pickM 30 [1, 2] st (o77_6000_in K))]
noncomputable def q77 : CallF := evFun (V 77) S45 T33 10

noncomputable def c77_6000 : Code := subC [1, 1] (bodyOf Tryd.f77)

theorem p77_6000 : PieceOk (V 77) q77 o77 77 0 (3998, 0, c77_6000) := .s (size := 30) (ss := [1, 2]) (F := @o77_6000_in) (by kernel_rfl) fun R r K vs hh h => by
  unfold o77_6000_in at h; split at h
  · rw [bits_Get_j6_unf] at h; exact Eq.trans (by kernel_rfl) h
  · cases h

theorem pc77 : ∀ x ∈ [(3998, 0, c77_6000)], PieceOk (V 77) q77 o77 77 0 x := List.forall_mem_cons.2 ⟨p77_6000, fun _ h => nomatch h⟩

noncomputable def sp77 : Ev.Spec := fun args _ K => match args with
  | ([AV.agg (Blk.any [AV.int .i64 n791, AV.fsl (Blk.ints .u64 xs792)]), AV.int .i64 n793]) => bits_Get n791 xs792 n793 (fun x0 x1 => K (AV.tup [AV.bool x0, AV.int .i64 x1]))
  | _ => none
noncomputable def S77 := addS 77 sp77 S45
theorem D11 : Dom V S77 T33 11 := Dom.s (m := 10) (n := 0) D10 D10 (O := o77) (OrcOk.fn (fn0 := Tryd.f77) (by kernel_rfl) (by kernel_rfl) pc77) fun args R K r h => by
  unfold sp77 at h; split at h
  · rw [bits_Get_unf] at h; exact Eq.trans (by kernel_rfl) h
  · cases h

noncomputable def sp35 : Ev.Spec := fun args _ K => match args with
  | ([AV.agg (Blk.any [AV.int .i64 n409, AV.fsl (Blk.ints .u64 xs410), AV.fsl (Blk.ints .i64 xs411), AV.fsl (Blk.ints .i64 xs412)]), AV.int .i64 n413]) => plain_Access n409 xs410 xs411 xs412 n413 (fun x0 x1 => K (AV.tup [AV.bool x0, AV.int .i64 x1]))
  | _ => none
noncomputable def S35 := addS 35 sp35 S77
theorem D12 : Dom V S35 T33 12 := Dom.s (m := 11) (n := 0) D11 D11 (O := (fun _ => none)) (fun _ _ _ _ => OrcOk.none _ _) fun args R K r h => by
  unfold sp35 at h; split at h
  · rw [plain_Access_unf] at h; exact Eq.trans (by kernel_rfl) h
  · cases h

noncomputable def sp120 : Ev.Spec := fun args _ K => match args with
  | ([AV.int .u64 n850, AV.int .i64 n851]) => word_Rank n850 n851 (fun x0 => K (AV.int .i64 x0))
  | _ => none
noncomputable def S120 := addS 120 sp120 S35
theorem D13 : Dom V S120 T33 13 := Dom.s (m := 12) (n := 0) D12 D12 (O := (fun _ => none)) (fun _ _ _ _ => OrcOk.none _ _) fun args R K r h => by
  unfold sp120 at h; split at h
  · rw [word_Rank_unf] at h; exact Eq.trans (by kernel_rfl) h
  · cases h

noncomputable def o119_7400_in {R : Type} (K : Ex → St → Option R) (vs : List AV) (hh : H) : Option R := match vs, hh with
  | [AV.int .i64 n838, AV.ptr 0 0, AV.int .i64 n839, AV.fsl (Blk.ints .u64 xs840), AV.int .i64 n841, AV.int .i64 n842], [HB.live (Blk.any [AV.int .i64 n843, AV.fsl (Blk.ints .u64 xs844)])] => bits_Ones_l7 n838 n839 xs840 n841 n842 n843 xs844 (fun x0 x1 x2 x3 => K (Ex.exit 0) (St.mk (spread 46 0 [1, 2, 5] [AV.int .i64 x0, AV.ptr 0 0, AV.int .i64 x1]) [HB.live (Blk.any [AV.int .i64 x2, AV.fsl (Blk.ints .u64 x3)])]))
  | _, _ => none

noncomputable def o119 : Nat → Option PSpec := lkN [(7400, fun st _ K => pickM 46 [1, 2, 5, 20, 21, 22] st (o119_7400_in K))]
noncomputable def q119 : CallF := evFun (V 119) S120 T33 10

noncomputable def c119_7400 : Code := subC [1, 1, 1, 1, 0, 1, 0, 0] (bodyOf Tryd.f119)

noncomputable def lp119_7400 {R : Type} (N : Nat) (st : St) (K : Ex → St → Option R) : Option R := evLoop (norm ((V 119).keep 119 (Ev.keyOf c119_7400 * 1000 + 400)) 0) (evCode (V 119) q119 o119 119 0 3992 c119_7400) N st (kOut (V 119) 119 0 (Ev.keyOf c119_7400 * 1000 + 401) K)

theorem bits_Ones_l7_L_eq {R : Type} (K : Ex → St → Option R) : ∀ N : Nat, (fun (n838 : Int) (n839 : Int) (xs840 : List Int) (n841 : Int) (n842 : Int) (n843 : Int) (xs844 : List Int) => lp119_7400 N (St.mk (spread 46 0 [1, 2, 5, 20, 21, 22] [AV.int .i64 n838, AV.ptr 0 0, AV.int .i64 n839, AV.fsl (Blk.ints .u64 xs840), AV.int .i64 n841, AV.int .i64 n842]) [HB.live (Blk.any [AV.int .i64 n843, AV.fsl (Blk.ints .u64 xs844)])]) K) = bits_Ones_l7_L (fun x0 x1 x2 x3 => K (Ex.exit 0) (St.mk (spread 46 0 [1, 2, 5] [AV.int .i64 x0, AV.ptr 0 0, AV.int .i64 x1]) [HB.live (Blk.any [AV.int .i64 x2, AV.fsl (Blk.ints .u64 x3)])])) N
  | 0 => by funext n838 n839 xs840 n841 n842 n843 xs844; rfl
  | N + 1 => by
    funext n838 n839 xs840 n841 n842 n843 xs844
    simp only [bits_Ones_l7_L]
    rw [← bits_Ones_l7_L_eq K N]
    kernel_rfl

theorem p119_7400 : PieceOk (V 119) q119 o119 119 0 (3992, 1, c119_7400) := .l (size := 46) (ss := [1, 2, 5, 20, 21, 22]) (F := @o119_7400_in) (by kernel_rfl) (by kernel_rfl) fun R r K vs hh h => by
  unfold o119_7400_in at h; split at h
  · rw [bits_Ones_l7_unf] at h; unfold bits_Ones_l7_B at h; rw [← bits_Ones_l7_L_eq K NR] at h; exact h
  · cases h

theorem pc119 : ∀ x ∈ [(3992, 1, c119_7400)], PieceOk (V 119) q119 o119 119 0 x := List.forall_mem_cons.2 ⟨p119_7400, fun _ h => nomatch h⟩

noncomputable def sp119 : Ev.Spec := fun args _ K => match args with
  | ([AV.agg (Blk.any [AV.int .i64 n833, AV.fsl (Blk.ints .u64 xs834)]), AV.int .i64 n835]) => bits_Ones n833 xs834 n835 (fun x0 => K (AV.int .i64 x0))
  | _ => none
noncomputable def S119 := addS 119 sp119 S120
theorem D14 : Dom V S119 T33 14 := Dom.s (m := 13) (n := 0) D13 D13 (O := o119) (OrcOk.fn (fn0 := Tryd.f119) (by kernel_rfl) (by kernel_rfl) pc119) fun args R K r h => by
  unfold sp119 at h; split at h
  · rw [bits_Ones_unf] at h; exact Eq.trans (by kernel_rfl) h
  · cases h

noncomputable def sp108 : Ev.Spec := fun args _ K => match args with
  | ([AV.agg (Blk.any [AV.int .i64 n828, AV.fsl (Blk.ints .u64 xs829), AV.fsl (Blk.ints .i64 xs830), AV.fsl (Blk.ints .i64 xs831)]), AV.int .i64 n832]) => plain_ones n828 xs829 xs830 xs831 n832 (fun x0 => K (AV.int .i64 x0))
  | _ => none
noncomputable def S108 := addS 108 sp108 S119
theorem D15 : Dom V S108 T33 15 := Dom.s (m := 14) (n := 0) D14 D14 (O := (fun _ => none)) (fun _ _ _ _ => OrcOk.none _ _) fun args R K r h => by
  unfold sp108 at h; split at h
  · rw [plain_ones_unf] at h; exact Eq.trans (by kernel_rfl) h
  · cases h

noncomputable def sp76 : Ev.Spec := fun args _ K => match args with
  | ([AV.agg (Blk.any [AV.int .i64 n822, AV.fsl (Blk.ints .u64 xs823), AV.fsl (Blk.ints .i64 xs824), AV.fsl (Blk.ints .i64 xs825)]), AV.bool b826, AV.int .i64 n827]) => plain_ahead n822 xs823 xs824 xs825 b826 n827 (fun x0 => K (AV.int .i64 x0))
  | _ => none
noncomputable def S76 := addS 76 sp76 S108
theorem D16 : Dom V S76 T33 16 := Dom.s (m := 15) (n := 0) D15 D15 (O := (fun _ => none)) (fun _ _ _ _ => OrcOk.none _ _) fun args R K r h => by
  unfold sp76 at h; split at h
  · rw [plain_ahead_unf] at h; exact Eq.trans (by kernel_rfl) h
  · cases h

noncomputable def o34_6000_in {R : Type} (K : Ex → St → Option R) (vs : List AV) (hh : H) : Option R := match vs, hh with
  | [AV.bool b816, AV.int .i64 n817, AV.ptr 0 0], [HB.live (Blk.any [AV.int .i64 n818, AV.fsl (Blk.ints .u64 xs819), AV.fsl (Blk.ints .i64 xs820), AV.fsl (Blk.ints .i64 xs821)])] => plain_Rank_j6 b816 n817 n818 xs819 xs820 xs821 (fun x0 x1 => K (Ex.ret) (St.mk (spread 26 0 [6, 7] [AV.int .i64 x0, AV.int .i64 x1]) []))
  | _, _ => none

noncomputable def o34 : Nat → Option PSpec := lkN [(6000, fun st _ K => pickM 26 [1, 2, 3] st (o34_6000_in K))]
noncomputable def q34 : CallF := evFun (V 34) S76 T33 10

noncomputable def c34_6000 : Code := subC [1, 1] (bodyOf Tryd.f34)

theorem p34_6000 : PieceOk (V 34) q34 o34 34 0 (3998, 0, c34_6000) := .s (size := 26) (ss := [1, 2, 3]) (F := @o34_6000_in) (by kernel_rfl) fun R r K vs hh h => by
  unfold o34_6000_in at h; split at h
  · rw [plain_Rank_j6_unf] at h; exact Eq.trans (by kernel_rfl) h
  · cases h

theorem pc34 : ∀ x ∈ [(3998, 0, c34_6000)], PieceOk (V 34) q34 o34 34 0 x := List.forall_mem_cons.2 ⟨p34_6000, fun _ h => nomatch h⟩

noncomputable def sp34 : Ev.Spec := fun args _ K => match args with
  | ([AV.agg (Blk.any [AV.int .i64 n809, AV.fsl (Blk.ints .u64 xs810), AV.fsl (Blk.ints .i64 xs811), AV.fsl (Blk.ints .i64 xs812)]), AV.bool b813, AV.int .i64 n814]) => plain_Rank n809 xs810 xs811 xs812 b813 n814 (fun x0 x1 => K (AV.tup [AV.int .i64 x0, AV.int .i64 x1]))
  | _ => none
noncomputable def S34 := addS 34 sp34 S76
theorem D17 : Dom V S34 T33 17 := Dom.s (m := 16) (n := 0) D16 D16 (O := o34) (OrcOk.fn (fn0 := Tryd.f34) (by kernel_rfl) (by kernel_rfl) pc34) fun args R K r h => by
  unfold sp34 at h; split at h
  · rw [plain_Rank_unf] at h; exact Eq.trans (by kernel_rfl) h
  · cases h

noncomputable def sp109 : Ev.Spec := fun args _ K => match args with
  | ([AV.int .u64 n912]) => math_bits_TrailingZeros64 n912 (fun x0 => K (AV.int .i64 x0))
  | _ => none
noncomputable def S109 := addS 109 sp109 S34
theorem D18 : Dom V S109 T33 18 := Dom.s (m := 17) (n := 0) D17 D17 (O := (fun _ => none)) (fun _ _ _ _ => OrcOk.none _ _) fun args R K r h => by
  unfold sp109 at h; split at h
  · rw [math_bits_TrailingZeros64_unf] at h; exact Eq.trans (by kernel_rfl) h
  · cases h

noncomputable def o82_4000_in {R : Type} (K : Ex → St → Option R) (vs : List AV) (hh : H) : Option R := match vs, hh with
  | [AV.int .u64 n906, AV.int .i64 n907], [] => word_Select_j4 n906 n907 (fun x0 => K (Ex.ret) (St.mk (spread 23 0 [4] [AV.int .i64 x0]) []))
  | _, _ => none

noncomputable def o82_5400_in {R : Type} (K : Ex → St → Option R) (vs : List AV) (hh : H) : Option R := match vs, hh with
  | [AV.int .u64 n908, AV.int .i64 n909, AV.int .i64 n910], [] => word_Select_l5 n908 n909 n910 (fun x0 => K (Ex.exit 0) (St.mk (spread 23 0 [0] [AV.int .u64 x0]) []))
  | _, _ => none

noncomputable def o82 : Nat → Option PSpec := lkN [(4000, fun st _ K => pickM 23 [0, 1] st (o82_4000_in K)), (5400, fun st _ K => pickM 23 [0, 13, 14] st (o82_5400_in K))]
noncomputable def q82 : CallF := evFun (V 82) S109 T33 10

noncomputable def c82_4000 : Code := subC [1, 1] (bodyOf Tryd.f82)

noncomputable def c82_5400 : Code := subC [1, 1, 0, 1, 0, 0] (bodyOf Tryd.f82)

noncomputable def lp82_5400 {R : Type} (N : Nat) (st : St) (K : Ex → St → Option R) : Option R := evLoop (norm ((V 82).keep 82 (Ev.keyOf c82_5400 * 1000 + 400)) 0) (evCode (V 82) q82 o82 82 0 3994 c82_5400) N st (kOut (V 82) 82 0 (Ev.keyOf c82_5400 * 1000 + 401) K)

theorem word_Select_l5_L_eq {R : Type} (K : Ex → St → Option R) : ∀ N : Nat, (fun (n908 : Int) (n909 : Int) (n910 : Int) => lp82_5400 N (St.mk (spread 23 0 [0, 13, 14] [AV.int .u64 n908, AV.int .i64 n909, AV.int .i64 n910]) []) K) = word_Select_l5_L (fun x0 => K (Ex.exit 0) (St.mk (spread 23 0 [0] [AV.int .u64 x0]) [])) N
  | 0 => by funext n908 n909 n910; rfl
  | N + 1 => by
    funext n908 n909 n910
    simp only [word_Select_l5_L]
    rw [← word_Select_l5_L_eq K N]
    kernel_rfl

theorem p82_4000 : PieceOk (V 82) q82 o82 82 0 (3998, 0, c82_4000) := .s (size := 23) (ss := [0, 1]) (F := @o82_4000_in) (by kernel_rfl) fun R r K vs hh h => by
  unfold o82_4000_in at h; split at h
  · rw [word_Select_j4_unf] at h; exact Eq.trans (by kernel_rfl) h
  · cases h

theorem p82_5400 : PieceOk (V 82) q82 o82 82 0 (3994, 1, c82_5400) := .l (size := 23) (ss := [0, 13, 14]) (F := @o82_5400_in) (by kernel_rfl) (by kernel_rfl) fun R r K vs hh h => by
  unfold o82_5400_in at h; split at h
  · rw [word_Select_l5_unf] at h; unfold word_Select_l5_B at h; rw [← word_Select_l5_L_eq K NR] at h; exact h
  · cases h

theorem pc82 : ∀ x ∈ [(3998, 0, c82_4000), (3994, 1, c82_5400)], PieceOk (V 82) q82 o82 82 0 x := List.forall_mem_cons.2 ⟨p82_4000, List.forall_mem_cons.2 ⟨p82_5400, fun _ h => nomatch h⟩⟩

noncomputable def sp82 : Ev.Spec := fun args _ K => match args with
  | ([AV.int .u64 n903, AV.int .i64 n904]) => word_Select n903 n904 (fun x0 => K (AV.int .i64 x0))
  | _ => none
noncomputable def S82 := addS 82 sp82 S109
theorem D19 : Dom V S82 T33 19 := Dom.s (m := 18) (n := 0) D18 D18 (O := o82) (OrcOk.fn (fn0 := Tryd.f82) (by kernel_rfl) (by kernel_rfl) pc82) fun args R K r h => by
  unfold sp82 at h; split at h
  · rw [word_Select_unf] at h; exact Eq.trans (by kernel_rfl) h
  · cases h

noncomputable def o43_6000_in {R : Type} (K : Ex → St → Option R) (vs : List AV) (hh : H) : Option R := match vs, hh with
  | [AV.bool b872, AV.int .i64 n873, AV.ptr 0 0], [HB.live (Blk.any [AV.int .i64 n874, AV.fsl (Blk.ints .u64 xs875), AV.fsl (Blk.ints .i64 xs876), AV.fsl (Blk.ints .i64 xs877)])] => plain_Select_j6 b872 n873 n874 xs875 xs876 xs877 (fun x0 x1 => K (Ex.ret) (St.mk (spread 71 0 [6, 7] [AV.int .i64 x0, AV.int .i64 x1]) []))
  | _, _ => none

noncomputable def o43_7400_in {R : Type} (K : Ex → St → Option R) (vs : List AV) (hh : H) : Option R := match vs, hh with
  | [AV.bool b878, AV.int .i64 n879, AV.ptr 0 0, AV.int .i64 n880, AV.int .i64 n881], [HB.live (Blk.any [AV.int .i64 n882, AV.fsl (Blk.ints .u64 xs883), AV.fsl (Blk.ints .i64 xs884), AV.fsl (Blk.ints .i64 xs885)])] => plain_Select_l7 b878 n879 n880 n881 n882 xs883 xs884 xs885 (fun x0 x1 x2 x3 x4 x5 x6 => K (Ex.exit 1) (St.mk (spread 71 0 [1, 2, 3, 8] [AV.bool x0, AV.int .i64 x1, AV.ptr 0 0, AV.int .i64 x2]) [HB.live (Blk.any [AV.int .i64 x3, AV.fsl (Blk.ints .u64 x4), AV.fsl (Blk.ints .i64 x5), AV.fsl (Blk.ints .i64 x6)])]))
  | _, _ => none

noncomputable def o43_15000_in {R : Type} (K : Ex → St → Option R) (vs : List AV) (hh : H) : Option R := match vs, hh with
  | [AV.bool b894, AV.int .i64 n895, AV.ptr 0 0, AV.int .i64 n896, AV.int .u64 n897], [HB.live (Blk.any [AV.int .i64 n898, AV.fsl (Blk.ints .u64 xs899), AV.fsl (Blk.ints .i64 xs900), AV.fsl (Blk.ints .i64 xs901)])] => plain_Select_j15 b894 n895 n896 n897 n898 xs899 xs900 xs901 (fun x0 x1 => K (Ex.ret) (St.mk (spread 71 0 [6, 7] [AV.int .i64 x0, AV.int .i64 x1]) []))
  | _, _ => none

noncomputable def o43 : Nat → Option PSpec := lkN [(6000, fun st _ K => pickM 71 [1, 2, 3] st (o43_6000_in K)), (7400, fun st _ K => pickM 71 [1, 2, 3, 8, 9] st (o43_7400_in K)), (15000, fun st _ K => pickM 71 [1, 2, 3, 8, 11] st (o43_15000_in K))]
noncomputable def q43 : CallF := evFun (V 43) S82 T33 10

noncomputable def c43_6000 : Code := subC [1, 1] (bodyOf Tryd.f43)

noncomputable def c43_7400 : Code := subC [1, 1, 1, 0, 0, 0] (bodyOf Tryd.f43)

noncomputable def lp43_7400 {R : Type} (N : Nat) (st : St) (K : Ex → St → Option R) : Option R := evLoop (norm ((V 43).keep 43 (Ev.keyOf c43_7400 * 1000 + 400)) 0) (evCode (V 43) q43 o43 43 0 3994 c43_7400) N st (kOut (V 43) 43 0 (Ev.keyOf c43_7400 * 1000 + 401) K)

noncomputable def c43_15000 : Code := subC [1, 1, 1, 1, 1, 1] (bodyOf Tryd.f43)

theorem plain_Select_l7_L_eq {R : Type} (K : Ex → St → Option R) : ∀ N : Nat, (fun (b878 : Bool) (n879 : Int) (n880 : Int) (n881 : Int) (n882 : Int) (xs883 : List Int) (xs884 : List Int) (xs885 : List Int) => lp43_7400 N (St.mk (spread 71 0 [1, 2, 3, 8, 9] [AV.bool b878, AV.int .i64 n879, AV.ptr 0 0, AV.int .i64 n880, AV.int .i64 n881]) [HB.live (Blk.any [AV.int .i64 n882, AV.fsl (Blk.ints .u64 xs883), AV.fsl (Blk.ints .i64 xs884), AV.fsl (Blk.ints .i64 xs885)])]) K) = plain_Select_l7_L (fun x0 x1 x2 x3 x4 x5 x6 => K (Ex.exit 1) (St.mk (spread 71 0 [1, 2, 3, 8] [AV.bool x0, AV.int .i64 x1, AV.ptr 0 0, AV.int .i64 x2]) [HB.live (Blk.any [AV.int .i64 x3, AV.fsl (Blk.ints .u64 x4), AV.fsl (Blk.ints .i64 x5), AV.fsl (Blk.ints .i64 x6)])])) N
  | 0 => by funext b878 n879 n880 n881 n882 xs883 xs884 xs885; rfl
  | N + 1 => by
    funext b878 n879 n880 n881 n882 xs883 xs884 xs885
    simp only [plain_Select_l7_L]
    rw [← plain_Select_l7_L_eq K N]
    kernel_rfl

theorem p43_6000 : PieceOk (V 43) q43 o43 43 0 (3998, 0, c43_6000) := .s (size := 71) (ss := [1, 2, 3]) (F := @o43_6000_in) (by kernel_rfl) fun R r K vs hh h => by
  unfold o43_6000_in at h; split at h
  · rw [plain_Select_j6_unf] at h; exact Eq.trans (by kernel_rfl) h
  · cases h

theorem p43_7400 : PieceOk (V 43) q43 o43 43 0 (3994, 1, c43_7400) := .l (size := 71) (ss := [1, 2, 3, 8, 9]) (F := @o43_7400_in) (by kernel_rfl) (by kernel_rfl) fun R r K vs hh h => by
  unfold o43_7400_in at h; split at h
  · rw [plain_Select_l7_unf] at h; unfold plain_Select_l7_B at h; rw [← plain_Select_l7_L_eq K NR] at h; exact h
  · cases h

theorem p43_15000 : PieceOk (V 43) q43 o43 43 0 (3994, 0, c43_15000) := .s (size := 71) (ss := [1, 2, 3, 8, 11]) (F := @o43_15000_in) (by kernel_rfl) fun R r K vs hh h => by
  unfold o43_15000_in at h; split at h
  · rw [plain_Select_j15_unf] at h; exact Eq.trans (by kernel_rfl) h
  · cases h

theorem pc43 : ∀ x ∈ [(3998, 0, c43_6000), (3994, 1, c43_7400), (3994, 0, c43_15000)], PieceOk (V 43) q43 o43 43 0 x := List.forall_mem_cons.2 ⟨p43_6000, List.forall_mem_cons.2 ⟨p43_7400, List.forall_mem_cons.2 ⟨p43_15000, fun _ h => nomatch h⟩⟩⟩

noncomputable def sp43 : Ev.Spec := fun args _ K => match args with
  | ([AV.agg (Blk.any [AV.int .i64 n864, AV.fsl (Blk.ints .u64 xs865), AV.fsl (Blk.ints .i64 xs866), AV.fsl (Blk.ints .i64 xs867)]), AV.bool b868, AV.int .i64 n869]) => plain_Select n864 xs865 xs866 xs867 b868 n869 (fun x0 x1 => K (AV.tup [AV.int .i64 x0, AV.int .i64 x1]))
  | _ => none
noncomputable def S43 := addS 43 sp43 S82
theorem D20 : Dom V S43 T33 20 := Dom.s (m := 19) (n := 0) D19 D19 (O := o43) (OrcOk.fn (fn0 := Tryd.f43) (by kernel_rfl) (by kernel_rfl) pc43) fun args R K r h => by
  unfold sp43 at h; split at h
  · rw [plain_Select_unf] at h; exact Eq.trans (by kernel_rfl) h
  · cases h

noncomputable def sp38 : Ev.Spec := fun args _ K => match args with
  | ([AV.agg (Blk.any [AV.int .i64 n934, AV.fsl (Blk.ints .u64 xs935), AV.fsl (Blk.ints .i64 xs936), AV.fsl (Blk.ints .i64 xs937)])]) => plain_Size n934 xs935 xs936 xs937 (fun x0 => K (AV.int .i64 x0))
  | _ => none
noncomputable def S38 := addS 38 sp38 S43
theorem D21 : Dom V S38 T33 21 := Dom.s (m := 20) (n := 0) D20 D20 (O := (fun _ => none)) (fun _ _ _ _ => OrcOk.none _ _) fun args R K r h => by
  unfold sp38 at h; split at h
  · rw [plain_Size_unf] at h; exact Eq.trans (by kernel_rfl) h
  · cases h

noncomputable def sp48 : Ev.Spec := fun args _ K => match args with
  | ([AV.agg (Blk.any [AV.int .i64 n940, AV.fsl (Blk.ints .u64 xs941), AV.fsl (Blk.ints .i64 xs942), AV.fsl (Blk.ints .i64 xs943)])]) => plain_Bits n940 xs941 xs942 xs943 (fun x0 x1 => K (AV.agg (Blk.any [AV.int .i64 x0, AV.fsl (Blk.ints .u64 x1)])))
  | _ => none
noncomputable def S48 := addS 48 sp48 S38
theorem D22 : Dom V S48 T33 22 := Dom.s (m := 21) (n := 0) D21 D21 (O := (fun _ => none)) (fun _ _ _ _ => OrcOk.none _ _) fun args R K r h => by
  unfold sp48 at h; split at h
  · rw [plain_Bits_unf] at h; exact Eq.trans (by kernel_rfl) h
  · cases h

noncomputable def o47r1_4000_in {R : Type} (K : Ex → St → Option R) (vs : List AV) (hh : H) : Option R := match vs, hh with
  | [AV.ptr 1 0, AV.ptr 2 0], [HB.live (Blk.ints .u64 xs952), HB.live (Blk.any [AV.int .i64 n953, AV.fsl (Blk.ints .u64 xs954)]), HB.live (Blk.any [AV.int .i64 n955, AV.sl 0 0 l956 1])] => haystackref02_Same_j4 xs952 n953 xs954 n955 l956 (fun x0 x1 => K (Ex.ret) (St.mk (spread 38 0 [4] [AV.bool x0]) [HB.live (Blk.ints .u64 x1)]))
  | _, _ => none

noncomputable def o47r1_5400_in {R : Type} (K : Ex → St → Option R) (vs : List AV) (hh : H) : Option R := match vs, hh with
  | [AV.ptr 1 0, AV.ptr 2 0, AV.int .i64 n957], [HB.live (Blk.ints .u64 xs958), HB.live (Blk.any [AV.int .i64 n959, AV.fsl (Blk.ints .u64 xs960)]), HB.live (Blk.any [AV.int .i64 n961, AV.sl 0 0 l962 1])] => haystackref02_Same_l5 n957 xs958 n959 xs960 n961 l962 (fun x0 x1 => K (Ex.ret) (St.mk (spread 38 0 [4] [AV.bool x0]) [HB.live (Blk.ints .u64 x1)])) (fun x0 => K (Ex.exit 0) (St.mk (spread 38 0 [] []) [HB.live (Blk.ints .u64 x0)]))
  | _, _ => none

noncomputable def o47r1 : Nat → Option PSpec := lkN [(4000, fun st _ K => pickM 38 [2, 3] st (o47r1_4000_in K)), (5400, fun st _ K => pickM 38 [2, 3, 5] st (o47r1_5400_in K))]
noncomputable def q47r1 : CallF := evFun (V 47) S48 T33 10

noncomputable def c47r1_4000 : Code := subC [1, 1] (bodyOf Tryd.f47)

noncomputable def c47r1_5400 : Code := subC [1, 1, 0, 1, 0, 0] (bodyOf Tryd.f47)

noncomputable def lp47r1_5400 {R : Type} (N : Nat) (st : St) (K : Ex → St → Option R) : Option R := evLoop (norm ((V 47).keep 47 (Ev.keyOf c47r1_5400 * 1000 + 400)) 1) (evCode (V 47) q47r1 o47r1 47 1 3994 c47r1_5400) N st (kOut (V 47) 47 1 (Ev.keyOf c47r1_5400 * 1000 + 401) K)

theorem haystackref02_Same_l5_L_eq {R : Type} (K : Ex → St → Option R) : ∀ N : Nat, (fun (n957 : Int) (xs958 : List Int) (n959 : Int) (xs960 : List Int) (n961 : Int) (l962 : Nat) => lp47r1_5400 N (St.mk (spread 38 0 [2, 3, 5] [AV.ptr 1 0, AV.ptr 2 0, AV.int .i64 n957]) [HB.live (Blk.ints .u64 xs958), HB.live (Blk.any [AV.int .i64 n959, AV.fsl (Blk.ints .u64 xs960)]), HB.live (Blk.any [AV.int .i64 n961, AV.sl 0 0 l962 1])]) K) = haystackref02_Same_l5_L (fun x0 x1 => K (Ex.ret) (St.mk (spread 38 0 [4] [AV.bool x0]) [HB.live (Blk.ints .u64 x1)])) (fun x0 => K (Ex.exit 0) (St.mk (spread 38 0 [] []) [HB.live (Blk.ints .u64 x0)])) N
  | 0 => by funext n957 xs958 n959 xs960 n961 l962; rfl
  | N + 1 => by
    funext n957 xs958 n959 xs960 n961 l962
    simp only [haystackref02_Same_l5_L]
    rw [← haystackref02_Same_l5_L_eq K N]
    kernel_rfl

theorem p47r1_4000 : PieceOk (V 47) q47r1 o47r1 47 1 (3998, 0, c47r1_4000) := .s (size := 38) (ss := [2, 3]) (F := @o47r1_4000_in) (by kernel_rfl) fun R r K vs hh h => by
  unfold o47r1_4000_in at h; split at h
  · rw [haystackref02_Same_j4_unf] at h; exact Eq.trans (by kernel_rfl) h
  · cases h

theorem p47r1_5400 : PieceOk (V 47) q47r1 o47r1 47 1 (3994, 1, c47r1_5400) := .l (size := 38) (ss := [2, 3, 5]) (F := @o47r1_5400_in) (by kernel_rfl) (by kernel_rfl) fun R r K vs hh h => by
  unfold o47r1_5400_in at h; split at h
  · rw [haystackref02_Same_l5_unf] at h; unfold haystackref02_Same_l5_B at h; rw [← haystackref02_Same_l5_L_eq K NR] at h; exact h
  · cases h

theorem pc47r1 : ∀ x ∈ [(3998, 0, c47r1_4000), (3994, 1, c47r1_5400)], PieceOk (V 47) q47r1 o47r1 47 1 x := List.forall_mem_cons.2 ⟨p47r1_4000, List.forall_mem_cons.2 ⟨p47r1_5400, fun _ h => nomatch h⟩⟩

noncomputable def hs47 : HSpec := fun args h _ K => match args, h with
  | [AV.agg (Blk.any [AV.int .i64 n947, AV.fsl (Blk.ints .u64 xs948)]), AV.agg (Blk.any [AV.int .i64 n949, AV.sl 0 0 l950 1])], [HB.live (Blk.ints .u64 xs951)] => haystackref02_Same_r n947 xs948 n949 l950 xs951 (fun x0 x1 => K (AV.bool x0) ([HB.live (Blk.ints .u64 x1)]))
  | _, _ => none
noncomputable def T47 := addT 47 hs47 T33
theorem D23 : Dom V S48 T47 23 := Dom.t D22 fun args hh R K r h => by
  unfold hs47 at h; split at h
  · rw [haystackref02_Same_r_unf] at h; exact ⟨o47r1, (OrcOk.fn (fn0 := Tryd.f47) (by kernel_rfl) (by kernel_rfl) pc47r1), Eq.trans (by kernel_rfl) h⟩
  · cases h

noncomputable def o32_4000_in {R : Type} (K : Ex → St → Option R) (vs : List AV) (hh : H) : Option R := match vs, hh with
  | [AV.ptr 0 0, AV.int .i64 n805, AV.bool b806, AV.int .i64 n807], [HB.live (Blk.any [AV.int .i64 n808, AV.esl, AV.esl, AV.esl])] => haystacklaw07_heads_j4 n805 b806 n807 n808 (fun x0 => K (Ex.ret) (St.mk (spread 108 0 [0] [AV.bool x0]) []))
  | [AV.ptr 0 0, AV.int .i64 n981, AV.bool b982, AV.int .i64 n983], [HB.live (Blk.any [AV.int .i64 n984, AV.fsl (Blk.ints .u64 xs985), AV.fsl (Blk.ints .i64 xs986), AV.fsl (Blk.ints .i64 xs987)])] => haystacklaw07_heads_j4_1 n981 b982 n983 n984 xs985 xs986 xs987 (fun x0 => K (Ex.ret) (St.mk (spread 108 0 [0] [AV.bool x0]) []))
  | [AV.ptr 0 0, AV.int .i64 n1016, AV.bool b1017, AV.int .i64 n1018], [HB.live (Blk.any [AV.int .i64 n1019, AV.fsl (Blk.ints .u64 xs1020), AV.fsl (Blk.ints .i64 xs1021), AV.esl])] => haystacklaw07_heads_j4_2 n1016 b1017 n1018 n1019 xs1020 xs1021 (fun x0 => K (Ex.ret) (St.mk (spread 108 0 [0] [AV.bool x0]) []))
  | [AV.ptr 0 0, AV.int .i64 n1048, AV.bool b1049, AV.int .i64 n1050], [HB.live (Blk.any [AV.int .i64 n1051, AV.fsl (Blk.ints .u64 xs1052), AV.esl, AV.esl])] => haystacklaw07_heads_j4_3 n1048 b1049 n1050 n1051 xs1052 (fun x0 => K (Ex.ret) (St.mk (spread 108 0 [0] [AV.bool x0]) []))
  | _, _ => none

noncomputable def o32 : Nat → Option PSpec := lkN [(4000, fun st _ K => pickM 108 [1, 2, 3, 4] st (o32_4000_in K))]
noncomputable def q32 : CallF := evFun (V 32) S48 T47 10

noncomputable def c32_4000 : Code := subC [1, 1, 1] (bodyOf Tryd.f32)

theorem haystacklaw07_heads_j4_eq {R : Type} (K : Ex → St → Option R) (n805 : Int) (b806 : Bool) (n807 : Int) (n808 : Int) : evCode (V 32) q32 o32 32 0 3997 c32_4000 (St.mk (spread 108 0 [1, 2, 3, 4] [AV.ptr 0 0, AV.int .i64 n805, AV.bool b806, AV.int .i64 n807]) [HB.live (Blk.any [AV.int .i64 n808, AV.esl, AV.esl, AV.esl])]) (kOut (V 32) 32 0 (Ev.keyOf c32_4000 * 1000 + 1) K) = haystacklaw07_heads_j4_B n805 b806 n807 n808 (fun x0 => K (Ex.ret) (St.mk (spread 108 0 [0] [AV.bool x0]) [])) := by kernel_rfl

theorem haystacklaw07_heads_j4_1_eq {R : Type} (K : Ex → St → Option R) (n981 : Int) (b982 : Bool) (n983 : Int) (n984 : Int) (xs985 : List Int) (xs986 : List Int) (xs987 : List Int) : evCode (V 32) q32 o32 32 0 3997 c32_4000 (St.mk (spread 108 0 [1, 2, 3, 4] [AV.ptr 0 0, AV.int .i64 n981, AV.bool b982, AV.int .i64 n983]) [HB.live (Blk.any [AV.int .i64 n984, AV.fsl (Blk.ints .u64 xs985), AV.fsl (Blk.ints .i64 xs986), AV.fsl (Blk.ints .i64 xs987)])]) (kOut (V 32) 32 0 (Ev.keyOf c32_4000 * 1000 + 1) K) = haystacklaw07_heads_j4_1_B n981 b982 n983 n984 xs985 xs986 xs987 (fun x0 => K (Ex.ret) (St.mk (spread 108 0 [0] [AV.bool x0]) [])) := by kernel_rfl

theorem haystacklaw07_heads_j4_2_eq {R : Type} (K : Ex → St → Option R) (n1016 : Int) (b1017 : Bool) (n1018 : Int) (n1019 : Int) (xs1020 : List Int) (xs1021 : List Int) : evCode (V 32) q32 o32 32 0 3997 c32_4000 (St.mk (spread 108 0 [1, 2, 3, 4] [AV.ptr 0 0, AV.int .i64 n1016, AV.bool b1017, AV.int .i64 n1018]) [HB.live (Blk.any [AV.int .i64 n1019, AV.fsl (Blk.ints .u64 xs1020), AV.fsl (Blk.ints .i64 xs1021), AV.esl])]) (kOut (V 32) 32 0 (Ev.keyOf c32_4000 * 1000 + 1) K) = haystacklaw07_heads_j4_2_B n1016 b1017 n1018 n1019 xs1020 xs1021 (fun x0 => K (Ex.ret) (St.mk (spread 108 0 [0] [AV.bool x0]) [])) := by kernel_rfl

theorem haystacklaw07_heads_j4_3_eq {R : Type} (K : Ex → St → Option R) (n1048 : Int) (b1049 : Bool) (n1050 : Int) (n1051 : Int) (xs1052 : List Int) : evCode (V 32) q32 o32 32 0 3997 c32_4000 (St.mk (spread 108 0 [1, 2, 3, 4] [AV.ptr 0 0, AV.int .i64 n1048, AV.bool b1049, AV.int .i64 n1050]) [HB.live (Blk.any [AV.int .i64 n1051, AV.fsl (Blk.ints .u64 xs1052), AV.esl, AV.esl])]) (kOut (V 32) 32 0 (Ev.keyOf c32_4000 * 1000 + 1) K) = haystacklaw07_heads_j4_3_B n1048 b1049 n1050 n1051 xs1052 (fun x0 => K (Ex.ret) (St.mk (spread 108 0 [0] [AV.bool x0]) [])) := by kernel_rfl

theorem p32_4000 : PieceOk (V 32) q32 o32 32 0 (3997, 0, c32_4000) := .s (size := 108) (ss := [1, 2, 3, 4]) (F := @o32_4000_in) (by kernel_rfl) fun R r K vs hh h => by
  unfold o32_4000_in at h; split at h
  · rw [haystacklaw07_heads_j4_unf] at h; exact (haystacklaw07_heads_j4_eq K _ _ _ _).trans h
  · rw [haystacklaw07_heads_j4_1_unf] at h; exact (haystacklaw07_heads_j4_1_eq K _ _ _ _ _ _ _).trans h
  · rw [haystacklaw07_heads_j4_2_unf] at h; exact (haystacklaw07_heads_j4_2_eq K _ _ _ _ _ _).trans h
  · rw [haystacklaw07_heads_j4_3_unf] at h; exact (haystacklaw07_heads_j4_3_eq K _ _ _ _ _).trans h
  · cases h

theorem pc32 : ∀ x ∈ [(3997, 0, c32_4000)], PieceOk (V 32) q32 o32 32 0 x := List.forall_mem_cons.2 ⟨p32_4000, fun _ h => nomatch h⟩

theorem haystacklaw07_heads_eq {R : Type} (K : AV → Option R) : evSpec (V 32) S48 T47 o32 10 32 ([]) R K = haystacklaw07_heads_B (fun x0 => K (AV.bool x0)) := by kernel_rfl

noncomputable def sp32 : Ev.Spec := fun args _ K => match args with
  | ([]) => haystacklaw07_heads (fun x0 => K (AV.bool x0))
  | _ => none
noncomputable def S32 := addS 32 sp32 S48
theorem D24 : Dom V S32 T47 24 := Dom.s (m := 23) (n := 0) D23 D23 (O := o32) (OrcOk.fn (fn0 := Tryd.f32) (by kernel_rfl) (by kernel_rfl) pc32) fun args R K r h => by
  unfold sp32 at h; split at h
  · rw [haystacklaw07_heads_unf] at h; exact (haystacklaw07_heads_eq K).trans h
  · cases h

noncomputable def sp73 : Ev.Spec := fun args _ K => match args with
  | ([AV.int .i64 n1077]) => haystackref02_Words n1077 (fun x0 => K (AV.int .i64 x0))
  | _ => none
noncomputable def S73 := addS 73 sp73 S32
theorem D25 : Dom V S73 T47 25 := Dom.s (m := 24) (n := 0) D24 D24 (O := (fun _ => none)) (fun _ _ _ _ => OrcOk.none _ _) fun args R K r h => by
  unfold sp73 at h; split at h
  · rw [haystackref02_Words_unf] at h; exact Eq.trans (by kernel_rfl) h
  · cases h

noncomputable def o74_4400_in {R : Type} (K : Ex → St → Option R) (vs : List AV) (hh : H) : Option R := match vs, hh with
  | [AV.int .i64 n1082, AV.int .u64 n1083, AV.int .i64 n1084], [] => haystackref01_Mask_l4 n1082 n1083 n1084 (fun x0 => K (Ex.exit 0) (St.mk (spread 20 0 [3] [AV.int .u64 x0]) []))
  | _, _ => none

noncomputable def o74_6000_in {R : Type} (K : Ex → St → Option R) (vs : List AV) (hh : H) : Option R := match vs, hh with
  | [AV.int .i64 n1085, AV.int .u64 n1086, AV.int .i64 n1087], [] => haystackref01_Mask_j6 n1085 n1086 n1087 (fun x0 x1 x2 => K (Ex.normal) (St.mk (spread 20 0 [0, 3, 4] [AV.int .i64 x0, AV.int .u64 x1, AV.int .i64 x2]) []))
  | _, _ => none

noncomputable def o74 : Nat → Option PSpec := lkN [(4400, fun st _ K => pickM 20 [0, 3, 4] st (o74_4400_in K)), (6000, fun st _ K => pickM 20 [0, 3, 4] st (o74_6000_in K))]
noncomputable def q74 : CallF := evFun (V 74) S73 T47 10

noncomputable def c74_4400 : Code := subC [1, 1, 0, 1, 0, 0] (bodyOf Tryd.f74)

noncomputable def lp74_4400 {R : Type} (N : Nat) (st : St) (K : Ex → St → Option R) : Option R := evLoop (norm ((V 74).keep 74 (Ev.keyOf c74_4400 * 1000 + 400)) 0) (evCode (V 74) q74 o74 74 0 3994 c74_4400) N st (kOut (V 74) 74 0 (Ev.keyOf c74_4400 * 1000 + 401) K)

noncomputable def c74_6000 : Code := subC [1, 1, 0, 1, 0, 0, 1] (bodyOf Tryd.f74)

theorem haystackref01_Mask_l4_L_eq {R : Type} (K : Ex → St → Option R) : ∀ N : Nat, (fun (n1082 : Int) (n1083 : Int) (n1084 : Int) => lp74_4400 N (St.mk (spread 20 0 [0, 3, 4] [AV.int .i64 n1082, AV.int .u64 n1083, AV.int .i64 n1084]) []) K) = haystackref01_Mask_l4_L (fun x0 => K (Ex.exit 0) (St.mk (spread 20 0 [3] [AV.int .u64 x0]) [])) N
  | 0 => by funext n1082 n1083 n1084; rfl
  | N + 1 => by
    funext n1082 n1083 n1084
    simp only [haystackref01_Mask_l4_L]
    rw [← haystackref01_Mask_l4_L_eq K N]
    kernel_rfl

theorem p74_4400 : PieceOk (V 74) q74 o74 74 0 (3994, 1, c74_4400) := .l (size := 20) (ss := [0, 3, 4]) (F := @o74_4400_in) (by kernel_rfl) (by kernel_rfl) fun R r K vs hh h => by
  unfold o74_4400_in at h; split at h
  · rw [haystackref01_Mask_l4_unf] at h; unfold haystackref01_Mask_l4_B at h; rw [← haystackref01_Mask_l4_L_eq K NR] at h; exact h
  · cases h

theorem p74_6000 : PieceOk (V 74) q74 o74 74 0 (3993, 0, c74_6000) := .s (size := 20) (ss := [0, 3, 4]) (F := @o74_6000_in) (by kernel_rfl) fun R r K vs hh h => by
  unfold o74_6000_in at h; split at h
  · rw [haystackref01_Mask_j6_unf] at h; exact Eq.trans (by kernel_rfl) h
  · cases h

theorem pc74 : ∀ x ∈ [(3994, 1, c74_4400), (3993, 0, c74_6000)], PieceOk (V 74) q74 o74 74 0 x := List.forall_mem_cons.2 ⟨p74_4400, List.forall_mem_cons.2 ⟨p74_6000, fun _ h => nomatch h⟩⟩

noncomputable def sp74 : Ev.Spec := fun args _ K => match args with
  | ([AV.int .i64 n1081]) => haystackref01_Mask n1081 (fun x0 => K (AV.int .u64 x0))
  | _ => none
noncomputable def S74 := addS 74 sp74 S73
theorem D26 : Dom V S74 T47 26 := Dom.s (m := 25) (n := 0) D25 D25 (O := o74) (OrcOk.fn (fn0 := Tryd.f74) (by kernel_rfl) (by kernel_rfl) pc74) fun args R K r h => by
  unfold sp74 at h; split at h
  · rw [haystackref01_Mask_unf] at h; exact Eq.trans (by kernel_rfl) h
  · cases h

noncomputable def o31_4000_in {R : Type} (K : Ex → St → Option R) (vs : List AV) (hh : H) : Option R := match vs, hh with
  | [AV.ptr 0 0], [HB.live (Blk.any [AV.int .i64 n1079, AV.fsl (Blk.ints .u64 xs1080)])] => haystackref02_Check_j4 n1079 xs1080 (fun x0 => K (Ex.ret) (St.mk (spread 40 0 [2] [AV.bool x0]) []))
  | _, _ => none

noncomputable def o31 : Nat → Option PSpec := lkN [(4000, fun st _ K => pickM 40 [1] st (o31_4000_in K))]
noncomputable def q31 : CallF := evFun (V 31) S74 T47 10

noncomputable def c31_4000 : Code := subC [1, 1] (bodyOf Tryd.f31)

theorem p31_4000 : PieceOk (V 31) q31 o31 31 0 (3998, 0, c31_4000) := .s (size := 40) (ss := [1]) (F := @o31_4000_in) (by kernel_rfl) fun R r K vs hh h => by
  unfold o31_4000_in at h; split at h
  · rw [haystackref02_Check_j4_unf] at h; exact Eq.trans (by kernel_rfl) h
  · cases h

theorem pc31 : ∀ x ∈ [(3998, 0, c31_4000)], PieceOk (V 31) q31 o31 31 0 x := List.forall_mem_cons.2 ⟨p31_4000, fun _ h => nomatch h⟩

noncomputable def sp31 : Ev.Spec := fun args _ K => match args with
  | ([AV.agg (Blk.any [AV.int .i64 n1075, AV.fsl (Blk.ints .u64 xs1076)])]) => haystackref02_Check n1075 xs1076 (fun x0 => K (AV.bool x0))
  | _ => none
noncomputable def S31 := addS 31 sp31 S74
theorem D27 : Dom V S31 T47 27 := Dom.s (m := 26) (n := 0) D26 D26 (O := o31) (OrcOk.fn (fn0 := Tryd.f31) (by kernel_rfl) (by kernel_rfl) pc31) fun args R K r h => by
  unfold sp31 at h; split at h
  · rw [haystackref02_Check_unf] at h; exact Eq.trans (by kernel_rfl) h
  · cases h

noncomputable def o7_4000_in {R : Type} (K : Ex → St → Option R) (vs : List AV) (hh : H) : Option R := match vs, hh with
  | [AV.int .i64 n1099, AV.ptr 0 0], [HB.live (Blk.any [AV.int .i64 n1100, AV.fsl (Blk.ints .u64 xs1101)])] => haystacklaw07_PlainCounts_j4 n1099 n1100 xs1101 (fun x0 => K (Ex.ret) (St.mk (spread 114 0 [4] [AV.bool x0]) []))
  | _, _ => none

noncomputable def o7 : Nat → Option PSpec := lkN [(4000, fun st _ K => pickM 114 [1, 2] st (o7_4000_in K))]
noncomputable def q7 : CallF := evFun (V 7) S31 T47 10

noncomputable def c7_4000 : Code := subC [1, 1] (bodyOf Tryd.f7)

theorem haystacklaw07_PlainCounts_j4_eq {R : Type} (K : Ex → St → Option R) (n1099 : Int) (n1100 : Int) (xs1101 : List Int) : evCode (V 7) q7 o7 7 0 3998 c7_4000 (St.mk (spread 114 0 [1, 2] [AV.int .i64 n1099, AV.ptr 0 0]) [HB.live (Blk.any [AV.int .i64 n1100, AV.fsl (Blk.ints .u64 xs1101)])]) (kOut (V 7) 7 0 (Ev.keyOf c7_4000 * 1000 + 1) K) = haystacklaw07_PlainCounts_j4_B n1099 n1100 xs1101 (fun x0 => K (Ex.ret) (St.mk (spread 114 0 [4] [AV.bool x0]) [])) := by kernel_rfl

theorem p7_4000 : PieceOk (V 7) q7 o7 7 0 (3998, 0, c7_4000) := .s (size := 114) (ss := [1, 2]) (F := @o7_4000_in) (by kernel_rfl) fun R r K vs hh h => by
  unfold o7_4000_in at h; split at h
  · rw [haystacklaw07_PlainCounts_j4_unf] at h; exact (haystacklaw07_PlainCounts_j4_eq K _ _ _).trans h
  · cases h

theorem pc7 : ∀ x ∈ [(3998, 0, c7_4000)], PieceOk (V 7) q7 o7 7 0 x := List.forall_mem_cons.2 ⟨p7_4000, fun _ h => nomatch h⟩

noncomputable def sp7 : Ev.Spec := fun args _ K => match args with
  | ([AV.agg (Blk.any [AV.int .i64 n0, AV.fsl (Blk.ints .u64 xs1)]), AV.int .i64 n2]) => haystacklaw07_PlainCounts n0 xs1 n2 (fun x0 => K (AV.bool x0))
  | _ => none
noncomputable def S7 := addS 7 sp7 S31
theorem D28 : Dom V S7 T47 28 := Dom.s (m := 27) (n := 0) D27 D27 (O := o7) (OrcOk.fn (fn0 := Tryd.f7) (by kernel_rfl) (by kernel_rfl) pc7) fun args R K r h => by
  unfold sp7 at h; split at h
  · rw [haystacklaw07_PlainCounts_unf] at h; exact Eq.trans (by kernel_rfl) h
  · cases h

noncomputable def sp83 : Ev.Spec := fun args _ K => match args with
  | ([AV.agg (Blk.any [AV.int .i64 n1151, AV.fsl (Blk.ints .u64 xs1152)]), AV.int .i64 n1153]) => haystackref02_At n1151 xs1152 n1153 (fun x0 => K (AV.bool x0))
  | _ => none
noncomputable def S83 := addS 83 sp83 S7
theorem D29 : Dom V S83 T47 29 := Dom.s (m := 28) (n := 0) D28 D28 (O := (fun _ => none)) (fun _ _ _ _ => OrcOk.none _ _) fun args R K r h => by
  unfold sp83 at h; split at h
  · rw [haystackref02_At_unf] at h; exact Eq.trans (by kernel_rfl) h
  · cases h

noncomputable def o78_4400_in {R : Type} (K : Ex → St → Option R) (vs : List AV) (hh : H) : Option R := match vs, hh with
  | [AV.int .i64 n1140, AV.ptr 0 0, AV.int .i64 n1141, AV.int .i64 n1142], [HB.live (Blk.any [AV.int .i64 n1143, AV.fsl (Blk.ints .u64 xs1144)])] => haystackref02_Ones_l4 n1140 n1141 n1142 n1143 xs1144 (fun x0 => K (Ex.exit 0) (St.mk (spread 28 0 [5] [AV.int .i64 x0]) []))
  | _, _ => none

noncomputable def o78_6000_in {R : Type} (K : Ex → St → Option R) (vs : List AV) (hh : H) : Option R := match vs, hh with
  | [AV.int .i64 n1146, AV.ptr 0 0, AV.int .i64 n1147, AV.int .i64 n1148], [HB.live (Blk.any [AV.int .i64 n1149, AV.fsl (Blk.ints .u64 xs1150)])] => haystackref02_Ones_j6 n1146 n1147 n1148 n1149 xs1150 (fun x0 x1 x2 x3 x4 => K (Ex.normal) (St.mk (spread 28 0 [1, 2, 5, 6] [AV.int .i64 x0, AV.ptr 0 0, AV.int .i64 x1, AV.int .i64 x2]) [HB.live (Blk.any [AV.int .i64 x3, AV.fsl (Blk.ints .u64 x4)])]))
  | _, _ => none

noncomputable def o78 : Nat → Option PSpec := lkN [(4400, fun st _ K => pickM 28 [1, 2, 5, 6] st (o78_4400_in K)), (6000, fun st _ K => pickM 28 [1, 2, 5, 6] st (o78_6000_in K))]
noncomputable def q78 : CallF := evFun (V 78) S83 T47 10

noncomputable def c78_4400 : Code := subC [1, 1, 0, 1, 0, 0] (bodyOf Tryd.f78)

noncomputable def lp78_4400 {R : Type} (N : Nat) (st : St) (K : Ex → St → Option R) : Option R := evLoop (norm ((V 78).keep 78 (Ev.keyOf c78_4400 * 1000 + 400)) 0) (evCode (V 78) q78 o78 78 0 3994 c78_4400) N st (kOut (V 78) 78 0 (Ev.keyOf c78_4400 * 1000 + 401) K)

noncomputable def c78_6000 : Code := subC [1, 1, 0, 1, 0, 0, 1] (bodyOf Tryd.f78)

theorem haystackref02_Ones_l4_L_eq {R : Type} (K : Ex → St → Option R) : ∀ N : Nat, (fun (n1140 : Int) (n1141 : Int) (n1142 : Int) (n1143 : Int) (xs1144 : List Int) => lp78_4400 N (St.mk (spread 28 0 [1, 2, 5, 6] [AV.int .i64 n1140, AV.ptr 0 0, AV.int .i64 n1141, AV.int .i64 n1142]) [HB.live (Blk.any [AV.int .i64 n1143, AV.fsl (Blk.ints .u64 xs1144)])]) K) = haystackref02_Ones_l4_L (fun x0 => K (Ex.exit 0) (St.mk (spread 28 0 [5] [AV.int .i64 x0]) [])) N
  | 0 => by funext n1140 n1141 n1142 n1143 xs1144; rfl
  | N + 1 => by
    funext n1140 n1141 n1142 n1143 xs1144
    simp only [haystackref02_Ones_l4_L]
    rw [← haystackref02_Ones_l4_L_eq K N]
    kernel_rfl

theorem p78_4400 : PieceOk (V 78) q78 o78 78 0 (3994, 1, c78_4400) := .l (size := 28) (ss := [1, 2, 5, 6]) (F := @o78_4400_in) (by kernel_rfl) (by kernel_rfl) fun R r K vs hh h => by
  unfold o78_4400_in at h; split at h
  · rw [haystackref02_Ones_l4_unf] at h; unfold haystackref02_Ones_l4_B at h; rw [← haystackref02_Ones_l4_L_eq K NR] at h; exact h
  · cases h

theorem p78_6000 : PieceOk (V 78) q78 o78 78 0 (3993, 0, c78_6000) := .s (size := 28) (ss := [1, 2, 5, 6]) (F := @o78_6000_in) (by kernel_rfl) fun R r K vs hh h => by
  unfold o78_6000_in at h; split at h
  · rw [haystackref02_Ones_j6_unf] at h; exact Eq.trans (by kernel_rfl) h
  · cases h

theorem pc78 : ∀ x ∈ [(3994, 1, c78_4400), (3993, 0, c78_6000)], PieceOk (V 78) q78 o78 78 0 x := List.forall_mem_cons.2 ⟨p78_4400, List.forall_mem_cons.2 ⟨p78_6000, fun _ h => nomatch h⟩⟩

noncomputable def sp78 : Ev.Spec := fun args _ K => match args with
  | ([AV.agg (Blk.any [AV.int .i64 n1137, AV.fsl (Blk.ints .u64 xs1138)]), AV.int .i64 n1139]) => haystackref02_Ones n1137 xs1138 n1139 (fun x0 => K (AV.int .i64 x0))
  | _ => none
noncomputable def S78 := addS 78 sp78 S83
theorem D30 : Dom V S78 T47 30 := Dom.s (m := 29) (n := 0) D29 D29 (O := o78) (OrcOk.fn (fn0 := Tryd.f78) (by kernel_rfl) (by kernel_rfl) pc78) fun args R K r h => by
  unfold sp78 at h; split at h
  · rw [haystackref02_Ones_unf] at h; exact Eq.trans (by kernel_rfl) h
  · cases h

noncomputable def o36_6400_in {R : Type} (K : Ex → St → Option R) (vs : List AV) (hh : H) : Option R := match vs, hh with
  | [AV.ptr 0 0, AV.ptr 1 0, AV.ptr 2 0, AV.int .i64 n1131], [HB.live (Blk.any [AV.int .i64 n1132, AV.fsl (Blk.ints .u64 xs1133)]), HB.live (Blk.any [AV.int .i64 n1134, AV.esl, AV.esl, AV.esl]), HB.live (Blk.any [AV.int .i64 n1135, AV.fsl (Blk.ints .u64 xs1136), AV.esl, AV.esl])] => haystackref07_Build_l6 n1131 n1132 xs1133 n1134 n1135 xs1136 (fun x0 x1 x2 x3 x4 x5 x6 => K (Ex.exit 0) (St.mk (spread 53 0 [1, 2, 4] [AV.ptr 0 0, AV.ptr 1 0, AV.ptr 2 0]) [HB.live (Blk.any [AV.int .i64 x0, AV.fsl (Blk.ints .u64 x1)]), HB.live (Blk.any [AV.int .i64 x2, AV.esl, AV.esl, AV.esl]), HB.live (Blk.any [AV.int .i64 x3, AV.fsl (Blk.ints .u64 x4), AV.sl 3 0 x5 1, AV.esl]), HB.live (Blk.ints .i64 x6)])) (fun x0 x1 x2 x3 x4 => K (Ex.exit 0) (St.mk (spread 53 0 [1, 2, 4] [AV.ptr 0 0, AV.ptr 1 0, AV.ptr 2 0]) [HB.live (Blk.any [AV.int .i64 x0, AV.fsl (Blk.ints .u64 x1)]), HB.live (Blk.any [AV.int .i64 x2, AV.esl, AV.esl, AV.esl]), HB.live (Blk.any [AV.int .i64 x3, AV.fsl (Blk.ints .u64 x4), AV.esl, AV.esl])]))
  | [AV.ptr 0 0, AV.ptr 1 0, AV.ptr 2 0, AV.int .i64 n1164], [HB.live (Blk.any [AV.int .i64 n1165, AV.fsl (Blk.ints .u64 xs1166)]), HB.live (Blk.any [AV.int .i64 n1167, AV.esl, AV.esl, AV.esl]), HB.live (Blk.any [AV.int .i64 n1168, AV.fsl (Blk.ints .u64 xs1169), AV.sl 3 0 l1170 1, AV.esl]), HB.live (Blk.ints .i64 xs1171)] => haystackref07_Build_l6_1 n1164 n1165 xs1166 n1167 n1168 xs1169 l1170 xs1171 (fun x0 x1 x2 x3 x4 x5 x6 => K (Ex.exit 0) (St.mk (spread 53 0 [1, 2, 4] [AV.ptr 0 0, AV.ptr 1 0, AV.ptr 2 0]) [HB.live (Blk.any [AV.int .i64 x0, AV.fsl (Blk.ints .u64 x1)]), HB.live (Blk.any [AV.int .i64 x2, AV.esl, AV.esl, AV.esl]), HB.live (Blk.any [AV.int .i64 x3, AV.fsl (Blk.ints .u64 x4), AV.sl 3 0 x5 1, AV.esl]), HB.live (Blk.ints .i64 x6)]))
  | _, _ => none

noncomputable def o36_10400_in {R : Type} (K : Ex → St → Option R) (vs : List AV) (hh : H) : Option R := match vs, hh with
  | [AV.ptr 0 0, AV.ptr 1 0, AV.ptr 2 0, AV.int .i64 n1184], [HB.live (Blk.any [AV.int .i64 n1185, AV.fsl (Blk.ints .u64 xs1186)]), HB.live (Blk.any [AV.int .i64 n1187, AV.esl, AV.esl, AV.esl]), HB.live (Blk.any [AV.int .i64 n1188, AV.fsl (Blk.ints .u64 xs1189), AV.sl 3 0 l1190 1, AV.esl]), HB.live (Blk.ints .i64 xs1191)] => haystackref07_Build_l10 n1184 n1185 xs1186 n1187 n1188 xs1189 l1190 xs1191 (fun x0 x1 x2 x3 x4 x5 x6 => K (Ex.exit 2) (St.mk (spread 53 0 [2, 4] [AV.ptr 0 0, AV.ptr 1 0]) [HB.live (Blk.any [AV.int .i64 x0, AV.esl, AV.esl, AV.esl]), HB.live (Blk.any [AV.int .i64 x1, AV.fsl (Blk.ints .u64 x2), AV.sl 2 0 x3 1, AV.sl 3 0 x4 1]), HB.live (Blk.ints .i64 x5), HB.live (Blk.ints .i64 x6)])) (fun x0 x1 x2 x3 x4 => K (Ex.exit 2) (St.mk (spread 53 0 [2, 4] [AV.ptr 0 0, AV.ptr 1 0]) [HB.live (Blk.any [AV.int .i64 x0, AV.esl, AV.esl, AV.esl]), HB.live (Blk.any [AV.int .i64 x1, AV.fsl (Blk.ints .u64 x2), AV.sl 2 0 x3 1, AV.esl]), HB.live (Blk.ints .i64 x4)]))
  | [AV.ptr 0 0, AV.ptr 1 0, AV.ptr 2 0, AV.int .i64 n1194], [HB.live (Blk.any [AV.int .i64 n1195, AV.fsl (Blk.ints .u64 xs1196)]), HB.live (Blk.any [AV.int .i64 n1197, AV.esl, AV.esl, AV.esl]), HB.live (Blk.any [AV.int .i64 n1198, AV.fsl (Blk.ints .u64 xs1199), AV.sl 3 0 l1200 1, AV.sl 4 0 l1201 1]), HB.live (Blk.ints .i64 xs1202), HB.live (Blk.ints .i64 xs1203)] => haystackref07_Build_l10_1 n1194 n1195 xs1196 n1197 n1198 xs1199 l1200 l1201 xs1202 xs1203 (fun x0 x1 x2 x3 x4 x5 x6 => K (Ex.exit 2) (St.mk (spread 53 0 [2, 4] [AV.ptr 0 0, AV.ptr 1 0]) [HB.live (Blk.any [AV.int .i64 x0, AV.esl, AV.esl, AV.esl]), HB.live (Blk.any [AV.int .i64 x1, AV.fsl (Blk.ints .u64 x2), AV.sl 2 0 x3 1, AV.sl 3 0 x4 1]), HB.live (Blk.ints .i64 x5), HB.live (Blk.ints .i64 x6)]))
  | [AV.ptr 0 0, AV.ptr 1 0, AV.ptr 2 0, AV.int .i64 n1226], [HB.live (Blk.any [AV.int .i64 n1227, AV.fsl (Blk.ints .u64 xs1228)]), HB.live (Blk.any [AV.int .i64 n1229, AV.esl, AV.esl, AV.esl]), HB.live (Blk.any [AV.int .i64 n1230, AV.fsl (Blk.ints .u64 xs1231), AV.esl, AV.esl])] => haystackref07_Build_l10_2 n1226 n1227 xs1228 n1229 n1230 xs1231 (fun x0 x1 x2 => K (Ex.exit 2) (St.mk (spread 53 0 [2, 4] [AV.ptr 0 0, AV.ptr 1 0]) [HB.live (Blk.any [AV.int .i64 x0, AV.esl, AV.esl, AV.esl]), HB.live (Blk.any [AV.int .i64 x1, AV.fsl (Blk.ints .u64 x2), AV.esl, AV.esl])]))
  | _, _ => none

noncomputable def o36 : Nat → Option PSpec := lkN [(6400, fun st _ K => pickM 53 [1, 2, 4, 5] st (o36_6400_in K)), (10400, fun st _ K => pickM 53 [1, 2, 4, 6] st (o36_10400_in K))]
noncomputable def q36 : CallF := evFun (V 36) S78 T47 10

noncomputable def c36_6400 : Code := subC [1, 1, 1, 0, 1, 0, 0] (bodyOf Tryd.f36)

noncomputable def lp36_6400 {R : Type} (N : Nat) (st : St) (K : Ex → St → Option R) : Option R := evLoop (norm ((V 36).keep 36 (Ev.keyOf c36_6400 * 1000 + 400)) 0) (evCode (V 36) q36 o36 36 0 3993 c36_6400) N st (kOut (V 36) 36 0 (Ev.keyOf c36_6400 * 1000 + 401) K)

noncomputable def c36_10400 : Code := subC [1, 1, 1, 1, 0, 1, 0, 0] (bodyOf Tryd.f36)

noncomputable def lp36_10400 {R : Type} (N : Nat) (st : St) (K : Ex → St → Option R) : Option R := evLoop (norm ((V 36).keep 36 (Ev.keyOf c36_10400 * 1000 + 400)) 0) (evCode (V 36) q36 o36 36 0 3992 c36_10400) N st (kOut (V 36) 36 0 (Ev.keyOf c36_10400 * 1000 + 401) K)

theorem haystackref07_Build_l6_1_L_eq {R : Type} (K : Ex → St → Option R) : ∀ N : Nat, (fun (n1164 : Int) (n1165 : Int) (xs1166 : List Int) (n1167 : Int) (n1168 : Int) (xs1169 : List Int) (l1170 : Nat) (xs1171 : List Int) => lp36_6400 N (St.mk (spread 53 0 [1, 2, 4, 5] [AV.ptr 0 0, AV.ptr 1 0, AV.ptr 2 0, AV.int .i64 n1164]) [HB.live (Blk.any [AV.int .i64 n1165, AV.fsl (Blk.ints .u64 xs1166)]), HB.live (Blk.any [AV.int .i64 n1167, AV.esl, AV.esl, AV.esl]), HB.live (Blk.any [AV.int .i64 n1168, AV.fsl (Blk.ints .u64 xs1169), AV.sl 3 0 l1170 1, AV.esl]), HB.live (Blk.ints .i64 xs1171)]) K) = haystackref07_Build_l6_1_L (fun x0 x1 x2 x3 x4 x5 x6 => K (Ex.exit 0) (St.mk (spread 53 0 [1, 2, 4] [AV.ptr 0 0, AV.ptr 1 0, AV.ptr 2 0]) [HB.live (Blk.any [AV.int .i64 x0, AV.fsl (Blk.ints .u64 x1)]), HB.live (Blk.any [AV.int .i64 x2, AV.esl, AV.esl, AV.esl]), HB.live (Blk.any [AV.int .i64 x3, AV.fsl (Blk.ints .u64 x4), AV.sl 3 0 x5 1, AV.esl]), HB.live (Blk.ints .i64 x6)])) N
  | 0 => by funext n1164 n1165 xs1166 n1167 n1168 xs1169 l1170 xs1171; rfl
  | N + 1 => by
    funext n1164 n1165 xs1166 n1167 n1168 xs1169 l1170 xs1171
    simp only [haystackref07_Build_l6_1_L]
    rw [← haystackref07_Build_l6_1_L_eq K N]
    kernel_rfl

theorem haystackref07_Build_l6_L_eq {R : Type} (K : Ex → St → Option R) : ∀ N : Nat, (fun (n1131 : Int) (n1132 : Int) (xs1133 : List Int) (n1134 : Int) (n1135 : Int) (xs1136 : List Int) => lp36_6400 N (St.mk (spread 53 0 [1, 2, 4, 5] [AV.ptr 0 0, AV.ptr 1 0, AV.ptr 2 0, AV.int .i64 n1131]) [HB.live (Blk.any [AV.int .i64 n1132, AV.fsl (Blk.ints .u64 xs1133)]), HB.live (Blk.any [AV.int .i64 n1134, AV.esl, AV.esl, AV.esl]), HB.live (Blk.any [AV.int .i64 n1135, AV.fsl (Blk.ints .u64 xs1136), AV.esl, AV.esl])]) K) = haystackref07_Build_l6_L (fun x0 x1 x2 x3 x4 x5 x6 => K (Ex.exit 0) (St.mk (spread 53 0 [1, 2, 4] [AV.ptr 0 0, AV.ptr 1 0, AV.ptr 2 0]) [HB.live (Blk.any [AV.int .i64 x0, AV.fsl (Blk.ints .u64 x1)]), HB.live (Blk.any [AV.int .i64 x2, AV.esl, AV.esl, AV.esl]), HB.live (Blk.any [AV.int .i64 x3, AV.fsl (Blk.ints .u64 x4), AV.sl 3 0 x5 1, AV.esl]), HB.live (Blk.ints .i64 x6)])) (fun x0 x1 x2 x3 x4 => K (Ex.exit 0) (St.mk (spread 53 0 [1, 2, 4] [AV.ptr 0 0, AV.ptr 1 0, AV.ptr 2 0]) [HB.live (Blk.any [AV.int .i64 x0, AV.fsl (Blk.ints .u64 x1)]), HB.live (Blk.any [AV.int .i64 x2, AV.esl, AV.esl, AV.esl]), HB.live (Blk.any [AV.int .i64 x3, AV.fsl (Blk.ints .u64 x4), AV.esl, AV.esl])])) N
  | 0 => by funext n1131 n1132 xs1133 n1134 n1135 xs1136; rfl
  | N + 1 => by
    funext n1131 n1132 xs1133 n1134 n1135 xs1136
    simp only [haystackref07_Build_l6_L]
    rw [← haystackref07_Build_l6_L_eq K N, ← haystackref07_Build_l6_1_L_eq K N]
    kernel_rfl

theorem haystackref07_Build_l10_1_L_eq {R : Type} (K : Ex → St → Option R) : ∀ N : Nat, (fun (n1194 : Int) (n1195 : Int) (xs1196 : List Int) (n1197 : Int) (n1198 : Int) (xs1199 : List Int) (l1200 : Nat) (l1201 : Nat) (xs1202 : List Int) (xs1203 : List Int) => lp36_10400 N (St.mk (spread 53 0 [1, 2, 4, 6] [AV.ptr 0 0, AV.ptr 1 0, AV.ptr 2 0, AV.int .i64 n1194]) [HB.live (Blk.any [AV.int .i64 n1195, AV.fsl (Blk.ints .u64 xs1196)]), HB.live (Blk.any [AV.int .i64 n1197, AV.esl, AV.esl, AV.esl]), HB.live (Blk.any [AV.int .i64 n1198, AV.fsl (Blk.ints .u64 xs1199), AV.sl 3 0 l1200 1, AV.sl 4 0 l1201 1]), HB.live (Blk.ints .i64 xs1202), HB.live (Blk.ints .i64 xs1203)]) K) = haystackref07_Build_l10_1_L (fun x0 x1 x2 x3 x4 x5 x6 => K (Ex.exit 2) (St.mk (spread 53 0 [2, 4] [AV.ptr 0 0, AV.ptr 1 0]) [HB.live (Blk.any [AV.int .i64 x0, AV.esl, AV.esl, AV.esl]), HB.live (Blk.any [AV.int .i64 x1, AV.fsl (Blk.ints .u64 x2), AV.sl 2 0 x3 1, AV.sl 3 0 x4 1]), HB.live (Blk.ints .i64 x5), HB.live (Blk.ints .i64 x6)])) N
  | 0 => by funext n1194 n1195 xs1196 n1197 n1198 xs1199 l1200 l1201 xs1202 xs1203; rfl
  | N + 1 => by
    funext n1194 n1195 xs1196 n1197 n1198 xs1199 l1200 l1201 xs1202 xs1203
    simp only [haystackref07_Build_l10_1_L]
    rw [← haystackref07_Build_l10_1_L_eq K N]
    kernel_rfl

theorem haystackref07_Build_l10_L_eq {R : Type} (K : Ex → St → Option R) : ∀ N : Nat, (fun (n1184 : Int) (n1185 : Int) (xs1186 : List Int) (n1187 : Int) (n1188 : Int) (xs1189 : List Int) (l1190 : Nat) (xs1191 : List Int) => lp36_10400 N (St.mk (spread 53 0 [1, 2, 4, 6] [AV.ptr 0 0, AV.ptr 1 0, AV.ptr 2 0, AV.int .i64 n1184]) [HB.live (Blk.any [AV.int .i64 n1185, AV.fsl (Blk.ints .u64 xs1186)]), HB.live (Blk.any [AV.int .i64 n1187, AV.esl, AV.esl, AV.esl]), HB.live (Blk.any [AV.int .i64 n1188, AV.fsl (Blk.ints .u64 xs1189), AV.sl 3 0 l1190 1, AV.esl]), HB.live (Blk.ints .i64 xs1191)]) K) = haystackref07_Build_l10_L (fun x0 x1 x2 x3 x4 x5 x6 => K (Ex.exit 2) (St.mk (spread 53 0 [2, 4] [AV.ptr 0 0, AV.ptr 1 0]) [HB.live (Blk.any [AV.int .i64 x0, AV.esl, AV.esl, AV.esl]), HB.live (Blk.any [AV.int .i64 x1, AV.fsl (Blk.ints .u64 x2), AV.sl 2 0 x3 1, AV.sl 3 0 x4 1]), HB.live (Blk.ints .i64 x5), HB.live (Blk.ints .i64 x6)])) (fun x0 x1 x2 x3 x4 => K (Ex.exit 2) (St.mk (spread 53 0 [2, 4] [AV.ptr 0 0, AV.ptr 1 0]) [HB.live (Blk.any [AV.int .i64 x0, AV.esl, AV.esl, AV.esl]), HB.live (Blk.any [AV.int .i64 x1, AV.fsl (Blk.ints .u64 x2), AV.sl 2 0 x3 1, AV.esl]), HB.live (Blk.ints .i64 x4)])) N
  | 0 => by funext n1184 n1185 xs1186 n1187 n1188 xs1189 l1190 xs1191; rfl
  | N + 1 => by
    funext n1184 n1185 xs1186 n1187 n1188 xs1189 l1190 xs1191
    simp only [haystackref07_Build_l10_L]
    rw [← haystackref07_Build_l10_L_eq K N, ← haystackref07_Build_l10_1_L_eq K N]
    kernel_rfl

theorem haystackref07_Build_l10_2_L_eq {R : Type} (K : Ex → St → Option R) : ∀ N : Nat, (fun (n1226 : Int) (n1227 : Int) (xs1228 : List Int) (n1229 : Int) (n1230 : Int) (xs1231 : List Int) => lp36_10400 N (St.mk (spread 53 0 [1, 2, 4, 6] [AV.ptr 0 0, AV.ptr 1 0, AV.ptr 2 0, AV.int .i64 n1226]) [HB.live (Blk.any [AV.int .i64 n1227, AV.fsl (Blk.ints .u64 xs1228)]), HB.live (Blk.any [AV.int .i64 n1229, AV.esl, AV.esl, AV.esl]), HB.live (Blk.any [AV.int .i64 n1230, AV.fsl (Blk.ints .u64 xs1231), AV.esl, AV.esl])]) K) = haystackref07_Build_l10_2_L (fun x0 x1 x2 => K (Ex.exit 2) (St.mk (spread 53 0 [2, 4] [AV.ptr 0 0, AV.ptr 1 0]) [HB.live (Blk.any [AV.int .i64 x0, AV.esl, AV.esl, AV.esl]), HB.live (Blk.any [AV.int .i64 x1, AV.fsl (Blk.ints .u64 x2), AV.esl, AV.esl])])) N
  | 0 => by funext n1226 n1227 xs1228 n1229 n1230 xs1231; rfl
  | N + 1 => by
    funext n1226 n1227 xs1228 n1229 n1230 xs1231
    simp only [haystackref07_Build_l10_2_L]
    rw [← haystackref07_Build_l10_2_L_eq K N]
    kernel_rfl

theorem p36_6400 : PieceOk (V 36) q36 o36 36 0 (3993, 1, c36_6400) := .l (size := 53) (ss := [1, 2, 4, 5]) (F := @o36_6400_in) (by kernel_rfl) (by kernel_rfl) fun R r K vs hh h => by
  unfold o36_6400_in at h; split at h
  · rw [haystackref07_Build_l6_unf] at h; unfold haystackref07_Build_l6_B at h; rw [← haystackref07_Build_l6_L_eq K NR] at h; exact h
  · rw [haystackref07_Build_l6_1_unf] at h; unfold haystackref07_Build_l6_1_B at h; rw [← haystackref07_Build_l6_1_L_eq K NR] at h; exact h
  · cases h

theorem p36_10400 : PieceOk (V 36) q36 o36 36 0 (3992, 1, c36_10400) := .l (size := 53) (ss := [1, 2, 4, 6]) (F := @o36_10400_in) (by kernel_rfl) (by kernel_rfl) fun R r K vs hh h => by
  unfold o36_10400_in at h; split at h
  · rw [haystackref07_Build_l10_unf] at h; unfold haystackref07_Build_l10_B at h; rw [← haystackref07_Build_l10_L_eq K NR] at h; exact h
  · rw [haystackref07_Build_l10_1_unf] at h; unfold haystackref07_Build_l10_1_B at h; rw [← haystackref07_Build_l10_1_L_eq K NR] at h; exact h
  · rw [haystackref07_Build_l10_2_unf] at h; unfold haystackref07_Build_l10_2_B at h; rw [← haystackref07_Build_l10_2_L_eq K NR] at h; exact h
  · cases h

theorem pc36 : ∀ x ∈ [(3993, 1, c36_6400), (3992, 1, c36_10400)], PieceOk (V 36) q36 o36 36 0 x := List.forall_mem_cons.2 ⟨p36_6400, List.forall_mem_cons.2 ⟨p36_10400, fun _ h => nomatch h⟩⟩

theorem haystackref07_Build_eq {R : Type} (K : AV → Option R) (n1128 : Int) (xs1129 : List Int) : evSpec (V 36) S78 T47 o36 10 36 ([AV.agg (Blk.any [AV.int .i64 n1128, AV.fsl (Blk.ints .u64 xs1129)])]) R K = haystackref07_Build_B n1128 xs1129 (fun x0 x1 x2 x3 x4 => K (AV.tup [AV.agg (Blk.any [AV.int .i64 x0, AV.fsl (Blk.ints .u64 x1), AV.fsl (Blk.ints .i64 x2), AV.fsl (Blk.ints .i64 x3)]), AV.int .i64 x4])) := by kernel_rfl

noncomputable def sp36 : Ev.Spec := fun args _ K => match args with
  | ([AV.agg (Blk.any [AV.int .i64 n1128, AV.fsl (Blk.ints .u64 xs1129)])]) => haystackref07_Build n1128 xs1129 (fun x0 x1 x2 x3 x4 => K (AV.tup [AV.agg (Blk.any [AV.int .i64 x0, AV.fsl (Blk.ints .u64 x1), AV.fsl (Blk.ints .i64 x2), AV.fsl (Blk.ints .i64 x3)]), AV.int .i64 x4]))
  | _ => none
noncomputable def S36 := addS 36 sp36 S78
theorem D31 : Dom V S36 T47 31 := Dom.s (m := 30) (n := 0) D30 D30 (O := o36) (OrcOk.fn (fn0 := Tryd.f36) (by kernel_rfl) (by kernel_rfl) pc36) fun args R K r h => by
  unfold sp36 at h; split at h
  · rw [haystackref07_Build_unf] at h; exact (haystackref07_Build_eq K _ _).trans h
  · cases h

noncomputable def o47_4000_in {R : Type} (K : Ex → St → Option R) (vs : List AV) (hh : H) : Option R := match vs, hh with
  | [AV.ptr 0 0, AV.ptr 1 0], [HB.live (Blk.any [AV.int .i64 n1253, AV.fsl (Blk.ints .u64 xs1254)]), HB.live (Blk.any [AV.int .i64 n1255, AV.fsl (Blk.ints .u64 xs1256)])] => haystackref02_Same_j4_1 n1253 xs1254 n1255 xs1256 (fun x0 => K (Ex.ret) (St.mk (spread 38 0 [4] [AV.bool x0]) []))
  | _, _ => none

noncomputable def o47_5400_in {R : Type} (K : Ex → St → Option R) (vs : List AV) (hh : H) : Option R := match vs, hh with
  | [AV.ptr 0 0, AV.ptr 1 0, AV.int .i64 n1257], [HB.live (Blk.any [AV.int .i64 n1258, AV.fsl (Blk.ints .u64 xs1259)]), HB.live (Blk.any [AV.int .i64 n1260, AV.fsl (Blk.ints .u64 xs1261)])] => haystackref02_Same_l5_1 n1257 n1258 xs1259 n1260 xs1261 (fun x0 => K (Ex.ret) (St.mk (spread 38 0 [4] [AV.bool x0]) [])) (fun _ => K (Ex.exit 0) (St.mk (spread 38 0 [] []) []))
  | _, _ => none

noncomputable def o47 : Nat → Option PSpec := lkN [(4000, fun st _ K => pickM 38 [2, 3] st (o47_4000_in K)), (5400, fun st _ K => pickM 38 [2, 3, 5] st (o47_5400_in K))]
noncomputable def q47 : CallF := evFun (V 47) S36 T47 10

noncomputable def c47_4000 : Code := subC [1, 1] (bodyOf Tryd.f47)

noncomputable def c47_5400 : Code := subC [1, 1, 0, 1, 0, 0] (bodyOf Tryd.f47)

noncomputable def lp47_5400 {R : Type} (N : Nat) (st : St) (K : Ex → St → Option R) : Option R := evLoop (norm ((V 47).keep 47 (Ev.keyOf c47_5400 * 1000 + 400)) 0) (evCode (V 47) q47 o47 47 0 3994 c47_5400) N st (kOut (V 47) 47 0 (Ev.keyOf c47_5400 * 1000 + 401) K)

theorem haystackref02_Same_l5_1_L_eq {R : Type} (K : Ex → St → Option R) : ∀ N : Nat, (fun (n1257 : Int) (n1258 : Int) (xs1259 : List Int) (n1260 : Int) (xs1261 : List Int) => lp47_5400 N (St.mk (spread 38 0 [2, 3, 5] [AV.ptr 0 0, AV.ptr 1 0, AV.int .i64 n1257]) [HB.live (Blk.any [AV.int .i64 n1258, AV.fsl (Blk.ints .u64 xs1259)]), HB.live (Blk.any [AV.int .i64 n1260, AV.fsl (Blk.ints .u64 xs1261)])]) K) = haystackref02_Same_l5_1_L (fun x0 => K (Ex.ret) (St.mk (spread 38 0 [4] [AV.bool x0]) [])) (fun _ => K (Ex.exit 0) (St.mk (spread 38 0 [] []) [])) N
  | 0 => by funext n1257 n1258 xs1259 n1260 xs1261; rfl
  | N + 1 => by
    funext n1257 n1258 xs1259 n1260 xs1261
    simp only [haystackref02_Same_l5_1_L]
    rw [← haystackref02_Same_l5_1_L_eq K N]
    kernel_rfl

theorem p47_4000 : PieceOk (V 47) q47 o47 47 0 (3998, 0, c47_4000) := .s (size := 38) (ss := [2, 3]) (F := @o47_4000_in) (by kernel_rfl) fun R r K vs hh h => by
  unfold o47_4000_in at h; split at h
  · rw [haystackref02_Same_j4_1_unf] at h; exact Eq.trans (by kernel_rfl) h
  · cases h

theorem p47_5400 : PieceOk (V 47) q47 o47 47 0 (3994, 1, c47_5400) := .l (size := 38) (ss := [2, 3, 5]) (F := @o47_5400_in) (by kernel_rfl) (by kernel_rfl) fun R r K vs hh h => by
  unfold o47_5400_in at h; split at h
  · rw [haystackref02_Same_l5_1_unf] at h; unfold haystackref02_Same_l5_1_B at h; rw [← haystackref02_Same_l5_1_L_eq K NR] at h; exact h
  · cases h

theorem pc47 : ∀ x ∈ [(3998, 0, c47_4000), (3994, 1, c47_5400)], PieceOk (V 47) q47 o47 47 0 x := List.forall_mem_cons.2 ⟨p47_4000, List.forall_mem_cons.2 ⟨p47_5400, fun _ h => nomatch h⟩⟩

noncomputable def sp47 : Ev.Spec := fun args _ K => match args with
  | ([AV.agg (Blk.any [AV.int .i64 n1249, AV.fsl (Blk.ints .u64 xs1250)]), AV.agg (Blk.any [AV.int .i64 n1251, AV.fsl (Blk.ints .u64 xs1252)])]) => haystackref02_Same n1249 xs1250 n1251 xs1252 (fun x0 => K (AV.bool x0))
  | _ => none
noncomputable def S47 := addS 47 sp47 S36
theorem D32 : Dom V S47 T47 32 := Dom.s (m := 31) (n := 0) D31 D31 (O := o47) (OrcOk.fn (fn0 := Tryd.f47) (by kernel_rfl) (by kernel_rfl) pc47) fun args R K r h => by
  unfold sp47 at h; split at h
  · rw [haystackref02_Same_unf] at h; exact Eq.trans (by kernel_rfl) h
  · cases h

noncomputable def o79_5400_in {R : Type} (K : Ex → St → Option R) (vs : List AV) (hh : H) : Option R := match vs, hh with
  | [AV.fsl (Blk.ints .i64 xs1267), AV.fsl (Blk.ints .i64 xs1268), AV.int .i64 n1269], [] => haystackref07_Numbers_l5 xs1267 xs1268 n1269 (fun x0 => K (Ex.ret) (St.mk (spread 26 0 [4] [AV.bool x0]) [])) (fun _ => K (Ex.exit 0) (St.mk (spread 26 0 [] []) []))
  | _, _ => none

noncomputable def o79 : Nat → Option PSpec := lkN [(5400, fun st _ K => pickM 26 [0, 1, 5] st (o79_5400_in K))]
noncomputable def q79 : CallF := evFun (V 79) S47 T47 10

noncomputable def c79_5400 : Code := subC [1, 1, 0, 1, 0, 0] (bodyOf Tryd.f79)

noncomputable def lp79_5400 {R : Type} (N : Nat) (st : St) (K : Ex → St → Option R) : Option R := evLoop (norm ((V 79).keep 79 (Ev.keyOf c79_5400 * 1000 + 400)) 0) (evCode (V 79) q79 o79 79 0 3994 c79_5400) N st (kOut (V 79) 79 0 (Ev.keyOf c79_5400 * 1000 + 401) K)

theorem haystackref07_Numbers_l5_L_eq {R : Type} (K : Ex → St → Option R) : ∀ N : Nat, (fun (xs1267 : List Int) (xs1268 : List Int) (n1269 : Int) => lp79_5400 N (St.mk (spread 26 0 [0, 1, 5] [AV.fsl (Blk.ints .i64 xs1267), AV.fsl (Blk.ints .i64 xs1268), AV.int .i64 n1269]) []) K) = haystackref07_Numbers_l5_L (fun x0 => K (Ex.ret) (St.mk (spread 26 0 [4] [AV.bool x0]) [])) (fun _ => K (Ex.exit 0) (St.mk (spread 26 0 [] []) [])) N
  | 0 => by funext xs1267 xs1268 n1269; rfl
  | N + 1 => by
    funext xs1267 xs1268 n1269
    simp only [haystackref07_Numbers_l5_L]
    rw [← haystackref07_Numbers_l5_L_eq K N]
    kernel_rfl

theorem p79_5400 : PieceOk (V 79) q79 o79 79 0 (3994, 1, c79_5400) := .l (size := 26) (ss := [0, 1, 5]) (F := @o79_5400_in) (by kernel_rfl) (by kernel_rfl) fun R r K vs hh h => by
  unfold o79_5400_in at h; split at h
  · rw [haystackref07_Numbers_l5_unf] at h; unfold haystackref07_Numbers_l5_B at h; rw [← haystackref07_Numbers_l5_L_eq K NR] at h; exact h
  · cases h

theorem pc79 : ∀ x ∈ [(3994, 1, c79_5400)], PieceOk (V 79) q79 o79 79 0 x := List.forall_mem_cons.2 ⟨p79_5400, fun _ h => nomatch h⟩

noncomputable def sp79 : Ev.Spec := fun args _ K => match args with
  | ([AV.fsl (Blk.ints .i64 xs1265), AV.fsl (Blk.ints .i64 xs1266)]) => haystackref07_Numbers xs1265 xs1266 (fun x0 => K (AV.bool x0))
  | _ => none
noncomputable def S79 := addS 79 sp79 S47
theorem D33 : Dom V S79 T47 33 := Dom.s (m := 32) (n := 0) D32 D32 (O := o79) (OrcOk.fn (fn0 := Tryd.f79) (by kernel_rfl) (by kernel_rfl) pc79) fun args R K r h => by
  unfold sp79 at h; split at h
  · rw [haystackref07_Numbers_unf] at h; exact Eq.trans (by kernel_rfl) h
  · cases h

noncomputable def sp37 : Ev.Spec := fun args _ K => match args with
  | ([AV.agg (Blk.any [AV.int .i64 n1241, AV.fsl (Blk.ints .u64 xs1242), AV.fsl (Blk.ints .i64 xs1243), AV.fsl (Blk.ints .i64 xs1244)]), AV.agg (Blk.any [AV.int .i64 n1245, AV.fsl (Blk.ints .u64 xs1246), AV.fsl (Blk.ints .i64 xs1247), AV.fsl (Blk.ints .i64 xs1248)])]) => haystackref07_Same n1241 xs1242 xs1243 xs1244 n1245 xs1246 xs1247 xs1248 (fun x0 => K (AV.bool x0))
  | _ => none
noncomputable def S37 := addS 37 sp37 S79
theorem D34 : Dom V S37 T47 34 := Dom.s (m := 33) (n := 0) D33 D33 (O := (fun _ => none)) (fun _ _ _ _ => OrcOk.none _ _) fun args R K r h => by
  unfold sp37 at h; split at h
  · rw [haystackref07_Same_unf] at h; exact Eq.trans (by kernel_rfl) h
  · cases h

noncomputable def sp46 : Ev.Spec := fun args _ K => match args with
  | ([AV.agg (Blk.any [AV.int .i64 n1279, AV.fsl (Blk.ints .u64 xs1280), AV.fsl (Blk.ints .i64 xs1281), AV.fsl (Blk.ints .i64 xs1282)])]) => haystackref07_Check n1279 xs1280 xs1281 xs1282 (fun x0 => K (AV.bool x0))
  | _ => none
noncomputable def S46 := addS 46 sp46 S37
theorem D35 : Dom V S46 T47 35 := Dom.s (m := 34) (n := 0) D34 D34 (O := (fun _ => none)) (fun _ _ _ _ => OrcOk.none _ _) fun args R K r h => by
  unfold sp46 at h; split at h
  · rw [haystackref07_Check_unf] at h; exact Eq.trans (by kernel_rfl) h
  · cases h

noncomputable def sp39 : Ev.Spec := fun args _ K => match args with
  | ([AV.agg (Blk.any [AV.int .i64 n1275, AV.fsl (Blk.ints .u64 xs1276), AV.fsl (Blk.ints .i64 xs1277), AV.fsl (Blk.ints .i64 xs1278)])]) => haystackref07_Size n1275 xs1276 xs1277 xs1278 (fun x0 => K (AV.int .i64 x0))
  | _ => none
noncomputable def S39 := addS 39 sp39 S46
theorem D36 : Dom V S39 T47 36 := Dom.s (m := 35) (n := 0) D35 D35 (O := (fun _ => none)) (fun _ _ _ _ => OrcOk.none _ _) fun args R K r h => by
  unfold sp39 at h; split at h
  · rw [haystackref07_Size_unf] at h; exact Eq.trans (by kernel_rfl) h
  · cases h

noncomputable def o8_4000_in {R : Type} (K : Ex → St → Option R) (vs : List AV) (hh : H) : Option R := match vs, hh with
  | [AV.ptr 0 0], [HB.live (Blk.any [AV.int .i64 n1121, AV.fsl (Blk.ints .u64 xs1122)])] => haystacklaw07_PlainBuilds_j4 n1121 xs1122 (fun x0 => K (Ex.ret) (St.mk (spread 45 0 [2] [AV.bool x0]) []))
  | _, _ => none

noncomputable def o8 : Nat → Option PSpec := lkN [(4000, fun st _ K => pickM 45 [1] st (o8_4000_in K))]
noncomputable def q8 : CallF := evFun (V 8) S39 T47 10

noncomputable def c8_4000 : Code := subC [1, 1] (bodyOf Tryd.f8)

theorem p8_4000 : PieceOk (V 8) q8 o8 8 0 (3998, 0, c8_4000) := .s (size := 45) (ss := [1]) (F := @o8_4000_in) (by kernel_rfl) fun R r K vs hh h => by
  unfold o8_4000_in at h; split at h
  · rw [haystacklaw07_PlainBuilds_j4_unf] at h; exact Eq.trans (by kernel_rfl) h
  · cases h

theorem pc8 : ∀ x ∈ [(3998, 0, c8_4000)], PieceOk (V 8) q8 o8 8 0 x := List.forall_mem_cons.2 ⟨p8_4000, fun _ h => nomatch h⟩

noncomputable def sp8 : Ev.Spec := fun args _ K => match args with
  | ([AV.agg (Blk.any [AV.int .i64 n1117, AV.fsl (Blk.ints .u64 xs1118)])]) => haystacklaw07_PlainBuilds n1117 xs1118 (fun x0 => K (AV.bool x0))
  | _ => none
noncomputable def S8 := addS 8 sp8 S39
theorem D37 : Dom V S8 T47 37 := Dom.s (m := 36) (n := 0) D36 D36 (O := o8) (OrcOk.fn (fn0 := Tryd.f8) (by kernel_rfl) (by kernel_rfl) pc8) fun args R K r h => by
  unfold sp8 at h; split at h
  · rw [haystacklaw07_PlainBuilds_unf] at h; exact Eq.trans (by kernel_rfl) h
  · cases h

noncomputable def sp40 : Ev.Spec := fun args _ K => match args with
  | ([AV.agg (Blk.any [AV.int .i64 n1299, AV.fsl (Blk.ints .u64 xs1300), AV.fsl (Blk.ints .i64 xs1301), AV.fsl (Blk.ints .i64 xs1302)])]) => haystacklaw07_small n1299 xs1300 xs1301 xs1302 (fun x0 => K (AV.bool x0))
  | _ => none
noncomputable def S40 := addS 40 sp40 S8
theorem D38 : Dom V S40 T47 38 := Dom.s (m := 37) (n := 0) D37 D37 (O := (fun _ => none)) (fun _ _ _ _ => OrcOk.none _ _) fun args R K r h => by
  unfold sp40 at h; split at h
  · rw [haystacklaw07_small_unf] at h; exact Eq.trans (by kernel_rfl) h
  · cases h

noncomputable def sp80 : Ev.Spec := fun args _ K => match args with
  | ([AV.agg (Blk.any [AV.int .i64 n1320, AV.fsl (Blk.ints .u64 xs1321), AV.fsl (Blk.ints .i64 xs1322), AV.fsl (Blk.ints .i64 xs1323)])]) => haystackref07_Whole n1320 xs1321 xs1322 xs1323 (fun x0 x1 x2 => K (AV.tup [AV.agg (Blk.any [AV.int .i64 x0, AV.fsl (Blk.ints .u64 x1)]), AV.bool x2]))
  | _ => none
noncomputable def S80 := addS 80 sp80 S40
theorem D39 : Dom V S80 T47 39 := Dom.s (m := 38) (n := 0) D38 D38 (O := (fun _ => none)) (fun _ _ _ _ => OrcOk.none _ _) fun args R K r h => by
  unfold sp80 at h; split at h
  · rw [haystackref07_Whole_unf] at h; exact Eq.trans (by kernel_rfl) h
  · cases h
end Go.Proofs.YtllgdcepgelahaaDoor
