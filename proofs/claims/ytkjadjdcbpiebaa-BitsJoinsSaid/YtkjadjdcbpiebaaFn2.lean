/- The functions that this seat's laws reach, as plain functions, and that they are what the program does. Printed by a program of this repo (wip/Prt). -/
import Derived.Test.YtkjadjdcbpiebaaEnv
import Derived.Test.YtkjadjdcbpiebaaEv23
import Derived.KernelRfl
import Derived.Test.YtkjadjdcbpiebaaFn1
namespace Go.Proofs.Ytkjadjdcbpiebaa
open Go Go.Ev
set_option maxRecDepth 100000

theorem haystacklaw02_BitsSets_j4_push {R S : Type} {J : R → Option S} (n1255 : Int) (b1256 : Bool) (n1257 : Int) (n1258 : Int) (xs1259 : List Int) {K0 : Bool → Option R} {Q0 : Bool → Option S} (h0 : ∀ x0, (K0 x0).bind J = Q0 x0) : (haystacklaw02_BitsSets_j4 n1255 b1256 n1257 n1258 xs1259 K0).bind J = haystacklaw02_BitsSets_j4 n1255 b1256 n1257 n1258 xs1259 Q0 := by
  rw [haystacklaw02_BitsSets_j4_unf, haystacklaw02_BitsSets_j4_unf]
  unfold haystacklaw02_BitsSets_j4_B
  repeat' first | intro _ | with_reducible exact h0 _ | with_reducible apply sel_push | with_reducible apply letV_push | with_reducible apply bits_Set_push | with_reducible apply haystackref02_Same_push | with_reducible apply haystacklaw02_heads_push | with_reducible apply bits_Get_push | with_reducible apply bits_Ones_push | with_reducible apply bits_Check_push | with_reducible exact none_bind' _

theorem haystacklaw02_BitsSets_push {R S : Type} {J : R → Option S} (n1246 : Int) (xs1247 : List Int) (n1248 : Int) (b1249 : Bool) (n1250 : Int) {K0 : Bool → Option R} {Q0 : Bool → Option S} (h0 : ∀ x0, (K0 x0).bind J = Q0 x0) : (haystacklaw02_BitsSets n1246 xs1247 n1248 b1249 n1250 K0).bind J = haystacklaw02_BitsSets n1246 xs1247 n1248 b1249 n1250 Q0 := by
  rw [haystacklaw02_BitsSets_unf, haystacklaw02_BitsSets_unf]
  unfold haystacklaw02_BitsSets_B
  repeat' first | intro _ | with_reducible exact h0 _ | with_reducible apply sel_push | with_reducible apply letV_push | with_reducible apply haystacklaw02_small_push | with_reducible apply haystacklaw02_heads_push | with_reducible apply bits_Check_push | with_reducible apply haystacklaw02_BitsSets_j4_push | with_reducible exact none_bind' _

theorem haystacklaw02_BitsJoins_j9_push {R S : Type} {J : R → Option S} (n1311 : Int) (b1312 : Bool) (n1313 : Int) (b1314 : Bool) (n1315 : Int) (n1316 : Int) (xs1317 : List Int) (n1318 : Int) (xs1319 : List Int) (n1320 : Int) (xs1321 : List Int) {K0 : Bool → Option R} {Q0 : Bool → Option S} (h0 : ∀ x0, (K0 x0).bind J = Q0 x0) : (haystacklaw02_BitsJoins_j9 n1311 b1312 n1313 b1314 n1315 n1316 xs1317 n1318 xs1319 n1320 xs1321 K0).bind J = haystacklaw02_BitsJoins_j9 n1311 b1312 n1313 b1314 n1315 n1316 xs1317 n1318 xs1319 n1320 xs1321 Q0 := by
  rw [haystacklaw02_BitsJoins_j9_unf, haystacklaw02_BitsJoins_j9_unf]
  unfold haystacklaw02_BitsJoins_j9_B
  repeat' first | intro _ | with_reducible exact h0 _ | with_reducible apply sel_push | with_reducible apply letV_push | with_reducible apply bits_Ones_push | with_reducible apply haystacklaw02_heads_push | with_reducible exact none_bind' _

theorem haystacklaw02_BitsJoins_j4_push {R S : Type} {J : R → Option S} (n1297 : Int) (n1298 : Int) (xs1299 : List Int) (n1300 : Int) (xs1301 : List Int) {K0 : Bool → Option R} {Q0 : Bool → Option S} (h0 : ∀ x0, (K0 x0).bind J = Q0 x0) : (haystacklaw02_BitsJoins_j4 n1297 n1298 xs1299 n1300 xs1301 K0).bind J = haystacklaw02_BitsJoins_j4 n1297 n1298 xs1299 n1300 xs1301 Q0 := by
  rw [haystacklaw02_BitsJoins_j4_unf, haystacklaw02_BitsJoins_j4_unf]
  unfold haystacklaw02_BitsJoins_j4_B
  repeat' first | intro _ | with_reducible exact h0 _ | with_reducible apply sel_push | with_reducible apply letV_push | with_reducible apply bits_Join_push | with_reducible apply bits_Get_push | with_reducible apply haystacklaw02_BitsJoins_j9_push | with_reducible exact none_bind' _

theorem haystacklaw02_BitsJoins_push {R S : Type} {J : R → Option S} (n1284 : Int) (xs1285 : List Int) (n1286 : Int) (xs1287 : List Int) (n1288 : Int) {K0 : Bool → Option R} {Q0 : Bool → Option S} (h0 : ∀ x0, (K0 x0).bind J = Q0 x0) : (haystacklaw02_BitsJoins n1284 xs1285 n1286 xs1287 n1288 K0).bind J = haystacklaw02_BitsJoins n1284 xs1285 n1286 xs1287 n1288 Q0 := by
  rw [haystacklaw02_BitsJoins_unf, haystacklaw02_BitsJoins_unf]
  unfold haystacklaw02_BitsJoins_B
  repeat' first | intro _ | with_reducible exact h0 _ | with_reducible apply sel_push | with_reducible apply letV_push | with_reducible apply haystacklaw02_small_push | with_reducible apply haystacklaw02_heads_push | with_reducible apply bits_Check_push | with_reducible apply haystacklaw02_BitsJoins_j4_push | with_reducible exact none_bind' _

/-- what is kept where -/
def kpt : List (Nat × List (Nat × List Nat)) := [(3, [(4002, [4]), (4001, [4]), (4000, [1, 2])]), (4, [(4002, [8]), (4001, [8]), (4000, [1, 2, 3, 4])]), (5, [(4002, [10]), (4001, [10]), (4000, [2, 3, 4, 5, 6])]), (6, [(9002, [8]), (9001, [8]), (9000, [2, 3, 4, 9, 10, 11, 12, 13]), (4002, [8]), (4001, [8]), (4000, [1, 2, 3, 4])]), (7, [(4002, [8]), (4001, [8]), (4000, [1, 2, 3, 4])]), (8, [(9002, [6]), (9001, [6]), (9000, [3, 4, 7, 8, 9, 10, 11, 12]), (4002, [6]), (4001, [6]), (4000, [2, 3, 4])]), (14, [(4002, [2]), (4001, [2]), (4000, [1])]), (16, [(6002, [4, 5]), (6001, [4, 5]), (6000, [1, 2])]), (17, [(7403, [1, 2, 5]), (7402, [4]), (7401, []), (7400, [1, 2, 5, 20, 21, 22])]), (18, [(12002, [6, 7]), (12001, [6, 7]), (12000, [2, 10]), (8002, [6, 7]), (8001, [6, 7]), (8000, [1, 2, 3]), (5003, [1, 2, 3]), (5002, [6, 7]), (5001, [1, 2, 3]), (5000, [1, 2, 3, 23]), (3003, [1, 2, 3]), (3002, [6, 7]), (3001, [1, 2, 3]), (3000, [1, 2, 3, 11])]), (20, [(6002, [6, 7]), (6001, [6, 7]), (6000, [1, 2, 3, 6]), (5002, [6, 7]), (5001, [1, 2, 3, 6]), (5000, [1, 2, 3, 6, 20])]), (21, [(4002, [6, 7]), (4001, [6, 7]), (4000, [1, 2, 3, 6]), (3002, [6, 7]), (3001, [1, 2, 3, 6]), (3000, [1, 2, 3, 6, 26])]), (22, [(8405, [6, 8]), (8402, [6, 7]), (8401, []), (8400, [1, 2, 3, 6, 8, 9]), (5403, [1, 2, 3, 6, 8]), (5402, [6, 7]), (5401, []), (5400, [1, 2, 3, 6, 8]), (4002, [6, 7]), (4001, [6, 7]), (4000, [1, 2, 3, 6]), (3002, [6, 7]), (3001, [1, 2, 3, 6]), (3000, [1, 2, 3, 6, 27])]), (23, [(6403, [4, 6]), (6402, [4, 5]), (6401, []), (6400, [2, 4, 6, 34, 35, 36]), (4002, [4, 5]), (4001, [4, 5]), (4000, [2, 3, 4]), (3002, [4, 5]), (3001, [2, 3, 4]), (3000, [2, 3, 4, 24])]), (24, [(4002, [4, 5]), (4001, [4, 5]), (4000, [2, 3, 4]), (3002, [4, 5]), (3001, [2, 3, 4]), (3000, [2, 3, 4, 21])]), (25, [(5403, []), (5402, [4]), (5401, []), (5400, [2, 3, 5]), (4002, [4]), (4001, [4]), (4000, [2, 3])]), (27, [(4002, [2]), (4001, [2]), (4000, [1])]), (42, [(4002, [2, 3]), (4001, [2, 3]), (4000, [0, 2]), (3002, [2, 3]), (3001, [0, 2]), (3000, [0, 2, 9])]), (43, [(6403, [2, 4]), (6402, [2, 3]), (6401, []), (6400, [2, 4, 18, 19, 20])]), (48, [(6002, []), (6001, []), (6000, [2, 3, 6, 7, 36]), (5002, []), (5001, []), (5000, [2, 3, 6, 7])]), (50, [(4403, [2, 4, 5]), (4402, [2, 3]), (4401, []), (4400, [0, 2, 4, 5, 6])]), (51, [(4403, [3]), (4402, [2]), (4401, []), (4400, [1, 3, 4])]), (52, [(6003, [3]), (6002, [2]), (6001, [0, 3, 4]), (6000, [0, 3, 4]), (4403, [3]), (4402, [2]), (4401, []), (4400, [0, 3, 4])]), (64, [(4002, [2, 3]), (4001, [2, 3]), (4000, [0, 2]), (3002, [2, 3]), (3001, [0, 2]), (3000, [0, 2, 9])])]

noncomputable def S0 : FuncId → Option Ev.Spec := fun _ => none
theorem S0_ok : ∀ g sp, S0 g = some sp → SpecOk Try.prog (env (keepOf kpt) (vsOf [])) g sp := fun _ _ h => nomatch h
noncomputable def T0 : FuncId → Option HSpec := fun _ => none
theorem T0_ok : ∀ g sp, T0 g = some sp → HSpecOk Try.prog (env (keepOf kpt) (vsOf [])) g sp := fun _ _ h => nomatch h

theorem haystacklaw02_small_eq {R : Type} (n3 : Int) (xs4 : List Int) (K : AV → Option R) : evSpec (env (keepOf kpt) (vsOf [])) S0 T0 (fun _ => none) 10 13 ([AV.agg (Blk.any [AV.int .i64 n3, AV.fsl (Blk.ints .u64 xs4)])]) R K = haystacklaw02_small n3 xs4 (fun x0 => K (AV.bool x0)) := by
  rw [haystacklaw02_small_unf]; kernel_rfl

noncomputable def sp13 : Ev.Spec := fun args _ K => match args with
  | ([AV.agg (Blk.any [AV.int .i64 n3, AV.fsl (Blk.ints .u64 xs4)])]) => haystacklaw02_small n3 xs4 (fun x0 => K (AV.bool x0))
  | _ => none

theorem sp13_nat : SpecNat sp13 := fun args _ _ _ _ => by
  unfold sp13
  split
  · exact haystacklaw02_small_push _ _ (fun _ => rfl)
  · rfl

theorem ok13 : SpecOk Try.prog (env (keepOf kpt) (vsOf [])) 13 sp13 :=
  SpecOk.of (evSpec_ok (env_types _ _) (env_funs _ _) S0_ok T0_ok (O := (fun _ => none)) ONat.none 10 13 (fun _ _ _ _ => OrcOk.none _ _)) sp13_nat (fun args z h => by
    unfold sp13 at h
    split at h
    · exact (haystacklaw02_small_eq _ _ some).trans h
    · cases h)

noncomputable def S13 : FuncId → Option Ev.Spec := fun g => match g.beq 13 with | true => some sp13 | false => S0 g
theorem S13_ok : ∀ g sp, S13 g = some sp → SpecOk Try.prog (env (keepOf kpt) (vsOf [])) g sp := fun g sp h => by
  unfold S13 at h
  split at h
  · rename_i hb; cases h; obtain rfl := Nat.eq_of_beq_eq_true hb; exact ok13
  · exact S0_ok g sp h

theorem bits_words_eq {R : Type} (n12 : Int) (K : AV → Option R) : evSpec (env (keepOf kpt) (vsOf [])) S13 T0 (fun _ => none) 10 40 ([AV.int .i64 n12]) R K = bits_words n12 (fun x0 => K (AV.int .i64 x0)) := by
  rw [bits_words_unf]; kernel_rfl

noncomputable def sp40 : Ev.Spec := fun args _ K => match args with
  | ([AV.int .i64 n12]) => bits_words n12 (fun x0 => K (AV.int .i64 x0))
  | _ => none

theorem sp40_nat : SpecNat sp40 := fun args _ _ _ _ => by
  unfold sp40
  split
  · exact bits_words_push _ (fun _ => rfl)
  · rfl

theorem ok40 : SpecOk Try.prog (env (keepOf kpt) (vsOf [])) 40 sp40 :=
  SpecOk.of (evSpec_ok (env_types _ _) (env_funs _ _) S13_ok T0_ok (O := (fun _ => none)) ONat.none 10 40 (fun _ _ _ _ => OrcOk.none _ _)) sp40_nat (fun args z h => by
    unfold sp40 at h
    split at h
    · exact (bits_words_eq _ some).trans h
    · cases h)

noncomputable def S40 : FuncId → Option Ev.Spec := fun g => match g.beq 40 with | true => some sp40 | false => S13 g
theorem S40_ok : ∀ g sp, S40 g = some sp → SpecOk Try.prog (env (keepOf kpt) (vsOf [])) g sp := fun g sp h => by
  unfold S40 at h
  split at h
  · rename_i hb; cases h; obtain rfl := Nat.eq_of_beq_eq_true hb; exact ok40
  · exact S13_ok g sp h

theorem word_Mask_eq {R : Type} (n16 : Int) (K : AV → Option R) : evSpec (env (keepOf kpt) (vsOf [])) S40 T0 (fun _ => none) 10 41 ([AV.int .i64 n16]) R K = word_Mask n16 (fun x0 => K (AV.int .u64 x0)) := by
  rw [word_Mask_unf]; kernel_rfl

noncomputable def sp41 : Ev.Spec := fun args _ K => match args with
  | ([AV.int .i64 n16]) => word_Mask n16 (fun x0 => K (AV.int .u64 x0))
  | _ => none

theorem sp41_nat : SpecNat sp41 := fun args _ _ _ _ => by
  unfold sp41
  split
  · exact word_Mask_push _ (fun _ => rfl)
  · rfl

theorem ok41 : SpecOk Try.prog (env (keepOf kpt) (vsOf [])) 41 sp41 :=
  SpecOk.of (evSpec_ok (env_types _ _) (env_funs _ _) S40_ok T0_ok (O := (fun _ => none)) ONat.none 10 41 (fun _ _ _ _ => OrcOk.none _ _)) sp41_nat (fun args z h => by
    unfold sp41 at h
    split at h
    · exact (word_Mask_eq _ some).trans h
    · cases h)

noncomputable def S41 : FuncId → Option Ev.Spec := fun g => match g.beq 41 with | true => some sp41 | false => S40 g
theorem S41_ok : ∀ g sp, S41 g = some sp → SpecOk Try.prog (env (keepOf kpt) (vsOf [])) g sp := fun g sp h => by
  unfold S41 at h
  split at h
  · rename_i hb; cases h; obtain rfl := Nat.eq_of_beq_eq_true hb; exact ok41
  · exact S40_ok g sp h

noncomputable def o14_4000_in {R : Type} (K : Ex → St → Option R) (vs : List AV) (hh : H) : Option R := match vs, hh with
  | [AV.ptr 0 0], [HB.live (Blk.any [AV.int .i64 n14, AV.fsl (Blk.ints .u64 xs15)])] => bits_Check_j4 n14 xs15 (fun x0 => K (Ex.ret) (St.mk (spread 40 0 [2] [AV.bool x0]) []))
  | _, _ => none
noncomputable def o14_4000 : PSpec := fun st _ K => pickM 40 [1] st (o14_4000_in K)

theorem o14_4000_nat (st : St) (R S : Type) (K : Ex → St → Option R) (J : R → Option S) : (o14_4000 st R K).bind J = o14_4000 st S fun ex st => (K ex st).bind J := by
  unfold o14_4000
  refine pickM_push fun vs hh => ?_
  unfold o14_4000_in
  split
  · exact bits_Check_j4_push _ _ (fun _ => rfl)
  · rfl

noncomputable def o14 : Nat → Option PSpec := lkN [(4000, o14_4000)]

theorem o14_onat : ONat o14 := ONat.consT o14_4000_nat (ONat.nilT)

noncomputable def c14_4000 : Code := subC [1, 1] (bodyOf Try.f14)

theorem bits_Check_j4_eq {R : Type} (n14 : Int) (xs15 : List Int) (K : Ex → St → Option R) : evCode (env (keepOf kpt) (vsOf [])) (evFun (env (keepOf kpt) (vsOf [])) S41 T0 10) o14 14 ([] : H).length 3998 c14_4000 (St.mk (spread 40 0 [1] [AV.ptr 0 0]) [HB.live (Blk.any [AV.int .i64 n14, AV.fsl (Blk.ints .u64 xs15)])]) (kOut (env (keepOf kpt) (vsOf [])) 14 ([] : H).length (Ev.keyOf c14_4000 * 1000 + 1) K) = bits_Check_j4 n14 xs15 (fun x0 => K (Ex.ret) (St.mk (spread 40 0 [2] [AV.bool x0]) [])) := by
  rw [bits_Check_j4_unf]; kernel_rfl

theorem p14_4000 : ∀ sp, o14 (Ev.keyOf c14_4000 * 1000) = some sp → ∀ (R : Type) (r : R) st (K : Ex → St → Option R), sp st R K = some r → evCode (env (keepOf kpt) (vsOf [])) (evFun (env (keepOf kpt) (vsOf [])) S41 T0 10) o14 14 ([] : H).length 3998 c14_4000 st (kOut (env (keepOf kpt) (vsOf [])) 14 ([] : H).length (Ev.keyOf c14_4000 * 1000 + 1) K) = some r := by
    intro sp hsp R r st K h
    have h1 : o14 (Ev.keyOf c14_4000 * 1000) = some o14_4000 := by kernel_rfl
    obtain rfl := Option.some.inj (h1.symm.trans hsp)
    unfold o14_4000 at h
    obtain ⟨vs, hh, rfl, h2⟩ := pickM_some h
    unfold o14_4000_in at h2
    split at h2
    · exact (bits_Check_j4_eq _ _ K).trans h2
    · cases h2

theorem pc14 : ∀ x ∈ [(3998, false, c14_4000)], PieceOk (env (keepOf kpt) (vsOf [])) (evFun (env (keepOf kpt) (vsOf [])) S41 T0 10) o14 14 ([] : H).length x := List.forall_mem_cons.2 ⟨p14_4000, fun _ h => nomatch h⟩

theorem bits_Check_eq {R : Type} (n10 : Int) (xs11 : List Int) (K : AV → Option R) : evSpec (env (keepOf kpt) (vsOf [])) S41 T0 o14 10 14 ([AV.agg (Blk.any [AV.int .i64 n10, AV.fsl (Blk.ints .u64 xs11)])]) R K = bits_Check n10 xs11 (fun x0 => K (AV.bool x0)) := by
  rw [bits_Check_unf]; kernel_rfl

noncomputable def sp14 : Ev.Spec := fun args _ K => match args with
  | ([AV.agg (Blk.any [AV.int .i64 n10, AV.fsl (Blk.ints .u64 xs11)])]) => bits_Check n10 xs11 (fun x0 => K (AV.bool x0))
  | _ => none

theorem sp14_nat : SpecNat sp14 := fun args _ _ _ _ => by
  unfold sp14
  split
  · exact bits_Check_push _ _ (fun _ => rfl)
  · rfl

theorem ok14 : SpecOk Try.prog (env (keepOf kpt) (vsOf [])) 14 sp14 :=
  SpecOk.of (evSpec_ok (env_types _ _) (env_funs _ _) S41_ok T0_ok (O := o14) o14_onat 10 14 (fun fn c h1 h2 => by
    have e : (env (keepOf kpt) (vsOf [])).F 14 = some Try.f14 := by kernel_rfl
    obtain rfl := Option.some.inj (e.symm.trans h1)
    obtain rfl := body_of h2
    exact OrcOk.of 4000 _ _ (show orcs o14 4000 (bodyOf Try.f14) = some [(3998, false, c14_4000)] by kernel_rfl) pc14)) sp14_nat (fun args z h => by
    unfold sp14 at h
    split at h
    · exact (bits_Check_eq _ _ some).trans h
    · cases h)

noncomputable def S14 : FuncId → Option Ev.Spec := fun g => match g.beq 14 with | true => some sp14 | false => S41 g
theorem S14_ok : ∀ g sp, S14 g = some sp → SpecOk Try.prog (env (keepOf kpt) (vsOf [])) g sp := fun g sp h => by
  unfold S14 at h
  split at h
  · rename_i hb; cases h; obtain rfl := Nat.eq_of_beq_eq_true hb; exact ok14
  · exact S41_ok g sp h

theorem bits_own_r_eq {R : Type} (n40 : Int) (xs41 : List Int) (n42 : Int) (K : AV → H → Option R) : evH (env (keepOf kpt) (vsOf [])) S14 T0 (fun _ => none) 10 46 [AV.agg (Blk.any [AV.int .i64 n40, AV.fsl (Blk.ints .u64 xs41)]), AV.int .i64 n42] [] R K = bits_own_r n40 xs41 n42 (fun x0 x1 x2 => K (AV.agg (Blk.any [AV.int .i64 x0, AV.sl 0 0 x1 1])) ([HB.live (Blk.ints .u64 x2)])) := by
  rw [bits_own_r_unf]; kernel_rfl

theorem bits_own_r_1_eq {R : Type} (n545 : Int) (l546 : Nat) (n547 : Int) (xs548 : List Int) (K : AV → H → Option R) : evH (env (keepOf kpt) (vsOf [])) S14 T0 (fun _ => none) 10 46 [AV.agg (Blk.any [AV.int .i64 n545, AV.sl 0 0 l546 1]), AV.int .i64 n547] [HB.live (Blk.ints .u64 xs548)] R K = bits_own_r_1 n545 l546 n547 xs548 (fun x0 x1 x2 x3 => K (AV.agg (Blk.any [AV.int .i64 x0, AV.sl 1 0 x1 1])) ([HB.live (Blk.ints .u64 x2), HB.live (Blk.ints .u64 x3)])) := by
  rw [bits_own_r_1_unf]; kernel_rfl

noncomputable def hs46 : HSpec := fun args h _ K => match args, h with
  | [AV.agg (Blk.any [AV.int .i64 n40, AV.fsl (Blk.ints .u64 xs41)]), AV.int .i64 n42], [] => bits_own_r n40 xs41 n42 (fun x0 x1 x2 => K (AV.agg (Blk.any [AV.int .i64 x0, AV.sl 0 0 x1 1])) ([HB.live (Blk.ints .u64 x2)]))
  | [AV.agg (Blk.any [AV.int .i64 n545, AV.sl 0 0 l546 1]), AV.int .i64 n547], [HB.live (Blk.ints .u64 xs548)] => bits_own_r_1 n545 l546 n547 xs548 (fun x0 x1 x2 x3 => K (AV.agg (Blk.any [AV.int .i64 x0, AV.sl 1 0 x1 1])) ([HB.live (Blk.ints .u64 x2), HB.live (Blk.ints .u64 x3)]))
  | _, _ => none

theorem hs46_nat : HNat hs46 := fun args h _ _ _ _ => by
  unfold hs46
  split
  · exact bits_own_r_push _ _ _ (fun _ _ _ => rfl)
  · exact bits_own_r_1_push _ _ _ _ (fun _ _ _ _ => rfl)
  · rfl

theorem hok46 : HSpecOk Try.prog (env (keepOf kpt) (vsOf [])) 46 hs46 :=
  HSpecOk.mk' hs46_nat (fun X args h m w us z h1 he g hr => by
    unfold hs46 at he
    split at he
    · exact evH_ok (env_types _ (vsOf [])) (env_funs _ (vsOf [])) S14_ok T0_ok (O := (fun _ => none)) ONat.none 10 46 ([] : H).length (fun _ _ _ _ => OrcOk.none _ _) rfl ((bits_own_r_eq _ _ _ _).trans he) g hr
    · exact evH_ok (env_types _ (vsOf [])) (env_funs _ (vsOf [])) S14_ok T0_ok (O := (fun _ => none)) ONat.none 10 46 1 (fun _ _ _ _ => OrcOk.none _ _) rfl ((bits_own_r_1_eq _ _ _ _ _).trans he) g hr
    · cases he)

noncomputable def T46 : FuncId → Option HSpec := fun g => match g.beq 46 with | true => some hs46 | false => T0 g
theorem T46_ok : ∀ g sp, T46 g = some sp → HSpecOk Try.prog (env (keepOf kpt) (vsOf [])) g sp := fun g sp h => by
  unfold T46 at h
  split at h
  · rename_i hb; cases h; obtain rfl := Nat.eq_of_beq_eq_true hb; exact hok46
  · exact T0_ok g sp h

noncomputable def o48r1_5000_in {R : Type} (K : Ex → St → Option R) (vs : List AV) (hh : H) : Option R := match vs, hh with
  | [AV.int .u64 n57, AV.ptr 1 0, AV.int .i64 n58, AV.int .i64 n59], [HB.live (Blk.ints .u64 xs60), HB.live (Blk.any [AV.int .i64 n61, AV.sl 0 0 l62 1])] => bits_fill_j5 n57 n58 n59 xs60 n61 l62 (fun x0 => K (Ex.normal) (St.mk (spread 49 0 [] []) [HB.live (Blk.ints .u64 x0)]))
  | _, _ => none
noncomputable def o48r1_5000 : PSpec := fun st _ K => pickM 49 [2, 3, 6, 7] st (o48r1_5000_in K)

theorem o48r1_5000_nat (st : St) (R S : Type) (K : Ex → St → Option R) (J : R → Option S) : (o48r1_5000 st R K).bind J = o48r1_5000 st S fun ex st => (K ex st).bind J := by
  unfold o48r1_5000
  refine pickM_push fun vs hh => ?_
  unfold o48r1_5000_in
  split
  · exact bits_fill_j5_push _ _ _ _ _ _ (fun _ => rfl)
  · rfl

noncomputable def o48r1_6000_in {R : Type} (K : Ex → St → Option R) (vs : List AV) (hh : H) : Option R := match vs, hh with
  | [AV.int .u64 n63, AV.ptr 1 0, AV.int .i64 n64, AV.int .i64 n65, AV.bool b66], [HB.live (Blk.ints .u64 xs67), HB.live (Blk.any [AV.int .i64 n68, AV.sl 0 0 l69 1])] => bits_fill_j6 n63 n64 n65 b66 xs67 n68 l69 (fun x0 => K (Ex.normal) (St.mk (spread 49 0 [] []) [HB.live (Blk.ints .u64 x0)]))
  | _, _ => none
noncomputable def o48r1_6000 : PSpec := fun st _ K => pickM 49 [2, 3, 6, 7, 36] st (o48r1_6000_in K)

theorem o48r1_6000_nat (st : St) (R S : Type) (K : Ex → St → Option R) (J : R → Option S) : (o48r1_6000 st R K).bind J = o48r1_6000 st S fun ex st => (K ex st).bind J := by
  unfold o48r1_6000
  refine pickM_push fun vs hh => ?_
  unfold o48r1_6000_in
  split
  · exact bits_fill_j6_push _ _ _ _ _ _ _ (fun _ => rfl)
  · rfl

noncomputable def o48r1 : Nat → Option PSpec := lkN [(5000, o48r1_5000), (6000, o48r1_6000)]

theorem o48r1_onat : ONat o48r1 := ONat.consT o48r1_5000_nat (ONat.consT o48r1_6000_nat (ONat.nilT))

noncomputable def c48r1_5000 : Code := subC [1, 1, 1] (bodyOf Try.f48)

noncomputable def c48r1_6000 : Code := subC [1, 1, 1, 1] (bodyOf Try.f48)

theorem bits_fill_j6_eq {R : Type} (n63 : Int) (n64 : Int) (n65 : Int) (b66 : Bool) (xs67 : List Int) (n68 : Int) (l69 : Nat) (K : Ex → St → Option R) : evCode (env (keepOf kpt) (vsOf [])) (evFun (env (keepOf kpt) (vsOf [])) S14 T46 10) o48r1 48 1 3996 c48r1_6000 (St.mk (spread 49 0 [2, 3, 6, 7, 36] [AV.int .u64 n63, AV.ptr 1 0, AV.int .i64 n64, AV.int .i64 n65, AV.bool b66]) [HB.live (Blk.ints .u64 xs67), HB.live (Blk.any [AV.int .i64 n68, AV.sl 0 0 l69 1])]) (kOut (env (keepOf kpt) (vsOf [])) 48 1 (Ev.keyOf c48r1_6000 * 1000 + 1) K) = bits_fill_j6 n63 n64 n65 b66 xs67 n68 l69 (fun x0 => K (Ex.normal) (St.mk (spread 49 0 [] []) [HB.live (Blk.ints .u64 x0)])) := by
  rw [bits_fill_j6_unf]; kernel_rfl

theorem bits_fill_j5_eq {R : Type} (n57 : Int) (n58 : Int) (n59 : Int) (xs60 : List Int) (n61 : Int) (l62 : Nat) (K : Ex → St → Option R) : evCode (env (keepOf kpt) (vsOf [])) (evFun (env (keepOf kpt) (vsOf [])) S14 T46 10) o48r1 48 1 3997 c48r1_5000 (St.mk (spread 49 0 [2, 3, 6, 7] [AV.int .u64 n57, AV.ptr 1 0, AV.int .i64 n58, AV.int .i64 n59]) [HB.live (Blk.ints .u64 xs60), HB.live (Blk.any [AV.int .i64 n61, AV.sl 0 0 l62 1])]) (kOut (env (keepOf kpt) (vsOf [])) 48 1 (Ev.keyOf c48r1_5000 * 1000 + 1) K) = bits_fill_j5 n57 n58 n59 xs60 n61 l62 (fun x0 => K (Ex.normal) (St.mk (spread 49 0 [] []) [HB.live (Blk.ints .u64 x0)])) := by
  rw [bits_fill_j5_unf]; kernel_rfl

theorem p48r1_5000 : ∀ sp, o48r1 (Ev.keyOf c48r1_5000 * 1000) = some sp → ∀ (R : Type) (r : R) st (K : Ex → St → Option R), sp st R K = some r → evCode (env (keepOf kpt) (vsOf [])) (evFun (env (keepOf kpt) (vsOf [])) S14 T46 10) o48r1 48 1 3997 c48r1_5000 st (kOut (env (keepOf kpt) (vsOf [])) 48 1 (Ev.keyOf c48r1_5000 * 1000 + 1) K) = some r := by
    intro sp hsp R r st K h
    have h1 : o48r1 (Ev.keyOf c48r1_5000 * 1000) = some o48r1_5000 := by kernel_rfl
    obtain rfl := Option.some.inj (h1.symm.trans hsp)
    unfold o48r1_5000 at h
    obtain ⟨vs, hh, rfl, h2⟩ := pickM_some h
    unfold o48r1_5000_in at h2
    split at h2
    · exact (bits_fill_j5_eq _ _ _ _ _ _ K).trans h2
    · cases h2

theorem p48r1_6000 : ∀ sp, o48r1 (Ev.keyOf c48r1_6000 * 1000) = some sp → ∀ (R : Type) (r : R) st (K : Ex → St → Option R), sp st R K = some r → evCode (env (keepOf kpt) (vsOf [])) (evFun (env (keepOf kpt) (vsOf [])) S14 T46 10) o48r1 48 1 3996 c48r1_6000 st (kOut (env (keepOf kpt) (vsOf [])) 48 1 (Ev.keyOf c48r1_6000 * 1000 + 1) K) = some r := by
    intro sp hsp R r st K h
    have h1 : o48r1 (Ev.keyOf c48r1_6000 * 1000) = some o48r1_6000 := by kernel_rfl
    obtain rfl := Option.some.inj (h1.symm.trans hsp)
    unfold o48r1_6000 at h
    obtain ⟨vs, hh, rfl, h2⟩ := pickM_some h
    unfold o48r1_6000_in at h2
    split at h2
    · exact (bits_fill_j6_eq _ _ _ _ _ _ _ K).trans h2
    · cases h2

theorem pc48r1 : ∀ x ∈ [(3997, false, c48r1_5000), (3996, false, c48r1_6000)], PieceOk (env (keepOf kpt) (vsOf [])) (evFun (env (keepOf kpt) (vsOf [])) S14 T46 10) o48r1 48 1 x := List.forall_mem_cons.2 ⟨p48r1_5000, List.forall_mem_cons.2 ⟨p48r1_6000, fun _ h => nomatch h⟩⟩

theorem bits_fill_r_eq {R : Type} (n51 : Int) (l52 : Nat) (n53 : Int) (n54 : Int) (xs55 : List Int) (K : AV → H → Option R) : evH (env (keepOf kpt) (vsOf [])) S14 T46 o48r1 10 48 [AV.agg (Blk.any [AV.int .i64 n51, AV.sl 0 0 l52 1]), AV.int .i64 n53, AV.int .u64 n54] [HB.live (Blk.ints .u64 xs55)] R K = bits_fill_r n51 l52 n53 n54 xs55 (fun x0 => K (AV.tup []) ([HB.live (Blk.ints .u64 x0)])) := by
  rw [bits_fill_r_unf]; kernel_rfl

noncomputable def hs48 : HSpec := fun args h _ K => match args, h with
  | [AV.agg (Blk.any [AV.int .i64 n51, AV.sl 0 0 l52 1]), AV.int .i64 n53, AV.int .u64 n54], [HB.live (Blk.ints .u64 xs55)] => bits_fill_r n51 l52 n53 n54 xs55 (fun x0 => K (AV.tup []) ([HB.live (Blk.ints .u64 x0)]))
  | _, _ => none

theorem hs48_nat : HNat hs48 := fun args h _ _ _ _ => by
  unfold hs48
  split
  · exact bits_fill_r_push _ _ _ _ _ (fun _ => rfl)
  · rfl

theorem hok48 : HSpecOk Try.prog (env (keepOf kpt) (vsOf [])) 48 hs48 :=
  HSpecOk.mk' hs48_nat (fun X args h m w us z h1 he g hr => by
    unfold hs48 at he
    split at he
    · exact evH_ok (env_types _ (vsOf [])) (env_funs _ (vsOf [])) S14_ok T46_ok (O := o48r1) o48r1_onat 10 48 1 (fun fn c h1 h2 => by
    have e : (env (keepOf kpt) (vsOf [])).F 48 = some Try.f48 := by kernel_rfl
    obtain rfl := Option.some.inj (e.symm.trans h1)
    obtain rfl := body_of h2
    exact OrcOk.of 4000 _ _ (show orcs o48r1 4000 (bodyOf Try.f48) = some [(3997, false, c48r1_5000), (3996, false, c48r1_6000)] by kernel_rfl) pc48r1) rfl ((bits_fill_r_eq _ _ _ _ _ _).trans he) g hr
    · cases he)

noncomputable def T48 : FuncId → Option HSpec := fun g => match g.beq 48 with | true => some hs48 | false => T46 g
theorem T48_ok : ∀ g sp, T48 g = some sp → HSpecOk Try.prog (env (keepOf kpt) (vsOf [])) g sp := fun g sp h => by
  unfold T48 at h
  split at h
  · rename_i hb; cases h; obtain rfl := Nat.eq_of_beq_eq_true hb; exact hok48
  · exact T46_ok g sp h

noncomputable def o21_3000_in {R : Type} (K : Ex → St → Option R) (vs : List AV) (hh : H) : Option R := match vs, hh with
  | [AV.int .u64 n21, AV.int .i64 n22, AV.ptr 0 0, AV.ptr 1 0, AV.bool b23], [HB.live (Blk.any [AV.int .i64 n24, AV.fsl (Blk.ints .u64 xs25)]), HB.live (Blk.any [AV.int .i64 n26, AV.esl])] => bits_Append_j3 n21 n22 b23 n24 xs25 n26 (fun x0 x1 x2 => K (Ex.ret) (St.mk (spread 43 0 [6, 7] [AV.ptr 0 0, AV.int .i64 x0]) [HB.live (Blk.any [AV.int .i64 x1, AV.fsl (Blk.ints .u64 x2)])])) (fun x0 x1 x2 x3 x4 => K (Ex.normal) (St.mk (spread 43 0 [1, 2, 3, 6] [AV.int .u64 x0, AV.int .i64 x1, AV.ptr 0 0, AV.ptr 1 0]) [HB.live (Blk.any [AV.int .i64 x2, AV.fsl (Blk.ints .u64 x3)]), HB.live (Blk.any [AV.int .i64 x4, AV.esl])]))
  | _, _ => none
noncomputable def o21_3000 : PSpec := fun st _ K => pickM 43 [1, 2, 3, 6, 26] st (o21_3000_in K)

theorem o21_3000_nat (st : St) (R S : Type) (K : Ex → St → Option R) (J : R → Option S) : (o21_3000 st R K).bind J = o21_3000 st S fun ex st => (K ex st).bind J := by
  unfold o21_3000
  refine pickM_push fun vs hh => ?_
  unfold o21_3000_in
  split
  · exact bits_Append_j3_push _ _ _ _ _ _ (fun _ _ _ => rfl) (fun _ _ _ _ _ => rfl)
  · rfl

noncomputable def o21_4000_in {R : Type} (K : Ex → St → Option R) (vs : List AV) (hh : H) : Option R := match vs, hh with
  | [AV.int .u64 n35, AV.int .i64 n36, AV.ptr 0 0, AV.ptr 1 0], [HB.live (Blk.any [AV.int .i64 n37, AV.fsl (Blk.ints .u64 xs38)]), HB.live (Blk.any [AV.int .i64 n39, AV.esl])] => bits_Append_j4 n35 n36 n37 xs38 n39 (fun x0 x1 x2 x3 => K (Ex.ret) (St.mk (spread 43 0 [6, 7] [AV.ptr 0 0, AV.int .i64 x0]) [HB.live (Blk.any [AV.int .i64 x1, AV.sl 1 0 x2 1]), HB.live (Blk.ints .u64 x3)]))
  | _, _ => none
noncomputable def o21_4000 : PSpec := fun st _ K => pickM 43 [1, 2, 3, 6] st (o21_4000_in K)

theorem o21_4000_nat (st : St) (R S : Type) (K : Ex → St → Option R) (J : R → Option S) : (o21_4000 st R K).bind J = o21_4000 st S fun ex st => (K ex st).bind J := by
  unfold o21_4000
  refine pickM_push fun vs hh => ?_
  unfold o21_4000_in
  split
  · exact bits_Append_j4_push _ _ _ _ _ (fun _ _ _ _ => rfl)
  · rfl

noncomputable def o21 : Nat → Option PSpec := lkN [(3000, o21_3000), (4000, o21_4000)]

theorem o21_onat : ONat o21 := ONat.consT o21_3000_nat (ONat.consT o21_4000_nat (ONat.nilT))

noncomputable def c21_4000 : Code := subC [1, 1] (bodyOf Try.f21)

noncomputable def c21_3000 : Code := subC [1, 0, 1] (bodyOf Try.f21)

theorem bits_Append_j3_eq {R : Type} (n21 : Int) (n22 : Int) (b23 : Bool) (n24 : Int) (xs25 : List Int) (n26 : Int) (K : Ex → St → Option R) : evCode (env (keepOf kpt) (vsOf [46])) (evFun (env (keepOf kpt) (vsOf [46])) S14 T48 10) o21 21 ([] : H).length 3997 c21_3000 (St.mk (spread 43 0 [1, 2, 3, 6, 26] [AV.int .u64 n21, AV.int .i64 n22, AV.ptr 0 0, AV.ptr 1 0, AV.bool b23]) [HB.live (Blk.any [AV.int .i64 n24, AV.fsl (Blk.ints .u64 xs25)]), HB.live (Blk.any [AV.int .i64 n26, AV.esl])]) (kOut (env (keepOf kpt) (vsOf [46])) 21 ([] : H).length (Ev.keyOf c21_3000 * 1000 + 1) K) = bits_Append_j3 n21 n22 b23 n24 xs25 n26 (fun x0 x1 x2 => K (Ex.ret) (St.mk (spread 43 0 [6, 7] [AV.ptr 0 0, AV.int .i64 x0]) [HB.live (Blk.any [AV.int .i64 x1, AV.fsl (Blk.ints .u64 x2)])])) (fun x0 x1 x2 x3 x4 => K (Ex.normal) (St.mk (spread 43 0 [1, 2, 3, 6] [AV.int .u64 x0, AV.int .i64 x1, AV.ptr 0 0, AV.ptr 1 0]) [HB.live (Blk.any [AV.int .i64 x2, AV.fsl (Blk.ints .u64 x3)]), HB.live (Blk.any [AV.int .i64 x4, AV.esl])])) := by
  rw [bits_Append_j3_unf]; kernel_rfl

theorem bits_Append_j4_eq {R : Type} (n35 : Int) (n36 : Int) (n37 : Int) (xs38 : List Int) (n39 : Int) (K : Ex → St → Option R) : evCode (env (keepOf kpt) (vsOf [46])) (evFun (env (keepOf kpt) (vsOf [46])) S14 T48 10) o21 21 ([] : H).length 3998 c21_4000 (St.mk (spread 43 0 [1, 2, 3, 6] [AV.int .u64 n35, AV.int .i64 n36, AV.ptr 0 0, AV.ptr 1 0]) [HB.live (Blk.any [AV.int .i64 n37, AV.fsl (Blk.ints .u64 xs38)]), HB.live (Blk.any [AV.int .i64 n39, AV.esl])]) (kOut (env (keepOf kpt) (vsOf [46])) 21 ([] : H).length (Ev.keyOf c21_4000 * 1000 + 1) K) = bits_Append_j4 n35 n36 n37 xs38 n39 (fun x0 x1 x2 x3 => K (Ex.ret) (St.mk (spread 43 0 [6, 7] [AV.ptr 0 0, AV.int .i64 x0]) [HB.live (Blk.any [AV.int .i64 x1, AV.sl 1 0 x2 1]), HB.live (Blk.ints .u64 x3)])) := by
  rw [bits_Append_j4_unf]; kernel_rfl

theorem p21_4000 : ∀ sp, o21 (Ev.keyOf c21_4000 * 1000) = some sp → ∀ (R : Type) (r : R) st (K : Ex → St → Option R), sp st R K = some r → evCode (env (keepOf kpt) (vsOf [46])) (evFun (env (keepOf kpt) (vsOf [46])) S14 T48 10) o21 21 ([] : H).length 3998 c21_4000 st (kOut (env (keepOf kpt) (vsOf [46])) 21 ([] : H).length (Ev.keyOf c21_4000 * 1000 + 1) K) = some r := by
    intro sp hsp R r st K h
    have h1 : o21 (Ev.keyOf c21_4000 * 1000) = some o21_4000 := by kernel_rfl
    obtain rfl := Option.some.inj (h1.symm.trans hsp)
    unfold o21_4000 at h
    obtain ⟨vs, hh, rfl, h2⟩ := pickM_some h
    unfold o21_4000_in at h2
    split at h2
    · exact (bits_Append_j4_eq _ _ _ _ _ K).trans h2
    · cases h2

theorem p21_3000 : ∀ sp, o21 (Ev.keyOf c21_3000 * 1000) = some sp → ∀ (R : Type) (r : R) st (K : Ex → St → Option R), sp st R K = some r → evCode (env (keepOf kpt) (vsOf [46])) (evFun (env (keepOf kpt) (vsOf [46])) S14 T48 10) o21 21 ([] : H).length 3997 c21_3000 st (kOut (env (keepOf kpt) (vsOf [46])) 21 ([] : H).length (Ev.keyOf c21_3000 * 1000 + 1) K) = some r := by
    intro sp hsp R r st K h
    have h1 : o21 (Ev.keyOf c21_3000 * 1000) = some o21_3000 := by kernel_rfl
    obtain rfl := Option.some.inj (h1.symm.trans hsp)
    unfold o21_3000 at h
    obtain ⟨vs, hh, rfl, h2⟩ := pickM_some h
    unfold o21_3000_in at h2
    split at h2
    · exact (bits_Append_j3_eq _ _ _ _ _ _ K).trans h2
    · cases h2

theorem pc21 : ∀ x ∈ [(3998, false, c21_4000), (3997, false, c21_3000)], PieceOk (env (keepOf kpt) (vsOf [46])) (evFun (env (keepOf kpt) (vsOf [46])) S14 T48 10) o21 21 ([] : H).length x := List.forall_mem_cons.2 ⟨p21_4000, List.forall_mem_cons.2 ⟨p21_3000, fun _ h => nomatch h⟩⟩

theorem bits_Append_eq {R : Type} (n6 : Int) (xs7 : List Int) (n8 : Int) (n9 : Int) (K : AV → Option R) : evSpec (env (keepOf kpt) (vsOf [46])) S14 T48 o21 10 21 ([AV.agg (Blk.any [AV.int .i64 n6, AV.fsl (Blk.ints .u64 xs7)]), AV.int .u64 n8, AV.int .i64 n9]) R K = bits_Append n6 xs7 n8 n9 (fun x0 x1 x2 => K (AV.tup [AV.agg (Blk.any [AV.int .i64 x0, AV.fsl (Blk.ints .u64 x1)]), AV.int .i64 x2])) := by
  rw [bits_Append_unf]; kernel_rfl

noncomputable def sp21 : Ev.Spec := fun args _ K => match args with
  | ([AV.agg (Blk.any [AV.int .i64 n6, AV.fsl (Blk.ints .u64 xs7)]), AV.int .u64 n8, AV.int .i64 n9]) => bits_Append n6 xs7 n8 n9 (fun x0 x1 x2 => K (AV.tup [AV.agg (Blk.any [AV.int .i64 x0, AV.fsl (Blk.ints .u64 x1)]), AV.int .i64 x2]))
  | _ => none

theorem sp21_nat : SpecNat sp21 := fun args _ _ _ _ => by
  unfold sp21
  split
  · exact bits_Append_push _ _ _ _ (fun _ _ _ => rfl)
  · rfl

theorem ok21 : SpecOk Try.prog (env (keepOf kpt) (vsOf [])) 21 sp21 :=
  spec_env (vs := vsOf [46]) _ <| SpecOk.of (evSpec_ok (env_types _ _) (env_funs _ _) (fun g sp h => spec_env _ (S14_ok g sp h)) (fun g hs h => hspec_env _ (T48_ok g hs h)) (O := o21) o21_onat 10 21 (fun fn c h1 h2 => by
    have e : (env (keepOf kpt) (vsOf [46])).F 21 = some Try.f21 := by kernel_rfl
    obtain rfl := Option.some.inj (e.symm.trans h1)
    obtain rfl := body_of h2
    exact OrcOk.of 4000 _ _ (show orcs o21 4000 (bodyOf Try.f21) = some [(3998, false, c21_4000), (3997, false, c21_3000)] by kernel_rfl) pc21)) sp21_nat (fun args z h => by
    unfold sp21 at h
    split at h
    · exact (bits_Append_eq _ _ _ _ some).trans h
    · cases h)

noncomputable def S21 : FuncId → Option Ev.Spec := fun g => match g.beq 21 with | true => some sp21 | false => S14 g
theorem S21_ok : ∀ g sp, S21 g = some sp → SpecOk Try.prog (env (keepOf kpt) (vsOf [])) g sp := fun g sp h => by
  unfold S21 at h
  split at h
  · rename_i hb; cases h; obtain rfl := Nat.eq_of_beq_eq_true hb; exact ok21
  · exact S14_ok g sp h

noncomputable def o16_6000_in {R : Type} (K : Ex → St → Option R) (vs : List AV) (hh : H) : Option R := match vs, hh with
  | [AV.int .i64 n127, AV.ptr 0 0], [HB.live (Blk.any [AV.int .i64 n128, AV.fsl (Blk.ints .u64 xs129)])] => bits_Get_j6 n127 n128 xs129 (fun x0 x1 => K (Ex.ret) (St.mk (spread 30 0 [4, 5] [AV.bool x0, AV.int .i64 x1]) []))
  | _, _ => none
noncomputable def o16_6000 : PSpec := fun st _ K => pickM 30 [1, 2] st (o16_6000_in K)

theorem o16_6000_nat (st : St) (R S : Type) (K : Ex → St → Option R) (J : R → Option S) : (o16_6000 st R K).bind J = o16_6000 st S fun ex st => (K ex st).bind J := by
  unfold o16_6000
  refine pickM_push fun vs hh => ?_
  unfold o16_6000_in
  split
  · exact bits_Get_j6_push _ _ _ (fun _ _ => rfl)
  · rfl

noncomputable def o16 : Nat → Option PSpec := lkN [(6000, o16_6000)]

theorem o16_onat : ONat o16 := ONat.consT o16_6000_nat (ONat.nilT)

noncomputable def c16_6000 : Code := subC [1, 1] (bodyOf Try.f16)

theorem bits_Get_j6_eq {R : Type} (n127 : Int) (n128 : Int) (xs129 : List Int) (K : Ex → St → Option R) : evCode (env (keepOf kpt) (vsOf [])) (evFun (env (keepOf kpt) (vsOf [])) S21 T48 10) o16 16 ([] : H).length 3998 c16_6000 (St.mk (spread 30 0 [1, 2] [AV.int .i64 n127, AV.ptr 0 0]) [HB.live (Blk.any [AV.int .i64 n128, AV.fsl (Blk.ints .u64 xs129)])]) (kOut (env (keepOf kpt) (vsOf [])) 16 ([] : H).length (Ev.keyOf c16_6000 * 1000 + 1) K) = bits_Get_j6 n127 n128 xs129 (fun x0 x1 => K (Ex.ret) (St.mk (spread 30 0 [4, 5] [AV.bool x0, AV.int .i64 x1]) [])) := by
  rw [bits_Get_j6_unf]; kernel_rfl

theorem p16_6000 : ∀ sp, o16 (Ev.keyOf c16_6000 * 1000) = some sp → ∀ (R : Type) (r : R) st (K : Ex → St → Option R), sp st R K = some r → evCode (env (keepOf kpt) (vsOf [])) (evFun (env (keepOf kpt) (vsOf [])) S21 T48 10) o16 16 ([] : H).length 3998 c16_6000 st (kOut (env (keepOf kpt) (vsOf [])) 16 ([] : H).length (Ev.keyOf c16_6000 * 1000 + 1) K) = some r := by
    intro sp hsp R r st K h
    have h1 : o16 (Ev.keyOf c16_6000 * 1000) = some o16_6000 := by kernel_rfl
    obtain rfl := Option.some.inj (h1.symm.trans hsp)
    unfold o16_6000 at h
    obtain ⟨vs, hh, rfl, h2⟩ := pickM_some h
    unfold o16_6000_in at h2
    split at h2
    · exact (bits_Get_j6_eq _ _ _ K).trans h2
    · cases h2

theorem pc16 : ∀ x ∈ [(3998, false, c16_6000)], PieceOk (env (keepOf kpt) (vsOf [])) (evFun (env (keepOf kpt) (vsOf [])) S21 T48 10) o16 16 ([] : H).length x := List.forall_mem_cons.2 ⟨p16_6000, fun _ h => nomatch h⟩

theorem bits_Get_eq {R : Type} (n123 : Int) (xs124 : List Int) (n125 : Int) (K : AV → Option R) : evSpec (env (keepOf kpt) (vsOf [])) S21 T48 o16 10 16 ([AV.agg (Blk.any [AV.int .i64 n123, AV.fsl (Blk.ints .u64 xs124)]), AV.int .i64 n125]) R K = bits_Get n123 xs124 n125 (fun x0 x1 => K (AV.tup [AV.bool x0, AV.int .i64 x1])) := by
  rw [bits_Get_unf]; kernel_rfl

noncomputable def sp16 : Ev.Spec := fun args _ K => match args with
  | ([AV.agg (Blk.any [AV.int .i64 n123, AV.fsl (Blk.ints .u64 xs124)]), AV.int .i64 n125]) => bits_Get n123 xs124 n125 (fun x0 x1 => K (AV.tup [AV.bool x0, AV.int .i64 x1]))
  | _ => none

theorem sp16_nat : SpecNat sp16 := fun args _ _ _ _ => by
  unfold sp16
  split
  · exact bits_Get_push _ _ _ (fun _ _ => rfl)
  · rfl

theorem ok16 : SpecOk Try.prog (env (keepOf kpt) (vsOf [])) 16 sp16 :=
  SpecOk.of (evSpec_ok (env_types _ _) (env_funs _ _) S21_ok T48_ok (O := o16) o16_onat 10 16 (fun fn c h1 h2 => by
    have e : (env (keepOf kpt) (vsOf [])).F 16 = some Try.f16 := by kernel_rfl
    obtain rfl := Option.some.inj (e.symm.trans h1)
    obtain rfl := body_of h2
    exact OrcOk.of 4000 _ _ (show orcs o16 4000 (bodyOf Try.f16) = some [(3998, false, c16_6000)] by kernel_rfl) pc16)) sp16_nat (fun args z h => by
    unfold sp16 at h
    split at h
    · exact (bits_Get_eq _ _ _ some).trans h
    · cases h)

noncomputable def S16 : FuncId → Option Ev.Spec := fun g => match g.beq 16 with | true => some sp16 | false => S21 g
theorem S16_ok : ∀ g sp, S16 g = some sp → SpecOk Try.prog (env (keepOf kpt) (vsOf [])) g sp := fun g sp h => by
  unfold S16 at h
  split at h
  · rename_i hb; cases h; obtain rfl := Nat.eq_of_beq_eq_true hb; exact ok16
  · exact S21_ok g sp h

theorem bits_Set_eq {R : Type} (n119 : Int) (xs120 : List Int) (n121 : Int) (b122 : Bool) (K : AV → Option R) : evSpec (env (keepOf kpt) (vsOf [46])) S16 T48 (fun _ => none) 10 19 ([AV.agg (Blk.any [AV.int .i64 n119, AV.fsl (Blk.ints .u64 xs120)]), AV.int .i64 n121, AV.bool b122]) R K = bits_Set n119 xs120 n121 b122 (fun x0 x1 x2 => K (AV.tup [AV.agg (Blk.any [AV.int .i64 x0, AV.fsl (Blk.ints .u64 x1)]), AV.int .i64 x2])) := by
  rw [bits_Set_unf]; kernel_rfl

noncomputable def sp19 : Ev.Spec := fun args _ K => match args with
  | ([AV.agg (Blk.any [AV.int .i64 n119, AV.fsl (Blk.ints .u64 xs120)]), AV.int .i64 n121, AV.bool b122]) => bits_Set n119 xs120 n121 b122 (fun x0 x1 x2 => K (AV.tup [AV.agg (Blk.any [AV.int .i64 x0, AV.fsl (Blk.ints .u64 x1)]), AV.int .i64 x2]))
  | _ => none

theorem sp19_nat : SpecNat sp19 := fun args _ _ _ _ => by
  unfold sp19
  split
  · exact bits_Set_push _ _ _ _ (fun _ _ _ => rfl)
  · rfl

theorem ok19 : SpecOk Try.prog (env (keepOf kpt) (vsOf [])) 19 sp19 :=
  spec_env (vs := vsOf [46]) _ <| SpecOk.of (evSpec_ok (env_types _ _) (env_funs _ _) (fun g sp h => spec_env _ (S16_ok g sp h)) (fun g hs h => hspec_env _ (T48_ok g hs h)) (O := (fun _ => none)) ONat.none 10 19 (fun _ _ _ _ => OrcOk.none _ _)) sp19_nat (fun args z h => by
    unfold sp19 at h
    split at h
    · exact (bits_Set_eq _ _ _ _ some).trans h
    · cases h)

noncomputable def S19 : FuncId → Option Ev.Spec := fun g => match g.beq 19 with | true => some sp19 | false => S16 g
theorem S19_ok : ∀ g sp, S19 g = some sp → SpecOk Try.prog (env (keepOf kpt) (vsOf [])) g sp := fun g sp h => by
  unfold S19 at h
  split at h
  · rename_i hb; cases h; obtain rfl := Nat.eq_of_beq_eq_true hb; exact ok19
  · exact S16_ok g sp h

noncomputable def o18_3000_in {R : Type} (K : Ex → St → Option R) (vs : List AV) (hh : H) : Option R := match vs, hh with
  | [AV.int .i64 n147, AV.int .i64 n148, AV.ptr 0 0, AV.bool b149], [HB.live (Blk.any [AV.int .i64 n150, AV.fsl (Blk.ints .u64 xs151)])] => bits_Slice_j3 n147 n148 b149 n150 xs151 (fun x0 x1 => K (Ex.ret) (St.mk (spread 73 0 [6, 7] [AV.int .u64 x0, AV.int .i64 x1]) [])) (fun x0 x1 x2 x3 => K (Ex.normal) (St.mk (spread 73 0 [1, 2, 3] [AV.int .i64 x0, AV.int .i64 x1, AV.ptr 0 0]) [HB.live (Blk.any [AV.int .i64 x2, AV.fsl (Blk.ints .u64 x3)])]))
  | _, _ => none
noncomputable def o18_3000 : PSpec := fun st _ K => pickM 73 [1, 2, 3, 11] st (o18_3000_in K)

theorem o18_3000_nat (st : St) (R S : Type) (K : Ex → St → Option R) (J : R → Option S) : (o18_3000 st R K).bind J = o18_3000 st S fun ex st => (K ex st).bind J := by
  unfold o18_3000
  refine pickM_push fun vs hh => ?_
  unfold o18_3000_in
  split
  · exact bits_Slice_j3_push _ _ _ _ _ (fun _ _ => rfl) (fun _ _ _ _ => rfl)
  · rfl

noncomputable def o18_5000_in {R : Type} (K : Ex → St → Option R) (vs : List AV) (hh : H) : Option R := match vs, hh with
  | [AV.int .i64 n152, AV.int .i64 n153, AV.ptr 0 0, AV.bool b154], [HB.live (Blk.any [AV.int .i64 n155, AV.fsl (Blk.ints .u64 xs156)])] => bits_Slice_j5 n152 n153 b154 n155 xs156 (fun x0 x1 => K (Ex.ret) (St.mk (spread 73 0 [6, 7] [AV.int .u64 x0, AV.int .i64 x1]) [])) (fun x0 x1 x2 x3 => K (Ex.normal) (St.mk (spread 73 0 [1, 2, 3] [AV.int .i64 x0, AV.int .i64 x1, AV.ptr 0 0]) [HB.live (Blk.any [AV.int .i64 x2, AV.fsl (Blk.ints .u64 x3)])]))
  | _, _ => none
noncomputable def o18_5000 : PSpec := fun st _ K => pickM 73 [1, 2, 3, 23] st (o18_5000_in K)

theorem o18_5000_nat (st : St) (R S : Type) (K : Ex → St → Option R) (J : R → Option S) : (o18_5000 st R K).bind J = o18_5000 st S fun ex st => (K ex st).bind J := by
  unfold o18_5000
  refine pickM_push fun vs hh => ?_
  unfold o18_5000_in
  split
  · exact bits_Slice_j5_push _ _ _ _ _ (fun _ _ => rfl) (fun _ _ _ _ => rfl)
  · rfl

noncomputable def o18_8000_in {R : Type} (K : Ex → St → Option R) (vs : List AV) (hh : H) : Option R := match vs, hh with
  | [AV.int .i64 n181, AV.int .i64 n182, AV.ptr 0 0], [HB.live (Blk.any [AV.int .i64 n183, AV.fsl (Blk.ints .u64 xs184)])] => bits_Slice_j8 n181 n182 n183 xs184 (fun x0 x1 => K (Ex.ret) (St.mk (spread 73 0 [6, 7] [AV.int .u64 x0, AV.int .i64 x1]) []))
  | _, _ => none
noncomputable def o18_8000 : PSpec := fun st _ K => pickM 73 [1, 2, 3] st (o18_8000_in K)

theorem o18_8000_nat (st : St) (R S : Type) (K : Ex → St → Option R) (J : R → Option S) : (o18_8000 st R K).bind J = o18_8000 st S fun ex st => (K ex st).bind J := by
  unfold o18_8000
  refine pickM_push fun vs hh => ?_
  unfold o18_8000_in
  split
  · exact bits_Slice_j8_push _ _ _ _ (fun _ _ => rfl)
  · rfl

noncomputable def o18_12000_in {R : Type} (K : Ex → St → Option R) (vs : List AV) (hh : H) : Option R := match vs, hh with
  | [AV.int .i64 n186, AV.int .u64 n187], [] => bits_Slice_j12 n186 n187 (fun x0 x1 => K (Ex.ret) (St.mk (spread 73 0 [6, 7] [AV.int .u64 x0, AV.int .i64 x1]) []))
  | _, _ => none
noncomputable def o18_12000 : PSpec := fun st _ K => pickM 73 [2, 10] st (o18_12000_in K)

theorem o18_12000_nat (st : St) (R S : Type) (K : Ex → St → Option R) (J : R → Option S) : (o18_12000 st R K).bind J = o18_12000 st S fun ex st => (K ex st).bind J := by
  unfold o18_12000
  refine pickM_push fun vs hh => ?_
  unfold o18_12000_in
  split
  · exact bits_Slice_j12_push _ _ (fun _ _ => rfl)
  · rfl

noncomputable def o18 : Nat → Option PSpec := lkN [(3000, o18_3000), (5000, o18_5000), (8000, o18_8000), (12000, o18_12000)]

theorem o18_onat : ONat o18 := ONat.consT o18_3000_nat (ONat.consT o18_5000_nat (ONat.consT o18_8000_nat (ONat.consT o18_12000_nat (ONat.nilT))))

noncomputable def c18_8000 : Code := subC [1, 1] (bodyOf Try.f18)

noncomputable def c18_3000 : Code := subC [1, 0, 0, 1] (bodyOf Try.f18)

noncomputable def c18_5000 : Code := subC [1, 0, 0, 1, 1, 1] (bodyOf Try.f18)

noncomputable def c18_12000 : Code := subC [1, 1, 1, 1, 1] (bodyOf Try.f18)

theorem bits_Slice_j5_eq {R : Type} (n152 : Int) (n153 : Int) (b154 : Bool) (n155 : Int) (xs156 : List Int) (K : Ex → St → Option R) : evCode (env (keepOf kpt) (vsOf [])) (evFun (env (keepOf kpt) (vsOf [])) S19 T48 10) o18 18 ([] : H).length 3994 c18_5000 (St.mk (spread 73 0 [1, 2, 3, 23] [AV.int .i64 n152, AV.int .i64 n153, AV.ptr 0 0, AV.bool b154]) [HB.live (Blk.any [AV.int .i64 n155, AV.fsl (Blk.ints .u64 xs156)])]) (kOut (env (keepOf kpt) (vsOf [])) 18 ([] : H).length (Ev.keyOf c18_5000 * 1000 + 1) K) = bits_Slice_j5 n152 n153 b154 n155 xs156 (fun x0 x1 => K (Ex.ret) (St.mk (spread 73 0 [6, 7] [AV.int .u64 x0, AV.int .i64 x1]) [])) (fun x0 x1 x2 x3 => K (Ex.normal) (St.mk (spread 73 0 [1, 2, 3] [AV.int .i64 x0, AV.int .i64 x1, AV.ptr 0 0]) [HB.live (Blk.any [AV.int .i64 x2, AV.fsl (Blk.ints .u64 x3)])])) := by
  rw [bits_Slice_j5_unf]; kernel_rfl

theorem bits_Slice_j3_eq {R : Type} (n147 : Int) (n148 : Int) (b149 : Bool) (n150 : Int) (xs151 : List Int) (K : Ex → St → Option R) : evCode (env (keepOf kpt) (vsOf [])) (evFun (env (keepOf kpt) (vsOf [])) S19 T48 10) o18 18 ([] : H).length 3996 c18_3000 (St.mk (spread 73 0 [1, 2, 3, 11] [AV.int .i64 n147, AV.int .i64 n148, AV.ptr 0 0, AV.bool b149]) [HB.live (Blk.any [AV.int .i64 n150, AV.fsl (Blk.ints .u64 xs151)])]) (kOut (env (keepOf kpt) (vsOf [])) 18 ([] : H).length (Ev.keyOf c18_3000 * 1000 + 1) K) = bits_Slice_j3 n147 n148 b149 n150 xs151 (fun x0 x1 => K (Ex.ret) (St.mk (spread 73 0 [6, 7] [AV.int .u64 x0, AV.int .i64 x1]) [])) (fun x0 x1 x2 x3 => K (Ex.normal) (St.mk (spread 73 0 [1, 2, 3] [AV.int .i64 x0, AV.int .i64 x1, AV.ptr 0 0]) [HB.live (Blk.any [AV.int .i64 x2, AV.fsl (Blk.ints .u64 x3)])])) := by
  rw [bits_Slice_j3_unf]; kernel_rfl

theorem bits_Slice_j12_eq {R : Type} (n186 : Int) (n187 : Int) (K : Ex → St → Option R) : evCode (env (keepOf kpt) (vsOf [])) (evFun (env (keepOf kpt) (vsOf [])) S19 T48 10) o18 18 ([] : H).length 3995 c18_12000 (St.mk (spread 73 0 [2, 10] [AV.int .i64 n186, AV.int .u64 n187]) []) (kOut (env (keepOf kpt) (vsOf [])) 18 ([] : H).length (Ev.keyOf c18_12000 * 1000 + 1) K) = bits_Slice_j12 n186 n187 (fun x0 x1 => K (Ex.ret) (St.mk (spread 73 0 [6, 7] [AV.int .u64 x0, AV.int .i64 x1]) [])) := by
  rw [bits_Slice_j12_unf]; kernel_rfl

theorem bits_Slice_j8_eq {R : Type} (n181 : Int) (n182 : Int) (n183 : Int) (xs184 : List Int) (K : Ex → St → Option R) : evCode (env (keepOf kpt) (vsOf [])) (evFun (env (keepOf kpt) (vsOf [])) S19 T48 10) o18 18 ([] : H).length 3998 c18_8000 (St.mk (spread 73 0 [1, 2, 3] [AV.int .i64 n181, AV.int .i64 n182, AV.ptr 0 0]) [HB.live (Blk.any [AV.int .i64 n183, AV.fsl (Blk.ints .u64 xs184)])]) (kOut (env (keepOf kpt) (vsOf [])) 18 ([] : H).length (Ev.keyOf c18_8000 * 1000 + 1) K) = bits_Slice_j8 n181 n182 n183 xs184 (fun x0 x1 => K (Ex.ret) (St.mk (spread 73 0 [6, 7] [AV.int .u64 x0, AV.int .i64 x1]) [])) := by
  rw [bits_Slice_j8_unf]; kernel_rfl

theorem p18_8000 : ∀ sp, o18 (Ev.keyOf c18_8000 * 1000) = some sp → ∀ (R : Type) (r : R) st (K : Ex → St → Option R), sp st R K = some r → evCode (env (keepOf kpt) (vsOf [])) (evFun (env (keepOf kpt) (vsOf [])) S19 T48 10) o18 18 ([] : H).length 3998 c18_8000 st (kOut (env (keepOf kpt) (vsOf [])) 18 ([] : H).length (Ev.keyOf c18_8000 * 1000 + 1) K) = some r := by
    intro sp hsp R r st K h
    have h1 : o18 (Ev.keyOf c18_8000 * 1000) = some o18_8000 := by kernel_rfl
    obtain rfl := Option.some.inj (h1.symm.trans hsp)
    unfold o18_8000 at h
    obtain ⟨vs, hh, rfl, h2⟩ := pickM_some h
    unfold o18_8000_in at h2
    split at h2
    · exact (bits_Slice_j8_eq _ _ _ _ K).trans h2
    · cases h2

theorem p18_3000 : ∀ sp, o18 (Ev.keyOf c18_3000 * 1000) = some sp → ∀ (R : Type) (r : R) st (K : Ex → St → Option R), sp st R K = some r → evCode (env (keepOf kpt) (vsOf [])) (evFun (env (keepOf kpt) (vsOf [])) S19 T48 10) o18 18 ([] : H).length 3996 c18_3000 st (kOut (env (keepOf kpt) (vsOf [])) 18 ([] : H).length (Ev.keyOf c18_3000 * 1000 + 1) K) = some r := by
    intro sp hsp R r st K h
    have h1 : o18 (Ev.keyOf c18_3000 * 1000) = some o18_3000 := by kernel_rfl
    obtain rfl := Option.some.inj (h1.symm.trans hsp)
    unfold o18_3000 at h
    obtain ⟨vs, hh, rfl, h2⟩ := pickM_some h
    unfold o18_3000_in at h2
    split at h2
    · exact (bits_Slice_j3_eq _ _ _ _ _ K).trans h2
    · cases h2

theorem p18_5000 : ∀ sp, o18 (Ev.keyOf c18_5000 * 1000) = some sp → ∀ (R : Type) (r : R) st (K : Ex → St → Option R), sp st R K = some r → evCode (env (keepOf kpt) (vsOf [])) (evFun (env (keepOf kpt) (vsOf [])) S19 T48 10) o18 18 ([] : H).length 3994 c18_5000 st (kOut (env (keepOf kpt) (vsOf [])) 18 ([] : H).length (Ev.keyOf c18_5000 * 1000 + 1) K) = some r := by
    intro sp hsp R r st K h
    have h1 : o18 (Ev.keyOf c18_5000 * 1000) = some o18_5000 := by kernel_rfl
    obtain rfl := Option.some.inj (h1.symm.trans hsp)
    unfold o18_5000 at h
    obtain ⟨vs, hh, rfl, h2⟩ := pickM_some h
    unfold o18_5000_in at h2
    split at h2
    · exact (bits_Slice_j5_eq _ _ _ _ _ K).trans h2
    · cases h2

theorem p18_12000 : ∀ sp, o18 (Ev.keyOf c18_12000 * 1000) = some sp → ∀ (R : Type) (r : R) st (K : Ex → St → Option R), sp st R K = some r → evCode (env (keepOf kpt) (vsOf [])) (evFun (env (keepOf kpt) (vsOf [])) S19 T48 10) o18 18 ([] : H).length 3995 c18_12000 st (kOut (env (keepOf kpt) (vsOf [])) 18 ([] : H).length (Ev.keyOf c18_12000 * 1000 + 1) K) = some r := by
    intro sp hsp R r st K h
    have h1 : o18 (Ev.keyOf c18_12000 * 1000) = some o18_12000 := by kernel_rfl
    obtain rfl := Option.some.inj (h1.symm.trans hsp)
    unfold o18_12000 at h
    obtain ⟨vs, hh, rfl, h2⟩ := pickM_some h
    unfold o18_12000_in at h2
    split at h2
    · exact (bits_Slice_j12_eq _ _ K).trans h2
    · cases h2

theorem pc18 : ∀ x ∈ [(3998, false, c18_8000), (3996, false, c18_3000), (3994, false, c18_5000), (3995, false, c18_12000)], PieceOk (env (keepOf kpt) (vsOf [])) (evFun (env (keepOf kpt) (vsOf [])) S19 T48 10) o18 18 ([] : H).length x := List.forall_mem_cons.2 ⟨p18_8000, List.forall_mem_cons.2 ⟨p18_3000, List.forall_mem_cons.2 ⟨p18_5000, List.forall_mem_cons.2 ⟨p18_12000, fun _ h => nomatch h⟩⟩⟩⟩

theorem bits_Slice_eq {R : Type} (n142 : Int) (xs143 : List Int) (n144 : Int) (n145 : Int) (K : AV → Option R) : evSpec (env (keepOf kpt) (vsOf [])) S19 T48 o18 10 18 ([AV.agg (Blk.any [AV.int .i64 n142, AV.fsl (Blk.ints .u64 xs143)]), AV.int .i64 n144, AV.int .i64 n145]) R K = bits_Slice n142 xs143 n144 n145 (fun x0 x1 => K (AV.tup [AV.int .u64 x0, AV.int .i64 x1])) := by
  rw [bits_Slice_unf]; kernel_rfl

noncomputable def sp18 : Ev.Spec := fun args _ K => match args with
  | ([AV.agg (Blk.any [AV.int .i64 n142, AV.fsl (Blk.ints .u64 xs143)]), AV.int .i64 n144, AV.int .i64 n145]) => bits_Slice n142 xs143 n144 n145 (fun x0 x1 => K (AV.tup [AV.int .u64 x0, AV.int .i64 x1]))
  | _ => none

theorem sp18_nat : SpecNat sp18 := fun args _ _ _ _ => by
  unfold sp18
  split
  · exact bits_Slice_push _ _ _ _ (fun _ _ => rfl)
  · rfl

theorem ok18 : SpecOk Try.prog (env (keepOf kpt) (vsOf [])) 18 sp18 :=
  SpecOk.of (evSpec_ok (env_types _ _) (env_funs _ _) S19_ok T48_ok (O := o18) o18_onat 10 18 (fun fn c h1 h2 => by
    have e : (env (keepOf kpt) (vsOf [])).F 18 = some Try.f18 := by kernel_rfl
    obtain rfl := Option.some.inj (e.symm.trans h1)
    obtain rfl := body_of h2
    exact OrcOk.of 4000 _ _ (show orcs o18 4000 (bodyOf Try.f18) = some [(3998, false, c18_8000), (3996, false, c18_3000), (3994, false, c18_5000), (3995, false, c18_12000)] by kernel_rfl) pc18)) sp18_nat (fun args z h => by
    unfold sp18 at h
    split at h
    · exact (bits_Slice_eq _ _ _ _ some).trans h
    · cases h)

noncomputable def S18 : FuncId → Option Ev.Spec := fun g => match g.beq 18 with | true => some sp18 | false => S19 g
theorem S18_ok : ∀ g sp, S18 g = some sp → SpecOk Try.prog (env (keepOf kpt) (vsOf [])) g sp := fun g sp h => by
  unfold S18 at h
  split at h
  · rename_i hb; cases h; obtain rfl := Nat.eq_of_beq_eq_true hb; exact ok18
  · exact S19_ok g sp h

noncomputable def o23_3000_in {R : Type} (K : Ex → St → Option R) (vs : List AV) (hh : H) : Option R := match vs, hh with
  | [AV.ptr 0 0, AV.ptr 1 0, AV.ptr 2 0, AV.bool b220], [HB.live (Blk.any [AV.int .i64 n221, AV.fsl (Blk.ints .u64 xs222)]), HB.live (Blk.any [AV.int .i64 n223, AV.fsl (Blk.ints .u64 xs224)]), HB.live (Blk.any [AV.int .i64 n225, AV.esl])] => bits_Join_j3 b220 n221 xs222 n223 xs224 n225 (fun x0 x1 x2 => K (Ex.ret) (St.mk (spread 51 0 [4, 5] [AV.ptr 0 0, AV.int .i64 x0]) [HB.live (Blk.any [AV.int .i64 x1, AV.fsl (Blk.ints .u64 x2)])])) (fun x0 x1 x2 x3 x4 => K (Ex.normal) (St.mk (spread 51 0 [2, 3, 4] [AV.ptr 0 0, AV.ptr 1 0, AV.ptr 2 0]) [HB.live (Blk.any [AV.int .i64 x0, AV.fsl (Blk.ints .u64 x1)]), HB.live (Blk.any [AV.int .i64 x2, AV.fsl (Blk.ints .u64 x3)]), HB.live (Blk.any [AV.int .i64 x4, AV.esl])]))
  | _, _ => none
noncomputable def o23_3000 : PSpec := fun st _ K => pickM 51 [2, 3, 4, 24] st (o23_3000_in K)

theorem o23_3000_nat (st : St) (R S : Type) (K : Ex → St → Option R) (J : R → Option S) : (o23_3000 st R K).bind J = o23_3000 st S fun ex st => (K ex st).bind J := by
  unfold o23_3000
  refine pickM_push fun vs hh => ?_
  unfold o23_3000_in
  split
  · exact bits_Join_j3_push _ _ _ _ _ _ (fun _ _ _ => rfl) (fun _ _ _ _ _ => rfl)
  · rfl

noncomputable def o23_4000_in {R : Type} (K : Ex → St → Option R) (vs : List AV) (hh : H) : Option R := match vs, hh with
  | [AV.ptr 0 0, AV.ptr 1 0, AV.ptr 2 0], [HB.live (Blk.any [AV.int .i64 n234, AV.fsl (Blk.ints .u64 xs235)]), HB.live (Blk.any [AV.int .i64 n236, AV.fsl (Blk.ints .u64 xs237)]), HB.live (Blk.any [AV.int .i64 n238, AV.esl])] => bits_Join_j4 n234 xs235 n236 xs237 n238 (fun x0 x1 x2 x3 => K (Ex.ret) (St.mk (spread 51 0 [4, 5] [AV.ptr 0 0, AV.int .i64 x0]) [HB.live (Blk.any [AV.int .i64 x1, AV.sl 1 0 x2 1]), HB.live (Blk.ints .u64 x3)]))
  | _, _ => none
noncomputable def o23_4000 : PSpec := fun st _ K => pickM 51 [2, 3, 4] st (o23_4000_in K)

theorem o23_4000_nat (st : St) (R S : Type) (K : Ex → St → Option R) (J : R → Option S) : (o23_4000 st R K).bind J = o23_4000 st S fun ex st => (K ex st).bind J := by
  unfold o23_4000
  refine pickM_push fun vs hh => ?_
  unfold o23_4000_in
  split
  · exact bits_Join_j4_push _ _ _ _ _ (fun _ _ _ _ => rfl)
  · rfl

noncomputable def o23_6400_in {R : Type} (K : Ex → St → Option R) (vs : List AV) (hh : H) : Option R := match vs, hh with
  | [AV.ptr 0 0, AV.ptr 1 0, AV.ptr 2 0, AV.fsl (Blk.ints .u64 xs242), AV.int .i64 n243, AV.int .i64 n244], [HB.live (Blk.any [AV.int .i64 n245, AV.fsl (Blk.ints .u64 xs246)]), HB.live (Blk.any [AV.int .i64 n247, AV.esl]), HB.live (Blk.any [AV.int .i64 n248, AV.sl 3 0 l249 1]), HB.live (Blk.ints .u64 xs250)] => bits_Join_l6 xs242 n243 n244 n245 xs246 n247 n248 l249 xs250 (fun x0 x1 x2 x3 => K (Ex.exit 0) (St.mk (spread 51 0 [4, 6] [AV.ptr 0 0, AV.ptr 1 0]) [HB.live (Blk.any [AV.int .i64 x0, AV.esl]), HB.live (Blk.any [AV.int .i64 x1, AV.sl 2 0 x2 1]), HB.live (Blk.ints .u64 x3)]))
  | _, _ => none
noncomputable def o23_6400 : PSpec := fun st _ K => pickM 51 [2, 4, 6, 34, 35, 36] st (o23_6400_in K)

theorem o23_6400_nat (st : St) (R S : Type) (K : Ex → St → Option R) (J : R → Option S) : (o23_6400 st R K).bind J = o23_6400 st S fun ex st => (K ex st).bind J := by
  unfold o23_6400
  refine pickM_push fun vs hh => ?_
  unfold o23_6400_in
  split
  · exact bits_Join_l6_push _ _ _ _ _ _ _ _ _ (fun _ _ _ _ => rfl)
  · rfl

noncomputable def o23 : Nat → Option PSpec := lkN [(3000, o23_3000), (4000, o23_4000), (6400, o23_6400)]

theorem o23_onat : ONat o23 := ONat.consT o23_3000_nat (ONat.consT o23_4000_nat (ONat.consT o23_6400_nat (ONat.nilT)))

noncomputable def c23_4000 : Code := subC [1, 1] (bodyOf Try.f23)

noncomputable def c23_3000 : Code := subC [1, 0, 1] (bodyOf Try.f23)

noncomputable def c23_6400 : Code := subC [1, 1, 1, 0, 1, 0, 0] (bodyOf Try.f23)

noncomputable def lp23_6400 {R : Type} (N : Nat) (st : St) (K : Ex → St → Option R) : Option R := evLoop (norm ((env (keepOf kpt) (vsOf [46])).keep 23 (Ev.keyOf c23_6400 * 1000 + 400)) ([] : H).length) (evCode (env (keepOf kpt) (vsOf [46])) (evFun (env (keepOf kpt) (vsOf [46])) S18 T48 10) o23 23 ([] : H).length 3993 c23_6400) N st (kOut (env (keepOf kpt) (vsOf [46])) 23 ([] : H).length (Ev.keyOf c23_6400 * 1000 + 401) K)

theorem bits_Join_j3_eq {R : Type} (b220 : Bool) (n221 : Int) (xs222 : List Int) (n223 : Int) (xs224 : List Int) (n225 : Int) (K : Ex → St → Option R) : evCode (env (keepOf kpt) (vsOf [46])) (evFun (env (keepOf kpt) (vsOf [46])) S18 T48 10) o23 23 ([] : H).length 3997 c23_3000 (St.mk (spread 51 0 [2, 3, 4, 24] [AV.ptr 0 0, AV.ptr 1 0, AV.ptr 2 0, AV.bool b220]) [HB.live (Blk.any [AV.int .i64 n221, AV.fsl (Blk.ints .u64 xs222)]), HB.live (Blk.any [AV.int .i64 n223, AV.fsl (Blk.ints .u64 xs224)]), HB.live (Blk.any [AV.int .i64 n225, AV.esl])]) (kOut (env (keepOf kpt) (vsOf [46])) 23 ([] : H).length (Ev.keyOf c23_3000 * 1000 + 1) K) = bits_Join_j3 b220 n221 xs222 n223 xs224 n225 (fun x0 x1 x2 => K (Ex.ret) (St.mk (spread 51 0 [4, 5] [AV.ptr 0 0, AV.int .i64 x0]) [HB.live (Blk.any [AV.int .i64 x1, AV.fsl (Blk.ints .u64 x2)])])) (fun x0 x1 x2 x3 x4 => K (Ex.normal) (St.mk (spread 51 0 [2, 3, 4] [AV.ptr 0 0, AV.ptr 1 0, AV.ptr 2 0]) [HB.live (Blk.any [AV.int .i64 x0, AV.fsl (Blk.ints .u64 x1)]), HB.live (Blk.any [AV.int .i64 x2, AV.fsl (Blk.ints .u64 x3)]), HB.live (Blk.any [AV.int .i64 x4, AV.esl])])) := by
  rw [bits_Join_j3_unf]; kernel_rfl

theorem bits_Join_l6_step {R : Type} (N : Nat) (xs242 : List Int) (n243 : Int) (n244 : Int) (n245 : Int) (xs246 : List Int) (n247 : Int) (n248 : Int) (l249 : Nat) (xs250 : List Int) (K : Ex → St → Option R) : lp23_6400 (N + 1) (St.mk (spread 51 0 [2, 4, 6, 34, 35, 36] [AV.ptr 0 0, AV.ptr 1 0, AV.ptr 2 0, AV.fsl (Blk.ints .u64 xs242), AV.int .i64 n243, AV.int .i64 n244]) [HB.live (Blk.any [AV.int .i64 n245, AV.fsl (Blk.ints .u64 xs246)]), HB.live (Blk.any [AV.int .i64 n247, AV.esl]), HB.live (Blk.any [AV.int .i64 n248, AV.sl 3 0 l249 1]), HB.live (Blk.ints .u64 xs250)]) K = bits_Join_l6_T (fun xs242 n243 n244 n245 xs246 n247 n248 l249 xs250 => lp23_6400 N (St.mk (spread 51 0 [2, 4, 6, 34, 35, 36] [AV.ptr 0 0, AV.ptr 1 0, AV.ptr 2 0, AV.fsl (Blk.ints .u64 xs242), AV.int .i64 n243, AV.int .i64 n244]) [HB.live (Blk.any [AV.int .i64 n245, AV.fsl (Blk.ints .u64 xs246)]), HB.live (Blk.any [AV.int .i64 n247, AV.esl]), HB.live (Blk.any [AV.int .i64 n248, AV.sl 3 0 l249 1]), HB.live (Blk.ints .u64 xs250)]) K) xs242 n243 n244 n245 xs246 n247 n248 l249 xs250 (fun x0 x1 x2 x3 => K (Ex.exit 0) (St.mk (spread 51 0 [4, 6] [AV.ptr 0 0, AV.ptr 1 0]) [HB.live (Blk.any [AV.int .i64 x0, AV.esl]), HB.live (Blk.any [AV.int .i64 x1, AV.sl 2 0 x2 1]), HB.live (Blk.ints .u64 x3)])) := by kernel_rfl

theorem bits_Join_l6_L_eq {R : Type} : ∀ (N : Nat) (xs242 : List Int) (n243 : Int) (n244 : Int) (n245 : Int) (xs246 : List Int) (n247 : Int) (n248 : Int) (l249 : Nat) (xs250 : List Int) (K : Ex → St → Option R), lp23_6400 N (St.mk (spread 51 0 [2, 4, 6, 34, 35, 36] [AV.ptr 0 0, AV.ptr 1 0, AV.ptr 2 0, AV.fsl (Blk.ints .u64 xs242), AV.int .i64 n243, AV.int .i64 n244]) [HB.live (Blk.any [AV.int .i64 n245, AV.fsl (Blk.ints .u64 xs246)]), HB.live (Blk.any [AV.int .i64 n247, AV.esl]), HB.live (Blk.any [AV.int .i64 n248, AV.sl 3 0 l249 1]), HB.live (Blk.ints .u64 xs250)]) K = bits_Join_l6_L (fun x0 x1 x2 x3 => K (Ex.exit 0) (St.mk (spread 51 0 [4, 6] [AV.ptr 0 0, AV.ptr 1 0]) [HB.live (Blk.any [AV.int .i64 x0, AV.esl]), HB.live (Blk.any [AV.int .i64 x1, AV.sl 2 0 x2 1]), HB.live (Blk.ints .u64 x3)])) N xs242 n243 n244 n245 xs246 n247 n248 l249 xs250
  | 0, _, _, _, _, _, _, _, _, _, _ => rfl
  | N + 1, xs242, n243, n244, n245, xs246, n247, n248, l249, xs250, K => by rw [bits_Join_l6_step]; simp only [bits_Join_l6_L_eq N]; rfl

theorem bits_Join_j4_eq {R : Type} (n234 : Int) (xs235 : List Int) (n236 : Int) (xs237 : List Int) (n238 : Int) (K : Ex → St → Option R) : evCode (env (keepOf kpt) (vsOf [46])) (evFun (env (keepOf kpt) (vsOf [46])) S18 T48 10) o23 23 ([] : H).length 3998 c23_4000 (St.mk (spread 51 0 [2, 3, 4] [AV.ptr 0 0, AV.ptr 1 0, AV.ptr 2 0]) [HB.live (Blk.any [AV.int .i64 n234, AV.fsl (Blk.ints .u64 xs235)]), HB.live (Blk.any [AV.int .i64 n236, AV.fsl (Blk.ints .u64 xs237)]), HB.live (Blk.any [AV.int .i64 n238, AV.esl])]) (kOut (env (keepOf kpt) (vsOf [46])) 23 ([] : H).length (Ev.keyOf c23_4000 * 1000 + 1) K) = bits_Join_j4 n234 xs235 n236 xs237 n238 (fun x0 x1 x2 x3 => K (Ex.ret) (St.mk (spread 51 0 [4, 5] [AV.ptr 0 0, AV.int .i64 x0]) [HB.live (Blk.any [AV.int .i64 x1, AV.sl 1 0 x2 1]), HB.live (Blk.ints .u64 x3)])) := by
  rw [bits_Join_j4_unf]; kernel_rfl

theorem p23_4000 : ∀ sp, o23 (Ev.keyOf c23_4000 * 1000) = some sp → ∀ (R : Type) (r : R) st (K : Ex → St → Option R), sp st R K = some r → evCode (env (keepOf kpt) (vsOf [46])) (evFun (env (keepOf kpt) (vsOf [46])) S18 T48 10) o23 23 ([] : H).length 3998 c23_4000 st (kOut (env (keepOf kpt) (vsOf [46])) 23 ([] : H).length (Ev.keyOf c23_4000 * 1000 + 1) K) = some r := by
    intro sp hsp R r st K h
    have h1 : o23 (Ev.keyOf c23_4000 * 1000) = some o23_4000 := by kernel_rfl
    obtain rfl := Option.some.inj (h1.symm.trans hsp)
    unfold o23_4000 at h
    obtain ⟨vs, hh, rfl, h2⟩ := pickM_some h
    unfold o23_4000_in at h2
    split at h2
    · exact (bits_Join_j4_eq _ _ _ _ _ K).trans h2
    · cases h2

theorem p23_3000 : ∀ sp, o23 (Ev.keyOf c23_3000 * 1000) = some sp → ∀ (R : Type) (r : R) st (K : Ex → St → Option R), sp st R K = some r → evCode (env (keepOf kpt) (vsOf [46])) (evFun (env (keepOf kpt) (vsOf [46])) S18 T48 10) o23 23 ([] : H).length 3997 c23_3000 st (kOut (env (keepOf kpt) (vsOf [46])) 23 ([] : H).length (Ev.keyOf c23_3000 * 1000 + 1) K) = some r := by
    intro sp hsp R r st K h
    have h1 : o23 (Ev.keyOf c23_3000 * 1000) = some o23_3000 := by kernel_rfl
    obtain rfl := Option.some.inj (h1.symm.trans hsp)
    unfold o23_3000 at h
    obtain ⟨vs, hh, rfl, h2⟩ := pickM_some h
    unfold o23_3000_in at h2
    split at h2
    · exact (bits_Join_j3_eq _ _ _ _ _ _ K).trans h2
    · cases h2

theorem p23_6400 : ∀ sp, o23 (Ev.keyOf c23_6400 * 1000 + 400) = some sp → ∀ (R : Type) (r : R) st (K : Ex → St → Option R), sp st R K = some r → lp23_6400 NR st K = some r := by
    intro sp hsp R r st K h
    have h1 : o23 (Ev.keyOf c23_6400 * 1000 + 400) = some o23_6400 := by kernel_rfl
    obtain rfl := Option.some.inj (h1.symm.trans hsp)
    unfold o23_6400 at h
    obtain ⟨vs, hh, rfl, h2⟩ := pickM_some h
    unfold o23_6400_in at h2
    split at h2
    · exact (bits_Join_l6_L_eq NR _ _ _ _ _ _ _ _ _ K).trans (bits_Join_l6_unf _ _ _ _ _ _ _ _ _ (fun x0 x1 x2 x3 => K (Ex.exit 0) (St.mk (spread 51 0 [4, 6] [AV.ptr 0 0, AV.ptr 1 0]) [HB.live (Blk.any [AV.int .i64 x0, AV.esl]), HB.live (Blk.any [AV.int .i64 x1, AV.sl 2 0 x2 1]), HB.live (Blk.ints .u64 x3)]))).symm |>.trans h2
    · cases h2

theorem pc23 : ∀ x ∈ [(3998, false, c23_4000), (3997, false, c23_3000), (3993, true, c23_6400)], PieceOk (env (keepOf kpt) (vsOf [46])) (evFun (env (keepOf kpt) (vsOf [46])) S18 T48 10) o23 23 ([] : H).length x := List.forall_mem_cons.2 ⟨p23_4000, List.forall_mem_cons.2 ⟨p23_3000, List.forall_mem_cons.2 ⟨p23_6400, fun _ h => nomatch h⟩⟩⟩

theorem bits_Join_eq {R : Type} (n215 : Int) (xs216 : List Int) (n217 : Int) (xs218 : List Int) (K : AV → Option R) : evSpec (env (keepOf kpt) (vsOf [46])) S18 T48 o23 10 23 ([AV.agg (Blk.any [AV.int .i64 n215, AV.fsl (Blk.ints .u64 xs216)]), AV.agg (Blk.any [AV.int .i64 n217, AV.fsl (Blk.ints .u64 xs218)])]) R K = bits_Join n215 xs216 n217 xs218 (fun x0 x1 x2 => K (AV.tup [AV.agg (Blk.any [AV.int .i64 x0, AV.fsl (Blk.ints .u64 x1)]), AV.int .i64 x2])) := by
  rw [bits_Join_unf]; kernel_rfl

noncomputable def sp23 : Ev.Spec := fun args _ K => match args with
  | ([AV.agg (Blk.any [AV.int .i64 n215, AV.fsl (Blk.ints .u64 xs216)]), AV.agg (Blk.any [AV.int .i64 n217, AV.fsl (Blk.ints .u64 xs218)])]) => bits_Join n215 xs216 n217 xs218 (fun x0 x1 x2 => K (AV.tup [AV.agg (Blk.any [AV.int .i64 x0, AV.fsl (Blk.ints .u64 x1)]), AV.int .i64 x2]))
  | _ => none

theorem sp23_nat : SpecNat sp23 := fun args _ _ _ _ => by
  unfold sp23
  split
  · exact bits_Join_push _ _ _ _ (fun _ _ _ => rfl)
  · rfl

theorem ok23 : SpecOk Try.prog (env (keepOf kpt) (vsOf [])) 23 sp23 :=
  spec_env (vs := vsOf [46]) _ <| SpecOk.of (evSpec_ok (env_types _ _) (env_funs _ _) (fun g sp h => spec_env _ (S18_ok g sp h)) (fun g hs h => hspec_env _ (T48_ok g hs h)) (O := o23) o23_onat 10 23 (fun fn c h1 h2 => by
    have e : (env (keepOf kpt) (vsOf [46])).F 23 = some Try.f23 := by kernel_rfl
    obtain rfl := Option.some.inj (e.symm.trans h1)
    obtain rfl := body_of h2
    exact OrcOk.of 4000 _ _ (show orcs o23 4000 (bodyOf Try.f23) = some [(3998, false, c23_4000), (3997, false, c23_3000), (3993, true, c23_6400)] by kernel_rfl) pc23)) sp23_nat (fun args z h => by
    unfold sp23 at h
    split at h
    · exact (bits_Join_eq _ _ _ _ some).trans h
    · cases h)

noncomputable def S23 : FuncId → Option Ev.Spec := fun g => match g.beq 23 with | true => some sp23 | false => S18 g
theorem S23_ok : ∀ g sp, S23 g = some sp → SpecOk Try.prog (env (keepOf kpt) (vsOf [])) g sp := fun g sp h => by
  unfold S23 at h
  split at h
  · rename_i hb; cases h; obtain rfl := Nat.eq_of_beq_eq_true hb; exact ok23
  · exact S18_ok g sp h

noncomputable def o42r0_3000_in {R : Type} (K : Ex → St → Option R) (vs : List AV) (hh : H) : Option R := match vs, hh with
  | [AV.int .i64 n289, AV.ptr 0 0, AV.bool b290], [HB.live (Blk.any [AV.int .i64 n291, AV.esl])] => bits_New_j3 n289 b290 n291 (fun x0 x1 => K (Ex.ret) (St.mk (spread 16 0 [2, 3] [AV.ptr 0 0, AV.int .i64 x0]) [HB.live (Blk.any [AV.int .i64 x1, AV.esl])])) (fun x0 x1 => K (Ex.normal) (St.mk (spread 16 0 [0, 2] [AV.int .i64 x0, AV.ptr 0 0]) [HB.live (Blk.any [AV.int .i64 x1, AV.esl])]))
  | _, _ => none
noncomputable def o42r0_3000 : PSpec := fun st _ K => pickM 16 [0, 2, 9] st (o42r0_3000_in K)

theorem o42r0_3000_nat (st : St) (R S : Type) (K : Ex → St → Option R) (J : R → Option S) : (o42r0_3000 st R K).bind J = o42r0_3000 st S fun ex st => (K ex st).bind J := by
  unfold o42r0_3000
  refine pickM_push fun vs hh => ?_
  unfold o42r0_3000_in
  split
  · exact bits_New_j3_push _ _ _ (fun _ _ => rfl) (fun _ _ => rfl)
  · rfl

noncomputable def o42r0_4000_in {R : Type} (K : Ex → St → Option R) (vs : List AV) (hh : H) : Option R := match vs, hh with
  | [AV.int .i64 n296, AV.ptr 0 0], [HB.live (Blk.any [AV.int .i64 n297, AV.esl])] => bits_New_j4 n296 n297 (fun x0 x1 x2 x3 => K (Ex.ret) (St.mk (spread 16 0 [2, 3] [AV.ptr 0 0, AV.int .i64 x0]) [HB.live (Blk.any [AV.int .i64 x1, AV.sl 1 0 x2 1]), HB.live (Blk.ints .u64 x3)]))
  | _, _ => none
noncomputable def o42r0_4000 : PSpec := fun st _ K => pickM 16 [0, 2] st (o42r0_4000_in K)

theorem o42r0_4000_nat (st : St) (R S : Type) (K : Ex → St → Option R) (J : R → Option S) : (o42r0_4000 st R K).bind J = o42r0_4000 st S fun ex st => (K ex st).bind J := by
  unfold o42r0_4000
  refine pickM_push fun vs hh => ?_
  unfold o42r0_4000_in
  split
  · exact bits_New_j4_push _ _ (fun _ _ _ _ => rfl)
  · rfl

noncomputable def o42r0 : Nat → Option PSpec := lkN [(3000, o42r0_3000), (4000, o42r0_4000)]

theorem o42r0_onat : ONat o42r0 := ONat.consT o42r0_3000_nat (ONat.consT o42r0_4000_nat (ONat.nilT))

noncomputable def c42r0_4000 : Code := subC [1, 1] (bodyOf Try.f42)

noncomputable def c42r0_3000 : Code := subC [1, 0, 1] (bodyOf Try.f42)

theorem bits_New_j3_eq {R : Type} (n289 : Int) (b290 : Bool) (n291 : Int) (K : Ex → St → Option R) : evCode (env (keepOf kpt) (vsOf [])) (evFun (env (keepOf kpt) (vsOf [])) S23 T48 10) o42r0 42 ([] : H).length 3997 c42r0_3000 (St.mk (spread 16 0 [0, 2, 9] [AV.int .i64 n289, AV.ptr 0 0, AV.bool b290]) [HB.live (Blk.any [AV.int .i64 n291, AV.esl])]) (kOut (env (keepOf kpt) (vsOf [])) 42 ([] : H).length (Ev.keyOf c42r0_3000 * 1000 + 1) K) = bits_New_j3 n289 b290 n291 (fun x0 x1 => K (Ex.ret) (St.mk (spread 16 0 [2, 3] [AV.ptr 0 0, AV.int .i64 x0]) [HB.live (Blk.any [AV.int .i64 x1, AV.esl])])) (fun x0 x1 => K (Ex.normal) (St.mk (spread 16 0 [0, 2] [AV.int .i64 x0, AV.ptr 0 0]) [HB.live (Blk.any [AV.int .i64 x1, AV.esl])])) := by
  rw [bits_New_j3_unf]; kernel_rfl

theorem bits_New_j4_eq {R : Type} (n296 : Int) (n297 : Int) (K : Ex → St → Option R) : evCode (env (keepOf kpt) (vsOf [])) (evFun (env (keepOf kpt) (vsOf [])) S23 T48 10) o42r0 42 ([] : H).length 3998 c42r0_4000 (St.mk (spread 16 0 [0, 2] [AV.int .i64 n296, AV.ptr 0 0]) [HB.live (Blk.any [AV.int .i64 n297, AV.esl])]) (kOut (env (keepOf kpt) (vsOf [])) 42 ([] : H).length (Ev.keyOf c42r0_4000 * 1000 + 1) K) = bits_New_j4 n296 n297 (fun x0 x1 x2 x3 => K (Ex.ret) (St.mk (spread 16 0 [2, 3] [AV.ptr 0 0, AV.int .i64 x0]) [HB.live (Blk.any [AV.int .i64 x1, AV.sl 1 0 x2 1]), HB.live (Blk.ints .u64 x3)])) := by
  rw [bits_New_j4_unf]; kernel_rfl

theorem p42r0_4000 : ∀ sp, o42r0 (Ev.keyOf c42r0_4000 * 1000) = some sp → ∀ (R : Type) (r : R) st (K : Ex → St → Option R), sp st R K = some r → evCode (env (keepOf kpt) (vsOf [])) (evFun (env (keepOf kpt) (vsOf [])) S23 T48 10) o42r0 42 ([] : H).length 3998 c42r0_4000 st (kOut (env (keepOf kpt) (vsOf [])) 42 ([] : H).length (Ev.keyOf c42r0_4000 * 1000 + 1) K) = some r := by
    intro sp hsp R r st K h
    have h1 : o42r0 (Ev.keyOf c42r0_4000 * 1000) = some o42r0_4000 := by kernel_rfl
    obtain rfl := Option.some.inj (h1.symm.trans hsp)
    unfold o42r0_4000 at h
    obtain ⟨vs, hh, rfl, h2⟩ := pickM_some h
    unfold o42r0_4000_in at h2
    split at h2
    · exact (bits_New_j4_eq _ _ K).trans h2
    · cases h2

theorem p42r0_3000 : ∀ sp, o42r0 (Ev.keyOf c42r0_3000 * 1000) = some sp → ∀ (R : Type) (r : R) st (K : Ex → St → Option R), sp st R K = some r → evCode (env (keepOf kpt) (vsOf [])) (evFun (env (keepOf kpt) (vsOf [])) S23 T48 10) o42r0 42 ([] : H).length 3997 c42r0_3000 st (kOut (env (keepOf kpt) (vsOf [])) 42 ([] : H).length (Ev.keyOf c42r0_3000 * 1000 + 1) K) = some r := by
    intro sp hsp R r st K h
    have h1 : o42r0 (Ev.keyOf c42r0_3000 * 1000) = some o42r0_3000 := by kernel_rfl
    obtain rfl := Option.some.inj (h1.symm.trans hsp)
    unfold o42r0_3000 at h
    obtain ⟨vs, hh, rfl, h2⟩ := pickM_some h
    unfold o42r0_3000_in at h2
    split at h2
    · exact (bits_New_j3_eq _ _ _ K).trans h2
    · cases h2

theorem pc42r0 : ∀ x ∈ [(3998, false, c42r0_4000), (3997, false, c42r0_3000)], PieceOk (env (keepOf kpt) (vsOf [])) (evFun (env (keepOf kpt) (vsOf [])) S23 T48 10) o42r0 42 ([] : H).length x := List.forall_mem_cons.2 ⟨p42r0_4000, List.forall_mem_cons.2 ⟨p42r0_3000, fun _ h => nomatch h⟩⟩

theorem bits_New_r_eq {R : Type} (n317 : Int) (K : AV → H → Option R) : evH (env (keepOf kpt) (vsOf [])) S23 T48 o42r0 10 42 [AV.int .i64 n317] [] R K = bits_New_r n317 (fun x0 x1 => K (AV.tup [AV.agg (Blk.any [AV.int .i64 x0, AV.esl]), AV.int .i64 x1]) ([])) (fun x0 x1 x2 x3 => K (AV.tup [AV.agg (Blk.any [AV.int .i64 x0, AV.sl 0 0 x1 1]), AV.int .i64 x2]) ([HB.live (Blk.ints .u64 x3)])) := by
  rw [bits_New_r_unf]; kernel_rfl

noncomputable def hs42 : HSpec := fun args h _ K => match args, h with
  | [AV.int .i64 n317], [] => bits_New_r n317 (fun x0 x1 => K (AV.tup [AV.agg (Blk.any [AV.int .i64 x0, AV.esl]), AV.int .i64 x1]) ([])) (fun x0 x1 x2 x3 => K (AV.tup [AV.agg (Blk.any [AV.int .i64 x0, AV.sl 0 0 x1 1]), AV.int .i64 x2]) ([HB.live (Blk.ints .u64 x3)]))
  | _, _ => none

theorem hs42_nat : HNat hs42 := fun args h _ _ _ _ => by
  unfold hs42
  split
  · exact bits_New_r_push _ (fun _ _ => rfl) (fun _ _ _ _ => rfl)
  · rfl

theorem hok42 : HSpecOk Try.prog (env (keepOf kpt) (vsOf [])) 42 hs42 :=
  HSpecOk.mk' hs42_nat (fun X args h m w us z h1 he g hr => by
    unfold hs42 at he
    split at he
    · exact evH_ok (env_types _ (vsOf [])) (env_funs _ (vsOf [])) S23_ok T48_ok (O := o42r0) o42r0_onat 10 42 ([] : H).length (fun fn c h1 h2 => by
    have e : (env (keepOf kpt) (vsOf [])).F 42 = some Try.f42 := by kernel_rfl
    obtain rfl := Option.some.inj (e.symm.trans h1)
    obtain rfl := body_of h2
    exact OrcOk.of 4000 _ _ (show orcs o42r0 4000 (bodyOf Try.f42) = some [(3998, false, c42r0_4000), (3997, false, c42r0_3000)] by kernel_rfl) pc42r0) rfl ((bits_New_r_eq _ _).trans he) g hr
    · cases he)

noncomputable def T42 : FuncId → Option HSpec := fun g => match g.beq 42 with | true => some hs42 | false => T48 g
theorem T42_ok : ∀ g sp, T42 g = some sp → HSpecOk Try.prog (env (keepOf kpt) (vsOf [])) g sp := fun g sp h => by
  unfold T42 at h
  split at h
  · rename_i hb; cases h; obtain rfl := Nat.eq_of_beq_eq_true hb; exact hok42
  · exact T48_ok g sp h

theorem bits_New_eq {R : Type} (n288 : Int) (K : AV → Option R) : evSpec (env (keepOf kpt) (vsOf [])) S23 T48 o42r0 10 42 ([AV.int .i64 n288]) R K = bits_New n288 (fun x0 x1 x2 => K (AV.tup [AV.agg (Blk.any [AV.int .i64 x0, AV.fsl (Blk.ints .u64 x1)]), AV.int .i64 x2])) := by
  rw [bits_New_unf]; kernel_rfl

noncomputable def sp42 : Ev.Spec := fun args _ K => match args with
  | ([AV.int .i64 n288]) => bits_New n288 (fun x0 x1 x2 => K (AV.tup [AV.agg (Blk.any [AV.int .i64 x0, AV.fsl (Blk.ints .u64 x1)]), AV.int .i64 x2]))
  | _ => none

theorem sp42_nat : SpecNat sp42 := fun args _ _ _ _ => by
  unfold sp42
  split
  · exact bits_New_push _ (fun _ _ _ => rfl)
  · rfl

theorem ok42 : SpecOk Try.prog (env (keepOf kpt) (vsOf [])) 42 sp42 :=
  SpecOk.of (evSpec_ok (env_types _ _) (env_funs _ _) S23_ok T48_ok (O := o42r0) o42r0_onat 10 42 (fun fn c h1 h2 => by
    have e : (env (keepOf kpt) (vsOf [])).F 42 = some Try.f42 := by kernel_rfl
    obtain rfl := Option.some.inj (e.symm.trans h1)
    obtain rfl := body_of h2
    exact OrcOk.of 4000 _ _ (show orcs o42r0 4000 (bodyOf Try.f42) = some [(3998, false, c42r0_4000), (3997, false, c42r0_3000)] by kernel_rfl) pc42r0)) sp42_nat (fun args z h => by
    unfold sp42 at h
    split at h
    · exact (bits_New_eq _ some).trans h
    · cases h)

noncomputable def S42 : FuncId → Option Ev.Spec := fun g => match g.beq 42 with | true => some sp42 | false => S23 g
theorem S42_ok : ∀ g sp, S42 g = some sp → SpecOk Try.prog (env (keepOf kpt) (vsOf [])) g sp := fun g sp h => by
  unfold S42 at h
  split at h
  · rename_i hb; cases h; obtain rfl := Nat.eq_of_beq_eq_true hb; exact ok42
  · exact S23_ok g sp h

noncomputable def o43r1_6400_in {R : Type} (K : Ex → St → Option R) (vs : List AV) (hh : H) : Option R := match vs, hh with
  | [AV.ptr 1 0, AV.ptr 2 0, AV.sl 0 0 l336 1, AV.int .i64 n337, AV.int .i64 n338], [HB.live (Blk.bools bs339), HB.live (Blk.any [AV.int .i64 n340, AV.esl]), HB.live (Blk.any [AV.int .i64 n341, AV.esl])] => bits_From_l6 l336 n337 n338 bs339 n340 n341 (fun x0 x1 x2 => K (Ex.exit 0) (St.mk (spread 39 0 [2, 4] [AV.ptr 1 0, AV.ptr 2 0]) [HB.live (Blk.bools x0), HB.live (Blk.any [AV.int .i64 x1, AV.esl]), HB.live (Blk.any [AV.int .i64 x2, AV.esl])]))
  | [AV.ptr 1 0, AV.ptr 2 0, AV.sl 0 0 l349 1, AV.int .i64 n350, AV.int .i64 n351], [HB.live (Blk.bools bs352), HB.live (Blk.any [AV.int .i64 n353, AV.esl]), HB.live (Blk.any [AV.int .i64 n354, AV.sl 3 0 l355 1]), HB.live (Blk.ints .u64 xs356)] => bits_From_l6_1 l349 n350 n351 bs352 n353 n354 l355 xs356 (fun x0 x1 x2 x3 x4 => K (Ex.exit 0) (St.mk (spread 39 0 [2, 4] [AV.ptr 1 0, AV.ptr 2 0]) [HB.live (Blk.bools x0), HB.live (Blk.any [AV.int .i64 x1, AV.esl]), HB.live (Blk.any [AV.int .i64 x2, AV.sl 3 0 x3 1]), HB.live (Blk.ints .u64 x4)]))
  | _, _ => none
noncomputable def o43r1_6400 : PSpec := fun st _ K => pickM 39 [2, 4, 18, 19, 20] st (o43r1_6400_in K)

theorem o43r1_6400_nat (st : St) (R S : Type) (K : Ex → St → Option R) (J : R → Option S) : (o43r1_6400 st R K).bind J = o43r1_6400 st S fun ex st => (K ex st).bind J := by
  unfold o43r1_6400
  refine pickM_push fun vs hh => ?_
  unfold o43r1_6400_in
  split
  · exact bits_From_l6_push _ _ _ _ _ _ (fun _ _ _ => rfl)
  · exact bits_From_l6_1_push _ _ _ _ _ _ _ _ (fun _ _ _ _ _ => rfl)
  · rfl

noncomputable def o43r1 : Nat → Option PSpec := lkN [(6400, o43r1_6400)]

theorem o43r1_onat : ONat o43r1 := ONat.consT o43r1_6400_nat (ONat.nilT)

noncomputable def c43r1_6400 : Code := subC [1, 1, 1, 0, 1, 0, 0] (bodyOf Try.f43)

noncomputable def lp43r1_6400 {R : Type} (N : Nat) (st : St) (K : Ex → St → Option R) : Option R := evLoop (norm ((env (keepOf kpt) (vsOf [42])).keep 43 (Ev.keyOf c43r1_6400 * 1000 + 400)) 1) (evCode (env (keepOf kpt) (vsOf [42])) (evFun (env (keepOf kpt) (vsOf [42])) S42 T42 10) o43r1 43 1 3993 c43r1_6400) N st (kOut (env (keepOf kpt) (vsOf [42])) 43 1 (Ev.keyOf c43r1_6400 * 1000 + 401) K)

theorem bits_From_l6_step {R : Type} (N : Nat) (l336 : Nat) (n337 : Int) (n338 : Int) (bs339 : List Bool) (n340 : Int) (n341 : Int) (K : Ex → St → Option R) : lp43r1_6400 (N + 1) (St.mk (spread 39 0 [2, 4, 18, 19, 20] [AV.ptr 1 0, AV.ptr 2 0, AV.sl 0 0 l336 1, AV.int .i64 n337, AV.int .i64 n338]) [HB.live (Blk.bools bs339), HB.live (Blk.any [AV.int .i64 n340, AV.esl]), HB.live (Blk.any [AV.int .i64 n341, AV.esl])]) K = bits_From_l6_T (fun l336 n337 n338 bs339 n340 n341 => lp43r1_6400 N (St.mk (spread 39 0 [2, 4, 18, 19, 20] [AV.ptr 1 0, AV.ptr 2 0, AV.sl 0 0 l336 1, AV.int .i64 n337, AV.int .i64 n338]) [HB.live (Blk.bools bs339), HB.live (Blk.any [AV.int .i64 n340, AV.esl]), HB.live (Blk.any [AV.int .i64 n341, AV.esl])]) K) l336 n337 n338 bs339 n340 n341 (fun x0 x1 x2 => K (Ex.exit 0) (St.mk (spread 39 0 [2, 4] [AV.ptr 1 0, AV.ptr 2 0]) [HB.live (Blk.bools x0), HB.live (Blk.any [AV.int .i64 x1, AV.esl]), HB.live (Blk.any [AV.int .i64 x2, AV.esl])])) := by kernel_rfl

theorem bits_From_l6_L_eq {R : Type} : ∀ (N : Nat) (l336 : Nat) (n337 : Int) (n338 : Int) (bs339 : List Bool) (n340 : Int) (n341 : Int) (K : Ex → St → Option R), lp43r1_6400 N (St.mk (spread 39 0 [2, 4, 18, 19, 20] [AV.ptr 1 0, AV.ptr 2 0, AV.sl 0 0 l336 1, AV.int .i64 n337, AV.int .i64 n338]) [HB.live (Blk.bools bs339), HB.live (Blk.any [AV.int .i64 n340, AV.esl]), HB.live (Blk.any [AV.int .i64 n341, AV.esl])]) K = bits_From_l6_L (fun x0 x1 x2 => K (Ex.exit 0) (St.mk (spread 39 0 [2, 4] [AV.ptr 1 0, AV.ptr 2 0]) [HB.live (Blk.bools x0), HB.live (Blk.any [AV.int .i64 x1, AV.esl]), HB.live (Blk.any [AV.int .i64 x2, AV.esl])])) N l336 n337 n338 bs339 n340 n341
  | 0, _, _, _, _, _, _, _ => rfl
  | N + 1, l336, n337, n338, bs339, n340, n341, K => by rw [bits_From_l6_step]; simp only [bits_From_l6_L_eq N]; rfl

theorem bits_From_l6_1_step {R : Type} (N : Nat) (l349 : Nat) (n350 : Int) (n351 : Int) (bs352 : List Bool) (n353 : Int) (n354 : Int) (l355 : Nat) (xs356 : List Int) (K : Ex → St → Option R) : lp43r1_6400 (N + 1) (St.mk (spread 39 0 [2, 4, 18, 19, 20] [AV.ptr 1 0, AV.ptr 2 0, AV.sl 0 0 l349 1, AV.int .i64 n350, AV.int .i64 n351]) [HB.live (Blk.bools bs352), HB.live (Blk.any [AV.int .i64 n353, AV.esl]), HB.live (Blk.any [AV.int .i64 n354, AV.sl 3 0 l355 1]), HB.live (Blk.ints .u64 xs356)]) K = bits_From_l6_1_T (fun l349 n350 n351 bs352 n353 n354 l355 xs356 => lp43r1_6400 N (St.mk (spread 39 0 [2, 4, 18, 19, 20] [AV.ptr 1 0, AV.ptr 2 0, AV.sl 0 0 l349 1, AV.int .i64 n350, AV.int .i64 n351]) [HB.live (Blk.bools bs352), HB.live (Blk.any [AV.int .i64 n353, AV.esl]), HB.live (Blk.any [AV.int .i64 n354, AV.sl 3 0 l355 1]), HB.live (Blk.ints .u64 xs356)]) K) l349 n350 n351 bs352 n353 n354 l355 xs356 (fun x0 x1 x2 x3 x4 => K (Ex.exit 0) (St.mk (spread 39 0 [2, 4] [AV.ptr 1 0, AV.ptr 2 0]) [HB.live (Blk.bools x0), HB.live (Blk.any [AV.int .i64 x1, AV.esl]), HB.live (Blk.any [AV.int .i64 x2, AV.sl 3 0 x3 1]), HB.live (Blk.ints .u64 x4)])) := by kernel_rfl

theorem bits_From_l6_1_L_eq {R : Type} : ∀ (N : Nat) (l349 : Nat) (n350 : Int) (n351 : Int) (bs352 : List Bool) (n353 : Int) (n354 : Int) (l355 : Nat) (xs356 : List Int) (K : Ex → St → Option R), lp43r1_6400 N (St.mk (spread 39 0 [2, 4, 18, 19, 20] [AV.ptr 1 0, AV.ptr 2 0, AV.sl 0 0 l349 1, AV.int .i64 n350, AV.int .i64 n351]) [HB.live (Blk.bools bs352), HB.live (Blk.any [AV.int .i64 n353, AV.esl]), HB.live (Blk.any [AV.int .i64 n354, AV.sl 3 0 l355 1]), HB.live (Blk.ints .u64 xs356)]) K = bits_From_l6_1_L (fun x0 x1 x2 x3 x4 => K (Ex.exit 0) (St.mk (spread 39 0 [2, 4] [AV.ptr 1 0, AV.ptr 2 0]) [HB.live (Blk.bools x0), HB.live (Blk.any [AV.int .i64 x1, AV.esl]), HB.live (Blk.any [AV.int .i64 x2, AV.sl 3 0 x3 1]), HB.live (Blk.ints .u64 x4)])) N l349 n350 n351 bs352 n353 n354 l355 xs356
  | 0, _, _, _, _, _, _, _, _, _ => rfl
  | N + 1, l349, n350, n351, bs352, n353, n354, l355, xs356, K => by rw [bits_From_l6_1_step]; simp only [bits_From_l6_1_L_eq N]; rfl

theorem p43r1_6400 : ∀ sp, o43r1 (Ev.keyOf c43r1_6400 * 1000 + 400) = some sp → ∀ (R : Type) (r : R) st (K : Ex → St → Option R), sp st R K = some r → lp43r1_6400 NR st K = some r := by
    intro sp hsp R r st K h
    have h1 : o43r1 (Ev.keyOf c43r1_6400 * 1000 + 400) = some o43r1_6400 := by kernel_rfl
    obtain rfl := Option.some.inj (h1.symm.trans hsp)
    unfold o43r1_6400 at h
    obtain ⟨vs, hh, rfl, h2⟩ := pickM_some h
    unfold o43r1_6400_in at h2
    split at h2
    · exact (bits_From_l6_L_eq NR _ _ _ _ _ _ K).trans (bits_From_l6_unf _ _ _ _ _ _ (fun x0 x1 x2 => K (Ex.exit 0) (St.mk (spread 39 0 [2, 4] [AV.ptr 1 0, AV.ptr 2 0]) [HB.live (Blk.bools x0), HB.live (Blk.any [AV.int .i64 x1, AV.esl]), HB.live (Blk.any [AV.int .i64 x2, AV.esl])]))).symm |>.trans h2
    · exact (bits_From_l6_1_L_eq NR _ _ _ _ _ _ _ _ K).trans (bits_From_l6_1_unf _ _ _ _ _ _ _ _ (fun x0 x1 x2 x3 x4 => K (Ex.exit 0) (St.mk (spread 39 0 [2, 4] [AV.ptr 1 0, AV.ptr 2 0]) [HB.live (Blk.bools x0), HB.live (Blk.any [AV.int .i64 x1, AV.esl]), HB.live (Blk.any [AV.int .i64 x2, AV.sl 3 0 x3 1]), HB.live (Blk.ints .u64 x4)]))).symm |>.trans h2
    · cases h2

theorem pc43r1 : ∀ x ∈ [(3993, true, c43r1_6400)], PieceOk (env (keepOf kpt) (vsOf [42])) (evFun (env (keepOf kpt) (vsOf [42])) S42 T42 10) o43r1 43 1 x := List.forall_mem_cons.2 ⟨p43r1_6400, fun _ h => nomatch h⟩

theorem bits_From_r_eq {R : Type} (l315 : Nat) (bs316 : List Bool) (K : AV → H → Option R) : evH (env (keepOf kpt) (vsOf [42])) S42 T42 o43r1 10 43 [AV.sl 0 0 l315 1] [HB.live (Blk.bools bs316)] R K = bits_From_r l315 bs316 (fun x0 x1 x2 => K (AV.tup [AV.agg (Blk.any [AV.int .i64 x0, AV.esl]), AV.int .i64 x1]) ([HB.live (Blk.bools x2)])) (fun x0 x1 x2 x3 x4 => K (AV.tup [AV.agg (Blk.any [AV.int .i64 x0, AV.sl 1 0 x1 1]), AV.int .i64 x2]) ([HB.live (Blk.bools x3), HB.live (Blk.ints .u64 x4)])) := by
  rw [bits_From_r_unf]; kernel_rfl

noncomputable def hs43 : HSpec := fun args h _ K => match args, h with
  | [AV.sl 0 0 l315 1], [HB.live (Blk.bools bs316)] => bits_From_r l315 bs316 (fun x0 x1 x2 => K (AV.tup [AV.agg (Blk.any [AV.int .i64 x0, AV.esl]), AV.int .i64 x1]) ([HB.live (Blk.bools x2)])) (fun x0 x1 x2 x3 x4 => K (AV.tup [AV.agg (Blk.any [AV.int .i64 x0, AV.sl 1 0 x1 1]), AV.int .i64 x2]) ([HB.live (Blk.bools x3), HB.live (Blk.ints .u64 x4)]))
  | _, _ => none

theorem hs43_nat : HNat hs43 := fun args h _ _ _ _ => by
  unfold hs43
  split
  · exact bits_From_r_push _ _ (fun _ _ _ => rfl) (fun _ _ _ _ _ => rfl)
  · rfl

theorem hok43 : HSpecOk Try.prog (env (keepOf kpt) (vsOf [])) 43 hs43 :=
  hspec_env (vs := vsOf [42]) _ <| HSpecOk.mk' hs43_nat (fun X args h m w us z h1 he g hr => by
    unfold hs43 at he
    split at he
    · exact evH_ok (env_types _ (vsOf [42])) (env_funs _ (vsOf [42])) (fun g sp h => spec_env _ (S42_ok g sp h)) (fun g hs h => hspec_env _ (T42_ok g hs h)) (O := o43r1) o43r1_onat 10 43 1 (fun fn c h1 h2 => by
    have e : (env (keepOf kpt) (vsOf [42])).F 43 = some Try.f43 := by kernel_rfl
    obtain rfl := Option.some.inj (e.symm.trans h1)
    obtain rfl := body_of h2
    exact OrcOk.of 4000 _ _ (show orcs o43r1 4000 (bodyOf Try.f43) = some [(3993, true, c43r1_6400)] by kernel_rfl) pc43r1) rfl ((bits_From_r_eq _ _ _).trans he) g hr
    · cases he)

noncomputable def T43 : FuncId → Option HSpec := fun g => match g.beq 43 with | true => some hs43 | false => T42 g
theorem T43_ok : ∀ g sp, T43 g = some sp → HSpecOk Try.prog (env (keepOf kpt) (vsOf [])) g sp := fun g sp h => by
  unfold T43 at h
  split at h
  · rename_i hb; cases h; obtain rfl := Nat.eq_of_beq_eq_true hb; exact hok43
  · exact T42_ok g sp h

noncomputable def o25_4000_in {R : Type} (K : Ex → St → Option R) (vs : List AV) (hh : H) : Option R := match vs, hh with
  | [AV.ptr 0 0, AV.ptr 1 0], [HB.live (Blk.any [AV.int .i64 n372, AV.fsl (Blk.ints .u64 xs373)]), HB.live (Blk.any [AV.int .i64 n374, AV.fsl (Blk.ints .u64 xs375)])] => haystackref02_Same_j4 n372 xs373 n374 xs375 (fun x0 => K (Ex.ret) (St.mk (spread 38 0 [4] [AV.bool x0]) []))
  | _, _ => none
noncomputable def o25_4000 : PSpec := fun st _ K => pickM 38 [2, 3] st (o25_4000_in K)

theorem o25_4000_nat (st : St) (R S : Type) (K : Ex → St → Option R) (J : R → Option S) : (o25_4000 st R K).bind J = o25_4000 st S fun ex st => (K ex st).bind J := by
  unfold o25_4000
  refine pickM_push fun vs hh => ?_
  unfold o25_4000_in
  split
  · exact haystackref02_Same_j4_push _ _ _ _ (fun _ => rfl)
  · rfl

noncomputable def o25_5400_in {R : Type} (K : Ex → St → Option R) (vs : List AV) (hh : H) : Option R := match vs, hh with
  | [AV.ptr 0 0, AV.ptr 1 0, AV.int .i64 n376], [HB.live (Blk.any [AV.int .i64 n377, AV.fsl (Blk.ints .u64 xs378)]), HB.live (Blk.any [AV.int .i64 n379, AV.fsl (Blk.ints .u64 xs380)])] => haystackref02_Same_l5 n376 n377 xs378 n379 xs380 (fun x0 => K (Ex.ret) (St.mk (spread 38 0 [4] [AV.bool x0]) [])) (fun _ => K (Ex.exit 0) (St.mk (spread 38 0 [] []) []))
  | _, _ => none
noncomputable def o25_5400 : PSpec := fun st _ K => pickM 38 [2, 3, 5] st (o25_5400_in K)

theorem o25_5400_nat (st : St) (R S : Type) (K : Ex → St → Option R) (J : R → Option S) : (o25_5400 st R K).bind J = o25_5400 st S fun ex st => (K ex st).bind J := by
  unfold o25_5400
  refine pickM_push fun vs hh => ?_
  unfold o25_5400_in
  split
  · exact haystackref02_Same_l5_push _ _ _ _ _ (fun _ => rfl) (fun _ => rfl)
  · rfl

noncomputable def o25 : Nat → Option PSpec := lkN [(4000, o25_4000), (5400, o25_5400)]

theorem o25_onat : ONat o25 := ONat.consT o25_4000_nat (ONat.consT o25_5400_nat (ONat.nilT))

noncomputable def c25_4000 : Code := subC [1, 1] (bodyOf Try.f25)

noncomputable def c25_5400 : Code := subC [1, 1, 0, 1, 0, 0] (bodyOf Try.f25)

noncomputable def lp25_5400 {R : Type} (N : Nat) (st : St) (K : Ex → St → Option R) : Option R := evLoop (norm ((env (keepOf kpt) (vsOf [])).keep 25 (Ev.keyOf c25_5400 * 1000 + 400)) ([] : H).length) (evCode (env (keepOf kpt) (vsOf [])) (evFun (env (keepOf kpt) (vsOf [])) S42 T43 10) o25 25 ([] : H).length 3994 c25_5400) N st (kOut (env (keepOf kpt) (vsOf [])) 25 ([] : H).length (Ev.keyOf c25_5400 * 1000 + 401) K)

theorem haystackref02_Same_l5_step {R : Type} (N : Nat) (n376 : Int) (n377 : Int) (xs378 : List Int) (n379 : Int) (xs380 : List Int) (K : Ex → St → Option R) : lp25_5400 (N + 1) (St.mk (spread 38 0 [2, 3, 5] [AV.ptr 0 0, AV.ptr 1 0, AV.int .i64 n376]) [HB.live (Blk.any [AV.int .i64 n377, AV.fsl (Blk.ints .u64 xs378)]), HB.live (Blk.any [AV.int .i64 n379, AV.fsl (Blk.ints .u64 xs380)])]) K = haystackref02_Same_l5_T (fun n376 n377 xs378 n379 xs380 => lp25_5400 N (St.mk (spread 38 0 [2, 3, 5] [AV.ptr 0 0, AV.ptr 1 0, AV.int .i64 n376]) [HB.live (Blk.any [AV.int .i64 n377, AV.fsl (Blk.ints .u64 xs378)]), HB.live (Blk.any [AV.int .i64 n379, AV.fsl (Blk.ints .u64 xs380)])]) K) n376 n377 xs378 n379 xs380 (fun x0 => K (Ex.ret) (St.mk (spread 38 0 [4] [AV.bool x0]) [])) (fun _ => K (Ex.exit 0) (St.mk (spread 38 0 [] []) [])) := by kernel_rfl

theorem haystackref02_Same_l5_L_eq {R : Type} : ∀ (N : Nat) (n376 : Int) (n377 : Int) (xs378 : List Int) (n379 : Int) (xs380 : List Int) (K : Ex → St → Option R), lp25_5400 N (St.mk (spread 38 0 [2, 3, 5] [AV.ptr 0 0, AV.ptr 1 0, AV.int .i64 n376]) [HB.live (Blk.any [AV.int .i64 n377, AV.fsl (Blk.ints .u64 xs378)]), HB.live (Blk.any [AV.int .i64 n379, AV.fsl (Blk.ints .u64 xs380)])]) K = haystackref02_Same_l5_L (fun x0 => K (Ex.ret) (St.mk (spread 38 0 [4] [AV.bool x0]) [])) (fun _ => K (Ex.exit 0) (St.mk (spread 38 0 [] []) [])) N n376 n377 xs378 n379 xs380
  | 0, _, _, _, _, _, _ => rfl
  | N + 1, n376, n377, xs378, n379, xs380, K => by rw [haystackref02_Same_l5_step]; simp only [haystackref02_Same_l5_L_eq N]; rfl

theorem haystackref02_Same_j4_eq {R : Type} (n372 : Int) (xs373 : List Int) (n374 : Int) (xs375 : List Int) (K : Ex → St → Option R) : evCode (env (keepOf kpt) (vsOf [])) (evFun (env (keepOf kpt) (vsOf [])) S42 T43 10) o25 25 ([] : H).length 3998 c25_4000 (St.mk (spread 38 0 [2, 3] [AV.ptr 0 0, AV.ptr 1 0]) [HB.live (Blk.any [AV.int .i64 n372, AV.fsl (Blk.ints .u64 xs373)]), HB.live (Blk.any [AV.int .i64 n374, AV.fsl (Blk.ints .u64 xs375)])]) (kOut (env (keepOf kpt) (vsOf [])) 25 ([] : H).length (Ev.keyOf c25_4000 * 1000 + 1) K) = haystackref02_Same_j4 n372 xs373 n374 xs375 (fun x0 => K (Ex.ret) (St.mk (spread 38 0 [4] [AV.bool x0]) [])) := by
  rw [haystackref02_Same_j4_unf]; kernel_rfl

theorem p25_4000 : ∀ sp, o25 (Ev.keyOf c25_4000 * 1000) = some sp → ∀ (R : Type) (r : R) st (K : Ex → St → Option R), sp st R K = some r → evCode (env (keepOf kpt) (vsOf [])) (evFun (env (keepOf kpt) (vsOf [])) S42 T43 10) o25 25 ([] : H).length 3998 c25_4000 st (kOut (env (keepOf kpt) (vsOf [])) 25 ([] : H).length (Ev.keyOf c25_4000 * 1000 + 1) K) = some r := by
    intro sp hsp R r st K h
    have h1 : o25 (Ev.keyOf c25_4000 * 1000) = some o25_4000 := by kernel_rfl
    obtain rfl := Option.some.inj (h1.symm.trans hsp)
    unfold o25_4000 at h
    obtain ⟨vs, hh, rfl, h2⟩ := pickM_some h
    unfold o25_4000_in at h2
    split at h2
    · exact (haystackref02_Same_j4_eq _ _ _ _ K).trans h2
    · cases h2

theorem p25_5400 : ∀ sp, o25 (Ev.keyOf c25_5400 * 1000 + 400) = some sp → ∀ (R : Type) (r : R) st (K : Ex → St → Option R), sp st R K = some r → lp25_5400 NR st K = some r := by
    intro sp hsp R r st K h
    have h1 : o25 (Ev.keyOf c25_5400 * 1000 + 400) = some o25_5400 := by kernel_rfl
    obtain rfl := Option.some.inj (h1.symm.trans hsp)
    unfold o25_5400 at h
    obtain ⟨vs, hh, rfl, h2⟩ := pickM_some h
    unfold o25_5400_in at h2
    split at h2
    · exact (haystackref02_Same_l5_L_eq NR _ _ _ _ _ K).trans (haystackref02_Same_l5_unf _ _ _ _ _ (fun x0 => K (Ex.ret) (St.mk (spread 38 0 [4] [AV.bool x0]) [])) (fun _ => K (Ex.exit 0) (St.mk (spread 38 0 [] []) []))).symm |>.trans h2
    · cases h2

theorem pc25 : ∀ x ∈ [(3998, false, c25_4000), (3994, true, c25_5400)], PieceOk (env (keepOf kpt) (vsOf [])) (evFun (env (keepOf kpt) (vsOf [])) S42 T43 10) o25 25 ([] : H).length x := List.forall_mem_cons.2 ⟨p25_4000, List.forall_mem_cons.2 ⟨p25_5400, fun _ h => nomatch h⟩⟩

theorem haystackref02_Same_eq {R : Type} (n368 : Int) (xs369 : List Int) (n370 : Int) (xs371 : List Int) (K : AV → Option R) : evSpec (env (keepOf kpt) (vsOf [])) S42 T43 o25 10 25 ([AV.agg (Blk.any [AV.int .i64 n368, AV.fsl (Blk.ints .u64 xs369)]), AV.agg (Blk.any [AV.int .i64 n370, AV.fsl (Blk.ints .u64 xs371)])]) R K = haystackref02_Same n368 xs369 n370 xs371 (fun x0 => K (AV.bool x0)) := by
  rw [haystackref02_Same_unf]; kernel_rfl

noncomputable def sp25 : Ev.Spec := fun args _ K => match args with
  | ([AV.agg (Blk.any [AV.int .i64 n368, AV.fsl (Blk.ints .u64 xs369)]), AV.agg (Blk.any [AV.int .i64 n370, AV.fsl (Blk.ints .u64 xs371)])]) => haystackref02_Same n368 xs369 n370 xs371 (fun x0 => K (AV.bool x0))
  | _ => none

theorem sp25_nat : SpecNat sp25 := fun args _ _ _ _ => by
  unfold sp25
  split
  · exact haystackref02_Same_push _ _ _ _ (fun _ => rfl)
  · rfl

theorem ok25 : SpecOk Try.prog (env (keepOf kpt) (vsOf [])) 25 sp25 :=
  SpecOk.of (evSpec_ok (env_types _ _) (env_funs _ _) S42_ok T43_ok (O := o25) o25_onat 10 25 (fun fn c h1 h2 => by
    have e : (env (keepOf kpt) (vsOf [])).F 25 = some Try.f25 := by kernel_rfl
    obtain rfl := Option.some.inj (e.symm.trans h1)
    obtain rfl := body_of h2
    exact OrcOk.of 4000 _ _ (show orcs o25 4000 (bodyOf Try.f25) = some [(3998, false, c25_4000), (3994, true, c25_5400)] by kernel_rfl) pc25)) sp25_nat (fun args z h => by
    unfold sp25 at h
    split at h
    · exact (haystackref02_Same_eq _ _ _ _ some).trans h
    · cases h)

noncomputable def S25 : FuncId → Option Ev.Spec := fun g => match g.beq 25 with | true => some sp25 | false => S42 g
theorem S25_ok : ∀ g sp, S25 g = some sp → SpecOk Try.prog (env (keepOf kpt) (vsOf [])) g sp := fun g sp h => by
  unfold S25 at h
  split at h
  · rename_i hb; cases h; obtain rfl := Nat.eq_of_beq_eq_true hb; exact ok25
  · exact S42_ok g sp h

theorem math_bits_OnesCount64_eq {R : Type} (n399 : Int) (K : AV → Option R) : evSpec (env (keepOf kpt) (vsOf [])) S25 T43 (fun _ => none) 10 63 ([AV.int .u64 n399]) R K = math_bits_OnesCount64 n399 (fun x0 => K (AV.int .i64 x0)) := by
  rw [math_bits_OnesCount64_unf]; kernel_rfl

noncomputable def sp63 : Ev.Spec := fun args _ K => match args with
  | ([AV.int .u64 n399]) => math_bits_OnesCount64 n399 (fun x0 => K (AV.int .i64 x0))
  | _ => none

theorem sp63_nat : SpecNat sp63 := fun args _ _ _ _ => by
  unfold sp63
  split
  · exact math_bits_OnesCount64_push _ (fun _ => rfl)
  · rfl

theorem ok63 : SpecOk Try.prog (env (keepOf kpt) (vsOf [])) 63 sp63 :=
  SpecOk.of (evSpec_ok (env_types _ _) (env_funs _ _) S25_ok T43_ok (O := (fun _ => none)) ONat.none 10 63 (fun _ _ _ _ => OrcOk.none _ _)) sp63_nat (fun args z h => by
    unfold sp63 at h
    split at h
    · exact (math_bits_OnesCount64_eq _ some).trans h
    · cases h)

noncomputable def S63 : FuncId → Option Ev.Spec := fun g => match g.beq 63 with | true => some sp63 | false => S25 g
theorem S63_ok : ∀ g sp, S63 g = some sp → SpecOk Try.prog (env (keepOf kpt) (vsOf [])) g sp := fun g sp h => by
  unfold S63 at h
  split at h
  · rename_i hb; cases h; obtain rfl := Nat.eq_of_beq_eq_true hb; exact ok63
  · exact S25_ok g sp h

theorem word_Pop_eq {R : Type} (n398 : Int) (K : AV → Option R) : evSpec (env (keepOf kpt) (vsOf [])) S63 T43 (fun _ => none) 10 44 ([AV.int .u64 n398]) R K = word_Pop n398 (fun x0 => K (AV.int .i64 x0)) := by
  rw [word_Pop_unf]; kernel_rfl

noncomputable def sp44 : Ev.Spec := fun args _ K => match args with
  | ([AV.int .u64 n398]) => word_Pop n398 (fun x0 => K (AV.int .i64 x0))
  | _ => none

theorem sp44_nat : SpecNat sp44 := fun args _ _ _ _ => by
  unfold sp44
  split
  · exact word_Pop_push _ (fun _ => rfl)
  · rfl

theorem ok44 : SpecOk Try.prog (env (keepOf kpt) (vsOf [])) 44 sp44 :=
  SpecOk.of (evSpec_ok (env_types _ _) (env_funs _ _) S63_ok T43_ok (O := (fun _ => none)) ONat.none 10 44 (fun _ _ _ _ => OrcOk.none _ _)) sp44_nat (fun args z h => by
    unfold sp44 at h
    split at h
    · exact (word_Pop_eq _ some).trans h
    · cases h)

noncomputable def S44 : FuncId → Option Ev.Spec := fun g => match g.beq 44 with | true => some sp44 | false => S63 g
theorem S44_ok : ∀ g sp, S44 g = some sp → SpecOk Try.prog (env (keepOf kpt) (vsOf [])) g sp := fun g sp h => by
  unfold S44 at h
  split at h
  · rename_i hb; cases h; obtain rfl := Nat.eq_of_beq_eq_true hb; exact ok44
  · exact S63_ok g sp h

theorem word_Rank_eq {R : Type} (n409 : Int) (n410 : Int) (K : AV → Option R) : evSpec (env (keepOf kpt) (vsOf [])) S44 T43 (fun _ => none) 10 45 ([AV.int .u64 n409, AV.int .i64 n410]) R K = word_Rank n409 n410 (fun x0 => K (AV.int .i64 x0)) := by
  rw [word_Rank_unf]; kernel_rfl

noncomputable def sp45 : Ev.Spec := fun args _ K => match args with
  | ([AV.int .u64 n409, AV.int .i64 n410]) => word_Rank n409 n410 (fun x0 => K (AV.int .i64 x0))
  | _ => none

theorem sp45_nat : SpecNat sp45 := fun args _ _ _ _ => by
  unfold sp45
  split
  · exact word_Rank_push _ _ (fun _ => rfl)
  · rfl

theorem ok45 : SpecOk Try.prog (env (keepOf kpt) (vsOf [])) 45 sp45 :=
  SpecOk.of (evSpec_ok (env_types _ _) (env_funs _ _) S44_ok T43_ok (O := (fun _ => none)) ONat.none 10 45 (fun _ _ _ _ => OrcOk.none _ _)) sp45_nat (fun args z h => by
    unfold sp45 at h
    split at h
    · exact (word_Rank_eq _ _ some).trans h
    · cases h)

noncomputable def S45 : FuncId → Option Ev.Spec := fun g => match g.beq 45 with | true => some sp45 | false => S44 g
theorem S45_ok : ∀ g sp, S45 g = some sp → SpecOk Try.prog (env (keepOf kpt) (vsOf [])) g sp := fun g sp h => by
  unfold S45 at h
  split at h
  · rename_i hb; cases h; obtain rfl := Nat.eq_of_beq_eq_true hb; exact ok45
  · exact S44_ok g sp h

noncomputable def o17_7400_in {R : Type} (K : Ex → St → Option R) (vs : List AV) (hh : H) : Option R := match vs, hh with
  | [AV.int .i64 n391, AV.ptr 0 0, AV.int .i64 n392, AV.fsl (Blk.ints .u64 xs393), AV.int .i64 n394, AV.int .i64 n395], [HB.live (Blk.any [AV.int .i64 n396, AV.fsl (Blk.ints .u64 xs397)])] => bits_Ones_l7 n391 n392 xs393 n394 n395 n396 xs397 (fun x0 x1 x2 x3 => K (Ex.exit 0) (St.mk (spread 46 0 [1, 2, 5] [AV.int .i64 x0, AV.ptr 0 0, AV.int .i64 x1]) [HB.live (Blk.any [AV.int .i64 x2, AV.fsl (Blk.ints .u64 x3)])]))
  | _, _ => none
noncomputable def o17_7400 : PSpec := fun st _ K => pickM 46 [1, 2, 5, 20, 21, 22] st (o17_7400_in K)

theorem o17_7400_nat (st : St) (R S : Type) (K : Ex → St → Option R) (J : R → Option S) : (o17_7400 st R K).bind J = o17_7400 st S fun ex st => (K ex st).bind J := by
  unfold o17_7400
  refine pickM_push fun vs hh => ?_
  unfold o17_7400_in
  split
  · exact bits_Ones_l7_push _ _ _ _ _ _ _ (fun _ _ _ _ => rfl)
  · rfl

noncomputable def o17 : Nat → Option PSpec := lkN [(7400, o17_7400)]

theorem o17_onat : ONat o17 := ONat.consT o17_7400_nat (ONat.nilT)

noncomputable def c17_7400 : Code := subC [1, 1, 1, 1, 0, 1, 0, 0] (bodyOf Try.f17)

noncomputable def lp17_7400 {R : Type} (N : Nat) (st : St) (K : Ex → St → Option R) : Option R := evLoop (norm ((env (keepOf kpt) (vsOf [])).keep 17 (Ev.keyOf c17_7400 * 1000 + 400)) ([] : H).length) (evCode (env (keepOf kpt) (vsOf [])) (evFun (env (keepOf kpt) (vsOf [])) S45 T43 10) o17 17 ([] : H).length 3992 c17_7400) N st (kOut (env (keepOf kpt) (vsOf [])) 17 ([] : H).length (Ev.keyOf c17_7400 * 1000 + 401) K)

theorem bits_Ones_l7_step {R : Type} (N : Nat) (n391 : Int) (n392 : Int) (xs393 : List Int) (n394 : Int) (n395 : Int) (n396 : Int) (xs397 : List Int) (K : Ex → St → Option R) : lp17_7400 (N + 1) (St.mk (spread 46 0 [1, 2, 5, 20, 21, 22] [AV.int .i64 n391, AV.ptr 0 0, AV.int .i64 n392, AV.fsl (Blk.ints .u64 xs393), AV.int .i64 n394, AV.int .i64 n395]) [HB.live (Blk.any [AV.int .i64 n396, AV.fsl (Blk.ints .u64 xs397)])]) K = bits_Ones_l7_T (fun n391 n392 xs393 n394 n395 n396 xs397 => lp17_7400 N (St.mk (spread 46 0 [1, 2, 5, 20, 21, 22] [AV.int .i64 n391, AV.ptr 0 0, AV.int .i64 n392, AV.fsl (Blk.ints .u64 xs393), AV.int .i64 n394, AV.int .i64 n395]) [HB.live (Blk.any [AV.int .i64 n396, AV.fsl (Blk.ints .u64 xs397)])]) K) n391 n392 xs393 n394 n395 n396 xs397 (fun x0 x1 x2 x3 => K (Ex.exit 0) (St.mk (spread 46 0 [1, 2, 5] [AV.int .i64 x0, AV.ptr 0 0, AV.int .i64 x1]) [HB.live (Blk.any [AV.int .i64 x2, AV.fsl (Blk.ints .u64 x3)])])) := by kernel_rfl

theorem bits_Ones_l7_L_eq {R : Type} : ∀ (N : Nat) (n391 : Int) (n392 : Int) (xs393 : List Int) (n394 : Int) (n395 : Int) (n396 : Int) (xs397 : List Int) (K : Ex → St → Option R), lp17_7400 N (St.mk (spread 46 0 [1, 2, 5, 20, 21, 22] [AV.int .i64 n391, AV.ptr 0 0, AV.int .i64 n392, AV.fsl (Blk.ints .u64 xs393), AV.int .i64 n394, AV.int .i64 n395]) [HB.live (Blk.any [AV.int .i64 n396, AV.fsl (Blk.ints .u64 xs397)])]) K = bits_Ones_l7_L (fun x0 x1 x2 x3 => K (Ex.exit 0) (St.mk (spread 46 0 [1, 2, 5] [AV.int .i64 x0, AV.ptr 0 0, AV.int .i64 x1]) [HB.live (Blk.any [AV.int .i64 x2, AV.fsl (Blk.ints .u64 x3)])])) N n391 n392 xs393 n394 n395 n396 xs397
  | 0, _, _, _, _, _, _, _, _ => rfl
  | N + 1, n391, n392, xs393, n394, n395, n396, xs397, K => by rw [bits_Ones_l7_step]; simp only [bits_Ones_l7_L_eq N]; rfl

theorem p17_7400 : ∀ sp, o17 (Ev.keyOf c17_7400 * 1000 + 400) = some sp → ∀ (R : Type) (r : R) st (K : Ex → St → Option R), sp st R K = some r → lp17_7400 NR st K = some r := by
    intro sp hsp R r st K h
    have h1 : o17 (Ev.keyOf c17_7400 * 1000 + 400) = some o17_7400 := by kernel_rfl
    obtain rfl := Option.some.inj (h1.symm.trans hsp)
    unfold o17_7400 at h
    obtain ⟨vs, hh, rfl, h2⟩ := pickM_some h
    unfold o17_7400_in at h2
    split at h2
    · exact (bits_Ones_l7_L_eq NR _ _ _ _ _ _ _ K).trans (bits_Ones_l7_unf _ _ _ _ _ _ _ (fun x0 x1 x2 x3 => K (Ex.exit 0) (St.mk (spread 46 0 [1, 2, 5] [AV.int .i64 x0, AV.ptr 0 0, AV.int .i64 x1]) [HB.live (Blk.any [AV.int .i64 x2, AV.fsl (Blk.ints .u64 x3)])]))).symm |>.trans h2
    · cases h2

theorem pc17 : ∀ x ∈ [(3992, true, c17_7400)], PieceOk (env (keepOf kpt) (vsOf [])) (evFun (env (keepOf kpt) (vsOf [])) S45 T43 10) o17 17 ([] : H).length x := List.forall_mem_cons.2 ⟨p17_7400, fun _ h => nomatch h⟩

theorem bits_Ones_eq {R : Type} (n386 : Int) (xs387 : List Int) (n388 : Int) (K : AV → Option R) : evSpec (env (keepOf kpt) (vsOf [])) S45 T43 o17 10 17 ([AV.agg (Blk.any [AV.int .i64 n386, AV.fsl (Blk.ints .u64 xs387)]), AV.int .i64 n388]) R K = bits_Ones n386 xs387 n388 (fun x0 => K (AV.int .i64 x0)) := by
  rw [bits_Ones_unf]; kernel_rfl

noncomputable def sp17 : Ev.Spec := fun args _ K => match args with
  | ([AV.agg (Blk.any [AV.int .i64 n386, AV.fsl (Blk.ints .u64 xs387)]), AV.int .i64 n388]) => bits_Ones n386 xs387 n388 (fun x0 => K (AV.int .i64 x0))
  | _ => none

theorem sp17_nat : SpecNat sp17 := fun args _ _ _ _ => by
  unfold sp17
  split
  · exact bits_Ones_push _ _ _ (fun _ => rfl)
  · rfl

theorem ok17 : SpecOk Try.prog (env (keepOf kpt) (vsOf [])) 17 sp17 :=
  SpecOk.of (evSpec_ok (env_types _ _) (env_funs _ _) S45_ok T43_ok (O := o17) o17_onat 10 17 (fun fn c h1 h2 => by
    have e : (env (keepOf kpt) (vsOf [])).F 17 = some Try.f17 := by kernel_rfl
    obtain rfl := Option.some.inj (e.symm.trans h1)
    obtain rfl := body_of h2
    exact OrcOk.of 4000 _ _ (show orcs o17 4000 (bodyOf Try.f17) = some [(3992, true, c17_7400)] by kernel_rfl) pc17)) sp17_nat (fun args z h => by
    unfold sp17 at h
    split at h
    · exact (bits_Ones_eq _ _ _ some).trans h
    · cases h)

noncomputable def S17 : FuncId → Option Ev.Spec := fun g => match g.beq 17 with | true => some sp17 | false => S45 g
theorem S17_ok : ∀ g sp, S17 g = some sp → SpecOk Try.prog (env (keepOf kpt) (vsOf [])) g sp := fun g sp h => by
  unfold S17 at h
  split at h
  · rename_i hb; cases h; obtain rfl := Nat.eq_of_beq_eq_true hb; exact ok17
  · exact S45_ok g sp h

noncomputable def o25r1_4000_in {R : Type} (K : Ex → St → Option R) (vs : List AV) (hh : H) : Option R := match vs, hh with
  | [AV.ptr 1 0, AV.ptr 2 0], [HB.live (Blk.ints .u64 xs427), HB.live (Blk.any [AV.int .i64 n428, AV.sl 0 0 l429 1]), HB.live (Blk.any [AV.int .i64 n430, AV.fsl (Blk.ints .u64 xs431)])] => haystackref02_Same_j4_1 xs427 n428 l429 n430 xs431 (fun x0 x1 => K (Ex.ret) (St.mk (spread 38 0 [4] [AV.bool x0]) [HB.live (Blk.ints .u64 x1)]))
  | _, _ => none
noncomputable def o25r1_4000 : PSpec := fun st _ K => pickM 38 [2, 3] st (o25r1_4000_in K)

theorem o25r1_4000_nat (st : St) (R S : Type) (K : Ex → St → Option R) (J : R → Option S) : (o25r1_4000 st R K).bind J = o25r1_4000 st S fun ex st => (K ex st).bind J := by
  unfold o25r1_4000
  refine pickM_push fun vs hh => ?_
  unfold o25r1_4000_in
  split
  · exact haystackref02_Same_j4_1_push _ _ _ _ _ (fun _ _ => rfl)
  · rfl

noncomputable def o25r1_5400_in {R : Type} (K : Ex → St → Option R) (vs : List AV) (hh : H) : Option R := match vs, hh with
  | [AV.ptr 1 0, AV.ptr 2 0, AV.int .i64 n432], [HB.live (Blk.ints .u64 xs433), HB.live (Blk.any [AV.int .i64 n434, AV.sl 0 0 l435 1]), HB.live (Blk.any [AV.int .i64 n436, AV.fsl (Blk.ints .u64 xs437)])] => haystackref02_Same_l5_1 n432 xs433 n434 l435 n436 xs437 (fun x0 x1 => K (Ex.ret) (St.mk (spread 38 0 [4] [AV.bool x0]) [HB.live (Blk.ints .u64 x1)])) (fun x0 => K (Ex.exit 0) (St.mk (spread 38 0 [] []) [HB.live (Blk.ints .u64 x0)]))
  | _, _ => none
noncomputable def o25r1_5400 : PSpec := fun st _ K => pickM 38 [2, 3, 5] st (o25r1_5400_in K)

theorem o25r1_5400_nat (st : St) (R S : Type) (K : Ex → St → Option R) (J : R → Option S) : (o25r1_5400 st R K).bind J = o25r1_5400 st S fun ex st => (K ex st).bind J := by
  unfold o25r1_5400
  refine pickM_push fun vs hh => ?_
  unfold o25r1_5400_in
  split
  · exact haystackref02_Same_l5_1_push _ _ _ _ _ _ (fun _ _ => rfl) (fun _ => rfl)
  · rfl

noncomputable def o25r1 : Nat → Option PSpec := lkN [(4000, o25r1_4000), (5400, o25r1_5400)]

theorem o25r1_onat : ONat o25r1 := ONat.consT o25r1_4000_nat (ONat.consT o25r1_5400_nat (ONat.nilT))

noncomputable def c25r1_4000 : Code := subC [1, 1] (bodyOf Try.f25)

noncomputable def c25r1_5400 : Code := subC [1, 1, 0, 1, 0, 0] (bodyOf Try.f25)

noncomputable def lp25r1_5400 {R : Type} (N : Nat) (st : St) (K : Ex → St → Option R) : Option R := evLoop (norm ((env (keepOf kpt) (vsOf [])).keep 25 (Ev.keyOf c25r1_5400 * 1000 + 400)) 1) (evCode (env (keepOf kpt) (vsOf [])) (evFun (env (keepOf kpt) (vsOf [])) S17 T43 10) o25r1 25 1 3994 c25r1_5400) N st (kOut (env (keepOf kpt) (vsOf [])) 25 1 (Ev.keyOf c25r1_5400 * 1000 + 401) K)

theorem haystackref02_Same_l5_1_step {R : Type} (N : Nat) (n432 : Int) (xs433 : List Int) (n434 : Int) (l435 : Nat) (n436 : Int) (xs437 : List Int) (K : Ex → St → Option R) : lp25r1_5400 (N + 1) (St.mk (spread 38 0 [2, 3, 5] [AV.ptr 1 0, AV.ptr 2 0, AV.int .i64 n432]) [HB.live (Blk.ints .u64 xs433), HB.live (Blk.any [AV.int .i64 n434, AV.sl 0 0 l435 1]), HB.live (Blk.any [AV.int .i64 n436, AV.fsl (Blk.ints .u64 xs437)])]) K = haystackref02_Same_l5_1_T (fun n432 xs433 n434 l435 n436 xs437 => lp25r1_5400 N (St.mk (spread 38 0 [2, 3, 5] [AV.ptr 1 0, AV.ptr 2 0, AV.int .i64 n432]) [HB.live (Blk.ints .u64 xs433), HB.live (Blk.any [AV.int .i64 n434, AV.sl 0 0 l435 1]), HB.live (Blk.any [AV.int .i64 n436, AV.fsl (Blk.ints .u64 xs437)])]) K) n432 xs433 n434 l435 n436 xs437 (fun x0 x1 => K (Ex.ret) (St.mk (spread 38 0 [4] [AV.bool x0]) [HB.live (Blk.ints .u64 x1)])) (fun x0 => K (Ex.exit 0) (St.mk (spread 38 0 [] []) [HB.live (Blk.ints .u64 x0)])) := by kernel_rfl

theorem haystackref02_Same_l5_1_L_eq {R : Type} : ∀ (N : Nat) (n432 : Int) (xs433 : List Int) (n434 : Int) (l435 : Nat) (n436 : Int) (xs437 : List Int) (K : Ex → St → Option R), lp25r1_5400 N (St.mk (spread 38 0 [2, 3, 5] [AV.ptr 1 0, AV.ptr 2 0, AV.int .i64 n432]) [HB.live (Blk.ints .u64 xs433), HB.live (Blk.any [AV.int .i64 n434, AV.sl 0 0 l435 1]), HB.live (Blk.any [AV.int .i64 n436, AV.fsl (Blk.ints .u64 xs437)])]) K = haystackref02_Same_l5_1_L (fun x0 x1 => K (Ex.ret) (St.mk (spread 38 0 [4] [AV.bool x0]) [HB.live (Blk.ints .u64 x1)])) (fun x0 => K (Ex.exit 0) (St.mk (spread 38 0 [] []) [HB.live (Blk.ints .u64 x0)])) N n432 xs433 n434 l435 n436 xs437
  | 0, _, _, _, _, _, _, _ => rfl
  | N + 1, n432, xs433, n434, l435, n436, xs437, K => by rw [haystackref02_Same_l5_1_step]; simp only [haystackref02_Same_l5_1_L_eq N]; rfl

theorem haystackref02_Same_j4_1_eq {R : Type} (xs427 : List Int) (n428 : Int) (l429 : Nat) (n430 : Int) (xs431 : List Int) (K : Ex → St → Option R) : evCode (env (keepOf kpt) (vsOf [])) (evFun (env (keepOf kpt) (vsOf [])) S17 T43 10) o25r1 25 1 3998 c25r1_4000 (St.mk (spread 38 0 [2, 3] [AV.ptr 1 0, AV.ptr 2 0]) [HB.live (Blk.ints .u64 xs427), HB.live (Blk.any [AV.int .i64 n428, AV.sl 0 0 l429 1]), HB.live (Blk.any [AV.int .i64 n430, AV.fsl (Blk.ints .u64 xs431)])]) (kOut (env (keepOf kpt) (vsOf [])) 25 1 (Ev.keyOf c25r1_4000 * 1000 + 1) K) = haystackref02_Same_j4_1 xs427 n428 l429 n430 xs431 (fun x0 x1 => K (Ex.ret) (St.mk (spread 38 0 [4] [AV.bool x0]) [HB.live (Blk.ints .u64 x1)])) := by
  rw [haystackref02_Same_j4_1_unf]; kernel_rfl

theorem p25r1_4000 : ∀ sp, o25r1 (Ev.keyOf c25r1_4000 * 1000) = some sp → ∀ (R : Type) (r : R) st (K : Ex → St → Option R), sp st R K = some r → evCode (env (keepOf kpt) (vsOf [])) (evFun (env (keepOf kpt) (vsOf [])) S17 T43 10) o25r1 25 1 3998 c25r1_4000 st (kOut (env (keepOf kpt) (vsOf [])) 25 1 (Ev.keyOf c25r1_4000 * 1000 + 1) K) = some r := by
    intro sp hsp R r st K h
    have h1 : o25r1 (Ev.keyOf c25r1_4000 * 1000) = some o25r1_4000 := by kernel_rfl
    obtain rfl := Option.some.inj (h1.symm.trans hsp)
    unfold o25r1_4000 at h
    obtain ⟨vs, hh, rfl, h2⟩ := pickM_some h
    unfold o25r1_4000_in at h2
    split at h2
    · exact (haystackref02_Same_j4_1_eq _ _ _ _ _ K).trans h2
    · cases h2

theorem p25r1_5400 : ∀ sp, o25r1 (Ev.keyOf c25r1_5400 * 1000 + 400) = some sp → ∀ (R : Type) (r : R) st (K : Ex → St → Option R), sp st R K = some r → lp25r1_5400 NR st K = some r := by
    intro sp hsp R r st K h
    have h1 : o25r1 (Ev.keyOf c25r1_5400 * 1000 + 400) = some o25r1_5400 := by kernel_rfl
    obtain rfl := Option.some.inj (h1.symm.trans hsp)
    unfold o25r1_5400 at h
    obtain ⟨vs, hh, rfl, h2⟩ := pickM_some h
    unfold o25r1_5400_in at h2
    split at h2
    · exact (haystackref02_Same_l5_1_L_eq NR _ _ _ _ _ _ K).trans (haystackref02_Same_l5_1_unf _ _ _ _ _ _ (fun x0 x1 => K (Ex.ret) (St.mk (spread 38 0 [4] [AV.bool x0]) [HB.live (Blk.ints .u64 x1)])) (fun x0 => K (Ex.exit 0) (St.mk (spread 38 0 [] []) [HB.live (Blk.ints .u64 x0)]))).symm |>.trans h2
    · cases h2

theorem pc25r1 : ∀ x ∈ [(3998, false, c25r1_4000), (3994, true, c25r1_5400)], PieceOk (env (keepOf kpt) (vsOf [])) (evFun (env (keepOf kpt) (vsOf [])) S17 T43 10) o25r1 25 1 x := List.forall_mem_cons.2 ⟨p25r1_4000, List.forall_mem_cons.2 ⟨p25r1_5400, fun _ h => nomatch h⟩⟩

theorem haystackref02_Same_r_eq {R : Type} (n422 : Int) (l423 : Nat) (n424 : Int) (xs425 : List Int) (xs426 : List Int) (K : AV → H → Option R) : evH (env (keepOf kpt) (vsOf [])) S17 T43 o25r1 10 25 [AV.agg (Blk.any [AV.int .i64 n422, AV.sl 0 0 l423 1]), AV.agg (Blk.any [AV.int .i64 n424, AV.fsl (Blk.ints .u64 xs425)])] [HB.live (Blk.ints .u64 xs426)] R K = haystackref02_Same_r n422 l423 n424 xs425 xs426 (fun x0 x1 => K (AV.bool x0) ([HB.live (Blk.ints .u64 x1)])) := by
  rw [haystackref02_Same_r_unf]; kernel_rfl

noncomputable def hs25 : HSpec := fun args h _ K => match args, h with
  | [AV.agg (Blk.any [AV.int .i64 n422, AV.sl 0 0 l423 1]), AV.agg (Blk.any [AV.int .i64 n424, AV.fsl (Blk.ints .u64 xs425)])], [HB.live (Blk.ints .u64 xs426)] => haystackref02_Same_r n422 l423 n424 xs425 xs426 (fun x0 x1 => K (AV.bool x0) ([HB.live (Blk.ints .u64 x1)]))
  | _, _ => none

theorem hs25_nat : HNat hs25 := fun args h _ _ _ _ => by
  unfold hs25
  split
  · exact haystackref02_Same_r_push _ _ _ _ _ (fun _ _ => rfl)
  · rfl

theorem hok25 : HSpecOk Try.prog (env (keepOf kpt) (vsOf [])) 25 hs25 :=
  HSpecOk.mk' hs25_nat (fun X args h m w us z h1 he g hr => by
    unfold hs25 at he
    split at he
    · exact evH_ok (env_types _ (vsOf [])) (env_funs _ (vsOf [])) S17_ok T43_ok (O := o25r1) o25r1_onat 10 25 1 (fun fn c h1 h2 => by
    have e : (env (keepOf kpt) (vsOf [])).F 25 = some Try.f25 := by kernel_rfl
    obtain rfl := Option.some.inj (e.symm.trans h1)
    obtain rfl := body_of h2
    exact OrcOk.of 4000 _ _ (show orcs o25r1 4000 (bodyOf Try.f25) = some [(3998, false, c25r1_4000), (3994, true, c25r1_5400)] by kernel_rfl) pc25r1) rfl ((haystackref02_Same_r_eq _ _ _ _ _ _).trans he) g hr
    · cases he)

noncomputable def T25 : FuncId → Option HSpec := fun g => match g.beq 25 with | true => some hs25 | false => T43 g
theorem T25_ok : ∀ g sp, T25 g = some sp → HSpecOk Try.prog (env (keepOf kpt) (vsOf [])) g sp := fun g sp h => by
  unfold T25 at h
  split at h
  · rename_i hb; cases h; obtain rfl := Nat.eq_of_beq_eq_true hb; exact hok25
  · exact T43_ok g sp h

theorem haystacklaw02_heads_eq {R : Type} (K : AV → Option R) : evSpec (env (keepOf kpt) (vsOf [])) S17 T25 (fun _ => none) 10 15 ([]) R K = haystacklaw02_heads (fun x0 => K (AV.bool x0)) := by
  rw [haystacklaw02_heads_unf]; kernel_rfl

noncomputable def sp15 : Ev.Spec := fun args _ K => match args with
  | ([]) => haystacklaw02_heads (fun x0 => K (AV.bool x0))
  | _ => none

theorem sp15_nat : SpecNat sp15 := fun args _ _ _ _ => by
  unfold sp15
  split
  · exact haystacklaw02_heads_push (fun _ => rfl)
  · rfl

theorem ok15 : SpecOk Try.prog (env (keepOf kpt) (vsOf [])) 15 sp15 :=
  SpecOk.of (evSpec_ok (env_types _ _) (env_funs _ _) S17_ok T25_ok (O := (fun _ => none)) ONat.none 10 15 (fun _ _ _ _ => OrcOk.none _ _)) sp15_nat (fun args z h => by
    unfold sp15 at h
    split at h
    · exact (haystacklaw02_heads_eq some).trans h
    · cases h)

noncomputable def S15 : FuncId → Option Ev.Spec := fun g => match g.beq 15 with | true => some sp15 | false => S17 g
theorem S15_ok : ∀ g sp, S15 g = some sp → SpecOk Try.prog (env (keepOf kpt) (vsOf [])) g sp := fun g sp h => by
  unfold S15 at h
  split at h
  · rename_i hb; cases h; obtain rfl := Nat.eq_of_beq_eq_true hb; exact ok15
  · exact S17_ok g sp h

noncomputable def o3_4000_in {R : Type} (K : Ex → St → Option R) (vs : List AV) (hh : H) : Option R := match vs, hh with
  | [AV.int .i64 n453, AV.ptr 0 0], [HB.live (Blk.any [AV.int .i64 n454, AV.fsl (Blk.ints .u64 xs455)])] => haystacklaw02_BitsCounts_j4 n453 n454 xs455 (fun x0 => K (Ex.ret) (St.mk (spread 76 0 [4] [AV.bool x0]) []))
  | _, _ => none
noncomputable def o3_4000 : PSpec := fun st _ K => pickM 76 [1, 2] st (o3_4000_in K)

theorem o3_4000_nat (st : St) (R S : Type) (K : Ex → St → Option R) (J : R → Option S) : (o3_4000 st R K).bind J = o3_4000 st S fun ex st => (K ex st).bind J := by
  unfold o3_4000
  refine pickM_push fun vs hh => ?_
  unfold o3_4000_in
  split
  · exact haystacklaw02_BitsCounts_j4_push _ _ _ (fun _ => rfl)
  · rfl

noncomputable def o3 : Nat → Option PSpec := lkN [(4000, o3_4000)]

theorem o3_onat : ONat o3 := ONat.consT o3_4000_nat (ONat.nilT)

noncomputable def c3_4000 : Code := subC [1, 1] (bodyOf Try.f3)

theorem haystacklaw02_BitsCounts_j4_eq {R : Type} (n453 : Int) (n454 : Int) (xs455 : List Int) (K : Ex → St → Option R) : evCode (env (keepOf kpt) (vsOf [])) (evFun (env (keepOf kpt) (vsOf [])) S15 T25 10) o3 3 ([] : H).length 3998 c3_4000 (St.mk (spread 76 0 [1, 2] [AV.int .i64 n453, AV.ptr 0 0]) [HB.live (Blk.any [AV.int .i64 n454, AV.fsl (Blk.ints .u64 xs455)])]) (kOut (env (keepOf kpt) (vsOf [])) 3 ([] : H).length (Ev.keyOf c3_4000 * 1000 + 1) K) = haystacklaw02_BitsCounts_j4 n453 n454 xs455 (fun x0 => K (Ex.ret) (St.mk (spread 76 0 [4] [AV.bool x0]) [])) := by
  rw [haystacklaw02_BitsCounts_j4_unf]; kernel_rfl

theorem p3_4000 : ∀ sp, o3 (Ev.keyOf c3_4000 * 1000) = some sp → ∀ (R : Type) (r : R) st (K : Ex → St → Option R), sp st R K = some r → evCode (env (keepOf kpt) (vsOf [])) (evFun (env (keepOf kpt) (vsOf [])) S15 T25 10) o3 3 ([] : H).length 3998 c3_4000 st (kOut (env (keepOf kpt) (vsOf [])) 3 ([] : H).length (Ev.keyOf c3_4000 * 1000 + 1) K) = some r := by
    intro sp hsp R r st K h
    have h1 : o3 (Ev.keyOf c3_4000 * 1000) = some o3_4000 := by kernel_rfl
    obtain rfl := Option.some.inj (h1.symm.trans hsp)
    unfold o3_4000 at h
    obtain ⟨vs, hh, rfl, h2⟩ := pickM_some h
    unfold o3_4000_in at h2
    split at h2
    · exact (haystacklaw02_BitsCounts_j4_eq _ _ _ K).trans h2
    · cases h2

theorem pc3 : ∀ x ∈ [(3998, false, c3_4000)], PieceOk (env (keepOf kpt) (vsOf [])) (evFun (env (keepOf kpt) (vsOf [])) S15 T25 10) o3 3 ([] : H).length x := List.forall_mem_cons.2 ⟨p3_4000, fun _ h => nomatch h⟩

theorem haystacklaw02_BitsCounts_eq {R : Type} (n0 : Int) (xs1 : List Int) (n2 : Int) (K : AV → Option R) : evSpec (env (keepOf kpt) (vsOf [])) S15 T25 o3 10 3 ([AV.agg (Blk.any [AV.int .i64 n0, AV.fsl (Blk.ints .u64 xs1)]), AV.int .i64 n2]) R K = haystacklaw02_BitsCounts n0 xs1 n2 (fun x0 => K (AV.bool x0)) := by
  rw [haystacklaw02_BitsCounts_unf]; kernel_rfl

noncomputable def sp3 : Ev.Spec := fun args _ K => match args with
  | ([AV.agg (Blk.any [AV.int .i64 n0, AV.fsl (Blk.ints .u64 xs1)]), AV.int .i64 n2]) => haystacklaw02_BitsCounts n0 xs1 n2 (fun x0 => K (AV.bool x0))
  | _ => none

theorem sp3_nat : SpecNat sp3 := fun args _ _ _ _ => by
  unfold sp3
  split
  · exact haystacklaw02_BitsCounts_push _ _ _ (fun _ => rfl)
  · rfl

theorem ok3 : SpecOk Try.prog (env (keepOf kpt) (vsOf [])) 3 sp3 :=
  SpecOk.of (evSpec_ok (env_types _ _) (env_funs _ _) S15_ok T25_ok (O := o3) o3_onat 10 3 (fun fn c h1 h2 => by
    have e : (env (keepOf kpt) (vsOf [])).F 3 = some Try.f3 := by kernel_rfl
    obtain rfl := Option.some.inj (e.symm.trans h1)
    obtain rfl := body_of h2
    exact OrcOk.of 4000 _ _ (show orcs o3 4000 (bodyOf Try.f3) = some [(3998, false, c3_4000)] by kernel_rfl) pc3)) sp3_nat (fun args z h => by
    unfold sp3 at h
    split at h
    · exact (haystacklaw02_BitsCounts_eq _ _ _ some).trans h
    · cases h)

noncomputable def S3 : FuncId → Option Ev.Spec := fun g => match g.beq 3 with | true => some sp3 | false => S15 g
theorem S3_ok : ∀ g sp, S3 g = some sp → SpecOk Try.prog (env (keepOf kpt) (vsOf [])) g sp := fun g sp h => by
  unfold S3 at h
  split at h
  · rename_i hb; cases h; obtain rfl := Nat.eq_of_beq_eq_true hb; exact ok3
  · exact S15_ok g sp h

noncomputable def o4_4000_in {R : Type} (K : Ex → St → Option R) (vs : List AV) (hh : H) : Option R := match vs, hh with
  | [AV.int .i64 n478, AV.int .i64 n479, AV.int .i64 n480, AV.ptr 0 0], [HB.live (Blk.any [AV.int .i64 n481, AV.fsl (Blk.ints .u64 xs482)])] => haystacklaw02_BitsSplits_j4 n478 n479 n480 n481 xs482 (fun x0 => K (Ex.ret) (St.mk (spread 127 0 [8] [AV.bool x0]) []))
  | _, _ => none
noncomputable def o4_4000 : PSpec := fun st _ K => pickM 127 [1, 2, 3, 4] st (o4_4000_in K)

theorem o4_4000_nat (st : St) (R S : Type) (K : Ex → St → Option R) (J : R → Option S) : (o4_4000 st R K).bind J = o4_4000 st S fun ex st => (K ex st).bind J := by
  unfold o4_4000
  refine pickM_push fun vs hh => ?_
  unfold o4_4000_in
  split
  · exact haystacklaw02_BitsSplits_j4_push _ _ _ _ _ (fun _ => rfl)
  · rfl

noncomputable def o4 : Nat → Option PSpec := lkN [(4000, o4_4000)]

theorem o4_onat : ONat o4 := ONat.consT o4_4000_nat (ONat.nilT)

noncomputable def c4_4000 : Code := subC [1, 1] (bodyOf Try.f4)

theorem haystacklaw02_BitsSplits_j4_eq {R : Type} (n478 : Int) (n479 : Int) (n480 : Int) (n481 : Int) (xs482 : List Int) (K : Ex → St → Option R) : evCode (env (keepOf kpt) (vsOf [])) (evFun (env (keepOf kpt) (vsOf [])) S3 T25 10) o4 4 ([] : H).length 3998 c4_4000 (St.mk (spread 127 0 [1, 2, 3, 4] [AV.int .i64 n478, AV.int .i64 n479, AV.int .i64 n480, AV.ptr 0 0]) [HB.live (Blk.any [AV.int .i64 n481, AV.fsl (Blk.ints .u64 xs482)])]) (kOut (env (keepOf kpt) (vsOf [])) 4 ([] : H).length (Ev.keyOf c4_4000 * 1000 + 1) K) = haystacklaw02_BitsSplits_j4 n478 n479 n480 n481 xs482 (fun x0 => K (Ex.ret) (St.mk (spread 127 0 [8] [AV.bool x0]) [])) := by
  rw [haystacklaw02_BitsSplits_j4_unf]; kernel_rfl

theorem p4_4000 : ∀ sp, o4 (Ev.keyOf c4_4000 * 1000) = some sp → ∀ (R : Type) (r : R) st (K : Ex → St → Option R), sp st R K = some r → evCode (env (keepOf kpt) (vsOf [])) (evFun (env (keepOf kpt) (vsOf [])) S3 T25 10) o4 4 ([] : H).length 3998 c4_4000 st (kOut (env (keepOf kpt) (vsOf [])) 4 ([] : H).length (Ev.keyOf c4_4000 * 1000 + 1) K) = some r := by
    intro sp hsp R r st K h
    have h1 : o4 (Ev.keyOf c4_4000 * 1000) = some o4_4000 := by kernel_rfl
    obtain rfl := Option.some.inj (h1.symm.trans hsp)
    unfold o4_4000 at h
    obtain ⟨vs, hh, rfl, h2⟩ := pickM_some h
    unfold o4_4000_in at h2
    split at h2
    · exact (haystacklaw02_BitsSplits_j4_eq _ _ _ _ _ K).trans h2
    · cases h2

theorem pc4 : ∀ x ∈ [(3998, false, c4_4000)], PieceOk (env (keepOf kpt) (vsOf [])) (evFun (env (keepOf kpt) (vsOf [])) S3 T25 10) o4 4 ([] : H).length x := List.forall_mem_cons.2 ⟨p4_4000, fun _ h => nomatch h⟩

theorem haystacklaw02_BitsSplits_eq {R : Type} (n463 : Int) (xs464 : List Int) (n465 : Int) (n466 : Int) (n467 : Int) (K : AV → Option R) : evSpec (env (keepOf kpt) (vsOf [])) S3 T25 o4 10 4 ([AV.agg (Blk.any [AV.int .i64 n463, AV.fsl (Blk.ints .u64 xs464)]), AV.int .i64 n465, AV.int .i64 n466, AV.int .i64 n467]) R K = haystacklaw02_BitsSplits n463 xs464 n465 n466 n467 (fun x0 => K (AV.bool x0)) := by
  rw [haystacklaw02_BitsSplits_unf]; kernel_rfl

noncomputable def sp4 : Ev.Spec := fun args _ K => match args with
  | ([AV.agg (Blk.any [AV.int .i64 n463, AV.fsl (Blk.ints .u64 xs464)]), AV.int .i64 n465, AV.int .i64 n466, AV.int .i64 n467]) => haystacklaw02_BitsSplits n463 xs464 n465 n466 n467 (fun x0 => K (AV.bool x0))
  | _ => none

theorem sp4_nat : SpecNat sp4 := fun args _ _ _ _ => by
  unfold sp4
  split
  · exact haystacklaw02_BitsSplits_push _ _ _ _ _ (fun _ => rfl)
  · rfl

theorem ok4 : SpecOk Try.prog (env (keepOf kpt) (vsOf [])) 4 sp4 :=
  SpecOk.of (evSpec_ok (env_types _ _) (env_funs _ _) S3_ok T25_ok (O := o4) o4_onat 10 4 (fun fn c h1 h2 => by
    have e : (env (keepOf kpt) (vsOf [])).F 4 = some Try.f4 := by kernel_rfl
    obtain rfl := Option.some.inj (e.symm.trans h1)
    obtain rfl := body_of h2
    exact OrcOk.of 4000 _ _ (show orcs o4 4000 (bodyOf Try.f4) = some [(3998, false, c4_4000)] by kernel_rfl) pc4)) sp4_nat (fun args z h => by
    unfold sp4 at h
    split at h
    · exact (haystacklaw02_BitsSplits_eq _ _ _ _ _ some).trans h
    · cases h)

noncomputable def S4 : FuncId → Option Ev.Spec := fun g => match g.beq 4 with | true => some sp4 | false => S3 g
theorem S4_ok : ∀ g sp, S4 g = some sp → SpecOk Try.prog (env (keepOf kpt) (vsOf [])) g sp := fun g sp h => by
  unfold S4 at h
  split at h
  · rename_i hb; cases h; obtain rfl := Nat.eq_of_beq_eq_true hb; exact ok4
  · exact S3_ok g sp h

noncomputable def o14r1_4000_in {R : Type} (K : Ex → St → Option R) (vs : List AV) (hh : H) : Option R := match vs, hh with
  | [AV.ptr 1 0], [HB.live (Blk.ints .u64 xs525), HB.live (Blk.any [AV.int .i64 n526, AV.sl 0 0 l527 1])] => bits_Check_j4_1 xs525 n526 l527 (fun x0 x1 => K (Ex.ret) (St.mk (spread 40 0 [2] [AV.bool x0]) [HB.live (Blk.ints .u64 x1)]))
  | _, _ => none
noncomputable def o14r1_4000 : PSpec := fun st _ K => pickM 40 [1] st (o14r1_4000_in K)

theorem o14r1_4000_nat (st : St) (R S : Type) (K : Ex → St → Option R) (J : R → Option S) : (o14r1_4000 st R K).bind J = o14r1_4000 st S fun ex st => (K ex st).bind J := by
  unfold o14r1_4000
  refine pickM_push fun vs hh => ?_
  unfold o14r1_4000_in
  split
  · exact bits_Check_j4_1_push _ _ _ (fun _ _ => rfl)
  · rfl

noncomputable def o14r1 : Nat → Option PSpec := lkN [(4000, o14r1_4000)]

theorem o14r1_onat : ONat o14r1 := ONat.consT o14r1_4000_nat (ONat.nilT)

noncomputable def c14r1_4000 : Code := subC [1, 1] (bodyOf Try.f14)

theorem bits_Check_j4_1_eq {R : Type} (xs525 : List Int) (n526 : Int) (l527 : Nat) (K : Ex → St → Option R) : evCode (env (keepOf kpt) (vsOf [])) (evFun (env (keepOf kpt) (vsOf [])) S4 T25 10) o14r1 14 1 3998 c14r1_4000 (St.mk (spread 40 0 [1] [AV.ptr 1 0]) [HB.live (Blk.ints .u64 xs525), HB.live (Blk.any [AV.int .i64 n526, AV.sl 0 0 l527 1])]) (kOut (env (keepOf kpt) (vsOf [])) 14 1 (Ev.keyOf c14r1_4000 * 1000 + 1) K) = bits_Check_j4_1 xs525 n526 l527 (fun x0 x1 => K (Ex.ret) (St.mk (spread 40 0 [2] [AV.bool x0]) [HB.live (Blk.ints .u64 x1)])) := by
  rw [bits_Check_j4_1_unf]; kernel_rfl

theorem p14r1_4000 : ∀ sp, o14r1 (Ev.keyOf c14r1_4000 * 1000) = some sp → ∀ (R : Type) (r : R) st (K : Ex → St → Option R), sp st R K = some r → evCode (env (keepOf kpt) (vsOf [])) (evFun (env (keepOf kpt) (vsOf [])) S4 T25 10) o14r1 14 1 3998 c14r1_4000 st (kOut (env (keepOf kpt) (vsOf [])) 14 1 (Ev.keyOf c14r1_4000 * 1000 + 1) K) = some r := by
    intro sp hsp R r st K h
    have h1 : o14r1 (Ev.keyOf c14r1_4000 * 1000) = some o14r1_4000 := by kernel_rfl
    obtain rfl := Option.some.inj (h1.symm.trans hsp)
    unfold o14r1_4000 at h
    obtain ⟨vs, hh, rfl, h2⟩ := pickM_some h
    unfold o14r1_4000_in at h2
    split at h2
    · exact (bits_Check_j4_1_eq _ _ _ K).trans h2
    · cases h2

theorem pc14r1 : ∀ x ∈ [(3998, false, c14r1_4000)], PieceOk (env (keepOf kpt) (vsOf [])) (evFun (env (keepOf kpt) (vsOf [])) S4 T25 10) o14r1 14 1 x := List.forall_mem_cons.2 ⟨p14r1_4000, fun _ h => nomatch h⟩

theorem bits_Check_r_eq {R : Type} (n521 : Int) (l522 : Nat) (xs523 : List Int) (K : AV → H → Option R) : evH (env (keepOf kpt) (vsOf [])) S4 T25 o14r1 10 14 [AV.agg (Blk.any [AV.int .i64 n521, AV.sl 0 0 l522 1])] [HB.live (Blk.ints .u64 xs523)] R K = bits_Check_r n521 l522 xs523 (fun x0 x1 => K (AV.bool x0) ([HB.live (Blk.ints .u64 x1)])) := by
  rw [bits_Check_r_unf]; kernel_rfl

noncomputable def hs14 : HSpec := fun args h _ K => match args, h with
  | [AV.agg (Blk.any [AV.int .i64 n521, AV.sl 0 0 l522 1])], [HB.live (Blk.ints .u64 xs523)] => bits_Check_r n521 l522 xs523 (fun x0 x1 => K (AV.bool x0) ([HB.live (Blk.ints .u64 x1)]))
  | _, _ => none

theorem hs14_nat : HNat hs14 := fun args h _ _ _ _ => by
  unfold hs14
  split
  · exact bits_Check_r_push _ _ _ (fun _ _ => rfl)
  · rfl

theorem hok14 : HSpecOk Try.prog (env (keepOf kpt) (vsOf [])) 14 hs14 :=
  HSpecOk.mk' hs14_nat (fun X args h m w us z h1 he g hr => by
    unfold hs14 at he
    split at he
    · exact evH_ok (env_types _ (vsOf [])) (env_funs _ (vsOf [])) S4_ok T25_ok (O := o14r1) o14r1_onat 10 14 1 (fun fn c h1 h2 => by
    have e : (env (keepOf kpt) (vsOf [])).F 14 = some Try.f14 := by kernel_rfl
    obtain rfl := Option.some.inj (e.symm.trans h1)
    obtain rfl := body_of h2
    exact OrcOk.of 4000 _ _ (show orcs o14r1 4000 (bodyOf Try.f14) = some [(3998, false, c14r1_4000)] by kernel_rfl) pc14r1) rfl ((bits_Check_r_eq _ _ _ _).trans he) g hr
    · cases he)

noncomputable def T14 : FuncId → Option HSpec := fun g => match g.beq 14 with | true => some hs14 | false => T25 g
theorem T14_ok : ∀ g sp, T14 g = some sp → HSpecOk Try.prog (env (keepOf kpt) (vsOf [])) g sp := fun g sp h => by
  unfold T14 at h
  split at h
  · rename_i hb; cases h; obtain rfl := Nat.eq_of_beq_eq_true hb; exact hok14
  · exact T25_ok g sp h

noncomputable def o16r1_6000_in {R : Type} (K : Ex → St → Option R) (vs : List AV) (hh : H) : Option R := match vs, hh with
  | [AV.int .i64 n534, AV.ptr 1 0], [HB.live (Blk.ints .u64 xs535), HB.live (Blk.any [AV.int .i64 n536, AV.sl 0 0 l537 1])] => bits_Get_j6_1 n534 xs535 n536 l537 (fun x0 x1 x2 => K (Ex.ret) (St.mk (spread 30 0 [4, 5] [AV.bool x0, AV.int .i64 x1]) [HB.live (Blk.ints .u64 x2)]))
  | _, _ => none
noncomputable def o16r1_6000 : PSpec := fun st _ K => pickM 30 [1, 2] st (o16r1_6000_in K)

theorem o16r1_6000_nat (st : St) (R S : Type) (K : Ex → St → Option R) (J : R → Option S) : (o16r1_6000 st R K).bind J = o16r1_6000 st S fun ex st => (K ex st).bind J := by
  unfold o16r1_6000
  refine pickM_push fun vs hh => ?_
  unfold o16r1_6000_in
  split
  · exact bits_Get_j6_1_push _ _ _ _ (fun _ _ _ => rfl)
  · rfl

noncomputable def o16r1 : Nat → Option PSpec := lkN [(6000, o16r1_6000)]

theorem o16r1_onat : ONat o16r1 := ONat.consT o16r1_6000_nat (ONat.nilT)

noncomputable def c16r1_6000 : Code := subC [1, 1] (bodyOf Try.f16)

theorem bits_Get_j6_1_eq {R : Type} (n534 : Int) (xs535 : List Int) (n536 : Int) (l537 : Nat) (K : Ex → St → Option R) : evCode (env (keepOf kpt) (vsOf [])) (evFun (env (keepOf kpt) (vsOf [])) S4 T14 10) o16r1 16 1 3998 c16r1_6000 (St.mk (spread 30 0 [1, 2] [AV.int .i64 n534, AV.ptr 1 0]) [HB.live (Blk.ints .u64 xs535), HB.live (Blk.any [AV.int .i64 n536, AV.sl 0 0 l537 1])]) (kOut (env (keepOf kpt) (vsOf [])) 16 1 (Ev.keyOf c16r1_6000 * 1000 + 1) K) = bits_Get_j6_1 n534 xs535 n536 l537 (fun x0 x1 x2 => K (Ex.ret) (St.mk (spread 30 0 [4, 5] [AV.bool x0, AV.int .i64 x1]) [HB.live (Blk.ints .u64 x2)])) := by
  rw [bits_Get_j6_1_unf]; kernel_rfl

theorem p16r1_6000 : ∀ sp, o16r1 (Ev.keyOf c16r1_6000 * 1000) = some sp → ∀ (R : Type) (r : R) st (K : Ex → St → Option R), sp st R K = some r → evCode (env (keepOf kpt) (vsOf [])) (evFun (env (keepOf kpt) (vsOf [])) S4 T14 10) o16r1 16 1 3998 c16r1_6000 st (kOut (env (keepOf kpt) (vsOf [])) 16 1 (Ev.keyOf c16r1_6000 * 1000 + 1) K) = some r := by
    intro sp hsp R r st K h
    have h1 : o16r1 (Ev.keyOf c16r1_6000 * 1000) = some o16r1_6000 := by kernel_rfl
    obtain rfl := Option.some.inj (h1.symm.trans hsp)
    unfold o16r1_6000 at h
    obtain ⟨vs, hh, rfl, h2⟩ := pickM_some h
    unfold o16r1_6000_in at h2
    split at h2
    · exact (bits_Get_j6_1_eq _ _ _ _ K).trans h2
    · cases h2

theorem pc16r1 : ∀ x ∈ [(3998, false, c16r1_6000)], PieceOk (env (keepOf kpt) (vsOf [])) (evFun (env (keepOf kpt) (vsOf [])) S4 T14 10) o16r1 16 1 x := List.forall_mem_cons.2 ⟨p16r1_6000, fun _ h => nomatch h⟩

theorem bits_Get_r_eq {R : Type} (n517 : Int) (l518 : Nat) (n519 : Int) (xs520 : List Int) (K : AV → H → Option R) : evH (env (keepOf kpt) (vsOf [])) S4 T14 o16r1 10 16 [AV.agg (Blk.any [AV.int .i64 n517, AV.sl 0 0 l518 1]), AV.int .i64 n519] [HB.live (Blk.ints .u64 xs520)] R K = bits_Get_r n517 l518 n519 xs520 (fun x0 x1 x2 => K (AV.tup [AV.bool x0, AV.int .i64 x1]) ([HB.live (Blk.ints .u64 x2)])) := by
  rw [bits_Get_r_unf]; kernel_rfl

noncomputable def hs16 : HSpec := fun args h _ K => match args, h with
  | [AV.agg (Blk.any [AV.int .i64 n517, AV.sl 0 0 l518 1]), AV.int .i64 n519], [HB.live (Blk.ints .u64 xs520)] => bits_Get_r n517 l518 n519 xs520 (fun x0 x1 x2 => K (AV.tup [AV.bool x0, AV.int .i64 x1]) ([HB.live (Blk.ints .u64 x2)]))
  | _, _ => none

theorem hs16_nat : HNat hs16 := fun args h _ _ _ _ => by
  unfold hs16
  split
  · exact bits_Get_r_push _ _ _ _ (fun _ _ _ => rfl)
  · rfl

theorem hok16 : HSpecOk Try.prog (env (keepOf kpt) (vsOf [])) 16 hs16 :=
  HSpecOk.mk' hs16_nat (fun X args h m w us z h1 he g hr => by
    unfold hs16 at he
    split at he
    · exact evH_ok (env_types _ (vsOf [])) (env_funs _ (vsOf [])) S4_ok T14_ok (O := o16r1) o16r1_onat 10 16 1 (fun fn c h1 h2 => by
    have e : (env (keepOf kpt) (vsOf [])).F 16 = some Try.f16 := by kernel_rfl
    obtain rfl := Option.some.inj (e.symm.trans h1)
    obtain rfl := body_of h2
    exact OrcOk.of 4000 _ _ (show orcs o16r1 4000 (bodyOf Try.f16) = some [(3998, false, c16r1_6000)] by kernel_rfl) pc16r1) rfl ((bits_Get_r_eq _ _ _ _ _).trans he) g hr
    · cases he)

noncomputable def T16 : FuncId → Option HSpec := fun g => match g.beq 16 with | true => some hs16 | false => T14 g
theorem T16_ok : ∀ g sp, T16 g = some sp → HSpecOk Try.prog (env (keepOf kpt) (vsOf [])) g sp := fun g sp h => by
  unfold T16 at h
  split at h
  · rename_i hb; cases h; obtain rfl := Nat.eq_of_beq_eq_true hb; exact hok16
  · exact T14_ok g sp h

theorem bits_Set_r_eq {R : Type} (n512 : Int) (l513 : Nat) (n514 : Int) (b515 : Bool) (xs516 : List Int) (K : AV → H → Option R) : evH (env (keepOf kpt) (vsOf [46])) S4 T16 (fun _ => none) 10 19 [AV.agg (Blk.any [AV.int .i64 n512, AV.sl 0 0 l513 1]), AV.int .i64 n514, AV.bool b515] [HB.live (Blk.ints .u64 xs516)] R K = bits_Set_r n512 l513 n514 b515 xs516 (fun x0 x1 x2 x3 => K (AV.tup [AV.agg (Blk.any [AV.int .i64 x0, AV.sl 0 0 x1 1]), AV.int .i64 x2]) ([HB.live (Blk.ints .u64 x3)])) (fun x0 x1 x2 x3 x4 => K (AV.tup [AV.agg (Blk.any [AV.int .i64 x0, AV.sl 1 0 x1 1]), AV.int .i64 x2]) ([HB.live (Blk.ints .u64 x3), HB.live (Blk.ints .u64 x4)])) := by
  rw [bits_Set_r_unf]; kernel_rfl

noncomputable def hs19 : HSpec := fun args h _ K => match args, h with
  | [AV.agg (Blk.any [AV.int .i64 n512, AV.sl 0 0 l513 1]), AV.int .i64 n514, AV.bool b515], [HB.live (Blk.ints .u64 xs516)] => bits_Set_r n512 l513 n514 b515 xs516 (fun x0 x1 x2 x3 => K (AV.tup [AV.agg (Blk.any [AV.int .i64 x0, AV.sl 0 0 x1 1]), AV.int .i64 x2]) ([HB.live (Blk.ints .u64 x3)])) (fun x0 x1 x2 x3 x4 => K (AV.tup [AV.agg (Blk.any [AV.int .i64 x0, AV.sl 1 0 x1 1]), AV.int .i64 x2]) ([HB.live (Blk.ints .u64 x3), HB.live (Blk.ints .u64 x4)]))
  | _, _ => none

theorem hs19_nat : HNat hs19 := fun args h _ _ _ _ => by
  unfold hs19
  split
  · exact bits_Set_r_push _ _ _ _ _ (fun _ _ _ _ => rfl) (fun _ _ _ _ _ => rfl)
  · rfl

theorem hok19 : HSpecOk Try.prog (env (keepOf kpt) (vsOf [])) 19 hs19 :=
  hspec_env (vs := vsOf [46]) _ <| HSpecOk.mk' hs19_nat (fun X args h m w us z h1 he g hr => by
    unfold hs19 at he
    split at he
    · exact evH_ok (env_types _ (vsOf [46])) (env_funs _ (vsOf [46])) (fun g sp h => spec_env _ (S4_ok g sp h)) (fun g hs h => hspec_env _ (T16_ok g hs h)) (O := (fun _ => none)) ONat.none 10 19 1 (fun _ _ _ _ => OrcOk.none _ _) rfl ((bits_Set_r_eq _ _ _ _ _ _).trans he) g hr
    · cases he)

noncomputable def T19 : FuncId → Option HSpec := fun g => match g.beq 19 with | true => some hs19 | false => T16 g
theorem T19_ok : ∀ g sp, T19 g = some sp → HSpecOk Try.prog (env (keepOf kpt) (vsOf [])) g sp := fun g sp h => by
  unfold T19 at h
  split at h
  · rename_i hb; cases h; obtain rfl := Nat.eq_of_beq_eq_true hb; exact hok19
  · exact T16_ok g sp h

theorem haystackref02_Words_eq {R : Type} (n570 : Int) (K : AV → Option R) : evSpec (env (keepOf kpt) (vsOf [])) S4 T19 (fun _ => none) 10 49 ([AV.int .i64 n570]) R K = haystackref02_Words n570 (fun x0 => K (AV.int .i64 x0)) := by
  rw [haystackref02_Words_unf]; kernel_rfl

noncomputable def sp49 : Ev.Spec := fun args _ K => match args with
  | ([AV.int .i64 n570]) => haystackref02_Words n570 (fun x0 => K (AV.int .i64 x0))
  | _ => none

theorem sp49_nat : SpecNat sp49 := fun args _ _ _ _ => by
  unfold sp49
  split
  · exact haystackref02_Words_push _ (fun _ => rfl)
  · rfl

theorem ok49 : SpecOk Try.prog (env (keepOf kpt) (vsOf [])) 49 sp49 :=
  SpecOk.of (evSpec_ok (env_types _ _) (env_funs _ _) S4_ok T19_ok (O := (fun _ => none)) ONat.none 10 49 (fun _ _ _ _ => OrcOk.none _ _)) sp49_nat (fun args z h => by
    unfold sp49 at h
    split at h
    · exact (haystackref02_Words_eq _ some).trans h
    · cases h)

noncomputable def S49 : FuncId → Option Ev.Spec := fun g => match g.beq 49 with | true => some sp49 | false => S4 g
theorem S49_ok : ∀ g sp, S49 g = some sp → SpecOk Try.prog (env (keepOf kpt) (vsOf [])) g sp := fun g sp h => by
  unfold S49 at h
  split at h
  · rename_i hb; cases h; obtain rfl := Nat.eq_of_beq_eq_true hb; exact ok49
  · exact S4_ok g sp h

noncomputable def o52_4400_in {R : Type} (K : Ex → St → Option R) (vs : List AV) (hh : H) : Option R := match vs, hh with
  | [AV.int .i64 n575, AV.int .u64 n576, AV.int .i64 n577], [] => haystackref01_Mask_l4 n575 n576 n577 (fun x0 => K (Ex.exit 0) (St.mk (spread 20 0 [3] [AV.int .u64 x0]) []))
  | _, _ => none
noncomputable def o52_4400 : PSpec := fun st _ K => pickM 20 [0, 3, 4] st (o52_4400_in K)

theorem o52_4400_nat (st : St) (R S : Type) (K : Ex → St → Option R) (J : R → Option S) : (o52_4400 st R K).bind J = o52_4400 st S fun ex st => (K ex st).bind J := by
  unfold o52_4400
  refine pickM_push fun vs hh => ?_
  unfold o52_4400_in
  split
  · exact haystackref01_Mask_l4_push _ _ _ (fun _ => rfl)
  · rfl

noncomputable def o52_6000_in {R : Type} (K : Ex → St → Option R) (vs : List AV) (hh : H) : Option R := match vs, hh with
  | [AV.int .i64 n578, AV.int .u64 n579, AV.int .i64 n580], [] => haystackref01_Mask_j6 n578 n579 n580 (fun x0 x1 x2 => K (Ex.normal) (St.mk (spread 20 0 [0, 3, 4] [AV.int .i64 x0, AV.int .u64 x1, AV.int .i64 x2]) []))
  | _, _ => none
noncomputable def o52_6000 : PSpec := fun st _ K => pickM 20 [0, 3, 4] st (o52_6000_in K)

theorem o52_6000_nat (st : St) (R S : Type) (K : Ex → St → Option R) (J : R → Option S) : (o52_6000 st R K).bind J = o52_6000 st S fun ex st => (K ex st).bind J := by
  unfold o52_6000
  refine pickM_push fun vs hh => ?_
  unfold o52_6000_in
  split
  · exact haystackref01_Mask_j6_push _ _ _ (fun _ _ _ => rfl)
  · rfl

noncomputable def o52 : Nat → Option PSpec := lkN [(4400, o52_4400), (6000, o52_6000)]

theorem o52_onat : ONat o52 := ONat.consT o52_4400_nat (ONat.consT o52_6000_nat (ONat.nilT))

noncomputable def c52_4400 : Code := subC [1, 1, 0, 1, 0, 0] (bodyOf Try.f52)

noncomputable def lp52_4400 {R : Type} (N : Nat) (st : St) (K : Ex → St → Option R) : Option R := evLoop (norm ((env (keepOf kpt) (vsOf [])).keep 52 (Ev.keyOf c52_4400 * 1000 + 400)) ([] : H).length) (evCode (env (keepOf kpt) (vsOf [])) (evFun (env (keepOf kpt) (vsOf [])) S49 T19 10) o52 52 ([] : H).length 3994 c52_4400) N st (kOut (env (keepOf kpt) (vsOf [])) 52 ([] : H).length (Ev.keyOf c52_4400 * 1000 + 401) K)

noncomputable def c52_6000 : Code := subC [1, 1, 0, 1, 0, 0, 1] (bodyOf Try.f52)

theorem haystackref01_Mask_j6_eq {R : Type} (n578 : Int) (n579 : Int) (n580 : Int) (K : Ex → St → Option R) : evCode (env (keepOf kpt) (vsOf [])) (evFun (env (keepOf kpt) (vsOf [])) S49 T19 10) o52 52 ([] : H).length 3993 c52_6000 (St.mk (spread 20 0 [0, 3, 4] [AV.int .i64 n578, AV.int .u64 n579, AV.int .i64 n580]) []) (kOut (env (keepOf kpt) (vsOf [])) 52 ([] : H).length (Ev.keyOf c52_6000 * 1000 + 1) K) = haystackref01_Mask_j6 n578 n579 n580 (fun x0 x1 x2 => K (Ex.normal) (St.mk (spread 20 0 [0, 3, 4] [AV.int .i64 x0, AV.int .u64 x1, AV.int .i64 x2]) [])) := by
  rw [haystackref01_Mask_j6_unf]; kernel_rfl

theorem haystackref01_Mask_l4_step {R : Type} (N : Nat) (n575 : Int) (n576 : Int) (n577 : Int) (K : Ex → St → Option R) : lp52_4400 (N + 1) (St.mk (spread 20 0 [0, 3, 4] [AV.int .i64 n575, AV.int .u64 n576, AV.int .i64 n577]) []) K = haystackref01_Mask_l4_T (fun n575 n576 n577 => lp52_4400 N (St.mk (spread 20 0 [0, 3, 4] [AV.int .i64 n575, AV.int .u64 n576, AV.int .i64 n577]) []) K) n575 n576 n577 (fun x0 => K (Ex.exit 0) (St.mk (spread 20 0 [3] [AV.int .u64 x0]) [])) := by kernel_rfl

theorem haystackref01_Mask_l4_L_eq {R : Type} : ∀ (N : Nat) (n575 : Int) (n576 : Int) (n577 : Int) (K : Ex → St → Option R), lp52_4400 N (St.mk (spread 20 0 [0, 3, 4] [AV.int .i64 n575, AV.int .u64 n576, AV.int .i64 n577]) []) K = haystackref01_Mask_l4_L (fun x0 => K (Ex.exit 0) (St.mk (spread 20 0 [3] [AV.int .u64 x0]) [])) N n575 n576 n577
  | 0, _, _, _, _ => rfl
  | N + 1, n575, n576, n577, K => by rw [haystackref01_Mask_l4_step]; simp only [haystackref01_Mask_l4_L_eq N]; rfl

theorem p52_4400 : ∀ sp, o52 (Ev.keyOf c52_4400 * 1000 + 400) = some sp → ∀ (R : Type) (r : R) st (K : Ex → St → Option R), sp st R K = some r → lp52_4400 NR st K = some r := by
    intro sp hsp R r st K h
    have h1 : o52 (Ev.keyOf c52_4400 * 1000 + 400) = some o52_4400 := by kernel_rfl
    obtain rfl := Option.some.inj (h1.symm.trans hsp)
    unfold o52_4400 at h
    obtain ⟨vs, hh, rfl, h2⟩ := pickM_some h
    unfold o52_4400_in at h2
    split at h2
    · exact (haystackref01_Mask_l4_L_eq NR _ _ _ K).trans (haystackref01_Mask_l4_unf _ _ _ (fun x0 => K (Ex.exit 0) (St.mk (spread 20 0 [3] [AV.int .u64 x0]) []))).symm |>.trans h2
    · cases h2

theorem p52_6000 : ∀ sp, o52 (Ev.keyOf c52_6000 * 1000) = some sp → ∀ (R : Type) (r : R) st (K : Ex → St → Option R), sp st R K = some r → evCode (env (keepOf kpt) (vsOf [])) (evFun (env (keepOf kpt) (vsOf [])) S49 T19 10) o52 52 ([] : H).length 3993 c52_6000 st (kOut (env (keepOf kpt) (vsOf [])) 52 ([] : H).length (Ev.keyOf c52_6000 * 1000 + 1) K) = some r := by
    intro sp hsp R r st K h
    have h1 : o52 (Ev.keyOf c52_6000 * 1000) = some o52_6000 := by kernel_rfl
    obtain rfl := Option.some.inj (h1.symm.trans hsp)
    unfold o52_6000 at h
    obtain ⟨vs, hh, rfl, h2⟩ := pickM_some h
    unfold o52_6000_in at h2
    split at h2
    · exact (haystackref01_Mask_j6_eq _ _ _ K).trans h2
    · cases h2

theorem pc52 : ∀ x ∈ [(3994, true, c52_4400), (3993, false, c52_6000)], PieceOk (env (keepOf kpt) (vsOf [])) (evFun (env (keepOf kpt) (vsOf [])) S49 T19 10) o52 52 ([] : H).length x := List.forall_mem_cons.2 ⟨p52_4400, List.forall_mem_cons.2 ⟨p52_6000, fun _ h => nomatch h⟩⟩

theorem haystackref01_Mask_eq {R : Type} (n574 : Int) (K : AV → Option R) : evSpec (env (keepOf kpt) (vsOf [])) S49 T19 o52 10 52 ([AV.int .i64 n574]) R K = haystackref01_Mask n574 (fun x0 => K (AV.int .u64 x0)) := by
  rw [haystackref01_Mask_unf]; kernel_rfl

noncomputable def sp52 : Ev.Spec := fun args _ K => match args with
  | ([AV.int .i64 n574]) => haystackref01_Mask n574 (fun x0 => K (AV.int .u64 x0))
  | _ => none

theorem sp52_nat : SpecNat sp52 := fun args _ _ _ _ => by
  unfold sp52
  split
  · exact haystackref01_Mask_push _ (fun _ => rfl)
  · rfl

theorem ok52 : SpecOk Try.prog (env (keepOf kpt) (vsOf [])) 52 sp52 :=
  SpecOk.of (evSpec_ok (env_types _ _) (env_funs _ _) S49_ok T19_ok (O := o52) o52_onat 10 52 (fun fn c h1 h2 => by
    have e : (env (keepOf kpt) (vsOf [])).F 52 = some Try.f52 := by kernel_rfl
    obtain rfl := Option.some.inj (e.symm.trans h1)
    obtain rfl := body_of h2
    exact OrcOk.of 4000 _ _ (show orcs o52 4000 (bodyOf Try.f52) = some [(3994, true, c52_4400), (3993, false, c52_6000)] by kernel_rfl) pc52)) sp52_nat (fun args z h => by
    unfold sp52 at h
    split at h
    · exact (haystackref01_Mask_eq _ some).trans h
    · cases h)

noncomputable def S52 : FuncId → Option Ev.Spec := fun g => match g.beq 52 with | true => some sp52 | false => S49 g
theorem S52_ok : ∀ g sp, S52 g = some sp → SpecOk Try.prog (env (keepOf kpt) (vsOf [])) g sp := fun g sp h => by
  unfold S52 at h
  split at h
  · rename_i hb; cases h; obtain rfl := Nat.eq_of_beq_eq_true hb; exact ok52
  · exact S49_ok g sp h

noncomputable def o27_4000_in {R : Type} (K : Ex → St → Option R) (vs : List AV) (hh : H) : Option R := match vs, hh with
  | [AV.ptr 0 0], [HB.live (Blk.any [AV.int .i64 n572, AV.fsl (Blk.ints .u64 xs573)])] => haystackref02_Check_j4 n572 xs573 (fun x0 => K (Ex.ret) (St.mk (spread 40 0 [2] [AV.bool x0]) []))
  | _, _ => none
noncomputable def o27_4000 : PSpec := fun st _ K => pickM 40 [1] st (o27_4000_in K)

theorem o27_4000_nat (st : St) (R S : Type) (K : Ex → St → Option R) (J : R → Option S) : (o27_4000 st R K).bind J = o27_4000 st S fun ex st => (K ex st).bind J := by
  unfold o27_4000
  refine pickM_push fun vs hh => ?_
  unfold o27_4000_in
  split
  · exact haystackref02_Check_j4_push _ _ (fun _ => rfl)
  · rfl

noncomputable def o27 : Nat → Option PSpec := lkN [(4000, o27_4000)]

theorem o27_onat : ONat o27 := ONat.consT o27_4000_nat (ONat.nilT)

noncomputable def c27_4000 : Code := subC [1, 1] (bodyOf Try.f27)

theorem haystackref02_Check_j4_eq {R : Type} (n572 : Int) (xs573 : List Int) (K : Ex → St → Option R) : evCode (env (keepOf kpt) (vsOf [])) (evFun (env (keepOf kpt) (vsOf [])) S52 T19 10) o27 27 ([] : H).length 3998 c27_4000 (St.mk (spread 40 0 [1] [AV.ptr 0 0]) [HB.live (Blk.any [AV.int .i64 n572, AV.fsl (Blk.ints .u64 xs573)])]) (kOut (env (keepOf kpt) (vsOf [])) 27 ([] : H).length (Ev.keyOf c27_4000 * 1000 + 1) K) = haystackref02_Check_j4 n572 xs573 (fun x0 => K (Ex.ret) (St.mk (spread 40 0 [2] [AV.bool x0]) [])) := by
  rw [haystackref02_Check_j4_unf]; kernel_rfl

theorem p27_4000 : ∀ sp, o27 (Ev.keyOf c27_4000 * 1000) = some sp → ∀ (R : Type) (r : R) st (K : Ex → St → Option R), sp st R K = some r → evCode (env (keepOf kpt) (vsOf [])) (evFun (env (keepOf kpt) (vsOf [])) S52 T19 10) o27 27 ([] : H).length 3998 c27_4000 st (kOut (env (keepOf kpt) (vsOf [])) 27 ([] : H).length (Ev.keyOf c27_4000 * 1000 + 1) K) = some r := by
    intro sp hsp R r st K h
    have h1 : o27 (Ev.keyOf c27_4000 * 1000) = some o27_4000 := by kernel_rfl
    obtain rfl := Option.some.inj (h1.symm.trans hsp)
    unfold o27_4000 at h
    obtain ⟨vs, hh, rfl, h2⟩ := pickM_some h
    unfold o27_4000_in at h2
    split at h2
    · exact (haystackref02_Check_j4_eq _ _ K).trans h2
    · cases h2

theorem pc27 : ∀ x ∈ [(3998, false, c27_4000)], PieceOk (env (keepOf kpt) (vsOf [])) (evFun (env (keepOf kpt) (vsOf [])) S52 T19 10) o27 27 ([] : H).length x := List.forall_mem_cons.2 ⟨p27_4000, fun _ h => nomatch h⟩

theorem haystackref02_Check_eq {R : Type} (n568 : Int) (xs569 : List Int) (K : AV → Option R) : evSpec (env (keepOf kpt) (vsOf [])) S52 T19 o27 10 27 ([AV.agg (Blk.any [AV.int .i64 n568, AV.fsl (Blk.ints .u64 xs569)])]) R K = haystackref02_Check n568 xs569 (fun x0 => K (AV.bool x0)) := by
  rw [haystackref02_Check_unf]; kernel_rfl

noncomputable def sp27 : Ev.Spec := fun args _ K => match args with
  | ([AV.agg (Blk.any [AV.int .i64 n568, AV.fsl (Blk.ints .u64 xs569)])]) => haystackref02_Check n568 xs569 (fun x0 => K (AV.bool x0))
  | _ => none

theorem sp27_nat : SpecNat sp27 := fun args _ _ _ _ => by
  unfold sp27
  split
  · exact haystackref02_Check_push _ _ (fun _ => rfl)
  · rfl

theorem ok27 : SpecOk Try.prog (env (keepOf kpt) (vsOf [])) 27 sp27 :=
  SpecOk.of (evSpec_ok (env_types _ _) (env_funs _ _) S52_ok T19_ok (O := o27) o27_onat 10 27 (fun fn c h1 h2 => by
    have e : (env (keepOf kpt) (vsOf [])).F 27 = some Try.f27 := by kernel_rfl
    obtain rfl := Option.some.inj (e.symm.trans h1)
    obtain rfl := body_of h2
    exact OrcOk.of 4000 _ _ (show orcs o27 4000 (bodyOf Try.f27) = some [(3998, false, c27_4000)] by kernel_rfl) pc27)) sp27_nat (fun args z h => by
    unfold sp27 at h
    split at h
    · exact (haystackref02_Check_eq _ _ some).trans h
    · cases h)

noncomputable def S27 : FuncId → Option Ev.Spec := fun g => match g.beq 27 with | true => some sp27 | false => S52 g
theorem S27_ok : ∀ g sp, S27 g = some sp → SpecOk Try.prog (env (keepOf kpt) (vsOf [])) g sp := fun g sp h => by
  unfold S27 at h
  split at h
  · rename_i hb; cases h; obtain rfl := Nat.eq_of_beq_eq_true hb; exact ok27
  · exact S52_ok g sp h

theorem haystackref02_put_r_eq {R : Type} (l608 : Nat) (n609 : Int) (b610 : Bool) (xs611 : List Int) (K : AV → H → Option R) : evH (env (keepOf kpt) (vsOf [])) S27 T19 (fun _ => none) 10 47 [AV.sl 0 0 l608 1, AV.int .i64 n609, AV.bool b610] [HB.live (Blk.ints .u64 xs611)] R K = haystackref02_put_r l608 n609 b610 xs611 (fun x0 => K (AV.tup []) ([HB.live (Blk.ints .u64 x0)])) := by
  rw [haystackref02_put_r_unf]; kernel_rfl

noncomputable def hs47 : HSpec := fun args h _ K => match args, h with
  | [AV.sl 0 0 l608 1, AV.int .i64 n609, AV.bool b610], [HB.live (Blk.ints .u64 xs611)] => haystackref02_put_r l608 n609 b610 xs611 (fun x0 => K (AV.tup []) ([HB.live (Blk.ints .u64 x0)]))
  | _, _ => none

theorem hs47_nat : HNat hs47 := fun args h _ _ _ _ => by
  unfold hs47
  split
  · exact haystackref02_put_r_push _ _ _ _ (fun _ => rfl)
  · rfl

theorem hok47 : HSpecOk Try.prog (env (keepOf kpt) (vsOf [])) 47 hs47 :=
  HSpecOk.mk' hs47_nat (fun X args h m w us z h1 he g hr => by
    unfold hs47 at he
    split at he
    · exact evH_ok (env_types _ (vsOf [])) (env_funs _ (vsOf [])) S27_ok T19_ok (O := (fun _ => none)) ONat.none 10 47 1 (fun _ _ _ _ => OrcOk.none _ _) rfl ((haystackref02_put_r_eq _ _ _ _ _).trans he) g hr
    · cases he)

noncomputable def T47 : FuncId → Option HSpec := fun g => match g.beq 47 with | true => some hs47 | false => T19 g
theorem T47_ok : ∀ g sp, T47 g = some sp → HSpecOk Try.prog (env (keepOf kpt) (vsOf [])) g sp := fun g sp h => by
  unfold T47 at h
  split at h
  · rename_i hb; cases h; obtain rfl := Nat.eq_of_beq_eq_true hb; exact hok47
  · exact T19_ok g sp h

noncomputable def o20_5000_in {R : Type} (K : Ex → St → Option R) (vs : List AV) (hh : H) : Option R := match vs, hh with
  | [AV.int .i64 n589, AV.bool b590, AV.ptr 0 0, AV.ptr 1 0, AV.bool b591], [HB.live (Blk.any [AV.int .i64 n592, AV.fsl (Blk.ints .u64 xs593)]), HB.live (Blk.any [AV.int .i64 n594, AV.esl])] => haystackref02_Set_j5 n589 b590 b591 n592 xs593 n594 (fun x0 x1 x2 => K (Ex.ret) (St.mk (spread 35 0 [6, 7] [AV.ptr 0 0, AV.int .i64 x0]) [HB.live (Blk.any [AV.int .i64 x1, AV.fsl (Blk.ints .u64 x2)])])) (fun x0 x1 x2 x3 x4 => K (Ex.normal) (St.mk (spread 35 0 [1, 2, 3, 6] [AV.int .i64 x0, AV.bool x1, AV.ptr 0 0, AV.ptr 1 0]) [HB.live (Blk.any [AV.int .i64 x2, AV.fsl (Blk.ints .u64 x3)]), HB.live (Blk.any [AV.int .i64 x4, AV.esl])]))
  | _, _ => none
noncomputable def o20_5000 : PSpec := fun st _ K => pickM 35 [1, 2, 3, 6, 20] st (o20_5000_in K)

theorem o20_5000_nat (st : St) (R S : Type) (K : Ex → St → Option R) (J : R → Option S) : (o20_5000 st R K).bind J = o20_5000 st S fun ex st => (K ex st).bind J := by
  unfold o20_5000
  refine pickM_push fun vs hh => ?_
  unfold o20_5000_in
  split
  · exact haystackref02_Set_j5_push _ _ _ _ _ _ (fun _ _ _ => rfl) (fun _ _ _ _ _ => rfl)
  · rfl

noncomputable def o20_6000_in {R : Type} (K : Ex → St → Option R) (vs : List AV) (hh : H) : Option R := match vs, hh with
  | [AV.int .i64 n603, AV.bool b604, AV.ptr 0 0, AV.ptr 1 0], [HB.live (Blk.any [AV.int .i64 n605, AV.fsl (Blk.ints .u64 xs606)]), HB.live (Blk.any [AV.int .i64 n607, AV.esl])] => haystackref02_Set_j6 n603 b604 n605 xs606 n607 (fun x0 x1 x2 x3 => K (Ex.ret) (St.mk (spread 35 0 [6, 7] [AV.ptr 0 0, AV.int .i64 x0]) [HB.live (Blk.any [AV.int .i64 x1, AV.sl 1 0 x2 1]), HB.live (Blk.ints .u64 x3)]))
  | _, _ => none
noncomputable def o20_6000 : PSpec := fun st _ K => pickM 35 [1, 2, 3, 6] st (o20_6000_in K)

theorem o20_6000_nat (st : St) (R S : Type) (K : Ex → St → Option R) (J : R → Option S) : (o20_6000 st R K).bind J = o20_6000 st S fun ex st => (K ex st).bind J := by
  unfold o20_6000
  refine pickM_push fun vs hh => ?_
  unfold o20_6000_in
  split
  · exact haystackref02_Set_j6_push _ _ _ _ _ (fun _ _ _ _ => rfl)
  · rfl

noncomputable def o20 : Nat → Option PSpec := lkN [(5000, o20_5000), (6000, o20_6000)]

theorem o20_onat : ONat o20 := ONat.consT o20_5000_nat (ONat.consT o20_6000_nat (ONat.nilT))

noncomputable def c20_6000 : Code := subC [1, 1, 1] (bodyOf Try.f20)

noncomputable def c20_5000 : Code := subC [1, 1, 0, 1] (bodyOf Try.f20)

theorem haystackref02_Set_j5_eq {R : Type} (n589 : Int) (b590 : Bool) (b591 : Bool) (n592 : Int) (xs593 : List Int) (n594 : Int) (K : Ex → St → Option R) : evCode (env (keepOf kpt) (vsOf [])) (evFun (env (keepOf kpt) (vsOf [])) S27 T47 10) o20 20 ([] : H).length 3996 c20_5000 (St.mk (spread 35 0 [1, 2, 3, 6, 20] [AV.int .i64 n589, AV.bool b590, AV.ptr 0 0, AV.ptr 1 0, AV.bool b591]) [HB.live (Blk.any [AV.int .i64 n592, AV.fsl (Blk.ints .u64 xs593)]), HB.live (Blk.any [AV.int .i64 n594, AV.esl])]) (kOut (env (keepOf kpt) (vsOf [])) 20 ([] : H).length (Ev.keyOf c20_5000 * 1000 + 1) K) = haystackref02_Set_j5 n589 b590 b591 n592 xs593 n594 (fun x0 x1 x2 => K (Ex.ret) (St.mk (spread 35 0 [6, 7] [AV.ptr 0 0, AV.int .i64 x0]) [HB.live (Blk.any [AV.int .i64 x1, AV.fsl (Blk.ints .u64 x2)])])) (fun x0 x1 x2 x3 x4 => K (Ex.normal) (St.mk (spread 35 0 [1, 2, 3, 6] [AV.int .i64 x0, AV.bool x1, AV.ptr 0 0, AV.ptr 1 0]) [HB.live (Blk.any [AV.int .i64 x2, AV.fsl (Blk.ints .u64 x3)]), HB.live (Blk.any [AV.int .i64 x4, AV.esl])])) := by
  rw [haystackref02_Set_j5_unf]; kernel_rfl

theorem haystackref02_Set_j6_eq {R : Type} (n603 : Int) (b604 : Bool) (n605 : Int) (xs606 : List Int) (n607 : Int) (K : Ex → St → Option R) : evCode (env (keepOf kpt) (vsOf [])) (evFun (env (keepOf kpt) (vsOf [])) S27 T47 10) o20 20 ([] : H).length 3997 c20_6000 (St.mk (spread 35 0 [1, 2, 3, 6] [AV.int .i64 n603, AV.bool b604, AV.ptr 0 0, AV.ptr 1 0]) [HB.live (Blk.any [AV.int .i64 n605, AV.fsl (Blk.ints .u64 xs606)]), HB.live (Blk.any [AV.int .i64 n607, AV.esl])]) (kOut (env (keepOf kpt) (vsOf [])) 20 ([] : H).length (Ev.keyOf c20_6000 * 1000 + 1) K) = haystackref02_Set_j6 n603 b604 n605 xs606 n607 (fun x0 x1 x2 x3 => K (Ex.ret) (St.mk (spread 35 0 [6, 7] [AV.ptr 0 0, AV.int .i64 x0]) [HB.live (Blk.any [AV.int .i64 x1, AV.sl 1 0 x2 1]), HB.live (Blk.ints .u64 x3)])) := by
  rw [haystackref02_Set_j6_unf]; kernel_rfl

theorem p20_6000 : ∀ sp, o20 (Ev.keyOf c20_6000 * 1000) = some sp → ∀ (R : Type) (r : R) st (K : Ex → St → Option R), sp st R K = some r → evCode (env (keepOf kpt) (vsOf [])) (evFun (env (keepOf kpt) (vsOf [])) S27 T47 10) o20 20 ([] : H).length 3997 c20_6000 st (kOut (env (keepOf kpt) (vsOf [])) 20 ([] : H).length (Ev.keyOf c20_6000 * 1000 + 1) K) = some r := by
    intro sp hsp R r st K h
    have h1 : o20 (Ev.keyOf c20_6000 * 1000) = some o20_6000 := by kernel_rfl
    obtain rfl := Option.some.inj (h1.symm.trans hsp)
    unfold o20_6000 at h
    obtain ⟨vs, hh, rfl, h2⟩ := pickM_some h
    unfold o20_6000_in at h2
    split at h2
    · exact (haystackref02_Set_j6_eq _ _ _ _ _ K).trans h2
    · cases h2

theorem p20_5000 : ∀ sp, o20 (Ev.keyOf c20_5000 * 1000) = some sp → ∀ (R : Type) (r : R) st (K : Ex → St → Option R), sp st R K = some r → evCode (env (keepOf kpt) (vsOf [])) (evFun (env (keepOf kpt) (vsOf [])) S27 T47 10) o20 20 ([] : H).length 3996 c20_5000 st (kOut (env (keepOf kpt) (vsOf [])) 20 ([] : H).length (Ev.keyOf c20_5000 * 1000 + 1) K) = some r := by
    intro sp hsp R r st K h
    have h1 : o20 (Ev.keyOf c20_5000 * 1000) = some o20_5000 := by kernel_rfl
    obtain rfl := Option.some.inj (h1.symm.trans hsp)
    unfold o20_5000 at h
    obtain ⟨vs, hh, rfl, h2⟩ := pickM_some h
    unfold o20_5000_in at h2
    split at h2
    · exact (haystackref02_Set_j5_eq _ _ _ _ _ _ K).trans h2
    · cases h2

theorem pc20 : ∀ x ∈ [(3997, false, c20_6000), (3996, false, c20_5000)], PieceOk (env (keepOf kpt) (vsOf [])) (evFun (env (keepOf kpt) (vsOf [])) S27 T47 10) o20 20 ([] : H).length x := List.forall_mem_cons.2 ⟨p20_6000, List.forall_mem_cons.2 ⟨p20_5000, fun _ h => nomatch h⟩⟩

theorem haystackref02_Set_eq {R : Type} (n564 : Int) (xs565 : List Int) (n566 : Int) (b567 : Bool) (K : AV → Option R) : evSpec (env (keepOf kpt) (vsOf [])) S27 T47 o20 10 20 ([AV.agg (Blk.any [AV.int .i64 n564, AV.fsl (Blk.ints .u64 xs565)]), AV.int .i64 n566, AV.bool b567]) R K = haystackref02_Set n564 xs565 n566 b567 (fun x0 x1 x2 => K (AV.tup [AV.agg (Blk.any [AV.int .i64 x0, AV.fsl (Blk.ints .u64 x1)]), AV.int .i64 x2])) := by
  rw [haystackref02_Set_unf]; kernel_rfl

noncomputable def sp20 : Ev.Spec := fun args _ K => match args with
  | ([AV.agg (Blk.any [AV.int .i64 n564, AV.fsl (Blk.ints .u64 xs565)]), AV.int .i64 n566, AV.bool b567]) => haystackref02_Set n564 xs565 n566 b567 (fun x0 x1 x2 => K (AV.tup [AV.agg (Blk.any [AV.int .i64 x0, AV.fsl (Blk.ints .u64 x1)]), AV.int .i64 x2]))
  | _ => none

theorem sp20_nat : SpecNat sp20 := fun args _ _ _ _ => by
  unfold sp20
  split
  · exact haystackref02_Set_push _ _ _ _ (fun _ _ _ => rfl)
  · rfl

theorem ok20 : SpecOk Try.prog (env (keepOf kpt) (vsOf [])) 20 sp20 :=
  SpecOk.of (evSpec_ok (env_types _ _) (env_funs _ _) S27_ok T47_ok (O := o20) o20_onat 10 20 (fun fn c h1 h2 => by
    have e : (env (keepOf kpt) (vsOf [])).F 20 = some Try.f20 := by kernel_rfl
    obtain rfl := Option.some.inj (e.symm.trans h1)
    obtain rfl := body_of h2
    exact OrcOk.of 4000 _ _ (show orcs o20 4000 (bodyOf Try.f20) = some [(3997, false, c20_6000), (3996, false, c20_5000)] by kernel_rfl) pc20)) sp20_nat (fun args z h => by
    unfold sp20 at h
    split at h
    · exact (haystackref02_Set_eq _ _ _ _ some).trans h
    · cases h)

noncomputable def S20 : FuncId → Option Ev.Spec := fun g => match g.beq 20 with | true => some sp20 | false => S27 g
theorem S20_ok : ∀ g sp, S20 g = some sp → SpecOk Try.prog (env (keepOf kpt) (vsOf [])) g sp := fun g sp h => by
  unfold S20 at h
  split at h
  · rename_i hb; cases h; obtain rfl := Nat.eq_of_beq_eq_true hb; exact ok20
  · exact S27_ok g sp h

noncomputable def o21r1_3000_in {R : Type} (K : Ex → St → Option R) (vs : List AV) (hh : H) : Option R := match vs, hh with
  | [AV.int .u64 n641, AV.int .i64 n642, AV.ptr 1 0, AV.ptr 2 0, AV.bool b643], [HB.live (Blk.ints .u64 xs644), HB.live (Blk.any [AV.int .i64 n645, AV.sl 0 0 l646 1]), HB.live (Blk.any [AV.int .i64 n647, AV.esl])] => bits_Append_j3_1 n641 n642 b643 xs644 n645 l646 n647 (fun x0 x1 x2 x3 => K (Ex.ret) (St.mk (spread 43 0 [6, 7] [AV.ptr 1 0, AV.int .i64 x0]) [HB.live (Blk.ints .u64 x1), HB.live (Blk.any [AV.int .i64 x2, AV.sl 0 0 x3 1])])) (fun x0 x1 x2 x3 x4 x5 => K (Ex.normal) (St.mk (spread 43 0 [1, 2, 3, 6] [AV.int .u64 x0, AV.int .i64 x1, AV.ptr 1 0, AV.ptr 2 0]) [HB.live (Blk.ints .u64 x2), HB.live (Blk.any [AV.int .i64 x3, AV.sl 0 0 x4 1]), HB.live (Blk.any [AV.int .i64 x5, AV.esl])]))
  | _, _ => none
noncomputable def o21r1_3000 : PSpec := fun st _ K => pickM 43 [1, 2, 3, 6, 26] st (o21r1_3000_in K)

theorem o21r1_3000_nat (st : St) (R S : Type) (K : Ex → St → Option R) (J : R → Option S) : (o21r1_3000 st R K).bind J = o21r1_3000 st S fun ex st => (K ex st).bind J := by
  unfold o21r1_3000
  refine pickM_push fun vs hh => ?_
  unfold o21r1_3000_in
  split
  · exact bits_Append_j3_1_push _ _ _ _ _ _ _ (fun _ _ _ _ => rfl) (fun _ _ _ _ _ _ => rfl)
  · rfl

noncomputable def o21r1_4000_in {R : Type} (K : Ex → St → Option R) (vs : List AV) (hh : H) : Option R := match vs, hh with
  | [AV.int .u64 n658, AV.int .i64 n659, AV.ptr 1 0, AV.ptr 2 0], [HB.live (Blk.ints .u64 xs660), HB.live (Blk.any [AV.int .i64 n661, AV.sl 0 0 l662 1]), HB.live (Blk.any [AV.int .i64 n663, AV.esl])] => bits_Append_j4_1 n658 n659 xs660 n661 l662 n663 (fun x0 x1 x2 x3 x4 => K (Ex.ret) (St.mk (spread 43 0 [6, 7] [AV.ptr 1 0, AV.int .i64 x0]) [HB.live (Blk.ints .u64 x1), HB.live (Blk.any [AV.int .i64 x2, AV.sl 2 0 x3 1]), HB.live (Blk.ints .u64 x4)]))
  | _, _ => none
noncomputable def o21r1_4000 : PSpec := fun st _ K => pickM 43 [1, 2, 3, 6] st (o21r1_4000_in K)

theorem o21r1_4000_nat (st : St) (R S : Type) (K : Ex → St → Option R) (J : R → Option S) : (o21r1_4000 st R K).bind J = o21r1_4000 st S fun ex st => (K ex st).bind J := by
  unfold o21r1_4000
  refine pickM_push fun vs hh => ?_
  unfold o21r1_4000_in
  split
  · exact bits_Append_j4_1_push _ _ _ _ _ _ (fun _ _ _ _ _ => rfl)
  · rfl

noncomputable def o21r1 : Nat → Option PSpec := lkN [(3000, o21r1_3000), (4000, o21r1_4000)]

theorem o21r1_onat : ONat o21r1 := ONat.consT o21r1_3000_nat (ONat.consT o21r1_4000_nat (ONat.nilT))

noncomputable def c21r1_4000 : Code := subC [1, 1] (bodyOf Try.f21)

noncomputable def c21r1_3000 : Code := subC [1, 0, 1] (bodyOf Try.f21)

theorem bits_Append_j3_1_eq {R : Type} (n641 : Int) (n642 : Int) (b643 : Bool) (xs644 : List Int) (n645 : Int) (l646 : Nat) (n647 : Int) (K : Ex → St → Option R) : evCode (env (keepOf kpt) (vsOf [46])) (evFun (env (keepOf kpt) (vsOf [46])) S20 T47 10) o21r1 21 1 3997 c21r1_3000 (St.mk (spread 43 0 [1, 2, 3, 6, 26] [AV.int .u64 n641, AV.int .i64 n642, AV.ptr 1 0, AV.ptr 2 0, AV.bool b643]) [HB.live (Blk.ints .u64 xs644), HB.live (Blk.any [AV.int .i64 n645, AV.sl 0 0 l646 1]), HB.live (Blk.any [AV.int .i64 n647, AV.esl])]) (kOut (env (keepOf kpt) (vsOf [46])) 21 1 (Ev.keyOf c21r1_3000 * 1000 + 1) K) = bits_Append_j3_1 n641 n642 b643 xs644 n645 l646 n647 (fun x0 x1 x2 x3 => K (Ex.ret) (St.mk (spread 43 0 [6, 7] [AV.ptr 1 0, AV.int .i64 x0]) [HB.live (Blk.ints .u64 x1), HB.live (Blk.any [AV.int .i64 x2, AV.sl 0 0 x3 1])])) (fun x0 x1 x2 x3 x4 x5 => K (Ex.normal) (St.mk (spread 43 0 [1, 2, 3, 6] [AV.int .u64 x0, AV.int .i64 x1, AV.ptr 1 0, AV.ptr 2 0]) [HB.live (Blk.ints .u64 x2), HB.live (Blk.any [AV.int .i64 x3, AV.sl 0 0 x4 1]), HB.live (Blk.any [AV.int .i64 x5, AV.esl])])) := by
  rw [bits_Append_j3_1_unf]; kernel_rfl

theorem bits_Append_j4_1_eq {R : Type} (n658 : Int) (n659 : Int) (xs660 : List Int) (n661 : Int) (l662 : Nat) (n663 : Int) (K : Ex → St → Option R) : evCode (env (keepOf kpt) (vsOf [46])) (evFun (env (keepOf kpt) (vsOf [46])) S20 T47 10) o21r1 21 1 3998 c21r1_4000 (St.mk (spread 43 0 [1, 2, 3, 6] [AV.int .u64 n658, AV.int .i64 n659, AV.ptr 1 0, AV.ptr 2 0]) [HB.live (Blk.ints .u64 xs660), HB.live (Blk.any [AV.int .i64 n661, AV.sl 0 0 l662 1]), HB.live (Blk.any [AV.int .i64 n663, AV.esl])]) (kOut (env (keepOf kpt) (vsOf [46])) 21 1 (Ev.keyOf c21r1_4000 * 1000 + 1) K) = bits_Append_j4_1 n658 n659 xs660 n661 l662 n663 (fun x0 x1 x2 x3 x4 => K (Ex.ret) (St.mk (spread 43 0 [6, 7] [AV.ptr 1 0, AV.int .i64 x0]) [HB.live (Blk.ints .u64 x1), HB.live (Blk.any [AV.int .i64 x2, AV.sl 2 0 x3 1]), HB.live (Blk.ints .u64 x4)])) := by
  rw [bits_Append_j4_1_unf]; kernel_rfl

theorem p21r1_4000 : ∀ sp, o21r1 (Ev.keyOf c21r1_4000 * 1000) = some sp → ∀ (R : Type) (r : R) st (K : Ex → St → Option R), sp st R K = some r → evCode (env (keepOf kpt) (vsOf [46])) (evFun (env (keepOf kpt) (vsOf [46])) S20 T47 10) o21r1 21 1 3998 c21r1_4000 st (kOut (env (keepOf kpt) (vsOf [46])) 21 1 (Ev.keyOf c21r1_4000 * 1000 + 1) K) = some r := by
    intro sp hsp R r st K h
    have h1 : o21r1 (Ev.keyOf c21r1_4000 * 1000) = some o21r1_4000 := by kernel_rfl
    obtain rfl := Option.some.inj (h1.symm.trans hsp)
    unfold o21r1_4000 at h
    obtain ⟨vs, hh, rfl, h2⟩ := pickM_some h
    unfold o21r1_4000_in at h2
    split at h2
    · exact (bits_Append_j4_1_eq _ _ _ _ _ _ K).trans h2
    · cases h2

theorem p21r1_3000 : ∀ sp, o21r1 (Ev.keyOf c21r1_3000 * 1000) = some sp → ∀ (R : Type) (r : R) st (K : Ex → St → Option R), sp st R K = some r → evCode (env (keepOf kpt) (vsOf [46])) (evFun (env (keepOf kpt) (vsOf [46])) S20 T47 10) o21r1 21 1 3997 c21r1_3000 st (kOut (env (keepOf kpt) (vsOf [46])) 21 1 (Ev.keyOf c21r1_3000 * 1000 + 1) K) = some r := by
    intro sp hsp R r st K h
    have h1 : o21r1 (Ev.keyOf c21r1_3000 * 1000) = some o21r1_3000 := by kernel_rfl
    obtain rfl := Option.some.inj (h1.symm.trans hsp)
    unfold o21r1_3000 at h
    obtain ⟨vs, hh, rfl, h2⟩ := pickM_some h
    unfold o21r1_3000_in at h2
    split at h2
    · exact (bits_Append_j3_1_eq _ _ _ _ _ _ _ K).trans h2
    · cases h2

theorem pc21r1 : ∀ x ∈ [(3998, false, c21r1_4000), (3997, false, c21r1_3000)], PieceOk (env (keepOf kpt) (vsOf [46])) (evFun (env (keepOf kpt) (vsOf [46])) S20 T47 10) o21r1 21 1 x := List.forall_mem_cons.2 ⟨p21r1_4000, List.forall_mem_cons.2 ⟨p21r1_3000, fun _ h => nomatch h⟩⟩

theorem bits_Append_r_eq {R : Type} (n634 : Int) (l635 : Nat) (n636 : Int) (n637 : Int) (xs638 : List Int) (K : AV → H → Option R) : evH (env (keepOf kpt) (vsOf [46])) S20 T47 o21r1 10 21 [AV.agg (Blk.any [AV.int .i64 n634, AV.sl 0 0 l635 1]), AV.int .u64 n636, AV.int .i64 n637] [HB.live (Blk.ints .u64 xs638)] R K = bits_Append_r n634 l635 n636 n637 xs638 (fun x0 x1 x2 x3 => K (AV.tup [AV.agg (Blk.any [AV.int .i64 x0, AV.sl 0 0 x1 1]), AV.int .i64 x2]) ([HB.live (Blk.ints .u64 x3)])) (fun x0 x1 x2 x3 x4 => K (AV.tup [AV.agg (Blk.any [AV.int .i64 x0, AV.sl 1 0 x1 1]), AV.int .i64 x2]) ([HB.live (Blk.ints .u64 x3), HB.live (Blk.ints .u64 x4)])) := by
  rw [bits_Append_r_unf]; kernel_rfl

noncomputable def hs21 : HSpec := fun args h _ K => match args, h with
  | [AV.agg (Blk.any [AV.int .i64 n634, AV.sl 0 0 l635 1]), AV.int .u64 n636, AV.int .i64 n637], [HB.live (Blk.ints .u64 xs638)] => bits_Append_r n634 l635 n636 n637 xs638 (fun x0 x1 x2 x3 => K (AV.tup [AV.agg (Blk.any [AV.int .i64 x0, AV.sl 0 0 x1 1]), AV.int .i64 x2]) ([HB.live (Blk.ints .u64 x3)])) (fun x0 x1 x2 x3 x4 => K (AV.tup [AV.agg (Blk.any [AV.int .i64 x0, AV.sl 1 0 x1 1]), AV.int .i64 x2]) ([HB.live (Blk.ints .u64 x3), HB.live (Blk.ints .u64 x4)]))
  | _, _ => none

theorem hs21_nat : HNat hs21 := fun args h _ _ _ _ => by
  unfold hs21
  split
  · exact bits_Append_r_push _ _ _ _ _ (fun _ _ _ _ => rfl) (fun _ _ _ _ _ => rfl)
  · rfl

theorem hok21 : HSpecOk Try.prog (env (keepOf kpt) (vsOf [])) 21 hs21 :=
  hspec_env (vs := vsOf [46]) _ <| HSpecOk.mk' hs21_nat (fun X args h m w us z h1 he g hr => by
    unfold hs21 at he
    split at he
    · exact evH_ok (env_types _ (vsOf [46])) (env_funs _ (vsOf [46])) (fun g sp h => spec_env _ (S20_ok g sp h)) (fun g hs h => hspec_env _ (T47_ok g hs h)) (O := o21r1) o21r1_onat 10 21 1 (fun fn c h1 h2 => by
    have e : (env (keepOf kpt) (vsOf [46])).F 21 = some Try.f21 := by kernel_rfl
    obtain rfl := Option.some.inj (e.symm.trans h1)
    obtain rfl := body_of h2
    exact OrcOk.of 4000 _ _ (show orcs o21r1 4000 (bodyOf Try.f21) = some [(3998, false, c21r1_4000), (3997, false, c21r1_3000)] by kernel_rfl) pc21r1) rfl ((bits_Append_r_eq _ _ _ _ _ _).trans he) g hr
    · cases he)

noncomputable def T21 : FuncId → Option HSpec := fun g => match g.beq 21 with | true => some hs21 | false => T47 g
theorem T21_ok : ∀ g sp, T21 g = some sp → HSpecOk Try.prog (env (keepOf kpt) (vsOf [])) g sp := fun g sp h => by
  unfold T21 at h
  split at h
  · rename_i hb; cases h; obtain rfl := Nat.eq_of_beq_eq_true hb; exact hok21
  · exact T47_ok g sp h

noncomputable def o22_3000_in {R : Type} (K : Ex → St → Option R) (vs : List AV) (hh : H) : Option R := match vs, hh with
  | [AV.int .u64 n729, AV.int .i64 n730, AV.ptr 0 0, AV.ptr 1 0, AV.bool b731], [HB.live (Blk.any [AV.int .i64 n732, AV.fsl (Blk.ints .u64 xs733)]), HB.live (Blk.any [AV.int .i64 n734, AV.esl])] => haystackref02_Append_j3 n729 n730 b731 n732 xs733 n734 (fun x0 x1 x2 => K (Ex.ret) (St.mk (spread 69 0 [6, 7] [AV.ptr 0 0, AV.int .i64 x0]) [HB.live (Blk.any [AV.int .i64 x1, AV.fsl (Blk.ints .u64 x2)])])) (fun x0 x1 x2 x3 x4 => K (Ex.normal) (St.mk (spread 69 0 [1, 2, 3, 6] [AV.int .u64 x0, AV.int .i64 x1, AV.ptr 0 0, AV.ptr 1 0]) [HB.live (Blk.any [AV.int .i64 x2, AV.fsl (Blk.ints .u64 x3)]), HB.live (Blk.any [AV.int .i64 x4, AV.esl])]))
  | _, _ => none
noncomputable def o22_3000 : PSpec := fun st _ K => pickM 69 [1, 2, 3, 6, 27] st (o22_3000_in K)

theorem o22_3000_nat (st : St) (R S : Type) (K : Ex → St → Option R) (J : R → Option S) : (o22_3000 st R K).bind J = o22_3000 st S fun ex st => (K ex st).bind J := by
  unfold o22_3000
  refine pickM_push fun vs hh => ?_
  unfold o22_3000_in
  split
  · exact haystackref02_Append_j3_push _ _ _ _ _ _ (fun _ _ _ => rfl) (fun _ _ _ _ _ => rfl)
  · rfl

noncomputable def o22_4000_in {R : Type} (K : Ex → St → Option R) (vs : List AV) (hh : H) : Option R := match vs, hh with
  | [AV.int .u64 n743, AV.int .i64 n744, AV.ptr 0 0, AV.ptr 1 0], [HB.live (Blk.any [AV.int .i64 n745, AV.fsl (Blk.ints .u64 xs746)]), HB.live (Blk.any [AV.int .i64 n747, AV.esl])] => haystackref02_Append_j4 n743 n744 n745 xs746 n747 (fun x0 x1 x2 x3 => K (Ex.ret) (St.mk (spread 69 0 [6, 7] [AV.ptr 0 0, AV.int .i64 x0]) [HB.live (Blk.any [AV.int .i64 x1, AV.sl 1 0 x2 1]), HB.live (Blk.ints .u64 x3)]))
  | _, _ => none
noncomputable def o22_4000 : PSpec := fun st _ K => pickM 69 [1, 2, 3, 6] st (o22_4000_in K)

theorem o22_4000_nat (st : St) (R S : Type) (K : Ex → St → Option R) (J : R → Option S) : (o22_4000 st R K).bind J = o22_4000 st S fun ex st => (K ex st).bind J := by
  unfold o22_4000
  refine pickM_push fun vs hh => ?_
  unfold o22_4000_in
  split
  · exact haystackref02_Append_j4_push _ _ _ _ _ (fun _ _ _ _ => rfl)
  · rfl

noncomputable def o22_5400_in {R : Type} (K : Ex → St → Option R) (vs : List AV) (hh : H) : Option R := match vs, hh with
  | [AV.int .u64 n748, AV.int .i64 n749, AV.ptr 0 0, AV.ptr 1 0, AV.ptr 2 0], [HB.live (Blk.any [AV.int .i64 n750, AV.fsl (Blk.ints .u64 xs751)]), HB.live (Blk.any [AV.int .i64 n752, AV.esl]), HB.live (Blk.any [AV.int .i64 n753, AV.sl 3 0 l754 1]), HB.live (Blk.ints .u64 xs755)] => haystackref02_Append_l5 n748 n749 n750 xs751 n752 n753 l754 xs755 (fun x0 x1 x2 x3 x4 x5 x6 x7 => K (Ex.exit 0) (St.mk (spread 69 0 [1, 2, 3, 6, 8] [AV.int .u64 x0, AV.int .i64 x1, AV.ptr 0 0, AV.ptr 1 0, AV.ptr 2 0]) [HB.live (Blk.any [AV.int .i64 x2, AV.fsl (Blk.ints .u64 x3)]), HB.live (Blk.any [AV.int .i64 x4, AV.esl]), HB.live (Blk.any [AV.int .i64 x5, AV.sl 3 0 x6 1]), HB.live (Blk.ints .u64 x7)]))
  | _, _ => none
noncomputable def o22_5400 : PSpec := fun st _ K => pickM 69 [1, 2, 3, 6, 8] st (o22_5400_in K)

theorem o22_5400_nat (st : St) (R S : Type) (K : Ex → St → Option R) (J : R → Option S) : (o22_5400 st R K).bind J = o22_5400 st S fun ex st => (K ex st).bind J := by
  unfold o22_5400
  refine pickM_push fun vs hh => ?_
  unfold o22_5400_in
  split
  · exact haystackref02_Append_l5_push _ _ _ _ _ _ _ _ (fun _ _ _ _ _ _ _ _ => rfl)
  · rfl

noncomputable def o22_8400_in {R : Type} (K : Ex → St → Option R) (vs : List AV) (hh : H) : Option R := match vs, hh with
  | [AV.int .u64 n766, AV.int .i64 n767, AV.ptr 0 0, AV.ptr 1 0, AV.ptr 2 0, AV.int .i64 n768], [HB.live (Blk.any [AV.int .i64 n769, AV.fsl (Blk.ints .u64 xs770)]), HB.live (Blk.any [AV.int .i64 n771, AV.esl]), HB.live (Blk.any [AV.int .i64 n772, AV.sl 3 0 l773 1]), HB.live (Blk.ints .u64 xs774)] => haystackref02_Append_l8 n766 n767 n768 n769 xs770 n771 n772 l773 xs774 (fun x0 x1 x2 x3 => K (Ex.exit 2) (St.mk (spread 69 0 [6, 8] [AV.ptr 0 0, AV.ptr 1 0]) [HB.live (Blk.any [AV.int .i64 x0, AV.esl]), HB.live (Blk.any [AV.int .i64 x1, AV.sl 2 0 x2 1]), HB.live (Blk.ints .u64 x3)]))
  | _, _ => none
noncomputable def o22_8400 : PSpec := fun st _ K => pickM 69 [1, 2, 3, 6, 8, 9] st (o22_8400_in K)

theorem o22_8400_nat (st : St) (R S : Type) (K : Ex → St → Option R) (J : R → Option S) : (o22_8400 st R K).bind J = o22_8400 st S fun ex st => (K ex st).bind J := by
  unfold o22_8400
  refine pickM_push fun vs hh => ?_
  unfold o22_8400_in
  split
  · exact haystackref02_Append_l8_push _ _ _ _ _ _ _ _ _ (fun _ _ _ _ => rfl)
  · rfl

noncomputable def o22 : Nat → Option PSpec := lkN [(3000, o22_3000), (4000, o22_4000), (5400, o22_5400), (8400, o22_8400)]

theorem o22_onat : ONat o22 := ONat.consT o22_3000_nat (ONat.consT o22_4000_nat (ONat.consT o22_5400_nat (ONat.consT o22_8400_nat (ONat.nilT))))

noncomputable def c22_4000 : Code := subC [1, 1] (bodyOf Try.f22)

noncomputable def c22_3000 : Code := subC [1, 0, 1] (bodyOf Try.f22)

noncomputable def c22_5400 : Code := subC [1, 1, 1, 0, 0, 0] (bodyOf Try.f22)

noncomputable def lp22_5400 {R : Type} (N : Nat) (st : St) (K : Ex → St → Option R) : Option R := evLoop (norm ((env (keepOf kpt) (vsOf [])).keep 22 (Ev.keyOf c22_5400 * 1000 + 400)) ([] : H).length) (evCode (env (keepOf kpt) (vsOf [])) (evFun (env (keepOf kpt) (vsOf [])) S20 T21 10) o22 22 ([] : H).length 3994 c22_5400) N st (kOut (env (keepOf kpt) (vsOf [])) 22 ([] : H).length (Ev.keyOf c22_5400 * 1000 + 401) K)

noncomputable def c22_8400 : Code := subC [1, 1, 1, 1, 0, 1, 0, 0] (bodyOf Try.f22)

noncomputable def lp22_8400 {R : Type} (N : Nat) (st : St) (K : Ex → St → Option R) : Option R := evLoop (norm ((env (keepOf kpt) (vsOf [])).keep 22 (Ev.keyOf c22_8400 * 1000 + 400)) ([] : H).length) (evCode (env (keepOf kpt) (vsOf [])) (evFun (env (keepOf kpt) (vsOf [])) S20 T21 10) o22 22 ([] : H).length 3992 c22_8400) N st (kOut (env (keepOf kpt) (vsOf [])) 22 ([] : H).length (Ev.keyOf c22_8400 * 1000 + 401) K)

theorem haystackref02_Append_j3_eq {R : Type} (n729 : Int) (n730 : Int) (b731 : Bool) (n732 : Int) (xs733 : List Int) (n734 : Int) (K : Ex → St → Option R) : evCode (env (keepOf kpt) (vsOf [])) (evFun (env (keepOf kpt) (vsOf [])) S20 T21 10) o22 22 ([] : H).length 3997 c22_3000 (St.mk (spread 69 0 [1, 2, 3, 6, 27] [AV.int .u64 n729, AV.int .i64 n730, AV.ptr 0 0, AV.ptr 1 0, AV.bool b731]) [HB.live (Blk.any [AV.int .i64 n732, AV.fsl (Blk.ints .u64 xs733)]), HB.live (Blk.any [AV.int .i64 n734, AV.esl])]) (kOut (env (keepOf kpt) (vsOf [])) 22 ([] : H).length (Ev.keyOf c22_3000 * 1000 + 1) K) = haystackref02_Append_j3 n729 n730 b731 n732 xs733 n734 (fun x0 x1 x2 => K (Ex.ret) (St.mk (spread 69 0 [6, 7] [AV.ptr 0 0, AV.int .i64 x0]) [HB.live (Blk.any [AV.int .i64 x1, AV.fsl (Blk.ints .u64 x2)])])) (fun x0 x1 x2 x3 x4 => K (Ex.normal) (St.mk (spread 69 0 [1, 2, 3, 6] [AV.int .u64 x0, AV.int .i64 x1, AV.ptr 0 0, AV.ptr 1 0]) [HB.live (Blk.any [AV.int .i64 x2, AV.fsl (Blk.ints .u64 x3)]), HB.live (Blk.any [AV.int .i64 x4, AV.esl])])) := by
  rw [haystackref02_Append_j3_unf]; kernel_rfl

theorem haystackref02_Append_l5_step {R : Type} (N : Nat) (n748 : Int) (n749 : Int) (n750 : Int) (xs751 : List Int) (n752 : Int) (n753 : Int) (l754 : Nat) (xs755 : List Int) (K : Ex → St → Option R) : lp22_5400 (N + 1) (St.mk (spread 69 0 [1, 2, 3, 6, 8] [AV.int .u64 n748, AV.int .i64 n749, AV.ptr 0 0, AV.ptr 1 0, AV.ptr 2 0]) [HB.live (Blk.any [AV.int .i64 n750, AV.fsl (Blk.ints .u64 xs751)]), HB.live (Blk.any [AV.int .i64 n752, AV.esl]), HB.live (Blk.any [AV.int .i64 n753, AV.sl 3 0 l754 1]), HB.live (Blk.ints .u64 xs755)]) K = haystackref02_Append_l5_T (fun n748 n749 n750 xs751 n752 n753 l754 xs755 => lp22_5400 N (St.mk (spread 69 0 [1, 2, 3, 6, 8] [AV.int .u64 n748, AV.int .i64 n749, AV.ptr 0 0, AV.ptr 1 0, AV.ptr 2 0]) [HB.live (Blk.any [AV.int .i64 n750, AV.fsl (Blk.ints .u64 xs751)]), HB.live (Blk.any [AV.int .i64 n752, AV.esl]), HB.live (Blk.any [AV.int .i64 n753, AV.sl 3 0 l754 1]), HB.live (Blk.ints .u64 xs755)]) K) n748 n749 n750 xs751 n752 n753 l754 xs755 (fun x0 x1 x2 x3 x4 x5 x6 x7 => K (Ex.exit 0) (St.mk (spread 69 0 [1, 2, 3, 6, 8] [AV.int .u64 x0, AV.int .i64 x1, AV.ptr 0 0, AV.ptr 1 0, AV.ptr 2 0]) [HB.live (Blk.any [AV.int .i64 x2, AV.fsl (Blk.ints .u64 x3)]), HB.live (Blk.any [AV.int .i64 x4, AV.esl]), HB.live (Blk.any [AV.int .i64 x5, AV.sl 3 0 x6 1]), HB.live (Blk.ints .u64 x7)])) := by kernel_rfl

theorem haystackref02_Append_l5_L_eq {R : Type} : ∀ (N : Nat) (n748 : Int) (n749 : Int) (n750 : Int) (xs751 : List Int) (n752 : Int) (n753 : Int) (l754 : Nat) (xs755 : List Int) (K : Ex → St → Option R), lp22_5400 N (St.mk (spread 69 0 [1, 2, 3, 6, 8] [AV.int .u64 n748, AV.int .i64 n749, AV.ptr 0 0, AV.ptr 1 0, AV.ptr 2 0]) [HB.live (Blk.any [AV.int .i64 n750, AV.fsl (Blk.ints .u64 xs751)]), HB.live (Blk.any [AV.int .i64 n752, AV.esl]), HB.live (Blk.any [AV.int .i64 n753, AV.sl 3 0 l754 1]), HB.live (Blk.ints .u64 xs755)]) K = haystackref02_Append_l5_L (fun x0 x1 x2 x3 x4 x5 x6 x7 => K (Ex.exit 0) (St.mk (spread 69 0 [1, 2, 3, 6, 8] [AV.int .u64 x0, AV.int .i64 x1, AV.ptr 0 0, AV.ptr 1 0, AV.ptr 2 0]) [HB.live (Blk.any [AV.int .i64 x2, AV.fsl (Blk.ints .u64 x3)]), HB.live (Blk.any [AV.int .i64 x4, AV.esl]), HB.live (Blk.any [AV.int .i64 x5, AV.sl 3 0 x6 1]), HB.live (Blk.ints .u64 x7)])) N n748 n749 n750 xs751 n752 n753 l754 xs755
  | 0, _, _, _, _, _, _, _, _, _ => rfl
  | N + 1, n748, n749, n750, xs751, n752, n753, l754, xs755, K => by rw [haystackref02_Append_l5_step]; simp only [haystackref02_Append_l5_L_eq N]; rfl

theorem haystackref02_Append_l8_step {R : Type} (N : Nat) (n766 : Int) (n767 : Int) (n768 : Int) (n769 : Int) (xs770 : List Int) (n771 : Int) (n772 : Int) (l773 : Nat) (xs774 : List Int) (K : Ex → St → Option R) : lp22_8400 (N + 1) (St.mk (spread 69 0 [1, 2, 3, 6, 8, 9] [AV.int .u64 n766, AV.int .i64 n767, AV.ptr 0 0, AV.ptr 1 0, AV.ptr 2 0, AV.int .i64 n768]) [HB.live (Blk.any [AV.int .i64 n769, AV.fsl (Blk.ints .u64 xs770)]), HB.live (Blk.any [AV.int .i64 n771, AV.esl]), HB.live (Blk.any [AV.int .i64 n772, AV.sl 3 0 l773 1]), HB.live (Blk.ints .u64 xs774)]) K = haystackref02_Append_l8_T (fun n766 n767 n768 n769 xs770 n771 n772 l773 xs774 => lp22_8400 N (St.mk (spread 69 0 [1, 2, 3, 6, 8, 9] [AV.int .u64 n766, AV.int .i64 n767, AV.ptr 0 0, AV.ptr 1 0, AV.ptr 2 0, AV.int .i64 n768]) [HB.live (Blk.any [AV.int .i64 n769, AV.fsl (Blk.ints .u64 xs770)]), HB.live (Blk.any [AV.int .i64 n771, AV.esl]), HB.live (Blk.any [AV.int .i64 n772, AV.sl 3 0 l773 1]), HB.live (Blk.ints .u64 xs774)]) K) n766 n767 n768 n769 xs770 n771 n772 l773 xs774 (fun x0 x1 x2 x3 => K (Ex.exit 2) (St.mk (spread 69 0 [6, 8] [AV.ptr 0 0, AV.ptr 1 0]) [HB.live (Blk.any [AV.int .i64 x0, AV.esl]), HB.live (Blk.any [AV.int .i64 x1, AV.sl 2 0 x2 1]), HB.live (Blk.ints .u64 x3)])) := by kernel_rfl

theorem haystackref02_Append_l8_L_eq {R : Type} : ∀ (N : Nat) (n766 : Int) (n767 : Int) (n768 : Int) (n769 : Int) (xs770 : List Int) (n771 : Int) (n772 : Int) (l773 : Nat) (xs774 : List Int) (K : Ex → St → Option R), lp22_8400 N (St.mk (spread 69 0 [1, 2, 3, 6, 8, 9] [AV.int .u64 n766, AV.int .i64 n767, AV.ptr 0 0, AV.ptr 1 0, AV.ptr 2 0, AV.int .i64 n768]) [HB.live (Blk.any [AV.int .i64 n769, AV.fsl (Blk.ints .u64 xs770)]), HB.live (Blk.any [AV.int .i64 n771, AV.esl]), HB.live (Blk.any [AV.int .i64 n772, AV.sl 3 0 l773 1]), HB.live (Blk.ints .u64 xs774)]) K = haystackref02_Append_l8_L (fun x0 x1 x2 x3 => K (Ex.exit 2) (St.mk (spread 69 0 [6, 8] [AV.ptr 0 0, AV.ptr 1 0]) [HB.live (Blk.any [AV.int .i64 x0, AV.esl]), HB.live (Blk.any [AV.int .i64 x1, AV.sl 2 0 x2 1]), HB.live (Blk.ints .u64 x3)])) N n766 n767 n768 n769 xs770 n771 n772 l773 xs774
  | 0, _, _, _, _, _, _, _, _, _, _ => rfl
  | N + 1, n766, n767, n768, n769, xs770, n771, n772, l773, xs774, K => by rw [haystackref02_Append_l8_step]; simp only [haystackref02_Append_l8_L_eq N]; rfl

theorem haystackref02_Append_j4_eq {R : Type} (n743 : Int) (n744 : Int) (n745 : Int) (xs746 : List Int) (n747 : Int) (K : Ex → St → Option R) : evCode (env (keepOf kpt) (vsOf [])) (evFun (env (keepOf kpt) (vsOf [])) S20 T21 10) o22 22 ([] : H).length 3998 c22_4000 (St.mk (spread 69 0 [1, 2, 3, 6] [AV.int .u64 n743, AV.int .i64 n744, AV.ptr 0 0, AV.ptr 1 0]) [HB.live (Blk.any [AV.int .i64 n745, AV.fsl (Blk.ints .u64 xs746)]), HB.live (Blk.any [AV.int .i64 n747, AV.esl])]) (kOut (env (keepOf kpt) (vsOf [])) 22 ([] : H).length (Ev.keyOf c22_4000 * 1000 + 1) K) = haystackref02_Append_j4 n743 n744 n745 xs746 n747 (fun x0 x1 x2 x3 => K (Ex.ret) (St.mk (spread 69 0 [6, 7] [AV.ptr 0 0, AV.int .i64 x0]) [HB.live (Blk.any [AV.int .i64 x1, AV.sl 1 0 x2 1]), HB.live (Blk.ints .u64 x3)])) := by
  rw [haystackref02_Append_j4_unf]; kernel_rfl

theorem p22_4000 : ∀ sp, o22 (Ev.keyOf c22_4000 * 1000) = some sp → ∀ (R : Type) (r : R) st (K : Ex → St → Option R), sp st R K = some r → evCode (env (keepOf kpt) (vsOf [])) (evFun (env (keepOf kpt) (vsOf [])) S20 T21 10) o22 22 ([] : H).length 3998 c22_4000 st (kOut (env (keepOf kpt) (vsOf [])) 22 ([] : H).length (Ev.keyOf c22_4000 * 1000 + 1) K) = some r := by
    intro sp hsp R r st K h
    have h1 : o22 (Ev.keyOf c22_4000 * 1000) = some o22_4000 := by kernel_rfl
    obtain rfl := Option.some.inj (h1.symm.trans hsp)
    unfold o22_4000 at h
    obtain ⟨vs, hh, rfl, h2⟩ := pickM_some h
    unfold o22_4000_in at h2
    split at h2
    · exact (haystackref02_Append_j4_eq _ _ _ _ _ K).trans h2
    · cases h2

theorem p22_3000 : ∀ sp, o22 (Ev.keyOf c22_3000 * 1000) = some sp → ∀ (R : Type) (r : R) st (K : Ex → St → Option R), sp st R K = some r → evCode (env (keepOf kpt) (vsOf [])) (evFun (env (keepOf kpt) (vsOf [])) S20 T21 10) o22 22 ([] : H).length 3997 c22_3000 st (kOut (env (keepOf kpt) (vsOf [])) 22 ([] : H).length (Ev.keyOf c22_3000 * 1000 + 1) K) = some r := by
    intro sp hsp R r st K h
    have h1 : o22 (Ev.keyOf c22_3000 * 1000) = some o22_3000 := by kernel_rfl
    obtain rfl := Option.some.inj (h1.symm.trans hsp)
    unfold o22_3000 at h
    obtain ⟨vs, hh, rfl, h2⟩ := pickM_some h
    unfold o22_3000_in at h2
    split at h2
    · exact (haystackref02_Append_j3_eq _ _ _ _ _ _ K).trans h2
    · cases h2

theorem p22_5400 : ∀ sp, o22 (Ev.keyOf c22_5400 * 1000 + 400) = some sp → ∀ (R : Type) (r : R) st (K : Ex → St → Option R), sp st R K = some r → lp22_5400 NR st K = some r := by
    intro sp hsp R r st K h
    have h1 : o22 (Ev.keyOf c22_5400 * 1000 + 400) = some o22_5400 := by kernel_rfl
    obtain rfl := Option.some.inj (h1.symm.trans hsp)
    unfold o22_5400 at h
    obtain ⟨vs, hh, rfl, h2⟩ := pickM_some h
    unfold o22_5400_in at h2
    split at h2
    · exact (haystackref02_Append_l5_L_eq NR _ _ _ _ _ _ _ _ K).trans (haystackref02_Append_l5_unf _ _ _ _ _ _ _ _ (fun x0 x1 x2 x3 x4 x5 x6 x7 => K (Ex.exit 0) (St.mk (spread 69 0 [1, 2, 3, 6, 8] [AV.int .u64 x0, AV.int .i64 x1, AV.ptr 0 0, AV.ptr 1 0, AV.ptr 2 0]) [HB.live (Blk.any [AV.int .i64 x2, AV.fsl (Blk.ints .u64 x3)]), HB.live (Blk.any [AV.int .i64 x4, AV.esl]), HB.live (Blk.any [AV.int .i64 x5, AV.sl 3 0 x6 1]), HB.live (Blk.ints .u64 x7)]))).symm |>.trans h2
    · cases h2

theorem p22_8400 : ∀ sp, o22 (Ev.keyOf c22_8400 * 1000 + 400) = some sp → ∀ (R : Type) (r : R) st (K : Ex → St → Option R), sp st R K = some r → lp22_8400 NR st K = some r := by
    intro sp hsp R r st K h
    have h1 : o22 (Ev.keyOf c22_8400 * 1000 + 400) = some o22_8400 := by kernel_rfl
    obtain rfl := Option.some.inj (h1.symm.trans hsp)
    unfold o22_8400 at h
    obtain ⟨vs, hh, rfl, h2⟩ := pickM_some h
    unfold o22_8400_in at h2
    split at h2
    · exact (haystackref02_Append_l8_L_eq NR _ _ _ _ _ _ _ _ _ K).trans (haystackref02_Append_l8_unf _ _ _ _ _ _ _ _ _ (fun x0 x1 x2 x3 => K (Ex.exit 2) (St.mk (spread 69 0 [6, 8] [AV.ptr 0 0, AV.ptr 1 0]) [HB.live (Blk.any [AV.int .i64 x0, AV.esl]), HB.live (Blk.any [AV.int .i64 x1, AV.sl 2 0 x2 1]), HB.live (Blk.ints .u64 x3)]))).symm |>.trans h2
    · cases h2

theorem pc22 : ∀ x ∈ [(3998, false, c22_4000), (3997, false, c22_3000), (3994, true, c22_5400), (3992, true, c22_8400)], PieceOk (env (keepOf kpt) (vsOf [])) (evFun (env (keepOf kpt) (vsOf [])) S20 T21 10) o22 22 ([] : H).length x := List.forall_mem_cons.2 ⟨p22_4000, List.forall_mem_cons.2 ⟨p22_3000, List.forall_mem_cons.2 ⟨p22_5400, List.forall_mem_cons.2 ⟨p22_8400, fun _ h => nomatch h⟩⟩⟩⟩

theorem haystackref02_Append_eq {R : Type} (n724 : Int) (xs725 : List Int) (n726 : Int) (n727 : Int) (K : AV → Option R) : evSpec (env (keepOf kpt) (vsOf [])) S20 T21 o22 10 22 ([AV.agg (Blk.any [AV.int .i64 n724, AV.fsl (Blk.ints .u64 xs725)]), AV.int .u64 n726, AV.int .i64 n727]) R K = haystackref02_Append n724 xs725 n726 n727 (fun x0 x1 x2 => K (AV.tup [AV.agg (Blk.any [AV.int .i64 x0, AV.fsl (Blk.ints .u64 x1)]), AV.int .i64 x2])) := by
  rw [haystackref02_Append_unf]; kernel_rfl

noncomputable def sp22 : Ev.Spec := fun args _ K => match args with
  | ([AV.agg (Blk.any [AV.int .i64 n724, AV.fsl (Blk.ints .u64 xs725)]), AV.int .u64 n726, AV.int .i64 n727]) => haystackref02_Append n724 xs725 n726 n727 (fun x0 x1 x2 => K (AV.tup [AV.agg (Blk.any [AV.int .i64 x0, AV.fsl (Blk.ints .u64 x1)]), AV.int .i64 x2]))
  | _ => none

theorem sp22_nat : SpecNat sp22 := fun args _ _ _ _ => by
  unfold sp22
  split
  · exact haystackref02_Append_push _ _ _ _ (fun _ _ _ => rfl)
  · rfl

theorem ok22 : SpecOk Try.prog (env (keepOf kpt) (vsOf [])) 22 sp22 :=
  SpecOk.of (evSpec_ok (env_types _ _) (env_funs _ _) S20_ok T21_ok (O := o22) o22_onat 10 22 (fun fn c h1 h2 => by
    have e : (env (keepOf kpt) (vsOf [])).F 22 = some Try.f22 := by kernel_rfl
    obtain rfl := Option.some.inj (e.symm.trans h1)
    obtain rfl := body_of h2
    exact OrcOk.of 4000 _ _ (show orcs o22 4000 (bodyOf Try.f22) = some [(3998, false, c22_4000), (3997, false, c22_3000), (3994, true, c22_5400), (3992, true, c22_8400)] by kernel_rfl) pc22)) sp22_nat (fun args z h => by
    unfold sp22 at h
    split at h
    · exact (haystackref02_Append_eq _ _ _ _ some).trans h
    · cases h)

noncomputable def S22 : FuncId → Option Ev.Spec := fun g => match g.beq 22 with | true => some sp22 | false => S20 g
theorem S22_ok : ∀ g sp, S22 g = some sp → SpecOk Try.prog (env (keepOf kpt) (vsOf [])) g sp := fun g sp h => by
  unfold S22 at h
  split at h
  · rename_i hb; cases h; obtain rfl := Nat.eq_of_beq_eq_true hb; exact ok22
  · exact S20_ok g sp h

noncomputable def o23r1_3000_in {R : Type} (K : Ex → St → Option R) (vs : List AV) (hh : H) : Option R := match vs, hh with
  | [AV.ptr 1 0, AV.ptr 2 0, AV.ptr 3 0, AV.bool b830], [HB.live (Blk.ints .u64 xs831), HB.live (Blk.any [AV.int .i64 n832, AV.sl 0 0 l833 1]), HB.live (Blk.any [AV.int .i64 n834, AV.fsl (Blk.ints .u64 xs835)]), HB.live (Blk.any [AV.int .i64 n836, AV.esl])] => bits_Join_j3_1 b830 xs831 n832 l833 n834 xs835 n836 (fun x0 x1 x2 x3 => K (Ex.ret) (St.mk (spread 51 0 [4, 5] [AV.ptr 1 0, AV.int .i64 x0]) [HB.live (Blk.ints .u64 x1), HB.live (Blk.any [AV.int .i64 x2, AV.sl 0 0 x3 1])])) (fun x0 x1 x2 x3 x4 x5 => K (Ex.normal) (St.mk (spread 51 0 [2, 3, 4] [AV.ptr 1 0, AV.ptr 2 0, AV.ptr 3 0]) [HB.live (Blk.ints .u64 x0), HB.live (Blk.any [AV.int .i64 x1, AV.sl 0 0 x2 1]), HB.live (Blk.any [AV.int .i64 x3, AV.fsl (Blk.ints .u64 x4)]), HB.live (Blk.any [AV.int .i64 x5, AV.esl])]))
  | _, _ => none
noncomputable def o23r1_3000 : PSpec := fun st _ K => pickM 51 [2, 3, 4, 24] st (o23r1_3000_in K)

theorem o23r1_3000_nat (st : St) (R S : Type) (K : Ex → St → Option R) (J : R → Option S) : (o23r1_3000 st R K).bind J = o23r1_3000 st S fun ex st => (K ex st).bind J := by
  unfold o23r1_3000
  refine pickM_push fun vs hh => ?_
  unfold o23r1_3000_in
  split
  · exact bits_Join_j3_1_push _ _ _ _ _ _ _ (fun _ _ _ _ => rfl) (fun _ _ _ _ _ _ => rfl)
  · rfl

noncomputable def o23r1_4000_in {R : Type} (K : Ex → St → Option R) (vs : List AV) (hh : H) : Option R := match vs, hh with
  | [AV.ptr 1 0, AV.ptr 2 0, AV.ptr 3 0], [HB.live (Blk.ints .u64 xs847), HB.live (Blk.any [AV.int .i64 n848, AV.sl 0 0 l849 1]), HB.live (Blk.any [AV.int .i64 n850, AV.fsl (Blk.ints .u64 xs851)]), HB.live (Blk.any [AV.int .i64 n852, AV.esl])] => bits_Join_j4_1 xs847 n848 l849 n850 xs851 n852 (fun x0 x1 x2 x3 x4 => K (Ex.ret) (St.mk (spread 51 0 [4, 5] [AV.ptr 1 0, AV.int .i64 x0]) [HB.live (Blk.ints .u64 x1), HB.live (Blk.any [AV.int .i64 x2, AV.sl 2 0 x3 1]), HB.live (Blk.ints .u64 x4)]))
  | _, _ => none
noncomputable def o23r1_4000 : PSpec := fun st _ K => pickM 51 [2, 3, 4] st (o23r1_4000_in K)

theorem o23r1_4000_nat (st : St) (R S : Type) (K : Ex → St → Option R) (J : R → Option S) : (o23r1_4000 st R K).bind J = o23r1_4000 st S fun ex st => (K ex st).bind J := by
  unfold o23r1_4000
  refine pickM_push fun vs hh => ?_
  unfold o23r1_4000_in
  split
  · exact bits_Join_j4_1_push _ _ _ _ _ _ (fun _ _ _ _ _ => rfl)
  · rfl

noncomputable def o23r1_6400_in {R : Type} (K : Ex → St → Option R) (vs : List AV) (hh : H) : Option R := match vs, hh with
  | [AV.ptr 1 0, AV.ptr 2 0, AV.ptr 3 0, AV.fsl (Blk.ints .u64 xs857), AV.int .i64 n858, AV.int .i64 n859], [HB.live (Blk.ints .u64 xs860), HB.live (Blk.any [AV.int .i64 n861, AV.sl 0 0 l862 1]), HB.live (Blk.any [AV.int .i64 n863, AV.esl]), HB.live (Blk.any [AV.int .i64 n864, AV.sl 4 0 l865 1]), HB.live (Blk.ints .u64 xs866)] => bits_Join_l6_1 xs857 n858 n859 xs860 n861 l862 n863 n864 l865 xs866 (fun x0 x1 x2 x3 x4 => K (Ex.exit 0) (St.mk (spread 51 0 [4, 6] [AV.ptr 1 0, AV.ptr 2 0]) [HB.live (Blk.ints .u64 x0), HB.live (Blk.any [AV.int .i64 x1, AV.esl]), HB.live (Blk.any [AV.int .i64 x2, AV.sl 3 0 x3 1]), HB.live (Blk.ints .u64 x4)]))
  | _, _ => none
noncomputable def o23r1_6400 : PSpec := fun st _ K => pickM 51 [2, 4, 6, 34, 35, 36] st (o23r1_6400_in K)

theorem o23r1_6400_nat (st : St) (R S : Type) (K : Ex → St → Option R) (J : R → Option S) : (o23r1_6400 st R K).bind J = o23r1_6400 st S fun ex st => (K ex st).bind J := by
  unfold o23r1_6400
  refine pickM_push fun vs hh => ?_
  unfold o23r1_6400_in
  split
  · exact bits_Join_l6_1_push _ _ _ _ _ _ _ _ _ _ (fun _ _ _ _ _ => rfl)
  · rfl

noncomputable def o23r1 : Nat → Option PSpec := lkN [(3000, o23r1_3000), (4000, o23r1_4000), (6400, o23r1_6400)]

theorem o23r1_onat : ONat o23r1 := ONat.consT o23r1_3000_nat (ONat.consT o23r1_4000_nat (ONat.consT o23r1_6400_nat (ONat.nilT)))

noncomputable def c23r1_4000 : Code := subC [1, 1] (bodyOf Try.f23)

noncomputable def c23r1_3000 : Code := subC [1, 0, 1] (bodyOf Try.f23)

noncomputable def c23r1_6400 : Code := subC [1, 1, 1, 0, 1, 0, 0] (bodyOf Try.f23)

noncomputable def lp23r1_6400 {R : Type} (N : Nat) (st : St) (K : Ex → St → Option R) : Option R := evLoop (norm ((env (keepOf kpt) (vsOf [46])).keep 23 (Ev.keyOf c23r1_6400 * 1000 + 400)) 1) (evCode (env (keepOf kpt) (vsOf [46])) (evFun (env (keepOf kpt) (vsOf [46])) S22 T21 10) o23r1 23 1 3993 c23r1_6400) N st (kOut (env (keepOf kpt) (vsOf [46])) 23 1 (Ev.keyOf c23r1_6400 * 1000 + 401) K)

theorem bits_Join_j3_1_eq {R : Type} (b830 : Bool) (xs831 : List Int) (n832 : Int) (l833 : Nat) (n834 : Int) (xs835 : List Int) (n836 : Int) (K : Ex → St → Option R) : evCode (env (keepOf kpt) (vsOf [46])) (evFun (env (keepOf kpt) (vsOf [46])) S22 T21 10) o23r1 23 1 3997 c23r1_3000 (St.mk (spread 51 0 [2, 3, 4, 24] [AV.ptr 1 0, AV.ptr 2 0, AV.ptr 3 0, AV.bool b830]) [HB.live (Blk.ints .u64 xs831), HB.live (Blk.any [AV.int .i64 n832, AV.sl 0 0 l833 1]), HB.live (Blk.any [AV.int .i64 n834, AV.fsl (Blk.ints .u64 xs835)]), HB.live (Blk.any [AV.int .i64 n836, AV.esl])]) (kOut (env (keepOf kpt) (vsOf [46])) 23 1 (Ev.keyOf c23r1_3000 * 1000 + 1) K) = bits_Join_j3_1 b830 xs831 n832 l833 n834 xs835 n836 (fun x0 x1 x2 x3 => K (Ex.ret) (St.mk (spread 51 0 [4, 5] [AV.ptr 1 0, AV.int .i64 x0]) [HB.live (Blk.ints .u64 x1), HB.live (Blk.any [AV.int .i64 x2, AV.sl 0 0 x3 1])])) (fun x0 x1 x2 x3 x4 x5 => K (Ex.normal) (St.mk (spread 51 0 [2, 3, 4] [AV.ptr 1 0, AV.ptr 2 0, AV.ptr 3 0]) [HB.live (Blk.ints .u64 x0), HB.live (Blk.any [AV.int .i64 x1, AV.sl 0 0 x2 1]), HB.live (Blk.any [AV.int .i64 x3, AV.fsl (Blk.ints .u64 x4)]), HB.live (Blk.any [AV.int .i64 x5, AV.esl])])) := by
  rw [bits_Join_j3_1_unf]; kernel_rfl

theorem bits_Join_l6_1_step {R : Type} (N : Nat) (xs857 : List Int) (n858 : Int) (n859 : Int) (xs860 : List Int) (n861 : Int) (l862 : Nat) (n863 : Int) (n864 : Int) (l865 : Nat) (xs866 : List Int) (K : Ex → St → Option R) : lp23r1_6400 (N + 1) (St.mk (spread 51 0 [2, 4, 6, 34, 35, 36] [AV.ptr 1 0, AV.ptr 2 0, AV.ptr 3 0, AV.fsl (Blk.ints .u64 xs857), AV.int .i64 n858, AV.int .i64 n859]) [HB.live (Blk.ints .u64 xs860), HB.live (Blk.any [AV.int .i64 n861, AV.sl 0 0 l862 1]), HB.live (Blk.any [AV.int .i64 n863, AV.esl]), HB.live (Blk.any [AV.int .i64 n864, AV.sl 4 0 l865 1]), HB.live (Blk.ints .u64 xs866)]) K = bits_Join_l6_1_T (fun xs857 n858 n859 xs860 n861 l862 n863 n864 l865 xs866 => lp23r1_6400 N (St.mk (spread 51 0 [2, 4, 6, 34, 35, 36] [AV.ptr 1 0, AV.ptr 2 0, AV.ptr 3 0, AV.fsl (Blk.ints .u64 xs857), AV.int .i64 n858, AV.int .i64 n859]) [HB.live (Blk.ints .u64 xs860), HB.live (Blk.any [AV.int .i64 n861, AV.sl 0 0 l862 1]), HB.live (Blk.any [AV.int .i64 n863, AV.esl]), HB.live (Blk.any [AV.int .i64 n864, AV.sl 4 0 l865 1]), HB.live (Blk.ints .u64 xs866)]) K) xs857 n858 n859 xs860 n861 l862 n863 n864 l865 xs866 (fun x0 x1 x2 x3 x4 => K (Ex.exit 0) (St.mk (spread 51 0 [4, 6] [AV.ptr 1 0, AV.ptr 2 0]) [HB.live (Blk.ints .u64 x0), HB.live (Blk.any [AV.int .i64 x1, AV.esl]), HB.live (Blk.any [AV.int .i64 x2, AV.sl 3 0 x3 1]), HB.live (Blk.ints .u64 x4)])) := by kernel_rfl

theorem bits_Join_l6_1_L_eq {R : Type} : ∀ (N : Nat) (xs857 : List Int) (n858 : Int) (n859 : Int) (xs860 : List Int) (n861 : Int) (l862 : Nat) (n863 : Int) (n864 : Int) (l865 : Nat) (xs866 : List Int) (K : Ex → St → Option R), lp23r1_6400 N (St.mk (spread 51 0 [2, 4, 6, 34, 35, 36] [AV.ptr 1 0, AV.ptr 2 0, AV.ptr 3 0, AV.fsl (Blk.ints .u64 xs857), AV.int .i64 n858, AV.int .i64 n859]) [HB.live (Blk.ints .u64 xs860), HB.live (Blk.any [AV.int .i64 n861, AV.sl 0 0 l862 1]), HB.live (Blk.any [AV.int .i64 n863, AV.esl]), HB.live (Blk.any [AV.int .i64 n864, AV.sl 4 0 l865 1]), HB.live (Blk.ints .u64 xs866)]) K = bits_Join_l6_1_L (fun x0 x1 x2 x3 x4 => K (Ex.exit 0) (St.mk (spread 51 0 [4, 6] [AV.ptr 1 0, AV.ptr 2 0]) [HB.live (Blk.ints .u64 x0), HB.live (Blk.any [AV.int .i64 x1, AV.esl]), HB.live (Blk.any [AV.int .i64 x2, AV.sl 3 0 x3 1]), HB.live (Blk.ints .u64 x4)])) N xs857 n858 n859 xs860 n861 l862 n863 n864 l865 xs866
  | 0, _, _, _, _, _, _, _, _, _, _, _ => rfl
  | N + 1, xs857, n858, n859, xs860, n861, l862, n863, n864, l865, xs866, K => by rw [bits_Join_l6_1_step]; simp only [bits_Join_l6_1_L_eq N]; rfl

theorem bits_Join_j4_1_eq {R : Type} (xs847 : List Int) (n848 : Int) (l849 : Nat) (n850 : Int) (xs851 : List Int) (n852 : Int) (K : Ex → St → Option R) : evCode (env (keepOf kpt) (vsOf [46])) (evFun (env (keepOf kpt) (vsOf [46])) S22 T21 10) o23r1 23 1 3998 c23r1_4000 (St.mk (spread 51 0 [2, 3, 4] [AV.ptr 1 0, AV.ptr 2 0, AV.ptr 3 0]) [HB.live (Blk.ints .u64 xs847), HB.live (Blk.any [AV.int .i64 n848, AV.sl 0 0 l849 1]), HB.live (Blk.any [AV.int .i64 n850, AV.fsl (Blk.ints .u64 xs851)]), HB.live (Blk.any [AV.int .i64 n852, AV.esl])]) (kOut (env (keepOf kpt) (vsOf [46])) 23 1 (Ev.keyOf c23r1_4000 * 1000 + 1) K) = bits_Join_j4_1 xs847 n848 l849 n850 xs851 n852 (fun x0 x1 x2 x3 x4 => K (Ex.ret) (St.mk (spread 51 0 [4, 5] [AV.ptr 1 0, AV.int .i64 x0]) [HB.live (Blk.ints .u64 x1), HB.live (Blk.any [AV.int .i64 x2, AV.sl 2 0 x3 1]), HB.live (Blk.ints .u64 x4)])) := by
  rw [bits_Join_j4_1_unf]; kernel_rfl

theorem p23r1_4000 : ∀ sp, o23r1 (Ev.keyOf c23r1_4000 * 1000) = some sp → ∀ (R : Type) (r : R) st (K : Ex → St → Option R), sp st R K = some r → evCode (env (keepOf kpt) (vsOf [46])) (evFun (env (keepOf kpt) (vsOf [46])) S22 T21 10) o23r1 23 1 3998 c23r1_4000 st (kOut (env (keepOf kpt) (vsOf [46])) 23 1 (Ev.keyOf c23r1_4000 * 1000 + 1) K) = some r := by
    intro sp hsp R r st K h
    have h1 : o23r1 (Ev.keyOf c23r1_4000 * 1000) = some o23r1_4000 := by kernel_rfl
    obtain rfl := Option.some.inj (h1.symm.trans hsp)
    unfold o23r1_4000 at h
    obtain ⟨vs, hh, rfl, h2⟩ := pickM_some h
    unfold o23r1_4000_in at h2
    split at h2
    · exact (bits_Join_j4_1_eq _ _ _ _ _ _ K).trans h2
    · cases h2

theorem p23r1_3000 : ∀ sp, o23r1 (Ev.keyOf c23r1_3000 * 1000) = some sp → ∀ (R : Type) (r : R) st (K : Ex → St → Option R), sp st R K = some r → evCode (env (keepOf kpt) (vsOf [46])) (evFun (env (keepOf kpt) (vsOf [46])) S22 T21 10) o23r1 23 1 3997 c23r1_3000 st (kOut (env (keepOf kpt) (vsOf [46])) 23 1 (Ev.keyOf c23r1_3000 * 1000 + 1) K) = some r := by
    intro sp hsp R r st K h
    have h1 : o23r1 (Ev.keyOf c23r1_3000 * 1000) = some o23r1_3000 := by kernel_rfl
    obtain rfl := Option.some.inj (h1.symm.trans hsp)
    unfold o23r1_3000 at h
    obtain ⟨vs, hh, rfl, h2⟩ := pickM_some h
    unfold o23r1_3000_in at h2
    split at h2
    · exact (bits_Join_j3_1_eq _ _ _ _ _ _ _ K).trans h2
    · cases h2

theorem p23r1_6400 : ∀ sp, o23r1 (Ev.keyOf c23r1_6400 * 1000 + 400) = some sp → ∀ (R : Type) (r : R) st (K : Ex → St → Option R), sp st R K = some r → lp23r1_6400 NR st K = some r := by
    intro sp hsp R r st K h
    have h1 : o23r1 (Ev.keyOf c23r1_6400 * 1000 + 400) = some o23r1_6400 := by kernel_rfl
    obtain rfl := Option.some.inj (h1.symm.trans hsp)
    unfold o23r1_6400 at h
    obtain ⟨vs, hh, rfl, h2⟩ := pickM_some h
    unfold o23r1_6400_in at h2
    split at h2
    · exact (bits_Join_l6_1_L_eq NR _ _ _ _ _ _ _ _ _ _ K).trans (bits_Join_l6_1_unf _ _ _ _ _ _ _ _ _ _ (fun x0 x1 x2 x3 x4 => K (Ex.exit 0) (St.mk (spread 51 0 [4, 6] [AV.ptr 1 0, AV.ptr 2 0]) [HB.live (Blk.ints .u64 x0), HB.live (Blk.any [AV.int .i64 x1, AV.esl]), HB.live (Blk.any [AV.int .i64 x2, AV.sl 3 0 x3 1]), HB.live (Blk.ints .u64 x4)]))).symm |>.trans h2
    · cases h2

theorem pc23r1 : ∀ x ∈ [(3998, false, c23r1_4000), (3997, false, c23r1_3000), (3993, true, c23r1_6400)], PieceOk (env (keepOf kpt) (vsOf [46])) (evFun (env (keepOf kpt) (vsOf [46])) S22 T21 10) o23r1 23 1 x := List.forall_mem_cons.2 ⟨p23r1_4000, List.forall_mem_cons.2 ⟨p23r1_3000, List.forall_mem_cons.2 ⟨p23r1_6400, fun _ h => nomatch h⟩⟩⟩

theorem bits_Join_r_eq {R : Type} (n823 : Int) (l824 : Nat) (n825 : Int) (xs826 : List Int) (xs827 : List Int) (K : AV → H → Option R) : evH (env (keepOf kpt) (vsOf [46])) S22 T21 o23r1 10 23 [AV.agg (Blk.any [AV.int .i64 n823, AV.sl 0 0 l824 1]), AV.agg (Blk.any [AV.int .i64 n825, AV.fsl (Blk.ints .u64 xs826)])] [HB.live (Blk.ints .u64 xs827)] R K = bits_Join_r n823 l824 n825 xs826 xs827 (fun x0 x1 x2 x3 => K (AV.tup [AV.agg (Blk.any [AV.int .i64 x0, AV.sl 0 0 x1 1]), AV.int .i64 x2]) ([HB.live (Blk.ints .u64 x3)])) (fun x0 x1 x2 x3 x4 => K (AV.tup [AV.agg (Blk.any [AV.int .i64 x0, AV.sl 1 0 x1 1]), AV.int .i64 x2]) ([HB.live (Blk.ints .u64 x3), HB.live (Blk.ints .u64 x4)])) := by
  rw [bits_Join_r_unf]; kernel_rfl

noncomputable def hs23 : HSpec := fun args h _ K => match args, h with
  | [AV.agg (Blk.any [AV.int .i64 n823, AV.sl 0 0 l824 1]), AV.agg (Blk.any [AV.int .i64 n825, AV.fsl (Blk.ints .u64 xs826)])], [HB.live (Blk.ints .u64 xs827)] => bits_Join_r n823 l824 n825 xs826 xs827 (fun x0 x1 x2 x3 => K (AV.tup [AV.agg (Blk.any [AV.int .i64 x0, AV.sl 0 0 x1 1]), AV.int .i64 x2]) ([HB.live (Blk.ints .u64 x3)])) (fun x0 x1 x2 x3 x4 => K (AV.tup [AV.agg (Blk.any [AV.int .i64 x0, AV.sl 1 0 x1 1]), AV.int .i64 x2]) ([HB.live (Blk.ints .u64 x3), HB.live (Blk.ints .u64 x4)]))
  | _, _ => none

theorem hs23_nat : HNat hs23 := fun args h _ _ _ _ => by
  unfold hs23
  split
  · exact bits_Join_r_push _ _ _ _ _ (fun _ _ _ _ => rfl) (fun _ _ _ _ _ => rfl)
  · rfl

theorem hok23 : HSpecOk Try.prog (env (keepOf kpt) (vsOf [])) 23 hs23 :=
  hspec_env (vs := vsOf [46]) _ <| HSpecOk.mk' hs23_nat (fun X args h m w us z h1 he g hr => by
    unfold hs23 at he
    split at he
    · exact evH_ok (env_types _ (vsOf [46])) (env_funs _ (vsOf [46])) (fun g sp h => spec_env _ (S22_ok g sp h)) (fun g hs h => hspec_env _ (T21_ok g hs h)) (O := o23r1) o23r1_onat 10 23 1 (fun fn c h1 h2 => by
    have e : (env (keepOf kpt) (vsOf [46])).F 23 = some Try.f23 := by kernel_rfl
    obtain rfl := Option.some.inj (e.symm.trans h1)
    obtain rfl := body_of h2
    exact OrcOk.of 4000 _ _ (show orcs o23r1 4000 (bodyOf Try.f23) = some [(3998, false, c23r1_4000), (3997, false, c23r1_3000), (3993, true, c23r1_6400)] by kernel_rfl) pc23r1) rfl ((bits_Join_r_eq _ _ _ _ _ _).trans he) g hr
    · cases he)

noncomputable def T23 : FuncId → Option HSpec := fun g => match g.beq 23 with | true => some hs23 | false => T21 g
theorem T23_ok : ∀ g sp, T23 g = some sp → HSpecOk Try.prog (env (keepOf kpt) (vsOf [])) g sp := fun g sp h => by
  unfold T23 at h
  split at h
  · rename_i hb; cases h; obtain rfl := Nat.eq_of_beq_eq_true hb; exact hok23
  · exact T21_ok g sp h

theorem haystackref02_At_eq {R : Type} (n942 : Int) (xs943 : List Int) (n944 : Int) (K : AV → Option R) : evSpec (env (keepOf kpt) (vsOf [])) S22 T23 (fun _ => none) 10 58 ([AV.agg (Blk.any [AV.int .i64 n942, AV.fsl (Blk.ints .u64 xs943)]), AV.int .i64 n944]) R K = haystackref02_At n942 xs943 n944 (fun x0 => K (AV.bool x0)) := by
  rw [haystackref02_At_unf]; kernel_rfl

noncomputable def sp58 : Ev.Spec := fun args _ K => match args with
  | ([AV.agg (Blk.any [AV.int .i64 n942, AV.fsl (Blk.ints .u64 xs943)]), AV.int .i64 n944]) => haystackref02_At n942 xs943 n944 (fun x0 => K (AV.bool x0))
  | _ => none

theorem sp58_nat : SpecNat sp58 := fun args _ _ _ _ => by
  unfold sp58
  split
  · exact haystackref02_At_push _ _ _ (fun _ => rfl)
  · rfl

theorem ok58 : SpecOk Try.prog (env (keepOf kpt) (vsOf [])) 58 sp58 :=
  SpecOk.of (evSpec_ok (env_types _ _) (env_funs _ _) S22_ok T23_ok (O := (fun _ => none)) ONat.none 10 58 (fun _ _ _ _ => OrcOk.none _ _)) sp58_nat (fun args z h => by
    unfold sp58 at h
    split at h
    · exact (haystackref02_At_eq _ _ _ some).trans h
    · cases h)

noncomputable def S58 : FuncId → Option Ev.Spec := fun g => match g.beq 58 with | true => some sp58 | false => S22 g
theorem S58_ok : ∀ g sp, S58 g = some sp → SpecOk Try.prog (env (keepOf kpt) (vsOf [])) g sp := fun g sp h => by
  unfold S58 at h
  split at h
  · rename_i hb; cases h; obtain rfl := Nat.eq_of_beq_eq_true hb; exact ok58
  · exact S22_ok g sp h

noncomputable def o51r0_4400_in {R : Type} (K : Ex → St → Option R) (vs : List AV) (hh : H) : Option R := match vs, hh with
  | [AV.ptr 0 0, AV.esl, AV.int .i64 n939], [HB.live (Blk.any [AV.int .i64 n940, AV.fsl (Blk.ints .u64 xs941)])] => haystackref02_Bools_l4 n939 n940 xs941 (fun x0 x1 => K (Ex.exit 0) (St.mk (spread 18 0 [3] [AV.sl 0 0 x0 1]) [HB.live (Blk.bools x1)])) (fun _ => K (Ex.exit 0) (St.mk (spread 18 0 [3] [AV.esl]) []))
  | [AV.ptr 0 0, AV.sl 1 0 l948 1, AV.int .i64 n949], [HB.live (Blk.any [AV.int .i64 n950, AV.fsl (Blk.ints .u64 xs951)]), HB.live (Blk.bools bs952)] => haystackref02_Bools_l4_1 l948 n949 n950 xs951 bs952 (fun x0 x1 => K (Ex.exit 0) (St.mk (spread 18 0 [3] [AV.sl 0 0 x0 1]) [HB.live (Blk.bools x1)]))
  | _, _ => none
noncomputable def o51r0_4400 : PSpec := fun st _ K => pickM 18 [1, 3, 4] st (o51r0_4400_in K)

theorem o51r0_4400_nat (st : St) (R S : Type) (K : Ex → St → Option R) (J : R → Option S) : (o51r0_4400 st R K).bind J = o51r0_4400 st S fun ex st => (K ex st).bind J := by
  unfold o51r0_4400
  refine pickM_push fun vs hh => ?_
  unfold o51r0_4400_in
  split
  · exact haystackref02_Bools_l4_push _ _ _ (fun _ _ => rfl) (fun _ => rfl)
  · exact haystackref02_Bools_l4_1_push _ _ _ _ _ (fun _ _ => rfl)
  · rfl

noncomputable def o51r0 : Nat → Option PSpec := lkN [(4400, o51r0_4400)]

theorem o51r0_onat : ONat o51r0 := ONat.consT o51r0_4400_nat (ONat.nilT)

noncomputable def c51r0_4400 : Code := subC [1, 1, 0, 1, 0, 0] (bodyOf Try.f51)

noncomputable def lp51r0_4400 {R : Type} (N : Nat) (st : St) (K : Ex → St → Option R) : Option R := evLoop (norm ((env (keepOf kpt) (vsOf [])).keep 51 (Ev.keyOf c51r0_4400 * 1000 + 400)) ([] : H).length) (evCode (env (keepOf kpt) (vsOf [])) (evFun (env (keepOf kpt) (vsOf [])) S58 T23 10) o51r0 51 ([] : H).length 3994 c51r0_4400) N st (kOut (env (keepOf kpt) (vsOf [])) 51 ([] : H).length (Ev.keyOf c51r0_4400 * 1000 + 401) K)

theorem haystackref02_Bools_l4_1_step {R : Type} (N : Nat) (l948 : Nat) (n949 : Int) (n950 : Int) (xs951 : List Int) (bs952 : List Bool) (K : Ex → St → Option R) : lp51r0_4400 (N + 1) (St.mk (spread 18 0 [1, 3, 4] [AV.ptr 0 0, AV.sl 1 0 l948 1, AV.int .i64 n949]) [HB.live (Blk.any [AV.int .i64 n950, AV.fsl (Blk.ints .u64 xs951)]), HB.live (Blk.bools bs952)]) K = haystackref02_Bools_l4_1_T (fun l948 n949 n950 xs951 bs952 => lp51r0_4400 N (St.mk (spread 18 0 [1, 3, 4] [AV.ptr 0 0, AV.sl 1 0 l948 1, AV.int .i64 n949]) [HB.live (Blk.any [AV.int .i64 n950, AV.fsl (Blk.ints .u64 xs951)]), HB.live (Blk.bools bs952)]) K) l948 n949 n950 xs951 bs952 (fun x0 x1 => K (Ex.exit 0) (St.mk (spread 18 0 [3] [AV.sl 0 0 x0 1]) [HB.live (Blk.bools x1)])) := by kernel_rfl

theorem haystackref02_Bools_l4_1_L_eq {R : Type} : ∀ (N : Nat) (l948 : Nat) (n949 : Int) (n950 : Int) (xs951 : List Int) (bs952 : List Bool) (K : Ex → St → Option R), lp51r0_4400 N (St.mk (spread 18 0 [1, 3, 4] [AV.ptr 0 0, AV.sl 1 0 l948 1, AV.int .i64 n949]) [HB.live (Blk.any [AV.int .i64 n950, AV.fsl (Blk.ints .u64 xs951)]), HB.live (Blk.bools bs952)]) K = haystackref02_Bools_l4_1_L (fun x0 x1 => K (Ex.exit 0) (St.mk (spread 18 0 [3] [AV.sl 0 0 x0 1]) [HB.live (Blk.bools x1)])) N l948 n949 n950 xs951 bs952
  | 0, _, _, _, _, _, _ => rfl
  | N + 1, l948, n949, n950, xs951, bs952, K => by rw [haystackref02_Bools_l4_1_step]; simp only [haystackref02_Bools_l4_1_L_eq N]; rfl

theorem haystackref02_Bools_l4_step {R : Type} (N : Nat) (n939 : Int) (n940 : Int) (xs941 : List Int) (K : Ex → St → Option R) : lp51r0_4400 (N + 1) (St.mk (spread 18 0 [1, 3, 4] [AV.ptr 0 0, AV.esl, AV.int .i64 n939]) [HB.live (Blk.any [AV.int .i64 n940, AV.fsl (Blk.ints .u64 xs941)])]) K = haystackref02_Bools_l4_T (fun n939 n940 xs941 => lp51r0_4400 N (St.mk (spread 18 0 [1, 3, 4] [AV.ptr 0 0, AV.esl, AV.int .i64 n939]) [HB.live (Blk.any [AV.int .i64 n940, AV.fsl (Blk.ints .u64 xs941)])]) K) (fun l948 n949 n950 xs951 bs952 => lp51r0_4400 N (St.mk (spread 18 0 [1, 3, 4] [AV.ptr 0 0, AV.sl 1 0 l948 1, AV.int .i64 n949]) [HB.live (Blk.any [AV.int .i64 n950, AV.fsl (Blk.ints .u64 xs951)]), HB.live (Blk.bools bs952)]) K) n939 n940 xs941 (fun x0 x1 => K (Ex.exit 0) (St.mk (spread 18 0 [3] [AV.sl 0 0 x0 1]) [HB.live (Blk.bools x1)])) (fun _ => K (Ex.exit 0) (St.mk (spread 18 0 [3] [AV.esl]) [])) := by kernel_rfl

theorem haystackref02_Bools_l4_L_eq {R : Type} : ∀ (N : Nat) (n939 : Int) (n940 : Int) (xs941 : List Int) (K : Ex → St → Option R), lp51r0_4400 N (St.mk (spread 18 0 [1, 3, 4] [AV.ptr 0 0, AV.esl, AV.int .i64 n939]) [HB.live (Blk.any [AV.int .i64 n940, AV.fsl (Blk.ints .u64 xs941)])]) K = haystackref02_Bools_l4_L (fun x0 x1 => K (Ex.exit 0) (St.mk (spread 18 0 [3] [AV.sl 0 0 x0 1]) [HB.live (Blk.bools x1)])) (fun _ => K (Ex.exit 0) (St.mk (spread 18 0 [3] [AV.esl]) [])) N n939 n940 xs941
  | 0, _, _, _, _ => rfl
  | N + 1, n939, n940, xs941, K => by rw [haystackref02_Bools_l4_step]; simp only [haystackref02_Bools_l4_L_eq N, haystackref02_Bools_l4_1_L_eq N]; rfl

theorem p51r0_4400 : ∀ sp, o51r0 (Ev.keyOf c51r0_4400 * 1000 + 400) = some sp → ∀ (R : Type) (r : R) st (K : Ex → St → Option R), sp st R K = some r → lp51r0_4400 NR st K = some r := by
    intro sp hsp R r st K h
    have h1 : o51r0 (Ev.keyOf c51r0_4400 * 1000 + 400) = some o51r0_4400 := by kernel_rfl
    obtain rfl := Option.some.inj (h1.symm.trans hsp)
    unfold o51r0_4400 at h
    obtain ⟨vs, hh, rfl, h2⟩ := pickM_some h
    unfold o51r0_4400_in at h2
    split at h2
    · exact (haystackref02_Bools_l4_L_eq NR _ _ _ K).trans (haystackref02_Bools_l4_unf _ _ _ (fun x0 x1 => K (Ex.exit 0) (St.mk (spread 18 0 [3] [AV.sl 0 0 x0 1]) [HB.live (Blk.bools x1)])) (fun _ => K (Ex.exit 0) (St.mk (spread 18 0 [3] [AV.esl]) []))).symm |>.trans h2
    · exact (haystackref02_Bools_l4_1_L_eq NR _ _ _ _ _ K).trans (haystackref02_Bools_l4_1_unf _ _ _ _ _ (fun x0 x1 => K (Ex.exit 0) (St.mk (spread 18 0 [3] [AV.sl 0 0 x0 1]) [HB.live (Blk.bools x1)]))).symm |>.trans h2
    · cases h2

theorem pc51r0 : ∀ x ∈ [(3994, true, c51r0_4400)], PieceOk (env (keepOf kpt) (vsOf [])) (evFun (env (keepOf kpt) (vsOf [])) S58 T23 10) o51r0 51 ([] : H).length x := List.forall_mem_cons.2 ⟨p51r0_4400, fun _ h => nomatch h⟩

theorem haystackref02_Bools_r_eq {R : Type} (n937 : Int) (xs938 : List Int) (K : AV → H → Option R) : evH (env (keepOf kpt) (vsOf [])) S58 T23 o51r0 10 51 [AV.agg (Blk.any [AV.int .i64 n937, AV.fsl (Blk.ints .u64 xs938)])] [] R K = haystackref02_Bools_r n937 xs938 (fun x0 x1 => K (AV.sl 0 0 x0 1) ([HB.live (Blk.bools x1)])) (fun _ => K (AV.esl) ([])) := by
  rw [haystackref02_Bools_r_unf]; kernel_rfl

noncomputable def hs51 : HSpec := fun args h _ K => match args, h with
  | [AV.agg (Blk.any [AV.int .i64 n937, AV.fsl (Blk.ints .u64 xs938)])], [] => haystackref02_Bools_r n937 xs938 (fun x0 x1 => K (AV.sl 0 0 x0 1) ([HB.live (Blk.bools x1)])) (fun _ => K (AV.esl) ([]))
  | _, _ => none

theorem hs51_nat : HNat hs51 := fun args h _ _ _ _ => by
  unfold hs51
  split
  · exact haystackref02_Bools_r_push _ _ (fun _ _ => rfl) (fun _ => rfl)
  · rfl

theorem hok51 : HSpecOk Try.prog (env (keepOf kpt) (vsOf [])) 51 hs51 :=
  HSpecOk.mk' hs51_nat (fun X args h m w us z h1 he g hr => by
    unfold hs51 at he
    split at he
    · exact evH_ok (env_types _ (vsOf [])) (env_funs _ (vsOf [])) S58_ok T23_ok (O := o51r0) o51r0_onat 10 51 ([] : H).length (fun fn c h1 h2 => by
    have e : (env (keepOf kpt) (vsOf [])).F 51 = some Try.f51 := by kernel_rfl
    obtain rfl := Option.some.inj (e.symm.trans h1)
    obtain rfl := body_of h2
    exact OrcOk.of 4000 _ _ (show orcs o51r0 4000 (bodyOf Try.f51) = some [(3994, true, c51r0_4400)] by kernel_rfl) pc51r0) rfl ((haystackref02_Bools_r_eq _ _ _).trans he) g hr
    · cases he)

noncomputable def T51 : FuncId → Option HSpec := fun g => match g.beq 51 with | true => some hs51 | false => T23 g
theorem T51_ok : ∀ g sp, T51 g = some sp → HSpecOk Try.prog (env (keepOf kpt) (vsOf [])) g sp := fun g sp h => by
  unfold T51 at h
  split at h
  · rename_i hb; cases h; obtain rfl := Nat.eq_of_beq_eq_true hb; exact hok51
  · exact T23_ok g sp h

noncomputable def o64r0_3000_in {R : Type} (K : Ex → St → Option R) (vs : List AV) (hh : H) : Option R := match vs, hh with
  | [AV.int .i64 n966, AV.ptr 0 0, AV.bool b967], [HB.live (Blk.any [AV.int .i64 n968, AV.esl])] => haystackref02_New_j3 n966 b967 n968 (fun x0 x1 => K (Ex.ret) (St.mk (spread 16 0 [2, 3] [AV.ptr 0 0, AV.int .i64 x0]) [HB.live (Blk.any [AV.int .i64 x1, AV.esl])])) (fun x0 x1 => K (Ex.normal) (St.mk (spread 16 0 [0, 2] [AV.int .i64 x0, AV.ptr 0 0]) [HB.live (Blk.any [AV.int .i64 x1, AV.esl])]))
  | _, _ => none
noncomputable def o64r0_3000 : PSpec := fun st _ K => pickM 16 [0, 2, 9] st (o64r0_3000_in K)

theorem o64r0_3000_nat (st : St) (R S : Type) (K : Ex → St → Option R) (J : R → Option S) : (o64r0_3000 st R K).bind J = o64r0_3000 st S fun ex st => (K ex st).bind J := by
  unfold o64r0_3000
  refine pickM_push fun vs hh => ?_
  unfold o64r0_3000_in
  split
  · exact haystackref02_New_j3_push _ _ _ (fun _ _ => rfl) (fun _ _ => rfl)
  · rfl

noncomputable def o64r0_4000_in {R : Type} (K : Ex → St → Option R) (vs : List AV) (hh : H) : Option R := match vs, hh with
  | [AV.int .i64 n973, AV.ptr 0 0], [HB.live (Blk.any [AV.int .i64 n974, AV.esl])] => haystackref02_New_j4 n973 n974 (fun x0 x1 x2 x3 => K (Ex.ret) (St.mk (spread 16 0 [2, 3] [AV.ptr 0 0, AV.int .i64 x0]) [HB.live (Blk.any [AV.int .i64 x1, AV.sl 1 0 x2 1]), HB.live (Blk.ints .u64 x3)]))
  | _, _ => none
noncomputable def o64r0_4000 : PSpec := fun st _ K => pickM 16 [0, 2] st (o64r0_4000_in K)

theorem o64r0_4000_nat (st : St) (R S : Type) (K : Ex → St → Option R) (J : R → Option S) : (o64r0_4000 st R K).bind J = o64r0_4000 st S fun ex st => (K ex st).bind J := by
  unfold o64r0_4000
  refine pickM_push fun vs hh => ?_
  unfold o64r0_4000_in
  split
  · exact haystackref02_New_j4_push _ _ (fun _ _ _ _ => rfl)
  · rfl

noncomputable def o64r0 : Nat → Option PSpec := lkN [(3000, o64r0_3000), (4000, o64r0_4000)]

theorem o64r0_onat : ONat o64r0 := ONat.consT o64r0_3000_nat (ONat.consT o64r0_4000_nat (ONat.nilT))

noncomputable def c64r0_4000 : Code := subC [1, 1] (bodyOf Try.f64)

noncomputable def c64r0_3000 : Code := subC [1, 0, 1] (bodyOf Try.f64)

theorem haystackref02_New_j3_eq {R : Type} (n966 : Int) (b967 : Bool) (n968 : Int) (K : Ex → St → Option R) : evCode (env (keepOf kpt) (vsOf [])) (evFun (env (keepOf kpt) (vsOf [])) S58 T51 10) o64r0 64 ([] : H).length 3997 c64r0_3000 (St.mk (spread 16 0 [0, 2, 9] [AV.int .i64 n966, AV.ptr 0 0, AV.bool b967]) [HB.live (Blk.any [AV.int .i64 n968, AV.esl])]) (kOut (env (keepOf kpt) (vsOf [])) 64 ([] : H).length (Ev.keyOf c64r0_3000 * 1000 + 1) K) = haystackref02_New_j3 n966 b967 n968 (fun x0 x1 => K (Ex.ret) (St.mk (spread 16 0 [2, 3] [AV.ptr 0 0, AV.int .i64 x0]) [HB.live (Blk.any [AV.int .i64 x1, AV.esl])])) (fun x0 x1 => K (Ex.normal) (St.mk (spread 16 0 [0, 2] [AV.int .i64 x0, AV.ptr 0 0]) [HB.live (Blk.any [AV.int .i64 x1, AV.esl])])) := by
  rw [haystackref02_New_j3_unf]; kernel_rfl

theorem haystackref02_New_j4_eq {R : Type} (n973 : Int) (n974 : Int) (K : Ex → St → Option R) : evCode (env (keepOf kpt) (vsOf [])) (evFun (env (keepOf kpt) (vsOf [])) S58 T51 10) o64r0 64 ([] : H).length 3998 c64r0_4000 (St.mk (spread 16 0 [0, 2] [AV.int .i64 n973, AV.ptr 0 0]) [HB.live (Blk.any [AV.int .i64 n974, AV.esl])]) (kOut (env (keepOf kpt) (vsOf [])) 64 ([] : H).length (Ev.keyOf c64r0_4000 * 1000 + 1) K) = haystackref02_New_j4 n973 n974 (fun x0 x1 x2 x3 => K (Ex.ret) (St.mk (spread 16 0 [2, 3] [AV.ptr 0 0, AV.int .i64 x0]) [HB.live (Blk.any [AV.int .i64 x1, AV.sl 1 0 x2 1]), HB.live (Blk.ints .u64 x3)])) := by
  rw [haystackref02_New_j4_unf]; kernel_rfl

theorem p64r0_4000 : ∀ sp, o64r0 (Ev.keyOf c64r0_4000 * 1000) = some sp → ∀ (R : Type) (r : R) st (K : Ex → St → Option R), sp st R K = some r → evCode (env (keepOf kpt) (vsOf [])) (evFun (env (keepOf kpt) (vsOf [])) S58 T51 10) o64r0 64 ([] : H).length 3998 c64r0_4000 st (kOut (env (keepOf kpt) (vsOf [])) 64 ([] : H).length (Ev.keyOf c64r0_4000 * 1000 + 1) K) = some r := by
    intro sp hsp R r st K h
    have h1 : o64r0 (Ev.keyOf c64r0_4000 * 1000) = some o64r0_4000 := by kernel_rfl
    obtain rfl := Option.some.inj (h1.symm.trans hsp)
    unfold o64r0_4000 at h
    obtain ⟨vs, hh, rfl, h2⟩ := pickM_some h
    unfold o64r0_4000_in at h2
    split at h2
    · exact (haystackref02_New_j4_eq _ _ K).trans h2
    · cases h2

theorem p64r0_3000 : ∀ sp, o64r0 (Ev.keyOf c64r0_3000 * 1000) = some sp → ∀ (R : Type) (r : R) st (K : Ex → St → Option R), sp st R K = some r → evCode (env (keepOf kpt) (vsOf [])) (evFun (env (keepOf kpt) (vsOf [])) S58 T51 10) o64r0 64 ([] : H).length 3997 c64r0_3000 st (kOut (env (keepOf kpt) (vsOf [])) 64 ([] : H).length (Ev.keyOf c64r0_3000 * 1000 + 1) K) = some r := by
    intro sp hsp R r st K h
    have h1 : o64r0 (Ev.keyOf c64r0_3000 * 1000) = some o64r0_3000 := by kernel_rfl
    obtain rfl := Option.some.inj (h1.symm.trans hsp)
    unfold o64r0_3000 at h
    obtain ⟨vs, hh, rfl, h2⟩ := pickM_some h
    unfold o64r0_3000_in at h2
    split at h2
    · exact (haystackref02_New_j3_eq _ _ _ K).trans h2
    · cases h2

theorem pc64r0 : ∀ x ∈ [(3998, false, c64r0_4000), (3997, false, c64r0_3000)], PieceOk (env (keepOf kpt) (vsOf [])) (evFun (env (keepOf kpt) (vsOf [])) S58 T51 10) o64r0 64 ([] : H).length x := List.forall_mem_cons.2 ⟨p64r0_4000, List.forall_mem_cons.2 ⟨p64r0_3000, fun _ h => nomatch h⟩⟩

theorem haystackref02_New_r_eq {R : Type} (n965 : Int) (K : AV → H → Option R) : evH (env (keepOf kpt) (vsOf [])) S58 T51 o64r0 10 64 [AV.int .i64 n965] [] R K = haystackref02_New_r n965 (fun x0 x1 => K (AV.tup [AV.agg (Blk.any [AV.int .i64 x0, AV.esl]), AV.int .i64 x1]) ([])) (fun x0 x1 x2 x3 => K (AV.tup [AV.agg (Blk.any [AV.int .i64 x0, AV.sl 0 0 x1 1]), AV.int .i64 x2]) ([HB.live (Blk.ints .u64 x3)])) := by
  rw [haystackref02_New_r_unf]; kernel_rfl

noncomputable def hs64 : HSpec := fun args h _ K => match args, h with
  | [AV.int .i64 n965], [] => haystackref02_New_r n965 (fun x0 x1 => K (AV.tup [AV.agg (Blk.any [AV.int .i64 x0, AV.esl]), AV.int .i64 x1]) ([])) (fun x0 x1 x2 x3 => K (AV.tup [AV.agg (Blk.any [AV.int .i64 x0, AV.sl 0 0 x1 1]), AV.int .i64 x2]) ([HB.live (Blk.ints .u64 x3)]))
  | _, _ => none

theorem hs64_nat : HNat hs64 := fun args h _ _ _ _ => by
  unfold hs64
  split
  · exact haystackref02_New_r_push _ (fun _ _ => rfl) (fun _ _ _ _ => rfl)
  · rfl

theorem hok64 : HSpecOk Try.prog (env (keepOf kpt) (vsOf [])) 64 hs64 :=
  HSpecOk.mk' hs64_nat (fun X args h m w us z h1 he g hr => by
    unfold hs64 at he
    split at he
    · exact evH_ok (env_types _ (vsOf [])) (env_funs _ (vsOf [])) S58_ok T51_ok (O := o64r0) o64r0_onat 10 64 ([] : H).length (fun fn c h1 h2 => by
    have e : (env (keepOf kpt) (vsOf [])).F 64 = some Try.f64 := by kernel_rfl
    obtain rfl := Option.some.inj (e.symm.trans h1)
    obtain rfl := body_of h2
    exact OrcOk.of 4000 _ _ (show orcs o64r0 4000 (bodyOf Try.f64) = some [(3998, false, c64r0_4000), (3997, false, c64r0_3000)] by kernel_rfl) pc64r0) rfl ((haystackref02_New_r_eq _ _).trans he) g hr
    · cases he)

noncomputable def T64 : FuncId → Option HSpec := fun g => match g.beq 64 with | true => some hs64 | false => T51 g
theorem T64_ok : ∀ g sp, T64 g = some sp → HSpecOk Try.prog (env (keepOf kpt) (vsOf [])) g sp := fun g sp h => by
  unfold T64 at h
  split at h
  · rename_i hb; cases h; obtain rfl := Nat.eq_of_beq_eq_true hb; exact hok64
  · exact T51_ok g sp h

noncomputable def o50r1_4400_in {R : Type} (K : Ex → St → Option R) (vs : List AV) (hh : H) : Option R := match vs, hh with
  | [AV.sl 0 0 l991 1, AV.ptr 1 0, AV.ptr 2 0, AV.int .i64 n992, AV.int .i64 n993], [HB.live (Blk.any []), HB.live (Blk.any [AV.int .i64 n994, AV.esl]), HB.live (Blk.any [AV.int .i64 n995, AV.esl])] => haystackref02_From_l4 l991 n992 n993 n994 n995 (fun x0 x1 x2 => K (Ex.exit 0) (St.mk (spread 29 0 [2, 4, 5] [AV.ptr 1 0, AV.ptr 2 0, AV.int .i64 x0]) [HB.live (Blk.any []), HB.live (Blk.any [AV.int .i64 x1, AV.esl]), HB.live (Blk.any [AV.int .i64 x2, AV.esl])]))
  | [AV.sl 0 0 l1003 1, AV.ptr 1 0, AV.ptr 2 0, AV.int .i64 n1004, AV.int .i64 n1005], [HB.live (Blk.any []), HB.live (Blk.any [AV.int .i64 n1006, AV.esl]), HB.live (Blk.any [AV.int .i64 n1007, AV.sl 3 0 l1008 1]), HB.live (Blk.ints .u64 xs1009)] => haystackref02_From_l4_1 l1003 n1004 n1005 n1006 n1007 l1008 xs1009 (fun x0 x1 x2 x3 x4 => K (Ex.exit 0) (St.mk (spread 29 0 [2, 4, 5] [AV.ptr 1 0, AV.ptr 2 0, AV.int .i64 x0]) [HB.live (Blk.any []), HB.live (Blk.any [AV.int .i64 x1, AV.esl]), HB.live (Blk.any [AV.int .i64 x2, AV.sl 3 0 x3 1]), HB.live (Blk.ints .u64 x4)]))
  | _, _ => none
noncomputable def o50r1_4400 : PSpec := fun st _ K => pickM 29 [0, 2, 4, 5, 6] st (o50r1_4400_in K)

theorem o50r1_4400_nat (st : St) (R S : Type) (K : Ex → St → Option R) (J : R → Option S) : (o50r1_4400 st R K).bind J = o50r1_4400 st S fun ex st => (K ex st).bind J := by
  unfold o50r1_4400
  refine pickM_push fun vs hh => ?_
  unfold o50r1_4400_in
  split
  · exact haystackref02_From_l4_push _ _ _ _ _ (fun _ _ _ => rfl)
  · exact haystackref02_From_l4_1_push _ _ _ _ _ _ _ (fun _ _ _ _ _ => rfl)
  · rfl

noncomputable def o50r1 : Nat → Option PSpec := lkN [(4400, o50r1_4400)]

theorem o50r1_onat : ONat o50r1 := ONat.consT o50r1_4400_nat (ONat.nilT)

noncomputable def c50r1_4400 : Code := subC [1, 1, 0, 1, 0, 0] (bodyOf Try.f50)

noncomputable def lp50r1_4400 {R : Type} (N : Nat) (st : St) (K : Ex → St → Option R) : Option R := evLoop (norm ((env (keepOf kpt) (vsOf [64])).keep 50 (Ev.keyOf c50r1_4400 * 1000 + 400)) 1) (evCode (env (keepOf kpt) (vsOf [64])) (evFun (env (keepOf kpt) (vsOf [64])) S58 T64 10) o50r1 50 1 3994 c50r1_4400) N st (kOut (env (keepOf kpt) (vsOf [64])) 50 1 (Ev.keyOf c50r1_4400 * 1000 + 401) K)

theorem haystackref02_From_l4_step {R : Type} (N : Nat) (l991 : Nat) (n992 : Int) (n993 : Int) (n994 : Int) (n995 : Int) (K : Ex → St → Option R) : lp50r1_4400 (N + 1) (St.mk (spread 29 0 [0, 2, 4, 5, 6] [AV.sl 0 0 l991 1, AV.ptr 1 0, AV.ptr 2 0, AV.int .i64 n992, AV.int .i64 n993]) [HB.live (Blk.any []), HB.live (Blk.any [AV.int .i64 n994, AV.esl]), HB.live (Blk.any [AV.int .i64 n995, AV.esl])]) K = haystackref02_From_l4_T (fun l991 n992 n993 n994 n995 => lp50r1_4400 N (St.mk (spread 29 0 [0, 2, 4, 5, 6] [AV.sl 0 0 l991 1, AV.ptr 1 0, AV.ptr 2 0, AV.int .i64 n992, AV.int .i64 n993]) [HB.live (Blk.any []), HB.live (Blk.any [AV.int .i64 n994, AV.esl]), HB.live (Blk.any [AV.int .i64 n995, AV.esl])]) K) l991 n992 n993 n994 n995 (fun x0 x1 x2 => K (Ex.exit 0) (St.mk (spread 29 0 [2, 4, 5] [AV.ptr 1 0, AV.ptr 2 0, AV.int .i64 x0]) [HB.live (Blk.any []), HB.live (Blk.any [AV.int .i64 x1, AV.esl]), HB.live (Blk.any [AV.int .i64 x2, AV.esl])])) := by kernel_rfl

theorem haystackref02_From_l4_L_eq {R : Type} : ∀ (N : Nat) (l991 : Nat) (n992 : Int) (n993 : Int) (n994 : Int) (n995 : Int) (K : Ex → St → Option R), lp50r1_4400 N (St.mk (spread 29 0 [0, 2, 4, 5, 6] [AV.sl 0 0 l991 1, AV.ptr 1 0, AV.ptr 2 0, AV.int .i64 n992, AV.int .i64 n993]) [HB.live (Blk.any []), HB.live (Blk.any [AV.int .i64 n994, AV.esl]), HB.live (Blk.any [AV.int .i64 n995, AV.esl])]) K = haystackref02_From_l4_L (fun x0 x1 x2 => K (Ex.exit 0) (St.mk (spread 29 0 [2, 4, 5] [AV.ptr 1 0, AV.ptr 2 0, AV.int .i64 x0]) [HB.live (Blk.any []), HB.live (Blk.any [AV.int .i64 x1, AV.esl]), HB.live (Blk.any [AV.int .i64 x2, AV.esl])])) N l991 n992 n993 n994 n995
  | 0, _, _, _, _, _, _ => rfl
  | N + 1, l991, n992, n993, n994, n995, K => by rw [haystackref02_From_l4_step]; simp only [haystackref02_From_l4_L_eq N]; rfl

theorem haystackref02_From_l4_1_step {R : Type} (N : Nat) (l1003 : Nat) (n1004 : Int) (n1005 : Int) (n1006 : Int) (n1007 : Int) (l1008 : Nat) (xs1009 : List Int) (K : Ex → St → Option R) : lp50r1_4400 (N + 1) (St.mk (spread 29 0 [0, 2, 4, 5, 6] [AV.sl 0 0 l1003 1, AV.ptr 1 0, AV.ptr 2 0, AV.int .i64 n1004, AV.int .i64 n1005]) [HB.live (Blk.any []), HB.live (Blk.any [AV.int .i64 n1006, AV.esl]), HB.live (Blk.any [AV.int .i64 n1007, AV.sl 3 0 l1008 1]), HB.live (Blk.ints .u64 xs1009)]) K = haystackref02_From_l4_1_T (fun l1003 n1004 n1005 n1006 n1007 l1008 xs1009 => lp50r1_4400 N (St.mk (spread 29 0 [0, 2, 4, 5, 6] [AV.sl 0 0 l1003 1, AV.ptr 1 0, AV.ptr 2 0, AV.int .i64 n1004, AV.int .i64 n1005]) [HB.live (Blk.any []), HB.live (Blk.any [AV.int .i64 n1006, AV.esl]), HB.live (Blk.any [AV.int .i64 n1007, AV.sl 3 0 l1008 1]), HB.live (Blk.ints .u64 xs1009)]) K) l1003 n1004 n1005 n1006 n1007 l1008 xs1009 (fun x0 x1 x2 x3 x4 => K (Ex.exit 0) (St.mk (spread 29 0 [2, 4, 5] [AV.ptr 1 0, AV.ptr 2 0, AV.int .i64 x0]) [HB.live (Blk.any []), HB.live (Blk.any [AV.int .i64 x1, AV.esl]), HB.live (Blk.any [AV.int .i64 x2, AV.sl 3 0 x3 1]), HB.live (Blk.ints .u64 x4)])) := by kernel_rfl

theorem haystackref02_From_l4_1_L_eq {R : Type} : ∀ (N : Nat) (l1003 : Nat) (n1004 : Int) (n1005 : Int) (n1006 : Int) (n1007 : Int) (l1008 : Nat) (xs1009 : List Int) (K : Ex → St → Option R), lp50r1_4400 N (St.mk (spread 29 0 [0, 2, 4, 5, 6] [AV.sl 0 0 l1003 1, AV.ptr 1 0, AV.ptr 2 0, AV.int .i64 n1004, AV.int .i64 n1005]) [HB.live (Blk.any []), HB.live (Blk.any [AV.int .i64 n1006, AV.esl]), HB.live (Blk.any [AV.int .i64 n1007, AV.sl 3 0 l1008 1]), HB.live (Blk.ints .u64 xs1009)]) K = haystackref02_From_l4_1_L (fun x0 x1 x2 x3 x4 => K (Ex.exit 0) (St.mk (spread 29 0 [2, 4, 5] [AV.ptr 1 0, AV.ptr 2 0, AV.int .i64 x0]) [HB.live (Blk.any []), HB.live (Blk.any [AV.int .i64 x1, AV.esl]), HB.live (Blk.any [AV.int .i64 x2, AV.sl 3 0 x3 1]), HB.live (Blk.ints .u64 x4)])) N l1003 n1004 n1005 n1006 n1007 l1008 xs1009
  | 0, _, _, _, _, _, _, _, _ => rfl
  | N + 1, l1003, n1004, n1005, n1006, n1007, l1008, xs1009, K => by rw [haystackref02_From_l4_1_step]; simp only [haystackref02_From_l4_1_L_eq N]; rfl

theorem p50r1_4400 : ∀ sp, o50r1 (Ev.keyOf c50r1_4400 * 1000 + 400) = some sp → ∀ (R : Type) (r : R) st (K : Ex → St → Option R), sp st R K = some r → lp50r1_4400 NR st K = some r := by
    intro sp hsp R r st K h
    have h1 : o50r1 (Ev.keyOf c50r1_4400 * 1000 + 400) = some o50r1_4400 := by kernel_rfl
    obtain rfl := Option.some.inj (h1.symm.trans hsp)
    unfold o50r1_4400 at h
    obtain ⟨vs, hh, rfl, h2⟩ := pickM_some h
    unfold o50r1_4400_in at h2
    split at h2
    · exact (haystackref02_From_l4_L_eq NR _ _ _ _ _ K).trans (haystackref02_From_l4_unf _ _ _ _ _ (fun x0 x1 x2 => K (Ex.exit 0) (St.mk (spread 29 0 [2, 4, 5] [AV.ptr 1 0, AV.ptr 2 0, AV.int .i64 x0]) [HB.live (Blk.any []), HB.live (Blk.any [AV.int .i64 x1, AV.esl]), HB.live (Blk.any [AV.int .i64 x2, AV.esl])]))).symm |>.trans h2
    · exact (haystackref02_From_l4_1_L_eq NR _ _ _ _ _ _ _ K).trans (haystackref02_From_l4_1_unf _ _ _ _ _ _ _ (fun x0 x1 x2 x3 x4 => K (Ex.exit 0) (St.mk (spread 29 0 [2, 4, 5] [AV.ptr 1 0, AV.ptr 2 0, AV.int .i64 x0]) [HB.live (Blk.any []), HB.live (Blk.any [AV.int .i64 x1, AV.esl]), HB.live (Blk.any [AV.int .i64 x2, AV.sl 3 0 x3 1]), HB.live (Blk.ints .u64 x4)]))).symm |>.trans h2
    · cases h2

theorem pc50r1 : ∀ x ∈ [(3994, true, c50r1_4400)], PieceOk (env (keepOf kpt) (vsOf [64])) (evFun (env (keepOf kpt) (vsOf [64])) S58 T64 10) o50r1 50 1 x := List.forall_mem_cons.2 ⟨p50r1_4400, fun _ h => nomatch h⟩

theorem haystackref02_From_r_eq {R : Type} (l964 : Nat) (K : AV → H → Option R) : evH (env (keepOf kpt) (vsOf [64])) S58 T64 o50r1 10 50 [AV.sl 0 0 l964 1] [HB.live (Blk.any [])] R K = haystackref02_From_r l964 (fun x0 x1 => K (AV.tup [AV.agg (Blk.any [AV.int .i64 x0, AV.esl]), AV.int .i64 x1]) ([HB.live (Blk.any [])])) (fun x0 x1 x2 x3 => K (AV.tup [AV.agg (Blk.any [AV.int .i64 x0, AV.sl 1 0 x1 1]), AV.int .i64 x2]) ([HB.live (Blk.any []), HB.live (Blk.ints .u64 x3)])) := by
  rw [haystackref02_From_r_unf]; kernel_rfl

noncomputable def hs50 : HSpec := fun args h _ K => match args, h with
  | [AV.sl 0 0 l964 1], [HB.live (Blk.any [])] => haystackref02_From_r l964 (fun x0 x1 => K (AV.tup [AV.agg (Blk.any [AV.int .i64 x0, AV.esl]), AV.int .i64 x1]) ([HB.live (Blk.any [])])) (fun x0 x1 x2 x3 => K (AV.tup [AV.agg (Blk.any [AV.int .i64 x0, AV.sl 1 0 x1 1]), AV.int .i64 x2]) ([HB.live (Blk.any []), HB.live (Blk.ints .u64 x3)]))
  | _, _ => none

theorem hs50_nat : HNat hs50 := fun args h _ _ _ _ => by
  unfold hs50
  split
  · exact haystackref02_From_r_push _ (fun _ _ => rfl) (fun _ _ _ _ => rfl)
  · rfl

theorem hok50 : HSpecOk Try.prog (env (keepOf kpt) (vsOf [])) 50 hs50 :=
  hspec_env (vs := vsOf [64]) _ <| HSpecOk.mk' hs50_nat (fun X args h m w us z h1 he g hr => by
    unfold hs50 at he
    split at he
    · exact evH_ok (env_types _ (vsOf [64])) (env_funs _ (vsOf [64])) (fun g sp h => spec_env _ (S58_ok g sp h)) (fun g hs h => hspec_env _ (T64_ok g hs h)) (O := o50r1) o50r1_onat 10 50 1 (fun fn c h1 h2 => by
    have e : (env (keepOf kpt) (vsOf [64])).F 50 = some Try.f50 := by kernel_rfl
    obtain rfl := Option.some.inj (e.symm.trans h1)
    obtain rfl := body_of h2
    exact OrcOk.of 4000 _ _ (show orcs o50r1 4000 (bodyOf Try.f50) = some [(3994, true, c50r1_4400)] by kernel_rfl) pc50r1) rfl ((haystackref02_From_r_eq _ _).trans he) g hr
    · cases he)

noncomputable def T50 : FuncId → Option HSpec := fun g => match g.beq 50 with | true => some hs50 | false => T64 g
theorem T50_ok : ∀ g sp, T50 g = some sp → HSpecOk Try.prog (env (keepOf kpt) (vsOf [])) g sp := fun g sp h => by
  unfold T50 at h
  split at h
  · rename_i hb; cases h; obtain rfl := Nat.eq_of_beq_eq_true hb; exact hok50
  · exact T64_ok g sp h

noncomputable def o24_3000_in {R : Type} (K : Ex → St → Option R) (vs : List AV) (hh : H) : Option R := match vs, hh with
  | [AV.ptr 0 0, AV.ptr 1 0, AV.ptr 2 0, AV.bool b918], [HB.live (Blk.any [AV.int .i64 n919, AV.fsl (Blk.ints .u64 xs920)]), HB.live (Blk.any [AV.int .i64 n921, AV.fsl (Blk.ints .u64 xs922)]), HB.live (Blk.any [AV.int .i64 n923, AV.esl])] => haystackref02_Join_j3 b918 n919 xs920 n921 xs922 n923 (fun x0 x1 x2 => K (Ex.ret) (St.mk (spread 31 0 [4, 5] [AV.ptr 0 0, AV.int .i64 x0]) [HB.live (Blk.any [AV.int .i64 x1, AV.fsl (Blk.ints .u64 x2)])])) (fun x0 x1 x2 x3 x4 => K (Ex.normal) (St.mk (spread 31 0 [2, 3, 4] [AV.ptr 0 0, AV.ptr 1 0, AV.ptr 2 0]) [HB.live (Blk.any [AV.int .i64 x0, AV.fsl (Blk.ints .u64 x1)]), HB.live (Blk.any [AV.int .i64 x2, AV.fsl (Blk.ints .u64 x3)]), HB.live (Blk.any [AV.int .i64 x4, AV.esl])]))
  | _, _ => none
noncomputable def o24_3000 : PSpec := fun st _ K => pickM 31 [2, 3, 4, 21] st (o24_3000_in K)

theorem o24_3000_nat (st : St) (R S : Type) (K : Ex → St → Option R) (J : R → Option S) : (o24_3000 st R K).bind J = o24_3000 st S fun ex st => (K ex st).bind J := by
  unfold o24_3000
  refine pickM_push fun vs hh => ?_
  unfold o24_3000_in
  split
  · exact haystackref02_Join_j3_push _ _ _ _ _ _ (fun _ _ _ => rfl) (fun _ _ _ _ _ => rfl)
  · rfl

noncomputable def o24_4000_in {R : Type} (K : Ex → St → Option R) (vs : List AV) (hh : H) : Option R := match vs, hh with
  | [AV.ptr 0 0, AV.ptr 1 0, AV.ptr 2 0], [HB.live (Blk.any [AV.int .i64 n932, AV.fsl (Blk.ints .u64 xs933)]), HB.live (Blk.any [AV.int .i64 n934, AV.fsl (Blk.ints .u64 xs935)]), HB.live (Blk.any [AV.int .i64 n936, AV.esl])] => haystackref02_Join_j4 n932 xs933 n934 xs935 n936 (fun x0 x1 => K (Ex.ret) (St.mk (spread 31 0 [4, 5] [AV.ptr 0 0, AV.int .i64 x0]) [HB.live (Blk.any [AV.int .i64 x1, AV.esl])]))
  | _, _ => none
noncomputable def o24_4000 : PSpec := fun st _ K => pickM 31 [2, 3, 4] st (o24_4000_in K)

theorem o24_4000_nat (st : St) (R S : Type) (K : Ex → St → Option R) (J : R → Option S) : (o24_4000 st R K).bind J = o24_4000 st S fun ex st => (K ex st).bind J := by
  unfold o24_4000
  refine pickM_push fun vs hh => ?_
  unfold o24_4000_in
  split
  · exact haystackref02_Join_j4_push _ _ _ _ _ (fun _ _ => rfl)
  · rfl

noncomputable def o24 : Nat → Option PSpec := lkN [(3000, o24_3000), (4000, o24_4000)]

theorem o24_onat : ONat o24 := ONat.consT o24_3000_nat (ONat.consT o24_4000_nat (ONat.nilT))

noncomputable def c24_4000 : Code := subC [1, 1] (bodyOf Try.f24)

noncomputable def c24_3000 : Code := subC [1, 0, 1] (bodyOf Try.f24)

theorem haystackref02_Join_j3_eq {R : Type} (b918 : Bool) (n919 : Int) (xs920 : List Int) (n921 : Int) (xs922 : List Int) (n923 : Int) (K : Ex → St → Option R) : evCode (env (keepOf kpt) (vsOf [51])) (evFun (env (keepOf kpt) (vsOf [51])) S58 T50 10) o24 24 ([] : H).length 3997 c24_3000 (St.mk (spread 31 0 [2, 3, 4, 21] [AV.ptr 0 0, AV.ptr 1 0, AV.ptr 2 0, AV.bool b918]) [HB.live (Blk.any [AV.int .i64 n919, AV.fsl (Blk.ints .u64 xs920)]), HB.live (Blk.any [AV.int .i64 n921, AV.fsl (Blk.ints .u64 xs922)]), HB.live (Blk.any [AV.int .i64 n923, AV.esl])]) (kOut (env (keepOf kpt) (vsOf [51])) 24 ([] : H).length (Ev.keyOf c24_3000 * 1000 + 1) K) = haystackref02_Join_j3 b918 n919 xs920 n921 xs922 n923 (fun x0 x1 x2 => K (Ex.ret) (St.mk (spread 31 0 [4, 5] [AV.ptr 0 0, AV.int .i64 x0]) [HB.live (Blk.any [AV.int .i64 x1, AV.fsl (Blk.ints .u64 x2)])])) (fun x0 x1 x2 x3 x4 => K (Ex.normal) (St.mk (spread 31 0 [2, 3, 4] [AV.ptr 0 0, AV.ptr 1 0, AV.ptr 2 0]) [HB.live (Blk.any [AV.int .i64 x0, AV.fsl (Blk.ints .u64 x1)]), HB.live (Blk.any [AV.int .i64 x2, AV.fsl (Blk.ints .u64 x3)]), HB.live (Blk.any [AV.int .i64 x4, AV.esl])])) := by
  rw [haystackref02_Join_j3_unf]; kernel_rfl

theorem haystackref02_Join_j4_eq {R : Type} (n932 : Int) (xs933 : List Int) (n934 : Int) (xs935 : List Int) (n936 : Int) (K : Ex → St → Option R) : evCode (env (keepOf kpt) (vsOf [51])) (evFun (env (keepOf kpt) (vsOf [51])) S58 T50 10) o24 24 ([] : H).length 3998 c24_4000 (St.mk (spread 31 0 [2, 3, 4] [AV.ptr 0 0, AV.ptr 1 0, AV.ptr 2 0]) [HB.live (Blk.any [AV.int .i64 n932, AV.fsl (Blk.ints .u64 xs933)]), HB.live (Blk.any [AV.int .i64 n934, AV.fsl (Blk.ints .u64 xs935)]), HB.live (Blk.any [AV.int .i64 n936, AV.esl])]) (kOut (env (keepOf kpt) (vsOf [51])) 24 ([] : H).length (Ev.keyOf c24_4000 * 1000 + 1) K) = haystackref02_Join_j4 n932 xs933 n934 xs935 n936 (fun x0 x1 => K (Ex.ret) (St.mk (spread 31 0 [4, 5] [AV.ptr 0 0, AV.int .i64 x0]) [HB.live (Blk.any [AV.int .i64 x1, AV.esl])])) := by
  rw [haystackref02_Join_j4_unf]; kernel_rfl

theorem p24_4000 : ∀ sp, o24 (Ev.keyOf c24_4000 * 1000) = some sp → ∀ (R : Type) (r : R) st (K : Ex → St → Option R), sp st R K = some r → evCode (env (keepOf kpt) (vsOf [51])) (evFun (env (keepOf kpt) (vsOf [51])) S58 T50 10) o24 24 ([] : H).length 3998 c24_4000 st (kOut (env (keepOf kpt) (vsOf [51])) 24 ([] : H).length (Ev.keyOf c24_4000 * 1000 + 1) K) = some r := by
    intro sp hsp R r st K h
    have h1 : o24 (Ev.keyOf c24_4000 * 1000) = some o24_4000 := by kernel_rfl
    obtain rfl := Option.some.inj (h1.symm.trans hsp)
    unfold o24_4000 at h
    obtain ⟨vs, hh, rfl, h2⟩ := pickM_some h
    unfold o24_4000_in at h2
    split at h2
    · exact (haystackref02_Join_j4_eq _ _ _ _ _ K).trans h2
    · cases h2

theorem p24_3000 : ∀ sp, o24 (Ev.keyOf c24_3000 * 1000) = some sp → ∀ (R : Type) (r : R) st (K : Ex → St → Option R), sp st R K = some r → evCode (env (keepOf kpt) (vsOf [51])) (evFun (env (keepOf kpt) (vsOf [51])) S58 T50 10) o24 24 ([] : H).length 3997 c24_3000 st (kOut (env (keepOf kpt) (vsOf [51])) 24 ([] : H).length (Ev.keyOf c24_3000 * 1000 + 1) K) = some r := by
    intro sp hsp R r st K h
    have h1 : o24 (Ev.keyOf c24_3000 * 1000) = some o24_3000 := by kernel_rfl
    obtain rfl := Option.some.inj (h1.symm.trans hsp)
    unfold o24_3000 at h
    obtain ⟨vs, hh, rfl, h2⟩ := pickM_some h
    unfold o24_3000_in at h2
    split at h2
    · exact (haystackref02_Join_j3_eq _ _ _ _ _ _ K).trans h2
    · cases h2

theorem pc24 : ∀ x ∈ [(3998, false, c24_4000), (3997, false, c24_3000)], PieceOk (env (keepOf kpt) (vsOf [51])) (evFun (env (keepOf kpt) (vsOf [51])) S58 T50 10) o24 24 ([] : H).length x := List.forall_mem_cons.2 ⟨p24_4000, List.forall_mem_cons.2 ⟨p24_3000, fun _ h => nomatch h⟩⟩

theorem haystackref02_Join_eq {R : Type} (n913 : Int) (xs914 : List Int) (n915 : Int) (xs916 : List Int) (K : AV → Option R) : evSpec (env (keepOf kpt) (vsOf [51])) S58 T50 o24 10 24 ([AV.agg (Blk.any [AV.int .i64 n913, AV.fsl (Blk.ints .u64 xs914)]), AV.agg (Blk.any [AV.int .i64 n915, AV.fsl (Blk.ints .u64 xs916)])]) R K = haystackref02_Join n913 xs914 n915 xs916 (fun x0 x1 x2 => K (AV.tup [AV.agg (Blk.any [AV.int .i64 x0, AV.fsl (Blk.ints .u64 x1)]), AV.int .i64 x2])) := by
  rw [haystackref02_Join_unf]; kernel_rfl

noncomputable def sp24 : Ev.Spec := fun args _ K => match args with
  | ([AV.agg (Blk.any [AV.int .i64 n913, AV.fsl (Blk.ints .u64 xs914)]), AV.agg (Blk.any [AV.int .i64 n915, AV.fsl (Blk.ints .u64 xs916)])]) => haystackref02_Join n913 xs914 n915 xs916 (fun x0 x1 x2 => K (AV.tup [AV.agg (Blk.any [AV.int .i64 x0, AV.fsl (Blk.ints .u64 x1)]), AV.int .i64 x2]))
  | _ => none

theorem sp24_nat : SpecNat sp24 := fun args _ _ _ _ => by
  unfold sp24
  split
  · exact haystackref02_Join_push _ _ _ _ (fun _ _ _ => rfl)
  · rfl

theorem ok24 : SpecOk Try.prog (env (keepOf kpt) (vsOf [])) 24 sp24 :=
  spec_env (vs := vsOf [51]) _ <| SpecOk.of (evSpec_ok (env_types _ _) (env_funs _ _) (fun g sp h => spec_env _ (S58_ok g sp h)) (fun g hs h => hspec_env _ (T50_ok g hs h)) (O := o24) o24_onat 10 24 (fun fn c h1 h2 => by
    have e : (env (keepOf kpt) (vsOf [51])).F 24 = some Try.f24 := by kernel_rfl
    obtain rfl := Option.some.inj (e.symm.trans h1)
    obtain rfl := body_of h2
    exact OrcOk.of 4000 _ _ (show orcs o24 4000 (bodyOf Try.f24) = some [(3998, false, c24_4000), (3997, false, c24_3000)] by kernel_rfl) pc24)) sp24_nat (fun args z h => by
    unfold sp24 at h
    split at h
    · exact (haystackref02_Join_eq _ _ _ _ some).trans h
    · cases h)

noncomputable def S24 : FuncId → Option Ev.Spec := fun g => match g.beq 24 with | true => some sp24 | false => S58 g
theorem S24_ok : ∀ g sp, S24 g = some sp → SpecOk Try.prog (env (keepOf kpt) (vsOf [])) g sp := fun g sp h => by
  unfold S24 at h
  split at h
  · rename_i hb; cases h; obtain rfl := Nat.eq_of_beq_eq_true hb; exact ok24
  · exact S58_ok g sp h

noncomputable def o5_4000_in {R : Type} (K : Ex → St → Option R) (vs : List AV) (hh : H) : Option R := match vs, hh with
  | [AV.int .i64 n505, AV.int .u64 n506, AV.int .i64 n507, AV.ptr 0 0, AV.ptr 1 0], [HB.live (Blk.any [AV.int .i64 n508, AV.fsl (Blk.ints .u64 xs509)]), HB.live (Blk.any [AV.int .i64 n510, AV.fsl (Blk.ints .u64 xs511)])] => haystacklaw02_BitsBecome_j4 n505 n506 n507 n508 xs509 n510 xs511 (fun x0 => K (Ex.ret) (St.mk (spread 120 0 [10] [AV.bool x0]) []))
  | _, _ => none
noncomputable def o5_4000 : PSpec := fun st _ K => pickM 120 [2, 3, 4, 5, 6] st (o5_4000_in K)

theorem o5_4000_nat (st : St) (R S : Type) (K : Ex → St → Option R) (J : R → Option S) : (o5_4000 st R K).bind J = o5_4000 st S fun ex st => (K ex st).bind J := by
  unfold o5_4000
  refine pickM_push fun vs hh => ?_
  unfold o5_4000_in
  split
  · exact haystacklaw02_BitsBecome_j4_push _ _ _ _ _ _ _ (fun _ => rfl)
  · rfl

noncomputable def o5 : Nat → Option PSpec := lkN [(4000, o5_4000)]

theorem o5_onat : ONat o5 := ONat.consT o5_4000_nat (ONat.nilT)

noncomputable def c5_4000 : Code := subC [1, 1] (bodyOf Try.f5)

theorem haystacklaw02_BitsBecome_j4_eq {R : Type} (n505 : Int) (n506 : Int) (n507 : Int) (n508 : Int) (xs509 : List Int) (n510 : Int) (xs511 : List Int) (K : Ex → St → Option R) : evCode (env (keepOf kpt) (vsOf [])) (evFun (env (keepOf kpt) (vsOf [])) S24 T50 10) o5 5 ([] : H).length 3998 c5_4000 (St.mk (spread 120 0 [2, 3, 4, 5, 6] [AV.int .i64 n505, AV.int .u64 n506, AV.int .i64 n507, AV.ptr 0 0, AV.ptr 1 0]) [HB.live (Blk.any [AV.int .i64 n508, AV.fsl (Blk.ints .u64 xs509)]), HB.live (Blk.any [AV.int .i64 n510, AV.fsl (Blk.ints .u64 xs511)])]) (kOut (env (keepOf kpt) (vsOf [])) 5 ([] : H).length (Ev.keyOf c5_4000 * 1000 + 1) K) = haystacklaw02_BitsBecome_j4 n505 n506 n507 n508 xs509 n510 xs511 (fun x0 => K (Ex.ret) (St.mk (spread 120 0 [10] [AV.bool x0]) [])) := by
  rw [haystacklaw02_BitsBecome_j4_unf]; kernel_rfl

theorem p5_4000 : ∀ sp, o5 (Ev.keyOf c5_4000 * 1000) = some sp → ∀ (R : Type) (r : R) st (K : Ex → St → Option R), sp st R K = some r → evCode (env (keepOf kpt) (vsOf [])) (evFun (env (keepOf kpt) (vsOf [])) S24 T50 10) o5 5 ([] : H).length 3998 c5_4000 st (kOut (env (keepOf kpt) (vsOf [])) 5 ([] : H).length (Ev.keyOf c5_4000 * 1000 + 1) K) = some r := by
    intro sp hsp R r st K h
    have h1 : o5 (Ev.keyOf c5_4000 * 1000) = some o5_4000 := by kernel_rfl
    obtain rfl := Option.some.inj (h1.symm.trans hsp)
    unfold o5_4000 at h
    obtain ⟨vs, hh, rfl, h2⟩ := pickM_some h
    unfold o5_4000_in at h2
    split at h2
    · exact (haystacklaw02_BitsBecome_j4_eq _ _ _ _ _ _ _ K).trans h2
    · cases h2

theorem pc5 : ∀ x ∈ [(3998, false, c5_4000)], PieceOk (env (keepOf kpt) (vsOf [])) (evFun (env (keepOf kpt) (vsOf [])) S24 T50 10) o5 5 ([] : H).length x := List.forall_mem_cons.2 ⟨p5_4000, fun _ h => nomatch h⟩

theorem haystacklaw02_BitsBecome_eq {R : Type} (n494 : Int) (xs495 : List Int) (n496 : Int) (xs497 : List Int) (n498 : Int) (n499 : Int) (n500 : Int) (K : AV → Option R) : evSpec (env (keepOf kpt) (vsOf [])) S24 T50 o5 10 5 ([AV.agg (Blk.any [AV.int .i64 n494, AV.fsl (Blk.ints .u64 xs495)]), AV.agg (Blk.any [AV.int .i64 n496, AV.fsl (Blk.ints .u64 xs497)]), AV.int .i64 n498, AV.int .u64 n499, AV.int .i64 n500]) R K = haystacklaw02_BitsBecome n494 xs495 n496 xs497 n498 n499 n500 (fun x0 => K (AV.bool x0)) := by
  rw [haystacklaw02_BitsBecome_unf]; kernel_rfl

noncomputable def sp5 : Ev.Spec := fun args _ K => match args with
  | ([AV.agg (Blk.any [AV.int .i64 n494, AV.fsl (Blk.ints .u64 xs495)]), AV.agg (Blk.any [AV.int .i64 n496, AV.fsl (Blk.ints .u64 xs497)]), AV.int .i64 n498, AV.int .u64 n499, AV.int .i64 n500]) => haystacklaw02_BitsBecome n494 xs495 n496 xs497 n498 n499 n500 (fun x0 => K (AV.bool x0))
  | _ => none

theorem sp5_nat : SpecNat sp5 := fun args _ _ _ _ => by
  unfold sp5
  split
  · exact haystacklaw02_BitsBecome_push _ _ _ _ _ _ _ (fun _ => rfl)
  · rfl

theorem ok5 : SpecOk Try.prog (env (keepOf kpt) (vsOf [])) 5 sp5 :=
  SpecOk.of (evSpec_ok (env_types _ _) (env_funs _ _) S24_ok T50_ok (O := o5) o5_onat 10 5 (fun fn c h1 h2 => by
    have e : (env (keepOf kpt) (vsOf [])).F 5 = some Try.f5 := by kernel_rfl
    obtain rfl := Option.some.inj (e.symm.trans h1)
    obtain rfl := body_of h2
    exact OrcOk.of 4000 _ _ (show orcs o5 4000 (bodyOf Try.f5) = some [(3998, false, c5_4000)] by kernel_rfl) pc5)) sp5_nat (fun args z h => by
    unfold sp5 at h
    split at h
    · exact (haystacklaw02_BitsBecome_eq _ _ _ _ _ _ _ some).trans h
    · cases h)

noncomputable def S5 : FuncId → Option Ev.Spec := fun g => match g.beq 5 with | true => some sp5 | false => S24 g
theorem S5_ok : ∀ g sp, S5 g = some sp → SpecOk Try.prog (env (keepOf kpt) (vsOf [])) g sp := fun g sp h => by
  unfold S5 at h
  split at h
  · rename_i hb; cases h; obtain rfl := Nat.eq_of_beq_eq_true hb; exact ok5
  · exact S24_ok g sp h

noncomputable def o6_4000_in {R : Type} (K : Ex → St → Option R) (vs : List AV) (hh : H) : Option R := match vs, hh with
  | [AV.int .u64 n1215, AV.int .i64 n1216, AV.int .i64 n1217, AV.ptr 0 0], [HB.live (Blk.any [AV.int .i64 n1218, AV.fsl (Blk.ints .u64 xs1219)])] => haystacklaw02_BitsBack_j4 n1215 n1216 n1217 n1218 xs1219 (fun x0 => K (Ex.ret) (St.mk (spread 121 0 [8] [AV.bool x0]) []))
  | _, _ => none
noncomputable def o6_4000 : PSpec := fun st _ K => pickM 121 [1, 2, 3, 4] st (o6_4000_in K)

theorem o6_4000_nat (st : St) (R S : Type) (K : Ex → St → Option R) (J : R → Option S) : (o6_4000 st R K).bind J = o6_4000 st S fun ex st => (K ex st).bind J := by
  unfold o6_4000
  refine pickM_push fun vs hh => ?_
  unfold o6_4000_in
  split
  · exact haystacklaw02_BitsBack_j4_push _ _ _ _ _ (fun _ => rfl)
  · rfl

noncomputable def o6_9000_in {R : Type} (K : Ex → St → Option R) (vs : List AV) (hh : H) : Option R := match vs, hh with
  | [AV.int .i64 n1225, AV.int .i64 n1226, AV.ptr 0 0, AV.ptr 1 0, AV.int .i64 n1227, AV.int .u64 n1228, AV.int .i64 n1229, AV.int .u64 n1230], [HB.live (Blk.any [AV.int .i64 n1231, AV.fsl (Blk.ints .u64 xs1232)]), HB.live (Blk.any [AV.int .i64 n1233, AV.fsl (Blk.ints .u64 xs1234)])] => haystacklaw02_BitsBack_j9 n1225 n1226 n1227 n1228 n1229 n1230 n1231 xs1232 n1233 xs1234 (fun x0 => K (Ex.ret) (St.mk (spread 121 0 [8] [AV.bool x0]) []))
  | _, _ => none
noncomputable def o6_9000 : PSpec := fun st _ K => pickM 121 [2, 3, 4, 9, 10, 11, 12, 13] st (o6_9000_in K)
end Go.Proofs.Ytkjadjdcbpiebaa
