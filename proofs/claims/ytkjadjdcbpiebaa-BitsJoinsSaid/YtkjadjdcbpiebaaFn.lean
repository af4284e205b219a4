/- The functions that this seat's laws reach, as plain functions, and that they are what the program does. Printed by a program of this repo (wip/Prt). -/
import Derived.Test.YtkjadjdcbpiebaaEnv
import Derived.Test.YtkjadjdcbpiebaaEv23
import Derived.KernelRfl
import Derived.Test.YtkjadjdcbpiebaaFn2
namespace Go.Proofs.Ytkjadjdcbpiebaa
open Go Go.Ev
set_option maxRecDepth 100000

theorem o6_9000_nat (st : St) (R S : Type) (K : Ex → St → Option R) (J : R → Option S) : (o6_9000 st R K).bind J = o6_9000 st S fun ex st => (K ex st).bind J := by
  unfold o6_9000
  refine pickM_push fun vs hh => ?_
  unfold o6_9000_in
  split
  · exact haystacklaw02_BitsBack_j9_push _ _ _ _ _ _ _ _ _ _ (fun _ => rfl)
  · rfl

noncomputable def o6 : Nat → Option PSpec := lkN [(4000, o6_4000), (9000, o6_9000)]

theorem o6_onat : ONat o6 := ONat.consT o6_4000_nat (ONat.consT o6_9000_nat (ONat.nilT))

noncomputable def c6_4000 : Code := subC [1, 1] (bodyOf Try.f6)

noncomputable def c6_9000 : Code := subC [1, 1, 1, 1, 1, 1] (bodyOf Try.f6)

theorem haystacklaw02_BitsBack_j9_eq {R : Type} (n1225 : Int) (n1226 : Int) (n1227 : Int) (n1228 : Int) (n1229 : Int) (n1230 : Int) (n1231 : Int) (xs1232 : List Int) (n1233 : Int) (xs1234 : List Int) (K : Ex → St → Option R) : evCode (env (keepOf kpt) (vsOf [])) (evFun (env (keepOf kpt) (vsOf [])) S5 T50 10) o6 6 ([] : H).length 3994 c6_9000 (St.mk (spread 121 0 [2, 3, 4, 9, 10, 11, 12, 13] [AV.int .i64 n1225, AV.int .i64 n1226, AV.ptr 0 0, AV.ptr 1 0, AV.int .i64 n1227, AV.int .u64 n1228, AV.int .i64 n1229, AV.int .u64 n1230]) [HB.live (Blk.any [AV.int .i64 n1231, AV.fsl (Blk.ints .u64 xs1232)]), HB.live (Blk.any [AV.int .i64 n1233, AV.fsl (Blk.ints .u64 xs1234)])]) (kOut (env (keepOf kpt) (vsOf [])) 6 ([] : H).length (Ev.keyOf c6_9000 * 1000 + 1) K) = haystacklaw02_BitsBack_j9 n1225 n1226 n1227 n1228 n1229 n1230 n1231 xs1232 n1233 xs1234 (fun x0 => K (Ex.ret) (St.mk (spread 121 0 [8] [AV.bool x0]) [])) := by
  rw [haystacklaw02_BitsBack_j9_unf]; kernel_rfl

theorem haystacklaw02_BitsBack_j4_eq {R : Type} (n1215 : Int) (n1216 : Int) (n1217 : Int) (n1218 : Int) (xs1219 : List Int) (K : Ex → St → Option R) : evCode (env (keepOf kpt) (vsOf [])) (evFun (env (keepOf kpt) (vsOf [])) S5 T50 10) o6 6 ([] : H).length 3998 c6_4000 (St.mk (spread 121 0 [1, 2, 3, 4] [AV.int .u64 n1215, AV.int .i64 n1216, AV.int .i64 n1217, AV.ptr 0 0]) [HB.live (Blk.any [AV.int .i64 n1218, AV.fsl (Blk.ints .u64 xs1219)])]) (kOut (env (keepOf kpt) (vsOf [])) 6 ([] : H).length (Ev.keyOf c6_4000 * 1000 + 1) K) = haystacklaw02_BitsBack_j4 n1215 n1216 n1217 n1218 xs1219 (fun x0 => K (Ex.ret) (St.mk (spread 121 0 [8] [AV.bool x0]) [])) := by
  rw [haystacklaw02_BitsBack_j4_unf]; kernel_rfl

theorem p6_4000 : ∀ sp, o6 (Ev.keyOf c6_4000 * 1000) = some sp → ∀ (R : Type) (r : R) st (K : Ex → St → Option R), sp st R K = some r → evCode (env (keepOf kpt) (vsOf [])) (evFun (env (keepOf kpt) (vsOf [])) S5 T50 10) o6 6 ([] : H).length 3998 c6_4000 st (kOut (env (keepOf kpt) (vsOf [])) 6 ([] : H).length (Ev.keyOf c6_4000 * 1000 + 1) K) = some r := by
    intro sp hsp R r st K h
    have h1 : o6 (Ev.keyOf c6_4000 * 1000) = some o6_4000 := by kernel_rfl
    obtain rfl := Option.some.inj (h1.symm.trans hsp)
    unfold o6_4000 at h
    obtain ⟨vs, hh, rfl, h2⟩ := pickM_some h
    unfold o6_4000_in at h2
    split at h2
    · exact (haystacklaw02_BitsBack_j4_eq _ _ _ _ _ K).trans h2
    · cases h2

theorem p6_9000 : ∀ sp, o6 (Ev.keyOf c6_9000 * 1000) = some sp → ∀ (R : Type) (r : R) st (K : Ex → St → Option R), sp st R K = some r → evCode (env (keepOf kpt) (vsOf [])) (evFun (env (keepOf kpt) (vsOf [])) S5 T50 10) o6 6 ([] : H).length 3994 c6_9000 st (kOut (env (keepOf kpt) (vsOf [])) 6 ([] : H).length (Ev.keyOf c6_9000 * 1000 + 1) K) = some r := by
    intro sp hsp R r st K h
    have h1 : o6 (Ev.keyOf c6_9000 * 1000) = some o6_9000 := by kernel_rfl
    obtain rfl := Option.some.inj (h1.symm.trans hsp)
    unfold o6_9000 at h
    obtain ⟨vs, hh, rfl, h2⟩ := pickM_some h
    unfold o6_9000_in at h2
    split at h2
    · exact (haystacklaw02_BitsBack_j9_eq _ _ _ _ _ _ _ _ _ _ K).trans h2
    · cases h2

theorem pc6 : ∀ x ∈ [(3998, false, c6_4000), (3994, false, c6_9000)], PieceOk (env (keepOf kpt) (vsOf [])) (evFun (env (keepOf kpt) (vsOf [])) S5 T50 10) o6 6 ([] : H).length x := List.forall_mem_cons.2 ⟨p6_4000, List.forall_mem_cons.2 ⟨p6_9000, fun _ h => nomatch h⟩⟩

theorem haystacklaw02_BitsBack_eq {R : Type} (n1204 : Int) (xs1205 : List Int) (n1206 : Int) (n1207 : Int) (n1208 : Int) (K : AV → Option R) : evSpec (env (keepOf kpt) (vsOf [])) S5 T50 o6 10 6 ([AV.agg (Blk.any [AV.int .i64 n1204, AV.fsl (Blk.ints .u64 xs1205)]), AV.int .u64 n1206, AV.int .i64 n1207, AV.int .i64 n1208]) R K = haystacklaw02_BitsBack n1204 xs1205 n1206 n1207 n1208 (fun x0 => K (AV.bool x0)) := by
  rw [haystacklaw02_BitsBack_unf]; kernel_rfl

noncomputable def sp6 : Ev.Spec := fun args _ K => match args with
  | ([AV.agg (Blk.any [AV.int .i64 n1204, AV.fsl (Blk.ints .u64 xs1205)]), AV.int .u64 n1206, AV.int .i64 n1207, AV.int .i64 n1208]) => haystacklaw02_BitsBack n1204 xs1205 n1206 n1207 n1208 (fun x0 => K (AV.bool x0))
  | _ => none

theorem sp6_nat : SpecNat sp6 := fun args _ _ _ _ => by
  unfold sp6
  split
  · exact haystacklaw02_BitsBack_push _ _ _ _ _ (fun _ => rfl)
  · rfl

theorem ok6 : SpecOk Try.prog (env (keepOf kpt) (vsOf [])) 6 sp6 :=
  SpecOk.of (evSpec_ok (env_types _ _) (env_funs _ _) S5_ok T50_ok (O := o6) o6_onat 10 6 (fun fn c h1 h2 => by
    have e : (env (keepOf kpt) (vsOf [])).F 6 = some Try.f6 := by kernel_rfl
    obtain rfl := Option.some.inj (e.symm.trans h1)
    obtain rfl := body_of h2
    exact OrcOk.of 4000 _ _ (show orcs o6 4000 (bodyOf Try.f6) = some [(3998, false, c6_4000), (3994, false, c6_9000)] by kernel_rfl) pc6)) sp6_nat (fun args z h => by
    unfold sp6 at h
    split at h
    · exact (haystacklaw02_BitsBack_eq _ _ _ _ _ some).trans h
    · cases h)

noncomputable def S6 : FuncId → Option Ev.Spec := fun g => match g.beq 6 with | true => some sp6 | false => S5 g
theorem S6_ok : ∀ g sp, S6 g = some sp → SpecOk Try.prog (env (keepOf kpt) (vsOf [])) g sp := fun g sp h => by
  unfold S6 at h
  split at h
  · rename_i hb; cases h; obtain rfl := Nat.eq_of_beq_eq_true hb; exact ok6
  · exact S5_ok g sp h

noncomputable def o7_4000_in {R : Type} (K : Ex → St → Option R) (vs : List AV) (hh : H) : Option R := match vs, hh with
  | [AV.int .i64 n1255, AV.bool b1256, AV.int .i64 n1257, AV.ptr 0 0], [HB.live (Blk.any [AV.int .i64 n1258, AV.fsl (Blk.ints .u64 xs1259)])] => haystacklaw02_BitsSets_j4 n1255 b1256 n1257 n1258 xs1259 (fun x0 => K (Ex.ret) (St.mk (spread 125 0 [8] [AV.bool x0]) []))
  | _, _ => none
noncomputable def o7_4000 : PSpec := fun st _ K => pickM 125 [1, 2, 3, 4] st (o7_4000_in K)

theorem o7_4000_nat (st : St) (R S : Type) (K : Ex → St → Option R) (J : R → Option S) : (o7_4000 st R K).bind J = o7_4000 st S fun ex st => (K ex st).bind J := by
  unfold o7_4000
  refine pickM_push fun vs hh => ?_
  unfold o7_4000_in
  split
  · exact haystacklaw02_BitsSets_j4_push _ _ _ _ _ (fun _ => rfl)
  · rfl

noncomputable def o7 : Nat → Option PSpec := lkN [(4000, o7_4000)]

theorem o7_onat : ONat o7 := ONat.consT o7_4000_nat (ONat.nilT)

noncomputable def c7_4000 : Code := subC [1, 1] (bodyOf Try.f7)

theorem haystacklaw02_BitsSets_j4_eq {R : Type} (n1255 : Int) (b1256 : Bool) (n1257 : Int) (n1258 : Int) (xs1259 : List Int) (K : Ex → St → Option R) : evCode (env (keepOf kpt) (vsOf [])) (evFun (env (keepOf kpt) (vsOf [])) S6 T50 10) o7 7 ([] : H).length 3998 c7_4000 (St.mk (spread 125 0 [1, 2, 3, 4] [AV.int .i64 n1255, AV.bool b1256, AV.int .i64 n1257, AV.ptr 0 0]) [HB.live (Blk.any [AV.int .i64 n1258, AV.fsl (Blk.ints .u64 xs1259)])]) (kOut (env (keepOf kpt) (vsOf [])) 7 ([] : H).length (Ev.keyOf c7_4000 * 1000 + 1) K) = haystacklaw02_BitsSets_j4 n1255 b1256 n1257 n1258 xs1259 (fun x0 => K (Ex.ret) (St.mk (spread 125 0 [8] [AV.bool x0]) [])) := by
  rw [haystacklaw02_BitsSets_j4_unf]; kernel_rfl

theorem p7_4000 : ∀ sp, o7 (Ev.keyOf c7_4000 * 1000) = some sp → ∀ (R : Type) (r : R) st (K : Ex → St → Option R), sp st R K = some r → evCode (env (keepOf kpt) (vsOf [])) (evFun (env (keepOf kpt) (vsOf [])) S6 T50 10) o7 7 ([] : H).length 3998 c7_4000 st (kOut (env (keepOf kpt) (vsOf [])) 7 ([] : H).length (Ev.keyOf c7_4000 * 1000 + 1) K) = some r := by
    intro sp hsp R r st K h
    have h1 : o7 (Ev.keyOf c7_4000 * 1000) = some o7_4000 := by kernel_rfl
    obtain rfl := Option.some.inj (h1.symm.trans hsp)
    unfold o7_4000 at h
    obtain ⟨vs, hh, rfl, h2⟩ := pickM_some h
    unfold o7_4000_in at h2
    split at h2
    · exact (haystacklaw02_BitsSets_j4_eq _ _ _ _ _ K).trans h2
    · cases h2

theorem pc7 : ∀ x ∈ [(3998, false, c7_4000)], PieceOk (env (keepOf kpt) (vsOf [])) (evFun (env (keepOf kpt) (vsOf [])) S6 T50 10) o7 7 ([] : H).length x := List.forall_mem_cons.2 ⟨p7_4000, fun _ h => nomatch h⟩

theorem haystacklaw02_BitsSets_eq {R : Type} (n1246 : Int) (xs1247 : List Int) (n1248 : Int) (b1249 : Bool) (n1250 : Int) (K : AV → Option R) : evSpec (env (keepOf kpt) (vsOf [])) S6 T50 o7 10 7 ([AV.agg (Blk.any [AV.int .i64 n1246, AV.fsl (Blk.ints .u64 xs1247)]), AV.int .i64 n1248, AV.bool b1249, AV.int .i64 n1250]) R K = haystacklaw02_BitsSets n1246 xs1247 n1248 b1249 n1250 (fun x0 => K (AV.bool x0)) := by
  rw [haystacklaw02_BitsSets_unf]; kernel_rfl

noncomputable def sp7 : Ev.Spec := fun args _ K => match args with
  | ([AV.agg (Blk.any [AV.int .i64 n1246, AV.fsl (Blk.ints .u64 xs1247)]), AV.int .i64 n1248, AV.bool b1249, AV.int .i64 n1250]) => haystacklaw02_BitsSets n1246 xs1247 n1248 b1249 n1250 (fun x0 => K (AV.bool x0))
  | _ => none

theorem sp7_nat : SpecNat sp7 := fun args _ _ _ _ => by
  unfold sp7
  split
  · exact haystacklaw02_BitsSets_push _ _ _ _ _ (fun _ => rfl)
  · rfl

theorem ok7 : SpecOk Try.prog (env (keepOf kpt) (vsOf [])) 7 sp7 :=
  SpecOk.of (evSpec_ok (env_types _ _) (env_funs _ _) S6_ok T50_ok (O := o7) o7_onat 10 7 (fun fn c h1 h2 => by
    have e : (env (keepOf kpt) (vsOf [])).F 7 = some Try.f7 := by kernel_rfl
    obtain rfl := Option.some.inj (e.symm.trans h1)
    obtain rfl := body_of h2
    exact OrcOk.of 4000 _ _ (show orcs o7 4000 (bodyOf Try.f7) = some [(3998, false, c7_4000)] by kernel_rfl) pc7)) sp7_nat (fun args z h => by
    unfold sp7 at h
    split at h
    · exact (haystacklaw02_BitsSets_eq _ _ _ _ _ some).trans h
    · cases h)

noncomputable def S7 : FuncId → Option Ev.Spec := fun g => match g.beq 7 with | true => some sp7 | false => S6 g
theorem S7_ok : ∀ g sp, S7 g = some sp → SpecOk Try.prog (env (keepOf kpt) (vsOf [])) g sp := fun g sp h => by
  unfold S7 at h
  split at h
  · rename_i hb; cases h; obtain rfl := Nat.eq_of_beq_eq_true hb; exact ok7
  · exact S6_ok g sp h

noncomputable def o8_4000_in {R : Type} (K : Ex → St → Option R) (vs : List AV) (hh : H) : Option R := match vs, hh with
  | [AV.int .i64 n1297, AV.ptr 0 0, AV.ptr 1 0], [HB.live (Blk.any [AV.int .i64 n1298, AV.fsl (Blk.ints .u64 xs1299)]), HB.live (Blk.any [AV.int .i64 n1300, AV.fsl (Blk.ints .u64 xs1301)])] => haystacklaw02_BitsJoins_j4 n1297 n1298 xs1299 n1300 xs1301 (fun x0 => K (Ex.ret) (St.mk (spread 104 0 [6] [AV.bool x0]) []))
  | _, _ => none
noncomputable def o8_4000 : PSpec := fun st _ K => pickM 104 [2, 3, 4] st (o8_4000_in K)

theorem o8_4000_nat (st : St) (R S : Type) (K : Ex → St → Option R) (J : R → Option S) : (o8_4000 st R K).bind J = o8_4000 st S fun ex st => (K ex st).bind J := by
  unfold o8_4000
  refine pickM_push fun vs hh => ?_
  unfold o8_4000_in
  split
  · exact haystacklaw02_BitsJoins_j4_push _ _ _ _ _ (fun _ => rfl)
  · rfl

noncomputable def o8_9000_in {R : Type} (K : Ex → St → Option R) (vs : List AV) (hh : H) : Option R := match vs, hh with
  | [AV.ptr 0 0, AV.ptr 1 0, AV.ptr 2 0, AV.int .i64 n1311, AV.bool b1312, AV.int .i64 n1313, AV.bool b1314, AV.int .i64 n1315], [HB.live (Blk.any [AV.int .i64 n1316, AV.fsl (Blk.ints .u64 xs1317)]), HB.live (Blk.any [AV.int .i64 n1318, AV.fsl (Blk.ints .u64 xs1319)]), HB.live (Blk.any [AV.int .i64 n1320, AV.fsl (Blk.ints .u64 xs1321)])] => haystacklaw02_BitsJoins_j9 n1311 b1312 n1313 b1314 n1315 n1316 xs1317 n1318 xs1319 n1320 xs1321 (fun x0 => K (Ex.ret) (St.mk (spread 104 0 [6] [AV.bool x0]) []))
  | _, _ => none
noncomputable def o8_9000 : PSpec := fun st _ K => pickM 104 [3, 4, 7, 8, 9, 10, 11, 12] st (o8_9000_in K)

theorem o8_9000_nat (st : St) (R S : Type) (K : Ex → St → Option R) (J : R → Option S) : (o8_9000 st R K).bind J = o8_9000 st S fun ex st => (K ex st).bind J := by
  unfold o8_9000
  refine pickM_push fun vs hh => ?_
  unfold o8_9000_in
  split
  · exact haystacklaw02_BitsJoins_j9_push _ _ _ _ _ _ _ _ _ _ _ (fun _ => rfl)
  · rfl

noncomputable def o8 : Nat → Option PSpec := lkN [(4000, o8_4000), (9000, o8_9000)]

theorem o8_onat : ONat o8 := ONat.consT o8_4000_nat (ONat.consT o8_9000_nat (ONat.nilT))

noncomputable def c8_4000 : Code := subC [1, 1] (bodyOf Try.f8)

noncomputable def c8_9000 : Code := subC [1, 1, 1, 1, 1, 1] (bodyOf Try.f8)

theorem haystacklaw02_BitsJoins_j9_eq {R : Type} (n1311 : Int) (b1312 : Bool) (n1313 : Int) (b1314 : Bool) (n1315 : Int) (n1316 : Int) (xs1317 : List Int) (n1318 : Int) (xs1319 : List Int) (n1320 : Int) (xs1321 : List Int) (K : Ex → St → Option R) : evCode (env (keepOf kpt) (vsOf [])) (evFun (env (keepOf kpt) (vsOf [])) S7 T50 10) o8 8 ([] : H).length 3994 c8_9000 (St.mk (spread 104 0 [3, 4, 7, 8, 9, 10, 11, 12] [AV.ptr 0 0, AV.ptr 1 0, AV.ptr 2 0, AV.int .i64 n1311, AV.bool b1312, AV.int .i64 n1313, AV.bool b1314, AV.int .i64 n1315]) [HB.live (Blk.any [AV.int .i64 n1316, AV.fsl (Blk.ints .u64 xs1317)]), HB.live (Blk.any [AV.int .i64 n1318, AV.fsl (Blk.ints .u64 xs1319)]), HB.live (Blk.any [AV.int .i64 n1320, AV.fsl (Blk.ints .u64 xs1321)])]) (kOut (env (keepOf kpt) (vsOf [])) 8 ([] : H).length (Ev.keyOf c8_9000 * 1000 + 1) K) = haystacklaw02_BitsJoins_j9 n1311 b1312 n1313 b1314 n1315 n1316 xs1317 n1318 xs1319 n1320 xs1321 (fun x0 => K (Ex.ret) (St.mk (spread 104 0 [6] [AV.bool x0]) [])) := by
  rw [haystacklaw02_BitsJoins_j9_unf]; kernel_rfl

theorem haystacklaw02_BitsJoins_j4_eq {R : Type} (n1297 : Int) (n1298 : Int) (xs1299 : List Int) (n1300 : Int) (xs1301 : List Int) (K : Ex → St → Option R) : evCode (env (keepOf kpt) (vsOf [])) (evFun (env (keepOf kpt) (vsOf [])) S7 T50 10) o8 8 ([] : H).length 3998 c8_4000 (St.mk (spread 104 0 [2, 3, 4] [AV.int .i64 n1297, AV.ptr 0 0, AV.ptr 1 0]) [HB.live (Blk.any [AV.int .i64 n1298, AV.fsl (Blk.ints .u64 xs1299)]), HB.live (Blk.any [AV.int .i64 n1300, AV.fsl (Blk.ints .u64 xs1301)])]) (kOut (env (keepOf kpt) (vsOf [])) 8 ([] : H).length (Ev.keyOf c8_4000 * 1000 + 1) K) = haystacklaw02_BitsJoins_j4 n1297 n1298 xs1299 n1300 xs1301 (fun x0 => K (Ex.ret) (St.mk (spread 104 0 [6] [AV.bool x0]) [])) := by
  rw [haystacklaw02_BitsJoins_j4_unf]; kernel_rfl

theorem p8_4000 : ∀ sp, o8 (Ev.keyOf c8_4000 * 1000) = some sp → ∀ (R : Type) (r : R) st (K : Ex → St → Option R), sp st R K = some r → evCode (env (keepOf kpt) (vsOf [])) (evFun (env (keepOf kpt) (vsOf [])) S7 T50 10) o8 8 ([] : H).length 3998 c8_4000 st (kOut (env (keepOf kpt) (vsOf [])) 8 ([] : H).length (Ev.keyOf c8_4000 * 1000 + 1) K) = some r := by
    intro sp hsp R r st K h
    have h1 : o8 (Ev.keyOf c8_4000 * 1000) = some o8_4000 := by kernel_rfl
    obtain rfl := Option.some.inj (h1.symm.trans hsp)
    unfold o8_4000 at h
    obtain ⟨vs, hh, rfl, h2⟩ := pickM_some h
    unfold o8_4000_in at h2
    split at h2
    · exact (haystacklaw02_BitsJoins_j4_eq _ _ _ _ _ K).trans h2
    · cases h2

theorem p8_9000 : ∀ sp, o8 (Ev.keyOf c8_9000 * 1000) = some sp → ∀ (R : Type) (r : R) st (K : Ex → St → Option R), sp st R K = some r → evCode (env (keepOf kpt) (vsOf [])) (evFun (env (keepOf kpt) (vsOf [])) S7 T50 10) o8 8 ([] : H).length 3994 c8_9000 st (kOut (env (keepOf kpt) (vsOf [])) 8 ([] : H).length (Ev.keyOf c8_9000 * 1000 + 1) K) = some r := by
    intro sp hsp R r st K h
    have h1 : o8 (Ev.keyOf c8_9000 * 1000) = some o8_9000 := by kernel_rfl
    obtain rfl := Option.some.inj (h1.symm.trans hsp)
    unfold o8_9000 at h
    obtain ⟨vs, hh, rfl, h2⟩ := pickM_some h
    unfold o8_9000_in at h2
    split at h2
    · exact (haystacklaw02_BitsJoins_j9_eq _ _ _ _ _ _ _ _ _ _ _ K).trans h2
    · cases h2

theorem pc8 : ∀ x ∈ [(3998, false, c8_4000), (3994, false, c8_9000)], PieceOk (env (keepOf kpt) (vsOf [])) (evFun (env (keepOf kpt) (vsOf [])) S7 T50 10) o8 8 ([] : H).length x := List.forall_mem_cons.2 ⟨p8_4000, List.forall_mem_cons.2 ⟨p8_9000, fun _ h => nomatch h⟩⟩

theorem haystacklaw02_BitsJoins_eq {R : Type} (n1284 : Int) (xs1285 : List Int) (n1286 : Int) (xs1287 : List Int) (n1288 : Int) (K : AV → Option R) : evSpec (env (keepOf kpt) (vsOf [])) S7 T50 o8 10 8 ([AV.agg (Blk.any [AV.int .i64 n1284, AV.fsl (Blk.ints .u64 xs1285)]), AV.agg (Blk.any [AV.int .i64 n1286, AV.fsl (Blk.ints .u64 xs1287)]), AV.int .i64 n1288]) R K = haystacklaw02_BitsJoins n1284 xs1285 n1286 xs1287 n1288 (fun x0 => K (AV.bool x0)) := by
  rw [haystacklaw02_BitsJoins_unf]; kernel_rfl

noncomputable def sp8 : Ev.Spec := fun args _ K => match args with
  | ([AV.agg (Blk.any [AV.int .i64 n1284, AV.fsl (Blk.ints .u64 xs1285)]), AV.agg (Blk.any [AV.int .i64 n1286, AV.fsl (Blk.ints .u64 xs1287)]), AV.int .i64 n1288]) => haystacklaw02_BitsJoins n1284 xs1285 n1286 xs1287 n1288 (fun x0 => K (AV.bool x0))
  | _ => none

theorem sp8_nat : SpecNat sp8 := fun args _ _ _ _ => by
  unfold sp8
  split
  · exact haystacklaw02_BitsJoins_push _ _ _ _ _ (fun _ => rfl)
  · rfl

theorem ok8 : SpecOk Try.prog (env (keepOf kpt) (vsOf [])) 8 sp8 :=
  SpecOk.of (evSpec_ok (env_types _ _) (env_funs _ _) S7_ok T50_ok (O := o8) o8_onat 10 8 (fun fn c h1 h2 => by
    have e : (env (keepOf kpt) (vsOf [])).F 8 = some Try.f8 := by kernel_rfl
    obtain rfl := Option.some.inj (e.symm.trans h1)
    obtain rfl := body_of h2
    exact OrcOk.of 4000 _ _ (show orcs o8 4000 (bodyOf Try.f8) = some [(3998, false, c8_4000), (3994, false, c8_9000)] by kernel_rfl) pc8)) sp8_nat (fun args z h => by
    unfold sp8 at h
    split at h
    · exact (haystacklaw02_BitsJoins_eq _ _ _ _ _ some).trans h
    · cases h)

noncomputable def S8 : FuncId → Option Ev.Spec := fun g => match g.beq 8 with | true => some sp8 | false => S7 g
theorem S8_ok : ∀ g sp, S8 g = some sp → SpecOk Try.prog (env (keepOf kpt) (vsOf [])) g sp := fun g sp h => by
  unfold S8 at h
  split at h
  · rename_i hb; cases h; obtain rfl := Nat.eq_of_beq_eq_true hb; exact ok8
  · exact S7_ok g sp h

end Go.Proofs.Ytkjadjdcbpiebaa
