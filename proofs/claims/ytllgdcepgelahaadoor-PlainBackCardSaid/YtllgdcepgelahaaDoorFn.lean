/- The functions that this seat's laws reach, as plain functions, and that they are what the program does. Printed by a program of this repo (wip/Prt). -/
import Derived.Test.YtllgdcepgelahaaDoorEnv
import Derived.Test.YtllgdcepgelahaaDoorEv27
import Derived.KernelRfl
import Derived.Test.YtllgdcepgelahaaDoorFn1
namespace Go.Proofs.YtllgdcepgelahaaDoor
open Go Go.Ev
set_option maxRecDepth 100000

noncomputable def o81_6000_in {R : Type} (K : Ex → St → Option R) (vs : List AV) (hh : H) : Option R := match vs, hh with
  | [AV.int .i64 n1332, AV.ptr 0 0], [HB.live (Blk.any [AV.int .i64 n1333, AV.fsl (Blk.ints .u64 xs1334)])] => haystackref02_Get_j6 n1332 n1333 xs1334 (fun x0 x1 => K (Ex.ret) (St.mk (spread 20 0 [4, 5] [AV.bool x0, AV.int .i64 x1]) []))
  | _, _ => none

noncomputable def o81 : Nat → Option PSpec := lkN [(6000, fun st _ K => pickM 20 [1, 2] st (o81_6000_in K))]
noncomputable def q81 : CallF := evFun (V 81) S80 T47 10

noncomputable def c81_6000 : Code := subC [1, 1, 1] (bodyOf Tryd.f81)

theorem p81_6000 : PieceOk (V 81) q81 o81 81 0 (3997, 0, c81_6000) := .s (size := 20) (ss := [1, 2]) (F := @o81_6000_in) (by kernel_rfl) fun R r K vs hh h => by
  unfold o81_6000_in at h; split at h
  · rw [haystackref02_Get_j6_unf] at h; exact Eq.trans (by kernel_rfl) h
  · cases h

theorem pc81 : ∀ x ∈ [(3997, 0, c81_6000)], PieceOk (V 81) q81 o81 81 0 x := List.forall_mem_cons.2 ⟨p81_6000, fun _ h => nomatch h⟩

noncomputable def sp81 : Ev.Spec := fun args _ K => match args with
  | ([AV.agg (Blk.any [AV.int .i64 n1328, AV.fsl (Blk.ints .u64 xs1329)]), AV.int .i64 n1330]) => haystackref02_Get n1328 xs1329 n1330 (fun x0 x1 => K (AV.tup [AV.bool x0, AV.int .i64 x1]))
  | _ => none
noncomputable def S81 := addS 81 sp81 S80
theorem D40 : Dom V S81 T47 40 := Dom.s (m := 39) (n := 0) D39 D39 (O := o81) (OrcOk.fn (fn0 := Tryd.f81) (by kernel_rfl) (by kernel_rfl) pc81) fun args R K r h => by
  unfold sp81 at h; split at h
  · rw [haystackref02_Get_unf] at h; exact Eq.trans (by kernel_rfl) h
  · cases h

noncomputable def sp41 : Ev.Spec := fun args _ K => match args with
  | ([AV.agg (Blk.any [AV.int .i64 n1315, AV.fsl (Blk.ints .u64 xs1316), AV.fsl (Blk.ints .i64 xs1317), AV.fsl (Blk.ints .i64 xs1318)]), AV.int .i64 n1319]) => haystackref07_Access n1315 xs1316 xs1317 xs1318 n1319 (fun x0 x1 => K (AV.tup [AV.bool x0, AV.int .i64 x1]))
  | _ => none
noncomputable def S41 := addS 41 sp41 S81
theorem D41 : Dom V S41 T47 41 := Dom.s (m := 40) (n := 0) D40 D40 (O := (fun _ => none)) (fun _ _ _ _ => OrcOk.none _ _) fun args R K r h => by
  unfold sp41 at h; split at h
  · rw [haystackref07_Access_unf] at h; exact Eq.trans (by kernel_rfl) h
  · cases h

noncomputable def o42_7000_in {R : Type} (K : Ex → St → Option R) (vs : List AV) (hh : H) : Option R := match vs, hh with
  | [AV.bool b1353, AV.int .i64 n1354, AV.ptr 0 0], [HB.live (Blk.any [AV.int .i64 n1355, AV.fsl (Blk.ints .u64 xs1356)])] => haystackref07_Rank_j7 b1353 n1354 n1355 xs1356 (fun x0 x1 => K (Ex.ret) (St.mk (spread 35 0 [6, 7] [AV.int .i64 x0, AV.int .i64 x1]) []))
  | _, _ => none

noncomputable def o42 : Nat → Option PSpec := lkN [(7000, fun st _ K => pickM 35 [1, 2, 8] st (o42_7000_in K))]
noncomputable def q42 : CallF := evFun (V 42) S41 T47 10

noncomputable def c42_7000 : Code := subC [1, 1, 1, 1] (bodyOf Tryd.f42)

theorem p42_7000 : PieceOk (V 42) q42 o42 42 0 (3996, 0, c42_7000) := .s (size := 35) (ss := [1, 2, 8]) (F := @o42_7000_in) (by kernel_rfl) fun R r K vs hh h => by
  unfold o42_7000_in at h; split at h
  · rw [haystackref07_Rank_j7_unf] at h; exact Eq.trans (by kernel_rfl) h
  · cases h

theorem pc42 : ∀ x ∈ [(3996, 0, c42_7000)], PieceOk (V 42) q42 o42 42 0 x := List.forall_mem_cons.2 ⟨p42_7000, fun _ h => nomatch h⟩

noncomputable def sp42 : Ev.Spec := fun args _ K => match args with
  | ([AV.agg (Blk.any [AV.int .i64 n1344, AV.fsl (Blk.ints .u64 xs1345), AV.fsl (Blk.ints .i64 xs1346), AV.fsl (Blk.ints .i64 xs1347)]), AV.bool b1348, AV.int .i64 n1349]) => haystackref07_Rank n1344 xs1345 xs1346 xs1347 b1348 n1349 (fun x0 x1 => K (AV.tup [AV.int .i64 x0, AV.int .i64 x1]))
  | _ => none
noncomputable def S42 := addS 42 sp42 S41
theorem D42 : Dom V S42 T47 42 := Dom.s (m := 41) (n := 0) D41 D41 (O := o42) (OrcOk.fn (fn0 := Tryd.f42) (by kernel_rfl) (by kernel_rfl) pc42) fun args R K r h => by
  unfold sp42 at h; split at h
  · rw [haystackref07_Rank_unf] at h; exact Eq.trans (by kernel_rfl) h
  · cases h

noncomputable def o44_7400_in {R : Type} (K : Ex → St → Option R) (vs : List AV) (hh : H) : Option R := match vs, hh with
  | [AV.bool b1373, AV.int .i64 n1374, AV.ptr 0 0, AV.int .i64 n1375, AV.int .i64 n1376], [HB.live (Blk.any [AV.int .i64 n1377, AV.fsl (Blk.ints .u64 xs1378)])] => haystackref07_Select_l7 b1373 n1374 n1375 n1376 n1377 xs1378 (fun x0 x1 => K (Ex.ret) (St.mk (spread 36 0 [6, 7] [AV.int .i64 x0, AV.int .i64 x1]) [])) (fun _ => K (Ex.exit 0) (St.mk (spread 36 0 [] []) []))
  | _, _ => none

noncomputable def o44 : Nat → Option PSpec := lkN [(7400, fun st _ K => pickM 36 [1, 2, 8, 10, 11] st (o44_7400_in K))]
noncomputable def q44 : CallF := evFun (V 44) S42 T47 10

noncomputable def c44_7400 : Code := subC [1, 1, 1, 1, 0, 1, 0, 0] (bodyOf Tryd.f44)

noncomputable def lp44_7400 {R : Type} (N : Nat) (st : St) (K : Ex → St → Option R) : Option R := evLoop (norm ((V 44).keep 44 (Ev.keyOf c44_7400 * 1000 + 400)) 0) (evCode (V 44) q44 o44 44 0 3992 c44_7400) N st (kOut (V 44) 44 0 (Ev.keyOf c44_7400 * 1000 + 401) K)

theorem haystackref07_Select_l7_L_eq {R : Type} (K : Ex → St → Option R) : ∀ N : Nat, (fun (b1373 : Bool) (n1374 : Int) (n1375 : Int) (n1376 : Int) (n1377 : Int) (xs1378 : List Int) => lp44_7400 N (St.mk (spread 36 0 [1, 2, 8, 10, 11] [AV.bool b1373, AV.int .i64 n1374, AV.ptr 0 0, AV.int .i64 n1375, AV.int .i64 n1376]) [HB.live (Blk.any [AV.int .i64 n1377, AV.fsl (Blk.ints .u64 xs1378)])]) K) = haystackref07_Select_l7_L (fun x0 x1 => K (Ex.ret) (St.mk (spread 36 0 [6, 7] [AV.int .i64 x0, AV.int .i64 x1]) [])) (fun _ => K (Ex.exit 0) (St.mk (spread 36 0 [] []) [])) N
  | 0 => by funext b1373 n1374 n1375 n1376 n1377 xs1378; rfl
  | N + 1 => by
    funext b1373 n1374 n1375 n1376 n1377 xs1378
    simp only [haystackref07_Select_l7_L]
    rw [← haystackref07_Select_l7_L_eq K N]
    kernel_rfl

theorem p44_7400 : PieceOk (V 44) q44 o44 44 0 (3992, 1, c44_7400) := .l (size := 36) (ss := [1, 2, 8, 10, 11]) (F := @o44_7400_in) (by kernel_rfl) (by kernel_rfl) fun R r K vs hh h => by
  unfold o44_7400_in at h; split at h
  · rw [haystackref07_Select_l7_unf] at h; unfold haystackref07_Select_l7_B at h; rw [← haystackref07_Select_l7_L_eq K NR] at h; exact h
  · cases h

theorem pc44 : ∀ x ∈ [(3992, 1, c44_7400)], PieceOk (V 44) q44 o44 44 0 x := List.forall_mem_cons.2 ⟨p44_7400, fun _ h => nomatch h⟩

noncomputable def sp44 : Ev.Spec := fun args _ K => match args with
  | ([AV.agg (Blk.any [AV.int .i64 n1364, AV.fsl (Blk.ints .u64 xs1365), AV.fsl (Blk.ints .i64 xs1366), AV.fsl (Blk.ints .i64 xs1367)]), AV.bool b1368, AV.int .i64 n1369]) => haystackref07_Select n1364 xs1365 xs1366 xs1367 b1368 n1369 (fun x0 x1 => K (AV.tup [AV.int .i64 x0, AV.int .i64 x1]))
  | _ => none
noncomputable def S44 := addS 44 sp44 S42
theorem D43 : Dom V S44 T47 43 := Dom.s (m := 42) (n := 0) D42 D42 (O := o44) (OrcOk.fn (fn0 := Tryd.f44) (by kernel_rfl) (by kernel_rfl) pc44) fun args R K r h => by
  unfold sp44 at h; split at h
  · rw [haystackref07_Select_unf] at h; exact Eq.trans (by kernel_rfl) h
  · cases h

noncomputable def sp49 : Ev.Spec := fun args _ K => match args with
  | ([AV.agg (Blk.any [AV.int .i64 n1394, AV.fsl (Blk.ints .u64 xs1395), AV.fsl (Blk.ints .i64 xs1396), AV.fsl (Blk.ints .i64 xs1397)])]) => haystackref07_Bits n1394 xs1395 xs1396 xs1397 (fun x0 x1 => K (AV.agg (Blk.any [AV.int .i64 x0, AV.fsl (Blk.ints .u64 x1)])))
  | _ => none
noncomputable def S49 := addS 49 sp49 S44
theorem D44 : Dom V S49 T47 44 := Dom.s (m := 43) (n := 0) D43 D43 (O := (fun _ => none)) (fun _ _ _ _ => OrcOk.none _ _) fun args R K r h => by
  unfold sp49 at h; split at h
  · rw [haystackref07_Bits_unf] at h; exact Eq.trans (by kernel_rfl) h
  · cases h

noncomputable def o9_5000_in {R : Type} (K : Ex → St → Option R) (vs : List AV) (hh : H) : Option R := match vs, hh with
  | [AV.bool b1307, AV.int .i64 n1308, AV.ptr 0 0, AV.bool b1309, AV.int .i64 n1310], [HB.live (Blk.any [AV.int .i64 n1311, AV.fsl (Blk.ints .u64 xs1312), AV.fsl (Blk.ints .i64 xs1313), AV.fsl (Blk.ints .i64 xs1314)])] => haystacklaw07_PlainTells_j5 b1307 n1308 b1309 n1310 n1311 xs1312 xs1313 xs1314 (fun x0 => K (Ex.ret) (St.mk (spread 113 0 [6] [AV.bool x0]) []))
  | _, _ => none

noncomputable def o9_12000_in {R : Type} (K : Ex → St → Option R) (vs : List AV) (hh : H) : Option R := match vs, hh with
  | [AV.ptr 0 0], [HB.live (Blk.any [AV.int .i64 n1384, AV.fsl (Blk.ints .u64 xs1385), AV.fsl (Blk.ints .i64 xs1386), AV.fsl (Blk.ints .i64 xs1387)])] => haystacklaw07_PlainTells_j12 n1384 xs1385 xs1386 xs1387 (fun x0 => K (Ex.ret) (St.mk (spread 113 0 [6] [AV.bool x0]) []))
  | _, _ => none

noncomputable def o9 : Nat → Option PSpec := lkN [(5000, fun st _ K => pickM 113 [1, 2, 3, 7, 8] st (o9_5000_in K)), (12000, fun st _ K => pickM 113 [3] st (o9_12000_in K))]
noncomputable def q9 : CallF := evFun (V 9) S49 T47 10

noncomputable def c9_5000 : Code := subC [1, 1, 1] (bodyOf Tryd.f9)

noncomputable def c9_12000 : Code := subC [1, 1, 1, 1, 1, 1, 1, 1, 1] (bodyOf Tryd.f9)

theorem p9_5000 : PieceOk (V 9) q9 o9 9 0 (3997, 0, c9_5000) := .s (size := 113) (ss := [1, 2, 3, 7, 8]) (F := @o9_5000_in) (by kernel_rfl) fun R r K vs hh h => by
  unfold o9_5000_in at h; split at h
  · rw [haystacklaw07_PlainTells_j5_unf] at h; exact Eq.trans (by kernel_rfl) h
  · cases h

theorem p9_12000 : PieceOk (V 9) q9 o9 9 0 (3991, 0, c9_12000) := .s (size := 113) (ss := [3]) (F := @o9_12000_in) (by kernel_rfl) fun R r K vs hh h => by
  unfold o9_12000_in at h; split at h
  · rw [haystacklaw07_PlainTells_j12_unf] at h; exact Eq.trans (by kernel_rfl) h
  · cases h

theorem pc9 : ∀ x ∈ [(3997, 0, c9_5000), (3991, 0, c9_12000)], PieceOk (V 9) q9 o9 9 0 x := List.forall_mem_cons.2 ⟨p9_5000, List.forall_mem_cons.2 ⟨p9_12000, fun _ h => nomatch h⟩⟩

noncomputable def sp9 : Ev.Spec := fun args _ K => match args with
  | ([AV.agg (Blk.any [AV.int .i64 n1293, AV.fsl (Blk.ints .u64 xs1294), AV.fsl (Blk.ints .i64 xs1295), AV.fsl (Blk.ints .i64 xs1296)]), AV.bool b1297, AV.int .i64 n1298]) => haystacklaw07_PlainTells n1293 xs1294 xs1295 xs1296 b1297 n1298 (fun x0 => K (AV.bool x0))
  | _ => none
noncomputable def S9 := addS 9 sp9 S49
theorem D45 : Dom V S9 T47 45 := Dom.s (m := 44) (n := 0) D44 D44 (O := o9) (OrcOk.fn (fn0 := Tryd.f9) (by kernel_rfl) (by kernel_rfl) pc9) fun args R K r h => by
  unfold sp9 at h; split at h
  · rw [haystacklaw07_PlainTells_unf] at h; exact Eq.trans (by kernel_rfl) h
  · cases h

noncomputable def o10_4000_in {R : Type} (K : Ex → St → Option R) (vs : List AV) (hh : H) : Option R := match vs, hh with
  | [AV.bool b1415, AV.int .i64 n1416, AV.ptr 0 0], [HB.live (Blk.any [AV.int .i64 n1417, AV.fsl (Blk.ints .u64 xs1418)])] => haystacklaw07_PlainBack_j4 b1415 n1416 n1417 xs1418 (fun x0 => K (Ex.ret) (St.mk (spread 119 0 [6] [AV.bool x0]) []))
  | _, _ => none

noncomputable def o10_5000_in {R : Type} (K : Ex → St → Option R) (vs : List AV) (hh : H) : Option R := match vs, hh with
  | [AV.bool b1424, AV.int .i64 n1425, AV.ptr 0 0, AV.ptr 1 0, AV.int .i64 n1426], [HB.live (Blk.any [AV.int .i64 n1427, AV.fsl (Blk.ints .u64 xs1428)]), HB.live (Blk.any [AV.int .i64 n1429, AV.fsl (Blk.ints .u64 xs1430), AV.fsl (Blk.ints .i64 xs1431), AV.fsl (Blk.ints .i64 xs1432)])] => haystacklaw07_PlainBack_j5 b1424 n1425 n1426 n1427 xs1428 n1429 xs1430 xs1431 xs1432 (fun x0 => K (Ex.ret) (St.mk (spread 119 0 [6] [AV.bool x0]) []))
  | _, _ => none

noncomputable def o10_7000_in {R : Type} (K : Ex → St → Option R) (vs : List AV) (hh : H) : Option R := match vs, hh with
  | [AV.bool b1437, AV.int .i64 n1438, AV.ptr 0 0, AV.ptr 1 0], [HB.live (Blk.any [AV.int .i64 n1439, AV.fsl (Blk.ints .u64 xs1440)]), HB.live (Blk.any [AV.int .i64 n1441, AV.fsl (Blk.ints .u64 xs1442), AV.fsl (Blk.ints .i64 xs1443), AV.fsl (Blk.ints .i64 xs1444)])] => haystacklaw07_PlainBack_j7 b1437 n1438 n1439 xs1440 n1441 xs1442 xs1443 xs1444 (fun x0 => K (Ex.ret) (St.mk (spread 119 0 [6] [AV.bool x0]) []))
  | _, _ => none

noncomputable def o10_11000_in {R : Type} (K : Ex → St → Option R) (vs : List AV) (hh : H) : Option R := match vs, hh with
  | [AV.bool b1449, AV.int .i64 n1450, AV.ptr 0 0, AV.int .i64 n1451, AV.int .i64 n1452], [HB.live (Blk.any [AV.int .i64 n1453, AV.fsl (Blk.ints .u64 xs1454), AV.fsl (Blk.ints .i64 xs1455), AV.fsl (Blk.ints .i64 xs1456)])] => haystacklaw07_PlainBack_j11 b1449 n1450 n1451 n1452 n1453 xs1454 xs1455 xs1456 (fun x0 => K (Ex.ret) (St.mk (spread 119 0 [6] [AV.bool x0]) []))
  | _, _ => none

noncomputable def o10 : Nat → Option PSpec := lkN [(4000, fun st _ K => pickM 119 [1, 2, 3] st (o10_4000_in K)), (5000, fun st _ K => pickM 119 [1, 2, 3, 7, 8] st (o10_5000_in K)), (7000, fun st _ K => pickM 119 [1, 2, 3, 7] st (o10_7000_in K)), (11000, fun st _ K => pickM 119 [1, 2, 7, 11, 12] st (o10_11000_in K))]
noncomputable def q10 : CallF := evFun (V 10) S9 T47 10

noncomputable def c10_4000 : Code := subC [1, 1] (bodyOf Tryd.f10)

noncomputable def c10_5000 : Code := subC [1, 1, 1] (bodyOf Tryd.f10)

noncomputable def c10_7000 : Code := subC [1, 1, 1, 1] (bodyOf Tryd.f10)

noncomputable def c10_11000 : Code := subC [1, 1, 1, 1, 1, 1, 1] (bodyOf Tryd.f10)

theorem p10_4000 : PieceOk (V 10) q10 o10 10 0 (3998, 0, c10_4000) := .s (size := 119) (ss := [1, 2, 3]) (F := @o10_4000_in) (by kernel_rfl) fun R r K vs hh h => by
  unfold o10_4000_in at h; split at h
  · rw [haystacklaw07_PlainBack_j4_unf] at h; exact Eq.trans (by kernel_rfl) h
  · cases h

theorem p10_5000 : PieceOk (V 10) q10 o10 10 0 (3997, 0, c10_5000) := .s (size := 119) (ss := [1, 2, 3, 7, 8]) (F := @o10_5000_in) (by kernel_rfl) fun R r K vs hh h => by
  unfold o10_5000_in at h; split at h
  · rw [haystacklaw07_PlainBack_j5_unf] at h; exact Eq.trans (by kernel_rfl) h
  · cases h

theorem p10_7000 : PieceOk (V 10) q10 o10 10 0 (3996, 0, c10_7000) := .s (size := 119) (ss := [1, 2, 3, 7]) (F := @o10_7000_in) (by kernel_rfl) fun R r K vs hh h => by
  unfold o10_7000_in at h; split at h
  · rw [haystacklaw07_PlainBack_j7_unf] at h; exact Eq.trans (by kernel_rfl) h
  · cases h

theorem p10_11000 : PieceOk (V 10) q10 o10 10 0 (3993, 0, c10_11000) := .s (size := 119) (ss := [1, 2, 7, 11, 12]) (F := @o10_11000_in) (by kernel_rfl) fun R r K vs hh h => by
  unfold o10_11000_in at h; split at h
  · rw [haystacklaw07_PlainBack_j11_unf] at h; exact Eq.trans (by kernel_rfl) h
  · cases h

theorem pc10 : ∀ x ∈ [(3998, 0, c10_4000), (3997, 0, c10_5000), (3996, 0, c10_7000), (3993, 0, c10_11000)], PieceOk (V 10) q10 o10 10 0 x := List.forall_mem_cons.2 ⟨p10_4000, List.forall_mem_cons.2 ⟨p10_5000, List.forall_mem_cons.2 ⟨p10_7000, List.forall_mem_cons.2 ⟨p10_11000, fun _ h => nomatch h⟩⟩⟩⟩

noncomputable def sp10 : Ev.Spec := fun args _ K => match args with
  | ([AV.agg (Blk.any [AV.int .i64 n1407, AV.fsl (Blk.ints .u64 xs1408)]), AV.bool b1409, AV.int .i64 n1410]) => haystacklaw07_PlainBack n1407 xs1408 b1409 n1410 (fun x0 => K (AV.bool x0))
  | _ => none
noncomputable def S10 := addS 10 sp10 S9
theorem D46 : Dom V S10 T47 46 := Dom.s (m := 45) (n := 0) D45 D45 (O := o10) (OrcOk.fn (fn0 := Tryd.f10) (by kernel_rfl) (by kernel_rfl) pc10) fun args R K r h => by
  unfold sp10 at h; split at h
  · rw [haystacklaw07_PlainBack_unf] at h; exact Eq.trans (by kernel_rfl) h
  · cases h

theorem ok7 : ∃ sp, SpecOk Tryd.prog (V 7) 7 sp ∧ ∀ args z, sp7 args AV some = some z → sp args AV some = some z := by
  obtain ⟨sp, h1, h2⟩ := Dom.law (P := Tryd.prog) (V := V) (fun _ => env_types _ _) (fun _ => env_funs _ _) (fun _ _ => rfl) D46 (f := 7) (sp := sp7) (by kernel_rfl)
  exact ⟨sp, h1, fun args z => h2 args AV some z⟩

theorem ok8 : ∃ sp, SpecOk Tryd.prog (V 8) 8 sp ∧ ∀ args z, sp8 args AV some = some z → sp args AV some = some z := by
  obtain ⟨sp, h1, h2⟩ := Dom.law (P := Tryd.prog) (V := V) (fun _ => env_types _ _) (fun _ => env_funs _ _) (fun _ _ => rfl) D46 (f := 8) (sp := sp8) (by kernel_rfl)
  exact ⟨sp, h1, fun args z => h2 args AV some z⟩

theorem ok9 : ∃ sp, SpecOk Tryd.prog (V 9) 9 sp ∧ ∀ args z, sp9 args AV some = some z → sp args AV some = some z := by
  obtain ⟨sp, h1, h2⟩ := Dom.law (P := Tryd.prog) (V := V) (fun _ => env_types _ _) (fun _ => env_funs _ _) (fun _ _ => rfl) D46 (f := 9) (sp := sp9) (by kernel_rfl)
  exact ⟨sp, h1, fun args z => h2 args AV some z⟩

theorem ok10 : ∃ sp, SpecOk Tryd.prog (V 10) 10 sp ∧ ∀ args z, sp10 args AV some = some z → sp args AV some = some z := by
  obtain ⟨sp, h1, h2⟩ := Dom.law (P := Tryd.prog) (V := V) (fun _ => env_types _ _) (fun _ => env_funs _ _) (fun _ _ => rfl) D46 (f := 10) (sp := sp10) (by kernel_rfl)
  exact ⟨sp, h1, fun args z => h2 args AV some z⟩

end Go.Proofs.YtllgdcepgelahaaDoor
