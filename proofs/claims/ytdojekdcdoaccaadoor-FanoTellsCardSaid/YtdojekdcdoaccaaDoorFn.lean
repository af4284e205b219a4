/- The functions that this seat's laws reach, as plain functions, and that they are what the program does. Printed by a program of this repo (wip/Prt). -/
import Derived.Test.YtdojekdcdoaccaaDoorBase
import Derived.Test.YtdojekdcdoaccaaDoorEnv
import Derived.Test.YtdojekdcdoaccaaDoorEvC
import Derived.KernelRfl
import Derived.Test.YtdojekdcdoaccaaDoorFn1
namespace Go.Proofs.YtdojekdcdoaccaaDoor
open Go Go.Ev
set_option maxRecDepth 100000
set_option maxHeartbeats 4000000

noncomputable def sp24 : Ev.Spec := fun args _ K => match args with
 | ([AV.agg (Blk.any [Ai v0, Ai v1, Ai v2, Ai v3, Ai v4, Fu v5, Ai v6, Fu v7]), Ab v8, Ai v9]) => fano_Select v0 v1 v2 v3 v4 v5 v6 v7 v8 v9 (fun va vb => K (AV.tup [Ai va, Ai vb]))
 | _ => none
noncomputable def S24 := addS 24 sp24 S14
theorem D38 : Dom B0 V S24 T87 38 := Dom.s (m := 37) (n := 0) D37 D37 (O := o24) (OrcOk.fn (fn0 := Tryd.f24) (by kernel_rfl) (by kernel_rfl) pc24) fun args R K r h => by
 unfold sp24 at h; split at h
 · rw [fano_Select_unf] at h; exact Eq.trans (by kernel_rfl) h
 · cases h

noncomputable def sp17 : Ev.Spec := fun args _ K => match args with
 | ([AV.agg (Blk.any [Ai v0, Ai v1, Ai v2, Ai v3, Ai v4, Fu v5, Ai v6, Fu v7])]) => fano_Size v0 v1 v2 v3 v4 v5 v6 v7 (fun v8 => K (Ai v8))
 | _ => none
noncomputable def S17 := addS 17 sp17 S24
theorem D39 : Dom B0 V S17 T87 39 := Dom.s (m := 38) (n := 0) D38 D38 (O := (fun _ => none)) (fun _ _ _ _ => OrcOk.none _ _) fun args R K r h => by
 unfold sp17 at h; split at h
 · rw [fano_Size_unf] at h; exact Eq.trans (by kernel_rfl) h
 · cases h

noncomputable def sp29 : Ev.Spec := fun args _ K => match args with
 | ([AV.agg (Blk.any [Ai v0, Ai v1, Ai v2, Ai v3, Ai v4, Fu v5, Ai v6, Fu v7])]) => fano_Bits v0 v1 v2 v3 v4 v5 v6 v7 (fun v8 v9 => K (AV.agg (Blk.any [Ai v8, Fu v9])))
 | _ => none
noncomputable def S29 := addS 29 sp29 S17
theorem D40 : Dom B0 V S29 T87 40 := Dom.s (m := 39) (n := 0) D39 D39 (O := (fun _ => none)) (fun _ _ _ _ => OrcOk.none _ _) fun args R K r h => by
 unfold sp29 at h; split at h
 · rw [fano_Bits_unf] at h; exact Eq.trans (by kernel_rfl) h
 · cases h

noncomputable def o28_4000_in {R : Type} (K : Ex → St → Option R) (vs : List AV) (hh : H) : Option R := match vs, hh with
 | [Ap 0 0, Ap 1 0], [HA [Ai v0, Fu v1], HA [Ai v2, Fu v3]] => haystackref02_Same_j4 v0 v1 v2 v3 (fun v4 => K (Ex.ret) (St.mk (spread 38 0 [4] [Ab v4]) []))
 | _, _ => none

noncomputable def o28_5400_in {R : Type} (K : Ex → St → Option R) (vs : List AV) (hh : H) : Option R := match vs, hh with
 | [Ap 0 0, Ap 1 0, Ai v0], [HA [Ai v1, Fu v2], HA [Ai v3, Fu v4]] => haystackref02_Same_l5 v0 v1 v2 v3 v4 (fun v5 => K (Ex.ret) (St.mk (spread 38 0 [4] [Ab v5]) [])) (fun _ => K (Ex.exit 0) (St.mk (spread 38 0 [] []) []))
 | _, _ => none

noncomputable def o28 : Nat → Option PSpec := lkN [(4000, fun st _ K => pickM 38 [2, 3] st (o28_4000_in K)), (5400, fun st _ K => pickM 38 [2, 3, 5] st (o28_5400_in K))]
noncomputable def q28 : CallF := evFun (V 28) S29 T87 10

noncomputable def c28_4000 : Code := subC [1, 1] (bodyOf Tryd.f28)

noncomputable def c28_5400 : Code := subC [1, 1, 0, 1, 0, 0] (bodyOf Tryd.f28)

noncomputable def lp28_5400 {R : Type} (N : Nat) (st : St) (K : Ex → St → Option R) : Option R := evLoop (norm ((V 28).keep 28 (Ev.keyOf c28_5400 * 1000 + 400)) 0) (evCode (V 28) q28 o28 28 0 3994 c28_5400) N st (kOut (V 28) 28 0 (Ev.keyOf c28_5400 * 1000 + 401) K)

theorem haystackref02_Same_l5_L_eq {R : Type} (K : Ex → St → Option R) : ∀ N : Nat, (fun (v0 v1 : Int) (v2 : List Int) (v3 : Int) (v4 : List Int) => lp28_5400 N (St.mk (spread 38 0 [2, 3, 5] [Ap 0 0, Ap 1 0, Ai v0]) [HA [Ai v1, Fu v2], HA [Ai v3, Fu v4]]) K) = haystackref02_Same_l5_L (fun v5 => K (Ex.ret) (St.mk (spread 38 0 [4] [Ab v5]) [])) (fun _ => K (Ex.exit 0) (St.mk (spread 38 0 [] []) [])) N
  | 0 => by funext v0 v1 v2 v3 v4; rfl
  | N + 1 => by
    funext v0 v1 v2 v3 v4
    simp only [haystackref02_Same_l5_L]
    rw [← haystackref02_Same_l5_L_eq K N]
    kernel_rfl

theorem p28_4000 : PieceOk (V 28) q28 o28 28 0 (3998, 0, c28_4000) := .s (size := 38) (ss := [2, 3]) (F := @o28_4000_in) (by kernel_rfl) fun R r K vs hh h => by
  unfold o28_4000_in at h; split at h
  · rw [haystackref02_Same_j4_unf] at h; exact Eq.trans (by kernel_rfl) h
  · cases h

theorem p28_5400 : PieceOk (V 28) q28 o28 28 0 (3994, 1, c28_5400) := .l (size := 38) (ss := [2, 3, 5]) (F := @o28_5400_in) (by kernel_rfl) (by kernel_rfl) fun R r K vs hh h => by
  unfold o28_5400_in at h; split at h
  · rw [haystackref02_Same_l5_unf] at h; unfold haystackref02_Same_l5_B at h; rw [← haystackref02_Same_l5_L_eq K NR] at h; exact h
  · cases h

theorem pc28 : ∀ x ∈ [(3998, 0, c28_4000), (3994, 1, c28_5400)], PieceOk (V 28) q28 o28 28 0 x := List.forall_mem_cons.2 ⟨p28_4000, List.forall_mem_cons.2 ⟨p28_5400, fun _ h => nomatch h⟩⟩

noncomputable def sp28 : Ev.Spec := fun args _ K => match args with
 | ([AV.agg (Blk.any [Ai v0, Fu v1]), AV.agg (Blk.any [Ai v2, Fu v3])]) => haystackref02_Same v0 v1 v2 v3 (fun v4 => K (Ab v4))
 | _ => none
noncomputable def S28 := addS 28 sp28 S29
theorem D41 : Dom B0 V S28 T87 41 := Dom.s (m := 40) (n := 0) D40 D40 (O := o28) (OrcOk.fn (fn0 := Tryd.f28) (by kernel_rfl) (by kernel_rfl) pc28) fun args R K r h => by
 unfold sp28 at h; split at h
 · rw [haystackref02_Same_unf] at h; exact Eq.trans (by kernel_rfl) h
 · cases h

noncomputable def o12_4000_in {R : Type} (K : Ex → St → Option R) (vs : List AV) (hh : H) : Option R := match vs, hh with
 | [Ap 0 0, Ai v0, Ab v1, Ai v2], [HA [Ai v3, Ai v4, Ai v5, Ai v6, Ai v7, Fu v8, Ai v9, Fu va]] => haystacklaw09_heads_j4 v0 v1 v2 v3 v4 v5 v6 v7 v8 v9 va (fun vb => K (Ex.ret) (St.mk (spread 108 0 [0] [Ab vb]) []))
 | _, _ => none

noncomputable def o12 : Nat → Option PSpec := lkN [(4000, fun st _ K => pickM 108 [1, 2, 3, 4] st (o12_4000_in K))]
noncomputable def q12 : CallF := evFun (V 12) S28 T87 10

noncomputable def c12_4000 : Code := subC [1, 1, 1] (bodyOf Tryd.f12)

theorem haystacklaw09_heads_j4_eq {R : Type} (K : Ex → St → Option R) (v0 : Int) (v1 : Bool) (v2 v3 v4 v5 v6 v7 : Int) (v8 : List Int) (v9 : Int) (va : List Int) : evCode (V 12) q12 o12 12 0 3997 c12_4000 (St.mk (spread 108 0 [1, 2, 3, 4] [Ap 0 0, Ai v0, Ab v1, Ai v2]) [HA [Ai v3, Ai v4, Ai v5, Ai v6, Ai v7, Fu v8, Ai v9, Fu va]]) (kOut (V 12) 12 0 (Ev.keyOf c12_4000 * 1000 + 1) K) = haystacklaw09_heads_j4_B v0 v1 v2 v3 v4 v5 v6 v7 v8 v9 va (fun vb => K (Ex.ret) (St.mk (spread 108 0 [0] [Ab vb]) [])) := by kernel_rfl

theorem p12_4000 : PieceOk (V 12) q12 o12 12 0 (3997, 0, c12_4000) := .s (size := 108) (ss := [1, 2, 3, 4]) (F := @o12_4000_in) (by kernel_rfl) fun R r K vs hh h => by
  unfold o12_4000_in at h; split at h
  · rw [haystacklaw09_heads_j4_unf] at h; exact (haystacklaw09_heads_j4_eq K _ _ _ _ _ _ _ _ _ _ _).trans h
  · cases h

theorem pc12 : ∀ x ∈ [(3997, 0, c12_4000)], PieceOk (V 12) q12 o12 12 0 x := List.forall_mem_cons.2 ⟨p12_4000, fun _ h => nomatch h⟩

noncomputable def sp12 : Ev.Spec := fun args _ K => match args with
 | [] => haystacklaw09_heads (fun v0 => K (Ab v0))
 | _ => none
noncomputable def S12 := addS 12 sp12 S28
theorem D42 : Dom B0 V S12 T87 42 := Dom.s (m := 41) (n := 0) D41 D41 (O := o12) (OrcOk.fn (fn0 := Tryd.f12) (by kernel_rfl) (by kernel_rfl) pc12) fun args R K r h => by
 unfold sp12 at h; split at h
 · rw [haystacklaw09_heads_unf] at h; exact Eq.trans (by kernel_rfl) h
 · cases h

noncomputable def sp39 : Ev.Spec := fun args _ K => match args with
 | ([Ai v0]) => haystackref02_Words v0 (fun v1 => K (Ai v1))
 | _ => none
noncomputable def S39 := addS 39 sp39 S12
theorem D43 : Dom B0 V S39 T87 43 := Dom.s (m := 42) (n := 0) D42 D42 (O := (fun _ => none)) (fun _ _ _ _ => OrcOk.none _ _) fun args R K r h => by
 unfold sp39 at h; split at h
 · rw [haystackref02_Words_unf] at h; exact Eq.trans (by kernel_rfl) h
 · cases h

noncomputable def o40_4400_in {R : Type} (K : Ex → St → Option R) (vs : List AV) (hh : H) : Option R := match vs, hh with
 | [Ai v0, Au v1, Ai v2], [] => haystackref01_Mask_l4 v0 v1 v2 (fun v3 => K (Ex.exit 0) (St.mk (spread 20 0 [3] [Au v3]) []))
 | _, _ => none

noncomputable def o40_6000_in {R : Type} (K : Ex → St → Option R) (vs : List AV) (hh : H) : Option R := match vs, hh with
 | [Ai v0, Au v1, Ai v2], [] => haystackref01_Mask_j6 v0 v1 v2 (fun v3 v4 v5 => K (Ex.normal) (St.mk (spread 20 0 [0, 3, 4] [Ai v3, Au v4, Ai v5]) []))
 | _, _ => none

noncomputable def o40 : Nat → Option PSpec := lkN [(4400, fun st _ K => pickM 20 [0, 3, 4] st (o40_4400_in K)), (6000, fun st _ K => pickM 20 [0, 3, 4] st (o40_6000_in K))]
noncomputable def q40 : CallF := evFun (V 40) S39 T87 10

noncomputable def c40_4400 : Code := subC [1, 1, 0, 1, 0, 0] (bodyOf Tryd.f40)

noncomputable def lp40_4400 {R : Type} (N : Nat) (st : St) (K : Ex → St → Option R) : Option R := evLoop (norm ((V 40).keep 40 (Ev.keyOf c40_4400 * 1000 + 400)) 0) (evCode (V 40) q40 o40 40 0 3994 c40_4400) N st (kOut (V 40) 40 0 (Ev.keyOf c40_4400 * 1000 + 401) K)

noncomputable def c40_6000 : Code := subC [1, 1, 0, 1, 0, 0, 1] (bodyOf Tryd.f40)

theorem haystackref01_Mask_l4_L_eq {R : Type} (K : Ex → St → Option R) : ∀ N : Nat, (fun (v0 v1 v2 : Int) => lp40_4400 N (St.mk (spread 20 0 [0, 3, 4] [Ai v0, Au v1, Ai v2]) []) K) = haystackref01_Mask_l4_L (fun v3 => K (Ex.exit 0) (St.mk (spread 20 0 [3] [Au v3]) [])) N
  | 0 => by funext v0 v1 v2; rfl
  | N + 1 => by
    funext v0 v1 v2
    simp only [haystackref01_Mask_l4_L]
    rw [← haystackref01_Mask_l4_L_eq K N]
    kernel_rfl

theorem p40_4400 : PieceOk (V 40) q40 o40 40 0 (3994, 1, c40_4400) := .l (size := 20) (ss := [0, 3, 4]) (F := @o40_4400_in) (by kernel_rfl) (by kernel_rfl) fun R r K vs hh h => by
  unfold o40_4400_in at h; split at h
  · rw [haystackref01_Mask_l4_unf] at h; unfold haystackref01_Mask_l4_B at h; rw [← haystackref01_Mask_l4_L_eq K NR] at h; exact h
  · cases h

theorem p40_6000 : PieceOk (V 40) q40 o40 40 0 (3993, 0, c40_6000) := .s (size := 20) (ss := [0, 3, 4]) (F := @o40_6000_in) (by kernel_rfl) fun R r K vs hh h => by
  unfold o40_6000_in at h; split at h
  · rw [haystackref01_Mask_j6_unf] at h; exact Eq.trans (by kernel_rfl) h
  · cases h

theorem pc40 : ∀ x ∈ [(3994, 1, c40_4400), (3993, 0, c40_6000)], PieceOk (V 40) q40 o40 40 0 x := List.forall_mem_cons.2 ⟨p40_4400, List.forall_mem_cons.2 ⟨p40_6000, fun _ h => nomatch h⟩⟩

noncomputable def sp40 : Ev.Spec := fun args _ K => match args with
 | ([Ai v0]) => haystackref01_Mask v0 (fun v1 => K (Au v1))
 | _ => none
noncomputable def S40 := addS 40 sp40 S39
theorem D44 : Dom B0 V S40 T87 44 := Dom.s (m := 43) (n := 0) D43 D43 (O := o40) (OrcOk.fn (fn0 := Tryd.f40) (by kernel_rfl) (by kernel_rfl) pc40) fun args R K r h => by
 unfold sp40 at h; split at h
 · rw [haystackref01_Mask_unf] at h; exact Eq.trans (by kernel_rfl) h
 · cases h

noncomputable def o11_4000_in {R : Type} (K : Ex → St → Option R) (vs : List AV) (hh : H) : Option R := match vs, hh with
 | [Ap 0 0], [HA [Ai v0, Fu v1]] => haystackref02_Check_j4 v0 v1 (fun v2 => K (Ex.ret) (St.mk (spread 40 0 [2] [Ab v2]) []))
 | _, _ => none

noncomputable def o11 : Nat → Option PSpec := lkN [(4000, fun st _ K => pickM 40 [1] st (o11_4000_in K))]
noncomputable def q11 : CallF := evFun (V 11) S40 T87 10

noncomputable def c11_4000 : Code := subC [1, 1] (bodyOf Tryd.f11)

theorem p11_4000 : PieceOk (V 11) q11 o11 11 0 (3998, 0, c11_4000) := .s (size := 40) (ss := [1]) (F := @o11_4000_in) (by kernel_rfl) fun R r K vs hh h => by
  unfold o11_4000_in at h; split at h
  · rw [haystackref02_Check_j4_unf] at h; exact Eq.trans (by kernel_rfl) h
  · cases h

theorem pc11 : ∀ x ∈ [(3998, 0, c11_4000)], PieceOk (V 11) q11 o11 11 0 x := List.forall_mem_cons.2 ⟨p11_4000, fun _ h => nomatch h⟩

noncomputable def sp11 : Ev.Spec := fun args _ K => match args with
 | ([AV.agg (Blk.any [Ai v0, Fu v1])]) => haystackref02_Check v0 v1 (fun v2 => K (Ab v2))
 | _ => none
noncomputable def S11 := addS 11 sp11 S40
theorem D45 : Dom B0 V S11 T87 45 := Dom.s (m := 44) (n := 0) D44 D44 (O := o11) (OrcOk.fn (fn0 := Tryd.f11) (by kernel_rfl) (by kernel_rfl) pc11) fun args R K r h => by
 unfold sp11 at h; split at h
 · rw [haystackref02_Check_unf] at h; exact Eq.trans (by kernel_rfl) h
 · cases h

noncomputable def sp50 : Ev.Spec := fun args _ K => match args with
 | ([AV.agg (Blk.any [Ai v0, Fu v1]), Ai v2]) => haystackref02_At v0 v1 v2 (fun v3 => K (Ab v3))
 | _ => none
noncomputable def S50 := addS 50 sp50 S11
theorem D46 : Dom B0 V S50 T87 46 := Dom.s (m := 45) (n := 0) D45 D45 (O := (fun _ => none)) (fun _ _ _ _ => OrcOk.none _ _) fun args R K r h => by
 unfold sp50 at h; split at h
 · rw [haystackref02_At_unf] at h; exact Eq.trans (by kernel_rfl) h
 · cases h

noncomputable def o52_4400_in {R : Type} (K : Ex → St → Option R) (vs : List AV) (hh : H) : Option R := match vs, hh with
 | [Ap 0 0, AV.sl 1 0 v0 1, Ai v1], [HA [Ai v2, Fu v3], HB.live (Blk.ints .i64 v4)] => haystackref09_places_l4 v0 v1 v2 v3 v4 (fun v5 v6 => K (Ex.exit 0) (St.mk (spread 19 0 [3] [AV.sl 0 0 v5 1]) [HB.live (Blk.ints .i64 v6)]))
 | _, _ => none

noncomputable def o52 : Nat → Option PSpec := lkN [(4400, fun st _ K => pickM 19 [1, 3, 4] st (o52_4400_in K))]
noncomputable def q52 : CallF := evFun (V 52) S50 T87 10

noncomputable def c52_4400 : Code := subC [1, 1, 0, 1, 0, 0] (bodyOf Tryd.f52)

noncomputable def lp52_4400 {R : Type} (N : Nat) (st : St) (K : Ex → St → Option R) : Option R := evLoop (norm ((V 52).keep 52 (Ev.keyOf c52_4400 * 1000 + 400)) 0) (evCode (V 52) q52 o52 52 0 3994 c52_4400) N st (kOut (V 52) 52 0 (Ev.keyOf c52_4400 * 1000 + 401) K)

theorem haystackref09_places_l4_L_eq {R : Type} (K : Ex → St → Option R) : ∀ N : Nat, (fun (v0 : Nat) (v1 v2 : Int) (v3 v4 : List Int) => lp52_4400 N (St.mk (spread 19 0 [1, 3, 4] [Ap 0 0, AV.sl 1 0 v0 1, Ai v1]) [HA [Ai v2, Fu v3], HB.live (Blk.ints .i64 v4)]) K) = haystackref09_places_l4_L (fun v5 v6 => K (Ex.exit 0) (St.mk (spread 19 0 [3] [AV.sl 0 0 v5 1]) [HB.live (Blk.ints .i64 v6)])) N
  | 0 => by funext v0 v1 v2 v3 v4; rfl
  | N + 1 => by
    funext v0 v1 v2 v3 v4
    simp only [haystackref09_places_l4_L]
    rw [← haystackref09_places_l4_L_eq K N]
    kernel_rfl

theorem p52_4400 : PieceOk (V 52) q52 o52 52 0 (3994, 1, c52_4400) := .l (size := 19) (ss := [1, 3, 4]) (F := @o52_4400_in) (by kernel_rfl) (by kernel_rfl) fun R r K vs hh h => by
  unfold o52_4400_in at h; split at h
  · rw [haystackref09_places_l4_unf] at h; unfold haystackref09_places_l4_B at h; rw [← haystackref09_places_l4_L_eq K NR] at h; exact h
  · cases h

theorem pc52 : ∀ x ∈ [(3994, 1, c52_4400)], PieceOk (V 52) q52 o52 52 0 x := List.forall_mem_cons.2 ⟨p52_4400, fun _ h => nomatch h⟩

noncomputable def sp52 : Ev.Spec := fun args _ K => match args with
 | ([AV.agg (Blk.any [Ai v0, Fu v1])]) => haystackref09_places v0 v1 (fun v2 => K (AV.fsl (Blk.ints .i64 v2)))
 | _ => none
noncomputable def S52 := addS 52 sp52 S50
theorem D47 : Dom B0 V S52 T87 47 := Dom.s (m := 46) (n := 0) D46 D46 (O := o52) (OrcOk.fn (fn0 := Tryd.f52) (by kernel_rfl) (by kernel_rfl) pc52) fun args R K r h => by
 unfold sp52 at h; split at h
 · rw [haystackref09_places_unf] at h; exact Eq.trans (by kernel_rfl) h
 · cases h

noncomputable def o96_3400_in {R : Type} (K : Ex → St → Option R) (vs : List AV) (hh : H) : Option R := match vs, hh with
 | [Au v0, Ai v1], [] => haystackref01_Len_l3 v0 v1 (fun v2 => K (Ex.ret) (St.mk (spread 16 0 [2] [Ai v2]) [])) (fun _ => K (Ex.exit 0) (St.mk (spread 16 0 [] []) []))
 | _, _ => none

noncomputable def o96 : Nat → Option PSpec := lkN [(3400, fun st _ K => pickM 16 [0, 3] st (o96_3400_in K))]
noncomputable def q96 : CallF := evFun (V 96) S52 T87 10

noncomputable def c96_3400 : Code := subC [1, 0, 1, 0, 0] (bodyOf Tryd.f96)

noncomputable def lp96_3400 {R : Type} (N : Nat) (st : St) (K : Ex → St → Option R) : Option R := evLoop (norm ((V 96).keep 96 (Ev.keyOf c96_3400 * 1000 + 400)) 0) (evCode (V 96) q96 o96 96 0 3995 c96_3400) N st (kOut (V 96) 96 0 (Ev.keyOf c96_3400 * 1000 + 401) K)

theorem haystackref01_Len_l3_L_eq {R : Type} (K : Ex → St → Option R) : ∀ N : Nat, (fun (v0 v1 : Int) => lp96_3400 N (St.mk (spread 16 0 [0, 3] [Au v0, Ai v1]) []) K) = haystackref01_Len_l3_L (fun v2 => K (Ex.ret) (St.mk (spread 16 0 [2] [Ai v2]) [])) (fun _ => K (Ex.exit 0) (St.mk (spread 16 0 [] []) [])) N
  | 0 => by funext v0 v1; rfl
  | N + 1 => by
    funext v0 v1
    simp only [haystackref01_Len_l3_L]
    rw [← haystackref01_Len_l3_L_eq K N]
    kernel_rfl

theorem p96_3400 : PieceOk (V 96) q96 o96 96 0 (3995, 1, c96_3400) := .l (size := 16) (ss := [0, 3]) (F := @o96_3400_in) (by kernel_rfl) (by kernel_rfl) fun R r K vs hh h => by
  unfold o96_3400_in at h; split at h
  · rw [haystackref01_Len_l3_unf] at h; unfold haystackref01_Len_l3_B at h; rw [← haystackref01_Len_l3_L_eq K NR] at h; exact h
  · cases h

theorem pc96 : ∀ x ∈ [(3995, 1, c96_3400)], PieceOk (V 96) q96 o96 96 0 x := List.forall_mem_cons.2 ⟨p96_3400, fun _ h => nomatch h⟩

noncomputable def sp96 : Ev.Spec := fun args _ K => match args with
 | ([Au v0]) => haystackref01_Len v0 (fun v1 => K (Ai v1))
 | _ => none
noncomputable def S96 := addS 96 sp96 S52
theorem D48 : Dom B0 V S96 T87 48 := Dom.s (m := 47) (n := 0) D47 D47 (O := o96) (OrcOk.fn (fn0 := Tryd.f96) (by kernel_rfl) (by kernel_rfl) pc96) fun args R K r h => by
 unfold sp96 at h; split at h
 · rw [haystackref01_Len_unf] at h; exact Eq.trans (by kernel_rfl) h
 · cases h

noncomputable def sp76 : Ev.Spec := fun args _ K => match args with
 | ([Ai v0, Ai v1]) => haystackref09_width v0 v1 (fun v2 => K (Ai v2))
 | _ => none
noncomputable def S76 := addS 76 sp76 S96
theorem D49 : Dom B0 V S76 T87 49 := Dom.s (m := 48) (n := 0) D48 D48 (O := (fun _ => none)) (fun _ _ _ _ => OrcOk.none _ _) fun args R K r h => by
 unfold sp76 at h; split at h
 · rw [haystackref09_width_unf] at h; exact Eq.trans (by kernel_rfl) h
 · cases h

noncomputable def o98r0_3000_in {R : Type} (K : Ex → St → Option R) (vs : List AV) (hh : H) : Option R := match vs, hh with
 | [Ai v0, Ap 0 0, Ab v1], [HA [Ai v2, AV.esl]] => haystackref02_New_j3 v0 v1 v2 (fun v3 v4 => K (Ex.ret) (St.mk (spread 16 0 [2, 3] [Ap 0 0, Ai v3]) [HA [Ai v4, AV.esl]])) (fun v3 v4 => K (Ex.normal) (St.mk (spread 16 0 [0, 2] [Ai v3, Ap 0 0]) [HA [Ai v4, AV.esl]]))
 | _, _ => none

noncomputable def o98r0_4000_in {R : Type} (K : Ex → St → Option R) (vs : List AV) (hh : H) : Option R := match vs, hh with
 | [Ai v0, Ap 0 0], [HA [Ai v1, AV.esl]] => haystackref02_New_j4 v0 v1 (fun v2 v3 v4 v5 => K (Ex.ret) (St.mk (spread 16 0 [2, 3] [Ap 0 0, Ai v2]) [HA [Ai v3, AV.sl 1 0 v4 1], HU v5]))
 | _, _ => none

noncomputable def o98r0 : Nat → Option PSpec := lkN [(3000, fun st _ K => pickM 16 [0, 2, 9] st (o98r0_3000_in K)), (4000, fun st _ K => pickM 16 [0, 2] st (o98r0_4000_in K))]
noncomputable def q98r0 : CallF := evFun (V 98) S76 T87 10

noncomputable def c98r0_4000 : Code := subC [1, 1] (bodyOf Tryd.f98)

noncomputable def c98r0_3000 : Code := subC [1, 0, 1] (bodyOf Tryd.f98)

theorem p98r0_4000 : PieceOk (V 98) q98r0 o98r0 98 0 (3998, 0, c98r0_4000) := .s (size := 16) (ss := [0, 2]) (F := @o98r0_4000_in) (by kernel_rfl) fun R r K vs hh h => by
  unfold o98r0_4000_in at h; split at h
  · rw [haystackref02_New_j4_unf] at h; exact Eq.trans (by kernel_rfl) h
  · cases h

theorem p98r0_3000 : PieceOk (V 98) q98r0 o98r0 98 0 (3997, 0, c98r0_3000) := .s (size := 16) (ss := [0, 2, 9]) (F := @o98r0_3000_in) (by kernel_rfl) fun R r K vs hh h => by
  unfold o98r0_3000_in at h; split at h
  · rw [haystackref02_New_j3_unf] at h; exact Eq.trans (by kernel_rfl) h
  · cases h

theorem pc98r0 : ∀ x ∈ [(3998, 0, c98r0_4000), (3997, 0, c98r0_3000)], PieceOk (V 98) q98r0 o98r0 98 0 x := List.forall_mem_cons.2 ⟨p98r0_4000, List.forall_mem_cons.2 ⟨p98r0_3000, fun _ h => nomatch h⟩⟩

noncomputable def hs98 : HSpec := fun args h _ K => match args, h with
 | [Ai v0], [] => haystackref02_New_r v0 (fun v1 v2 => K (AV.tup [AV.agg (Blk.any [Ai v1, AV.esl]), Ai v2]) []) (fun v1 v2 v3 v4 => K (AV.tup [AV.agg (Blk.any [Ai v1, AV.sl 0 0 v2 1]), Ai v3]) ([HU v4]))
 | _, _ => none
noncomputable def T98 := addT 98 hs98 T87
theorem D50 : Dom B0 V S76 T98 50 := Dom.t D49 fun args hh R K r h => by
 unfold hs98 at h; split at h
 · rw [haystackref02_New_r_unf] at h; exact ⟨o98r0, (OrcOk.fn (fn0 := Tryd.f98) (by kernel_rfl) (by kernel_rfl) pc98r0), Eq.trans (by kernel_rfl) h⟩
 · cases h

noncomputable def sp99 : Ev.Spec := fun args _ K => match args with
 | ([Fu v0, Ai v1, Ab v2]) => haystackref02_put v0 v1 v2
 | _ => none
noncomputable def S99 := addS 99 sp99 S76
theorem D51 : Dom B0 V S99 T98 51 := Dom.s (m := 50) (n := 0) D50 D50 (O := (fun _ => none)) (fun _ _ _ _ => OrcOk.none _ _) fun args R K r h => by
 unfold sp99 at h; split at h
 · rw [haystackref02_put_unf] at h; exact Eq.trans (by kernel_rfl) h
 · cases h

theorem haystackref02_put_r_eq {R : Type} (K : AV → H → Option R) (v0 : Nat) (v1 : Int) (v2 : Bool) (v3 : List Int) : evH (V 99) S99 T98 (fun _ => none) 10 99 [AV.sl 0 0 v0 1, Ai v1, Ab v2] [HU v3] R K = haystackref02_put_r_B v0 v1 v2 v3 (fun v4 => K (AV.tup []) ([HU v4])) := by kernel_rfl

noncomputable def hs99 : HSpec := fun args h _ K => match args, h with
 | [AV.sl 0 0 v0 1, Ai v1, Ab v2], [HU v3] => haystackref02_put_r v0 v1 v2 v3 (fun v4 => K (AV.tup []) ([HU v4]))
 | _, _ => none
noncomputable def T99 := addT 99 hs99 T98
theorem D52 : Dom B0 V S99 T99 52 := Dom.t D51 fun args hh R K r h => by
 unfold hs99 at h; split at h
 · rw [haystackref02_put_r_unf] at h; exact ⟨(fun _ => none), (fun _ _ _ _ => OrcOk.none _ _), (haystackref02_put_r_eq K _ _ _ _).trans h⟩
 · cases h

noncomputable def o78_4400_in {R : Type} (K : Ex → St → Option R) (vs : List AV) (hh : H) : Option R := match vs, hh with
 | [AV.fsl (Blk.bools v0), Ap 0 0, Ap 1 0, Ai v1, Ai v2], [HA [Ai v3, AV.esl], HA [Ai v4, AV.esl]] => haystackref02_From_l4 v0 v1 v2 v3 v4 (fun v5 v6 v7 => K (Ex.exit 0) (St.mk (spread 29 0 [2, 4, 5] [Ap 0 0, Ap 1 0, Ai v5]) [HA [Ai v6, AV.esl], HA [Ai v7, AV.esl]]))
 | [AV.fsl (Blk.bools v8), Ap 0 0, Ap 1 0, Ai v9, Ai va], [HA [Ai vb, AV.esl], HA [Ai vc, AV.sl 2 0 vd 1], HU ve] => haystackref02_From_l4_1 v8 v9 va vb vc vd ve (fun v5 v6 v7 vf vg => K (Ex.exit 0) (St.mk (spread 29 0 [2, 4, 5] [Ap 0 0, Ap 1 0, Ai v5]) [HA [Ai v6, AV.esl], HA [Ai v7, AV.sl 2 0 vf 1], HU vg]))
 | _, _ => none

noncomputable def o78 : Nat → Option PSpec := lkN [(4400, fun st _ K => pickM 29 [0, 2, 4, 5, 6] st (o78_4400_in K))]
noncomputable def q78 : CallF := evFun (V 78) S99 T99 10

noncomputable def c78_4400 : Code := subC [1, 1, 0, 1, 0, 0] (bodyOf Tryd.f78)

noncomputable def lp78_4400 {R : Type} (N : Nat) (st : St) (K : Ex → St → Option R) : Option R := evLoop (norm ((V 78).keep 78 (Ev.keyOf c78_4400 * 1000 + 400)) 0) (evCode (V 78) q78 o78 78 0 3994 c78_4400) N st (kOut (V 78) 78 0 (Ev.keyOf c78_4400 * 1000 + 401) K)

theorem haystackref02_From_l4_L_eq {R : Type} (K : Ex → St → Option R) : ∀ N : Nat, (fun (v0 : List Bool) (v1 v2 v3 v4 : Int) => lp78_4400 N (St.mk (spread 29 0 [0, 2, 4, 5, 6] [AV.fsl (Blk.bools v0), Ap 0 0, Ap 1 0, Ai v1, Ai v2]) [HA [Ai v3, AV.esl], HA [Ai v4, AV.esl]]) K) = haystackref02_From_l4_L (fun v5 v6 v7 => K (Ex.exit 0) (St.mk (spread 29 0 [2, 4, 5] [Ap 0 0, Ap 1 0, Ai v5]) [HA [Ai v6, AV.esl], HA [Ai v7, AV.esl]])) N
  | 0 => by funext v0 v1 v2 v3 v4; rfl
  | N + 1 => by
    funext v0 v1 v2 v3 v4
    simp only [haystackref02_From_l4_L]
    rw [← haystackref02_From_l4_L_eq K N]
    kernel_rfl

theorem haystackref02_From_l4_1_L_eq {R : Type} (K : Ex → St → Option R) : ∀ N : Nat, (fun (v0 : List Bool) (v1 v2 v3 v4 : Int) (v5 : Nat) (v6 : List Int) => lp78_4400 N (St.mk (spread 29 0 [0, 2, 4, 5, 6] [AV.fsl (Blk.bools v0), Ap 0 0, Ap 1 0, Ai v1, Ai v2]) [HA [Ai v3, AV.esl], HA [Ai v4, AV.sl 2 0 v5 1], HU v6]) K) = haystackref02_From_l4_1_L (fun v7 v8 v9 va vb => K (Ex.exit 0) (St.mk (spread 29 0 [2, 4, 5] [Ap 0 0, Ap 1 0, Ai v7]) [HA [Ai v8, AV.esl], HA [Ai v9, AV.sl 2 0 va 1], HU vb])) N
  | 0 => by funext v0 v1 v2 v3 v4 v5 v6; rfl
  | N + 1 => by
    funext v0 v1 v2 v3 v4 v5 v6
    simp only [haystackref02_From_l4_1_L]
    rw [← haystackref02_From_l4_1_L_eq K N]
    kernel_rfl

theorem p78_4400 : PieceOk (V 78) q78 o78 78 0 (3994, 1, c78_4400) := .l (size := 29) (ss := [0, 2, 4, 5, 6]) (F := @o78_4400_in) (by kernel_rfl) (by kernel_rfl) fun R r K vs hh h => by
  unfold o78_4400_in at h; split at h
  · rw [haystackref02_From_l4_unf] at h; unfold haystackref02_From_l4_B at h; rw [← haystackref02_From_l4_L_eq K NR] at h; exact h
  · rw [haystackref02_From_l4_1_unf] at h; unfold haystackref02_From_l4_1_B at h; rw [← haystackref02_From_l4_1_L_eq K NR] at h; exact h
  · cases h

theorem pc78 : ∀ x ∈ [(3994, 1, c78_4400)], PieceOk (V 78) q78 o78 78 0 x := List.forall_mem_cons.2 ⟨p78_4400, fun _ h => nomatch h⟩

noncomputable def sp78 : Ev.Spec := fun args _ K => match args with
 | ([AV.fsl (Blk.bools v0)]) => haystackref02_From v0 (fun v1 v2 v3 => K (AV.tup [AV.agg (Blk.any [Ai v1, Fu v2]), Ai v3]))
 | _ => none
noncomputable def S78 := addS 78 sp78 S99
theorem D53 : Dom B0 V S78 T99 53 := Dom.s (m := 52) (n := 0) D52 D52 (O := o78) (OrcOk.fn (fn0 := Tryd.f78) (by kernel_rfl) (by kernel_rfl) pc78) fun args R K r h => by
 unfold sp78 at h; split at h
 · rw [haystackref02_From_unf] at h; exact Eq.trans (by kernel_rfl) h
 · cases h

noncomputable def sp97 : Ev.Spec := fun args _ K => match args with
 | ([Au v0, Ai v1]) => haystackref03_fits v0 v1 (fun v2 => K (Ab v2))
 | _ => none
noncomputable def S97 := addS 97 sp97 S78
theorem D54 : Dom B0 V S97 T99 54 := Dom.s (m := 53) (n := 0) D53 D53 (O := (fun _ => none)) (fun _ _ _ _ => OrcOk.none _ _) fun args R K r h => by
 unfold sp97 at h; split at h
 · rw [haystackref03_fits_unf] at h; exact Eq.trans (by kernel_rfl) h
 · cases h

noncomputable def o77_3000_in {R : Type} (K : Ex → St → Option R) (vs : List AV) (hh : H) : Option R := match vs, hh with
 | [Ai v0, Fu v1, Ap 0 0, Ab v2], [HA [Ai v3, Ai v4, Ai v5, AV.esl]] => haystackref03_Make_j3 v0 v1 v2 v3 v4 v5 (fun v6 v7 v8 v9 => K (Ex.ret) (St.mk (spread 71 0 [4, 5] [Ap 0 0, Ai v6]) [HA [Ai v7, Ai v8, Ai v9, AV.esl]])) (fun v6 v7 v8 v9 va => K (Ex.normal) (St.mk (spread 71 0 [0, 1, 4] [Ai v6, Fu v7, Ap 0 0]) [HA [Ai v8, Ai v9, Ai va, AV.esl]]))
 | _, _ => none

noncomputable def o77_4000_in {R : Type} (K : Ex → St → Option R) (vs : List AV) (hh : H) : Option R := match vs, hh with
 | [Ai v0, Fu v1, Ap 0 0], [HA [Ai v2, Ai v3, Ai v4, AV.esl]] => haystackref03_Make_j4 v0 v1 v2 v3 v4 (fun v5 v6 v7 v8 => K (Ex.ret) (St.mk (spread 71 0 [4, 5] [Ap 0 0, Ai v5]) [HA [Ai v6, Ai v7, Ai v8, AV.esl]])) (fun v5 v6 v7 v8 v9 => K (Ex.ret) (St.mk (spread 71 0 [4, 5] [Ap 0 0, Ai v5]) [HA [Ai v6, Ai v7, Ai v8, Fu v9]]))
 | _, _ => none

noncomputable def o77_6400_in {R : Type} (K : Ex → St → Option R) (vs : List AV) (hh : H) : Option R := match vs, hh with
 | [Ai v0, Fu v1, Ap 0 0, AV.sl 1 0 v2 1, Ai v3], [HA [Ai v4, Ai v5, Ai v6, AV.esl], HO v7] => haystackref03_Make_l6 v0 v1 v2 v3 v4 v5 v6 v7 (fun v8 v9 va vb => K (Ex.ret) (St.mk (spread 71 0 [4, 5] [Ap 0 0, Ai v8]) [HA [Ai v9, Ai va, Ai vb, AV.esl]])) (fun v8 v9 va vb vc vd ve => K (Ex.exit 0) (St.mk (spread 71 0 [0, 1, 4, 6] [Ai v8, Fu v9, Ap 0 0, AV.sl 1 0 va 1]) [HA [Ai vb, Ai vc, Ai vd, AV.esl], HO ve]))
 | _, _ => none

noncomputable def o77_11400_in {R : Type} (K : Ex → St → Option R) (vs : List AV) (hh : H) : Option R := match vs, hh with
 | [Ai v0, Fu v1, Ap 0 0, AV.sl 1 0 v2 1, Ai v3, Ai v4], [HA [Ai v5, Ai v6, Ai v7, AV.esl], HO v8] => haystackref03_Make_l11 v0 v1 v2 v3 v4 v5 v6 v7 v8 (fun v9 va vb vc vd ve vf vg => K (Ex.exit 2) (St.mk (spread 71 0 [0, 1, 4, 6, 7] [Ai v9, Fu va, Ap 0 0, AV.sl 1 0 vb 1, Ai vc]) [HA [Ai vd, Ai ve, Ai vf, AV.esl], HO vg]))
 | _, _ => none

noncomputable def o77 : Nat → Option PSpec := lkN [(3000, fun st _ K => pickM 71 [0, 1, 4, 28] st (o77_3000_in K)), (4000, fun st _ K => pickM 71 [0, 1, 4] st (o77_4000_in K)), (6400, fun st _ K => pickM 71 [0, 1, 4, 6, 7] st (o77_6400_in K)), (11400, fun st _ K => pickM 71 [0, 1, 4, 6, 7, 8] st (o77_11400_in K))]
noncomputable def q77 : CallF := evFun (V 77) S97 T99 10

noncomputable def c77_4000 : Code := subC [1, 1] (bodyOf Tryd.f77)

noncomputable def c77_3000 : Code := subC [1, 0, 1] (bodyOf Tryd.f77)

noncomputable def c77_6400 : Code := subC [1, 1, 1, 0, 1, 0, 0] (bodyOf Tryd.f77)

noncomputable def lp77_6400 {R : Type} (N : Nat) (st : St) (K : Ex → St → Option R) : Option R := evLoop (norm ((V 77).keep 77 (Ev.keyOf c77_6400 * 1000 + 400)) 0) (evCode (V 77) q77 o77 77 0 3993 c77_6400) N st (kOut (V 77) 77 0 (Ev.keyOf c77_6400 * 1000 + 401) K)

noncomputable def c77_11400 : Code := subC [1, 1, 1, 0, 1, 0, 0, 1, 0, 0, 1, 1, 0, 0] (bodyOf Tryd.f77)

noncomputable def lp77_11400 {R : Type} (N : Nat) (st : St) (K : Ex → St → Option R) : Option R := evLoop (norm ((V 77).keep 77 (Ev.keyOf c77_11400 * 1000 + 400)) 0) (evCode (V 77) q77 o77 77 0 3986 c77_11400) N st (kOut (V 77) 77 0 (Ev.keyOf c77_11400 * 1000 + 401) K)

theorem haystackref03_Make_l11_L_eq {R : Type} (K : Ex → St → Option R) : ∀ N : Nat, (fun (v0 : Int) (v1 : List Int) (v2 : Nat) (v3 v4 v5 v6 v7 : Int) (v8 : List Bool) => lp77_11400 N (St.mk (spread 71 0 [0, 1, 4, 6, 7, 8] [Ai v0, Fu v1, Ap 0 0, AV.sl 1 0 v2 1, Ai v3, Ai v4]) [HA [Ai v5, Ai v6, Ai v7, AV.esl], HO v8]) K) = haystackref03_Make_l11_L (fun v9 va vb vc vd ve vf vg => K (Ex.exit 2) (St.mk (spread 71 0 [0, 1, 4, 6, 7] [Ai v9, Fu va, Ap 0 0, AV.sl 1 0 vb 1, Ai vc]) [HA [Ai vd, Ai ve, Ai vf, AV.esl], HO vg])) N
  | 0 => by funext v0 v1 v2 v3 v4 v5 v6 v7 v8; rfl
  | N + 1 => by
    funext v0 v1 v2 v3 v4 v5 v6 v7 v8
    simp only [haystackref03_Make_l11_L]
    rw [← haystackref03_Make_l11_L_eq K N]
    kernel_rfl

theorem haystackref03_Make_l6_L_eq {R : Type} (K : Ex → St → Option R) : ∀ N : Nat, (fun (v0 : Int) (v1 : List Int) (v2 : Nat) (v3 v4 v5 v6 : Int) (v7 : List Bool) => lp77_6400 N (St.mk (spread 71 0 [0, 1, 4, 6, 7] [Ai v0, Fu v1, Ap 0 0, AV.sl 1 0 v2 1, Ai v3]) [HA [Ai v4, Ai v5, Ai v6, AV.esl], HO v7]) K) = haystackref03_Make_l6_L (fun v8 v9 va vb => K (Ex.ret) (St.mk (spread 71 0 [4, 5] [Ap 0 0, Ai v8]) [HA [Ai v9, Ai va, Ai vb, AV.esl]])) (fun v8 v9 va vb vc vd ve => K (Ex.exit 0) (St.mk (spread 71 0 [0, 1, 4, 6] [Ai v8, Fu v9, Ap 0 0, AV.sl 1 0 va 1]) [HA [Ai vb, Ai vc, Ai vd, AV.esl], HO ve])) N
  | 0 => by funext v0 v1 v2 v3 v4 v5 v6 v7; rfl
  | N + 1 => by
    funext v0 v1 v2 v3 v4 v5 v6 v7
    simp only [haystackref03_Make_l6_L]
    rw [← haystackref03_Make_l6_L_eq K N]
    kernel_rfl

theorem p77_4000 : PieceOk (V 77) q77 o77 77 0 (3998, 0, c77_4000) := .s (size := 71) (ss := [0, 1, 4]) (F := @o77_4000_in) (by kernel_rfl) fun R r K vs hh h => by
  unfold o77_4000_in at h; split at h
  · rw [haystackref03_Make_j4_unf] at h; exact Eq.trans (by kernel_rfl) h
  · cases h

theorem p77_3000 : PieceOk (V 77) q77 o77 77 0 (3997, 0, c77_3000) := .s (size := 71) (ss := [0, 1, 4, 28]) (F := @o77_3000_in) (by kernel_rfl) fun R r K vs hh h => by
  unfold o77_3000_in at h; split at h
  · rw [haystackref03_Make_j3_unf] at h; exact Eq.trans (by kernel_rfl) h
  · cases h

theorem p77_6400 : PieceOk (V 77) q77 o77 77 0 (3993, 1, c77_6400) := .l (size := 71) (ss := [0, 1, 4, 6, 7]) (F := @o77_6400_in) (by kernel_rfl) (by kernel_rfl) fun R r K vs hh h => by
  unfold o77_6400_in at h; split at h
  · rw [haystackref03_Make_l6_unf] at h; unfold haystackref03_Make_l6_B at h; rw [← haystackref03_Make_l6_L_eq K NR] at h; exact h
  · cases h

theorem p77_11400 : PieceOk (V 77) q77 o77 77 0 (3986, 1, c77_11400) := .l (size := 71) (ss := [0, 1, 4, 6, 7, 8]) (F := @o77_11400_in) (by kernel_rfl) (by kernel_rfl) fun R r K vs hh h => by
  unfold o77_11400_in at h; split at h
  · rw [haystackref03_Make_l11_unf] at h; unfold haystackref03_Make_l11_B at h; rw [← haystackref03_Make_l11_L_eq K NR] at h; exact h
  · cases h

theorem pc77 : ∀ x ∈ [(3998, 0, c77_4000), (3997, 0, c77_3000), (3993, 1, c77_6400), (3986, 1, c77_11400)], PieceOk (V 77) q77 o77 77 0 x := List.forall_mem_cons.2 ⟨p77_4000, List.forall_mem_cons.2 ⟨p77_3000, List.forall_mem_cons.2 ⟨p77_6400, List.forall_mem_cons.2 ⟨p77_11400, fun _ h => nomatch h⟩⟩⟩⟩

theorem haystackref03_Make_eq {R : Type} (K : AV → Option R) (v0 : Int) (v1 : List Int) : evSpec (V 77) S97 T99 o77 10 77 ([Ai v0, Fu v1]) R K = haystackref03_Make_B v0 v1 (fun v2 v3 v4 v5 v6 => K (AV.tup [AV.agg (Blk.any [Ai v2, Ai v3, Ai v4, Fu v5]), Ai v6])) := by kernel_rfl

noncomputable def sp77 : Ev.Spec := fun args _ K => match args with
 | ([Ai v0, Fu v1]) => haystackref03_Make v0 v1 (fun v2 v3 v4 v5 v6 => K (AV.tup [AV.agg (Blk.any [Ai v2, Ai v3, Ai v4, Fu v5]), Ai v6]))
 | _ => none
noncomputable def S77 := addS 77 sp77 S97
theorem D55 : Dom B0 V S77 T99 55 := Dom.s (m := 54) (n := 0) D54 D54 (O := o77) (OrcOk.fn (fn0 := Tryd.f77) (by kernel_rfl) (by kernel_rfl) pc77) fun args R K r h => by
 unfold sp77 at h; split at h
 · rw [haystackref03_Make_unf] at h; exact (haystackref03_Make_eq K _ _).trans h
 · cases h

noncomputable def o51_7400_in {R : Type} (K : Ex → St → Option R) (vs : List AV) (hh : H) : Option R := match vs, hh with
 | [AV.fsl (Blk.ints .i64 v0), Ap 0 0, Ai v1, Ap 1 0, AV.sl 2 0 v2 1, AV.sl 3 0 v3 1, Ai v4], [HA [Ai v5, Ai v6, Ai v7, Ai v8, Ai v9, AV.esl, Ai va, AV.esl], HA [Ai vb, Ai vc, Ai vd, Ai ve, Ai vf, AV.esl, Ai vg, AV.esl], HO vh, HU vi] => haystackref09_of_l7 v0 v1 v2 v3 v4 v5 v6 v7 v8 v9 va vb vc vd ve vf vg vh vi (fun vj vk vl vm vn vo vp vq vr vs vt vu vv vw vx vy vz => K (Ex.exit 0) (St.mk (spread 87 0 [4, 6, 7, 8, 9] [Ap 0 0, Ai vj, Ap 1 0, AV.sl 2 0 vk 1, AV.sl 3 0 vl 1]) [HA [Ai vm, Ai vn, Ai vo, Ai vp, Ai vq, AV.esl, Ai vr, AV.esl], HA [Ai vs, Ai vt, Ai vu, Ai vv, Ai vw, AV.esl, Ai vx, AV.esl], HO vy, HU vz]))
 | _, _ => none

noncomputable def o51_15000_in {R : Type} (K : Ex → St → Option R) (vs : List AV) (hh : H) : Option R := match vs, hh with
 | [Ap 0 0, Ap 1 0, Ap 2 0, Ap 3 0, Ab v0], [HA [Ai v1, Ai v2, Ai v3, Ai v4, Ai v5, AV.esl, Ai v6, AV.esl], HA [Ai v7, Ai v8, Ai v9, Ai va, Ai vb, AV.esl, Ai vc, AV.esl], HA [Ai vd, Ai ve, Ai vf, Fu vg], HA [Ai vh, Fu vi]] => haystackref09_of_j15 v0 v1 v2 v3 v4 v5 v6 v7 v8 v9 va vb vc vd ve vf vg vh vi (fun vj vk vl vm vn vo vp => K (Ex.ret) (St.mk (spread 87 0 [4, 5] [Ap 0 0, Ai vj]) [HA [Ai vk, Ai vl, Ai vm, Ai vn, Ai vo, AV.esl, Ai vp, AV.esl]])) (fun vj vk vl vm vn vo vp vq vr vs vt vu vv vw vx vy vz v10 => K (Ex.normal) (St.mk (spread 87 0 [4, 7, 11, 13] [Ap 0 0, Ap 1 0, Ap 2 0, Ap 3 0]) [HA [Ai vj, Ai vk, Ai vl, Ai vm, Ai vn, AV.esl, Ai vo, AV.esl], HA [Ai vp, Ai vq, Ai vr, Ai vs, Ai vt, AV.esl, Ai vu, AV.esl], HA [Ai vv, Ai vw, Ai vx, Fu vy], HA [Ai vz, Fu v10]]))
 | _, _ => none

noncomputable def o51_16000_in {R : Type} (K : Ex → St → Option R) (vs : List AV) (hh : H) : Option R := match vs, hh with
 | [Ap 0 0, Ap 1 0, Ap 2 0, Ap 3 0], [HA [Ai v0, Ai v1, Ai v2, Ai v3, Ai v4, AV.esl, Ai v5, AV.esl], HA [Ai v6, Ai v7, Ai v8, Ai v9, Ai va, AV.esl, Ai vb, AV.esl], HA [Ai vc, Ai vd, Ai ve, Fu vf], HA [Ai vg, Fu vh]] => haystackref09_of_j16 v0 v1 v2 v3 v4 v5 v6 v7 v8 v9 va vb vc vd ve vf vg vh (fun vi vj vk vl vm vn vo vp vq => K (Ex.ret) (St.mk (spread 87 0 [4, 5] [Ap 0 0, Ai vi]) [HA [Ai vj, Ai vk, Ai vl, Ai vm, Ai vn, Fu vo, Ai vp, Fu vq]]))
 | _, _ => none

noncomputable def o51 : Nat → Option PSpec := lkN [(7400, fun st _ K => pickM 87 [1, 4, 6, 7, 8, 9, 10] st (o51_7400_in K)), (15000, fun st _ K => pickM 87 [4, 7, 11, 13, 80] st (o51_15000_in K)), (16000, fun st _ K => pickM 87 [4, 7, 11, 13] st (o51_16000_in K))]
noncomputable def q51 : CallF := evFun (V 51) S77 T99 10

noncomputable def c51_7400 : Code := subC [1, 1, 1, 1, 1, 0, 1, 0, 0] (bodyOf Tryd.f51)

noncomputable def lp51_7400 {R : Type} (N : Nat) (st : St) (K : Ex → St → Option R) : Option R := evLoop (norm ((V 51).keep 51 (Ev.keyOf c51_7400 * 1000 + 400)) 0) (evCode (V 51) q51 o51 51 0 3991 c51_7400) N st (kOut (V 51) 51 0 (Ev.keyOf c51_7400 * 1000 + 401) K)

noncomputable def c51_16000 : Code := subC [1, 1, 1, 1, 1, 1, 1, 1, 1] (bodyOf Tryd.f51)

noncomputable def c51_15000 : Code := subC [1, 1, 1, 1, 1, 1, 1, 1, 0, 1] (bodyOf Tryd.f51)

theorem haystackref09_of_l7_L_eq {R : Type} (K : Ex → St → Option R) : ∀ N : Nat, (fun (v0 : List Int) (v1 : Int) (v2 v3 : Nat) (v4 v5 v6 v7 v8 v9 va vb vc vd ve vf vg : Int) (vh : List Bool) (vi : List Int) => lp51_7400 N (St.mk (spread 87 0 [1, 4, 6, 7, 8, 9, 10] [AV.fsl (Blk.ints .i64 v0), Ap 0 0, Ai v1, Ap 1 0, AV.sl 2 0 v2 1, AV.sl 3 0 v3 1, Ai v4]) [HA [Ai v5, Ai v6, Ai v7, Ai v8, Ai v9, AV.esl, Ai va, AV.esl], HA [Ai vb, Ai vc, Ai vd, Ai ve, Ai vf, AV.esl, Ai vg, AV.esl], HO vh, HU vi]) K) = haystackref09_of_l7_L (fun vj vk vl vm vn vo vp vq vr vs vt vu vv vw vx vy vz => K (Ex.exit 0) (St.mk (spread 87 0 [4, 6, 7, 8, 9] [Ap 0 0, Ai vj, Ap 1 0, AV.sl 2 0 vk 1, AV.sl 3 0 vl 1]) [HA [Ai vm, Ai vn, Ai vo, Ai vp, Ai vq, AV.esl, Ai vr, AV.esl], HA [Ai vs, Ai vt, Ai vu, Ai vv, Ai vw, AV.esl, Ai vx, AV.esl], HO vy, HU vz])) N
  | 0 => by funext v0 v1 v2 v3 v4 v5 v6 v7 v8 v9 va vb vc vd ve vf vg vh vi; rfl
  | N + 1 => by
    funext v0 v1 v2 v3 v4 v5 v6 v7 v8 v9 va vb vc vd ve vf vg vh vi
    simp only [haystackref09_of_l7_L]
    rw [← haystackref09_of_l7_L_eq K N]
    kernel_rfl

theorem p51_7400 : PieceOk (V 51) q51 o51 51 0 (3991, 1, c51_7400) := .l (size := 87) (ss := [1, 4, 6, 7, 8, 9, 10]) (F := @o51_7400_in) (by kernel_rfl) (by kernel_rfl) fun R r K vs hh h => by
  unfold o51_7400_in at h; split at h
  · rw [haystackref09_of_l7_unf] at h; unfold haystackref09_of_l7_B at h; rw [← haystackref09_of_l7_L_eq K NR] at h; exact h
  · cases h

theorem p51_16000 : PieceOk (V 51) q51 o51 51 0 (3991, 0, c51_16000) := .s (size := 87) (ss := [4, 7, 11, 13]) (F := @o51_16000_in) (by kernel_rfl) fun R r K vs hh h => by
  unfold o51_16000_in at h; split at h
  · rw [haystackref09_of_j16_unf] at h; exact Eq.trans (by kernel_rfl) h
  · cases h

theorem p51_15000 : PieceOk (V 51) q51 o51 51 0 (3990, 0, c51_15000) := .s (size := 87) (ss := [4, 7, 11, 13, 80]) (F := @o51_15000_in) (by kernel_rfl) fun R r K vs hh h => by
  unfold o51_15000_in at h; split at h
  · rw [haystackref09_of_j15_unf] at h; exact Eq.trans (by kernel_rfl) h
  · cases h

theorem pc51 : ∀ x ∈ [(3991, 1, c51_7400), (3991, 0, c51_16000), (3990, 0, c51_15000)], PieceOk (V 51) q51 o51 51 0 x := List.forall_mem_cons.2 ⟨p51_7400, List.forall_mem_cons.2 ⟨p51_16000, List.forall_mem_cons.2 ⟨p51_15000, fun _ h => nomatch h⟩⟩⟩

theorem haystackref09_of_eq {R : Type} (K : AV → Option R) (v0 : Int) (v1 : List Int) : evSpec (V 51) S77 T99 o51 10 51 ([Ai v0, AV.fsl (Blk.ints .i64 v1)]) R K = haystackref09_of_B v0 v1 (fun v2 v3 v4 v5 v6 v7 v8 v9 va => K (AV.tup [AV.agg (Blk.any [Ai v2, Ai v3, Ai v4, Ai v5, Ai v6, Fu v7, Ai v8, Fu v9]), Ai va])) := by kernel_rfl

noncomputable def sp51 : Ev.Spec := fun args _ K => match args with
 | ([Ai v0, AV.fsl (Blk.ints .i64 v1)]) => haystackref09_of v0 v1 (fun v2 v3 v4 v5 v6 v7 v8 v9 va => K (AV.tup [AV.agg (Blk.any [Ai v2, Ai v3, Ai v4, Ai v5, Ai v6, Fu v7, Ai v8, Fu v9]), Ai va]))
 | _ => none
noncomputable def S51 := addS 51 sp51 S77
theorem D56 : Dom B0 V S51 T99 56 := Dom.s (m := 55) (n := 0) D55 D55 (O := o51) (OrcOk.fn (fn0 := Tryd.f51) (by kernel_rfl) (by kernel_rfl) pc51) fun args R K r h => by
 unfold sp51 at h; split at h
 · rw [haystackref09_of_unf] at h; exact (haystackref09_of_eq K _ _).trans h
 · cases h

noncomputable def sp18 : Ev.Spec := fun args _ K => match args with
 | ([AV.agg (Blk.any [Ai v0, Fu v1])]) => haystackref09_Build v0 v1 (fun v2 v3 v4 v5 v6 v7 v8 v9 va => K (AV.tup [AV.agg (Blk.any [Ai v2, Ai v3, Ai v4, Ai v5, Ai v6, Fu v7, Ai v8, Fu v9]), Ai va]))
 | _ => none
noncomputable def S18 := addS 18 sp18 S51
theorem D57 : Dom B0 V S18 T99 57 := Dom.s (m := 56) (n := 0) D56 D56 (O := (fun _ => none)) (fun _ _ _ _ => OrcOk.none _ _) fun args R K r h => by
 unfold sp18 at h; split at h
 · rw [haystackref09_Build_unf] at h; exact Eq.trans (by kernel_rfl) h
 · cases h

noncomputable def sp53 : Ev.Spec := fun args _ K => match args with
 | ([AV.agg (Blk.any [Ai v0, Ai v1, Ai v2, Fu v3]), AV.agg (Blk.any [Ai v4, Ai v5, Ai v6, Fu v7])]) => haystackref03_Same v0 v1 v2 v3 v4 v5 v6 v7 (fun v8 => K (Ab v8))
 | _ => none
noncomputable def S53 := addS 53 sp53 S18
theorem D58 : Dom B0 V S53 T99 58 := Dom.s (m := 57) (n := 0) D57 D57 (O := (fun _ => none)) (fun _ _ _ _ => OrcOk.none _ _) fun args R K r h => by
 unfold sp53 at h; split at h
 · rw [haystackref03_Same_unf] at h; exact Eq.trans (by kernel_rfl) h
 · cases h

noncomputable def sp19 : Ev.Spec := fun args _ K => match args with
 | ([AV.agg (Blk.any [Ai v0, Ai v1, Ai v2, Ai v3, Ai v4, Fu v5, Ai v6, Fu v7]), AV.agg (Blk.any [Ai v8, Ai v9, Ai va, Ai vb, Ai vc, Fu vd, Ai ve, Fu vf])]) => haystackref09_Same v0 v1 v2 v3 v4 v5 v6 v7 v8 v9 va vb vc vd ve vf (fun vg => K (Ab vg))
 | _ => none
noncomputable def S19 := addS 19 sp19 S53
theorem D59 : Dom B0 V S19 T99 59 := Dom.s (m := 58) (n := 0) D58 D58 (O := (fun _ => none)) (fun _ _ _ _ => OrcOk.none _ _) fun args R K r h => by
 unfold sp19 at h; split at h
 · rw [haystackref09_Same_unf] at h; exact Eq.trans (by kernel_rfl) h
 · cases h

noncomputable def sp100 : Ev.Spec := fun args _ K => match args with
 | ([AV.agg (Blk.any [Ai v0, Ai v1, Ai v2, Fu v3])]) => haystackref03_Check v0 v1 v2 v3 (fun v4 => K (Ab v4))
 | _ => none
noncomputable def S100 := addS 100 sp100 S19
theorem D60 : Dom B0 V S100 T99 60 := Dom.s (m := 59) (n := 0) D59 D59 (O := (fun _ => none)) (fun _ _ _ _ => OrcOk.none _ _) fun args R K r h => by
 unfold sp100 at h; split at h
 · rw [haystackref03_Check_unf] at h; exact Eq.trans (by kernel_rfl) h
 · cases h

noncomputable def o110_4000_in {R : Type} (K : Ex → St → Option R) (vs : List AV) (hh : H) : Option R := match vs, hh with
 | [Ai v0, Ai v1, Ap 0 0], [HA [Ai v2, Fu v3]] => haystackref02_Slice_j4 v0 v1 v2 v3 (fun v4 v5 => K (Ex.ret) (St.mk (spread 53 0 [6, 7] [Au v4, Ai v5]) []))
 | _, _ => none

noncomputable def o110_6000_in {R : Type} (K : Ex → St → Option R) (vs : List AV) (hh : H) : Option R := match vs, hh with
 | [Ai v0, Ai v1, Ap 0 0], [HA [Ai v2, Fu v3]] => haystackref02_Slice_j6 v0 v1 v2 v3 (fun v4 v5 => K (Ex.ret) (St.mk (spread 53 0 [6, 7] [Au v4, Ai v5]) []))
 | _, _ => none

noncomputable def o110_8400_in {R : Type} (K : Ex → St → Option R) (vs : List AV) (hh : H) : Option R := match vs, hh with
 | [Ai v0, Ai v1, Ap 0 0, Au v2, Ai v3], [HA [Ai v4, Fu v5]] => haystackref02_Slice_l8 v0 v1 v2 v3 v4 v5 (fun v6 => K (Ex.exit 0) (St.mk (spread 53 0 [8] [Au v6]) []))
 | _, _ => none

noncomputable def o110 : Nat → Option PSpec := lkN [(4000, fun st _ K => pickM 53 [1, 2, 3] st (o110_4000_in K)), (6000, fun st _ K => pickM 53 [1, 2, 3] st (o110_6000_in K)), (8400, fun st _ K => pickM 53 [1, 2, 3, 8, 9] st (o110_8400_in K))]
noncomputable def q110 : CallF := evFun (V 110) S100 T99 10

noncomputable def c110_4000 : Code := subC [1, 1] (bodyOf Tryd.f110)

noncomputable def c110_6000 : Code := subC [1, 1, 1] (bodyOf Tryd.f110)

noncomputable def c110_8400 : Code := subC [1, 1, 1, 1, 0, 1, 0, 0] (bodyOf Tryd.f110)

noncomputable def lp110_8400 {R : Type} (N : Nat) (st : St) (K : Ex → St → Option R) : Option R := evLoop (norm ((V 110).keep 110 (Ev.keyOf c110_8400 * 1000 + 400)) 0) (evCode (V 110) q110 o110 110 0 3992 c110_8400) N st (kOut (V 110) 110 0 (Ev.keyOf c110_8400 * 1000 + 401) K)

theorem haystackref02_Slice_l8_L_eq {R : Type} (K : Ex → St → Option R) : ∀ N : Nat, (fun (v0 v1 v2 v3 v4 : Int) (v5 : List Int) => lp110_8400 N (St.mk (spread 53 0 [1, 2, 3, 8, 9] [Ai v0, Ai v1, Ap 0 0, Au v2, Ai v3]) [HA [Ai v4, Fu v5]]) K) = haystackref02_Slice_l8_L (fun v6 => K (Ex.exit 0) (St.mk (spread 53 0 [8] [Au v6]) [])) N
  | 0 => by funext v0 v1 v2 v3 v4 v5; rfl
  | N + 1 => by
    funext v0 v1 v2 v3 v4 v5
    simp only [haystackref02_Slice_l8_L]
    rw [← haystackref02_Slice_l8_L_eq K N]
    kernel_rfl

theorem p110_4000 : PieceOk (V 110) q110 o110 110 0 (3998, 0, c110_4000) := .s (size := 53) (ss := [1, 2, 3]) (F := @o110_4000_in) (by kernel_rfl) fun R r K vs hh h => by
  unfold o110_4000_in at h; split at h
  · rw [haystackref02_Slice_j4_unf] at h; exact Eq.trans (by kernel_rfl) h
  · cases h

theorem p110_6000 : PieceOk (V 110) q110 o110 110 0 (3997, 0, c110_6000) := .s (size := 53) (ss := [1, 2, 3]) (F := @o110_6000_in) (by kernel_rfl) fun R r K vs hh h => by
  unfold o110_6000_in at h; split at h
  · rw [haystackref02_Slice_j6_unf] at h; exact Eq.trans (by kernel_rfl) h
  · cases h

theorem p110_8400 : PieceOk (V 110) q110 o110 110 0 (3992, 1, c110_8400) := .l (size := 53) (ss := [1, 2, 3, 8, 9]) (F := @o110_8400_in) (by kernel_rfl) (by kernel_rfl) fun R r K vs hh h => by
  unfold o110_8400_in at h; split at h
  · rw [haystackref02_Slice_l8_unf] at h; unfold haystackref02_Slice_l8_B at h; rw [← haystackref02_Slice_l8_L_eq K NR] at h; exact h
  · cases h

theorem pc110 : ∀ x ∈ [(3998, 0, c110_4000), (3997, 0, c110_6000), (3992, 1, c110_8400)], PieceOk (V 110) q110 o110 110 0 x := List.forall_mem_cons.2 ⟨p110_4000, List.forall_mem_cons.2 ⟨p110_6000, List.forall_mem_cons.2 ⟨p110_8400, fun _ h => nomatch h⟩⟩⟩

noncomputable def sp110 : Ev.Spec := fun args _ K => match args with
 | ([AV.agg (Blk.any [Ai v0, Fu v1]), Ai v2, Ai v3]) => haystackref02_Slice v0 v1 v2 v3 (fun v4 v5 => K (AV.tup [Au v4, Ai v5]))
 | _ => none
noncomputable def S110 := addS 110 sp110 S100
theorem D61 : Dom B0 V S110 T99 61 := Dom.s (m := 60) (n := 0) D60 D60 (O := o110) (OrcOk.fn (fn0 := Tryd.f110) (by kernel_rfl) (by kernel_rfl) pc110) fun args R K r h => by
 unfold sp110 at h; split at h
 · rw [haystackref02_Slice_unf] at h; exact Eq.trans (by kernel_rfl) h
 · cases h

noncomputable def o108_6000_in {R : Type} (K : Ex → St → Option R) (vs : List AV) (hh : H) : Option R := match vs, hh with
 | [Ai v0, Ap 0 0], [HA [Ai v1, Ai v2, Ai v3, Fu v4]] => haystackref03_Get_j6 v0 v1 v2 v3 v4 (fun v5 v6 => K (Ex.ret) (St.mk (spread 28 0 [4, 5] [Au v5, Ai v6]) []))
 | _, _ => none

noncomputable def o108 : Nat → Option PSpec := lkN [(6000, fun st _ K => pickM 28 [1, 2] st (o108_6000_in K))]
noncomputable def q108 : CallF := evFun (V 108) S110 T99 10

noncomputable def c108_6000 : Code := subC [1, 1, 1] (bodyOf Tryd.f108)

theorem p108_6000 : PieceOk (V 108) q108 o108 108 0 (3997, 0, c108_6000) := .s (size := 28) (ss := [1, 2]) (F := @o108_6000_in) (by kernel_rfl) fun R r K vs hh h => by
  unfold o108_6000_in at h; split at h
  · rw [haystackref03_Get_j6_unf] at h; exact Eq.trans (by kernel_rfl) h
  · cases h

theorem pc108 : ∀ x ∈ [(3997, 0, c108_6000)], PieceOk (V 108) q108 o108 108 0 x := List.forall_mem_cons.2 ⟨p108_6000, fun _ h => nomatch h⟩

noncomputable def sp108 : Ev.Spec := fun args _ K => match args with
 | ([AV.agg (Blk.any [Ai v0, Ai v1, Ai v2, Fu v3]), Ai v4]) => haystackref03_Get v0 v1 v2 v3 v4 (fun v5 v6 => K (AV.tup [Au v5, Ai v6]))
 | _ => none
noncomputable def S108 := addS 108 sp108 S110
theorem D62 : Dom B0 V S108 T99 62 := Dom.s (m := 61) (n := 0) D61 D61 (O := o108) (OrcOk.fn (fn0 := Tryd.f108) (by kernel_rfl) (by kernel_rfl) pc108) fun args R K r h => by
 unfold sp108 at h; split at h
 · rw [haystackref03_Get_unf] at h; exact Eq.trans (by kernel_rfl) h
 · cases h

noncomputable def o101_4400_in {R : Type} (K : Ex → St → Option R) (vs : List AV) (hh : H) : Option R := match vs, hh with
 | [Ap 0 0, AV.sl 1 0 v0 1, Ai v1], [HA [Ai v2, Ai v3, Ai v4, Fu v5], HU v6] => haystackref03_List_l4 v0 v1 v2 v3 v4 v5 v6 (fun v7 v8 => K (Ex.exit 0) (St.mk (spread 28 0 [3] [AV.sl 0 0 v7 1]) [HU v8]))
 | _, _ => none

noncomputable def o101_6000_in {R : Type} (K : Ex → St → Option R) (vs : List AV) (hh : H) : Option R := match vs, hh with
 | [Ap 0 0, AV.sl 1 0 v0 1, Ai v1], [HA [Ai v2, Ai v3, Ai v4, Fu v5], HU v6] => haystackref03_List_j6 v0 v1 v2 v3 v4 v5 v6 (fun v7 v8 v9 va vb vc vd => K (Ex.normal) (St.mk (spread 28 0 [1, 3, 4] [Ap 0 0, AV.sl 1 0 v7 1, Ai v8]) [HA [Ai v9, Ai va, Ai vb, Fu vc], HU vd]))
 | _, _ => none

noncomputable def o101 : Nat → Option PSpec := lkN [(4400, fun st _ K => pickM 28 [1, 3, 4] st (o101_4400_in K)), (6000, fun st _ K => pickM 28 [1, 3, 4] st (o101_6000_in K))]
noncomputable def q101 : CallF := evFun (V 101) S108 T99 10

noncomputable def c101_4400 : Code := subC [1, 1, 0, 1, 0, 0] (bodyOf Tryd.f101)

noncomputable def lp101_4400 {R : Type} (N : Nat) (st : St) (K : Ex → St → Option R) : Option R := evLoop (norm ((V 101).keep 101 (Ev.keyOf c101_4400 * 1000 + 400)) 0) (evCode (V 101) q101 o101 101 0 3994 c101_4400) N st (kOut (V 101) 101 0 (Ev.keyOf c101_4400 * 1000 + 401) K)

noncomputable def c101_6000 : Code := subC [1, 1, 0, 1, 0, 0, 1] (bodyOf Tryd.f101)

theorem haystackref03_List_l4_L_eq {R : Type} (K : Ex → St → Option R) : ∀ N : Nat, (fun (v0 : Nat) (v1 v2 v3 v4 : Int) (v5 v6 : List Int) => lp101_4400 N (St.mk (spread 28 0 [1, 3, 4] [Ap 0 0, AV.sl 1 0 v0 1, Ai v1]) [HA [Ai v2, Ai v3, Ai v4, Fu v5], HU v6]) K) = haystackref03_List_l4_L (fun v7 v8 => K (Ex.exit 0) (St.mk (spread 28 0 [3] [AV.sl 0 0 v7 1]) [HU v8])) N
  | 0 => by funext v0 v1 v2 v3 v4 v5 v6; rfl
  | N + 1 => by
    funext v0 v1 v2 v3 v4 v5 v6
    simp only [haystackref03_List_l4_L]
    rw [← haystackref03_List_l4_L_eq K N]
    kernel_rfl

theorem p101_4400 : PieceOk (V 101) q101 o101 101 0 (3994, 1, c101_4400) := .l (size := 28) (ss := [1, 3, 4]) (F := @o101_4400_in) (by kernel_rfl) (by kernel_rfl) fun R r K vs hh h => by
  unfold o101_4400_in at h; split at h
  · rw [haystackref03_List_l4_unf] at h; unfold haystackref03_List_l4_B at h; rw [← haystackref03_List_l4_L_eq K NR] at h; exact h
  · cases h

theorem p101_6000 : PieceOk (V 101) q101 o101 101 0 (3993, 0, c101_6000) := .s (size := 28) (ss := [1, 3, 4]) (F := @o101_6000_in) (by kernel_rfl) fun R r K vs hh h => by
  unfold o101_6000_in at h; split at h
  · rw [haystackref03_List_j6_unf] at h; exact Eq.trans (by kernel_rfl) h
  · cases h

theorem pc101 : ∀ x ∈ [(3994, 1, c101_4400), (3993, 0, c101_6000)], PieceOk (V 101) q101 o101 101 0 x := List.forall_mem_cons.2 ⟨p101_4400, List.forall_mem_cons.2 ⟨p101_6000, fun _ h => nomatch h⟩⟩

noncomputable def sp101 : Ev.Spec := fun args _ K => match args with
 | ([AV.agg (Blk.any [Ai v0, Ai v1, Ai v2, Fu v3])]) => haystackref03_List v0 v1 v2 v3 (fun v4 => K (Fu v4))
 | _ => none
noncomputable def S101 := addS 101 sp101 S108
theorem D63 : Dom B0 V S101 T99 63 := Dom.s (m := 62) (n := 0) D62 D62 (O := o101) (OrcOk.fn (fn0 := Tryd.f101) (by kernel_rfl) (by kernel_rfl) pc101) fun args R K r h => by
 unfold sp101 at h; split at h
 · rw [haystackref03_List_unf] at h; exact Eq.trans (by kernel_rfl) h
 · cases h

noncomputable def o79_4000_in {R : Type} (K : Ex → St → Option R) (vs : List AV) (hh : H) : Option R := match vs, hh with
 | [Ap 0 0], [HA [Ai v0, Ai v1, Ai v2, Ai v3, Ai v4, Fu v5, Ai v6, Fu v7]] => haystackref09_row_j4 v0 v1 v2 v3 v4 v5 v6 v7 (fun v8 => K (Ex.ret) (St.mk (spread 125 0 [2, 3] [AV.esl, Ab v8]) [])) (fun v8 v9 va => K (Ex.ret) (St.mk (spread 125 0 [2, 3] [AV.sl 0 0 v8 1, Ab v9]) [HB.live (Blk.ints .i64 va)]))
 | _, _ => none

noncomputable def o79_5000_in {R : Type} (K : Ex → St → Option R) (vs : List AV) (hh : H) : Option R := match vs, hh with
 | [Ap 0 0, Ai v0], [HA [Ai v1, Ai v2, Ai v3, Ai v4, Ai v5, Fu v6, Ai v7, Fu v8]] => haystackref09_row_j5 v0 v1 v2 v3 v4 v5 v6 v7 v8 (fun v9 => K (Ex.ret) (St.mk (spread 125 0 [2, 3] [AV.esl, Ab v9]) [])) (fun v9 va vb => K (Ex.ret) (St.mk (spread 125 0 [2, 3] [AV.sl 0 0 v9 1, Ab va]) [HB.live (Blk.ints .i64 vb)]))
 | _, _ => none

noncomputable def o79_9000_in {R : Type} (K : Ex → St → Option R) (vs : List AV) (hh : H) : Option R := match vs, hh with
 | [Ap 0 0, Ai v0, Fu v1, AV.fsl (Blk.ints .i64 v2)], [HA [Ai v3, Ai v4, Ai v5, Ai v6, Ai v7, Fu v8, Ai v9, Fu va]] => haystackref09_row_j9 v0 v1 v2 v3 v4 v5 v6 v7 v8 v9 va (fun vb => K (Ex.ret) (St.mk (spread 125 0 [2, 3] [AV.esl, Ab vb]) [])) (fun vb vc vd => K (Ex.ret) (St.mk (spread 125 0 [2, 3] [AV.sl 0 0 vb 1, Ab vc]) [HB.live (Blk.ints .i64 vd)]))
 | _, _ => none

noncomputable def o79_11400_in {R : Type} (K : Ex → St → Option R) (vs : List AV) (hh : H) : Option R := match vs, hh with
 | [Ap 0 0, Ai v0, Fu v1, AV.fsl (Blk.ints .i64 v2), AV.sl 1 0 v3 1, Ai v4], [HA [Ai v5, Ai v6, Ai v7, Ai v8, Ai v9, Fu va, Ai vb, Fu vc], HB.live (Blk.ints .i64 vd)] => haystackref09_row_l11 v0 v1 v2 v3 v4 v5 v6 v7 v8 v9 va vb vc vd (fun ve => K (Ex.ret) (St.mk (spread 125 0 [2, 3] [AV.esl, Ab ve]) [])) (fun ve vf => K (Ex.exit 0) (St.mk (spread 125 0 [7] [AV.sl 0 0 ve 1]) [HB.live (Blk.ints .i64 vf)]))
 | _, _ => none

noncomputable def o79_15000_in {R : Type} (K : Ex → St → Option R) (vs : List AV) (hh : H) : Option R := match vs, hh with
 | [Ap 0 0, Ai v0, Fu v1, AV.fsl (Blk.ints .i64 v2), AV.sl 1 0 v3 1, Ai v4, Ai v5, Ab v6], [HA [Ai v7, Ai v8, Ai v9, Ai va, Ai vb, Fu vc, Ai vd, Fu ve], HB.live (Blk.ints .i64 vf)] => haystackref09_row_j15 v0 v1 v2 v3 v4 v5 v6 v7 v8 v9 va vb vc vd ve vf (fun vg vh vi vj vk vl vm vn vo vp vq vr vs vt vu => K (Ex.normal) (St.mk (spread 125 0 [1, 4, 5, 6, 7, 8, 9] [Ap 0 0, Ai vg, Fu vh, AV.fsl (Blk.ints .i64 vi), AV.sl 1 0 vj 1, Ai vk, Ai vl]) [HA [Ai vm, Ai vn, Ai vo, Ai vp, Ai vq, Fu vr, Ai vs, Fu vt], HB.live (Blk.ints .i64 vu)]))
 | _, _ => none

noncomputable def o79_16000_in {R : Type} (K : Ex → St → Option R) (vs : List AV) (hh : H) : Option R := match vs, hh with
 | [Ap 0 0, Ai v0, Fu v1, AV.fsl (Blk.ints .i64 v2), AV.sl 1 0 v3 1, Ai v4, Ai v5], [HA [Ai v6, Ai v7, Ai v8, Ai v9, Ai va, Fu vb, Ai vc, Fu vd], HB.live (Blk.ints .i64 ve)] => haystackref09_row_j16 v0 v1 v2 v3 v4 v5 v6 v7 v8 v9 va vb vc vd ve (fun vf => K (Ex.ret) (St.mk (spread 125 0 [2, 3] [AV.esl, Ab vf]) [])) (fun vf vg vh vi vj vk vl vm vn vo vp vq vr vs => K (Ex.normal) (St.mk (spread 125 0 [1, 4, 5, 6, 7, 8] [Ap 0 0, Ai vf, Fu vg, AV.fsl (Blk.ints .i64 vh), AV.sl 1 0 vi 1, Ai vj]) [HA [Ai vk, Ai vl, Ai vm, Ai vn, Ai vo, Fu vp, Ai vq, Fu vr], HB.live (Blk.ints .i64 vs)]))
 | _, _ => none

noncomputable def o79_18000_in {R : Type} (K : Ex → St → Option R) (vs : List AV) (hh : H) : Option R := match vs, hh with
 | [Ap 0 0, Ai v0, Fu v1, AV.fsl (Blk.ints .i64 v2), AV.sl 1 0 v3 1, Ai v4, Ai v5], [HA [Ai v6, Ai v7, Ai v8, Ai v9, Ai va, Fu vb, Ai vc, Fu vd], HB.live (Blk.ints .i64 ve)] => haystackref09_row_j18 v0 v1 v2 v3 v4 v5 v6 v7 v8 v9 va vb vc vd ve (fun vf vg vh vi vj vk vl vm vn vo vp vq vr vs => K (Ex.normal) (St.mk (spread 125 0 [1, 4, 5, 6, 7, 8] [Ap 0 0, Ai vf, Fu vg, AV.fsl (Blk.ints .i64 vh), AV.sl 1 0 vi 1, Ai vj]) [HA [Ai vk, Ai vl, Ai vm, Ai vn, Ai vo, Fu vp, Ai vq, Fu vr], HB.live (Blk.ints .i64 vs)]))
 | _, _ => none

noncomputable def o79 : Nat → Option PSpec := lkN [(4000, fun st _ K => pickM 125 [1] st (o79_4000_in K)), (5000, fun st _ K => pickM 125 [1, 4] st (o79_5000_in K)), (9000, fun st _ K => pickM 125 [1, 4, 5, 6] st (o79_9000_in K)), (11400, fun st _ K => pickM 125 [1, 4, 5, 6, 7, 8] st (o79_11400_in K)), (15000, fun st _ K => pickM 125 [1, 4, 5, 6, 7, 8, 9, 91] st (o79_15000_in K)), (16000, fun st _ K => pickM 125 [1, 4, 5, 6, 7, 8, 9] st (o79_16000_in K)), (18000, fun st _ K => pickM 125 [1, 4, 5, 6, 7, 8, 9] st (o79_18000_in K))]
noncomputable def q79 : CallF := evFun (V 79) S101 T99 10

noncomputable def c79_4000 : Code := subC [1, 1] (bodyOf Tryd.f79)

noncomputable def c79_5000 : Code := subC [1, 1, 1] (bodyOf Tryd.f79)

noncomputable def c79_9000 : Code := subC [1, 1, 1, 1, 1, 1] (bodyOf Tryd.f79)

noncomputable def c79_11400 : Code := subC [1, 1, 1, 1, 1, 1, 1, 0, 1, 0, 0] (bodyOf Tryd.f79)

noncomputable def lp79_11400 {R : Type} (N : Nat) (st : St) (K : Ex → St → Option R) : Option R := evLoop (norm ((V 79).keep 79 (Ev.keyOf c79_11400 * 1000 + 400)) 0) (evCode (V 79) q79 o79 79 0 3989 c79_11400) N st (kOut (V 79) 79 0 (Ev.keyOf c79_11400 * 1000 + 401) K)

noncomputable def c79_16000 : Code := subC [1, 1, 1, 1, 1, 1, 1, 0, 1, 0, 0, 1, 0, 0, 1, 1] (bodyOf Tryd.f79)

noncomputable def c79_15000 : Code := subC [1, 1, 1, 1, 1, 1, 1, 0, 1, 0, 0, 1, 0, 0, 1, 0, 1] (bodyOf Tryd.f79)

noncomputable def c79_18000 : Code := subC [1, 1, 1, 1, 1, 1, 1, 0, 1, 0, 0, 1, 0, 0, 1, 1, 1] (bodyOf Tryd.f79)

theorem haystackref09_row_l11_L_eq {R : Type} (K : Ex → St → Option R) : ∀ N : Nat, (fun (v0 : Int) (v1 v2 : List Int) (v3 : Nat) (v4 v5 v6 v7 v8 v9 : Int) (va : List Int) (vb : Int) (vc vd : List Int) => lp79_11400 N (St.mk (spread 125 0 [1, 4, 5, 6, 7, 8] [Ap 0 0, Ai v0, Fu v1, AV.fsl (Blk.ints .i64 v2), AV.sl 1 0 v3 1, Ai v4]) [HA [Ai v5, Ai v6, Ai v7, Ai v8, Ai v9, Fu va, Ai vb, Fu vc], HB.live (Blk.ints .i64 vd)]) K) = haystackref09_row_l11_L (fun ve => K (Ex.ret) (St.mk (spread 125 0 [2, 3] [AV.esl, Ab ve]) [])) (fun ve vf => K (Ex.exit 0) (St.mk (spread 125 0 [7] [AV.sl 0 0 ve 1]) [HB.live (Blk.ints .i64 vf)])) N
  | 0 => by funext v0 v1 v2 v3 v4 v5 v6 v7 v8 v9 va vb vc vd; rfl
  | N + 1 => by
    funext v0 v1 v2 v3 v4 v5 v6 v7 v8 v9 va vb vc vd
    simp only [haystackref09_row_l11_L]
    rw [← haystackref09_row_l11_L_eq K N]
    kernel_rfl

theorem haystackref09_row_j16_eq {R : Type} (K : Ex → St → Option R) (v0 : Int) (v1 v2 : List Int) (v3 : Nat) (v4 v5 v6 v7 v8 v9 va : Int) (vb : List Int) (vc : Int) (vd ve : List Int) : evCode (V 79) q79 o79 79 0 3984 c79_16000 (St.mk (spread 125 0 [1, 4, 5, 6, 7, 8, 9] [Ap 0 0, Ai v0, Fu v1, AV.fsl (Blk.ints .i64 v2), AV.sl 1 0 v3 1, Ai v4, Ai v5]) [HA [Ai v6, Ai v7, Ai v8, Ai v9, Ai va, Fu vb, Ai vc, Fu vd], HB.live (Blk.ints .i64 ve)]) (kOut (V 79) 79 0 (Ev.keyOf c79_16000 * 1000 + 1) K) = haystackref09_row_j16_B v0 v1 v2 v3 v4 v5 v6 v7 v8 v9 va vb vc vd ve (fun vf => K (Ex.ret) (St.mk (spread 125 0 [2, 3] [AV.esl, Ab vf]) [])) (fun vf vg vh vi vj vk vl vm vn vo vp vq vr vs => K (Ex.normal) (St.mk (spread 125 0 [1, 4, 5, 6, 7, 8] [Ap 0 0, Ai vf, Fu vg, AV.fsl (Blk.ints .i64 vh), AV.sl 1 0 vi 1, Ai vj]) [HA [Ai vk, Ai vl, Ai vm, Ai vn, Ai vo, Fu vp, Ai vq, Fu vr], HB.live (Blk.ints .i64 vs)])) := by kernel_rfl

theorem p79_4000 : PieceOk (V 79) q79 o79 79 0 (3998, 0, c79_4000) := .s (size := 125) (ss := [1]) (F := @o79_4000_in) (by kernel_rfl) fun R r K vs hh h => by
  unfold o79_4000_in at h; split at h
  · rw [haystackref09_row_j4_unf] at h; exact Eq.trans (by kernel_rfl) h
  · cases h

theorem p79_5000 : PieceOk (V 79) q79 o79 79 0 (3997, 0, c79_5000) := .s (size := 125) (ss := [1, 4]) (F := @o79_5000_in) (by kernel_rfl) fun R r K vs hh h => by
  unfold o79_5000_in at h; split at h
  · rw [haystackref09_row_j5_unf] at h; exact Eq.trans (by kernel_rfl) h
  · cases h

theorem p79_9000 : PieceOk (V 79) q79 o79 79 0 (3994, 0, c79_9000) := .s (size := 125) (ss := [1, 4, 5, 6]) (F := @o79_9000_in) (by kernel_rfl) fun R r K vs hh h => by
  unfold o79_9000_in at h; split at h
  · rw [haystackref09_row_j9_unf] at h; exact Eq.trans (by kernel_rfl) h
  · cases h

theorem p79_11400 : PieceOk (V 79) q79 o79 79 0 (3989, 1, c79_11400) := .l (size := 125) (ss := [1, 4, 5, 6, 7, 8]) (F := @o79_11400_in) (by kernel_rfl) (by kernel_rfl) fun R r K vs hh h => by
  unfold o79_11400_in at h; split at h
  · rw [haystackref09_row_l11_unf] at h; unfold haystackref09_row_l11_B at h; rw [← haystackref09_row_l11_L_eq K NR] at h; exact h
  · cases h

theorem p79_16000 : PieceOk (V 79) q79 o79 79 0 (3984, 0, c79_16000) := .s (size := 125) (ss := [1, 4, 5, 6, 7, 8, 9]) (F := @o79_16000_in) (by kernel_rfl) fun R r K vs hh h => by
  unfold o79_16000_in at h; split at h
  · rw [haystackref09_row_j16_unf] at h; exact (haystackref09_row_j16_eq K _ _ _ _ _ _ _ _ _ _ _ _ _ _ _).trans h
  · cases h

theorem p79_15000 : PieceOk (V 79) q79 o79 79 0 (3983, 0, c79_15000) := .s (size := 125) (ss := [1, 4, 5, 6, 7, 8, 9, 91]) (F := @o79_15000_in) (by kernel_rfl) fun R r K vs hh h => by
  unfold o79_15000_in at h; split at h
  · rw [haystackref09_row_j15_unf] at h; exact Eq.trans (by kernel_rfl) h
  · cases h

theorem p79_18000 : PieceOk (V 79) q79 o79 79 0 (3983, 0, c79_18000) := .s (size := 125) (ss := [1, 4, 5, 6, 7, 8, 9]) (F := @o79_18000_in) (by kernel_rfl) fun R r K vs hh h => by
  unfold o79_18000_in at h; split at h
  · rw [haystackref09_row_j18_unf] at h; exact Eq.trans (by kernel_rfl) h
  · cases h

theorem pc79 : ∀ x ∈ [(3998, 0, c79_4000), (3997, 0, c79_5000), (3994, 0, c79_9000), (3989, 1, c79_11400), (3984, 0, c79_16000), (3983, 0, c79_15000), (3983, 0, c79_18000)], PieceOk (V 79) q79 o79 79 0 x := List.forall_mem_cons.2 ⟨p79_4000, List.forall_mem_cons.2 ⟨p79_5000, List.forall_mem_cons.2 ⟨p79_9000, List.forall_mem_cons.2 ⟨p79_11400, List.forall_mem_cons.2 ⟨p79_16000, List.forall_mem_cons.2 ⟨p79_15000, List.forall_mem_cons.2 ⟨p79_18000, fun _ h => nomatch h⟩⟩⟩⟩⟩⟩⟩

noncomputable def sp79 : Ev.Spec := fun args _ K => match args with
 | ([AV.agg (Blk.any [Ai v0, Ai v1, Ai v2, Ai v3, Ai v4, Fu v5, Ai v6, Fu v7])]) => haystackref09_row v0 v1 v2 v3 v4 v5 v6 v7 (fun v8 v9 => K (AV.tup [AV.fsl (Blk.ints .i64 v8), Ab v9]))
 | _ => none
noncomputable def S79 := addS 79 sp79 S101
theorem D64 : Dom B0 V S79 T99 64 := Dom.s (m := 63) (n := 0) D63 D63 (O := o79) (OrcOk.fn (fn0 := Tryd.f79) (by kernel_rfl) (by kernel_rfl) pc79) fun args R K r h => by
 unfold sp79 at h; split at h
 · rw [haystackref09_row_unf] at h; exact Eq.trans (by kernel_rfl) h
 · cases h

noncomputable def o54_7000_in {R : Type} (K : Ex → St → Option R) (vs : List AV) (hh : H) : Option R := match vs, hh with
 | [Ap 0 0, Ap 1 0, AV.fsl (Blk.ints .i64 v0), Ab v1], [HA [Ai v2, Ai v3, Ai v4, Ai v5, Ai v6, Fu v7, Ai v8, Fu v9], HA [Ai va, AV.esl]] => haystackref09_Whole_j7 v0 v1 v2 v3 v4 v5 v6 v7 v8 v9 va (fun vb vc => K (Ex.ret) (St.mk (spread 57 0 [2, 3] [Ap 0 0, Ab vb]) [HA [Ai vc, AV.esl]])) (fun vb vc vd ve vf vg vh vi vj vk => K (Ex.normal) (St.mk (spread 57 0 [1, 2, 4] [Ap 0 0, Ap 1 0, AV.fsl (Blk.ints .i64 vb)]) [HA [Ai vc, Ai vd, Ai ve, Ai vf, Ai vg, Fu vh, Ai vi, Fu vj], HA [Ai vk, AV.esl]]))
 | _, _ => none

noncomputable def o54_8000_in {R : Type} (K : Ex → St → Option R) (vs : List AV) (hh : H) : Option R := match vs, hh with
 | [Ap 0 0, Ap 1 0, AV.fsl (Blk.ints .i64 v0)], [HA [Ai v1, Ai v2, Ai v3, Ai v4, Ai v5, Fu v6, Ai v7, Fu v8], HA [Ai v9, AV.esl]] => haystackref09_Whole_j8 v0 v1 v2 v3 v4 v5 v6 v7 v8 v9 (fun va vb vc => K (Ex.ret) (St.mk (spread 57 0 [2, 3] [Ap 0 0, Ab va]) [HA [Ai vb, Fu vc]]))
 | _, _ => none

noncomputable def o54_10400_in {R : Type} (K : Ex → St → Option R) (vs : List AV) (hh : H) : Option R := match vs, hh with
 | [Ap 0 0, AV.fsl (Blk.ints .i64 v0), AV.sl 1 0 v1 1, Ai v2], [HA [Ai v3, AV.esl], HO v4] => haystackref09_Whole_l10 v0 v1 v2 v3 v4 (fun v5 v6 v7 => K (Ex.exit 0) (St.mk (spread 57 0 [2, 8] [Ap 0 0, AV.sl 1 0 v5 1]) [HA [Ai v6, AV.esl], HO v7]))
 | _, _ => none

noncomputable def o54 : Nat → Option PSpec := lkN [(7000, fun st _ K => pickM 57 [1, 2, 4, 34] st (o54_7000_in K)), (8000, fun st _ K => pickM 57 [1, 2, 4] st (o54_8000_in K)), (10400, fun st _ K => pickM 57 [2, 4, 8, 9] st (o54_10400_in K))]
noncomputable def q54 : CallF := evFun (V 54) S79 T99 10

noncomputable def c54_8000 : Code := subC [1, 1, 1, 1, 1] (bodyOf Tryd.f54)

noncomputable def c54_7000 : Code := subC [1, 1, 1, 1, 0, 1] (bodyOf Tryd.f54)

noncomputable def c54_10400 : Code := subC [1, 1, 1, 1, 1, 1, 0, 1, 0, 0] (bodyOf Tryd.f54)

noncomputable def lp54_10400 {R : Type} (N : Nat) (st : St) (K : Ex → St → Option R) : Option R := evLoop (norm ((V 54).keep 54 (Ev.keyOf c54_10400 * 1000 + 400)) 0) (evCode (V 54) q54 o54 54 0 3990 c54_10400) N st (kOut (V 54) 54 0 (Ev.keyOf c54_10400 * 1000 + 401) K)

theorem haystackref09_Whole_l10_L_eq {R : Type} (K : Ex → St → Option R) : ∀ N : Nat, (fun (v0 : List Int) (v1 : Nat) (v2 v3 : Int) (v4 : List Bool) => lp54_10400 N (St.mk (spread 57 0 [2, 4, 8, 9] [Ap 0 0, AV.fsl (Blk.ints .i64 v0), AV.sl 1 0 v1 1, Ai v2]) [HA [Ai v3, AV.esl], HO v4]) K) = haystackref09_Whole_l10_L (fun v5 v6 v7 => K (Ex.exit 0) (St.mk (spread 57 0 [2, 8] [Ap 0 0, AV.sl 1 0 v5 1]) [HA [Ai v6, AV.esl], HO v7])) N
  | 0 => by funext v0 v1 v2 v3 v4; rfl
  | N + 1 => by
    funext v0 v1 v2 v3 v4
    simp only [haystackref09_Whole_l10_L]
    rw [← haystackref09_Whole_l10_L_eq K N]
    kernel_rfl

theorem p54_8000 : PieceOk (V 54) q54 o54 54 0 (3995, 0, c54_8000) := .s (size := 57) (ss := [1, 2, 4]) (F := @o54_8000_in) (by kernel_rfl) fun R r K vs hh h => by
  unfold o54_8000_in at h; split at h
  · rw [haystackref09_Whole_j8_unf] at h; exact Eq.trans (by kernel_rfl) h
  · cases h

theorem p54_7000 : PieceOk (V 54) q54 o54 54 0 (3994, 0, c54_7000) := .s (size := 57) (ss := [1, 2, 4, 34]) (F := @o54_7000_in) (by kernel_rfl) fun R r K vs hh h => by
  unfold o54_7000_in at h; split at h
  · rw [haystackref09_Whole_j7_unf] at h; exact Eq.trans (by kernel_rfl) h
  · cases h

theorem p54_10400 : PieceOk (V 54) q54 o54 54 0 (3990, 1, c54_10400) := .l (size := 57) (ss := [2, 4, 8, 9]) (F := @o54_10400_in) (by kernel_rfl) (by kernel_rfl) fun R r K vs hh h => by
  unfold o54_10400_in at h; split at h
  · rw [haystackref09_Whole_l10_unf] at h; unfold haystackref09_Whole_l10_B at h; rw [← haystackref09_Whole_l10_L_eq K NR] at h; exact h
  · cases h

theorem pc54 : ∀ x ∈ [(3995, 0, c54_8000), (3994, 0, c54_7000), (3990, 1, c54_10400)], PieceOk (V 54) q54 o54 54 0 x := List.forall_mem_cons.2 ⟨p54_8000, List.forall_mem_cons.2 ⟨p54_7000, List.forall_mem_cons.2 ⟨p54_10400, fun _ h => nomatch h⟩⟩⟩

theorem haystackref09_Whole_eq {R : Type} (K : AV → Option R) (v0 v1 v2 v3 v4 : Int) (v5 : List Int) (v6 : Int) (v7 : List Int) : evSpec (V 54) S79 T99 o54 10 54 ([AV.agg (Blk.any [Ai v0, Ai v1, Ai v2, Ai v3, Ai v4, Fu v5, Ai v6, Fu v7])]) R K = haystackref09_Whole_B v0 v1 v2 v3 v4 v5 v6 v7 (fun v8 v9 va => K (AV.tup [AV.agg (Blk.any [Ai v8, Fu v9]), Ab va])) := by kernel_rfl

noncomputable def sp54 : Ev.Spec := fun args _ K => match args with
 | ([AV.agg (Blk.any [Ai v0, Ai v1, Ai v2, Ai v3, Ai v4, Fu v5, Ai v6, Fu v7])]) => haystackref09_Whole v0 v1 v2 v3 v4 v5 v6 v7 (fun v8 v9 va => K (AV.tup [AV.agg (Blk.any [Ai v8, Fu v9]), Ab va]))
 | _ => none
noncomputable def S54 := addS 54 sp54 S79
theorem D65 : Dom B0 V S54 T99 65 := Dom.s (m := 64) (n := 0) D64 D64 (O := o54) (OrcOk.fn (fn0 := Tryd.f54) (by kernel_rfl) (by kernel_rfl) pc54) fun args R K r h => by
 unfold sp54 at h; split at h
 · rw [haystackref09_Whole_unf] at h; exact (haystackref09_Whole_eq K _ _ _ _ _ _ _ _).trans h
 · cases h

noncomputable def sp27 : Ev.Spec := fun args _ K => match args with
 | ([AV.agg (Blk.any [Ai v0, Ai v1, Ai v2, Ai v3, Ai v4, Fu v5, Ai v6, Fu v7])]) => haystackref09_Check v0 v1 v2 v3 v4 v5 v6 v7 (fun v8 => K (Ab v8))
 | _ => none
noncomputable def S27 := addS 27 sp27 S54
theorem D66 : Dom B0 V S27 T99 66 := Dom.s (m := 65) (n := 0) D65 D65 (O := (fun _ => none)) (fun _ _ _ _ => OrcOk.none _ _) fun args R K r h => by
 unfold sp27 at h; split at h
 · rw [haystackref09_Check_unf] at h; exact Eq.trans (by kernel_rfl) h
 · cases h

noncomputable def sp20 : Ev.Spec := fun args _ K => match args with
 | ([AV.agg (Blk.any [Ai v0, Ai v1, Ai v2, Ai v3, Ai v4, Fu v5, Ai v6, Fu v7])]) => haystackref09_Size v0 v1 v2 v3 v4 v5 v6 v7 (fun v8 => K (Ai v8))
 | _ => none
noncomputable def S20 := addS 20 sp20 S27
theorem D67 : Dom B0 V S20 T99 67 := Dom.s (m := 66) (n := 0) D66 D66 (O := (fun _ => none)) (fun _ _ _ _ => OrcOk.none _ _) fun args R K r h => by
 unfold sp20 at h; split at h
 · rw [haystackref09_Size_unf] at h; exact Eq.trans (by kernel_rfl) h
 · cases h

noncomputable def o5_4000_in {R : Type} (K : Ex → St → Option R) (vs : List AV) (hh : H) : Option R := match vs, hh with
 | [Ap 0 0], [HA [Ai v0, Fu v1]] => haystacklaw09_FanoBuilds_j4 v0 v1 (fun v2 => K (Ex.ret) (St.mk (spread 45 0 [2] [Ab v2]) []))
 | _, _ => none

noncomputable def o5 : Nat → Option PSpec := lkN [(4000, fun st _ K => pickM 45 [1] st (o5_4000_in K))]
noncomputable def q5 : CallF := evFun (V 5) S20 T99 10

noncomputable def c5_4000 : Code := subC [1, 1] (bodyOf Tryd.f5)

theorem p5_4000 : PieceOk (V 5) q5 o5 5 0 (3998, 0, c5_4000) := .s (size := 45) (ss := [1]) (F := @o5_4000_in) (by kernel_rfl) fun R r K vs hh h => by
  unfold o5_4000_in at h; split at h
  · rw [haystacklaw09_FanoBuilds_j4_unf] at h; exact Eq.trans (by kernel_rfl) h
  · cases h

theorem pc5 : ∀ x ∈ [(3998, 0, c5_4000)], PieceOk (V 5) q5 o5 5 0 x := List.forall_mem_cons.2 ⟨p5_4000, fun _ h => nomatch h⟩

noncomputable def sp5 : Ev.Spec := fun args _ K => match args with
 | ([AV.agg (Blk.any [Ai v0, Fu v1])]) => haystacklaw09_FanoBuilds v0 v1 (fun v2 => K (Ab v2))
 | _ => none
noncomputable def S5 := addS 5 sp5 S20
theorem D68 : Dom B0 V S5 T99 68 := Dom.s (m := 67) (n := 0) D67 D67 (O := o5) (OrcOk.fn (fn0 := Tryd.f5) (by kernel_rfl) (by kernel_rfl) pc5) fun args R K r h => by
 unfold sp5 at h; split at h
 · rw [haystacklaw09_FanoBuilds_unf] at h; exact Eq.trans (by kernel_rfl) h
 · cases h

noncomputable def sp21 : Ev.Spec := fun args _ K => match args with
 | ([AV.agg (Blk.any [Ai v0, Ai v1, Ai v2, Ai v3, Ai v4, Fu v5, Ai v6, Fu v7])]) => haystacklaw09_small v0 v1 v2 v3 v4 v5 v6 v7 (fun v8 => K (Ab v8))
 | _ => none
noncomputable def S21 := addS 21 sp21 S5
theorem D69 : Dom B0 V S21 T99 69 := Dom.s (m := 68) (n := 0) D68 D68 (O := (fun _ => none)) (fun _ _ _ _ => OrcOk.none _ _) fun args R K r h => by
 unfold sp21 at h; split at h
 · rw [haystacklaw09_small_unf] at h; exact Eq.trans (by kernel_rfl) h
 · cases h

noncomputable def o55_6000_in {R : Type} (K : Ex → St → Option R) (vs : List AV) (hh : H) : Option R := match vs, hh with
 | [Ai v0, Ap 0 0], [HA [Ai v1, Fu v2]] => haystackref02_Get_j6 v0 v1 v2 (fun v3 v4 => K (Ex.ret) (St.mk (spread 20 0 [4, 5] [Ab v3, Ai v4]) []))
 | _, _ => none

noncomputable def o55 : Nat → Option PSpec := lkN [(6000, fun st _ K => pickM 20 [1, 2] st (o55_6000_in K))]
noncomputable def q55 : CallF := evFun (V 55) S21 T99 10

noncomputable def c55_6000 : Code := subC [1, 1, 1] (bodyOf Tryd.f55)

theorem p55_6000 : PieceOk (V 55) q55 o55 55 0 (3997, 0, c55_6000) := .s (size := 20) (ss := [1, 2]) (F := @o55_6000_in) (by kernel_rfl) fun R r K vs hh h => by
  unfold o55_6000_in at h; split at h
  · rw [haystackref02_Get_j6_unf] at h; exact Eq.trans (by kernel_rfl) h
  · cases h

theorem pc55 : ∀ x ∈ [(3997, 0, c55_6000)], PieceOk (V 55) q55 o55 55 0 x := List.forall_mem_cons.2 ⟨p55_6000, fun _ h => nomatch h⟩

noncomputable def sp55 : Ev.Spec := fun args _ K => match args with
 | ([AV.agg (Blk.any [Ai v0, Fu v1]), Ai v2]) => haystackref02_Get v0 v1 v2 (fun v3 v4 => K (AV.tup [Ab v3, Ai v4]))
 | _ => none
noncomputable def S55 := addS 55 sp55 S21
theorem D70 : Dom B0 V S55 T99 70 := Dom.s (m := 69) (n := 0) D69 D69 (O := o55) (OrcOk.fn (fn0 := Tryd.f55) (by kernel_rfl) (by kernel_rfl) pc55) fun args R K r h => by
 unfold sp55 at h; split at h
 · rw [haystackref02_Get_unf] at h; exact Eq.trans (by kernel_rfl) h
 · cases h

noncomputable def sp22 : Ev.Spec := fun args _ K => match args with
 | ([AV.agg (Blk.any [Ai v0, Ai v1, Ai v2, Ai v3, Ai v4, Fu v5, Ai v6, Fu v7]), Ai v8]) => haystackref09_Access v0 v1 v2 v3 v4 v5 v6 v7 v8 (fun v9 va => K (AV.tup [Ab v9, Ai va]))
 | _ => none
noncomputable def S22 := addS 22 sp22 S55
theorem D71 : Dom B0 V S22 T99 71 := Dom.s (m := 70) (n := 0) D70 D70 (O := (fun _ => none)) (fun _ _ _ _ => OrcOk.none _ _) fun args R K r h => by
 unfold sp22 at h; split at h
 · rw [haystackref09_Access_unf] at h; exact Eq.trans (by kernel_rfl) h
 · cases h

noncomputable def o16_4400_in {R : Type} (K : Ex → St → Option R) (vs : List AV) (hh : H) : Option R := match vs, hh with
 | [Ai v0, Ap 0 0, Ai v1, Ai v2], [HA [Ai v3, Fu v4]] => haystackref02_Ones_l4 v0 v1 v2 v3 v4 (fun v5 => K (Ex.exit 0) (St.mk (spread 28 0 [5] [Ai v5]) []))
 | _, _ => none

noncomputable def o16_6000_in {R : Type} (K : Ex → St → Option R) (vs : List AV) (hh : H) : Option R := match vs, hh with
 | [Ai v0, Ap 0 0, Ai v1, Ai v2], [HA [Ai v3, Fu v4]] => haystackref02_Ones_j6 v0 v1 v2 v3 v4 (fun v5 v6 v7 v8 v9 => K (Ex.normal) (St.mk (spread 28 0 [1, 2, 5, 6] [Ai v5, Ap 0 0, Ai v6, Ai v7]) [HA [Ai v8, Fu v9]]))
 | _, _ => none

noncomputable def o16 : Nat → Option PSpec := lkN [(4400, fun st _ K => pickM 28 [1, 2, 5, 6] st (o16_4400_in K)), (6000, fun st _ K => pickM 28 [1, 2, 5, 6] st (o16_6000_in K))]
noncomputable def q16 : CallF := evFun (V 16) S22 T99 10

noncomputable def c16_4400 : Code := subC [1, 1, 0, 1, 0, 0] (bodyOf Tryd.f16)

noncomputable def lp16_4400 {R : Type} (N : Nat) (st : St) (K : Ex → St → Option R) : Option R := evLoop (norm ((V 16).keep 16 (Ev.keyOf c16_4400 * 1000 + 400)) 0) (evCode (V 16) q16 o16 16 0 3994 c16_4400) N st (kOut (V 16) 16 0 (Ev.keyOf c16_4400 * 1000 + 401) K)

noncomputable def c16_6000 : Code := subC [1, 1, 0, 1, 0, 0, 1] (bodyOf Tryd.f16)

theorem haystackref02_Ones_l4_L_eq {R : Type} (K : Ex → St → Option R) : ∀ N : Nat, (fun (v0 v1 v2 v3 : Int) (v4 : List Int) => lp16_4400 N (St.mk (spread 28 0 [1, 2, 5, 6] [Ai v0, Ap 0 0, Ai v1, Ai v2]) [HA [Ai v3, Fu v4]]) K) = haystackref02_Ones_l4_L (fun v5 => K (Ex.exit 0) (St.mk (spread 28 0 [5] [Ai v5]) [])) N
  | 0 => by funext v0 v1 v2 v3 v4; rfl
  | N + 1 => by
    funext v0 v1 v2 v3 v4
    simp only [haystackref02_Ones_l4_L]
    rw [← haystackref02_Ones_l4_L_eq K N]
    kernel_rfl

theorem p16_4400 : PieceOk (V 16) q16 o16 16 0 (3994, 1, c16_4400) := .l (size := 28) (ss := [1, 2, 5, 6]) (F := @o16_4400_in) (by kernel_rfl) (by kernel_rfl) fun R r K vs hh h => by
  unfold o16_4400_in at h; split at h
  · rw [haystackref02_Ones_l4_unf] at h; unfold haystackref02_Ones_l4_B at h; rw [← haystackref02_Ones_l4_L_eq K NR] at h; exact h
  · cases h

theorem p16_6000 : PieceOk (V 16) q16 o16 16 0 (3993, 0, c16_6000) := .s (size := 28) (ss := [1, 2, 5, 6]) (F := @o16_6000_in) (by kernel_rfl) fun R r K vs hh h => by
  unfold o16_6000_in at h; split at h
  · rw [haystackref02_Ones_j6_unf] at h; exact Eq.trans (by kernel_rfl) h
  · cases h

theorem pc16 : ∀ x ∈ [(3994, 1, c16_4400), (3993, 0, c16_6000)], PieceOk (V 16) q16 o16 16 0 x := List.forall_mem_cons.2 ⟨p16_4400, List.forall_mem_cons.2 ⟨p16_6000, fun _ h => nomatch h⟩⟩

noncomputable def sp16 : Ev.Spec := fun args _ K => match args with
 | ([AV.agg (Blk.any [Ai v0, Fu v1]), Ai v2]) => haystackref02_Ones v0 v1 v2 (fun v3 => K (Ai v3))
 | _ => none
noncomputable def S16 := addS 16 sp16 S22
theorem D72 : Dom B0 V S16 T99 72 := Dom.s (m := 71) (n := 0) D71 D71 (O := o16) (OrcOk.fn (fn0 := Tryd.f16) (by kernel_rfl) (by kernel_rfl) pc16) fun args R K r h => by
 unfold sp16 at h; split at h
 · rw [haystackref02_Ones_unf] at h; exact Eq.trans (by kernel_rfl) h
 · cases h

noncomputable def o23_7000_in {R : Type} (K : Ex → St → Option R) (vs : List AV) (hh : H) : Option R := match vs, hh with
 | [Ab v0, Ai v1, Ap 0 0], [HA [Ai v2, Fu v3]] => haystackref09_Rank_j7 v0 v1 v2 v3 (fun v4 v5 => K (Ex.ret) (St.mk (spread 35 0 [6, 7] [Ai v4, Ai v5]) []))
 | _, _ => none

noncomputable def o23 : Nat → Option PSpec := lkN [(7000, fun st _ K => pickM 35 [1, 2, 8] st (o23_7000_in K))]
noncomputable def q23 : CallF := evFun (V 23) S16 T99 10

noncomputable def c23_7000 : Code := subC [1, 1, 1, 1] (bodyOf Tryd.f23)

theorem p23_7000 : PieceOk (V 23) q23 o23 23 0 (3996, 0, c23_7000) := .s (size := 35) (ss := [1, 2, 8]) (F := @o23_7000_in) (by kernel_rfl) fun R r K vs hh h => by
  unfold o23_7000_in at h; split at h
  · rw [haystackref09_Rank_j7_unf] at h; exact Eq.trans (by kernel_rfl) h
  · cases h

theorem pc23 : ∀ x ∈ [(3996, 0, c23_7000)], PieceOk (V 23) q23 o23 23 0 x := List.forall_mem_cons.2 ⟨p23_7000, fun _ h => nomatch h⟩

noncomputable def sp23 : Ev.Spec := fun args _ K => match args with
 | ([AV.agg (Blk.any [Ai v0, Ai v1, Ai v2, Ai v3, Ai v4, Fu v5, Ai v6, Fu v7]), Ab v8, Ai v9]) => haystackref09_Rank v0 v1 v2 v3 v4 v5 v6 v7 v8 v9 (fun va vb => K (AV.tup [Ai va, Ai vb]))
 | _ => none
noncomputable def S23 := addS 23 sp23 S16
theorem D73 : Dom B0 V S23 T99 73 := Dom.s (m := 72) (n := 0) D72 D72 (O := o23) (OrcOk.fn (fn0 := Tryd.f23) (by kernel_rfl) (by kernel_rfl) pc23) fun args R K r h => by
 unfold sp23 at h; split at h
 · rw [haystackref09_Rank_unf] at h; exact Eq.trans (by kernel_rfl) h
 · cases h

noncomputable def o25_7400_in {R : Type} (K : Ex → St → Option R) (vs : List AV) (hh : H) : Option R := match vs, hh with
 | [Ab v0, Ai v1, Ap 0 0, Ai v2, Ai v3], [HA [Ai v4, Fu v5]] => haystackref09_Select_l7 v0 v1 v2 v3 v4 v5 (fun v6 v7 => K (Ex.ret) (St.mk (spread 36 0 [6, 7] [Ai v6, Ai v7]) [])) (fun _ => K (Ex.exit 0) (St.mk (spread 36 0 [] []) []))
 | _, _ => none

noncomputable def o25 : Nat → Option PSpec := lkN [(7400, fun st _ K => pickM 36 [1, 2, 8, 10, 11] st (o25_7400_in K))]
noncomputable def q25 : CallF := evFun (V 25) S23 T99 10

noncomputable def c25_7400 : Code := subC [1, 1, 1, 1, 0, 1, 0, 0] (bodyOf Tryd.f25)

noncomputable def lp25_7400 {R : Type} (N : Nat) (st : St) (K : Ex → St → Option R) : Option R := evLoop (norm ((V 25).keep 25 (Ev.keyOf c25_7400 * 1000 + 400)) 0) (evCode (V 25) q25 o25 25 0 3992 c25_7400) N st (kOut (V 25) 25 0 (Ev.keyOf c25_7400 * 1000 + 401) K)

theorem haystackref09_Select_l7_L_eq {R : Type} (K : Ex → St → Option R) : ∀ N : Nat, (fun (v0 : Bool) (v1 v2 v3 v4 : Int) (v5 : List Int) => lp25_7400 N (St.mk (spread 36 0 [1, 2, 8, 10, 11] [Ab v0, Ai v1, Ap 0 0, Ai v2, Ai v3]) [HA [Ai v4, Fu v5]]) K) = haystackref09_Select_l7_L (fun v6 v7 => K (Ex.ret) (St.mk (spread 36 0 [6, 7] [Ai v6, Ai v7]) [])) (fun _ => K (Ex.exit 0) (St.mk (spread 36 0 [] []) [])) N
  | 0 => by funext v0 v1 v2 v3 v4 v5; rfl
  | N + 1 => by
    funext v0 v1 v2 v3 v4 v5
    simp only [haystackref09_Select_l7_L]
    rw [← haystackref09_Select_l7_L_eq K N]
    kernel_rfl

theorem p25_7400 : PieceOk (V 25) q25 o25 25 0 (3992, 1, c25_7400) := .l (size := 36) (ss := [1, 2, 8, 10, 11]) (F := @o25_7400_in) (by kernel_rfl) (by kernel_rfl) fun R r K vs hh h => by
  unfold o25_7400_in at h; split at h
  · rw [haystackref09_Select_l7_unf] at h; unfold haystackref09_Select_l7_B at h; rw [← haystackref09_Select_l7_L_eq K NR] at h; exact h
  · cases h

theorem pc25 : ∀ x ∈ [(3992, 1, c25_7400)], PieceOk (V 25) q25 o25 25 0 x := List.forall_mem_cons.2 ⟨p25_7400, fun _ h => nomatch h⟩

noncomputable def sp25 : Ev.Spec := fun args _ K => match args with
 | ([AV.agg (Blk.any [Ai v0, Ai v1, Ai v2, Ai v3, Ai v4, Fu v5, Ai v6, Fu v7]), Ab v8, Ai v9]) => haystackref09_Select v0 v1 v2 v3 v4 v5 v6 v7 v8 v9 (fun va vb => K (AV.tup [Ai va, Ai vb]))
 | _ => none
noncomputable def S25 := addS 25 sp25 S23
theorem D74 : Dom B0 V S25 T99 74 := Dom.s (m := 73) (n := 0) D73 D73 (O := o25) (OrcOk.fn (fn0 := Tryd.f25) (by kernel_rfl) (by kernel_rfl) pc25) fun args R K r h => by
 unfold sp25 at h; split at h
 · rw [haystackref09_Select_unf] at h; exact Eq.trans (by kernel_rfl) h
 · cases h

noncomputable def sp30 : Ev.Spec := fun args _ K => match args with
 | ([AV.agg (Blk.any [Ai v0, Ai v1, Ai v2, Ai v3, Ai v4, Fu v5, Ai v6, Fu v7])]) => haystackref09_Bits v0 v1 v2 v3 v4 v5 v6 v7 (fun v8 v9 => K (AV.agg (Blk.any [Ai v8, Fu v9])))
 | _ => none
noncomputable def S30 := addS 30 sp30 S25
theorem D75 : Dom B0 V S30 T99 75 := Dom.s (m := 74) (n := 0) D74 D74 (O := (fun _ => none)) (fun _ _ _ _ => OrcOk.none _ _) fun args R K r h => by
 unfold sp30 at h; split at h
 · rw [haystackref09_Bits_unf] at h; exact Eq.trans (by kernel_rfl) h
 · cases h

noncomputable def o6_5000_in {R : Type} (K : Ex → St → Option R) (vs : List AV) (hh : H) : Option R := match vs, hh with
 | [Ab v0, Ai v1, Ap 0 0, Ab v2, Ai v3], [HA [Ai v4, Ai v5, Ai v6, Ai v7, Ai v8, Fu v9, Ai va, Fu vb]] => haystacklaw09_FanoTells_j5 v0 v1 v2 v3 v4 v5 v6 v7 v8 v9 va vb (fun vc => K (Ex.ret) (St.mk (spread 113 0 [6] [Ab vc]) []))
 | _, _ => none

noncomputable def o6_12000_in {R : Type} (K : Ex → St → Option R) (vs : List AV) (hh : H) : Option R := match vs, hh with
 | [Ap 0 0], [HA [Ai v0, Ai v1, Ai v2, Ai v3, Ai v4, Fu v5, Ai v6, Fu v7]] => haystacklaw09_FanoTells_j12 v0 v1 v2 v3 v4 v5 v6 v7 (fun v8 => K (Ex.ret) (St.mk (spread 113 0 [6] [Ab v8]) []))
 | _, _ => none

noncomputable def o6 : Nat → Option PSpec := lkN [(5000, fun st _ K => pickM 113 [1, 2, 3, 7, 8] st (o6_5000_in K)), (12000, fun st _ K => pickM 113 [3] st (o6_12000_in K))]
noncomputable def q6 : CallF := evFun (V 6) S30 T99 10

noncomputable def c6_5000 : Code := subC [1, 1, 1] (bodyOf Tryd.f6)

noncomputable def c6_12000 : Code := subC [1, 1, 1, 1, 1, 1, 1, 1, 1] (bodyOf Tryd.f6)

theorem p6_5000 : PieceOk (V 6) q6 o6 6 0 (3997, 0, c6_5000) := .s (size := 113) (ss := [1, 2, 3, 7, 8]) (F := @o6_5000_in) (by kernel_rfl) fun R r K vs hh h => by
  unfold o6_5000_in at h; split at h
  · rw [haystacklaw09_FanoTells_j5_unf] at h; exact Eq.trans (by kernel_rfl) h
  · cases h

theorem p6_12000 : PieceOk (V 6) q6 o6 6 0 (3991, 0, c6_12000) := .s (size := 113) (ss := [3]) (F := @o6_12000_in) (by kernel_rfl) fun R r K vs hh h => by
  unfold o6_12000_in at h; split at h
  · rw [haystacklaw09_FanoTells_j12_unf] at h; exact Eq.trans (by kernel_rfl) h
  · cases h

theorem pc6 : ∀ x ∈ [(3997, 0, c6_5000), (3991, 0, c6_12000)], PieceOk (V 6) q6 o6 6 0 x := List.forall_mem_cons.2 ⟨p6_5000, List.forall_mem_cons.2 ⟨p6_12000, fun _ h => nomatch h⟩⟩

noncomputable def sp6 : Ev.Spec := fun args _ K => match args with
 | ([AV.agg (Blk.any [Ai v0, Ai v1, Ai v2, Ai v3, Ai v4, Fu v5, Ai v6, Fu v7]), Ab v8, Ai v9]) => haystacklaw09_FanoTells v0 v1 v2 v3 v4 v5 v6 v7 v8 v9 (fun va => K (Ab va))
 | _ => none
noncomputable def S6 := addS 6 sp6 S30
theorem D76 : Dom B0 V S6 T99 76 := Dom.s (m := 75) (n := 0) D75 D75 (O := o6) (OrcOk.fn (fn0 := Tryd.f6) (by kernel_rfl) (by kernel_rfl) pc6) fun args R K r h => by
 unfold sp6 at h; split at h
 · rw [haystacklaw09_FanoTells_unf] at h; exact Eq.trans (by kernel_rfl) h
 · cases h

theorem ok5 : ∃ sp, SpecOk Tryd.prog (V 5) 5 sp ∧ ∀ args z, sp5 args AV some = some z → sp args AV some = some z := by
  obtain ⟨sp, h1, h2⟩ := Dom.law (P := Tryd.prog) (V := V) (fun f sp h _ => base_ok _ _ f sp h) (fun _ => env_types _ _) (fun _ => env_funs _ _) (fun _ _ => rfl) D76 (f := 5) (sp := sp5) (by kernel_rfl)
  exact ⟨sp, h1, fun args z => h2 args AV some z⟩

theorem ok6 : ∃ sp, SpecOk Tryd.prog (V 6) 6 sp ∧ ∀ args z, sp6 args AV some = some z → sp args AV some = some z := by
  obtain ⟨sp, h1, h2⟩ := Dom.law (P := Tryd.prog) (V := V) (fun f sp h _ => base_ok _ _ f sp h) (fun _ => env_types _ _) (fun _ => env_funs _ _) (fun _ _ => rfl) D76 (f := 6) (sp := sp6) (by kernel_rfl)
  exact ⟨sp, h1, fun args z => h2 args AV some z⟩

end Go.Proofs.YtdojekdcdoaccaaDoor
