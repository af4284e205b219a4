/- The functions that this seat's laws reach, as plain functions, and that they are what the program does. Printed by a program of this repo (wip/Prt). -/
import Derived.Test.YtdojekdcdoaccaaGreatDoorBase
import Derived.Test.YtdojekdcdoaccaaGreatDoorEnv
import Derived.Test.YtdojekdcdoaccaaGreatDoorEvC
import Derived.KernelRfl
import Derived.Test.YtdojekdcdoaccaaGreatDoorFn1
namespace Go.Proofs.YtdojekdcdoaccaaGreatDoor
open Go Go.Ev
set_option maxRecDepth 100000
set_option maxHeartbeats 4000000

noncomputable def sp71 : Ev.Spec := fun args _ K => match args with
 | ([AV.agg (Blk.any [Ai v0, Ai v1, Ai v2, Ai v3, Fu v4, Ai v5, Fu v6, AV.fsl (Blk.ints .i64 v7), AV.fsl (Blk.ints .i64 v8)]), Ai v9, Ai va]) => rrr_get v0 v1 v2 v3 v4 v5 v6 v7 v8 v9 va (fun vb vc => K (AV.tup [Au vb, Ai vc]))
 | _ => none
noncomputable def S71 := addS 71 sp71 S82
theorem D34 : Dom B0 V S71 T77 34 := Dom.s (m := 33) (n := 0) D33 D33 (O := (fun _ => none)) (fun _ _ _ _ => OrcOk.none _ _) fun args R K r h => by
 unfold sp71 at h; split at h
 · rw [rrr_get_unf] at h; exact Eq.trans (by kernel_rfl) h
 · cases h

noncomputable def sp68 : Ev.Spec := fun args _ K => match args with
 | ([Au v0, Ai v1]) => word_Rank v0 v1 (fun v2 => K (Ai v2))
 | _ => none
noncomputable def S68 := addS 68 sp68 S71
theorem D35 : Dom B0 V S68 T77 35 := Dom.s (m := 34) (n := 0) D34 D34 (O := (fun _ => none)) (fun _ _ _ _ => OrcOk.none _ _) fun args R K r h => by
 unfold sp68 at h; split at h
 · rw [word_Rank_unf] at h; exact Eq.trans (by kernel_rfl) h
 · cases h

noncomputable def hs67 : HSpec := fun args h _ K => match args, h with
 | [Ai v0, Au v1, Ai v2, Ap 0 0, Ap 1 0], [HA [Ai v3], HA [Ai v4]] => rrr_ones_1_r v0 v1 v2 v3 v4 (fun v5 v6 v7 => K (Ab v5) ([HA [Ai v6], HA [Ai v7]]))
 | _, _ => none
noncomputable def T67 := addT 67 hs67 T77
theorem D36 : Dom B0 V S68 T67 36 := Dom.t D35 fun args hh R K r h => by
 unfold hs67 at h; split at h
 · rw [rrr_ones_1_r_unf] at h; exact ⟨(fun _ => none), (fun _ _ _ _ => OrcOk.none _ _), Eq.trans (by kernel_rfl) h⟩
 · cases h

noncomputable def sp72 : Ev.Spec := fun args _ K => match args with
 | ([Au v0]) => math_bits_TrailingZeros64 v0 (fun v1 => K (Ai v1))
 | _ => none
noncomputable def S72 := addS 72 sp72 S68
theorem D37 : Dom B0 V S72 T67 37 := Dom.s (m := 36) (n := 0) D36 D36 (O := (fun _ => none)) (fun _ _ _ _ => OrcOk.none _ _) fun args R K r h => by
 unfold sp72 at h; split at h
 · rw [math_bits_TrailingZeros64_unf] at h; exact Eq.trans (by kernel_rfl) h
 · cases h

noncomputable def o47_4000_in {R : Type} (K : Ex → St → Option R) (vs : List AV) (hh : H) : Option R := match vs, hh with
 | [Au v0, Ai v1], [] => word_Select_j4 v0 v1 (fun v2 => K (Ex.ret) (St.mk (spread 23 0 [4] [Ai v2]) []))
 | _, _ => none

noncomputable def o47_5400_in {R : Type} (K : Ex → St → Option R) (vs : List AV) (hh : H) : Option R := match vs, hh with
 | [Au v0, Ai v1, Ai v2], [] => word_Select_l5 v0 v1 v2 (fun v3 => K (Ex.exit 0) (St.mk (spread 23 0 [0] [Au v3]) []))
 | _, _ => none

noncomputable def o47 : Nat → Option PSpec := lkN [(4000, fun st _ K => pickM 23 [0, 1] st (o47_4000_in K)), (5400, fun st _ K => pickM 23 [0, 13, 14] st (o47_5400_in K))]
noncomputable def q47 : CallF := evFun (V 47) S72 T67 10

noncomputable def c47_4000 : Code := subC [1, 1] (bodyOf Tryz.f47)

noncomputable def c47_5400 : Code := subC [1, 1, 0, 1, 0, 0] (bodyOf Tryz.f47)

noncomputable def lp47_5400 {R : Type} (N : Nat) (st : St) (K : Ex → St → Option R) : Option R := evLoop (norm ((V 47).keep 47 (Ev.keyOf c47_5400 * 1000 + 400)) 0) (evCode (V 47) q47 o47 47 0 3994 c47_5400) N st (kOut (V 47) 47 0 (Ev.keyOf c47_5400 * 1000 + 401) K)

theorem word_Select_l5_L_eq {R : Type} (K : Ex → St → Option R) : ∀ N : Nat, (fun (v0 v1 v2 : Int) => lp47_5400 N (St.mk (spread 23 0 [0, 13, 14] [Au v0, Ai v1, Ai v2]) []) K) = word_Select_l5_L (fun v3 => K (Ex.exit 0) (St.mk (spread 23 0 [0] [Au v3]) [])) N
  | 0 => by funext v0 v1 v2; rfl
  | N + 1 => by
    funext v0 v1 v2
    simp only [word_Select_l5_L]
    rw [← word_Select_l5_L_eq K N]
    kernel_rfl

theorem p47_4000 : PieceOk (V 47) q47 o47 47 0 (3998, 0, c47_4000) := .s (size := 23) (ss := [0, 1]) (F := @o47_4000_in) (by kernel_rfl) fun R r K vs hh h => by
  unfold o47_4000_in at h; split at h
  · rw [word_Select_j4_unf] at h; exact Eq.trans (by kernel_rfl) h
  · cases h

theorem p47_5400 : PieceOk (V 47) q47 o47 47 0 (3994, 1, c47_5400) := .l (size := 23) (ss := [0, 13, 14]) (F := @o47_5400_in) (by kernel_rfl) (by kernel_rfl) fun R r K vs hh h => by
  unfold o47_5400_in at h; split at h
  · rw [word_Select_l5_unf] at h; unfold word_Select_l5_B at h; rw [← word_Select_l5_L_eq K NR] at h; exact h
  · cases h

theorem pc47 : ∀ x ∈ [(3998, 0, c47_4000), (3994, 1, c47_5400)], PieceOk (V 47) q47 o47 47 0 x := List.forall_mem_cons.2 ⟨p47_4000, List.forall_mem_cons.2 ⟨p47_5400, fun _ h => nomatch h⟩⟩

noncomputable def sp47 : Ev.Spec := fun args _ K => match args with
 | ([Au v0, Ai v1]) => word_Select v0 v1 (fun v2 => K (Ai v2))
 | _ => none
noncomputable def S47 := addS 47 sp47 S72
theorem D38 : Dom B0 V S47 T67 38 := Dom.s (m := 37) (n := 0) D37 D37 (O := o47) (OrcOk.fn (fn0 := Tryz.f47) (by kernel_rfl) (by kernel_rfl) pc47) fun args R K r h => by
 unfold sp47 at h; split at h
 · rw [word_Select_unf] at h; exact Eq.trans (by kernel_rfl) h
 · cases h

noncomputable def o45r3_4000_in {R : Type} (K : Ex → St → Option R) (vs : List AV) (hh : H) : Option R := match vs, hh with
 | [Ai v0, Au v1, Ai v2, Ap 1 0, Ap 2 0], [HA [Ab v3], HA [Ai v4], HA [Ai v5]] => rrr_Select_1_j4 v0 v1 v2 v3 v4 v5 (fun v6 v7 v8 v9 => K (Ex.ret) (St.mk (spread 34 0 [9] [Ab v6]) [HA [Ab v7], HA [Ai v8], HA [Ai v9]]))
 | _, _ => none

noncomputable def o45r3 : Nat → Option PSpec := lkN [(4000, fun st _ K => pickM 34 [0, 1, 2, 4, 5] st (o45r3_4000_in K))]
noncomputable def q45r3 : CallF := evFun (V 45) S47 T67 10

noncomputable def c45r3_4000 : Code := subC [1, 1] (bodyOf Tryz.f45)

theorem p45r3_4000 : PieceOk (V 45) q45r3 o45r3 45 3 (3998, 0, c45r3_4000) := .s (size := 34) (ss := [0, 1, 2, 4, 5]) (F := @o45r3_4000_in) (by kernel_rfl) fun R r K vs hh h => by
  unfold o45r3_4000_in at h; split at h
  · rw [rrr_Select_1_j4_unf] at h; exact Eq.trans (by kernel_rfl) h
  · cases h

theorem pc45r3 : ∀ x ∈ [(3998, 0, c45r3_4000)], PieceOk (V 45) q45r3 o45r3 45 3 x := List.forall_mem_cons.2 ⟨p45r3_4000, fun _ h => nomatch h⟩

noncomputable def hs45 : HSpec := fun args h _ K => match args, h with
 | [Ai v0, Au v1, Ai v2, Ap 0 0, Ap 1 0, Ap 2 0], [HA [Ab v3], HA [Ai v4], HA [Ai v5]] => rrr_Select_1_r v0 v1 v2 v3 v4 v5 (fun v6 v7 v8 v9 => K (Ab v6) ([HA [Ab v7], HA [Ai v8], HA [Ai v9]]))
 | _, _ => none
noncomputable def T45 := addT 45 hs45 T67
theorem D39 : Dom B0 V S47 T45 39 := Dom.t D38 fun args hh R K r h => by
 unfold hs45 at h; split at h
 · rw [rrr_Select_1_r_unf] at h; exact ⟨o45r3, (OrcOk.fn (fn0 := Tryz.f45) (by kernel_rfl) (by kernel_rfl) pc45r3), Eq.trans (by kernel_rfl) h⟩
 · cases h

noncomputable def o44r2_5400_in {R : Type} (K : Ex → St → Option R) (vs : List AV) (hh : H) : Option R := match vs, hh with
 | [AV.fn 67 [Ap 0 0, Ap 1 0], Ap 2 0, Ai v0, Ai v1, Ai v2], [HA [Ai v3], HA [Ai v4], HA [Ai v5, Ai v6, Ai v7, Ai v8, Fu v9, Ai va, Fu vb, AV.fsl (Blk.ints .i64 vc), AV.fsl (Blk.ints .i64 vd)]] => rrr_walk_l5 v0 v1 v2 v3 v4 v5 v6 v7 v8 v9 va vb vc vd (fun ve vf => K (Ex.ret) (St.mk (spread 53 0 [] []) [HA [Ai ve], HA [Ai vf]])) (fun ve vf => K (Ex.exit 0) (St.mk (spread 53 0 [] []) [HA [Ai ve], HA [Ai vf]]))
 | _, _ => none

noncomputable def o44r2 : Nat → Option PSpec := lkN [(5400, fun st _ K => pickM 53 [2, 3, 7, 8, 9] st (o44r2_5400_in K))]
noncomputable def q44r2 : CallF := evFun (V 44) S47 T45 10

noncomputable def c44r2_5400 : Code := subC [1, 1, 1, 1, 0, 0] (bodyOf Tryz.f44)

noncomputable def lp44r2_5400 {R : Type} (N : Nat) (st : St) (K : Ex → St → Option R) : Option R := evLoop (norm ((V 44).keep 44 (Ev.keyOf c44r2_5400 * 1000 + 400)) 2) (evCode (V 44) q44r2 o44r2 44 2 3994 c44r2_5400) N st (kOut (V 44) 44 2 (Ev.keyOf c44r2_5400 * 1000 + 401) K)

theorem rrr_walk_l5_L_eq {R : Type} (K : Ex → St → Option R) : ∀ N : Nat, (fun (v0 v1 v2 v3 v4 v5 v6 v7 v8 : Int) (v9 : List Int) (va : Int) (vb vc vd : List Int) => lp44r2_5400 N (St.mk (spread 53 0 [2, 3, 7, 8, 9] [AV.fn 67 [Ap 0 0, Ap 1 0], Ap 2 0, Ai v0, Ai v1, Ai v2]) [HA [Ai v3], HA [Ai v4], HA [Ai v5, Ai v6, Ai v7, Ai v8, Fu v9, Ai va, Fu vb, AV.fsl (Blk.ints .i64 vc), AV.fsl (Blk.ints .i64 vd)]]) K) = rrr_walk_l5_L (fun ve vf => K (Ex.ret) (St.mk (spread 53 0 [] []) [HA [Ai ve], HA [Ai vf]])) (fun ve vf => K (Ex.exit 0) (St.mk (spread 53 0 [] []) [HA [Ai ve], HA [Ai vf]])) N
  | 0 => by funext v0 v1 v2 v3 v4 v5 v6 v7 v8 v9 va vb vc vd; rfl
  | N + 1 => by
    funext v0 v1 v2 v3 v4 v5 v6 v7 v8 v9 va vb vc vd
    simp only [rrr_walk_l5_L]
    rw [← rrr_walk_l5_L_eq K N]
    kernel_rfl

theorem p44r2_5400 : PieceOk (V 44) q44r2 o44r2 44 2 (3994, 1, c44r2_5400) := .l (size := 53) (ss := [2, 3, 7, 8, 9]) (F := @o44r2_5400_in) (by kernel_rfl) (by kernel_rfl) fun R r K vs hh h => by
  unfold o44r2_5400_in at h; split at h
  · rw [rrr_walk_l5_unf] at h; unfold rrr_walk_l5_B at h; rw [← rrr_walk_l5_L_eq K NR] at h; exact h
  · cases h

theorem pc44r2 : ∀ x ∈ [(3994, 1, c44r2_5400)], PieceOk (V 44) q44r2 o44r2 44 2 x := List.forall_mem_cons.2 ⟨p44r2_5400, fun _ h => nomatch h⟩

noncomputable def o44r3_5400_in {R : Type} (K : Ex → St → Option R) (vs : List AV) (hh : H) : Option R := match vs, hh with
 | [AV.fn 45 [Ap 0 0, Ap 1 0, Ap 2 0], Ap 3 0, Ai v0, Ai v1, Ai v2], [HA [Ab v3], HA [Ai v4], HA [Ai v5], HA [Ai v6, Ai v7, Ai v8, Ai v9, Fu va, Ai vb, Fu vc, AV.fsl (Blk.ints .i64 vd), AV.fsl (Blk.ints .i64 ve)]] => rrr_walk_l5_1 v0 v1 v2 v3 v4 v5 v6 v7 v8 v9 va vb vc vd ve (fun vf vg vh => K (Ex.ret) (St.mk (spread 53 0 [] []) [HA [Ab vf], HA [Ai vg], HA [Ai vh]])) (fun vf vg vh => K (Ex.exit 0) (St.mk (spread 53 0 [] []) [HA [Ab vf], HA [Ai vg], HA [Ai vh]]))
 | _, _ => none

noncomputable def o44r3 : Nat → Option PSpec := lkN [(5400, fun st _ K => pickM 53 [2, 3, 7, 8, 9] st (o44r3_5400_in K))]
noncomputable def q44r3 : CallF := evFun (V 44) S47 T45 10

noncomputable def c44r3_5400 : Code := subC [1, 1, 1, 1, 0, 0] (bodyOf Tryz.f44)

noncomputable def lp44r3_5400 {R : Type} (N : Nat) (st : St) (K : Ex → St → Option R) : Option R := evLoop (norm ((V 44).keep 44 (Ev.keyOf c44r3_5400 * 1000 + 400)) 3) (evCode (V 44) q44r3 o44r3 44 3 3994 c44r3_5400) N st (kOut (V 44) 44 3 (Ev.keyOf c44r3_5400 * 1000 + 401) K)

theorem rrr_walk_l5_1_L_eq {R : Type} (K : Ex → St → Option R) : ∀ N : Nat, (fun (v0 v1 v2 : Int) (v3 : Bool) (v4 v5 v6 v7 v8 v9 : Int) (va : List Int) (vb : Int) (vc vd ve : List Int) => lp44r3_5400 N (St.mk (spread 53 0 [2, 3, 7, 8, 9] [AV.fn 45 [Ap 0 0, Ap 1 0, Ap 2 0], Ap 3 0, Ai v0, Ai v1, Ai v2]) [HA [Ab v3], HA [Ai v4], HA [Ai v5], HA [Ai v6, Ai v7, Ai v8, Ai v9, Fu va, Ai vb, Fu vc, AV.fsl (Blk.ints .i64 vd), AV.fsl (Blk.ints .i64 ve)]]) K) = rrr_walk_l5_1_L (fun vf vg vh => K (Ex.ret) (St.mk (spread 53 0 [] []) [HA [Ab vf], HA [Ai vg], HA [Ai vh]])) (fun vf vg vh => K (Ex.exit 0) (St.mk (spread 53 0 [] []) [HA [Ab vf], HA [Ai vg], HA [Ai vh]])) N
  | 0 => by funext v0 v1 v2 v3 v4 v5 v6 v7 v8 v9 va vb vc vd ve; rfl
  | N + 1 => by
    funext v0 v1 v2 v3 v4 v5 v6 v7 v8 v9 va vb vc vd ve
    simp only [rrr_walk_l5_1_L]
    rw [← rrr_walk_l5_1_L_eq K N]
    kernel_rfl

theorem p44r3_5400 : PieceOk (V 44) q44r3 o44r3 44 3 (3994, 1, c44r3_5400) := .l (size := 53) (ss := [2, 3, 7, 8, 9]) (F := @o44r3_5400_in) (by kernel_rfl) (by kernel_rfl) fun R r K vs hh h => by
  unfold o44r3_5400_in at h; split at h
  · rw [rrr_walk_l5_1_unf] at h; unfold rrr_walk_l5_1_B at h; rw [← rrr_walk_l5_1_L_eq K NR] at h; exact h
  · cases h

theorem pc44r3 : ∀ x ∈ [(3994, 1, c44r3_5400)], PieceOk (V 44) q44r3 o44r3 44 3 x := List.forall_mem_cons.2 ⟨p44r3_5400, fun _ h => nomatch h⟩

noncomputable def hs44 : HSpec := fun args h _ K => match args, h with
 | [AV.agg (Blk.any [Ai v0, Ai v1, Ai v2, Ai v3, Fu v4, Ai v5, Fu v6, AV.fsl (Blk.ints .i64 v7), AV.fsl (Blk.ints .i64 v8)]), Ai v9, AV.fn 67 [Ap 0 0, Ap 1 0]], [HA [Ai va], HA [Ai vb]] => rrr_walk_r v0 v1 v2 v3 v4 v5 v6 v7 v8 v9 va vb (fun vc vd => K (AV.tup []) ([HA [Ai vc], HA [Ai vd]]))
 | [AV.agg (Blk.any [Ai ve, Ai vf, Ai vg, Ai vh, Fu vi, Ai vj, Fu vk, AV.fsl (Blk.ints .i64 vl), AV.fsl (Blk.ints .i64 vm)]), Ai vn, AV.fn 45 [Ap 0 0, Ap 1 0, Ap 2 0]], [HA [Ab vo], HA [Ai vp], HA [Ai vq]] => rrr_walk_r_1 ve vf vg vh vi vj vk vl vm vn vo vp vq (fun vc vd vr => K (AV.tup []) ([HA [Ab vc], HA [Ai vd], HA [Ai vr]]))
 | _, _ => none
noncomputable def T44 := addT 44 hs44 T45
theorem D40 : Dom B0 V S47 T44 40 := Dom.t D39 fun args hh R K r h => by
 unfold hs44 at h; split at h
 · rw [rrr_walk_r_unf] at h; exact ⟨o44r2, (OrcOk.fn (fn0 := Tryz.f44) (by kernel_rfl) (by kernel_rfl) pc44r2), Eq.trans (by kernel_rfl) h⟩
 · rw [rrr_walk_r_1_unf] at h; exact ⟨o44r3, (OrcOk.fn (fn0 := Tryz.f44) (by kernel_rfl) (by kernel_rfl) pc44r3), Eq.trans (by kernel_rfl) h⟩
 · cases h

noncomputable def sp39 : Ev.Spec := fun args _ K => match args with
 | ([AV.agg (Blk.any [Ai v0, Ai v1, Ai v2, Ai v3, Fu v4, Ai v5, Fu v6, AV.fsl (Blk.ints .i64 v7), AV.fsl (Blk.ints .i64 v8)]), Ai v9]) => rrr_ones v0 v1 v2 v3 v4 v5 v6 v7 v8 v9 (fun va => K (Ai va))
 | _ => none
noncomputable def S39 := addS 39 sp39 S47
theorem D41 : Dom B0 V S39 T44 41 := Dom.s (m := 40) (n := 0) D40 D40 (O := (fun _ => none)) (fun _ _ _ _ => OrcOk.none _ _) fun args R K r h => by
 unfold sp39 at h; split at h
 · rw [rrr_ones_unf] at h; exact Eq.trans (by kernel_rfl) h
 · cases h

noncomputable def o12_6000_in {R : Type} (K : Ex → St → Option R) (vs : List AV) (hh : H) : Option R := match vs, hh with
 | [Ai v0, Ap 0 0], [HA [Ai v1, Ai v2, Ai v3, Ai v4, Fu v5, Ai v6, Fu v7, AV.fsl (Blk.ints .i64 v8), AV.fsl (Blk.ints .i64 v9)]] => rrr_Access_j6 v0 v1 v2 v3 v4 v5 v6 v7 v8 v9 (fun va vb => K (Ex.ret) (St.mk (spread 27 0 [4, 5] [Ab va, Ai vb]) []))
 | _, _ => none

noncomputable def o12 : Nat → Option PSpec := lkN [(6000, fun st _ K => pickM 27 [1, 2] st (o12_6000_in K))]
noncomputable def q12 : CallF := evFun (V 12) S39 T44 10

noncomputable def c12_6000 : Code := subC [1, 1] (bodyOf Tryz.f12)

theorem p12_6000 : PieceOk (V 12) q12 o12 12 0 (3998, 0, c12_6000) := .s (size := 27) (ss := [1, 2]) (F := @o12_6000_in) (by kernel_rfl) fun R r K vs hh h => by
  unfold o12_6000_in at h; split at h
  · rw [rrr_Access_j6_unf] at h; exact Eq.trans (by kernel_rfl) h
  · cases h

theorem pc12 : ∀ x ∈ [(3998, 0, c12_6000)], PieceOk (V 12) q12 o12 12 0 x := List.forall_mem_cons.2 ⟨p12_6000, fun _ h => nomatch h⟩

noncomputable def sp12 : Ev.Spec := fun args _ K => match args with
 | ([AV.agg (Blk.any [Ai v0, Ai v1, Ai v2, Ai v3, Fu v4, Ai v5, Fu v6, AV.fsl (Blk.ints .i64 v7), AV.fsl (Blk.ints .i64 v8)]), Ai v9]) => rrr_Access v0 v1 v2 v3 v4 v5 v6 v7 v8 v9 (fun va vb => K (AV.tup [Ab va, Ai vb]))
 | _ => none
noncomputable def S12 := addS 12 sp12 S39
theorem D42 : Dom B0 V S12 T44 42 := Dom.s (m := 41) (n := 0) D41 D41 (O := o12) (OrcOk.fn (fn0 := Tryz.f12) (by kernel_rfl) (by kernel_rfl) pc12) fun args R K r h => by
 unfold sp12 at h; split at h
 · rw [rrr_Access_unf] at h; exact Eq.trans (by kernel_rfl) h
 · cases h

noncomputable def sp42 : Ev.Spec := fun args _ K => match args with
 | ([AV.agg (Blk.any [Ai v0, Ai v1, Ai v2, Ai v3, Fu v4, Ai v5, Fu v6, AV.fsl (Blk.ints .i64 v7), AV.fsl (Blk.ints .i64 v8)]), Ab v9, Ai va]) => rrr_ahead v0 v1 v2 v3 v4 v5 v6 v7 v8 v9 va (fun vb => K (Ai vb))
 | _ => none
noncomputable def S42 := addS 42 sp42 S12
theorem D43 : Dom B0 V S42 T44 43 := Dom.s (m := 42) (n := 0) D42 D42 (O := (fun _ => none)) (fun _ _ _ _ => OrcOk.none _ _) fun args R K r h => by
 unfold sp42 at h; split at h
 · rw [rrr_ahead_unf] at h; exact Eq.trans (by kernel_rfl) h
 · cases h

noncomputable def o14_6000_in {R : Type} (K : Ex → St → Option R) (vs : List AV) (hh : H) : Option R := match vs, hh with
 | [Ab v0, Ai v1, Ap 0 0], [HA [Ai v2, Ai v3, Ai v4, Ai v5, Fu v6, Ai v7, Fu v8, AV.fsl (Blk.ints .i64 v9), AV.fsl (Blk.ints .i64 va)]] => rrr_Rank_j6 v0 v1 v2 v3 v4 v5 v6 v7 v8 v9 va (fun vb vc => K (Ex.ret) (St.mk (spread 25 0 [6, 7] [Ai vb, Ai vc]) []))
 | _, _ => none

noncomputable def o14 : Nat → Option PSpec := lkN [(6000, fun st _ K => pickM 25 [1, 2, 3] st (o14_6000_in K))]
noncomputable def q14 : CallF := evFun (V 14) S42 T44 10

noncomputable def c14_6000 : Code := subC [1, 1] (bodyOf Tryz.f14)

theorem p14_6000 : PieceOk (V 14) q14 o14 14 0 (3998, 0, c14_6000) := .s (size := 25) (ss := [1, 2, 3]) (F := @o14_6000_in) (by kernel_rfl) fun R r K vs hh h => by
  unfold o14_6000_in at h; split at h
  · rw [rrr_Rank_j6_unf] at h; exact Eq.trans (by kernel_rfl) h
  · cases h

theorem pc14 : ∀ x ∈ [(3998, 0, c14_6000)], PieceOk (V 14) q14 o14 14 0 x := List.forall_mem_cons.2 ⟨p14_6000, fun _ h => nomatch h⟩

noncomputable def sp14 : Ev.Spec := fun args _ K => match args with
 | ([AV.agg (Blk.any [Ai v0, Ai v1, Ai v2, Ai v3, Fu v4, Ai v5, Fu v6, AV.fsl (Blk.ints .i64 v7), AV.fsl (Blk.ints .i64 v8)]), Ab v9, Ai va]) => rrr_Rank v0 v1 v2 v3 v4 v5 v6 v7 v8 v9 va (fun vb vc => K (AV.tup [Ai vb, Ai vc]))
 | _ => none
noncomputable def S14 := addS 14 sp14 S42
theorem D44 : Dom B0 V S14 T44 44 := Dom.s (m := 43) (n := 0) D43 D43 (O := o14) (OrcOk.fn (fn0 := Tryz.f14) (by kernel_rfl) (by kernel_rfl) pc14) fun args R K r h => by
 unfold sp14 at h; split at h
 · rw [rrr_Rank_unf] at h; exact Eq.trans (by kernel_rfl) h
 · cases h

noncomputable def o16_6000_in {R : Type} (K : Ex → St → Option R) (vs : List AV) (hh : H) : Option R := match vs, hh with
 | [Ap 0 0, Ap 1 0, Ap 2 0], [HA [Ai v0, Ai v1, Ai v2, Ai v3, Fu v4, Ai v5, Fu v6, AV.fsl (Blk.ints .i64 v7), AV.fsl (Blk.ints .i64 v8)], HA [Ab v9], HA [Ai va]] => rrr_Select_j6 v0 v1 v2 v3 v4 v5 v6 v7 v8 v9 va (fun vb vc => K (Ex.ret) (St.mk (spread 51 0 [6, 7] [Ai vb, Ai vc]) []))
 | _, _ => none

noncomputable def o16_7400_in {R : Type} (K : Ex → St → Option R) (vs : List AV) (hh : H) : Option R := match vs, hh with
 | [Ap 0 0, Ap 1 0, Ap 2 0, Ai v0], [HA [Ai v1, Ai v2, Ai v3, Ai v4, Fu v5, Ai v6, Fu v7, AV.fsl (Blk.ints .i64 v8), AV.fsl (Blk.ints .i64 v9)], HA [Ab va], HA [Ai vb]] => rrr_Select_l7 v0 v1 v2 v3 v4 v5 v6 v7 v8 v9 va vb (fun vc vd ve vf vg vh vi vj vk vl vm vn => K (Ex.exit 1) (St.mk (spread 51 0 [3, 4, 5, 8] [Ap 0 0, Ap 1 0, Ap 2 0, Ai vc]) [HA [Ai vd, Ai ve, Ai vf, Ai vg, Fu vh, Ai vi, Fu vj, AV.fsl (Blk.ints .i64 vk), AV.fsl (Blk.ints .i64 vl)], HA [Ab vm], HA [Ai vn]]))
 | _, _ => none

noncomputable def o16 : Nat → Option PSpec := lkN [(6000, fun st _ K => pickM 51 [3, 4, 5] st (o16_6000_in K)), (7400, fun st _ K => pickM 51 [3, 4, 5, 8] st (o16_7400_in K))]
noncomputable def q16 : CallF := evFun (V 16) S14 T44 10

noncomputable def c16_6000 : Code := subC [1, 1] (bodyOf Tryz.f16)

noncomputable def c16_7400 : Code := subC [1, 1, 1, 0, 0, 0] (bodyOf Tryz.f16)

noncomputable def lp16_7400 {R : Type} (N : Nat) (st : St) (K : Ex → St → Option R) : Option R := evLoop (norm ((V 16).keep 16 (Ev.keyOf c16_7400 * 1000 + 400)) 0) (evCode (V 16) q16 o16 16 0 3994 c16_7400) N st (kOut (V 16) 16 0 (Ev.keyOf c16_7400 * 1000 + 401) K)

theorem rrr_Select_l7_L_eq {R : Type} (K : Ex → St → Option R) : ∀ N : Nat, (fun (v0 v1 v2 v3 v4 : Int) (v5 : List Int) (v6 : Int) (v7 v8 v9 : List Int) (va : Bool) (vb : Int) => lp16_7400 N (St.mk (spread 51 0 [3, 4, 5, 8] [Ap 0 0, Ap 1 0, Ap 2 0, Ai v0]) [HA [Ai v1, Ai v2, Ai v3, Ai v4, Fu v5, Ai v6, Fu v7, AV.fsl (Blk.ints .i64 v8), AV.fsl (Blk.ints .i64 v9)], HA [Ab va], HA [Ai vb]]) K) = rrr_Select_l7_L (fun vc vd ve vf vg vh vi vj vk vl vm vn => K (Ex.exit 1) (St.mk (spread 51 0 [3, 4, 5, 8] [Ap 0 0, Ap 1 0, Ap 2 0, Ai vc]) [HA [Ai vd, Ai ve, Ai vf, Ai vg, Fu vh, Ai vi, Fu vj, AV.fsl (Blk.ints .i64 vk), AV.fsl (Blk.ints .i64 vl)], HA [Ab vm], HA [Ai vn]])) N
  | 0 => by funext v0 v1 v2 v3 v4 v5 v6 v7 v8 v9 va vb; rfl
  | N + 1 => by
    funext v0 v1 v2 v3 v4 v5 v6 v7 v8 v9 va vb
    simp only [rrr_Select_l7_L]
    rw [← rrr_Select_l7_L_eq K N]
    kernel_rfl

theorem p16_6000 : PieceOk (V 16) q16 o16 16 0 (3998, 0, c16_6000) := .s (size := 51) (ss := [3, 4, 5]) (F := @o16_6000_in) (by kernel_rfl) fun R r K vs hh h => by
  unfold o16_6000_in at h; split at h
  · rw [rrr_Select_j6_unf] at h; exact Eq.trans (by kernel_rfl) h
  · cases h

theorem p16_7400 : PieceOk (V 16) q16 o16 16 0 (3994, 1, c16_7400) := .l (size := 51) (ss := [3, 4, 5, 8]) (F := @o16_7400_in) (by kernel_rfl) (by kernel_rfl) fun R r K vs hh h => by
  unfold o16_7400_in at h; split at h
  · rw [rrr_Select_l7_unf] at h; unfold rrr_Select_l7_B at h; rw [← rrr_Select_l7_L_eq K NR] at h; exact h
  · cases h

theorem pc16 : ∀ x ∈ [(3998, 0, c16_6000), (3994, 1, c16_7400)], PieceOk (V 16) q16 o16 16 0 x := List.forall_mem_cons.2 ⟨p16_6000, List.forall_mem_cons.2 ⟨p16_7400, fun _ h => nomatch h⟩⟩

noncomputable def sp16 : Ev.Spec := fun args _ K => match args with
 | ([AV.agg (Blk.any [Ai v0, Ai v1, Ai v2, Ai v3, Fu v4, Ai v5, Fu v6, AV.fsl (Blk.ints .i64 v7), AV.fsl (Blk.ints .i64 v8)]), Ab v9, Ai va]) => rrr_Select v0 v1 v2 v3 v4 v5 v6 v7 v8 v9 va (fun vb vc => K (AV.tup [Ai vb, Ai vc]))
 | _ => none
noncomputable def S16 := addS 16 sp16 S14
theorem D45 : Dom B0 V S16 T44 45 := Dom.s (m := 44) (n := 0) D44 D44 (O := o16) (OrcOk.fn (fn0 := Tryz.f16) (by kernel_rfl) (by kernel_rfl) pc16) fun args R K r h => by
 unfold sp16 at h; split at h
 · rw [rrr_Select_unf] at h; exact Eq.trans (by kernel_rfl) h
 · cases h

noncomputable def sp9 : Ev.Spec := fun args _ K => match args with
 | ([AV.agg (Blk.any [Ai v0, Ai v1, Ai v2, Ai v3, Fu v4, Ai v5, Fu v6, AV.fsl (Blk.ints .i64 v7), AV.fsl (Blk.ints .i64 v8)])]) => rrr_Size v0 v1 v2 v3 v4 v5 v6 v7 v8 (fun v9 => K (Ai v9))
 | _ => none
noncomputable def S9 := addS 9 sp9 S16
theorem D46 : Dom B0 V S9 T44 46 := Dom.s (m := 45) (n := 0) D45 D45 (O := (fun _ => none)) (fun _ _ _ _ => OrcOk.none _ _) fun args R K r h => by
 unfold sp9 at h; split at h
 · rw [rrr_Size_unf] at h; exact Eq.trans (by kernel_rfl) h
 · cases h

noncomputable def sp21 : Ev.Spec := fun args _ K => match args with
 | ([AV.agg (Blk.any [Ai v0, Ai v1, Ai v2, Ai v3, Fu v4, Ai v5, Fu v6, AV.fsl (Blk.ints .i64 v7), AV.fsl (Blk.ints .i64 v8)])]) => rrr_Bits v0 v1 v2 v3 v4 v5 v6 v7 v8 (fun v9 va => K (AV.agg (Blk.any [Ai v9, Fu va])))
 | _ => none
noncomputable def S21 := addS 21 sp21 S9
theorem D47 : Dom B0 V S21 T44 47 := Dom.s (m := 46) (n := 0) D46 D46 (O := (fun _ => none)) (fun _ _ _ _ => OrcOk.none _ _) fun args R K r h => by
 unfold sp21 at h; split at h
 · rw [rrr_Bits_unf] at h; exact Eq.trans (by kernel_rfl) h
 · cases h

noncomputable def o20_4000_in {R : Type} (K : Ex → St → Option R) (vs : List AV) (hh : H) : Option R := match vs, hh with
 | [Ap 0 0, Ap 1 0], [HA [Ai v0, Fu v1], HA [Ai v2, Fu v3]] => haystackref02_Same_j4 v0 v1 v2 v3 (fun v4 => K (Ex.ret) (St.mk (spread 38 0 [4] [Ab v4]) []))
 | _, _ => none

noncomputable def o20_5400_in {R : Type} (K : Ex → St → Option R) (vs : List AV) (hh : H) : Option R := match vs, hh with
 | [Ap 0 0, Ap 1 0, Ai v0], [HA [Ai v1, Fu v2], HA [Ai v3, Fu v4]] => haystackref02_Same_l5 v0 v1 v2 v3 v4 (fun v5 => K (Ex.ret) (St.mk (spread 38 0 [4] [Ab v5]) [])) (fun _ => K (Ex.exit 0) (St.mk (spread 38 0 [] []) []))
 | _, _ => none

noncomputable def o20 : Nat → Option PSpec := lkN [(4000, fun st _ K => pickM 38 [2, 3] st (o20_4000_in K)), (5400, fun st _ K => pickM 38 [2, 3, 5] st (o20_5400_in K))]
noncomputable def q20 : CallF := evFun (V 20) S21 T44 10

noncomputable def c20_4000 : Code := subC [1, 1] (bodyOf Tryz.f20)

noncomputable def c20_5400 : Code := subC [1, 1, 0, 1, 0, 0] (bodyOf Tryz.f20)

noncomputable def lp20_5400 {R : Type} (N : Nat) (st : St) (K : Ex → St → Option R) : Option R := evLoop (norm ((V 20).keep 20 (Ev.keyOf c20_5400 * 1000 + 400)) 0) (evCode (V 20) q20 o20 20 0 3994 c20_5400) N st (kOut (V 20) 20 0 (Ev.keyOf c20_5400 * 1000 + 401) K)

theorem haystackref02_Same_l5_L_eq {R : Type} (K : Ex → St → Option R) : ∀ N : Nat, (fun (v0 v1 : Int) (v2 : List Int) (v3 : Int) (v4 : List Int) => lp20_5400 N (St.mk (spread 38 0 [2, 3, 5] [Ap 0 0, Ap 1 0, Ai v0]) [HA [Ai v1, Fu v2], HA [Ai v3, Fu v4]]) K) = haystackref02_Same_l5_L (fun v5 => K (Ex.ret) (St.mk (spread 38 0 [4] [Ab v5]) [])) (fun _ => K (Ex.exit 0) (St.mk (spread 38 0 [] []) [])) N
  | 0 => by funext v0 v1 v2 v3 v4; rfl
  | N + 1 => by
    funext v0 v1 v2 v3 v4
    simp only [haystackref02_Same_l5_L]
    rw [← haystackref02_Same_l5_L_eq K N]
    kernel_rfl

theorem p20_4000 : PieceOk (V 20) q20 o20 20 0 (3998, 0, c20_4000) := .s (size := 38) (ss := [2, 3]) (F := @o20_4000_in) (by kernel_rfl) fun R r K vs hh h => by
  unfold o20_4000_in at h; split at h
  · rw [haystackref02_Same_j4_unf] at h; exact Eq.trans (by kernel_rfl) h
  · cases h

theorem p20_5400 : PieceOk (V 20) q20 o20 20 0 (3994, 1, c20_5400) := .l (size := 38) (ss := [2, 3, 5]) (F := @o20_5400_in) (by kernel_rfl) (by kernel_rfl) fun R r K vs hh h => by
  unfold o20_5400_in at h; split at h
  · rw [haystackref02_Same_l5_unf] at h; unfold haystackref02_Same_l5_B at h; rw [← haystackref02_Same_l5_L_eq K NR] at h; exact h
  · cases h

theorem pc20 : ∀ x ∈ [(3998, 0, c20_4000), (3994, 1, c20_5400)], PieceOk (V 20) q20 o20 20 0 x := List.forall_mem_cons.2 ⟨p20_4000, List.forall_mem_cons.2 ⟨p20_5400, fun _ h => nomatch h⟩⟩

noncomputable def sp20 : Ev.Spec := fun args _ K => match args with
 | ([AV.agg (Blk.any [Ai v0, Fu v1]), AV.agg (Blk.any [Ai v2, Fu v3])]) => haystackref02_Same v0 v1 v2 v3 (fun v4 => K (Ab v4))
 | _ => none
noncomputable def S20 := addS 20 sp20 S21
theorem D48 : Dom B0 V S20 T44 48 := Dom.s (m := 47) (n := 0) D47 D47 (O := o20) (OrcOk.fn (fn0 := Tryz.f20) (by kernel_rfl) (by kernel_rfl) pc20) fun args R K r h => by
 unfold sp20 at h; split at h
 · rw [haystackref02_Same_unf] at h; exact Eq.trans (by kernel_rfl) h
 · cases h

noncomputable def o5_4000_in {R : Type} (K : Ex → St → Option R) (vs : List AV) (hh : H) : Option R := match vs, hh with
 | [Ap 0 0, Ai v0, Ab v1, Ai v2], [HA [Ai v3, Ai v4, Ai v5, Ai v6, Fu v7, Ai v8, Fu v9, AV.fsl (Blk.ints .i64 va), AV.fsl (Blk.ints .i64 vb)]] => haystacklaw08_heads_j4 v0 v1 v2 v3 v4 v5 v6 v7 v8 v9 va vb (fun vc => K (Ex.ret) (St.mk (spread 108 0 [0] [Ab vc]) []))
 | _, _ => none

noncomputable def o5 : Nat → Option PSpec := lkN [(4000, fun st _ K => pickM 108 [1, 2, 3, 4] st (o5_4000_in K))]
noncomputable def q5 : CallF := evFun (V 5) S20 T44 10

noncomputable def c5_4000 : Code := subC [1, 1, 1] (bodyOf Tryz.f5)

theorem haystacklaw08_heads_j4_eq {R : Type} (K : Ex → St → Option R) (v0 : Int) (v1 : Bool) (v2 v3 v4 v5 v6 : Int) (v7 : List Int) (v8 : Int) (v9 va vb : List Int) : evCode (V 5) q5 o5 5 0 3997 c5_4000 (St.mk (spread 108 0 [1, 2, 3, 4] [Ap 0 0, Ai v0, Ab v1, Ai v2]) [HA [Ai v3, Ai v4, Ai v5, Ai v6, Fu v7, Ai v8, Fu v9, AV.fsl (Blk.ints .i64 va), AV.fsl (Blk.ints .i64 vb)]]) (kOut (V 5) 5 0 (Ev.keyOf c5_4000 * 1000 + 1) K) = haystacklaw08_heads_j4_B v0 v1 v2 v3 v4 v5 v6 v7 v8 v9 va vb (fun vc => K (Ex.ret) (St.mk (spread 108 0 [0] [Ab vc]) [])) := by kernel_rfl

theorem p5_4000 : PieceOk (V 5) q5 o5 5 0 (3997, 0, c5_4000) := .s (size := 108) (ss := [1, 2, 3, 4]) (F := @o5_4000_in) (by kernel_rfl) fun R r K vs hh h => by
  unfold o5_4000_in at h; split at h
  · rw [haystacklaw08_heads_j4_unf] at h; exact (haystacklaw08_heads_j4_eq K _ _ _ _ _ _ _ _ _ _ _ _).trans h
  · cases h

theorem pc5 : ∀ x ∈ [(3997, 0, c5_4000)], PieceOk (V 5) q5 o5 5 0 x := List.forall_mem_cons.2 ⟨p5_4000, fun _ h => nomatch h⟩

noncomputable def sp5 : Ev.Spec := fun args _ K => match args with
 | [] => haystacklaw08_heads (fun v0 => K (Ab v0))
 | _ => none
noncomputable def S5 := addS 5 sp5 S20
theorem D49 : Dom B0 V S5 T44 49 := Dom.s (m := 48) (n := 0) D48 D48 (O := o5) (OrcOk.fn (fn0 := Tryz.f5) (by kernel_rfl) (by kernel_rfl) pc5) fun args R K r h => by
 unfold sp5 at h; split at h
 · rw [haystacklaw08_heads_unf] at h; exact Eq.trans (by kernel_rfl) h
 · cases h

noncomputable def sp59 : Ev.Spec := fun args _ K => match args with
 | ([Ai v0]) => haystackref02_Words v0 (fun v1 => K (Ai v1))
 | _ => none
noncomputable def S59 := addS 59 sp59 S5
theorem D50 : Dom B0 V S59 T44 50 := Dom.s (m := 49) (n := 0) D49 D49 (O := (fun _ => none)) (fun _ _ _ _ => OrcOk.none _ _) fun args R K r h => by
 unfold sp59 at h; split at h
 · rw [haystackref02_Words_unf] at h; exact Eq.trans (by kernel_rfl) h
 · cases h

noncomputable def o60_4400_in {R : Type} (K : Ex → St → Option R) (vs : List AV) (hh : H) : Option R := match vs, hh with
 | [Ai v0, Au v1, Ai v2], [] => haystackref01_Mask_l4 v0 v1 v2 (fun v3 => K (Ex.exit 0) (St.mk (spread 20 0 [3] [Au v3]) []))
 | _, _ => none

noncomputable def o60_6000_in {R : Type} (K : Ex → St → Option R) (vs : List AV) (hh : H) : Option R := match vs, hh with
 | [Ai v0, Au v1, Ai v2], [] => haystackref01_Mask_j6 v0 v1 v2 (fun v3 v4 v5 => K (Ex.normal) (St.mk (spread 20 0 [0, 3, 4] [Ai v3, Au v4, Ai v5]) []))
 | _, _ => none

noncomputable def o60 : Nat → Option PSpec := lkN [(4400, fun st _ K => pickM 20 [0, 3, 4] st (o60_4400_in K)), (6000, fun st _ K => pickM 20 [0, 3, 4] st (o60_6000_in K))]
noncomputable def q60 : CallF := evFun (V 60) S59 T44 10

noncomputable def c60_4400 : Code := subC [1, 1, 0, 1, 0, 0] (bodyOf Tryz.f60)

noncomputable def lp60_4400 {R : Type} (N : Nat) (st : St) (K : Ex → St → Option R) : Option R := evLoop (norm ((V 60).keep 60 (Ev.keyOf c60_4400 * 1000 + 400)) 0) (evCode (V 60) q60 o60 60 0 3994 c60_4400) N st (kOut (V 60) 60 0 (Ev.keyOf c60_4400 * 1000 + 401) K)

noncomputable def c60_6000 : Code := subC [1, 1, 0, 1, 0, 0, 1] (bodyOf Tryz.f60)

theorem haystackref01_Mask_l4_L_eq {R : Type} (K : Ex → St → Option R) : ∀ N : Nat, (fun (v0 v1 v2 : Int) => lp60_4400 N (St.mk (spread 20 0 [0, 3, 4] [Ai v0, Au v1, Ai v2]) []) K) = haystackref01_Mask_l4_L (fun v3 => K (Ex.exit 0) (St.mk (spread 20 0 [3] [Au v3]) [])) N
  | 0 => by funext v0 v1 v2; rfl
  | N + 1 => by
    funext v0 v1 v2
    simp only [haystackref01_Mask_l4_L]
    rw [← haystackref01_Mask_l4_L_eq K N]
    kernel_rfl

theorem p60_4400 : PieceOk (V 60) q60 o60 60 0 (3994, 1, c60_4400) := .l (size := 20) (ss := [0, 3, 4]) (F := @o60_4400_in) (by kernel_rfl) (by kernel_rfl) fun R r K vs hh h => by
  unfold o60_4400_in at h; split at h
  · rw [haystackref01_Mask_l4_unf] at h; unfold haystackref01_Mask_l4_B at h; rw [← haystackref01_Mask_l4_L_eq K NR] at h; exact h
  · cases h

theorem p60_6000 : PieceOk (V 60) q60 o60 60 0 (3993, 0, c60_6000) := .s (size := 20) (ss := [0, 3, 4]) (F := @o60_6000_in) (by kernel_rfl) fun R r K vs hh h => by
  unfold o60_6000_in at h; split at h
  · rw [haystackref01_Mask_j6_unf] at h; exact Eq.trans (by kernel_rfl) h
  · cases h

theorem pc60 : ∀ x ∈ [(3994, 1, c60_4400), (3993, 0, c60_6000)], PieceOk (V 60) q60 o60 60 0 x := List.forall_mem_cons.2 ⟨p60_4400, List.forall_mem_cons.2 ⟨p60_6000, fun _ h => nomatch h⟩⟩

noncomputable def sp60 : Ev.Spec := fun args _ K => match args with
 | ([Ai v0]) => haystackref01_Mask v0 (fun v1 => K (Au v1))
 | _ => none
noncomputable def S60 := addS 60 sp60 S59
theorem D51 : Dom B0 V S60 T44 51 := Dom.s (m := 50) (n := 0) D50 D50 (O := o60) (OrcOk.fn (fn0 := Tryz.f60) (by kernel_rfl) (by kernel_rfl) pc60) fun args R K r h => by
 unfold sp60 at h; split at h
 · rw [haystackref01_Mask_unf] at h; exact Eq.trans (by kernel_rfl) h
 · cases h

noncomputable def o30_4000_in {R : Type} (K : Ex → St → Option R) (vs : List AV) (hh : H) : Option R := match vs, hh with
 | [Ap 0 0], [HA [Ai v0, Fu v1]] => haystackref02_Check_j4 v0 v1 (fun v2 => K (Ex.ret) (St.mk (spread 40 0 [2] [Ab v2]) []))
 | _, _ => none

noncomputable def o30 : Nat → Option PSpec := lkN [(4000, fun st _ K => pickM 40 [1] st (o30_4000_in K))]
noncomputable def q30 : CallF := evFun (V 30) S60 T44 10

noncomputable def c30_4000 : Code := subC [1, 1] (bodyOf Tryz.f30)

theorem p30_4000 : PieceOk (V 30) q30 o30 30 0 (3998, 0, c30_4000) := .s (size := 40) (ss := [1]) (F := @o30_4000_in) (by kernel_rfl) fun R r K vs hh h => by
  unfold o30_4000_in at h; split at h
  · rw [haystackref02_Check_j4_unf] at h; exact Eq.trans (by kernel_rfl) h
  · cases h

theorem pc30 : ∀ x ∈ [(3998, 0, c30_4000)], PieceOk (V 30) q30 o30 30 0 x := List.forall_mem_cons.2 ⟨p30_4000, fun _ h => nomatch h⟩

noncomputable def sp30 : Ev.Spec := fun args _ K => match args with
 | ([AV.agg (Blk.any [Ai v0, Fu v1])]) => haystackref02_Check v0 v1 (fun v2 => K (Ab v2))
 | _ => none
noncomputable def S30 := addS 30 sp30 S60
theorem D52 : Dom B0 V S30 T44 52 := Dom.s (m := 51) (n := 0) D51 D51 (O := o30) (OrcOk.fn (fn0 := Tryz.f30) (by kernel_rfl) (by kernel_rfl) pc30) fun args R K r h => by
 unfold sp30 at h; split at h
 · rw [haystackref02_Check_unf] at h; exact Eq.trans (by kernel_rfl) h
 · cases h

noncomputable def o65r0_3000_in {R : Type} (K : Ex → St → Option R) (vs : List AV) (hh : H) : Option R := match vs, hh with
 | [Ai v0, Ap 0 0, Ab v1], [HA [Ai v2, AV.esl]] => haystackref02_New_j3 v0 v1 v2 (fun v3 v4 => K (Ex.ret) (St.mk (spread 16 0 [2, 3] [Ap 0 0, Ai v3]) [HA [Ai v4, AV.esl]])) (fun v3 v4 => K (Ex.normal) (St.mk (spread 16 0 [0, 2] [Ai v3, Ap 0 0]) [HA [Ai v4, AV.esl]]))
 | _, _ => none

noncomputable def o65r0_4000_in {R : Type} (K : Ex → St → Option R) (vs : List AV) (hh : H) : Option R := match vs, hh with
 | [Ai v0, Ap 0 0], [HA [Ai v1, AV.esl]] => haystackref02_New_j4 v0 v1 (fun v2 v3 v4 v5 => K (Ex.ret) (St.mk (spread 16 0 [2, 3] [Ap 0 0, Ai v2]) [HA [Ai v3, AV.sl 1 0 v4 1], HU v5]))
 | _, _ => none

noncomputable def o65r0 : Nat → Option PSpec := lkN [(3000, fun st _ K => pickM 16 [0, 2, 9] st (o65r0_3000_in K)), (4000, fun st _ K => pickM 16 [0, 2] st (o65r0_4000_in K))]
noncomputable def q65r0 : CallF := evFun (V 65) S30 T44 10

noncomputable def c65r0_4000 : Code := subC [1, 1] (bodyOf Tryz.f65)

noncomputable def c65r0_3000 : Code := subC [1, 0, 1] (bodyOf Tryz.f65)

theorem p65r0_4000 : PieceOk (V 65) q65r0 o65r0 65 0 (3998, 0, c65r0_4000) := .s (size := 16) (ss := [0, 2]) (F := @o65r0_4000_in) (by kernel_rfl) fun R r K vs hh h => by
  unfold o65r0_4000_in at h; split at h
  · rw [haystackref02_New_j4_unf] at h; exact Eq.trans (by kernel_rfl) h
  · cases h

theorem p65r0_3000 : PieceOk (V 65) q65r0 o65r0 65 0 (3997, 0, c65r0_3000) := .s (size := 16) (ss := [0, 2, 9]) (F := @o65r0_3000_in) (by kernel_rfl) fun R r K vs hh h => by
  unfold o65r0_3000_in at h; split at h
  · rw [haystackref02_New_j3_unf] at h; exact Eq.trans (by kernel_rfl) h
  · cases h

theorem pc65r0 : ∀ x ∈ [(3998, 0, c65r0_4000), (3997, 0, c65r0_3000)], PieceOk (V 65) q65r0 o65r0 65 0 x := List.forall_mem_cons.2 ⟨p65r0_4000, List.forall_mem_cons.2 ⟨p65r0_3000, fun _ h => nomatch h⟩⟩

noncomputable def hs65 : HSpec := fun args h _ K => match args, h with
 | [Ai v0], [] => haystackref02_New_r v0 (fun v1 v2 => K (AV.tup [AV.agg (Blk.any [Ai v1, AV.esl]), Ai v2]) []) (fun v1 v2 v3 v4 => K (AV.tup [AV.agg (Blk.any [Ai v1, AV.sl 0 0 v2 1]), Ai v3]) ([HU v4]))
 | _, _ => none
noncomputable def T65 := addT 65 hs65 T44
theorem D53 : Dom B0 V S30 T65 53 := Dom.t D52 fun args hh R K r h => by
 unfold hs65 at h; split at h
 · rw [haystackref02_New_r_unf] at h; exact ⟨o65r0, (OrcOk.fn (fn0 := Tryz.f65) (by kernel_rfl) (by kernel_rfl) pc65r0), Eq.trans (by kernel_rfl) h⟩
 · cases h

noncomputable def sp66 : Ev.Spec := fun args _ K => match args with
 | ([Fu v0, Ai v1, Ab v2]) => haystackref02_put v0 v1 v2
 | _ => none
noncomputable def S66 := addS 66 sp66 S30
theorem D54 : Dom B0 V S66 T65 54 := Dom.s (m := 53) (n := 0) D53 D53 (O := (fun _ => none)) (fun _ _ _ _ => OrcOk.none _ _) fun args R K r h => by
 unfold sp66 at h; split at h
 · rw [haystackref02_put_unf] at h; exact Eq.trans (by kernel_rfl) h
 · cases h

theorem haystackref02_put_r_eq {R : Type} (K : AV → H → Option R) (v0 : Nat) (v1 : Int) (v2 : Bool) (v3 : List Int) : evH (V 66) S66 T65 (fun _ => none) 10 66 [AV.sl 0 0 v0 1, Ai v1, Ab v2] [HU v3] R K = haystackref02_put_r_B v0 v1 v2 v3 (fun v4 => K (AV.tup []) ([HU v4])) := by kernel_rfl

noncomputable def hs66 : HSpec := fun args h _ K => match args, h with
 | [AV.sl 0 0 v0 1, Ai v1, Ab v2], [HU v3] => haystackref02_put_r v0 v1 v2 v3 (fun v4 => K (AV.tup []) ([HU v4]))
 | _, _ => none
noncomputable def T66 := addT 66 hs66 T65
theorem D55 : Dom B0 V S66 T66 55 := Dom.t D54 fun args hh R K r h => by
 unfold hs66 at h; split at h
 · rw [haystackref02_put_r_unf] at h; exact ⟨(fun _ => none), (fun _ _ _ _ => OrcOk.none _ _), (haystackref02_put_r_eq K _ _ _ _).trans h⟩
 · cases h

noncomputable def o36_4400_in {R : Type} (K : Ex → St → Option R) (vs : List AV) (hh : H) : Option R := match vs, hh with
 | [AV.fsl (Blk.bools v0), Ap 0 0, Ap 1 0, Ai v1, Ai v2], [HA [Ai v3, AV.esl], HA [Ai v4, AV.esl]] => haystackref02_From_l4 v0 v1 v2 v3 v4 (fun v5 v6 v7 => K (Ex.exit 0) (St.mk (spread 29 0 [2, 4, 5] [Ap 0 0, Ap 1 0, Ai v5]) [HA [Ai v6, AV.esl], HA [Ai v7, AV.esl]]))
 | [AV.fsl (Blk.bools v8), Ap 0 0, Ap 1 0, Ai v9, Ai va], [HA [Ai vb, AV.esl], HA [Ai vc, AV.sl 2 0 vd 1], HU ve] => haystackref02_From_l4_1 v8 v9 va vb vc vd ve (fun v5 v6 v7 vf vg => K (Ex.exit 0) (St.mk (spread 29 0 [2, 4, 5] [Ap 0 0, Ap 1 0, Ai v5]) [HA [Ai v6, AV.esl], HA [Ai v7, AV.sl 2 0 vf 1], HU vg]))
 | _, _ => none

noncomputable def o36 : Nat → Option PSpec := lkN [(4400, fun st _ K => pickM 29 [0, 2, 4, 5, 6] st (o36_4400_in K))]
noncomputable def q36 : CallF := evFun (V 36) S66 T66 10

noncomputable def c36_4400 : Code := subC [1, 1, 0, 1, 0, 0] (bodyOf Tryz.f36)

noncomputable def lp36_4400 {R : Type} (N : Nat) (st : St) (K : Ex → St → Option R) : Option R := evLoop (norm ((V 36).keep 36 (Ev.keyOf c36_4400 * 1000 + 400)) 0) (evCode (V 36) q36 o36 36 0 3994 c36_4400) N st (kOut (V 36) 36 0 (Ev.keyOf c36_4400 * 1000 + 401) K)

theorem haystackref02_From_l4_L_eq {R : Type} (K : Ex → St → Option R) : ∀ N : Nat, (fun (v0 : List Bool) (v1 v2 v3 v4 : Int) => lp36_4400 N (St.mk (spread 29 0 [0, 2, 4, 5, 6] [AV.fsl (Blk.bools v0), Ap 0 0, Ap 1 0, Ai v1, Ai v2]) [HA [Ai v3, AV.esl], HA [Ai v4, AV.esl]]) K) = haystackref02_From_l4_L (fun v5 v6 v7 => K (Ex.exit 0) (St.mk (spread 29 0 [2, 4, 5] [Ap 0 0, Ap 1 0, Ai v5]) [HA [Ai v6, AV.esl], HA [Ai v7, AV.esl]])) N
  | 0 => by funext v0 v1 v2 v3 v4; rfl
  | N + 1 => by
    funext v0 v1 v2 v3 v4
    simp only [haystackref02_From_l4_L]
    rw [← haystackref02_From_l4_L_eq K N]
    kernel_rfl

theorem haystackref02_From_l4_1_L_eq {R : Type} (K : Ex → St → Option R) : ∀ N : Nat, (fun (v0 : List Bool) (v1 v2 v3 v4 : Int) (v5 : Nat) (v6 : List Int) => lp36_4400 N (St.mk (spread 29 0 [0, 2, 4, 5, 6] [AV.fsl (Blk.bools v0), Ap 0 0, Ap 1 0, Ai v1, Ai v2]) [HA [Ai v3, AV.esl], HA [Ai v4, AV.sl 2 0 v5 1], HU v6]) K) = haystackref02_From_l4_1_L (fun v7 v8 v9 va vb => K (Ex.exit 0) (St.mk (spread 29 0 [2, 4, 5] [Ap 0 0, Ap 1 0, Ai v7]) [HA [Ai v8, AV.esl], HA [Ai v9, AV.sl 2 0 va 1], HU vb])) N
  | 0 => by funext v0 v1 v2 v3 v4 v5 v6; rfl
  | N + 1 => by
    funext v0 v1 v2 v3 v4 v5 v6
    simp only [haystackref02_From_l4_1_L]
    rw [← haystackref02_From_l4_1_L_eq K N]
    kernel_rfl

theorem p36_4400 : PieceOk (V 36) q36 o36 36 0 (3994, 1, c36_4400) := .l (size := 29) (ss := [0, 2, 4, 5, 6]) (F := @o36_4400_in) (by kernel_rfl) (by kernel_rfl) fun R r K vs hh h => by
  unfold o36_4400_in at h; split at h
  · rw [haystackref02_From_l4_unf] at h; unfold haystackref02_From_l4_B at h; rw [← haystackref02_From_l4_L_eq K NR] at h; exact h
  · rw [haystackref02_From_l4_1_unf] at h; unfold haystackref02_From_l4_1_B at h; rw [← haystackref02_From_l4_1_L_eq K NR] at h; exact h
  · cases h

theorem pc36 : ∀ x ∈ [(3994, 1, c36_4400)], PieceOk (V 36) q36 o36 36 0 x := List.forall_mem_cons.2 ⟨p36_4400, fun _ h => nomatch h⟩

noncomputable def sp36 : Ev.Spec := fun args _ K => match args with
 | ([AV.fsl (Blk.bools v0)]) => haystackref02_From v0 (fun v1 v2 v3 => K (AV.tup [AV.agg (Blk.any [Ai v1, Fu v2]), Ai v3]))
 | _ => none
noncomputable def S36 := addS 36 sp36 S66
theorem D56 : Dom B0 V S36 T66 56 := Dom.s (m := 55) (n := 0) D55 D55 (O := o36) (OrcOk.fn (fn0 := Tryz.f36) (by kernel_rfl) (by kernel_rfl) pc36) fun args R K r h => by
 unfold sp36 at h; split at h
 · rw [haystackref02_From_unf] at h; exact Eq.trans (by kernel_rfl) h
 · cases h

noncomputable def o63_3400_in {R : Type} (K : Ex → St → Option R) (vs : List AV) (hh : H) : Option R := match vs, hh with
 | [Au v0, Ai v1], [] => haystackref01_Len_l3 v0 v1 (fun v2 => K (Ex.ret) (St.mk (spread 16 0 [2] [Ai v2]) [])) (fun _ => K (Ex.exit 0) (St.mk (spread 16 0 [] []) []))
 | _, _ => none

noncomputable def o63 : Nat → Option PSpec := lkN [(3400, fun st _ K => pickM 16 [0, 3] st (o63_3400_in K))]
noncomputable def q63 : CallF := evFun (V 63) S36 T66 10

noncomputable def c63_3400 : Code := subC [1, 0, 1, 0, 0] (bodyOf Tryz.f63)

noncomputable def lp63_3400 {R : Type} (N : Nat) (st : St) (K : Ex → St → Option R) : Option R := evLoop (norm ((V 63).keep 63 (Ev.keyOf c63_3400 * 1000 + 400)) 0) (evCode (V 63) q63 o63 63 0 3995 c63_3400) N st (kOut (V 63) 63 0 (Ev.keyOf c63_3400 * 1000 + 401) K)

theorem haystackref01_Len_l3_L_eq {R : Type} (K : Ex → St → Option R) : ∀ N : Nat, (fun (v0 v1 : Int) => lp63_3400 N (St.mk (spread 16 0 [0, 3] [Au v0, Ai v1]) []) K) = haystackref01_Len_l3_L (fun v2 => K (Ex.ret) (St.mk (spread 16 0 [2] [Ai v2]) [])) (fun _ => K (Ex.exit 0) (St.mk (spread 16 0 [] []) [])) N
  | 0 => by funext v0 v1; rfl
  | N + 1 => by
    funext v0 v1
    simp only [haystackref01_Len_l3_L]
    rw [← haystackref01_Len_l3_L_eq K N]
    kernel_rfl

theorem p63_3400 : PieceOk (V 63) q63 o63 63 0 (3995, 1, c63_3400) := .l (size := 16) (ss := [0, 3]) (F := @o63_3400_in) (by kernel_rfl) (by kernel_rfl) fun R r K vs hh h => by
  unfold o63_3400_in at h; split at h
  · rw [haystackref01_Len_l3_unf] at h; unfold haystackref01_Len_l3_B at h; rw [← haystackref01_Len_l3_L_eq K NR] at h; exact h
  · cases h

theorem pc63 : ∀ x ∈ [(3995, 1, c63_3400)], PieceOk (V 63) q63 o63 63 0 x := List.forall_mem_cons.2 ⟨p63_3400, fun _ h => nomatch h⟩

noncomputable def sp63 : Ev.Spec := fun args _ K => match args with
 | ([Au v0]) => haystackref01_Len v0 (fun v1 => K (Ai v1))
 | _ => none
noncomputable def S63 := addS 63 sp63 S36
theorem D57 : Dom B0 V S63 T66 57 := Dom.s (m := 56) (n := 0) D56 D56 (O := o63) (OrcOk.fn (fn0 := Tryz.f63) (by kernel_rfl) (by kernel_rfl) pc63) fun args R K r h => by
 unfold sp63 at h; split at h
 · rw [haystackref01_Len_unf] at h; exact Eq.trans (by kernel_rfl) h
 · cases h

noncomputable def sp64 : Ev.Spec := fun args _ K => match args with
 | ([Au v0, Ai v1]) => haystackref03_fits v0 v1 (fun v2 => K (Ab v2))
 | _ => none
noncomputable def S64 := addS 64 sp64 S63
theorem D58 : Dom B0 V S64 T66 58 := Dom.s (m := 57) (n := 0) D57 D57 (O := (fun _ => none)) (fun _ _ _ _ => OrcOk.none _ _) fun args R K r h => by
 unfold sp64 at h; split at h
 · rw [haystackref03_fits_unf] at h; exact Eq.trans (by kernel_rfl) h
 · cases h

noncomputable def o35_3000_in {R : Type} (K : Ex → St → Option R) (vs : List AV) (hh : H) : Option R := match vs, hh with
 | [Ai v0, Fu v1, Ap 0 0, Ab v2], [HA [Ai v3, Ai v4, Ai v5, AV.esl]] => haystackref03_Make_j3 v0 v1 v2 v3 v4 v5 (fun v6 v7 v8 v9 => K (Ex.ret) (St.mk (spread 71 0 [4, 5] [Ap 0 0, Ai v6]) [HA [Ai v7, Ai v8, Ai v9, AV.esl]])) (fun v6 v7 v8 v9 va => K (Ex.normal) (St.mk (spread 71 0 [0, 1, 4] [Ai v6, Fu v7, Ap 0 0]) [HA [Ai v8, Ai v9, Ai va, AV.esl]]))
 | _, _ => none

noncomputable def o35_4000_in {R : Type} (K : Ex → St → Option R) (vs : List AV) (hh : H) : Option R := match vs, hh with
 | [Ai v0, Fu v1, Ap 0 0], [HA [Ai v2, Ai v3, Ai v4, AV.esl]] => haystackref03_Make_j4 v0 v1 v2 v3 v4 (fun v5 v6 v7 v8 => K (Ex.ret) (St.mk (spread 71 0 [4, 5] [Ap 0 0, Ai v5]) [HA [Ai v6, Ai v7, Ai v8, AV.esl]])) (fun v5 v6 v7 v8 v9 => K (Ex.ret) (St.mk (spread 71 0 [4, 5] [Ap 0 0, Ai v5]) [HA [Ai v6, Ai v7, Ai v8, Fu v9]]))
 | _, _ => none

noncomputable def o35_6400_in {R : Type} (K : Ex → St → Option R) (vs : List AV) (hh : H) : Option R := match vs, hh with
 | [Ai v0, Fu v1, Ap 0 0, AV.sl 1 0 v2 1, Ai v3], [HA [Ai v4, Ai v5, Ai v6, AV.esl], HO v7] => haystackref03_Make_l6 v0 v1 v2 v3 v4 v5 v6 v7 (fun v8 v9 va vb => K (Ex.ret) (St.mk (spread 71 0 [4, 5] [Ap 0 0, Ai v8]) [HA [Ai v9, Ai va, Ai vb, AV.esl]])) (fun v8 v9 va vb vc vd ve => K (Ex.exit 0) (St.mk (spread 71 0 [0, 1, 4, 6] [Ai v8, Fu v9, Ap 0 0, AV.sl 1 0 va 1]) [HA [Ai vb, Ai vc, Ai vd, AV.esl], HO ve]))
 | _, _ => none

noncomputable def o35_11400_in {R : Type} (K : Ex → St → Option R) (vs : List AV) (hh : H) : Option R := match vs, hh with
 | [Ai v0, Fu v1, Ap 0 0, AV.sl 1 0 v2 1, Ai v3, Ai v4], [HA [Ai v5, Ai v6, Ai v7, AV.esl], HO v8] => haystackref03_Make_l11 v0 v1 v2 v3 v4 v5 v6 v7 v8 (fun v9 va vb vc vd ve vf vg => K (Ex.exit 2) (St.mk (spread 71 0 [0, 1, 4, 6, 7] [Ai v9, Fu va, Ap 0 0, AV.sl 1 0 vb 1, Ai vc]) [HA [Ai vd, Ai ve, Ai vf, AV.esl], HO vg]))
 | _, _ => none

noncomputable def o35 : Nat → Option PSpec := lkN [(3000, fun st _ K => pickM 71 [0, 1, 4, 28] st (o35_3000_in K)), (4000, fun st _ K => pickM 71 [0, 1, 4] st (o35_4000_in K)), (6400, fun st _ K => pickM 71 [0, 1, 4, 6, 7] st (o35_6400_in K)), (11400, fun st _ K => pickM 71 [0, 1, 4, 6, 7, 8] st (o35_11400_in K))]
noncomputable def q35 : CallF := evFun (V 35) S64 T66 10

noncomputable def c35_4000 : Code := subC [1, 1] (bodyOf Tryz.f35)

noncomputable def c35_3000 : Code := subC [1, 0, 1] (bodyOf Tryz.f35)

noncomputable def c35_6400 : Code := subC [1, 1, 1, 0, 1, 0, 0] (bodyOf Tryz.f35)

noncomputable def lp35_6400 {R : Type} (N : Nat) (st : St) (K : Ex → St → Option R) : Option R := evLoop (norm ((V 35).keep 35 (Ev.keyOf c35_6400 * 1000 + 400)) 0) (evCode (V 35) q35 o35 35 0 3993 c35_6400) N st (kOut (V 35) 35 0 (Ev.keyOf c35_6400 * 1000 + 401) K)

noncomputable def c35_11400 : Code := subC [1, 1, 1, 0, 1, 0, 0, 1, 0, 0, 1, 1, 0, 0] (bodyOf Tryz.f35)

noncomputable def lp35_11400 {R : Type} (N : Nat) (st : St) (K : Ex → St → Option R) : Option R := evLoop (norm ((V 35).keep 35 (Ev.keyOf c35_11400 * 1000 + 400)) 0) (evCode (V 35) q35 o35 35 0 3986 c35_11400) N st (kOut (V 35) 35 0 (Ev.keyOf c35_11400 * 1000 + 401) K)

theorem haystackref03_Make_l11_L_eq {R : Type} (K : Ex → St → Option R) : ∀ N : Nat, (fun (v0 : Int) (v1 : List Int) (v2 : Nat) (v3 v4 v5 v6 v7 : Int) (v8 : List Bool) => lp35_11400 N (St.mk (spread 71 0 [0, 1, 4, 6, 7, 8] [Ai v0, Fu v1, Ap 0 0, AV.sl 1 0 v2 1, Ai v3, Ai v4]) [HA [Ai v5, Ai v6, Ai v7, AV.esl], HO v8]) K) = haystackref03_Make_l11_L (fun v9 va vb vc vd ve vf vg => K (Ex.exit 2) (St.mk (spread 71 0 [0, 1, 4, 6, 7] [Ai v9, Fu va, Ap 0 0, AV.sl 1 0 vb 1, Ai vc]) [HA [Ai vd, Ai ve, Ai vf, AV.esl], HO vg])) N
  | 0 => by funext v0 v1 v2 v3 v4 v5 v6 v7 v8; rfl
  | N + 1 => by
    funext v0 v1 v2 v3 v4 v5 v6 v7 v8
    simp only [haystackref03_Make_l11_L]
    rw [← haystackref03_Make_l11_L_eq K N]
    kernel_rfl

theorem haystackref03_Make_l6_L_eq {R : Type} (K : Ex → St → Option R) : ∀ N : Nat, (fun (v0 : Int) (v1 : List Int) (v2 : Nat) (v3 v4 v5 v6 : Int) (v7 : List Bool) => lp35_6400 N (St.mk (spread 71 0 [0, 1, 4, 6, 7] [Ai v0, Fu v1, Ap 0 0, AV.sl 1 0 v2 1, Ai v3]) [HA [Ai v4, Ai v5, Ai v6, AV.esl], HO v7]) K) = haystackref03_Make_l6_L (fun v8 v9 va vb => K (Ex.ret) (St.mk (spread 71 0 [4, 5] [Ap 0 0, Ai v8]) [HA [Ai v9, Ai va, Ai vb, AV.esl]])) (fun v8 v9 va vb vc vd ve => K (Ex.exit 0) (St.mk (spread 71 0 [0, 1, 4, 6] [Ai v8, Fu v9, Ap 0 0, AV.sl 1 0 va 1]) [HA [Ai vb, Ai vc, Ai vd, AV.esl], HO ve])) N
  | 0 => by funext v0 v1 v2 v3 v4 v5 v6 v7; rfl
  | N + 1 => by
    funext v0 v1 v2 v3 v4 v5 v6 v7
    simp only [haystackref03_Make_l6_L]
    rw [← haystackref03_Make_l6_L_eq K N]
    kernel_rfl

theorem p35_4000 : PieceOk (V 35) q35 o35 35 0 (3998, 0, c35_4000) := .s (size := 71) (ss := [0, 1, 4]) (F := @o35_4000_in) (by kernel_rfl) fun R r K vs hh h => by
  unfold o35_4000_in at h; split at h
  · rw [haystackref03_Make_j4_unf] at h; exact Eq.trans (by kernel_rfl) h
  · cases h

theorem p35_3000 : PieceOk (V 35) q35 o35 35 0 (3997, 0, c35_3000) := .s (size := 71) (ss := [0, 1, 4, 28]) (F := @o35_3000_in) (by kernel_rfl) fun R r K vs hh h => by
  unfold o35_3000_in at h; split at h
  · rw [haystackref03_Make_j3_unf] at h; exact Eq.trans (by kernel_rfl) h
  · cases h

theorem p35_6400 : PieceOk (V 35) q35 o35 35 0 (3993, 1, c35_6400) := .l (size := 71) (ss := [0, 1, 4, 6, 7]) (F := @o35_6400_in) (by kernel_rfl) (by kernel_rfl) fun R r K vs hh h => by
  unfold o35_6400_in at h; split at h
  · rw [haystackref03_Make_l6_unf] at h; unfold haystackref03_Make_l6_B at h; rw [← haystackref03_Make_l6_L_eq K NR] at h; exact h
  · cases h

theorem p35_11400 : PieceOk (V 35) q35 o35 35 0 (3986, 1, c35_11400) := .l (size := 71) (ss := [0, 1, 4, 6, 7, 8]) (F := @o35_11400_in) (by kernel_rfl) (by kernel_rfl) fun R r K vs hh h => by
  unfold o35_11400_in at h; split at h
  · rw [haystackref03_Make_l11_unf] at h; unfold haystackref03_Make_l11_B at h; rw [← haystackref03_Make_l11_L_eq K NR] at h; exact h
  · cases h

theorem pc35 : ∀ x ∈ [(3998, 0, c35_4000), (3997, 0, c35_3000), (3993, 1, c35_6400), (3986, 1, c35_11400)], PieceOk (V 35) q35 o35 35 0 x := List.forall_mem_cons.2 ⟨p35_4000, List.forall_mem_cons.2 ⟨p35_3000, List.forall_mem_cons.2 ⟨p35_6400, List.forall_mem_cons.2 ⟨p35_11400, fun _ h => nomatch h⟩⟩⟩⟩

theorem haystackref03_Make_eq {R : Type} (K : AV → Option R) (v0 : Int) (v1 : List Int) : evSpec (V 35) S64 T66 o35 10 35 ([Ai v0, Fu v1]) R K = haystackref03_Make_B v0 v1 (fun v2 v3 v4 v5 v6 => K (AV.tup [AV.agg (Blk.any [Ai v2, Ai v3, Ai v4, Fu v5]), Ai v6])) := by kernel_rfl

noncomputable def sp35 : Ev.Spec := fun args _ K => match args with
 | ([Ai v0, Fu v1]) => haystackref03_Make v0 v1 (fun v2 v3 v4 v5 v6 => K (AV.tup [AV.agg (Blk.any [Ai v2, Ai v3, Ai v4, Fu v5]), Ai v6]))
 | _ => none
noncomputable def S35 := addS 35 sp35 S64
theorem D59 : Dom B0 V S35 T66 59 := Dom.s (m := 58) (n := 0) D58 D58 (O := o35) (OrcOk.fn (fn0 := Tryz.f35) (by kernel_rfl) (by kernel_rfl) pc35) fun args R K r h => by
 unfold sp35 at h; split at h
 · rw [haystackref03_Make_unf] at h; exact (haystackref03_Make_eq K _ _).trans h
 · cases h

noncomputable def sp49 : Ev.Spec := fun args _ K => match args with
 | ([AV.agg (Blk.any [Ai v0, Fu v1]), Ai v2]) => haystackref02_At v0 v1 v2 (fun v3 => K (Ab v3))
 | _ => none
noncomputable def S49 := addS 49 sp49 S35
theorem D60 : Dom B0 V S49 T66 60 := Dom.s (m := 59) (n := 0) D59 D59 (O := (fun _ => none)) (fun _ _ _ _ => OrcOk.none _ _) fun args R K r h => by
 unfold sp49 at h; split at h
 · rw [haystackref02_At_unf] at h; exact Eq.trans (by kernel_rfl) h
 · cases h

noncomputable def o32_4400_in {R : Type} (K : Ex → St → Option R) (vs : List AV) (hh : H) : Option R := match vs, hh with
 | [Ai v0, Ap 0 0, Au v1, Ai v2], [HA [Ai v3, Fu v4]] => haystackref08_block_l4 v0 v1 v2 v3 v4 (fun v5 => K (Ex.exit 0) (St.mk (spread 30 0 [5] [Au v5]) []))
 | _, _ => none

noncomputable def o32_6000_in {R : Type} (K : Ex → St → Option R) (vs : List AV) (hh : H) : Option R := match vs, hh with
 | [Ai v0, Ap 0 0, Au v1, Ai v2], [HA [Ai v3, Fu v4]] => haystackref08_block_j6 v0 v1 v2 v3 v4 (fun v5 v6 v7 v8 v9 => K (Ex.normal) (St.mk (spread 30 0 [1, 2, 5, 6] [Ai v5, Ap 0 0, Au v6, Ai v7]) [HA [Ai v8, Fu v9]]))
 | _, _ => none

noncomputable def o32 : Nat → Option PSpec := lkN [(4400, fun st _ K => pickM 30 [1, 2, 5, 6] st (o32_4400_in K)), (6000, fun st _ K => pickM 30 [1, 2, 5, 6] st (o32_6000_in K))]
noncomputable def q32 : CallF := evFun (V 32) S49 T66 10

noncomputable def c32_4400 : Code := subC [1, 1, 0, 1, 0, 0] (bodyOf Tryz.f32)

noncomputable def lp32_4400 {R : Type} (N : Nat) (st : St) (K : Ex → St → Option R) : Option R := evLoop (norm ((V 32).keep 32 (Ev.keyOf c32_4400 * 1000 + 400)) 0) (evCode (V 32) q32 o32 32 0 3994 c32_4400) N st (kOut (V 32) 32 0 (Ev.keyOf c32_4400 * 1000 + 401) K)

noncomputable def c32_6000 : Code := subC [1, 1, 0, 1, 0, 0, 1] (bodyOf Tryz.f32)

theorem haystackref08_block_l4_L_eq {R : Type} (K : Ex → St → Option R) : ∀ N : Nat, (fun (v0 v1 v2 v3 : Int) (v4 : List Int) => lp32_4400 N (St.mk (spread 30 0 [1, 2, 5, 6] [Ai v0, Ap 0 0, Au v1, Ai v2]) [HA [Ai v3, Fu v4]]) K) = haystackref08_block_l4_L (fun v5 => K (Ex.exit 0) (St.mk (spread 30 0 [5] [Au v5]) [])) N
  | 0 => by funext v0 v1 v2 v3 v4; rfl
  | N + 1 => by
    funext v0 v1 v2 v3 v4
    simp only [haystackref08_block_l4_L]
    rw [← haystackref08_block_l4_L_eq K N]
    kernel_rfl

theorem p32_4400 : PieceOk (V 32) q32 o32 32 0 (3994, 1, c32_4400) := .l (size := 30) (ss := [1, 2, 5, 6]) (F := @o32_4400_in) (by kernel_rfl) (by kernel_rfl) fun R r K vs hh h => by
  unfold o32_4400_in at h; split at h
  · rw [haystackref08_block_l4_unf] at h; unfold haystackref08_block_l4_B at h; rw [← haystackref08_block_l4_L_eq K NR] at h; exact h
  · cases h

theorem p32_6000 : PieceOk (V 32) q32 o32 32 0 (3993, 0, c32_6000) := .s (size := 30) (ss := [1, 2, 5, 6]) (F := @o32_6000_in) (by kernel_rfl) fun R r K vs hh h => by
  unfold o32_6000_in at h; split at h
  · rw [haystackref08_block_j6_unf] at h; exact Eq.trans (by kernel_rfl) h
  · cases h

theorem pc32 : ∀ x ∈ [(3994, 1, c32_4400), (3993, 0, c32_6000)], PieceOk (V 32) q32 o32 32 0 x := List.forall_mem_cons.2 ⟨p32_4400, List.forall_mem_cons.2 ⟨p32_6000, fun _ h => nomatch h⟩⟩

noncomputable def sp32 : Ev.Spec := fun args _ K => match args with
 | ([AV.agg (Blk.any [Ai v0, Fu v1]), Ai v2]) => haystackref08_block v0 v1 v2 (fun v3 => K (Au v3))
 | _ => none
noncomputable def S32 := addS 32 sp32 S49
theorem D61 : Dom B0 V S32 T66 61 := Dom.s (m := 60) (n := 0) D60 D60 (O := o32) (OrcOk.fn (fn0 := Tryz.f32) (by kernel_rfl) (by kernel_rfl) pc32) fun args R K r h => by
 unfold sp32 at h; split at h
 · rw [haystackref08_block_unf] at h; exact Eq.trans (by kernel_rfl) h
 · cases h

noncomputable def o61_4400_in {R : Type} (K : Ex → St → Option R) (vs : List AV) (hh : H) : Option R := match vs, hh with
 | [Au v0, Ai v1, Ai v2, Ai v3], [] => haystackref01_Rank_l4 v0 v1 v2 v3 (fun v4 => K (Ex.exit 0) (St.mk (spread 25 0 [5] [Ai v4]) []))
 | _, _ => none

noncomputable def o61_6000_in {R : Type} (K : Ex → St → Option R) (vs : List AV) (hh : H) : Option R := match vs, hh with
 | [Au v0, Ai v1, Ai v2, Ai v3], [] => haystackref01_Rank_j6 v0 v1 v2 v3 (fun v4 v5 v6 v7 => K (Ex.normal) (St.mk (spread 25 0 [0, 1, 5, 6] [Au v4, Ai v5, Ai v6, Ai v7]) []))
 | _, _ => none

noncomputable def o61 : Nat → Option PSpec := lkN [(4400, fun st _ K => pickM 25 [0, 1, 5, 6] st (o61_4400_in K)), (6000, fun st _ K => pickM 25 [0, 1, 5, 6] st (o61_6000_in K))]
noncomputable def q61 : CallF := evFun (V 61) S32 T66 10

noncomputable def c61_4400 : Code := subC [1, 1, 0, 1, 0, 0] (bodyOf Tryz.f61)

noncomputable def lp61_4400 {R : Type} (N : Nat) (st : St) (K : Ex → St → Option R) : Option R := evLoop (norm ((V 61).keep 61 (Ev.keyOf c61_4400 * 1000 + 400)) 0) (evCode (V 61) q61 o61 61 0 3994 c61_4400) N st (kOut (V 61) 61 0 (Ev.keyOf c61_4400 * 1000 + 401) K)

noncomputable def c61_6000 : Code := subC [1, 1, 0, 1, 0, 0, 1] (bodyOf Tryz.f61)

theorem haystackref01_Rank_l4_L_eq {R : Type} (K : Ex → St → Option R) : ∀ N : Nat, (fun (v0 v1 v2 v3 : Int) => lp61_4400 N (St.mk (spread 25 0 [0, 1, 5, 6] [Au v0, Ai v1, Ai v2, Ai v3]) []) K) = haystackref01_Rank_l4_L (fun v4 => K (Ex.exit 0) (St.mk (spread 25 0 [5] [Ai v4]) [])) N
  | 0 => by funext v0 v1 v2 v3; rfl
  | N + 1 => by
    funext v0 v1 v2 v3
    simp only [haystackref01_Rank_l4_L]
    rw [← haystackref01_Rank_l4_L_eq K N]
    kernel_rfl

theorem p61_4400 : PieceOk (V 61) q61 o61 61 0 (3994, 1, c61_4400) := .l (size := 25) (ss := [0, 1, 5, 6]) (F := @o61_4400_in) (by kernel_rfl) (by kernel_rfl) fun R r K vs hh h => by
  unfold o61_4400_in at h; split at h
  · rw [haystackref01_Rank_l4_unf] at h; unfold haystackref01_Rank_l4_B at h; rw [← haystackref01_Rank_l4_L_eq K NR] at h; exact h
  · cases h

theorem p61_6000 : PieceOk (V 61) q61 o61 61 0 (3993, 0, c61_6000) := .s (size := 25) (ss := [0, 1, 5, 6]) (F := @o61_6000_in) (by kernel_rfl) fun R r K vs hh h => by
  unfold o61_6000_in at h; split at h
  · rw [haystackref01_Rank_j6_unf] at h; exact Eq.trans (by kernel_rfl) h
  · cases h

theorem pc61 : ∀ x ∈ [(3994, 1, c61_4400), (3993, 0, c61_6000)], PieceOk (V 61) q61 o61 61 0 x := List.forall_mem_cons.2 ⟨p61_4400, List.forall_mem_cons.2 ⟨p61_6000, fun _ h => nomatch h⟩⟩

noncomputable def sp61 : Ev.Spec := fun args _ K => match args with
 | ([Au v0, Ai v1]) => haystackref01_Rank v0 v1 (fun v2 => K (Ai v2))
 | _ => none
noncomputable def S61 := addS 61 sp61 S32
theorem D62 : Dom B0 V S61 T66 62 := Dom.s (m := 61) (n := 0) D61 D61 (O := o61) (OrcOk.fn (fn0 := Tryz.f61) (by kernel_rfl) (by kernel_rfl) pc61) fun args R K r h => by
 unfold sp61 at h; split at h
 · rw [haystackref01_Rank_unf] at h; exact Eq.trans (by kernel_rfl) h
 · cases h

noncomputable def o62_4000_in {R : Type} (K : Ex → St → Option R) (vs : List AV) (hh : H) : Option R := match vs, hh with
 | [Ai v0, Ai v1], [] => haystackref06_Choose_j4 v0 v1 (fun v2 => K (Ex.ret) (St.mk (spread 55 0 [4] [Au v2]) []))
 | _, _ => none

noncomputable def o62_7400_in {R : Type} (K : Ex → St → Option R) (vs : List AV) (hh : H) : Option R := match vs, hh with
 | [Ai v0, Ai v1, AV.sl 0 0 v2 1, Ai v3], [HU v4] => haystackref06_Choose_l7 v0 v1 v2 v3 v4 (fun v5 v6 v7 => K (Ex.exit 0) (St.mk (spread 55 0 [1, 5] [Ai v5, AV.sl 0 0 v6 1]) [HU v7]))
 | _, _ => none

noncomputable def o62_10400_in {R : Type} (K : Ex → St → Option R) (vs : List AV) (hh : H) : Option R := match vs, hh with
 | [Ai v0, Ai v1, AV.sl 0 0 v2 1, Ai v3, Ai v4], [HU v5] => haystackref06_Choose_l10 v0 v1 v2 v3 v4 v5 (fun v6 v7 v8 v9 va => K (Ex.exit 2) (St.mk (spread 55 0 [0, 1, 5, 6] [Ai v6, Ai v7, AV.sl 0 0 v8 1, Ai v9]) [HU va]))
 | _, _ => none

noncomputable def o62 : Nat → Option PSpec := lkN [(4000, fun st _ K => pickM 55 [0, 1] st (o62_4000_in K)), (7400, fun st _ K => pickM 55 [0, 1, 5, 6] st (o62_7400_in K)), (10400, fun st _ K => pickM 55 [0, 1, 5, 6, 7] st (o62_10400_in K))]
noncomputable def q62 : CallF := evFun (V 62) S61 T66 10

noncomputable def c62_4000 : Code := subC [1, 1] (bodyOf Tryz.f62)

noncomputable def c62_7400 : Code := subC [1, 1, 1, 1, 0, 1, 0, 0] (bodyOf Tryz.f62)

noncomputable def lp62_7400 {R : Type} (N : Nat) (st : St) (K : Ex → St → Option R) : Option R := evLoop (norm ((V 62).keep 62 (Ev.keyOf c62_7400 * 1000 + 400)) 0) (evCode (V 62) q62 o62 62 0 3992 c62_7400) N st (kOut (V 62) 62 0 (Ev.keyOf c62_7400 * 1000 + 401) K)

noncomputable def c62_10400 : Code := subC [1, 1, 1, 1, 0, 1, 0, 0, 1, 0, 0, 1, 0, 0] (bodyOf Tryz.f62)

noncomputable def lp62_10400 {R : Type} (N : Nat) (st : St) (K : Ex → St → Option R) : Option R := evLoop (norm ((V 62).keep 62 (Ev.keyOf c62_10400 * 1000 + 400)) 0) (evCode (V 62) q62 o62 62 0 3986 c62_10400) N st (kOut (V 62) 62 0 (Ev.keyOf c62_10400 * 1000 + 401) K)

theorem haystackref06_Choose_l10_L_eq {R : Type} (K : Ex → St → Option R) : ∀ N : Nat, (fun (v0 v1 : Int) (v2 : Nat) (v3 v4 : Int) (v5 : List Int) => lp62_10400 N (St.mk (spread 55 0 [0, 1, 5, 6, 7] [Ai v0, Ai v1, AV.sl 0 0 v2 1, Ai v3, Ai v4]) [HU v5]) K) = haystackref06_Choose_l10_L (fun v6 v7 v8 v9 va => K (Ex.exit 2) (St.mk (spread 55 0 [0, 1, 5, 6] [Ai v6, Ai v7, AV.sl 0 0 v8 1, Ai v9]) [HU va])) N
  | 0 => by funext v0 v1 v2 v3 v4 v5; rfl
  | N + 1 => by
    funext v0 v1 v2 v3 v4 v5
    simp only [haystackref06_Choose_l10_L]
    rw [← haystackref06_Choose_l10_L_eq K N]
    kernel_rfl

theorem haystackref06_Choose_l7_L_eq {R : Type} (K : Ex → St → Option R) : ∀ N : Nat, (fun (v0 v1 : Int) (v2 : Nat) (v3 : Int) (v4 : List Int) => lp62_7400 N (St.mk (spread 55 0 [0, 1, 5, 6] [Ai v0, Ai v1, AV.sl 0 0 v2 1, Ai v3]) [HU v4]) K) = haystackref06_Choose_l7_L (fun v5 v6 v7 => K (Ex.exit 0) (St.mk (spread 55 0 [1, 5] [Ai v5, AV.sl 0 0 v6 1]) [HU v7])) N
  | 0 => by funext v0 v1 v2 v3 v4; rfl
  | N + 1 => by
    funext v0 v1 v2 v3 v4
    simp only [haystackref06_Choose_l7_L]
    rw [← haystackref06_Choose_l7_L_eq K N]
    kernel_rfl

theorem p62_4000 : PieceOk (V 62) q62 o62 62 0 (3998, 0, c62_4000) := .s (size := 55) (ss := [0, 1]) (F := @o62_4000_in) (by kernel_rfl) fun R r K vs hh h => by
  unfold o62_4000_in at h; split at h
  · rw [haystackref06_Choose_j4_unf] at h; exact Eq.trans (by kernel_rfl) h
  · cases h

theorem p62_7400 : PieceOk (V 62) q62 o62 62 0 (3992, 1, c62_7400) := .l (size := 55) (ss := [0, 1, 5, 6]) (F := @o62_7400_in) (by kernel_rfl) (by kernel_rfl) fun R r K vs hh h => by
  unfold o62_7400_in at h; split at h
  · rw [haystackref06_Choose_l7_unf] at h; unfold haystackref06_Choose_l7_B at h; rw [← haystackref06_Choose_l7_L_eq K NR] at h; exact h
  · cases h

theorem p62_10400 : PieceOk (V 62) q62 o62 62 0 (3986, 1, c62_10400) := .l (size := 55) (ss := [0, 1, 5, 6, 7]) (F := @o62_10400_in) (by kernel_rfl) (by kernel_rfl) fun R r K vs hh h => by
  unfold o62_10400_in at h; split at h
  · rw [haystackref06_Choose_l10_unf] at h; unfold haystackref06_Choose_l10_B at h; rw [← haystackref06_Choose_l10_L_eq K NR] at h; exact h
  · cases h

theorem pc62 : ∀ x ∈ [(3998, 0, c62_4000), (3992, 1, c62_7400), (3986, 1, c62_10400)], PieceOk (V 62) q62 o62 62 0 x := List.forall_mem_cons.2 ⟨p62_4000, List.forall_mem_cons.2 ⟨p62_7400, List.forall_mem_cons.2 ⟨p62_10400, fun _ h => nomatch h⟩⟩⟩

noncomputable def sp62 : Ev.Spec := fun args _ K => match args with
 | ([Ai v0, Ai v1]) => haystackref06_Choose v0 v1 (fun v2 => K (Au v2))
 | _ => none
noncomputable def S62 := addS 62 sp62 S61
theorem D63 : Dom B0 V S62 T66 63 := Dom.s (m := 62) (n := 0) D62 D62 (O := o62) (OrcOk.fn (fn0 := Tryz.f62) (by kernel_rfl) (by kernel_rfl) pc62) fun args R K r h => by
 unfold sp62 at h; split at h
 · rw [haystackref06_Choose_unf] at h; exact Eq.trans (by kernel_rfl) h
 · cases h

noncomputable def o31_4000_in {R : Type} (K : Ex → St → Option R) (vs : List AV) (hh : H) : Option R := match vs, hh with
 | [Au v0, Ai v1], [] => haystackref06_Offset_j4 v0 v1 (fun v2 v3 => K (Ex.ret) (St.mk (spread 41 0 [4, 5] [Ai v2, Au v3]) []))
 | _, _ => none

noncomputable def o31_8400_in {R : Type} (K : Ex → St → Option R) (vs : List AV) (hh : H) : Option R := match vs, hh with
 | [Au v0, Ai v1, Au v2, Ai v3, Ai v4], [] => haystackref06_Offset_l8 v0 v1 v2 v3 v4 (fun v5 v6 => K (Ex.exit 0) (St.mk (spread 41 0 [6, 7] [Ai v5, Au v6]) []))
 | _, _ => none

noncomputable def o31 : Nat → Option PSpec := lkN [(4000, fun st _ K => pickM 41 [0, 1] st (o31_4000_in K)), (8400, fun st _ K => pickM 41 [0, 6, 7, 8, 9] st (o31_8400_in K))]
noncomputable def q31 : CallF := evFun (V 31) S62 T66 10

noncomputable def c31_4000 : Code := subC [1, 1] (bodyOf Tryz.f31)

noncomputable def c31_8400 : Code := subC [1, 1, 1, 1, 1, 0, 1, 0, 0] (bodyOf Tryz.f31)

noncomputable def lp31_8400 {R : Type} (N : Nat) (st : St) (K : Ex → St → Option R) : Option R := evLoop (norm ((V 31).keep 31 (Ev.keyOf c31_8400 * 1000 + 400)) 0) (evCode (V 31) q31 o31 31 0 3991 c31_8400) N st (kOut (V 31) 31 0 (Ev.keyOf c31_8400 * 1000 + 401) K)

theorem haystackref06_Offset_l8_L_eq {R : Type} (K : Ex → St → Option R) : ∀ N : Nat, (fun (v0 v1 v2 v3 v4 : Int) => lp31_8400 N (St.mk (spread 41 0 [0, 6, 7, 8, 9] [Au v0, Ai v1, Au v2, Ai v3, Ai v4]) []) K) = haystackref06_Offset_l8_L (fun v5 v6 => K (Ex.exit 0) (St.mk (spread 41 0 [6, 7] [Ai v5, Au v6]) [])) N
  | 0 => by funext v0 v1 v2 v3 v4; rfl
  | N + 1 => by
    funext v0 v1 v2 v3 v4
    simp only [haystackref06_Offset_l8_L]
    rw [← haystackref06_Offset_l8_L_eq K N]
    kernel_rfl

theorem p31_4000 : PieceOk (V 31) q31 o31 31 0 (3998, 0, c31_4000) := .s (size := 41) (ss := [0, 1]) (F := @o31_4000_in) (by kernel_rfl) fun R r K vs hh h => by
  unfold o31_4000_in at h; split at h
  · rw [haystackref06_Offset_j4_unf] at h; exact Eq.trans (by kernel_rfl) h
  · cases h

theorem p31_8400 : PieceOk (V 31) q31 o31 31 0 (3991, 1, c31_8400) := .l (size := 41) (ss := [0, 6, 7, 8, 9]) (F := @o31_8400_in) (by kernel_rfl) (by kernel_rfl) fun R r K vs hh h => by
  unfold o31_8400_in at h; split at h
  · rw [haystackref06_Offset_l8_unf] at h; unfold haystackref06_Offset_l8_B at h; rw [← haystackref06_Offset_l8_L_eq K NR] at h; exact h
  · cases h

theorem pc31 : ∀ x ∈ [(3998, 0, c31_4000), (3991, 1, c31_8400)], PieceOk (V 31) q31 o31 31 0 x := List.forall_mem_cons.2 ⟨p31_4000, List.forall_mem_cons.2 ⟨p31_8400, fun _ h => nomatch h⟩⟩

noncomputable def sp31 : Ev.Spec := fun args _ K => match args with
 | ([Au v0, Ai v1]) => haystackref06_Offset v0 v1 (fun v2 v3 => K (AV.tup [Ai v2, Au v3]))
 | _ => none
noncomputable def S31 := addS 31 sp31 S62
theorem D64 : Dom B0 V S31 T66 64 := Dom.s (m := 63) (n := 0) D63 D63 (O := o31) (OrcOk.fn (fn0 := Tryz.f31) (by kernel_rfl) (by kernel_rfl) pc31) fun args R K r h => by
 unfold sp31 at h; split at h
 · rw [haystackref06_Offset_unf] at h; exact Eq.trans (by kernel_rfl) h
 · cases h

noncomputable def sp34 : Ev.Spec := fun args _ K => match args with
 | ([Ai v0, Ai v1]) => haystackref06_Width v0 v1 (fun v2 => K (Ai v2))
 | _ => none
noncomputable def S34 := addS 34 sp34 S31
theorem D65 : Dom B0 V S34 T66 65 := Dom.s (m := 64) (n := 0) D64 D64 (O := (fun _ => none)) (fun _ _ _ _ => OrcOk.none _ _) fun args R K r h => by
 unfold sp34 at h; split at h
 · rw [haystackref06_Width_unf] at h; exact Eq.trans (by kernel_rfl) h
 · cases h

noncomputable def o33_4400_in {R : Type} (K : Ex → St → Option R) (vs : List AV) (hh : H) : Option R := match vs, hh with
 | [Au v0, Ai v1, AV.sl 0 0 v2 1, Ai v3], [HO v4] => haystackref08_low_l4 v0 v1 v2 v3 v4 (fun v5 v6 => K (Ex.exit 0) (St.mk (spread 22 0 [5] [AV.sl 0 0 v5 1]) [HO v6]))
 | _, _ => none

noncomputable def o33 : Nat → Option PSpec := lkN [(4400, fun st _ K => pickM 22 [0, 1, 5, 6] st (o33_4400_in K))]
noncomputable def q33 : CallF := evFun (V 33) S34 T66 10

noncomputable def c33_4400 : Code := subC [1, 1, 0, 1, 0, 0] (bodyOf Tryz.f33)

noncomputable def lp33_4400 {R : Type} (N : Nat) (st : St) (K : Ex → St → Option R) : Option R := evLoop (norm ((V 33).keep 33 (Ev.keyOf c33_4400 * 1000 + 400)) 0) (evCode (V 33) q33 o33 33 0 3994 c33_4400) N st (kOut (V 33) 33 0 (Ev.keyOf c33_4400 * 1000 + 401) K)

theorem haystackref08_low_l4_L_eq {R : Type} (K : Ex → St → Option R) : ∀ N : Nat, (fun (v0 v1 : Int) (v2 : Nat) (v3 : Int) (v4 : List Bool) => lp33_4400 N (St.mk (spread 22 0 [0, 1, 5, 6] [Au v0, Ai v1, AV.sl 0 0 v2 1, Ai v3]) [HO v4]) K) = haystackref08_low_l4_L (fun v5 v6 => K (Ex.exit 0) (St.mk (spread 22 0 [5] [AV.sl 0 0 v5 1]) [HO v6])) N
  | 0 => by funext v0 v1 v2 v3 v4; rfl
  | N + 1 => by
    funext v0 v1 v2 v3 v4
    simp only [haystackref08_low_l4_L]
    rw [← haystackref08_low_l4_L_eq K N]
    kernel_rfl

theorem p33_4400 : PieceOk (V 33) q33 o33 33 0 (3994, 1, c33_4400) := .l (size := 22) (ss := [0, 1, 5, 6]) (F := @o33_4400_in) (by kernel_rfl) (by kernel_rfl) fun R r K vs hh h => by
  unfold o33_4400_in at h; split at h
  · rw [haystackref08_low_l4_unf] at h; unfold haystackref08_low_l4_B at h; rw [← haystackref08_low_l4_L_eq K NR] at h; exact h
  · cases h

theorem pc33 : ∀ x ∈ [(3994, 1, c33_4400)], PieceOk (V 33) q33 o33 33 0 x := List.forall_mem_cons.2 ⟨p33_4400, fun _ h => nomatch h⟩

noncomputable def sp33 : Ev.Spec := fun args _ K => match args with
 | ([Au v0, Ai v1]) => haystackref08_low v0 v1 (fun v2 => K (AV.fsl (Blk.bools v2)))
 | _ => none
noncomputable def S33 := addS 33 sp33 S34
theorem D66 : Dom B0 V S33 T66 66 := Dom.s (m := 65) (n := 0) D65 D65 (O := o33) (OrcOk.fn (fn0 := Tryz.f33) (by kernel_rfl) (by kernel_rfl) pc33) fun args R K r h => by
 unfold sp33 at h; split at h
 · rw [haystackref08_low_unf] at h; exact Eq.trans (by kernel_rfl) h
 · cases h

noncomputable def o7_2000_in {R : Type} (K : Ex → St → Option R) (vs : List AV) (hh : H) : Option R := match vs, hh with
 | [Ap 0 0, Ap 1 0], [HA [Ai v0, Fu v1], HA [Ai v2, Ai v3, Ai v4, Ai v5, AV.esl, Ai v6, AV.esl, AV.esl, AV.esl]] => haystackref08_Build_j2 v0 v1 v2 v3 v4 v5 v6 (fun v7 v8 v9 va vb vc => K (Ex.ret) (St.mk (spread 85 0 [2, 3] [Ap 0 0, Ai v7]) [HA [Ai v8, Ai v9, Ai va, Ai vb, AV.esl, Ai vc, AV.esl, AV.esl, AV.esl]])) (fun v7 v8 v9 va vb vc vd ve vf vg vh vi => K (Ex.ret) (St.mk (spread 85 0 [2, 3] [Ap 0 0, Ai v7]) [HA [Ai v8, Ai v9, Ai va, Ai vb, Fu vc, Ai vd, Fu ve, AV.sl 1 0 vf 1, AV.sl 2 0 vg 1], HB.live (Blk.ints .i64 vh), HB.live (Blk.ints .i64 vi)]))
 | _, _ => none

noncomputable def o7_9400_in {R : Type} (K : Ex → St → Option R) (vs : List AV) (hh : H) : Option R := match vs, hh with
 | [Ap 0 0, Ap 1 0, Ap 2 0, AV.sl 5 0 v0 1, AV.sl 6 0 v1 1, Ai v2, Ai v3], [HA [Ai v4, Fu v5], HA [Ai v6, Ai v7, Ai v8, Ai v9, AV.esl, Ai va, AV.esl, AV.esl, AV.esl], HA [Ai vb, Ai vc, Ai vd, Ai ve, AV.esl, Ai vf, AV.esl, AV.sl 3 0 vg 1, AV.sl 4 0 vh 1], HB.live (Blk.ints .i64 vi), HB.live (Blk.ints .i64 vj), HU vk, HO vl] => haystackref08_Build_l9 v0 v1 v2 v3 v4 v5 v6 v7 v8 v9 va vb vc vd ve vf vg vh vi vj vk vl (fun vm vn vo vp vq vr vs vt vu vv vw vx vy vz v10 v11 v12 v13 => K (Ex.exit 0) (St.mk (spread 85 0 [2, 4, 5, 6] [Ap 0 0, Ap 1 0, AV.sl 4 0 vm 1, AV.sl 5 0 vn 1]) [HA [Ai vo, Ai vp, Ai vq, Ai vr, AV.esl, Ai vs, AV.esl, AV.esl, AV.esl], HA [Ai vt, Ai vu, Ai vv, Ai vw, AV.esl, Ai vx, AV.esl, AV.sl 2 0 vy 1, AV.sl 3 0 vz 1], HB.live (Blk.ints .i64 v10), HB.live (Blk.ints .i64 v11), HU v12, HO v13]))
 | _, _ => none

noncomputable def o7_11000_in {R : Type} (K : Ex → St → Option R) (vs : List AV) (hh : H) : Option R := match vs, hh with
 | [Ap 0 0, Ap 1 0, Ap 2 0, AV.sl 5 0 v0 1, AV.sl 6 0 v1 1, Ai v2, Ai v3], [HA [Ai v4, Fu v5], HA [Ai v6, Ai v7, Ai v8, Ai v9, AV.esl, Ai va, AV.esl, AV.esl, AV.esl], HA [Ai vb, Ai vc, Ai vd, Ai ve, AV.esl, Ai vf, AV.esl, AV.sl 3 0 vg 1, AV.sl 4 0 vh 1], HB.live (Blk.ints .i64 vi), HB.live (Blk.ints .i64 vj), HU vk, HO vl] => haystackref08_Build_j11 v0 v1 v2 v3 v4 v5 v6 v7 v8 v9 va vb vc vd ve vf vg vh vi vj vk vl (fun vm vn vo vp vq vr vs vt vu vv vw vx vy vz v10 v11 v12 v13 v14 v15 v16 v17 => K (Ex.normal) (St.mk (spread 85 0 [1, 2, 4, 5, 6, 7, 8] [Ap 0 0, Ap 1 0, Ap 2 0, AV.sl 5 0 vm 1, AV.sl 6 0 vn 1, Ai vo, Ai vp]) [HA [Ai vq, Fu vr], HA [Ai vs, Ai vt, Ai vu, Ai vv, AV.esl, Ai vw, AV.esl, AV.esl, AV.esl], HA [Ai vx, Ai vy, Ai vz, Ai v10, AV.esl, Ai v11, AV.esl, AV.sl 3 0 v12 1, AV.sl 4 0 v13 1], HB.live (Blk.ints .i64 v14), HB.live (Blk.ints .i64 v15), HU v16, HO v17]))
 | _, _ => none

noncomputable def o7_13000_in {R : Type} (K : Ex → St → Option R) (vs : List AV) (hh : H) : Option R := match vs, hh with
 | [Ap 0 0, Ap 1 0, Ap 2 0, AV.sl 5 0 v0 1, AV.sl 6 0 v1 1, Ai v2, Ai v3], [HA [Ai v4, Fu v5], HA [Ai v6, Ai v7, Ai v8, Ai v9, AV.esl, Ai va, AV.esl, AV.esl, AV.esl], HA [Ai vb, Ai vc, Ai vd, Ai ve, AV.esl, Ai vf, AV.esl, AV.sl 3 0 vg 1, AV.sl 4 0 vh 1], HB.live (Blk.ints .i64 vi), HB.live (Blk.ints .i64 vj), HU vk, HO vl] => haystackref08_Build_j13 v0 v1 v2 v3 v4 v5 v6 v7 v8 v9 va vb vc vd ve vf vg vh vi vj vk vl (fun vm vn vo vp vq vr vs vt vu vv vw vx vy vz v10 v11 v12 v13 v14 v15 v16 v17 => K (Ex.normal) (St.mk (spread 85 0 [1, 2, 4, 5, 6, 7, 8] [Ap 0 0, Ap 1 0, Ap 2 0, AV.sl 5 0 vm 1, AV.sl 6 0 vn 1, Ai vo, Ai vp]) [HA [Ai vq, Fu vr], HA [Ai vs, Ai vt, Ai vu, Ai vv, AV.esl, Ai vw, AV.esl, AV.esl, AV.esl], HA [Ai vx, Ai vy, Ai vz, Ai v10, AV.esl, Ai v11, AV.esl, AV.sl 3 0 v12 1, AV.sl 4 0 v13 1], HB.live (Blk.ints .i64 v14), HB.live (Blk.ints .i64 v15), HU v16, HO v17]))
 | _, _ => none

noncomputable def o7 : Nat → Option PSpec := lkN [(2000, fun st _ K => pickM 85 [1, 2] st (o7_2000_in K)), (9400, fun st _ K => pickM 85 [1, 2, 4, 5, 6, 7, 8] st (o7_9400_in K)), (11000, fun st _ K => pickM 85 [1, 2, 4, 5, 6, 7, 8] st (o7_11000_in K)), (13000, fun st _ K => pickM 85 [1, 2, 4, 5, 6, 7, 8] st (o7_13000_in K))]
noncomputable def q7 : CallF := evFun (V 7) S33 T66 10

noncomputable def c7_2000 : Code := subC [1] (bodyOf Tryz.f7)

noncomputable def c7_9400 : Code := subC [1, 1, 1, 1, 1, 1, 0, 1, 0, 0] (bodyOf Tryz.f7)

noncomputable def lp7_9400 {R : Type} (N : Nat) (st : St) (K : Ex → St → Option R) : Option R := evLoop (norm ((V 7).keep 7 (Ev.keyOf c7_9400 * 1000 + 400)) 0) (evCode (V 7) q7 o7 7 0 3990 c7_9400) N st (kOut (V 7) 7 0 (Ev.keyOf c7_9400 * 1000 + 401) K)

noncomputable def c7_11000 : Code := subC [1, 1, 1, 1, 1, 1, 0, 1, 0, 0, 1] (bodyOf Tryz.f7)

noncomputable def c7_13000 : Code := subC [1, 1, 1, 1, 1, 1, 0, 1, 0, 0, 1, 0, 0, 1] (bodyOf Tryz.f7)

theorem haystackref08_Build_l9_L_eq {R : Type} (K : Ex → St → Option R) : ∀ N : Nat, (fun (v0 v1 : Nat) (v2 v3 v4 : Int) (v5 : List Int) (v6 v7 v8 v9 va vb vc vd ve vf : Int) (vg vh : Nat) (vi vj vk : List Int) (vl : List Bool) => lp7_9400 N (St.mk (spread 85 0 [1, 2, 4, 5, 6, 7, 8] [Ap 0 0, Ap 1 0, Ap 2 0, AV.sl 5 0 v0 1, AV.sl 6 0 v1 1, Ai v2, Ai v3]) [HA [Ai v4, Fu v5], HA [Ai v6, Ai v7, Ai v8, Ai v9, AV.esl, Ai va, AV.esl, AV.esl, AV.esl], HA [Ai vb, Ai vc, Ai vd, Ai ve, AV.esl, Ai vf, AV.esl, AV.sl 3 0 vg 1, AV.sl 4 0 vh 1], HB.live (Blk.ints .i64 vi), HB.live (Blk.ints .i64 vj), HU vk, HO vl]) K) = haystackref08_Build_l9_L (fun vm vn vo vp vq vr vs vt vu vv vw vx vy vz v10 v11 v12 v13 => K (Ex.exit 0) (St.mk (spread 85 0 [2, 4, 5, 6] [Ap 0 0, Ap 1 0, AV.sl 4 0 vm 1, AV.sl 5 0 vn 1]) [HA [Ai vo, Ai vp, Ai vq, Ai vr, AV.esl, Ai vs, AV.esl, AV.esl, AV.esl], HA [Ai vt, Ai vu, Ai vv, Ai vw, AV.esl, Ai vx, AV.esl, AV.sl 2 0 vy 1, AV.sl 3 0 vz 1], HB.live (Blk.ints .i64 v10), HB.live (Blk.ints .i64 v11), HU v12, HO v13])) N
  | 0 => by funext v0 v1 v2 v3 v4 v5 v6 v7 v8 v9 va vb vc vd ve vf vg vh vi vj vk vl; rfl
  | N + 1 => by
    funext v0 v1 v2 v3 v4 v5 v6 v7 v8 v9 va vb vc vd ve vf vg vh vi vj vk vl
    simp only [haystackref08_Build_l9_L]
    rw [← haystackref08_Build_l9_L_eq K N]
    kernel_rfl

theorem haystackref08_Build_j13_eq {R : Type} (K : Ex → St → Option R) (v0 v1 : Nat) (v2 v3 v4 : Int) (v5 : List Int) (v6 v7 v8 v9 va vb vc vd ve vf : Int) (vg vh : Nat) (vi vj vk : List Int) (vl : List Bool) : evCode (V 7) q7 o7 7 0 3986 c7_13000 (St.mk (spread 85 0 [1, 2, 4, 5, 6, 7, 8] [Ap 0 0, Ap 1 0, Ap 2 0, AV.sl 5 0 v0 1, AV.sl 6 0 v1 1, Ai v2, Ai v3]) [HA [Ai v4, Fu v5], HA [Ai v6, Ai v7, Ai v8, Ai v9, AV.esl, Ai va, AV.esl, AV.esl, AV.esl], HA [Ai vb, Ai vc, Ai vd, Ai ve, AV.esl, Ai vf, AV.esl, AV.sl 3 0 vg 1, AV.sl 4 0 vh 1], HB.live (Blk.ints .i64 vi), HB.live (Blk.ints .i64 vj), HU vk, HO vl]) (kOut (V 7) 7 0 (Ev.keyOf c7_13000 * 1000 + 1) K) = haystackref08_Build_j13_B v0 v1 v2 v3 v4 v5 v6 v7 v8 v9 va vb vc vd ve vf vg vh vi vj vk vl (fun vm vn vo vp vq vr vs vt vu vv vw vx vy vz v10 v11 v12 v13 v14 v15 v16 v17 => K (Ex.normal) (St.mk (spread 85 0 [1, 2, 4, 5, 6, 7, 8] [Ap 0 0, Ap 1 0, Ap 2 0, AV.sl 5 0 vm 1, AV.sl 6 0 vn 1, Ai vo, Ai vp]) [HA [Ai vq, Fu vr], HA [Ai vs, Ai vt, Ai vu, Ai vv, AV.esl, Ai vw, AV.esl, AV.esl, AV.esl], HA [Ai vx, Ai vy, Ai vz, Ai v10, AV.esl, Ai v11, AV.esl, AV.sl 3 0 v12 1, AV.sl 4 0 v13 1], HB.live (Blk.ints .i64 v14), HB.live (Blk.ints .i64 v15), HU v16, HO v17])) := by kernel_rfl

theorem haystackref08_Build_j11_eq {R : Type} (K : Ex → St → Option R) (v0 v1 : Nat) (v2 v3 v4 : Int) (v5 : List Int) (v6 v7 v8 v9 va vb vc vd ve vf : Int) (vg vh : Nat) (vi vj vk : List Int) (vl : List Bool) : evCode (V 7) q7 o7 7 0 3989 c7_11000 (St.mk (spread 85 0 [1, 2, 4, 5, 6, 7, 8] [Ap 0 0, Ap 1 0, Ap 2 0, AV.sl 5 0 v0 1, AV.sl 6 0 v1 1, Ai v2, Ai v3]) [HA [Ai v4, Fu v5], HA [Ai v6, Ai v7, Ai v8, Ai v9, AV.esl, Ai va, AV.esl, AV.esl, AV.esl], HA [Ai vb, Ai vc, Ai vd, Ai ve, AV.esl, Ai vf, AV.esl, AV.sl 3 0 vg 1, AV.sl 4 0 vh 1], HB.live (Blk.ints .i64 vi), HB.live (Blk.ints .i64 vj), HU vk, HO vl]) (kOut (V 7) 7 0 (Ev.keyOf c7_11000 * 1000 + 1) K) = haystackref08_Build_j11_B v0 v1 v2 v3 v4 v5 v6 v7 v8 v9 va vb vc vd ve vf vg vh vi vj vk vl (fun vm vn vo vp vq vr vs vt vu vv vw vx vy vz v10 v11 v12 v13 v14 v15 v16 v17 => K (Ex.normal) (St.mk (spread 85 0 [1, 2, 4, 5, 6, 7, 8] [Ap 0 0, Ap 1 0, Ap 2 0, AV.sl 5 0 vm 1, AV.sl 6 0 vn 1, Ai vo, Ai vp]) [HA [Ai vq, Fu vr], HA [Ai vs, Ai vt, Ai vu, Ai vv, AV.esl, Ai vw, AV.esl, AV.esl, AV.esl], HA [Ai vx, Ai vy, Ai vz, Ai v10, AV.esl, Ai v11, AV.esl, AV.sl 3 0 v12 1, AV.sl 4 0 v13 1], HB.live (Blk.ints .i64 v14), HB.live (Blk.ints .i64 v15), HU v16, HO v17])) := by kernel_rfl

theorem p7_2000 : PieceOk (V 7) q7 o7 7 0 (3999, 0, c7_2000) := .s (size := 85) (ss := [1, 2]) (F := @o7_2000_in) (by kernel_rfl) fun R r K vs hh h => by
  unfold o7_2000_in at h; split at h
  · rw [haystackref08_Build_j2_unf] at h; exact Eq.trans (by kernel_rfl) h
  · cases h

theorem p7_9400 : PieceOk (V 7) q7 o7 7 0 (3990, 1, c7_9400) := .l (size := 85) (ss := [1, 2, 4, 5, 6, 7, 8]) (F := @o7_9400_in) (by kernel_rfl) (by kernel_rfl) fun R r K vs hh h => by
  unfold o7_9400_in at h; split at h
  · rw [haystackref08_Build_l9_unf] at h; unfold haystackref08_Build_l9_B at h; rw [← haystackref08_Build_l9_L_eq K NR] at h; exact h
  · cases h

theorem p7_11000 : PieceOk (V 7) q7 o7 7 0 (3989, 0, c7_11000) := .s (size := 85) (ss := [1, 2, 4, 5, 6, 7, 8]) (F := @o7_11000_in) (by kernel_rfl) fun R r K vs hh h => by
  unfold o7_11000_in at h; split at h
  · rw [haystackref08_Build_j11_unf] at h; exact (haystackref08_Build_j11_eq K _ _ _ _ _ _ _ _ _ _ _ _ _ _ _ _ _ _ _ _ _ _).trans h
  · cases h

theorem p7_13000 : PieceOk (V 7) q7 o7 7 0 (3986, 0, c7_13000) := .s (size := 85) (ss := [1, 2, 4, 5, 6, 7, 8]) (F := @o7_13000_in) (by kernel_rfl) fun R r K vs hh h => by
  unfold o7_13000_in at h; split at h
  · rw [haystackref08_Build_j13_unf] at h; exact (haystackref08_Build_j13_eq K _ _ _ _ _ _ _ _ _ _ _ _ _ _ _ _ _ _ _ _ _ _).trans h
  · cases h

theorem pc7 : ∀ x ∈ [(3999, 0, c7_2000), (3990, 1, c7_9400), (3989, 0, c7_11000), (3986, 0, c7_13000)], PieceOk (V 7) q7 o7 7 0 x := List.forall_mem_cons.2 ⟨p7_2000, List.forall_mem_cons.2 ⟨p7_9400, List.forall_mem_cons.2 ⟨p7_11000, List.forall_mem_cons.2 ⟨p7_13000, fun _ h => nomatch h⟩⟩⟩⟩

noncomputable def sp7 : Ev.Spec := fun args _ K => match args with
 | ([AV.agg (Blk.any [Ai v0, Fu v1])]) => haystackref08_Build v0 v1 (fun v2 v3 v4 v5 v6 v7 v8 v9 va vb => K (AV.tup [AV.agg (Blk.any [Ai v2, Ai v3, Ai v4, Ai v5, Fu v6, Ai v7, Fu v8, AV.fsl (Blk.ints .i64 v9), AV.fsl (Blk.ints .i64 va)]), Ai vb]))
 | _ => none
noncomputable def S7 := addS 7 sp7 S33
theorem D67 : Dom B0 V S7 T66 67 := Dom.s (m := 66) (n := 0) D66 D66 (O := o7) (OrcOk.fn (fn0 := Tryz.f7) (by kernel_rfl) (by kernel_rfl) pc7) fun args R K r h => by
 unfold sp7 at h; split at h
 · rw [haystackref08_Build_unf] at h; exact Eq.trans (by kernel_rfl) h
 · cases h

noncomputable def sp37 : Ev.Spec := fun args _ K => match args with
 | ([AV.agg (Blk.any [Ai v0, Ai v1, Ai v2, Fu v3]), AV.agg (Blk.any [Ai v4, Ai v5, Ai v6, Fu v7])]) => haystackref03_Same v0 v1 v2 v3 v4 v5 v6 v7 (fun v8 => K (Ab v8))
 | _ => none
noncomputable def S37 := addS 37 sp37 S7
theorem D68 : Dom B0 V S37 T66 68 := Dom.s (m := 67) (n := 0) D67 D67 (O := (fun _ => none)) (fun _ _ _ _ => OrcOk.none _ _) fun args R K r h => by
 unfold sp37 at h; split at h
 · rw [haystackref03_Same_unf] at h; exact Eq.trans (by kernel_rfl) h
 · cases h

noncomputable def o38_5400_in {R : Type} (K : Ex → St → Option R) (vs : List AV) (hh : H) : Option R := match vs, hh with
 | [AV.fsl (Blk.ints .i64 v0), AV.fsl (Blk.ints .i64 v1), Ai v2], [] => haystackref07_Numbers_l5 v0 v1 v2 (fun v3 => K (Ex.ret) (St.mk (spread 26 0 [4] [Ab v3]) [])) (fun _ => K (Ex.exit 0) (St.mk (spread 26 0 [] []) []))
 | _, _ => none

noncomputable def o38 : Nat → Option PSpec := lkN [(5400, fun st _ K => pickM 26 [0, 1, 5] st (o38_5400_in K))]
noncomputable def q38 : CallF := evFun (V 38) S37 T66 10

noncomputable def c38_5400 : Code := subC [1, 1, 0, 1, 0, 0] (bodyOf Tryz.f38)

noncomputable def lp38_5400 {R : Type} (N : Nat) (st : St) (K : Ex → St → Option R) : Option R := evLoop (norm ((V 38).keep 38 (Ev.keyOf c38_5400 * 1000 + 400)) 0) (evCode (V 38) q38 o38 38 0 3994 c38_5400) N st (kOut (V 38) 38 0 (Ev.keyOf c38_5400 * 1000 + 401) K)

theorem haystackref07_Numbers_l5_L_eq {R : Type} (K : Ex → St → Option R) : ∀ N : Nat, (fun (v0 v1 : List Int) (v2 : Int) => lp38_5400 N (St.mk (spread 26 0 [0, 1, 5] [AV.fsl (Blk.ints .i64 v0), AV.fsl (Blk.ints .i64 v1), Ai v2]) []) K) = haystackref07_Numbers_l5_L (fun v3 => K (Ex.ret) (St.mk (spread 26 0 [4] [Ab v3]) [])) (fun _ => K (Ex.exit 0) (St.mk (spread 26 0 [] []) [])) N
  | 0 => by funext v0 v1 v2; rfl
  | N + 1 => by
    funext v0 v1 v2
    simp only [haystackref07_Numbers_l5_L]
    rw [← haystackref07_Numbers_l5_L_eq K N]
    kernel_rfl

theorem p38_5400 : PieceOk (V 38) q38 o38 38 0 (3994, 1, c38_5400) := .l (size := 26) (ss := [0, 1, 5]) (F := @o38_5400_in) (by kernel_rfl) (by kernel_rfl) fun R r K vs hh h => by
  unfold o38_5400_in at h; split at h
  · rw [haystackref07_Numbers_l5_unf] at h; unfold haystackref07_Numbers_l5_B at h; rw [← haystackref07_Numbers_l5_L_eq K NR] at h; exact h
  · cases h

theorem pc38 : ∀ x ∈ [(3994, 1, c38_5400)], PieceOk (V 38) q38 o38 38 0 x := List.forall_mem_cons.2 ⟨p38_5400, fun _ h => nomatch h⟩

noncomputable def sp38 : Ev.Spec := fun args _ K => match args with
 | ([AV.fsl (Blk.ints .i64 v0), AV.fsl (Blk.ints .i64 v1)]) => haystackref07_Numbers v0 v1 (fun v2 => K (Ab v2))
 | _ => none
noncomputable def S38 := addS 38 sp38 S37
theorem D69 : Dom B0 V S38 T66 69 := Dom.s (m := 68) (n := 0) D68 D68 (O := o38) (OrcOk.fn (fn0 := Tryz.f38) (by kernel_rfl) (by kernel_rfl) pc38) fun args R K r h => by
 unfold sp38 at h; split at h
 · rw [haystackref07_Numbers_unf] at h; exact Eq.trans (by kernel_rfl) h
 · cases h

noncomputable def sp8 : Ev.Spec := fun args _ K => match args with
 | ([AV.agg (Blk.any [Ai v0, Ai v1, Ai v2, Ai v3, Fu v4, Ai v5, Fu v6, AV.fsl (Blk.ints .i64 v7), AV.fsl (Blk.ints .i64 v8)]), AV.agg (Blk.any [Ai v9, Ai va, Ai vb, Ai vc, Fu vd, Ai ve, Fu vf, AV.fsl (Blk.ints .i64 vg), AV.fsl (Blk.ints .i64 vh)])]) => haystackref08_Same v0 v1 v2 v3 v4 v5 v6 v7 v8 v9 va vb vc vd ve vf vg vh (fun vi => K (Ab vi))
 | _ => none
noncomputable def S8 := addS 8 sp8 S38
theorem D70 : Dom B0 V S8 T66 70 := Dom.s (m := 69) (n := 0) D69 D69 (O := (fun _ => none)) (fun _ _ _ _ => OrcOk.none _ _) fun args R K r h => by
 unfold sp8 at h; split at h
 · rw [haystackref08_Same_unf] at h; exact Eq.trans (by kernel_rfl) h
 · cases h

noncomputable def sp69 : Ev.Spec := fun args _ K => match args with
 | ([AV.agg (Blk.any [Ai v0, Ai v1, Ai v2, Fu v3])]) => haystackref03_Check v0 v1 v2 v3 (fun v4 => K (Ab v4))
 | _ => none
noncomputable def S69 := addS 69 sp69 S8
theorem D71 : Dom B0 V S69 T66 71 := Dom.s (m := 70) (n := 0) D70 D70 (O := (fun _ => none)) (fun _ _ _ _ => OrcOk.none _ _) fun args R K r h => by
 unfold sp69 at h; split at h
 · rw [haystackref03_Check_unf] at h; exact Eq.trans (by kernel_rfl) h
 · cases h

noncomputable def o80_4000_in {R : Type} (K : Ex → St → Option R) (vs : List AV) (hh : H) : Option R := match vs, hh with
 | [Ai v0, Ai v1, Ap 0 0], [HA [Ai v2, Fu v3]] => haystackref02_Slice_j4 v0 v1 v2 v3 (fun v4 v5 => K (Ex.ret) (St.mk (spread 53 0 [6, 7] [Au v4, Ai v5]) []))
 | _, _ => none

noncomputable def o80_6000_in {R : Type} (K : Ex → St → Option R) (vs : List AV) (hh : H) : Option R := match vs, hh with
 | [Ai v0, Ai v1, Ap 0 0], [HA [Ai v2, Fu v3]] => haystackref02_Slice_j6 v0 v1 v2 v3 (fun v4 v5 => K (Ex.ret) (St.mk (spread 53 0 [6, 7] [Au v4, Ai v5]) []))
 | _, _ => none

noncomputable def o80_8400_in {R : Type} (K : Ex → St → Option R) (vs : List AV) (hh : H) : Option R := match vs, hh with
 | [Ai v0, Ai v1, Ap 0 0, Au v2, Ai v3], [HA [Ai v4, Fu v5]] => haystackref02_Slice_l8 v0 v1 v2 v3 v4 v5 (fun v6 => K (Ex.exit 0) (St.mk (spread 53 0 [8] [Au v6]) []))
 | _, _ => none

noncomputable def o80 : Nat → Option PSpec := lkN [(4000, fun st _ K => pickM 53 [1, 2, 3] st (o80_4000_in K)), (6000, fun st _ K => pickM 53 [1, 2, 3] st (o80_6000_in K)), (8400, fun st _ K => pickM 53 [1, 2, 3, 8, 9] st (o80_8400_in K))]
noncomputable def q80 : CallF := evFun (V 80) S69 T66 10

noncomputable def c80_4000 : Code := subC [1, 1] (bodyOf Tryz.f80)

noncomputable def c80_6000 : Code := subC [1, 1, 1] (bodyOf Tryz.f80)

noncomputable def c80_8400 : Code := subC [1, 1, 1, 1, 0, 1, 0, 0] (bodyOf Tryz.f80)

noncomputable def lp80_8400 {R : Type} (N : Nat) (st : St) (K : Ex → St → Option R) : Option R := evLoop (norm ((V 80).keep 80 (Ev.keyOf c80_8400 * 1000 + 400)) 0) (evCode (V 80) q80 o80 80 0 3992 c80_8400) N st (kOut (V 80) 80 0 (Ev.keyOf c80_8400 * 1000 + 401) K)

theorem haystackref02_Slice_l8_L_eq {R : Type} (K : Ex → St → Option R) : ∀ N : Nat, (fun (v0 v1 v2 v3 v4 : Int) (v5 : List Int) => lp80_8400 N (St.mk (spread 53 0 [1, 2, 3, 8, 9] [Ai v0, Ai v1, Ap 0 0, Au v2, Ai v3]) [HA [Ai v4, Fu v5]]) K) = haystackref02_Slice_l8_L (fun v6 => K (Ex.exit 0) (St.mk (spread 53 0 [8] [Au v6]) [])) N
  | 0 => by funext v0 v1 v2 v3 v4 v5; rfl
  | N + 1 => by
    funext v0 v1 v2 v3 v4 v5
    simp only [haystackref02_Slice_l8_L]
    rw [← haystackref02_Slice_l8_L_eq K N]
    kernel_rfl

theorem p80_4000 : PieceOk (V 80) q80 o80 80 0 (3998, 0, c80_4000) := .s (size := 53) (ss := [1, 2, 3]) (F := @o80_4000_in) (by kernel_rfl) fun R r K vs hh h => by
  unfold o80_4000_in at h; split at h
  · rw [haystackref02_Slice_j4_unf] at h; exact Eq.trans (by kernel_rfl) h
  · cases h

theorem p80_6000 : PieceOk (V 80) q80 o80 80 0 (3997, 0, c80_6000) := .s (size := 53) (ss := [1, 2, 3]) (F := @o80_6000_in) (by kernel_rfl) fun R r K vs hh h => by
  unfold o80_6000_in at h; split at h
  · rw [haystackref02_Slice_j6_unf] at h; exact Eq.trans (by kernel_rfl) h
  · cases h

theorem p80_8400 : PieceOk (V 80) q80 o80 80 0 (3992, 1, c80_8400) := .l (size := 53) (ss := [1, 2, 3, 8, 9]) (F := @o80_8400_in) (by kernel_rfl) (by kernel_rfl) fun R r K vs hh h => by
  unfold o80_8400_in at h; split at h
  · rw [haystackref02_Slice_l8_unf] at h; unfold haystackref02_Slice_l8_B at h; rw [← haystackref02_Slice_l8_L_eq K NR] at h; exact h
  · cases h

theorem pc80 : ∀ x ∈ [(3998, 0, c80_4000), (3997, 0, c80_6000), (3992, 1, c80_8400)], PieceOk (V 80) q80 o80 80 0 x := List.forall_mem_cons.2 ⟨p80_4000, List.forall_mem_cons.2 ⟨p80_6000, List.forall_mem_cons.2 ⟨p80_8400, fun _ h => nomatch h⟩⟩⟩

noncomputable def sp80 : Ev.Spec := fun args _ K => match args with
 | ([AV.agg (Blk.any [Ai v0, Fu v1]), Ai v2, Ai v3]) => haystackref02_Slice v0 v1 v2 v3 (fun v4 v5 => K (AV.tup [Au v4, Ai v5]))
 | _ => none
noncomputable def S80 := addS 80 sp80 S69
theorem D72 : Dom B0 V S80 T66 72 := Dom.s (m := 71) (n := 0) D71 D71 (O := o80) (OrcOk.fn (fn0 := Tryz.f80) (by kernel_rfl) (by kernel_rfl) pc80) fun args R K r h => by
 unfold sp80 at h; split at h
 · rw [haystackref02_Slice_unf] at h; exact Eq.trans (by kernel_rfl) h
 · cases h

noncomputable def o88_6000_in {R : Type} (K : Ex → St → Option R) (vs : List AV) (hh : H) : Option R := match vs, hh with
 | [Ai v0, Ap 0 0], [HA [Ai v1, Ai v2, Ai v3, Fu v4]] => haystackref03_Get_j6 v0 v1 v2 v3 v4 (fun v5 v6 => K (Ex.ret) (St.mk (spread 28 0 [4, 5] [Au v5, Ai v6]) []))
 | _, _ => none

noncomputable def o88 : Nat → Option PSpec := lkN [(6000, fun st _ K => pickM 28 [1, 2] st (o88_6000_in K))]
noncomputable def q88 : CallF := evFun (V 88) S80 T66 10

noncomputable def c88_6000 : Code := subC [1, 1, 1] (bodyOf Tryz.f88)

theorem p88_6000 : PieceOk (V 88) q88 o88 88 0 (3997, 0, c88_6000) := .s (size := 28) (ss := [1, 2]) (F := @o88_6000_in) (by kernel_rfl) fun R r K vs hh h => by
  unfold o88_6000_in at h; split at h
  · rw [haystackref03_Get_j6_unf] at h; exact Eq.trans (by kernel_rfl) h
  · cases h

theorem pc88 : ∀ x ∈ [(3997, 0, c88_6000)], PieceOk (V 88) q88 o88 88 0 x := List.forall_mem_cons.2 ⟨p88_6000, fun _ h => nomatch h⟩

noncomputable def sp88 : Ev.Spec := fun args _ K => match args with
 | ([AV.agg (Blk.any [Ai v0, Ai v1, Ai v2, Fu v3]), Ai v4]) => haystackref03_Get v0 v1 v2 v3 v4 (fun v5 v6 => K (AV.tup [Au v5, Ai v6]))
 | _ => none
noncomputable def S88 := addS 88 sp88 S80
theorem D73 : Dom B0 V S88 T66 73 := Dom.s (m := 72) (n := 0) D72 D72 (O := o88) (OrcOk.fn (fn0 := Tryz.f88) (by kernel_rfl) (by kernel_rfl) pc88) fun args R K r h => by
 unfold sp88 at h; split at h
 · rw [haystackref03_Get_unf] at h; exact Eq.trans (by kernel_rfl) h
 · cases h

noncomputable def o79_4400_in {R : Type} (K : Ex → St → Option R) (vs : List AV) (hh : H) : Option R := match vs, hh with
 | [Ap 0 0, AV.sl 1 0 v0 1, Ai v1], [HA [Ai v2, Ai v3, Ai v4, Fu v5], HU v6] => haystackref03_List_l4 v0 v1 v2 v3 v4 v5 v6 (fun v7 v8 => K (Ex.exit 0) (St.mk (spread 28 0 [3] [AV.sl 0 0 v7 1]) [HU v8]))
 | _, _ => none

noncomputable def o79_6000_in {R : Type} (K : Ex → St → Option R) (vs : List AV) (hh : H) : Option R := match vs, hh with
 | [Ap 0 0, AV.sl 1 0 v0 1, Ai v1], [HA [Ai v2, Ai v3, Ai v4, Fu v5], HU v6] => haystackref03_List_j6 v0 v1 v2 v3 v4 v5 v6 (fun v7 v8 v9 va vb vc vd => K (Ex.normal) (St.mk (spread 28 0 [1, 3, 4] [Ap 0 0, AV.sl 1 0 v7 1, Ai v8]) [HA [Ai v9, Ai va, Ai vb, Fu vc], HU vd]))
 | _, _ => none

noncomputable def o79 : Nat → Option PSpec := lkN [(4400, fun st _ K => pickM 28 [1, 3, 4] st (o79_4400_in K)), (6000, fun st _ K => pickM 28 [1, 3, 4] st (o79_6000_in K))]
noncomputable def q79 : CallF := evFun (V 79) S88 T66 10

noncomputable def c79_4400 : Code := subC [1, 1, 0, 1, 0, 0] (bodyOf Tryz.f79)

noncomputable def lp79_4400 {R : Type} (N : Nat) (st : St) (K : Ex → St → Option R) : Option R := evLoop (norm ((V 79).keep 79 (Ev.keyOf c79_4400 * 1000 + 400)) 0) (evCode (V 79) q79 o79 79 0 3994 c79_4400) N st (kOut (V 79) 79 0 (Ev.keyOf c79_4400 * 1000 + 401) K)

noncomputable def c79_6000 : Code := subC [1, 1, 0, 1, 0, 0, 1] (bodyOf Tryz.f79)

theorem haystackref03_List_l4_L_eq {R : Type} (K : Ex → St → Option R) : ∀ N : Nat, (fun (v0 : Nat) (v1 v2 v3 v4 : Int) (v5 v6 : List Int) => lp79_4400 N (St.mk (spread 28 0 [1, 3, 4] [Ap 0 0, AV.sl 1 0 v0 1, Ai v1]) [HA [Ai v2, Ai v3, Ai v4, Fu v5], HU v6]) K) = haystackref03_List_l4_L (fun v7 v8 => K (Ex.exit 0) (St.mk (spread 28 0 [3] [AV.sl 0 0 v7 1]) [HU v8])) N
  | 0 => by funext v0 v1 v2 v3 v4 v5 v6; rfl
  | N + 1 => by
    funext v0 v1 v2 v3 v4 v5 v6
    simp only [haystackref03_List_l4_L]
    rw [← haystackref03_List_l4_L_eq K N]
    kernel_rfl

theorem p79_4400 : PieceOk (V 79) q79 o79 79 0 (3994, 1, c79_4400) := .l (size := 28) (ss := [1, 3, 4]) (F := @o79_4400_in) (by kernel_rfl) (by kernel_rfl) fun R r K vs hh h => by
  unfold o79_4400_in at h; split at h
  · rw [haystackref03_List_l4_unf] at h; unfold haystackref03_List_l4_B at h; rw [← haystackref03_List_l4_L_eq K NR] at h; exact h
  · cases h

theorem p79_6000 : PieceOk (V 79) q79 o79 79 0 (3993, 0, c79_6000) := .s (size := 28) (ss := [1, 3, 4]) (F := @o79_6000_in) (by kernel_rfl) fun R r K vs hh h => by
  unfold o79_6000_in at h; split at h
  · rw [haystackref03_List_j6_unf] at h; exact Eq.trans (by kernel_rfl) h
  · cases h

theorem pc79 : ∀ x ∈ [(3994, 1, c79_4400), (3993, 0, c79_6000)], PieceOk (V 79) q79 o79 79 0 x := List.forall_mem_cons.2 ⟨p79_4400, List.forall_mem_cons.2 ⟨p79_6000, fun _ h => nomatch h⟩⟩

noncomputable def sp79 : Ev.Spec := fun args _ K => match args with
 | ([AV.agg (Blk.any [Ai v0, Ai v1, Ai v2, Fu v3])]) => haystackref03_List v0 v1 v2 v3 (fun v4 => K (Fu v4))
 | _ => none
noncomputable def S79 := addS 79 sp79 S88
theorem D74 : Dom B0 V S79 T66 74 := Dom.s (m := 73) (n := 0) D73 D73 (O := o79) (OrcOk.fn (fn0 := Tryz.f79) (by kernel_rfl) (by kernel_rfl) pc79) fun args R K r h => by
 unfold sp79 at h; split at h
 · rw [haystackref03_List_unf] at h; exact Eq.trans (by kernel_rfl) h
 · cases h

noncomputable def o81_6400_in {R : Type} (K : Ex → St → Option R) (vs : List AV) (hh : H) : Option R := match vs, hh with
 | [Ai v0, Au v1, Au v2, Ai v3], [] => haystackref06_Block_l6 v0 v1 v2 v3 (fun v4 => K (Ex.exit 0) (St.mk (spread 43 0 [8] [Au v4]) []))
 | _, _ => none

noncomputable def o81_8000_in {R : Type} (K : Ex → St → Option R) (vs : List AV) (hh : H) : Option R := match vs, hh with
 | [Ai v0, Au v1, Au v2, Ai v3], [] => haystackref06_Block_j8 v0 v1 v2 v3 (fun v4 v5 v6 v7 => K (Ex.normal) (St.mk (spread 43 0 [1, 2, 8, 9] [Ai v4, Au v5, Au v6, Ai v7]) []))
 | _, _ => none

noncomputable def o81 : Nat → Option PSpec := lkN [(6400, fun st _ K => pickM 43 [1, 2, 8, 9] st (o81_6400_in K)), (8000, fun st _ K => pickM 43 [1, 2, 8, 9] st (o81_8000_in K))]
noncomputable def q81 : CallF := evFun (V 81) S79 T66 10

noncomputable def c81_6400 : Code := subC [1, 1, 1, 0, 1, 0, 0] (bodyOf Tryz.f81)

noncomputable def lp81_6400 {R : Type} (N : Nat) (st : St) (K : Ex → St → Option R) : Option R := evLoop (norm ((V 81).keep 81 (Ev.keyOf c81_6400 * 1000 + 400)) 0) (evCode (V 81) q81 o81 81 0 3993 c81_6400) N st (kOut (V 81) 81 0 (Ev.keyOf c81_6400 * 1000 + 401) K)

noncomputable def c81_8000 : Code := subC [1, 1, 1, 0, 1, 0, 0, 1] (bodyOf Tryz.f81)

theorem haystackref06_Block_l6_L_eq {R : Type} (K : Ex → St → Option R) : ∀ N : Nat, (fun (v0 v1 v2 v3 : Int) => lp81_6400 N (St.mk (spread 43 0 [1, 2, 8, 9] [Ai v0, Au v1, Au v2, Ai v3]) []) K) = haystackref06_Block_l6_L (fun v4 => K (Ex.exit 0) (St.mk (spread 43 0 [8] [Au v4]) [])) N
  | 0 => by funext v0 v1 v2 v3; rfl
  | N + 1 => by
    funext v0 v1 v2 v3
    simp only [haystackref06_Block_l6_L]
    rw [← haystackref06_Block_l6_L_eq K N]
    kernel_rfl

theorem p81_6400 : PieceOk (V 81) q81 o81 81 0 (3993, 1, c81_6400) := .l (size := 43) (ss := [1, 2, 8, 9]) (F := @o81_6400_in) (by kernel_rfl) (by kernel_rfl) fun R r K vs hh h => by
  unfold o81_6400_in at h; split at h
  · rw [haystackref06_Block_l6_unf] at h; unfold haystackref06_Block_l6_B at h; rw [← haystackref06_Block_l6_L_eq K NR] at h; exact h
  · cases h

theorem p81_8000 : PieceOk (V 81) q81 o81 81 0 (3992, 0, c81_8000) := .s (size := 43) (ss := [1, 2, 8, 9]) (F := @o81_8000_in) (by kernel_rfl) fun R r K vs hh h => by
  unfold o81_8000_in at h; split at h
  · rw [haystackref06_Block_j8_unf] at h; exact Eq.trans (by kernel_rfl) h
  · cases h

theorem pc81 : ∀ x ∈ [(3993, 1, c81_6400), (3992, 0, c81_8000)], PieceOk (V 81) q81 o81 81 0 x := List.forall_mem_cons.2 ⟨p81_6400, List.forall_mem_cons.2 ⟨p81_8000, fun _ h => nomatch h⟩⟩

noncomputable def sp81 : Ev.Spec := fun args _ K => match args with
 | ([Ai v0, Ai v1, Au v2]) => haystackref06_Block v0 v1 v2 (fun v3 v4 => K (AV.tup [Au v3, Ab v4]))
 | _ => none
noncomputable def S81 := addS 81 sp81 S79
theorem D75 : Dom B0 V S81 T66 75 := Dom.s (m := 74) (n := 0) D74 D74 (O := o81) (OrcOk.fn (fn0 := Tryz.f81) (by kernel_rfl) (by kernel_rfl) pc81) fun args R K r h => by
 unfold sp81 at h; split at h
 · rw [haystackref06_Block_unf] at h; exact Eq.trans (by kernel_rfl) h
 · cases h

noncomputable def o70_6400_in {R : Type} (K : Ex → St → Option R) (vs : List AV) (hh : H) : Option R := match vs, hh with
 | [Ap 0 0, Ap 1 0, AV.sl 2 0 v0 1, Ai v1, Fu v2, Ai v3], [HA [Ai v4, Ai v5, Ai v6, Ai v7, Fu v8, Ai v9, Fu va, AV.fsl (Blk.ints .i64 vb), AV.fsl (Blk.ints .i64 vc)], HA [Ai vd, AV.esl], HO ve] => haystackref08_row_l6 v0 v1 v2 v3 v4 v5 v6 v7 v8 v9 va vb vc vd ve (fun vf => K (Ex.ret) (St.mk (spread 82 0 [2] [Ap 0 0]) [HA [Ai vf, AV.esl]])) (fun vf vg vh => K (Ex.exit 0) (St.mk (spread 82 0 [2, 3] [Ap 0 0, AV.sl 1 0 vf 1]) [HA [Ai vg, AV.esl], HO vh]))
 | _, _ => none

noncomputable def o70_14000_in {R : Type} (K : Ex → St → Option R) (vs : List AV) (hh : H) : Option R := match vs, hh with
 | [Ap 0 0, Ap 1 0, AV.sl 2 0 v0 1, Ai v1, Fu v2, Ai v3, Ai v4, Au v5], [HA [Ai v6, Ai v7, Ai v8, Ai v9, Fu va, Ai vb, Fu vc, AV.fsl (Blk.ints .i64 vd), AV.fsl (Blk.ints .i64 ve)], HA [Ai vf, AV.esl], HO vg] => haystackref08_row_j14 v0 v1 v2 v3 v4 v5 v6 v7 v8 v9 va vb vc vd ve vf vg (fun vh vi vj vk vl vm vn vo vp vq vr vs vt vu vv => K (Ex.normal) (St.mk (spread 82 0 [1, 2, 3, 4, 5, 6] [Ap 0 0, Ap 1 0, AV.sl 2 0 vh 1, Ai vi, Fu vj, Ai vk]) [HA [Ai vl, Ai vm, Ai vn, Ai vo, Fu vp, Ai vq, Fu vr, AV.fsl (Blk.ints .i64 vs), AV.fsl (Blk.ints .i64 vt)], HA [Ai vu, AV.esl], HO vv]))
 | _, _ => none

noncomputable def o70_15400_in {R : Type} (K : Ex → St → Option R) (vs : List AV) (hh : H) : Option R := match vs, hh with
 | [Ap 0 0, Ap 1 0, AV.sl 2 0 v0 1, Ai v1, Fu v2, Ai v3, Ai v4, Au v5, Ai v6], [HA [Ai v7, Ai v8, Ai v9, Ai va, Fu vb, Ai vc, Fu vd, AV.fsl (Blk.ints .i64 ve), AV.fsl (Blk.ints .i64 vf)], HA [Ai vg, AV.esl], HO vh] => haystackref08_row_l15 v0 v1 v2 v3 v4 v5 v6 v7 v8 v9 va vb vc vd ve vf vg vh (fun vi vj vk vl vm vn vo vp vq vr vs vt vu vv vw vx => K (Ex.exit 2) (St.mk (spread 82 0 [1, 2, 3, 4, 5, 6, 8] [Ap 0 0, Ap 1 0, AV.sl 2 0 vi 1, Ai vj, Fu vk, Ai vl, Ai vm]) [HA [Ai vn, Ai vo, Ai vp, Ai vq, Fu vr, Ai vs, Fu vt, AV.fsl (Blk.ints .i64 vu), AV.fsl (Blk.ints .i64 vv)], HA [Ai vw, AV.esl], HO vx]))
 | _, _ => none

noncomputable def o70_17000_in {R : Type} (K : Ex → St → Option R) (vs : List AV) (hh : H) : Option R := match vs, hh with
 | [Ap 0 0, Ap 1 0, AV.sl 2 0 v0 1, Ai v1, Fu v2, Ai v3, Ai v4, Au v5, Ai v6], [HA [Ai v7, Ai v8, Ai v9, Ai va, Fu vb, Ai vc, Fu vd, AV.fsl (Blk.ints .i64 ve), AV.fsl (Blk.ints .i64 vf)], HA [Ai vg, AV.esl], HO vh] => haystackref08_row_j17 v0 v1 v2 v3 v4 v5 v6 v7 v8 v9 va vb vc vd ve vf vg vh (fun vi vj vk vl vm vn vo vp vq vr vs vt vu vv vw vx vy vz => K (Ex.normal) (St.mk (spread 82 0 [1, 2, 3, 4, 5, 6, 8, 11, 13] [Ap 0 0, Ap 1 0, AV.sl 2 0 vi 1, Ai vj, Fu vk, Ai vl, Ai vm, Au vn, Ai vo]) [HA [Ai vp, Ai vq, Ai vr, Ai vs, Fu vt, Ai vu, Fu vv, AV.fsl (Blk.ints .i64 vw), AV.fsl (Blk.ints .i64 vx)], HA [Ai vy, AV.esl], HO vz]))
 | _, _ => none

noncomputable def o70 : Nat → Option PSpec := lkN [(6400, fun st _ K => pickM 82 [1, 2, 3, 4, 5, 6] st (o70_6400_in K)), (14000, fun st _ K => pickM 82 [1, 2, 3, 4, 5, 6, 8, 11] st (o70_14000_in K)), (15400, fun st _ K => pickM 82 [1, 2, 3, 4, 5, 6, 8, 11, 13] st (o70_15400_in K)), (17000, fun st _ K => pickM 82 [1, 2, 3, 4, 5, 6, 8, 11, 13] st (o70_17000_in K))]
noncomputable def q70 : CallF := evFun (V 70) S81 T66 10

noncomputable def c70_6400 : Code := subC [1, 1, 1, 1, 0, 1, 0, 0] (bodyOf Tryz.f70)

noncomputable def lp70_6400 {R : Type} (N : Nat) (st : St) (K : Ex → St → Option R) : Option R := evLoop (norm ((V 70).keep 70 (Ev.keyOf c70_6400 * 1000 + 400)) 0) (evCode (V 70) q70 o70 70 0 3992 c70_6400) N st (kOut (V 70) 70 0 (Ev.keyOf c70_6400 * 1000 + 401) K)

noncomputable def c70_14000 : Code := subC [1, 1, 1, 1, 0, 1, 0, 0, 1, 0, 0, 1, 1, 1, 1, 1] (bodyOf Tryz.f70)

noncomputable def c70_15400 : Code := subC [1, 1, 1, 1, 0, 1, 0, 0, 1, 0, 0, 1, 1, 1, 1, 1, 0, 1, 0, 0] (bodyOf Tryz.f70)

noncomputable def lp70_15400 {R : Type} (N : Nat) (st : St) (K : Ex → St → Option R) : Option R := evLoop (norm ((V 70).keep 70 (Ev.keyOf c70_15400 * 1000 + 400)) 0) (evCode (V 70) q70 o70 70 0 3980 c70_15400) N st (kOut (V 70) 70 0 (Ev.keyOf c70_15400 * 1000 + 401) K)

noncomputable def c70_17000 : Code := subC [1, 1, 1, 1, 0, 1, 0, 0, 1, 0, 0, 1, 1, 1, 1, 1, 0, 1, 0, 0, 1] (bodyOf Tryz.f70)

theorem haystackref08_row_l15_L_eq {R : Type} (K : Ex → St → Option R) : ∀ N : Nat, (fun (v0 : Nat) (v1 : Int) (v2 : List Int) (v3 v4 v5 v6 v7 v8 v9 va : Int) (vb : List Int) (vc : Int) (vd ve vf : List Int) (vg : Int) (vh : List Bool) => lp70_15400 N (St.mk (spread 82 0 [1, 2, 3, 4, 5, 6, 8, 11, 13] [Ap 0 0, Ap 1 0, AV.sl 2 0 v0 1, Ai v1, Fu v2, Ai v3, Ai v4, Au v5, Ai v6]) [HA [Ai v7, Ai v8, Ai v9, Ai va, Fu vb, Ai vc, Fu vd, AV.fsl (Blk.ints .i64 ve), AV.fsl (Blk.ints .i64 vf)], HA [Ai vg, AV.esl], HO vh]) K) = haystackref08_row_l15_L (fun vi vj vk vl vm vn vo vp vq vr vs vt vu vv vw vx => K (Ex.exit 2) (St.mk (spread 82 0 [1, 2, 3, 4, 5, 6, 8] [Ap 0 0, Ap 1 0, AV.sl 2 0 vi 1, Ai vj, Fu vk, Ai vl, Ai vm]) [HA [Ai vn, Ai vo, Ai vp, Ai vq, Fu vr, Ai vs, Fu vt, AV.fsl (Blk.ints .i64 vu), AV.fsl (Blk.ints .i64 vv)], HA [Ai vw, AV.esl], HO vx])) N
  | 0 => by funext v0 v1 v2 v3 v4 v5 v6 v7 v8 v9 va vb vc vd ve vf vg vh; rfl
  | N + 1 => by
    funext v0 v1 v2 v3 v4 v5 v6 v7 v8 v9 va vb vc vd ve vf vg vh
    simp only [haystackref08_row_l15_L]
    rw [← haystackref08_row_l15_L_eq K N]
    kernel_rfl

theorem haystackref08_row_l6_L_eq {R : Type} (K : Ex → St → Option R) : ∀ N : Nat, (fun (v0 : Nat) (v1 : Int) (v2 : List Int) (v3 v4 v5 v6 v7 : Int) (v8 : List Int) (v9 : Int) (va vb vc : List Int) (vd : Int) (ve : List Bool) => lp70_6400 N (St.mk (spread 82 0 [1, 2, 3, 4, 5, 6] [Ap 0 0, Ap 1 0, AV.sl 2 0 v0 1, Ai v1, Fu v2, Ai v3]) [HA [Ai v4, Ai v5, Ai v6, Ai v7, Fu v8, Ai v9, Fu va, AV.fsl (Blk.ints .i64 vb), AV.fsl (Blk.ints .i64 vc)], HA [Ai vd, AV.esl], HO ve]) K) = haystackref08_row_l6_L (fun vf => K (Ex.ret) (St.mk (spread 82 0 [2] [Ap 0 0]) [HA [Ai vf, AV.esl]])) (fun vf vg vh => K (Ex.exit 0) (St.mk (spread 82 0 [2, 3] [Ap 0 0, AV.sl 1 0 vf 1]) [HA [Ai vg, AV.esl], HO vh])) N
  | 0 => by funext v0 v1 v2 v3 v4 v5 v6 v7 v8 v9 va vb vc vd ve; rfl
  | N + 1 => by
    funext v0 v1 v2 v3 v4 v5 v6 v7 v8 v9 va vb vc vd ve
    simp only [haystackref08_row_l6_L]
    rw [← haystackref08_row_l6_L_eq K N]
    kernel_rfl

theorem p70_6400 : PieceOk (V 70) q70 o70 70 0 (3992, 1, c70_6400) := .l (size := 82) (ss := [1, 2, 3, 4, 5, 6]) (F := @o70_6400_in) (by kernel_rfl) (by kernel_rfl) fun R r K vs hh h => by
  unfold o70_6400_in at h; split at h
  · rw [haystackref08_row_l6_unf] at h; unfold haystackref08_row_l6_B at h; rw [← haystackref08_row_l6_L_eq K NR] at h; exact h
  · cases h

theorem p70_14000 : PieceOk (V 70) q70 o70 70 0 (3984, 0, c70_14000) := .s (size := 82) (ss := [1, 2, 3, 4, 5, 6, 8, 11]) (F := @o70_14000_in) (by kernel_rfl) fun R r K vs hh h => by
  unfold o70_14000_in at h; split at h
  · rw [haystackref08_row_j14_unf] at h; exact Eq.trans (by kernel_rfl) h
  · cases h

theorem p70_15400 : PieceOk (V 70) q70 o70 70 0 (3980, 1, c70_15400) := .l (size := 82) (ss := [1, 2, 3, 4, 5, 6, 8, 11, 13]) (F := @o70_15400_in) (by kernel_rfl) (by kernel_rfl) fun R r K vs hh h => by
  unfold o70_15400_in at h; split at h
  · rw [haystackref08_row_l15_unf] at h; unfold haystackref08_row_l15_B at h; rw [← haystackref08_row_l15_L_eq K NR] at h; exact h
  · cases h

theorem p70_17000 : PieceOk (V 70) q70 o70 70 0 (3979, 0, c70_17000) := .s (size := 82) (ss := [1, 2, 3, 4, 5, 6, 8, 11, 13]) (F := @o70_17000_in) (by kernel_rfl) fun R r K vs hh h => by
  unfold o70_17000_in at h; split at h
  · rw [haystackref08_row_j17_unf] at h; exact Eq.trans (by kernel_rfl) h
  · cases h

theorem pc70 : ∀ x ∈ [(3992, 1, c70_6400), (3984, 0, c70_14000), (3980, 1, c70_15400), (3979, 0, c70_17000)], PieceOk (V 70) q70 o70 70 0 x := List.forall_mem_cons.2 ⟨p70_6400, List.forall_mem_cons.2 ⟨p70_14000, List.forall_mem_cons.2 ⟨p70_15400, List.forall_mem_cons.2 ⟨p70_17000, fun _ h => nomatch h⟩⟩⟩⟩

noncomputable def sp70 : Ev.Spec := fun args _ K => match args with
 | ([AV.agg (Blk.any [Ai v0, Ai v1, Ai v2, Ai v3, Fu v4, Ai v5, Fu v6, AV.fsl (Blk.ints .i64 v7), AV.fsl (Blk.ints .i64 v8)])]) => haystackref08_row v0 v1 v2 v3 v4 v5 v6 v7 v8 (fun v9 va => K (AV.agg (Blk.any [Ai v9, Fu va])))
 | _ => none
noncomputable def S70 := addS 70 sp70 S81
theorem D76 : Dom B0 V S70 T66 76 := Dom.s (m := 75) (n := 0) D75 D75 (O := o70) (OrcOk.fn (fn0 := Tryz.f70) (by kernel_rfl) (by kernel_rfl) pc70) fun args R K r h => by
 unfold sp70 at h; split at h
 · rw [haystackref08_row_unf] at h; exact Eq.trans (by kernel_rfl) h
 · cases h

noncomputable def o40_3000_in {R : Type} (K : Ex → St → Option R) (vs : List AV) (hh : H) : Option R := match vs, hh with
 | [Ap 0 0, Ap 1 0, Ab v0], [HA [Ai v1, Ai v2, Ai v3, Ai v4, Fu v5, Ai v6, Fu v7, AV.fsl (Blk.ints .i64 v8), AV.fsl (Blk.ints .i64 v9)], HA [Ai va, AV.esl]] => haystackref08_Whole_j3 v0 v1 v2 v3 v4 v5 v6 v7 v8 v9 va (fun vb vc => K (Ex.ret) (St.mk (spread 41 0 [2, 3] [Ap 0 0, Ab vb]) [HA [Ai vc, AV.esl]])) (fun vb vc vd ve vf vg vh vi vj vk => K (Ex.normal) (St.mk (spread 41 0 [1, 2] [Ap 0 0, Ap 1 0]) [HA [Ai vb, Ai vc, Ai vd, Ai ve, Fu vf, Ai vg, Fu vh, AV.fsl (Blk.ints .i64 vi), AV.fsl (Blk.ints .i64 vj)], HA [Ai vk, AV.esl]]))
 | _, _ => none

noncomputable def o40_4000_in {R : Type} (K : Ex → St → Option R) (vs : List AV) (hh : H) : Option R := match vs, hh with
 | [Ap 0 0, Ap 1 0], [HA [Ai v0, Ai v1, Ai v2, Ai v3, Fu v4, Ai v5, Fu v6, AV.fsl (Blk.ints .i64 v7), AV.fsl (Blk.ints .i64 v8)], HA [Ai v9, AV.esl]] => haystackref08_Whole_j4 v0 v1 v2 v3 v4 v5 v6 v7 v8 v9 (fun va vb => K (Ex.ret) (St.mk (spread 41 0 [2, 3] [Ap 0 0, Ab va]) [HA [Ai vb, AV.esl]])) (fun va vb vc => K (Ex.ret) (St.mk (spread 41 0 [2, 3] [Ap 0 0, Ab va]) [HA [Ai vb, Fu vc]]))
 | _, _ => none

noncomputable def o40 : Nat → Option PSpec := lkN [(3000, fun st _ K => pickM 41 [1, 2, 26] st (o40_3000_in K)), (4000, fun st _ K => pickM 41 [1, 2] st (o40_4000_in K))]
noncomputable def q40 : CallF := evFun (V 40) S70 T66 10

noncomputable def c40_4000 : Code := subC [1, 1] (bodyOf Tryz.f40)

noncomputable def c40_3000 : Code := subC [1, 0, 1] (bodyOf Tryz.f40)

theorem p40_4000 : PieceOk (V 40) q40 o40 40 0 (3998, 0, c40_4000) := .s (size := 41) (ss := [1, 2]) (F := @o40_4000_in) (by kernel_rfl) fun R r K vs hh h => by
  unfold o40_4000_in at h; split at h
  · rw [haystackref08_Whole_j4_unf] at h; exact Eq.trans (by kernel_rfl) h
  · cases h

theorem p40_3000 : PieceOk (V 40) q40 o40 40 0 (3997, 0, c40_3000) := .s (size := 41) (ss := [1, 2, 26]) (F := @o40_3000_in) (by kernel_rfl) fun R r K vs hh h => by
  unfold o40_3000_in at h; split at h
  · rw [haystackref08_Whole_j3_unf] at h; exact Eq.trans (by kernel_rfl) h
  · cases h

theorem pc40 : ∀ x ∈ [(3998, 0, c40_4000), (3997, 0, c40_3000)], PieceOk (V 40) q40 o40 40 0 x := List.forall_mem_cons.2 ⟨p40_4000, List.forall_mem_cons.2 ⟨p40_3000, fun _ h => nomatch h⟩⟩

theorem haystackref08_Whole_eq {R : Type} (K : AV → Option R) (v0 v1 v2 v3 : Int) (v4 : List Int) (v5 : Int) (v6 v7 v8 : List Int) : evSpec (V 40) S70 T66 o40 10 40 ([AV.agg (Blk.any [Ai v0, Ai v1, Ai v2, Ai v3, Fu v4, Ai v5, Fu v6, AV.fsl (Blk.ints .i64 v7), AV.fsl (Blk.ints .i64 v8)])]) R K = haystackref08_Whole_B v0 v1 v2 v3 v4 v5 v6 v7 v8 (fun v9 va vb => K (AV.tup [AV.agg (Blk.any [Ai v9, Fu va]), Ab vb])) := by kernel_rfl

noncomputable def sp40 : Ev.Spec := fun args _ K => match args with
 | ([AV.agg (Blk.any [Ai v0, Ai v1, Ai v2, Ai v3, Fu v4, Ai v5, Fu v6, AV.fsl (Blk.ints .i64 v7), AV.fsl (Blk.ints .i64 v8)])]) => haystackref08_Whole v0 v1 v2 v3 v4 v5 v6 v7 v8 (fun v9 va vb => K (AV.tup [AV.agg (Blk.any [Ai v9, Fu va]), Ab vb]))
 | _ => none
noncomputable def S40 := addS 40 sp40 S70
theorem D77 : Dom B0 V S40 T66 77 := Dom.s (m := 76) (n := 0) D76 D76 (O := o40) (OrcOk.fn (fn0 := Tryz.f40) (by kernel_rfl) (by kernel_rfl) pc40) fun args R K r h => by
 unfold sp40 at h; split at h
 · rw [haystackref08_Whole_unf] at h; exact (haystackref08_Whole_eq K _ _ _ _ _ _ _ _ _).trans h
 · cases h

noncomputable def sp19 : Ev.Spec := fun args _ K => match args with
 | ([AV.agg (Blk.any [Ai v0, Ai v1, Ai v2, Ai v3, Fu v4, Ai v5, Fu v6, AV.fsl (Blk.ints .i64 v7), AV.fsl (Blk.ints .i64 v8)])]) => haystackref08_Check v0 v1 v2 v3 v4 v5 v6 v7 v8 (fun v9 => K (Ab v9))
 | _ => none
noncomputable def S19 := addS 19 sp19 S40
theorem D78 : Dom B0 V S19 T66 78 := Dom.s (m := 77) (n := 0) D77 D77 (O := (fun _ => none)) (fun _ _ _ _ => OrcOk.none _ _) fun args R K r h => by
 unfold sp19 at h; split at h
 · rw [haystackref08_Check_unf] at h; exact Eq.trans (by kernel_rfl) h
 · cases h

noncomputable def sp10 : Ev.Spec := fun args _ K => match args with
 | ([AV.agg (Blk.any [Ai v0, Ai v1, Ai v2, Ai v3, Fu v4, Ai v5, Fu v6, AV.fsl (Blk.ints .i64 v7), AV.fsl (Blk.ints .i64 v8)])]) => haystackref08_Size v0 v1 v2 v3 v4 v5 v6 v7 v8 (fun v9 => K (Ai v9))
 | _ => none
noncomputable def S10 := addS 10 sp10 S19
theorem D79 : Dom B0 V S10 T66 79 := Dom.s (m := 78) (n := 0) D78 D78 (O := (fun _ => none)) (fun _ _ _ _ => OrcOk.none _ _) fun args R K r h => by
 unfold sp10 at h; split at h
 · rw [haystackref08_Size_unf] at h; exact Eq.trans (by kernel_rfl) h
 · cases h

noncomputable def o3_4000_in {R : Type} (K : Ex → St → Option R) (vs : List AV) (hh : H) : Option R := match vs, hh with
 | [Ap 0 0], [HA [Ai v0, Fu v1]] => haystacklaw08_RrrBuilds_j4 v0 v1 (fun v2 => K (Ex.ret) (St.mk (spread 45 0 [2] [Ab v2]) []))
 | _, _ => none

noncomputable def o3 : Nat → Option PSpec := lkN [(4000, fun st _ K => pickM 45 [1] st (o3_4000_in K))]
noncomputable def q3 : CallF := evFun (V 3) S10 T66 10

noncomputable def c3_4000 : Code := subC [1, 1] (bodyOf Tryz.f3)

theorem p3_4000 : PieceOk (V 3) q3 o3 3 0 (3998, 0, c3_4000) := .s (size := 45) (ss := [1]) (F := @o3_4000_in) (by kernel_rfl) fun R r K vs hh h => by
  unfold o3_4000_in at h; split at h
  · rw [haystacklaw08_RrrBuilds_j4_unf] at h; exact Eq.trans (by kernel_rfl) h
  · cases h

theorem pc3 : ∀ x ∈ [(3998, 0, c3_4000)], PieceOk (V 3) q3 o3 3 0 x := List.forall_mem_cons.2 ⟨p3_4000, fun _ h => nomatch h⟩

noncomputable def sp3 : Ev.Spec := fun args _ K => match args with
 | ([AV.agg (Blk.any [Ai v0, Fu v1])]) => haystacklaw08_RrrBuilds v0 v1 (fun v2 => K (Ab v2))
 | _ => none
noncomputable def S3 := addS 3 sp3 S10
theorem D80 : Dom B0 V S3 T66 80 := Dom.s (m := 79) (n := 0) D79 D79 (O := o3) (OrcOk.fn (fn0 := Tryz.f3) (by kernel_rfl) (by kernel_rfl) pc3) fun args R K r h => by
 unfold sp3 at h; split at h
 · rw [haystacklaw08_RrrBuilds_unf] at h; exact Eq.trans (by kernel_rfl) h
 · cases h

noncomputable def sp11 : Ev.Spec := fun args _ K => match args with
 | ([AV.agg (Blk.any [Ai v0, Ai v1, Ai v2, Ai v3, Fu v4, Ai v5, Fu v6, AV.fsl (Blk.ints .i64 v7), AV.fsl (Blk.ints .i64 v8)])]) => haystacklaw08_small v0 v1 v2 v3 v4 v5 v6 v7 v8 (fun v9 => K (Ab v9))
 | _ => none
noncomputable def S11 := addS 11 sp11 S3
theorem D81 : Dom B0 V S11 T66 81 := Dom.s (m := 80) (n := 0) D80 D80 (O := (fun _ => none)) (fun _ _ _ _ => OrcOk.none _ _) fun args R K r h => by
 unfold sp11 at h; split at h
 · rw [haystacklaw08_small_unf] at h; exact Eq.trans (by kernel_rfl) h
 · cases h

noncomputable def o41_6000_in {R : Type} (K : Ex → St → Option R) (vs : List AV) (hh : H) : Option R := match vs, hh with
 | [Ai v0, Ap 0 0], [HA [Ai v1, Fu v2]] => haystackref02_Get_j6 v0 v1 v2 (fun v3 v4 => K (Ex.ret) (St.mk (spread 20 0 [4, 5] [Ab v3, Ai v4]) []))
 | _, _ => none

noncomputable def o41 : Nat → Option PSpec := lkN [(6000, fun st _ K => pickM 20 [1, 2] st (o41_6000_in K))]
noncomputable def q41 : CallF := evFun (V 41) S11 T66 10

noncomputable def c41_6000 : Code := subC [1, 1, 1] (bodyOf Tryz.f41)

theorem p41_6000 : PieceOk (V 41) q41 o41 41 0 (3997, 0, c41_6000) := .s (size := 20) (ss := [1, 2]) (F := @o41_6000_in) (by kernel_rfl) fun R r K vs hh h => by
  unfold o41_6000_in at h; split at h
  · rw [haystackref02_Get_j6_unf] at h; exact Eq.trans (by kernel_rfl) h
  · cases h

theorem pc41 : ∀ x ∈ [(3997, 0, c41_6000)], PieceOk (V 41) q41 o41 41 0 x := List.forall_mem_cons.2 ⟨p41_6000, fun _ h => nomatch h⟩

noncomputable def sp41 : Ev.Spec := fun args _ K => match args with
 | ([AV.agg (Blk.any [Ai v0, Fu v1]), Ai v2]) => haystackref02_Get v0 v1 v2 (fun v3 v4 => K (AV.tup [Ab v3, Ai v4]))
 | _ => none
noncomputable def S41 := addS 41 sp41 S11
theorem D82 : Dom B0 V S41 T66 82 := Dom.s (m := 81) (n := 0) D81 D81 (O := o41) (OrcOk.fn (fn0 := Tryz.f41) (by kernel_rfl) (by kernel_rfl) pc41) fun args R K r h => by
 unfold sp41 at h; split at h
 · rw [haystackref02_Get_unf] at h; exact Eq.trans (by kernel_rfl) h
 · cases h

noncomputable def sp13 : Ev.Spec := fun args _ K => match args with
 | ([AV.agg (Blk.any [Ai v0, Ai v1, Ai v2, Ai v3, Fu v4, Ai v5, Fu v6, AV.fsl (Blk.ints .i64 v7), AV.fsl (Blk.ints .i64 v8)]), Ai v9]) => haystackref08_Access v0 v1 v2 v3 v4 v5 v6 v7 v8 v9 (fun va vb => K (AV.tup [Ab va, Ai vb]))
 | _ => none
noncomputable def S13 := addS 13 sp13 S41
theorem D83 : Dom B0 V S13 T66 83 := Dom.s (m := 82) (n := 0) D82 D82 (O := (fun _ => none)) (fun _ _ _ _ => OrcOk.none _ _) fun args R K r h => by
 unfold sp13 at h; split at h
 · rw [haystackref08_Access_unf] at h; exact Eq.trans (by kernel_rfl) h
 · cases h

noncomputable def o43_4400_in {R : Type} (K : Ex → St → Option R) (vs : List AV) (hh : H) : Option R := match vs, hh with
 | [Ai v0, Ap 0 0, Ai v1, Ai v2], [HA [Ai v3, Fu v4]] => haystackref02_Ones_l4 v0 v1 v2 v3 v4 (fun v5 => K (Ex.exit 0) (St.mk (spread 28 0 [5] [Ai v5]) []))
 | _, _ => none

noncomputable def o43_6000_in {R : Type} (K : Ex → St → Option R) (vs : List AV) (hh : H) : Option R := match vs, hh with
 | [Ai v0, Ap 0 0, Ai v1, Ai v2], [HA [Ai v3, Fu v4]] => haystackref02_Ones_j6 v0 v1 v2 v3 v4 (fun v5 v6 v7 v8 v9 => K (Ex.normal) (St.mk (spread 28 0 [1, 2, 5, 6] [Ai v5, Ap 0 0, Ai v6, Ai v7]) [HA [Ai v8, Fu v9]]))
 | _, _ => none

noncomputable def o43 : Nat → Option PSpec := lkN [(4400, fun st _ K => pickM 28 [1, 2, 5, 6] st (o43_4400_in K)), (6000, fun st _ K => pickM 28 [1, 2, 5, 6] st (o43_6000_in K))]
noncomputable def q43 : CallF := evFun (V 43) S13 T66 10

noncomputable def c43_4400 : Code := subC [1, 1, 0, 1, 0, 0] (bodyOf Tryz.f43)

noncomputable def lp43_4400 {R : Type} (N : Nat) (st : St) (K : Ex → St → Option R) : Option R := evLoop (norm ((V 43).keep 43 (Ev.keyOf c43_4400 * 1000 + 400)) 0) (evCode (V 43) q43 o43 43 0 3994 c43_4400) N st (kOut (V 43) 43 0 (Ev.keyOf c43_4400 * 1000 + 401) K)

noncomputable def c43_6000 : Code := subC [1, 1, 0, 1, 0, 0, 1] (bodyOf Tryz.f43)

theorem haystackref02_Ones_l4_L_eq {R : Type} (K : Ex → St → Option R) : ∀ N : Nat, (fun (v0 v1 v2 v3 : Int) (v4 : List Int) => lp43_4400 N (St.mk (spread 28 0 [1, 2, 5, 6] [Ai v0, Ap 0 0, Ai v1, Ai v2]) [HA [Ai v3, Fu v4]]) K) = haystackref02_Ones_l4_L (fun v5 => K (Ex.exit 0) (St.mk (spread 28 0 [5] [Ai v5]) [])) N
  | 0 => by funext v0 v1 v2 v3 v4; rfl
  | N + 1 => by
    funext v0 v1 v2 v3 v4
    simp only [haystackref02_Ones_l4_L]
    rw [← haystackref02_Ones_l4_L_eq K N]
    kernel_rfl

theorem p43_4400 : PieceOk (V 43) q43 o43 43 0 (3994, 1, c43_4400) := .l (size := 28) (ss := [1, 2, 5, 6]) (F := @o43_4400_in) (by kernel_rfl) (by kernel_rfl) fun R r K vs hh h => by
  unfold o43_4400_in at h; split at h
  · rw [haystackref02_Ones_l4_unf] at h; unfold haystackref02_Ones_l4_B at h; rw [← haystackref02_Ones_l4_L_eq K NR] at h; exact h
  · cases h

theorem p43_6000 : PieceOk (V 43) q43 o43 43 0 (3993, 0, c43_6000) := .s (size := 28) (ss := [1, 2, 5, 6]) (F := @o43_6000_in) (by kernel_rfl) fun R r K vs hh h => by
  unfold o43_6000_in at h; split at h
  · rw [haystackref02_Ones_j6_unf] at h; exact Eq.trans (by kernel_rfl) h
  · cases h

theorem pc43 : ∀ x ∈ [(3994, 1, c43_4400), (3993, 0, c43_6000)], PieceOk (V 43) q43 o43 43 0 x := List.forall_mem_cons.2 ⟨p43_4400, List.forall_mem_cons.2 ⟨p43_6000, fun _ h => nomatch h⟩⟩

noncomputable def sp43 : Ev.Spec := fun args _ K => match args with
 | ([AV.agg (Blk.any [Ai v0, Fu v1]), Ai v2]) => haystackref02_Ones v0 v1 v2 (fun v3 => K (Ai v3))
 | _ => none
noncomputable def S43 := addS 43 sp43 S13
theorem D84 : Dom B0 V S43 T66 84 := Dom.s (m := 83) (n := 0) D83 D83 (O := o43) (OrcOk.fn (fn0 := Tryz.f43) (by kernel_rfl) (by kernel_rfl) pc43) fun args R K r h => by
 unfold sp43 at h; split at h
 · rw [haystackref02_Ones_unf] at h; exact Eq.trans (by kernel_rfl) h
 · cases h

noncomputable def o15_7000_in {R : Type} (K : Ex → St → Option R) (vs : List AV) (hh : H) : Option R := match vs, hh with
 | [Ab v0, Ai v1, Ap 0 0], [HA [Ai v2, Fu v3]] => haystackref08_Rank_j7 v0 v1 v2 v3 (fun v4 v5 => K (Ex.ret) (St.mk (spread 35 0 [6, 7] [Ai v4, Ai v5]) []))
 | _, _ => none

noncomputable def o15 : Nat → Option PSpec := lkN [(7000, fun st _ K => pickM 35 [1, 2, 8] st (o15_7000_in K))]
noncomputable def q15 : CallF := evFun (V 15) S43 T66 10

noncomputable def c15_7000 : Code := subC [1, 1, 1, 1] (bodyOf Tryz.f15)

theorem p15_7000 : PieceOk (V 15) q15 o15 15 0 (3996, 0, c15_7000) := .s (size := 35) (ss := [1, 2, 8]) (F := @o15_7000_in) (by kernel_rfl) fun R r K vs hh h => by
  unfold o15_7000_in at h; split at h
  · rw [haystackref08_Rank_j7_unf] at h; exact Eq.trans (by kernel_rfl) h
  · cases h

theorem pc15 : ∀ x ∈ [(3996, 0, c15_7000)], PieceOk (V 15) q15 o15 15 0 x := List.forall_mem_cons.2 ⟨p15_7000, fun _ h => nomatch h⟩

noncomputable def sp15 : Ev.Spec := fun args _ K => match args with
 | ([AV.agg (Blk.any [Ai v0, Ai v1, Ai v2, Ai v3, Fu v4, Ai v5, Fu v6, AV.fsl (Blk.ints .i64 v7), AV.fsl (Blk.ints .i64 v8)]), Ab v9, Ai va]) => haystackref08_Rank v0 v1 v2 v3 v4 v5 v6 v7 v8 v9 va (fun vb vc => K (AV.tup [Ai vb, Ai vc]))
 | _ => none
noncomputable def S15 := addS 15 sp15 S43
theorem D85 : Dom B0 V S15 T66 85 := Dom.s (m := 84) (n := 0) D84 D84 (O := o15) (OrcOk.fn (fn0 := Tryz.f15) (by kernel_rfl) (by kernel_rfl) pc15) fun args R K r h => by
 unfold sp15 at h; split at h
 · rw [haystackref08_Rank_unf] at h; exact Eq.trans (by kernel_rfl) h
 · cases h

noncomputable def o17_7400_in {R : Type} (K : Ex → St → Option R) (vs : List AV) (hh : H) : Option R := match vs, hh with
 | [Ab v0, Ai v1, Ap 0 0, Ai v2, Ai v3], [HA [Ai v4, Fu v5]] => haystackref08_Select_l7 v0 v1 v2 v3 v4 v5 (fun v6 v7 => K (Ex.ret) (St.mk (spread 36 0 [6, 7] [Ai v6, Ai v7]) [])) (fun _ => K (Ex.exit 0) (St.mk (spread 36 0 [] []) []))
 | _, _ => none

noncomputable def o17 : Nat → Option PSpec := lkN [(7400, fun st _ K => pickM 36 [1, 2, 8, 10, 11] st (o17_7400_in K))]
noncomputable def q17 : CallF := evFun (V 17) S15 T66 10

noncomputable def c17_7400 : Code := subC [1, 1, 1, 1, 0, 1, 0, 0] (bodyOf Tryz.f17)

noncomputable def lp17_7400 {R : Type} (N : Nat) (st : St) (K : Ex → St → Option R) : Option R := evLoop (norm ((V 17).keep 17 (Ev.keyOf c17_7400 * 1000 + 400)) 0) (evCode (V 17) q17 o17 17 0 3992 c17_7400) N st (kOut (V 17) 17 0 (Ev.keyOf c17_7400 * 1000 + 401) K)

theorem haystackref08_Select_l7_L_eq {R : Type} (K : Ex → St → Option R) : ∀ N : Nat, (fun (v0 : Bool) (v1 v2 v3 v4 : Int) (v5 : List Int) => lp17_7400 N (St.mk (spread 36 0 [1, 2, 8, 10, 11] [Ab v0, Ai v1, Ap 0 0, Ai v2, Ai v3]) [HA [Ai v4, Fu v5]]) K) = haystackref08_Select_l7_L (fun v6 v7 => K (Ex.ret) (St.mk (spread 36 0 [6, 7] [Ai v6, Ai v7]) [])) (fun _ => K (Ex.exit 0) (St.mk (spread 36 0 [] []) [])) N
  | 0 => by funext v0 v1 v2 v3 v4 v5; rfl
  | N + 1 => by
    funext v0 v1 v2 v3 v4 v5
    simp only [haystackref08_Select_l7_L]
    rw [← haystackref08_Select_l7_L_eq K N]
    kernel_rfl

theorem p17_7400 : PieceOk (V 17) q17 o17 17 0 (3992, 1, c17_7400) := .l (size := 36) (ss := [1, 2, 8, 10, 11]) (F := @o17_7400_in) (by kernel_rfl) (by kernel_rfl) fun R r K vs hh h => by
  unfold o17_7400_in at h; split at h
  · rw [haystackref08_Select_l7_unf] at h; unfold haystackref08_Select_l7_B at h; rw [← haystackref08_Select_l7_L_eq K NR] at h; exact h
  · cases h

theorem pc17 : ∀ x ∈ [(3992, 1, c17_7400)], PieceOk (V 17) q17 o17 17 0 x := List.forall_mem_cons.2 ⟨p17_7400, fun _ h => nomatch h⟩

noncomputable def sp17 : Ev.Spec := fun args _ K => match args with
 | ([AV.agg (Blk.any [Ai v0, Ai v1, Ai v2, Ai v3, Fu v4, Ai v5, Fu v6, AV.fsl (Blk.ints .i64 v7), AV.fsl (Blk.ints .i64 v8)]), Ab v9, Ai va]) => haystackref08_Select v0 v1 v2 v3 v4 v5 v6 v7 v8 v9 va (fun vb vc => K (AV.tup [Ai vb, Ai vc]))
 | _ => none
noncomputable def S17 := addS 17 sp17 S15
theorem D86 : Dom B0 V S17 T66 86 := Dom.s (m := 85) (n := 0) D85 D85 (O := o17) (OrcOk.fn (fn0 := Tryz.f17) (by kernel_rfl) (by kernel_rfl) pc17) fun args R K r h => by
 unfold sp17 at h; split at h
 · rw [haystackref08_Select_unf] at h; exact Eq.trans (by kernel_rfl) h
 · cases h

noncomputable def sp22 : Ev.Spec := fun args _ K => match args with
 | ([AV.agg (Blk.any [Ai v0, Ai v1, Ai v2, Ai v3, Fu v4, Ai v5, Fu v6, AV.fsl (Blk.ints .i64 v7), AV.fsl (Blk.ints .i64 v8)])]) => haystackref08_Bits v0 v1 v2 v3 v4 v5 v6 v7 v8 (fun v9 va => K (AV.agg (Blk.any [Ai v9, Fu va])))
 | _ => none
noncomputable def S22 := addS 22 sp22 S17
theorem D87 : Dom B0 V S22 T66 87 := Dom.s (m := 86) (n := 0) D86 D86 (O := (fun _ => none)) (fun _ _ _ _ => OrcOk.none _ _) fun args R K r h => by
 unfold sp22 at h; split at h
 · rw [haystackref08_Bits_unf] at h; exact Eq.trans (by kernel_rfl) h
 · cases h

noncomputable def o4_5000_in {R : Type} (K : Ex → St → Option R) (vs : List AV) (hh : H) : Option R := match vs, hh with
 | [Ab v0, Ai v1, Ap 0 0, Ab v2, Ai v3], [HA [Ai v4, Ai v5, Ai v6, Ai v7, Fu v8, Ai v9, Fu va, AV.fsl (Blk.ints .i64 vb), AV.fsl (Blk.ints .i64 vc)]] => haystacklaw08_RrrTells_j5 v0 v1 v2 v3 v4 v5 v6 v7 v8 v9 va vb vc (fun vd => K (Ex.ret) (St.mk (spread 113 0 [6] [Ab vd]) []))
 | _, _ => none

noncomputable def o4_12000_in {R : Type} (K : Ex → St → Option R) (vs : List AV) (hh : H) : Option R := match vs, hh with
 | [Ap 0 0], [HA [Ai v0, Ai v1, Ai v2, Ai v3, Fu v4, Ai v5, Fu v6, AV.fsl (Blk.ints .i64 v7), AV.fsl (Blk.ints .i64 v8)]] => haystacklaw08_RrrTells_j12 v0 v1 v2 v3 v4 v5 v6 v7 v8 (fun v9 => K (Ex.ret) (St.mk (spread 113 0 [6] [Ab v9]) []))
 | _, _ => none

noncomputable def o4 : Nat → Option PSpec := lkN [(5000, fun st _ K => pickM 113 [1, 2, 3, 7, 8] st (o4_5000_in K)), (12000, fun st _ K => pickM 113 [3] st (o4_12000_in K))]
noncomputable def q4 : CallF := evFun (V 4) S22 T66 10

noncomputable def c4_5000 : Code := subC [1, 1, 1] (bodyOf Tryz.f4)

noncomputable def c4_12000 : Code := subC [1, 1, 1, 1, 1, 1, 1, 1, 1] (bodyOf Tryz.f4)

theorem haystacklaw08_RrrTells_j5_eq {R : Type} (K : Ex → St → Option R) (v0 : Bool) (v1 : Int) (v2 : Bool) (v3 v4 v5 v6 v7 : Int) (v8 : List Int) (v9 : Int) (va vb vc : List Int) : evCode (V 4) q4 o4 4 0 3997 c4_5000 (St.mk (spread 113 0 [1, 2, 3, 7, 8] [Ab v0, Ai v1, Ap 0 0, Ab v2, Ai v3]) [HA [Ai v4, Ai v5, Ai v6, Ai v7, Fu v8, Ai v9, Fu va, AV.fsl (Blk.ints .i64 vb), AV.fsl (Blk.ints .i64 vc)]]) (kOut (V 4) 4 0 (Ev.keyOf c4_5000 * 1000 + 1) K) = haystacklaw08_RrrTells_j5_B v0 v1 v2 v3 v4 v5 v6 v7 v8 v9 va vb vc (fun vd => K (Ex.ret) (St.mk (spread 113 0 [6] [Ab vd]) [])) := by kernel_rfl

theorem p4_5000 : PieceOk (V 4) q4 o4 4 0 (3997, 0, c4_5000) := .s (size := 113) (ss := [1, 2, 3, 7, 8]) (F := @o4_5000_in) (by kernel_rfl) fun R r K vs hh h => by
  unfold o4_5000_in at h; split at h
  · rw [haystacklaw08_RrrTells_j5_unf] at h; exact (haystacklaw08_RrrTells_j5_eq K _ _ _ _ _ _ _ _ _ _ _ _ _).trans h
  · cases h

theorem p4_12000 : PieceOk (V 4) q4 o4 4 0 (3991, 0, c4_12000) := .s (size := 113) (ss := [3]) (F := @o4_12000_in) (by kernel_rfl) fun R r K vs hh h => by
  unfold o4_12000_in at h; split at h
  · rw [haystacklaw08_RrrTells_j12_unf] at h; exact Eq.trans (by kernel_rfl) h
  · cases h

theorem pc4 : ∀ x ∈ [(3997, 0, c4_5000), (3991, 0, c4_12000)], PieceOk (V 4) q4 o4 4 0 x := List.forall_mem_cons.2 ⟨p4_5000, List.forall_mem_cons.2 ⟨p4_12000, fun _ h => nomatch h⟩⟩

noncomputable def sp4 : Ev.Spec := fun args _ K => match args with
 | ([AV.agg (Blk.any [Ai v0, Ai v1, Ai v2, Ai v3, Fu v4, Ai v5, Fu v6, AV.fsl (Blk.ints .i64 v7), AV.fsl (Blk.ints .i64 v8)]), Ab v9, Ai va]) => haystacklaw08_RrrTells v0 v1 v2 v3 v4 v5 v6 v7 v8 v9 va (fun vb => K (Ab vb))
 | _ => none
noncomputable def S4 := addS 4 sp4 S22
theorem D88 : Dom B0 V S4 T66 88 := Dom.s (m := 87) (n := 0) D87 D87 (O := o4) (OrcOk.fn (fn0 := Tryz.f4) (by kernel_rfl) (by kernel_rfl) pc4) fun args R K r h => by
 unfold sp4 at h; split at h
 · rw [haystacklaw08_RrrTells_unf] at h; exact Eq.trans (by kernel_rfl) h
 · cases h

theorem ok3 : ∃ sp, SpecOk Tryz.prog (V 3) 3 sp ∧ ∀ args z, sp3 args AV some = some z → sp args AV some = some z := by
  obtain ⟨sp, h1, h2⟩ := Dom.law (P := Tryz.prog) (V := V) (fun f sp h _ => base_ok _ _ f sp h) (fun _ => env_types _ _) (fun _ => env_funs _ _) (fun _ _ => rfl) D88 (f := 3) (sp := sp3) (by kernel_rfl)
  exact ⟨sp, h1, fun args z => h2 args AV some z⟩

theorem ok4 : ∃ sp, SpecOk Tryz.prog (V 4) 4 sp ∧ ∀ args z, sp4 args AV some = some z → sp args AV some = some z := by
  obtain ⟨sp, h1, h2⟩ := Dom.law (P := Tryz.prog) (V := V) (fun f sp h _ => base_ok _ _ f sp h) (fun _ => env_types _ _) (fun _ => env_funs _ _) (fun _ _ => rfl) D88 (f := 4) (sp := sp4) (by kernel_rfl)
  exact ⟨sp, h1, fun args z => h2 args AV some z⟩

end Go.Proofs.YtdojekdcdoaccaaGreatDoor
