/- The functions that this seat's laws reach, as plain functions, and that they are what the program does. Printed by a program of this repo (wip/Prt). -/
import Derived.Test.YtdojekdcdoaccaaDoorBase
import Derived.Test.YtdojekdcdoaccaaDoorEnv
import Derived.Test.YtdojekdcdoaccaaDoorEvC
import Derived.KernelRfl
import Derived.Test.YtdojekdcdoaccaaDoorFn1
namespace Go.Proofs.YtdojekdcdoaccaaDoor
open Go Go.Ev
set_option maxRecDepth 100000
set_option maxHeartbeats 4000000

noncomputable def o13r1_14000_in {R : Type} (K : Ex → St → Option R) (vs : List AV) (hh : H) : Option R := match vs, hh with
 | [Ap 1 0, Ap 2 0, Ab v0], [HU v1, HA [Ai v2, Ai v3, Ai v4, Ai v5, Ai v6, AV.esl, Ai v7, AV.esl], HA [Ai v8, Ai v9, Ai va, Ai vb, Ai vc, AV.esl, Ai vd, AV.esl]] => fano_Build_j14 v0 v1 v2 v3 v4 v5 v6 v7 v8 v9 va vb vc vd (fun ve vf vg vh vi vj vk vl => K (Ex.ret) (St.mk (spread 62 0 [2, 3] [Ap 1 0, Ai ve]) [HU vf, HA [Ai vg, Ai vh, Ai vi, Ai vj, Ai vk, AV.esl, Ai vl, AV.esl]])) (fun ve vf vg vh vi vj vk vl vm vn vo vp vq => K (Ex.normal) (St.mk (spread 62 0 [2, 4] [Ap 1 0, Ap 2 0]) [HU ve, HA [Ai vf, Ai vg, Ai vh, Ai vi, Ai vj, AV.esl, Ai vk, AV.esl], HA [Ai vl, Ai vm, Ai vn, Ai vo, Ai vp, AV.esl, Ai vq, AV.esl]]))
 | [Ap 1 0, Ap 2 0, Ab vr], [HU vs, HA [Ai vt, Ai vu, Ai vv, Ai vw, Ai vx, AV.esl, Ai vy, AV.esl], HA [Ai vz, Ai v10, Ai v11, Ai v12, Ai v13, AV.esl, Ai v14, AV.sl 3 0 v15 1], HU v16] => fano_Build_j14_1 vr vs vt vu vv vw vx vy vz v10 v11 v12 v13 v14 v15 v16 (fun ve vf vg vh vi vj vk vl => K (Ex.ret) (St.mk (spread 62 0 [2, 3] [Ap 1 0, Ai ve]) [HU vf, HA [Ai vg, Ai vh, Ai vi, Ai vj, Ai vk, AV.esl, Ai vl, AV.esl]])) (fun ve vf vg vh vi vj vk vl vm vn vo vp vq v17 v18 => K (Ex.normal) (St.mk (spread 62 0 [2, 4] [Ap 1 0, Ap 2 0]) [HU ve, HA [Ai vf, Ai vg, Ai vh, Ai vi, Ai vj, AV.esl, Ai vk, AV.esl], HA [Ai vl, Ai vm, Ai vn, Ai vo, Ai vp, AV.esl, Ai vq, AV.sl 3 0 v17 1], HU v18]))
 | [Ap 1 0, Ap 2 0, Ab v19], [HU v1a, HA [Ai v1b, Ai v1c, Ai v1d, Ai v1e, Ai v1f, AV.esl, Ai v1g, AV.esl], HA [Ai v1h, Ai v1i, Ai v1j, Ai v1k, Ai v1l, Fu v1m, Ai v1n, AV.esl]] => fano_Build_j14_2 v19 v1a v1b v1c v1d v1e v1f v1g v1h v1i v1j v1k v1l v1m v1n (fun ve vf vg vh vi vj vk vl => K (Ex.ret) (St.mk (spread 62 0 [2, 3] [Ap 1 0, Ai ve]) [HU vf, HA [Ai vg, Ai vh, Ai vi, Ai vj, Ai vk, AV.esl, Ai vl, AV.esl]])) (fun ve vf vg vh vi vj vk vl vm vn vo vp vq v17 => K (Ex.normal) (St.mk (spread 62 0 [2, 4] [Ap 1 0, Ap 2 0]) [HU ve, HA [Ai vf, Ai vg, Ai vh, Ai vi, Ai vj, AV.esl, Ai vk, AV.esl], HA [Ai vl, Ai vm, Ai vn, Ai vo, Ai vp, Fu vq, Ai v17, AV.esl]]))
 | [Ap 1 0, Ap 2 0, Ab v1o], [HU v1p, HA [Ai v1q, Ai v1r, Ai v1s, Ai v1t, Ai v1u, AV.esl, Ai v1v, AV.esl], HA [Ai v1w, Ai v1x, Ai v1y, Ai v1z, Ai v20, Fu v21, Ai v22, AV.sl 3 0 v23 1], HU v24] => fano_Build_j14_3 v1o v1p v1q v1r v1s v1t v1u v1v v1w v1x v1y v1z v20 v21 v22 v23 v24 (fun ve vf vg vh vi vj vk vl => K (Ex.ret) (St.mk (spread 62 0 [2, 3] [Ap 1 0, Ai ve]) [HU vf, HA [Ai vg, Ai vh, Ai vi, Ai vj, Ai vk, AV.esl, Ai vl, AV.esl]])) (fun ve vf vg vh vi vj vk vl vm vn vo vp vq v17 v18 v25 => K (Ex.normal) (St.mk (spread 62 0 [2, 4] [Ap 1 0, Ap 2 0]) [HU ve, HA [Ai vf, Ai vg, Ai vh, Ai vi, Ai vj, AV.esl, Ai vk, AV.esl], HA [Ai vl, Ai vm, Ai vn, Ai vo, Ai vp, Fu vq, Ai v17, AV.sl 3 0 v18 1], HU v25]))
 | _, _ => none

noncomputable def o13r1 : Nat → Option PSpec := lkN [(14000, fun st _ K => pickM 62 [2, 4, 59] st (o13r1_14000_in K))]
noncomputable def q13r1 : CallF := evFun (V 13) S47 T48 10

noncomputable def c13r1_14000 : Code := subC [1, 1, 1, 1, 1, 1, 1, 1, 1, 1, 1, 0, 1] (bodyOf Tryd.f13)

theorem p13r1_14000 : PieceOk (V 13) q13r1 o13r1 13 1 (3987, 0, c13r1_14000) := .s (size := 62) (ss := [2, 4, 59]) (F := @o13r1_14000_in) (by kernel_rfl) fun R r K vs hh h => by
  unfold o13r1_14000_in at h; split at h
  · rw [fano_Build_j14_unf] at h; exact Eq.trans (by kernel_rfl) h
  · rw [fano_Build_j14_1_unf] at h; exact Eq.trans (by kernel_rfl) h
  · rw [fano_Build_j14_2_unf] at h; exact Eq.trans (by kernel_rfl) h
  · rw [fano_Build_j14_3_unf] at h; exact Eq.trans (by kernel_rfl) h
  · cases h

theorem pc13r1 : ∀ x ∈ [(3987, 0, c13r1_14000)], PieceOk (V 13) q13r1 o13r1 13 1 x := List.forall_mem_cons.2 ⟨p13r1_14000, fun _ h => nomatch h⟩

theorem fano_Build_r_eq {R : Type} (K : AV → H → Option R) (v0 : Int) (v1 : Nat) (v2 : List Int) : evH (V 13) S47 T48 o13r1 10 13 [AV.agg (Blk.any [Ai v0, AV.sl 0 0 v1 1])] [HU v2] R K = fano_Build_r_B v0 v1 v2 (fun v3 v4 v5 v6 v7 v8 v9 va => K (AV.tup [AV.agg (Blk.any [Ai v3, Ai v4, Ai v5, Ai v6, Ai v7, AV.esl, Ai v8, AV.esl]), Ai v9]) ([HU va])) (fun v3 v4 v5 v6 v7 v8 v9 va vb vc => K (AV.tup [AV.agg (Blk.any [Ai v3, Ai v4, Ai v5, Ai v6, Ai v7, AV.esl, Ai v8, AV.sl 1 0 v9 1]), Ai va]) ([HU vb, HU vc])) (fun v3 v4 v5 v6 v7 v8 v9 va vb => K (AV.tup [AV.agg (Blk.any [Ai v3, Ai v4, Ai v5, Ai v6, Ai v7, Fu v8, Ai v9, AV.esl]), Ai va]) ([HU vb])) (fun v3 v4 v5 v6 v7 v8 v9 va vb vc vd => K (AV.tup [AV.agg (Blk.any [Ai v3, Ai v4, Ai v5, Ai v6, Ai v7, Fu v8, Ai v9, AV.sl 1 0 va 1]), Ai vb]) ([HU vc, HU vd])) := by kernel_rfl

noncomputable def hs13 : HSpec := fun args h _ K => match args, h with
 | [AV.agg (Blk.any [Ai v0, AV.sl 0 0 v1 1])], [HU v2] => fano_Build_r v0 v1 v2 (fun v3 v4 v5 v6 v7 v8 v9 va => K (AV.tup [AV.agg (Blk.any [Ai v3, Ai v4, Ai v5, Ai v6, Ai v7, AV.esl, Ai v8, AV.esl]), Ai v9]) ([HU va])) (fun v3 v4 v5 v6 v7 v8 v9 va vb vc => K (AV.tup [AV.agg (Blk.any [Ai v3, Ai v4, Ai v5, Ai v6, Ai v7, AV.esl, Ai v8, AV.sl 1 0 v9 1]), Ai va]) ([HU vb, HU vc])) (fun v3 v4 v5 v6 v7 v8 v9 va vb => K (AV.tup [AV.agg (Blk.any [Ai v3, Ai v4, Ai v5, Ai v6, Ai v7, Fu v8, Ai v9, AV.esl]), Ai va]) ([HU vb])) (fun v3 v4 v5 v6 v7 v8 v9 va vb vc vd => K (AV.tup [AV.agg (Blk.any [Ai v3, Ai v4, Ai v5, Ai v6, Ai v7, Fu v8, Ai v9, AV.sl 1 0 va 1]), Ai vb]) ([HU vc, HU vd]))
 | _, _ => none
noncomputable def T13 := addT 13 hs13 T48
theorem D28 : Dom B0 V S47 T13 28 := Dom.t D27 fun args hh R K r h => by
 unfold hs13 at h; split at h
 · rw [fano_Build_r_unf] at h; exact ⟨o13r1, (OrcOk.fn (fn0 := Tryd.f13) (by kernel_rfl) (by kernel_rfl) pc13r1), (fano_Build_r_eq K _ _ _).trans h⟩
 · cases h

noncomputable def sp81 : Ev.Spec := fun args _ K => match args with
 | ([AV.agg (Blk.any [Ai v0, Ai v1, Ai v2, Fu v3])]) => ints_Check v0 v1 v2 v3 (fun v4 => K (Ab v4))
 | _ => none
noncomputable def S81 := addS 81 sp81 S47
theorem D29 : Dom B0 V S81 T13 29 := Dom.s (m := 28) (n := 0) D28 D28 (O := (fun _ => none)) (fun _ _ _ _ => OrcOk.none _ _) fun args R K r h => by
 unfold sp81 at h; split at h
 · rw [ints_Check_unf] at h; exact Eq.trans (by kernel_rfl) h
 · cases h

noncomputable def o58_3000_in {R : Type} (K : Ex → St → Option R) (vs : List AV) (hh : H) : Option R := match vs, hh with
 | [Ai v0, Ai v1, Ap 0 0, Ab v2], [HA [Ai v3, Fu v4]] => bits_Slice_j3 v0 v1 v2 v3 v4 (fun v5 v6 => K (Ex.ret) (St.mk (spread 73 0 [6, 7] [Au v5, Ai v6]) [])) (fun v5 v6 v7 v8 => K (Ex.normal) (St.mk (spread 73 0 [1, 2, 3] [Ai v5, Ai v6, Ap 0 0]) [HA [Ai v7, Fu v8]]))
 | _, _ => none

noncomputable def o58_5000_in {R : Type} (K : Ex → St → Option R) (vs : List AV) (hh : H) : Option R := match vs, hh with
 | [Ai v0, Ai v1, Ap 0 0, Ab v2], [HA [Ai v3, Fu v4]] => bits_Slice_j5 v0 v1 v2 v3 v4 (fun v5 v6 => K (Ex.ret) (St.mk (spread 73 0 [6, 7] [Au v5, Ai v6]) [])) (fun v5 v6 v7 v8 => K (Ex.normal) (St.mk (spread 73 0 [1, 2, 3] [Ai v5, Ai v6, Ap 0 0]) [HA [Ai v7, Fu v8]]))
 | _, _ => none

noncomputable def o58_8000_in {R : Type} (K : Ex → St → Option R) (vs : List AV) (hh : H) : Option R := match vs, hh with
 | [Ai v0, Ai v1, Ap 0 0], [HA [Ai v2, Fu v3]] => bits_Slice_j8 v0 v1 v2 v3 (fun v4 v5 => K (Ex.ret) (St.mk (spread 73 0 [6, 7] [Au v4, Ai v5]) []))
 | _, _ => none

noncomputable def o58_12000_in {R : Type} (K : Ex → St → Option R) (vs : List AV) (hh : H) : Option R := match vs, hh with
 | [Ai v0, Au v1], [] => bits_Slice_j12 v0 v1 (fun v2 v3 => K (Ex.ret) (St.mk (spread 73 0 [6, 7] [Au v2, Ai v3]) []))
 | _, _ => none

noncomputable def o58 : Nat → Option PSpec := lkN [(3000, fun st _ K => pickM 73 [1, 2, 3, 11] st (o58_3000_in K)), (5000, fun st _ K => pickM 73 [1, 2, 3, 23] st (o58_5000_in K)), (8000, fun st _ K => pickM 73 [1, 2, 3] st (o58_8000_in K)), (12000, fun st _ K => pickM 73 [2, 10] st (o58_12000_in K))]
noncomputable def q58 : CallF := evFun (V 58) S81 T13 10

noncomputable def c58_8000 : Code := subC [1, 1] (bodyOf Tryd.f58)

noncomputable def c58_3000 : Code := subC [1, 0, 0, 1] (bodyOf Tryd.f58)

noncomputable def c58_5000 : Code := subC [1, 0, 0, 1, 1, 1] (bodyOf Tryd.f58)

noncomputable def c58_12000 : Code := subC [1, 1, 1, 1, 1] (bodyOf Tryd.f58)

theorem bits_Slice_j8_eq {R : Type} (K : Ex → St → Option R) (v0 v1 v2 : Int) (v3 : List Int) : evCode (V 58) q58 o58 58 0 3998 c58_8000 (St.mk (spread 73 0 [1, 2, 3] [Ai v0, Ai v1, Ap 0 0]) [HA [Ai v2, Fu v3]]) (kOut (V 58) 58 0 (Ev.keyOf c58_8000 * 1000 + 1) K) = bits_Slice_j8_B v0 v1 v2 v3 (fun v4 v5 => K (Ex.ret) (St.mk (spread 73 0 [6, 7] [Au v4, Ai v5]) [])) := by kernel_rfl

theorem p58_8000 : PieceOk (V 58) q58 o58 58 0 (3998, 0, c58_8000) := .s (size := 73) (ss := [1, 2, 3]) (F := @o58_8000_in) (by kernel_rfl) fun R r K vs hh h => by
  unfold o58_8000_in at h; split at h
  · rw [bits_Slice_j8_unf] at h; exact (bits_Slice_j8_eq K _ _ _ _).trans h
  · cases h

theorem p58_3000 : PieceOk (V 58) q58 o58 58 0 (3996, 0, c58_3000) := .s (size := 73) (ss := [1, 2, 3, 11]) (F := @o58_3000_in) (by kernel_rfl) fun R r K vs hh h => by
  unfold o58_3000_in at h; split at h
  · rw [bits_Slice_j3_unf] at h; exact Eq.trans (by kernel_rfl) h
  · cases h

theorem p58_5000 : PieceOk (V 58) q58 o58 58 0 (3994, 0, c58_5000) := .s (size := 73) (ss := [1, 2, 3, 23]) (F := @o58_5000_in) (by kernel_rfl) fun R r K vs hh h => by
  unfold o58_5000_in at h; split at h
  · rw [bits_Slice_j5_unf] at h; exact Eq.trans (by kernel_rfl) h
  · cases h

theorem p58_12000 : PieceOk (V 58) q58 o58 58 0 (3995, 0, c58_12000) := .s (size := 73) (ss := [2, 10]) (F := @o58_12000_in) (by kernel_rfl) fun R r K vs hh h => by
  unfold o58_12000_in at h; split at h
  · rw [bits_Slice_j12_unf] at h; exact Eq.trans (by kernel_rfl) h
  · cases h

theorem pc58 : ∀ x ∈ [(3998, 0, c58_8000), (3996, 0, c58_3000), (3994, 0, c58_5000), (3995, 0, c58_12000)], PieceOk (V 58) q58 o58 58 0 x := List.forall_mem_cons.2 ⟨p58_8000, List.forall_mem_cons.2 ⟨p58_3000, List.forall_mem_cons.2 ⟨p58_5000, List.forall_mem_cons.2 ⟨p58_12000, fun _ h => nomatch h⟩⟩⟩⟩

noncomputable def sp58 : Ev.Spec := fun args _ K => match args with
 | ([AV.agg (Blk.any [Ai v0, Fu v1]), Ai v2, Ai v3]) => bits_Slice v0 v1 v2 v3 (fun v4 v5 => K (AV.tup [Au v4, Ai v5]))
 | _ => none
noncomputable def S58 := addS 58 sp58 S81
theorem D30 : Dom B0 V S58 T13 30 := Dom.s (m := 29) (n := 0) D29 D29 (O := o58) (OrcOk.fn (fn0 := Tryd.f58) (by kernel_rfl) (by kernel_rfl) pc58) fun args R K r h => by
 unfold sp58 at h; split at h
 · rw [bits_Slice_unf] at h; exact Eq.trans (by kernel_rfl) h
 · cases h

noncomputable def o82_6400_in {R : Type} (K : Ex → St → Option R) (vs : List AV) (hh : H) : Option R := match vs, hh with
 | [Ap 0 0, AV.sl 1 0 v0 1, Ai v1, Ai v2], [HA [Ai v3, Ai v4, Ai v5, Fu v6], HU v7] => ints_List_l6 v0 v1 v2 v3 v4 v5 v6 v7 (fun v8 v9 => K (Ex.exit 0) (St.mk (spread 33 0 [3] [AV.sl 0 0 v8 1]) [HU v9]))
 | _, _ => none

noncomputable def o82 : Nat → Option PSpec := lkN [(6400, fun st _ K => pickM 33 [1, 3, 12, 13] st (o82_6400_in K))]
noncomputable def q82 : CallF := evFun (V 82) S58 T13 10

noncomputable def c82_6400 : Code := subC [1, 1, 1, 0, 1, 0, 0] (bodyOf Tryd.f82)

noncomputable def lp82_6400 {R : Type} (N : Nat) (st : St) (K : Ex → St → Option R) : Option R := evLoop (norm ((V 82).keep 82 (Ev.keyOf c82_6400 * 1000 + 400)) 0) (evCode (V 82) q82 o82 82 0 3993 c82_6400) N st (kOut (V 82) 82 0 (Ev.keyOf c82_6400 * 1000 + 401) K)

theorem ints_List_l6_L_eq {R : Type} (K : Ex → St → Option R) : ∀ N : Nat, (fun (v0 : Nat) (v1 v2 v3 v4 v5 : Int) (v6 v7 : List Int) => lp82_6400 N (St.mk (spread 33 0 [1, 3, 12, 13] [Ap 0 0, AV.sl 1 0 v0 1, Ai v1, Ai v2]) [HA [Ai v3, Ai v4, Ai v5, Fu v6], HU v7]) K) = ints_List_l6_L (fun v8 v9 => K (Ex.exit 0) (St.mk (spread 33 0 [3] [AV.sl 0 0 v8 1]) [HU v9])) N
  | 0 => by funext v0 v1 v2 v3 v4 v5 v6 v7; rfl
  | N + 1 => by
    funext v0 v1 v2 v3 v4 v5 v6 v7
    simp only [ints_List_l6_L]
    rw [← ints_List_l6_L_eq K N]
    kernel_rfl

theorem p82_6400 : PieceOk (V 82) q82 o82 82 0 (3993, 1, c82_6400) := .l (size := 33) (ss := [1, 3, 12, 13]) (F := @o82_6400_in) (by kernel_rfl) (by kernel_rfl) fun R r K vs hh h => by
  unfold o82_6400_in at h; split at h
  · rw [ints_List_l6_unf] at h; unfold ints_List_l6_B at h; rw [← ints_List_l6_L_eq K NR] at h; exact h
  · cases h

theorem pc82 : ∀ x ∈ [(3993, 1, c82_6400)], PieceOk (V 82) q82 o82 82 0 x := List.forall_mem_cons.2 ⟨p82_6400, fun _ h => nomatch h⟩

noncomputable def sp82 : Ev.Spec := fun args _ K => match args with
 | ([AV.agg (Blk.any [Ai v0, Ai v1, Ai v2, Fu v3])]) => ints_List v0 v1 v2 v3 (fun v4 => K (Fu v4))
 | _ => none
noncomputable def S82 := addS 82 sp82 S58
theorem D31 : Dom B0 V S82 T13 31 := Dom.s (m := 30) (n := 0) D30 D30 (O := o82) (OrcOk.fn (fn0 := Tryd.f82) (by kernel_rfl) (by kernel_rfl) pc82) fun args R K r h => by
 unfold sp82 at h; split at h
 · rw [ints_List_unf] at h; exact Eq.trans (by kernel_rfl) h
 · cases h

noncomputable def o42_7400_in {R : Type} (K : Ex → St → Option R) (vs : List AV) (hh : H) : Option R := match vs, hh with
 | [Ai v0, Ap 0 0, Ai v1, Fu v2, Ai v3, Ai v4], [HA [Ai v5, Fu v6]] => bits_Ones_l7_1 v0 v1 v2 v3 v4 v5 v6 (fun v7 v8 v9 va => K (Ex.exit 0) (St.mk (spread 46 0 [1, 2, 5] [Ai v7, Ap 0 0, Ai v8]) [HA [Ai v9, Fu va]]))
 | _, _ => none

noncomputable def o42 : Nat → Option PSpec := lkN [(7400, fun st _ K => pickM 46 [1, 2, 5, 20, 21, 22] st (o42_7400_in K))]
noncomputable def q42 : CallF := evFun (V 42) S82 T13 10

noncomputable def c42_7400 : Code := subC [1, 1, 1, 1, 0, 1, 0, 0] (bodyOf Tryd.f42)

noncomputable def lp42_7400 {R : Type} (N : Nat) (st : St) (K : Ex → St → Option R) : Option R := evLoop (norm ((V 42).keep 42 (Ev.keyOf c42_7400 * 1000 + 400)) 0) (evCode (V 42) q42 o42 42 0 3992 c42_7400) N st (kOut (V 42) 42 0 (Ev.keyOf c42_7400 * 1000 + 401) K)

theorem bits_Ones_l7_1_L_eq {R : Type} (K : Ex → St → Option R) : ∀ N : Nat, (fun (v0 v1 : Int) (v2 : List Int) (v3 v4 v5 : Int) (v6 : List Int) => lp42_7400 N (St.mk (spread 46 0 [1, 2, 5, 20, 21, 22] [Ai v0, Ap 0 0, Ai v1, Fu v2, Ai v3, Ai v4]) [HA [Ai v5, Fu v6]]) K) = bits_Ones_l7_1_L (fun v7 v8 v9 va => K (Ex.exit 0) (St.mk (spread 46 0 [1, 2, 5] [Ai v7, Ap 0 0, Ai v8]) [HA [Ai v9, Fu va]])) N
  | 0 => by funext v0 v1 v2 v3 v4 v5 v6; rfl
  | N + 1 => by
    funext v0 v1 v2 v3 v4 v5 v6
    simp only [bits_Ones_l7_1_L]
    rw [← bits_Ones_l7_1_L_eq K N]
    kernel_rfl

theorem p42_7400 : PieceOk (V 42) q42 o42 42 0 (3992, 1, c42_7400) := .l (size := 46) (ss := [1, 2, 5, 20, 21, 22]) (F := @o42_7400_in) (by kernel_rfl) (by kernel_rfl) fun R r K vs hh h => by
  unfold o42_7400_in at h; split at h
  · rw [bits_Ones_l7_1_unf] at h; unfold bits_Ones_l7_1_B at h; rw [← bits_Ones_l7_1_L_eq K NR] at h; exact h
  · cases h

theorem pc42 : ∀ x ∈ [(3992, 1, c42_7400)], PieceOk (V 42) q42 o42 42 0 x := List.forall_mem_cons.2 ⟨p42_7400, fun _ h => nomatch h⟩

noncomputable def sp42 : Ev.Spec := fun args _ K => match args with
 | ([AV.agg (Blk.any [Ai v0, Fu v1]), Ai v2]) => bits_Ones v0 v1 v2 (fun v3 => K (Ai v3))
 | _ => none
noncomputable def S42 := addS 42 sp42 S82
theorem D32 : Dom B0 V S42 T13 32 := Dom.s (m := 31) (n := 0) D31 D31 (O := o42) (OrcOk.fn (fn0 := Tryd.f42) (by kernel_rfl) (by kernel_rfl) pc42) fun args R K r h => by
 unfold sp42 at h; split at h
 · rw [bits_Ones_unf] at h; exact Eq.trans (by kernel_rfl) h
 · cases h

noncomputable def o13_14000_in {R : Type} (K : Ex → St → Option R) (vs : List AV) (hh : H) : Option R := match vs, hh with
 | [Ap 0 0, Ap 1 0, Ab v0], [HA [Ai v1, Ai v2, Ai v3, Ai v4, Ai v5, AV.esl, Ai v6, AV.esl], HA [Ai v7, Ai v8, Ai v9, Ai va, Ai vb, AV.esl, Ai vc, AV.esl]] => fano_Build_j14_4 v0 v1 v2 v3 v4 v5 v6 v7 v8 v9 va vb vc (fun vd ve vf vg vh vi vj => K (Ex.ret) (St.mk (spread 62 0 [2, 3] [Ap 0 0, Ai vd]) [HA [Ai ve, Ai vf, Ai vg, Ai vh, Ai vi, AV.esl, Ai vj, AV.esl]])) (fun vd ve vf vg vh vi vj vk vl vm vn vo => K (Ex.normal) (St.mk (spread 62 0 [2, 4] [Ap 0 0, Ap 1 0]) [HA [Ai vd, Ai ve, Ai vf, Ai vg, Ai vh, AV.esl, Ai vi, AV.esl], HA [Ai vj, Ai vk, Ai vl, Ai vm, Ai vn, AV.esl, Ai vo, AV.esl]]))
 | [Ap 0 0, Ap 1 0, Ab vp], [HA [Ai vq, Ai vr, Ai vs, Ai vt, Ai vu, AV.esl, Ai vv, AV.esl], HA [Ai vw, Ai vx, Ai vy, Ai vz, Ai v10, AV.esl, Ai v11, AV.sl 2 0 v12 1], HU v13] => fano_Build_j14_5 vp vq vr vs vt vu vv vw vx vy vz v10 v11 v12 v13 (fun vd ve vf vg vh vi vj => K (Ex.ret) (St.mk (spread 62 0 [2, 3] [Ap 0 0, Ai vd]) [HA [Ai ve, Ai vf, Ai vg, Ai vh, Ai vi, AV.esl, Ai vj, AV.esl]])) (fun vd ve vf vg vh vi vj vk vl vm vn vo v14 v15 => K (Ex.normal) (St.mk (spread 62 0 [2, 4] [Ap 0 0, Ap 1 0]) [HA [Ai vd, Ai ve, Ai vf, Ai vg, Ai vh, AV.esl, Ai vi, AV.esl], HA [Ai vj, Ai vk, Ai vl, Ai vm, Ai vn, AV.esl, Ai vo, AV.sl 2 0 v14 1], HU v15]))
 | [Ap 0 0, Ap 1 0, Ab v16], [HA [Ai v17, Ai v18, Ai v19, Ai v1a, Ai v1b, AV.esl, Ai v1c, AV.esl], HA [Ai v1d, Ai v1e, Ai v1f, Ai v1g, Ai v1h, Fu v1i, Ai v1j, AV.esl]] => fano_Build_j14_6 v16 v17 v18 v19 v1a v1b v1c v1d v1e v1f v1g v1h v1i v1j (fun vd ve vf vg vh vi vj => K (Ex.ret) (St.mk (spread 62 0 [2, 3] [Ap 0 0, Ai vd]) [HA [Ai ve, Ai vf, Ai vg, Ai vh, Ai vi, AV.esl, Ai vj, AV.esl]])) (fun vd ve vf vg vh vi vj vk vl vm vn vo v14 => K (Ex.normal) (St.mk (spread 62 0 [2, 4] [Ap 0 0, Ap 1 0]) [HA [Ai vd, Ai ve, Ai vf, Ai vg, Ai vh, AV.esl, Ai vi, AV.esl], HA [Ai vj, Ai vk, Ai vl, Ai vm, Ai vn, Fu vo, Ai v14, AV.esl]]))
 | [Ap 0 0, Ap 1 0, Ab v1k], [HA [Ai v1l, Ai v1m, Ai v1n, Ai v1o, Ai v1p, AV.esl, Ai v1q, AV.esl], HA [Ai v1r, Ai v1s, Ai v1t, Ai v1u, Ai v1v, Fu v1w, Ai v1x, AV.sl 2 0 v1y 1], HU v1z] => fano_Build_j14_7 v1k v1l v1m v1n v1o v1p v1q v1r v1s v1t v1u v1v v1w v1x v1y v1z (fun vd ve vf vg vh vi vj => K (Ex.ret) (St.mk (spread 62 0 [2, 3] [Ap 0 0, Ai vd]) [HA [Ai ve, Ai vf, Ai vg, Ai vh, Ai vi, AV.esl, Ai vj, AV.esl]])) (fun vd ve vf vg vh vi vj vk vl vm vn vo v14 v15 v20 => K (Ex.normal) (St.mk (spread 62 0 [2, 4] [Ap 0 0, Ap 1 0]) [HA [Ai vd, Ai ve, Ai vf, Ai vg, Ai vh, AV.esl, Ai vi, AV.esl], HA [Ai vj, Ai vk, Ai vl, Ai vm, Ai vn, Fu vo, Ai v14, AV.sl 2 0 v15 1], HU v20]))
 | _, _ => none

noncomputable def o13 : Nat → Option PSpec := lkN [(14000, fun st _ K => pickM 62 [2, 4, 59] st (o13_14000_in K))]
noncomputable def q13 : CallF := evFun (V 13) S42 T13 10

noncomputable def c13_14000 : Code := subC [1, 1, 1, 1, 1, 1, 1, 1, 1, 1, 1, 0, 1] (bodyOf Tryd.f13)

theorem p13_14000 : PieceOk (V 13) q13 o13 13 0 (3987, 0, c13_14000) := .s (size := 62) (ss := [2, 4, 59]) (F := @o13_14000_in) (by kernel_rfl) fun R r K vs hh h => by
  unfold o13_14000_in at h; split at h
  · rw [fano_Build_j14_4_unf] at h; exact Eq.trans (by kernel_rfl) h
  · rw [fano_Build_j14_5_unf] at h; exact Eq.trans (by kernel_rfl) h
  · rw [fano_Build_j14_6_unf] at h; exact Eq.trans (by kernel_rfl) h
  · rw [fano_Build_j14_7_unf] at h; exact Eq.trans (by kernel_rfl) h
  · cases h

theorem pc13 : ∀ x ∈ [(3987, 0, c13_14000)], PieceOk (V 13) q13 o13 13 0 x := List.forall_mem_cons.2 ⟨p13_14000, fun _ h => nomatch h⟩

theorem fano_Build_eq {R : Type} (K : AV → Option R) (v0 : Int) (v1 : List Int) : evSpec (V 13) S42 T13 o13 10 13 ([AV.agg (Blk.any [Ai v0, Fu v1])]) R K = fano_Build_B v0 v1 (fun v2 v3 v4 v5 v6 v7 v8 v9 va => K (AV.tup [AV.agg (Blk.any [Ai v2, Ai v3, Ai v4, Ai v5, Ai v6, Fu v7, Ai v8, Fu v9]), Ai va])) := by kernel_rfl

noncomputable def sp13 : Ev.Spec := fun args _ K => match args with
 | ([AV.agg (Blk.any [Ai v0, Fu v1])]) => fano_Build v0 v1 (fun v2 v3 v4 v5 v6 v7 v8 v9 va => K (AV.tup [AV.agg (Blk.any [Ai v2, Ai v3, Ai v4, Ai v5, Ai v6, Fu v7, Ai v8, Fu v9]), Ai va]))
 | _ => none
noncomputable def S13 := addS 13 sp13 S42
theorem D33 : Dom B0 V S13 T13 33 := Dom.s (m := 32) (n := 0) D32 D32 (O := o13) (OrcOk.fn (fn0 := Tryd.f13) (by kernel_rfl) (by kernel_rfl) pc13) fun args R K r h => by
 unfold sp13 at h; split at h
 · rw [fano_Build_unf] at h; exact (fano_Build_eq K _ _).trans h
 · cases h

noncomputable def o84_5400_in {R : Type} (K : Ex → St → Option R) (vs : List AV) (hh : H) : Option R := match vs, hh with
 | [Fu v0, Fu v1, Ai v2, Ai v3], [] => slices_Equal_uint64_uint64_l5 v0 v1 v2 v3 (fun v4 => K (Ex.ret) (St.mk (spread 26 0 [4] [Ab v4]) [])) (fun _ => K (Ex.exit 0) (St.mk (spread 26 0 [] []) []))
 | _, _ => none

noncomputable def o84 : Nat → Option PSpec := lkN [(5400, fun st _ K => pickM 26 [0, 1, 12, 13] st (o84_5400_in K))]
noncomputable def q84 : CallF := evFun (V 84) S13 T13 10

noncomputable def c84_5400 : Code := subC [1, 1, 0, 1, 0, 0] (bodyOf Tryd.f84)

noncomputable def lp84_5400 {R : Type} (N : Nat) (st : St) (K : Ex → St → Option R) : Option R := evLoop (norm ((V 84).keep 84 (Ev.keyOf c84_5400 * 1000 + 400)) 0) (evCode (V 84) q84 o84 84 0 3994 c84_5400) N st (kOut (V 84) 84 0 (Ev.keyOf c84_5400 * 1000 + 401) K)

theorem slices_Equal_uint64_uint64_l5_L_eq {R : Type} (K : Ex → St → Option R) : ∀ N : Nat, (fun (v0 v1 : List Int) (v2 v3 : Int) => lp84_5400 N (St.mk (spread 26 0 [0, 1, 12, 13] [Fu v0, Fu v1, Ai v2, Ai v3]) []) K) = slices_Equal_uint64_uint64_l5_L (fun v4 => K (Ex.ret) (St.mk (spread 26 0 [4] [Ab v4]) [])) (fun _ => K (Ex.exit 0) (St.mk (spread 26 0 [] []) [])) N
  | 0 => by funext v0 v1 v2 v3; rfl
  | N + 1 => by
    funext v0 v1 v2 v3
    simp only [slices_Equal_uint64_uint64_l5_L]
    rw [← slices_Equal_uint64_uint64_l5_L_eq K N]
    kernel_rfl

theorem p84_5400 : PieceOk (V 84) q84 o84 84 0 (3994, 1, c84_5400) := .l (size := 26) (ss := [0, 1, 12, 13]) (F := @o84_5400_in) (by kernel_rfl) (by kernel_rfl) fun R r K vs hh h => by
  unfold o84_5400_in at h; split at h
  · rw [slices_Equal_uint64_uint64_l5_unf] at h; unfold slices_Equal_uint64_uint64_l5_B at h; rw [← slices_Equal_uint64_uint64_l5_L_eq K NR] at h; exact h
  · cases h

theorem pc84 : ∀ x ∈ [(3994, 1, c84_5400)], PieceOk (V 84) q84 o84 84 0 x := List.forall_mem_cons.2 ⟨p84_5400, fun _ h => nomatch h⟩

noncomputable def sp84 : Ev.Spec := fun args _ K => match args with
 | ([Fu v0, Fu v1]) => slices_Equal_uint64_uint64 v0 v1 (fun v2 => K (Ab v2))
 | _ => none
noncomputable def S84 := addS 84 sp84 S13
theorem D34 : Dom B0 V S84 T13 34 := Dom.s (m := 33) (n := 0) D33 D33 (O := o84) (OrcOk.fn (fn0 := Tryd.f84) (by kernel_rfl) (by kernel_rfl) pc84) fun args R K r h => by
 unfold sp84 at h; split at h
 · rw [slices_Equal_uint64_uint64_unf] at h; exact Eq.trans (by kernel_rfl) h
 · cases h

noncomputable def o84r1_5400_in {R : Type} (K : Ex → St → Option R) (vs : List AV) (hh : H) : Option R := match vs, hh with
 | [Fu v0, AV.sl 0 0 v1 1, Ai v2, Ai v3], [HU v4] => slices_Equal_uint64_uint64_l5_1 v0 v1 v2 v3 v4 (fun v5 v6 => K (Ex.ret) (St.mk (spread 26 0 [4] [Ab v5]) [HU v6])) (fun v5 => K (Ex.exit 0) (St.mk (spread 26 0 [] []) [HU v5]))
 | _, _ => none

noncomputable def o84r1 : Nat → Option PSpec := lkN [(5400, fun st _ K => pickM 26 [0, 1, 12, 13] st (o84r1_5400_in K))]
noncomputable def q84r1 : CallF := evFun (V 84) S84 T13 10

noncomputable def c84r1_5400 : Code := subC [1, 1, 0, 1, 0, 0] (bodyOf Tryd.f84)

noncomputable def lp84r1_5400 {R : Type} (N : Nat) (st : St) (K : Ex → St → Option R) : Option R := evLoop (norm ((V 84).keep 84 (Ev.keyOf c84r1_5400 * 1000 + 400)) 1) (evCode (V 84) q84r1 o84r1 84 1 3994 c84r1_5400) N st (kOut (V 84) 84 1 (Ev.keyOf c84r1_5400 * 1000 + 401) K)

theorem slices_Equal_uint64_uint64_l5_1_L_eq {R : Type} (K : Ex → St → Option R) : ∀ N : Nat, (fun (v0 : List Int) (v1 : Nat) (v2 v3 : Int) (v4 : List Int) => lp84r1_5400 N (St.mk (spread 26 0 [0, 1, 12, 13] [Fu v0, AV.sl 0 0 v1 1, Ai v2, Ai v3]) [HU v4]) K) = slices_Equal_uint64_uint64_l5_1_L (fun v5 v6 => K (Ex.ret) (St.mk (spread 26 0 [4] [Ab v5]) [HU v6])) (fun v5 => K (Ex.exit 0) (St.mk (spread 26 0 [] []) [HU v5])) N
  | 0 => by funext v0 v1 v2 v3 v4; rfl
  | N + 1 => by
    funext v0 v1 v2 v3 v4
    simp only [slices_Equal_uint64_uint64_l5_1_L]
    rw [← slices_Equal_uint64_uint64_l5_1_L_eq K N]
    kernel_rfl

theorem p84r1_5400 : PieceOk (V 84) q84r1 o84r1 84 1 (3994, 1, c84r1_5400) := .l (size := 26) (ss := [0, 1, 12, 13]) (F := @o84r1_5400_in) (by kernel_rfl) (by kernel_rfl) fun R r K vs hh h => by
  unfold o84r1_5400_in at h; split at h
  · rw [slices_Equal_uint64_uint64_l5_1_unf] at h; unfold slices_Equal_uint64_uint64_l5_1_B at h; rw [← slices_Equal_uint64_uint64_l5_1_L_eq K NR] at h; exact h
  · cases h

theorem pc84r1 : ∀ x ∈ [(3994, 1, c84r1_5400)], PieceOk (V 84) q84r1 o84r1 84 1 x := List.forall_mem_cons.2 ⟨p84r1_5400, fun _ h => nomatch h⟩

noncomputable def hs84 : HSpec := fun args h _ K => match args, h with
 | [Fu v0, AV.sl 0 0 v1 1], [HU v2] => slices_Equal_uint64_uint64_r v0 v1 v2 (fun v3 v4 => K (Ab v3) ([HU v4]))
 | _, _ => none
noncomputable def T84 := addT 84 hs84 T13
theorem D35 : Dom B0 V S84 T84 35 := Dom.t D34 fun args hh R K r h => by
 unfold hs84 at h; split at h
 · rw [slices_Equal_uint64_uint64_r_unf] at h; exact ⟨o84r1, (OrcOk.fn (fn0 := Tryd.f84) (by kernel_rfl) (by kernel_rfl) pc84r1), Eq.trans (by kernel_rfl) h⟩
 · cases h

noncomputable def o57_3000_in {R : Type} (K : Ex → St → Option R) (vs : List AV) (hh : H) : Option R := match vs, hh with
 | [Ap 0 0, Ap 1 0, Ab v0], [HA [Ai v1, Ai v2, Ai v3, Ai v4, Ai v5, Fu v6, Ai v7, Fu v8], HA [Ai v9, AV.esl]] => fano_row_j3 v0 v1 v2 v3 v4 v5 v6 v7 v8 v9 (fun va vb => K (Ex.ret) (St.mk (spread 136 0 [2, 3] [Ap 0 0, Ab va]) [HA [Ai vb, AV.esl]])) (fun va vb vc vd ve vf vg vh vi => K (Ex.normal) (St.mk (spread 136 0 [1, 2] [Ap 0 0, Ap 1 0]) [HA [Ai va, Ai vb, Ai vc, Ai vd, Ai ve, Fu vf, Ai vg, Fu vh], HA [Ai vi, AV.esl]]))
 | _, _ => none

noncomputable def o57_4000_in {R : Type} (K : Ex → St → Option R) (vs : List AV) (hh : H) : Option R := match vs, hh with
 | [Ap 0 0, Ap 1 0], [HA [Ai v0, Ai v1, Ai v2, Ai v3, Ai v4, Fu v5, Ai v6, Fu v7], HA [Ai v8, AV.esl]] => fano_row_j4 v0 v1 v2 v3 v4 v5 v6 v7 v8 (fun v9 va => K (Ex.ret) (St.mk (spread 136 0 [2, 3] [Ap 0 0, Ab v9]) [HA [Ai va, AV.esl]])) (fun v9 va vb vc => K (Ex.ret) (St.mk (spread 136 0 [2, 3] [Ap 0 0, Ab v9]) [HA [Ai va, AV.sl 1 0 vb 1], HU vc]))
 | _, _ => none

noncomputable def o57_7000_in {R : Type} (K : Ex → St → Option R) (vs : List AV) (hh : H) : Option R := match vs, hh with
 | [Ap 0 0, Ap 1 0, Ap 2 0, Ap 3 0, Ap 4 0], [HA [Ai v0, Ai v1, Ai v2, Ai v3, Ai v4, Fu v5, Ai v6, Fu v7], HA [Ai v8, AV.esl], HA [Ai v9], HA [Fu va], HA [AV.sl 5 0 vb 1], HO vc] => fano_row_j7 v0 v1 v2 v3 v4 v5 v6 v7 v8 v9 va vb vc (fun vd ve => K (Ex.ret) (St.mk (spread 136 0 [2, 3] [Ap 0 0, Ab vd]) [HA [Ai ve, AV.esl]])) (fun vd ve vf vg => K (Ex.ret) (St.mk (spread 136 0 [2, 3] [Ap 0 0, Ab vd]) [HA [Ai ve, AV.sl 1 0 vf 1], HU vg]))
 | _, _ => none

noncomputable def o57_15000_in {R : Type} (K : Ex → St → Option R) (vs : List AV) (hh : H) : Option R := match vs, hh with
 | [Ap 0 0, Ap 1 0, Ai v0, Ab v1], [HA [Ai v2, AV.esl], HA [Ai v3, AV.esl]] => fano_row_j15 v0 v1 v2 v3 (fun v4 v5 => K (Ex.ret) (St.mk (spread 136 0 [2, 3] [Ap 0 0, Ab v4]) [HA [Ai v5, AV.esl]]))
 | [Ap 0 0, Ap 1 0, Ai v6, Ab v7], [HA [Ai v8, AV.esl], HA [Ai v9, AV.sl 2 0 va 1], HU vb] => fano_row_j15_1 v6 v7 v8 v9 va vb (fun v4 v5 => K (Ex.ret) (St.mk (spread 136 0 [2, 3] [Ap 0 0, Ab v4]) [HA [Ai v5, AV.esl]])) (fun v4 v5 vc vd => K (Ex.ret) (St.mk (spread 136 0 [2, 3] [Ap 0 0, Ab v4]) [HA [Ai v5, AV.sl 1 0 vc 1], HU vd]))
 | _, _ => none

noncomputable def o57_16000_in {R : Type} (K : Ex → St → Option R) (vs : List AV) (hh : H) : Option R := match vs, hh with
 | [Ap 0 0, Ap 1 0, Ab v0], [HA [Ai v1, AV.esl], HA [Ai v2, AV.esl]] => fano_row_j16 v0 v1 v2 (fun v3 v4 => K (Ex.ret) (St.mk (spread 136 0 [2, 3] [Ap 0 0, Ab v3]) [HA [Ai v4, AV.esl]])) (fun v3 v4 => K (Ex.normal) (St.mk (spread 136 0 [2, 9] [Ap 0 0, Ap 1 0]) [HA [Ai v3, AV.esl], HA [Ai v4, AV.esl]]))
 | [Ap 0 0, Ap 1 0, Ab v5], [HA [Ai v6, AV.esl], HA [Ai v7, AV.sl 2 0 v8 1], HU v9] => fano_row_j16_1 v5 v6 v7 v8 v9 (fun v3 v4 => K (Ex.ret) (St.mk (spread 136 0 [2, 3] [Ap 0 0, Ab v3]) [HA [Ai v4, AV.esl]])) (fun v3 v4 va vb => K (Ex.normal) (St.mk (spread 136 0 [2, 9] [Ap 0 0, Ap 1 0]) [HA [Ai v3, AV.esl], HA [Ai v4, AV.sl 2 0 va 1], HU vb]))
 | _, _ => none

noncomputable def o57 : Nat → Option PSpec := lkN [(3000, fun st _ K => pickM 136 [1, 2, 45] st (o57_3000_in K)), (4000, fun st _ K => pickM 136 [1, 2] st (o57_4000_in K)), (7000, fun st _ K => pickM 136 [1, 2, 4, 5, 6] st (o57_7000_in K)), (15000, fun st _ K => pickM 136 [2, 9, 12, 13] st (o57_15000_in K)), (16000, fun st _ K => pickM 136 [2, 9, 133] st (o57_16000_in K))]
noncomputable def q57 : CallF := evFun (V 57) S84 T84 10

noncomputable def c57_4000 : Code := subC [1, 1] (bodyOf Tryd.f57)

noncomputable def c57_3000 : Code := subC [1, 0, 1] (bodyOf Tryd.f57)

noncomputable def c57_7000 : Code := subC [1, 1, 1, 1, 1] (bodyOf Tryd.f57)

noncomputable def c57_15000 : Code := subC [1, 1, 1, 1, 1, 1, 1, 1, 1, 1, 1, 1] (bodyOf Tryd.f57)

noncomputable def c57_16000 : Code := subC [1, 1, 1, 1, 1, 1, 1, 1, 1, 1, 1, 1, 0, 1] (bodyOf Tryd.f57)

theorem fano_row_j7_eq {R : Type} (K : Ex → St → Option R) (v0 v1 v2 v3 v4 : Int) (v5 : List Int) (v6 : Int) (v7 : List Int) (v8 v9 : Int) (va : List Int) (vb : Nat) (vc : List Bool) : evCode (V 57) q57 o57 57 0 3995 c57_7000 (St.mk (spread 136 0 [1, 2, 4, 5, 6] [Ap 0 0, Ap 1 0, Ap 2 0, Ap 3 0, Ap 4 0]) [HA [Ai v0, Ai v1, Ai v2, Ai v3, Ai v4, Fu v5, Ai v6, Fu v7], HA [Ai v8, AV.esl], HA [Ai v9], HA [Fu va], HA [AV.sl 5 0 vb 1], HO vc]) (kOut (V 57) 57 0 (Ev.keyOf c57_7000 * 1000 + 1) K) = fano_row_j7_B v0 v1 v2 v3 v4 v5 v6 v7 v8 v9 va vb vc (fun vd ve => K (Ex.ret) (St.mk (spread 136 0 [2, 3] [Ap 0 0, Ab vd]) [HA [Ai ve, AV.esl]])) (fun vd ve vf vg => K (Ex.ret) (St.mk (spread 136 0 [2, 3] [Ap 0 0, Ab vd]) [HA [Ai ve, AV.sl 1 0 vf 1], HU vg])) := by kernel_rfl

theorem p57_4000 : PieceOk (V 57) q57 o57 57 0 (3998, 0, c57_4000) := .s (size := 136) (ss := [1, 2]) (F := @o57_4000_in) (by kernel_rfl) fun R r K vs hh h => by
  unfold o57_4000_in at h; split at h
  · rw [fano_row_j4_unf] at h; exact Eq.trans (by kernel_rfl) h
  · cases h

theorem p57_3000 : PieceOk (V 57) q57 o57 57 0 (3997, 0, c57_3000) := .s (size := 136) (ss := [1, 2, 45]) (F := @o57_3000_in) (by kernel_rfl) fun R r K vs hh h => by
  unfold o57_3000_in at h; split at h
  · rw [fano_row_j3_unf] at h; exact Eq.trans (by kernel_rfl) h
  · cases h

theorem p57_7000 : PieceOk (V 57) q57 o57 57 0 (3995, 0, c57_7000) := .s (size := 136) (ss := [1, 2, 4, 5, 6]) (F := @o57_7000_in) (by kernel_rfl) fun R r K vs hh h => by
  unfold o57_7000_in at h; split at h
  · rw [fano_row_j7_unf] at h; exact (fano_row_j7_eq K _ _ _ _ _ _ _ _ _ _ _ _ _).trans h
  · cases h

theorem p57_15000 : PieceOk (V 57) q57 o57 57 0 (3988, 0, c57_15000) := .s (size := 136) (ss := [2, 9, 12, 13]) (F := @o57_15000_in) (by kernel_rfl) fun R r K vs hh h => by
  unfold o57_15000_in at h; split at h
  · rw [fano_row_j15_unf] at h; exact Eq.trans (by kernel_rfl) h
  · rw [fano_row_j15_1_unf] at h; exact Eq.trans (by kernel_rfl) h
  · cases h

theorem p57_16000 : PieceOk (V 57) q57 o57 57 0 (3986, 0, c57_16000) := .s (size := 136) (ss := [2, 9, 133]) (F := @o57_16000_in) (by kernel_rfl) fun R r K vs hh h => by
  unfold o57_16000_in at h; split at h
  · rw [fano_row_j16_unf] at h; exact Eq.trans (by kernel_rfl) h
  · rw [fano_row_j16_1_unf] at h; exact Eq.trans (by kernel_rfl) h
  · cases h

theorem pc57 : ∀ x ∈ [(3998, 0, c57_4000), (3997, 0, c57_3000), (3995, 0, c57_7000), (3988, 0, c57_15000), (3986, 0, c57_16000)], PieceOk (V 57) q57 o57 57 0 x := List.forall_mem_cons.2 ⟨p57_4000, List.forall_mem_cons.2 ⟨p57_3000, List.forall_mem_cons.2 ⟨p57_7000, List.forall_mem_cons.2 ⟨p57_15000, List.forall_mem_cons.2 ⟨p57_16000, fun _ h => nomatch h⟩⟩⟩⟩⟩

theorem fano_row_eq {R : Type} (K : AV → Option R) (v0 v1 v2 v3 v4 : Int) (v5 : List Int) (v6 : Int) (v7 : List Int) : evSpec (V 57) S84 T84 o57 10 57 ([AV.agg (Blk.any [Ai v0, Ai v1, Ai v2, Ai v3, Ai v4, Fu v5, Ai v6, Fu v7])]) R K = fano_row_B v0 v1 v2 v3 v4 v5 v6 v7 (fun v8 v9 va => K (AV.tup [AV.agg (Blk.any [Ai v8, Fu v9]), Ab va])) := by kernel_rfl

noncomputable def sp57 : Ev.Spec := fun args _ K => match args with
 | ([AV.agg (Blk.any [Ai v0, Ai v1, Ai v2, Ai v3, Ai v4, Fu v5, Ai v6, Fu v7])]) => fano_row v0 v1 v2 v3 v4 v5 v6 v7 (fun v8 v9 va => K (AV.tup [AV.agg (Blk.any [Ai v8, Fu v9]), Ab va]))
 | _ => none
noncomputable def S57 := addS 57 sp57 S84
theorem D36 : Dom B0 V S57 T84 36 := Dom.s (m := 35) (n := 0) D35 D35 (O := o57) (OrcOk.fn (fn0 := Tryd.f57) (by kernel_rfl) (by kernel_rfl) pc57) fun args R K r h => by
 unfold sp57 at h; split at h
 · rw [fano_row_unf] at h; exact (fano_row_eq K _ _ _ _ _ _ _ _).trans h
 · cases h

noncomputable def sp26 : Ev.Spec := fun args _ K => match args with
 | ([AV.agg (Blk.any [Ai v0, Ai v1, Ai v2, Ai v3, Ai v4, Fu v5, Ai v6, Fu v7])]) => fano_Check v0 v1 v2 v3 v4 v5 v6 v7 (fun v8 => K (Ab v8))
 | _ => none
noncomputable def S26 := addS 26 sp26 S57
theorem D37 : Dom B0 V S26 T84 37 := Dom.s (m := 36) (n := 0) D36 D36 (O := (fun _ => none)) (fun _ _ _ _ => OrcOk.none _ _) fun args R K r h => by
 unfold sp26 at h; split at h
 · rw [fano_Check_unf] at h; exact Eq.trans (by kernel_rfl) h
 · cases h

noncomputable def o102_5000_in {R : Type} (K : Ex → St → Option R) (vs : List AV) (hh : H) : Option R := match vs, hh with
 | [Ab v0], [] => ints_has_j5 v0 (fun v1 => K (Ex.ret) (St.mk (spread 24 0 [4] [AV.iface 134 (Ap 0 0)]) [HA [Ai v1]])) (fun _ => K (Ex.normal) (St.mk (spread 24 0 [] []) []))
 | _, _ => none

noncomputable def o102 : Nat → Option PSpec := lkN [(5000, fun st _ K => pickM 24 [12] st (o102_5000_in K))]
noncomputable def q102 : CallF := evFun (V 102) S26 T84 10

noncomputable def c102_5000 : Code := subC [1, 0, 0, 1, 1, 1] (bodyOf Tryd.f102)

theorem p102_5000 : PieceOk (V 102) q102 o102 102 0 (3994, 0, c102_5000) := .s (size := 24) (ss := [12]) (F := @o102_5000_in) (by kernel_rfl) fun R r K vs hh h => by
  unfold o102_5000_in at h; split at h
  · rw [ints_has_j5_unf] at h; exact Eq.trans (by kernel_rfl) h
  · cases h

theorem pc102 : ∀ x ∈ [(3994, 0, c102_5000)], PieceOk (V 102) q102 o102 102 0 x := List.forall_mem_cons.2 ⟨p102_5000, fun _ h => nomatch h⟩

noncomputable def sp102 : Ev.Spec := fun args _ K => match args with
 | ([AV.agg (Blk.any [Ai v0, Ai v1, Ai v2, Fu v3]), Ai v4]) => ints_has v0 v1 v2 v3 v4 (fun v5 => K (AV.iface 134 (AV.fptr (Blk.any [Ai v5])))) (fun _ => K (AV.nilif))
 | _ => none
noncomputable def S102 := addS 102 sp102 S26
theorem D38 : Dom B0 V S102 T84 38 := Dom.s (m := 37) (n := 0) D37 D37 (O := o102) (OrcOk.fn (fn0 := Tryd.f102) (by kernel_rfl) (by kernel_rfl) pc102) fun args R K r h => by
 unfold sp102 at h; split at h
 · rw [ints_has_unf] at h; exact Eq.trans (by kernel_rfl) h
 · cases h

noncomputable def sp80 : Ev.Spec := fun args _ K => match args with
 | ([AV.agg (Blk.any [Ai v0, Ai v1, Ai v2, Fu v3]), Ai v4]) => ints_Get v0 v1 v2 v3 v4 (fun v5 v6 => K (AV.tup [Au v5, Ai v6]))
 | _ => none
noncomputable def S80 := addS 80 sp80 S102
theorem D39 : Dom B0 V S80 T84 39 := Dom.s (m := 38) (n := 0) D38 D38 (O := (fun _ => none)) (fun _ _ _ _ => OrcOk.none _ _) fun args R K r h => by
 unfold sp80 at h; split at h
 · rw [ints_Get_unf] at h; exact Eq.trans (by kernel_rfl) h
 · cases h

noncomputable def o56_5400_in {R : Type} (K : Ex → St → Option R) (vs : List AV) (hh : H) : Option R := match vs, hh with
 | [Ai v0, Ap 0 0, Ai v1, Ai v2, Ai v3, Fu v4, Ai v5, Ai v6], [HA [Ai v7, Ai v8, Ai v9, Ai va, Ai vb, Fu vc, Ai vd, Fu ve]] => fano_place_l5 v0 v1 v2 v3 v4 v5 v6 v7 v8 v9 va vb vc vd ve (fun vf vg vh vi vj vk vl vm vn vo vp => K (Ex.exit 0) (St.mk (spread 63 0 [1, 2, 5, 7] [Ai vf, Ap 0 0, Ai vg, Ai vh]) [HA [Ai vi, Ai vj, Ai vk, Ai vl, Ai vm, Fu vn, Ai vo, Fu vp]]))
 | _, _ => none

noncomputable def o56 : Nat → Option PSpec := lkN [(5400, fun st _ K => pickM 63 [1, 2, 5, 6, 7, 22, 23, 24] st (o56_5400_in K))]
noncomputable def q56 : CallF := evFun (V 56) S80 T84 10

noncomputable def c56_5400 : Code := subC [1, 1, 1, 0, 1, 0, 0] (bodyOf Tryd.f56)

noncomputable def lp56_5400 {R : Type} (N : Nat) (st : St) (K : Ex → St → Option R) : Option R := evLoop (norm ((V 56).keep 56 (Ev.keyOf c56_5400 * 1000 + 400)) 0) (evCode (V 56) q56 o56 56 0 3993 c56_5400) N st (kOut (V 56) 56 0 (Ev.keyOf c56_5400 * 1000 + 401) K)

theorem fano_place_l5_L_eq {R : Type} (K : Ex → St → Option R) : ∀ N : Nat, (fun (v0 v1 v2 v3 : Int) (v4 : List Int) (v5 v6 v7 v8 v9 va vb : Int) (vc : List Int) (vd : Int) (ve : List Int) => lp56_5400 N (St.mk (spread 63 0 [1, 2, 5, 6, 7, 22, 23, 24] [Ai v0, Ap 0 0, Ai v1, Ai v2, Ai v3, Fu v4, Ai v5, Ai v6]) [HA [Ai v7, Ai v8, Ai v9, Ai va, Ai vb, Fu vc, Ai vd, Fu ve]]) K) = fano_place_l5_L (fun vf vg vh vi vj vk vl vm vn vo vp => K (Ex.exit 0) (St.mk (spread 63 0 [1, 2, 5, 7] [Ai vf, Ap 0 0, Ai vg, Ai vh]) [HA [Ai vi, Ai vj, Ai vk, Ai vl, Ai vm, Fu vn, Ai vo, Fu vp]])) N
  | 0 => by funext v0 v1 v2 v3 v4 v5 v6 v7 v8 v9 va vb vc vd ve; rfl
  | N + 1 => by
    funext v0 v1 v2 v3 v4 v5 v6 v7 v8 v9 va vb vc vd ve
    simp only [fano_place_l5_L]
    rw [← fano_place_l5_L_eq K N]
    kernel_rfl

theorem p56_5400 : PieceOk (V 56) q56 o56 56 0 (3993, 1, c56_5400) := .l (size := 63) (ss := [1, 2, 5, 6, 7, 22, 23, 24]) (F := @o56_5400_in) (by kernel_rfl) (by kernel_rfl) fun R r K vs hh h => by
  unfold o56_5400_in at h; split at h
  · rw [fano_place_l5_unf] at h; unfold fano_place_l5_B at h; rw [← fano_place_l5_L_eq K NR] at h; exact h
  · cases h

theorem pc56 : ∀ x ∈ [(3993, 1, c56_5400)], PieceOk (V 56) q56 o56 56 0 x := List.forall_mem_cons.2 ⟨p56_5400, fun _ h => nomatch h⟩

noncomputable def sp56 : Ev.Spec := fun args _ K => match args with
 | ([AV.agg (Blk.any [Ai v0, Ai v1, Ai v2, Ai v3, Ai v4, Fu v5, Ai v6, Fu v7]), Ai v8]) => fano_place v0 v1 v2 v3 v4 v5 v6 v7 v8 (fun v9 => K (Ai v9))
 | _ => none
noncomputable def S56 := addS 56 sp56 S80
theorem D40 : Dom B0 V S56 T84 40 := Dom.s (m := 39) (n := 0) D39 D39 (O := o56) (OrcOk.fn (fn0 := Tryd.f56) (by kernel_rfl) (by kernel_rfl) pc56) fun args R K r h => by
 unfold sp56 at h; split at h
 · rw [fano_place_unf] at h; exact Eq.trans (by kernel_rfl) h
 · cases h

noncomputable def o49_3400_in {R : Type} (K : Ex → St → Option R) (vs : List AV) (hh : H) : Option R := match vs, hh with
 | [Ai v0, Ap 0 0, Ai v1, Ai v2], [HA [Ai v3, Ai v4, Ai v5, Ai v6, Ai v7, Fu v8, Ai v9, Fu va]] => fano_ones_l3 v0 v1 v2 v3 v4 v5 v6 v7 v8 v9 va (fun vb => K (Ex.exit 0) (St.mk (spread 26 0 [5] [Ai vb]) []))
 | _, _ => none

noncomputable def o49 : Nat → Option PSpec := lkN [(3400, fun st _ K => pickM 26 [1, 2, 5, 6] st (o49_3400_in K))]
noncomputable def q49 : CallF := evFun (V 49) S56 T84 10

noncomputable def c49_3400 : Code := subC [1, 1, 0, 0, 0] (bodyOf Tryd.f49)

noncomputable def lp49_3400 {R : Type} (N : Nat) (st : St) (K : Ex → St → Option R) : Option R := evLoop (norm ((V 49).keep 49 (Ev.keyOf c49_3400 * 1000 + 400)) 0) (evCode (V 49) q49 o49 49 0 3995 c49_3400) N st (kOut (V 49) 49 0 (Ev.keyOf c49_3400 * 1000 + 401) K)

theorem fano_ones_l3_L_eq {R : Type} (K : Ex → St → Option R) : ∀ N : Nat, (fun (v0 v1 v2 v3 v4 v5 v6 v7 : Int) (v8 : List Int) (v9 : Int) (va : List Int) => lp49_3400 N (St.mk (spread 26 0 [1, 2, 5, 6] [Ai v0, Ap 0 0, Ai v1, Ai v2]) [HA [Ai v3, Ai v4, Ai v5, Ai v6, Ai v7, Fu v8, Ai v9, Fu va]]) K) = fano_ones_l3_L (fun vb => K (Ex.exit 0) (St.mk (spread 26 0 [5] [Ai vb]) [])) N
  | 0 => by funext v0 v1 v2 v3 v4 v5 v6 v7 v8 v9 va; rfl
  | N + 1 => by
    funext v0 v1 v2 v3 v4 v5 v6 v7 v8 v9 va
    simp only [fano_ones_l3_L]
    rw [← fano_ones_l3_L_eq K N]
    kernel_rfl

theorem p49_3400 : PieceOk (V 49) q49 o49 49 0 (3995, 1, c49_3400) := .l (size := 26) (ss := [1, 2, 5, 6]) (F := @o49_3400_in) (by kernel_rfl) (by kernel_rfl) fun R r K vs hh h => by
  unfold o49_3400_in at h; split at h
  · rw [fano_ones_l3_unf] at h; unfold fano_ones_l3_B at h; rw [← fano_ones_l3_L_eq K NR] at h; exact h
  · cases h

theorem pc49 : ∀ x ∈ [(3995, 1, c49_3400)], PieceOk (V 49) q49 o49 49 0 x := List.forall_mem_cons.2 ⟨p49_3400, fun _ h => nomatch h⟩

noncomputable def sp49 : Ev.Spec := fun args _ K => match args with
 | ([AV.agg (Blk.any [Ai v0, Ai v1, Ai v2, Ai v3, Ai v4, Fu v5, Ai v6, Fu v7]), Ai v8]) => fano_ones v0 v1 v2 v3 v4 v5 v6 v7 v8 (fun v9 => K (Ai v9))
 | _ => none
noncomputable def S49 := addS 49 sp49 S56
theorem D41 : Dom B0 V S49 T84 41 := Dom.s (m := 40) (n := 0) D40 D40 (O := o49) (OrcOk.fn (fn0 := Tryd.f49) (by kernel_rfl) (by kernel_rfl) pc49) fun args R K r h => by
 unfold sp49 at h; split at h
 · rw [fano_ones_unf] at h; exact Eq.trans (by kernel_rfl) h
 · cases h

noncomputable def o15_6000_in {R : Type} (K : Ex → St → Option R) (vs : List AV) (hh : H) : Option R := match vs, hh with
 | [Ai v0, Ap 0 0], [HA [Ai v1, Ai v2, Ai v3, Ai v4, Ai v5, Fu v6, Ai v7, Fu v8]] => fano_Access_j6 v0 v1 v2 v3 v4 v5 v6 v7 v8 (fun v9 va => K (Ex.ret) (St.mk (spread 27 0 [4, 5] [Ab v9, Ai va]) []))
 | _, _ => none

noncomputable def o15 : Nat → Option PSpec := lkN [(6000, fun st _ K => pickM 27 [1, 2] st (o15_6000_in K))]
noncomputable def q15 : CallF := evFun (V 15) S49 T84 10

noncomputable def c15_6000 : Code := subC [1, 1] (bodyOf Tryd.f15)

theorem p15_6000 : PieceOk (V 15) q15 o15 15 0 (3998, 0, c15_6000) := .s (size := 27) (ss := [1, 2]) (F := @o15_6000_in) (by kernel_rfl) fun R r K vs hh h => by
  unfold o15_6000_in at h; split at h
  · rw [fano_Access_j6_unf] at h; exact Eq.trans (by kernel_rfl) h
  · cases h

theorem pc15 : ∀ x ∈ [(3998, 0, c15_6000)], PieceOk (V 15) q15 o15 15 0 x := List.forall_mem_cons.2 ⟨p15_6000, fun _ h => nomatch h⟩

noncomputable def sp15 : Ev.Spec := fun args _ K => match args with
 | ([AV.agg (Blk.any [Ai v0, Ai v1, Ai v2, Ai v3, Ai v4, Fu v5, Ai v6, Fu v7]), Ai v8]) => fano_Access v0 v1 v2 v3 v4 v5 v6 v7 v8 (fun v9 va => K (AV.tup [Ab v9, Ai va]))
 | _ => none
noncomputable def S15 := addS 15 sp15 S49
theorem D42 : Dom B0 V S15 T84 42 := Dom.s (m := 41) (n := 0) D41 D41 (O := o15) (OrcOk.fn (fn0 := Tryd.f15) (by kernel_rfl) (by kernel_rfl) pc15) fun args R K r h => by
 unfold sp15 at h; split at h
 · rw [fano_Access_unf] at h; exact Eq.trans (by kernel_rfl) h
 · cases h

noncomputable def o14_6000_in {R : Type} (K : Ex → St → Option R) (vs : List AV) (hh : H) : Option R := match vs, hh with
 | [Ab v0, Ai v1, Ap 0 0], [HA [Ai v2, Ai v3, Ai v4, Ai v5, Ai v6, Fu v7, Ai v8, Fu v9]] => fano_Rank_j6 v0 v1 v2 v3 v4 v5 v6 v7 v8 v9 (fun va vb => K (Ex.ret) (St.mk (spread 31 0 [6, 7] [Ai va, Ai vb]) []))
 | _, _ => none

noncomputable def o14 : Nat → Option PSpec := lkN [(6000, fun st _ K => pickM 31 [1, 2, 3] st (o14_6000_in K))]
noncomputable def q14 : CallF := evFun (V 14) S15 T84 10

noncomputable def c14_6000 : Code := subC [1, 1] (bodyOf Tryd.f14)

theorem p14_6000 : PieceOk (V 14) q14 o14 14 0 (3998, 0, c14_6000) := .s (size := 31) (ss := [1, 2, 3]) (F := @o14_6000_in) (by kernel_rfl) fun R r K vs hh h => by
  unfold o14_6000_in at h; split at h
  · rw [fano_Rank_j6_unf] at h; exact Eq.trans (by kernel_rfl) h
  · cases h

theorem pc14 : ∀ x ∈ [(3998, 0, c14_6000)], PieceOk (V 14) q14 o14 14 0 x := List.forall_mem_cons.2 ⟨p14_6000, fun _ h => nomatch h⟩

noncomputable def sp14 : Ev.Spec := fun args _ K => match args with
 | ([AV.agg (Blk.any [Ai v0, Ai v1, Ai v2, Ai v3, Ai v4, Fu v5, Ai v6, Fu v7]), Ab v8, Ai v9]) => fano_Rank v0 v1 v2 v3 v4 v5 v6 v7 v8 v9 (fun va vb => K (AV.tup [Ai va, Ai vb]))
 | _ => none
noncomputable def S14 := addS 14 sp14 S15
theorem D43 : Dom B0 V S14 T84 43 := Dom.s (m := 42) (n := 0) D42 D42 (O := o14) (OrcOk.fn (fn0 := Tryd.f14) (by kernel_rfl) (by kernel_rfl) pc14) fun args R K r h => by
 unfold sp14 at h; split at h
 · rw [fano_Rank_unf] at h; exact Eq.trans (by kernel_rfl) h
 · cases h

noncomputable def o24_5000_in {R : Type} (K : Ex → St → Option R) (vs : List AV) (hh : H) : Option R := match vs, hh with
 | [Ab v0, Ai v1, Ap 0 0, Ai v2], [HA [Ai v3, Ai v4, Ai v5, Ai v6, Ai v7, Fu v8, Ai v9, Fu va]] => fano_Select_j5 v0 v1 v2 v3 v4 v5 v6 v7 v8 v9 va (fun vb vc => K (Ex.ret) (St.mk (spread 61 0 [6, 7] [Ai vb, Ai vc]) []))
 | _, _ => none

noncomputable def o24_8000_in {R : Type} (K : Ex → St → Option R) (vs : List AV) (hh : H) : Option R := match vs, hh with
 | [Ab v0, Ai v1, Ap 0 0, Ab v2], [HA [Ai v3, Ai v4, Ai v5, Ai v6, Ai v7, Fu v8, Ai v9, Fu va]] => fano_Select_j8 v0 v1 v2 v3 v4 v5 v6 v7 v8 v9 va (fun vb vc => K (Ex.ret) (St.mk (spread 61 0 [6, 7] [Ai vb, Ai vc]) [])) (fun vb vc vd ve vf vg vh vi vj => K (Ex.normal) (St.mk (spread 61 0 [2, 3] [Ai vb, Ap 0 0]) [HA [Ai vc, Ai vd, Ai ve, Ai vf, Ai vg, Fu vh, Ai vi, Fu vj]]))
 | _, _ => none

noncomputable def o24_11000_in {R : Type} (K : Ex → St → Option R) (vs : List AV) (hh : H) : Option R := match vs, hh with
 | [Ai v0, Ap 0 0], [HA [Ai v1, Ai v2, Ai v3, Ai v4, Ai v5, Fu v6, Ai v7, Fu v8]] => fano_Select_j11 v0 v1 v2 v3 v4 v5 v6 v7 v8 (fun v9 va => K (Ex.ret) (St.mk (spread 61 0 [6, 7] [Ai v9, Ai va]) []))
 | _, _ => none

noncomputable def o24_12400_in {R : Type} (K : Ex → St → Option R) (vs : List AV) (hh : H) : Option R := match vs, hh with
 | [Ai v0, Ap 0 0, Ai v1, Ai v2], [HA [Ai v3, Ai v4, Ai v5, Ai v6, Ai v7, Fu v8, Ai v9, Fu va]] => fano_Select_l12 v0 v1 v2 v3 v4 v5 v6 v7 v8 v9 va (fun vb => K (Ex.exit 1) (St.mk (spread 61 0 [9] [Ai vb]) []))
 | _, _ => none

noncomputable def o24 : Nat → Option PSpec := lkN [(5000, fun st _ K => pickM 61 [1, 2, 3, 8] st (o24_5000_in K)), (8000, fun st _ K => pickM 61 [1, 2, 3, 25] st (o24_8000_in K)), (11000, fun st _ K => pickM 61 [2, 3] st (o24_11000_in K)), (12400, fun st _ K => pickM 61 [2, 3, 9, 10] st (o24_12400_in K))]
noncomputable def q24 : CallF := evFun (V 24) S14 T84 10

noncomputable def c24_5000 : Code := subC [1, 1, 1] (bodyOf Tryd.f24)

noncomputable def c24_11000 : Code := subC [1, 1, 1, 1] (bodyOf Tryd.f24)

noncomputable def c24_8000 : Code := subC [1, 1, 1, 0, 0, 1, 1, 1] (bodyOf Tryd.f24)

noncomputable def c24_12400 : Code := subC [1, 1, 1, 1, 1, 0, 0, 0] (bodyOf Tryd.f24)

noncomputable def lp24_12400 {R : Type} (N : Nat) (st : St) (K : Ex → St → Option R) : Option R := evLoop (norm ((V 24).keep 24 (Ev.keyOf c24_12400 * 1000 + 400)) 0) (evCode (V 24) q24 o24 24 0 3992 c24_12400) N st (kOut (V 24) 24 0 (Ev.keyOf c24_12400 * 1000 + 401) K)

theorem fano_Select_l12_L_eq {R : Type} (K : Ex → St → Option R) : ∀ N : Nat, (fun (v0 v1 v2 v3 v4 v5 v6 v7 : Int) (v8 : List Int) (v9 : Int) (va : List Int) => lp24_12400 N (St.mk (spread 61 0 [2, 3, 9, 10] [Ai v0, Ap 0 0, Ai v1, Ai v2]) [HA [Ai v3, Ai v4, Ai v5, Ai v6, Ai v7, Fu v8, Ai v9, Fu va]]) K) = fano_Select_l12_L (fun vb => K (Ex.exit 1) (St.mk (spread 61 0 [9] [Ai vb]) [])) N
  | 0 => by funext v0 v1 v2 v3 v4 v5 v6 v7 v8 v9 va; rfl
  | N + 1 => by
    funext v0 v1 v2 v3 v4 v5 v6 v7 v8 v9 va
    simp only [fano_Select_l12_L]
    rw [← fano_Select_l12_L_eq K N]
    kernel_rfl

theorem p24_5000 : PieceOk (V 24) q24 o24 24 0 (3997, 0, c24_5000) := .s (size := 61) (ss := [1, 2, 3, 8]) (F := @o24_5000_in) (by kernel_rfl) fun R r K vs hh h => by
  unfold o24_5000_in at h; split at h
  · rw [fano_Select_j5_unf] at h; exact Eq.trans (by kernel_rfl) h
  · cases h

theorem p24_11000 : PieceOk (V 24) q24 o24 24 0 (3996, 0, c24_11000) := .s (size := 61) (ss := [2, 3]) (F := @o24_11000_in) (by kernel_rfl) fun R r K vs hh h => by
  unfold o24_11000_in at h; split at h
  · rw [fano_Select_j11_unf] at h; exact Eq.trans (by kernel_rfl) h
  · cases h

theorem p24_8000 : PieceOk (V 24) q24 o24 24 0 (3992, 0, c24_8000) := .s (size := 61) (ss := [1, 2, 3, 25]) (F := @o24_8000_in) (by kernel_rfl) fun R r K vs hh h => by
  unfold o24_8000_in at h; split at h
  · rw [fano_Select_j8_unf] at h; exact Eq.trans (by kernel_rfl) h
  · cases h

theorem p24_12400 : PieceOk (V 24) q24 o24 24 0 (3992, 1, c24_12400) := .l (size := 61) (ss := [2, 3, 9, 10]) (F := @o24_12400_in) (by kernel_rfl) (by kernel_rfl) fun R r K vs hh h => by
  unfold o24_12400_in at h; split at h
  · rw [fano_Select_l12_unf] at h; unfold fano_Select_l12_B at h; rw [← fano_Select_l12_L_eq K NR] at h; exact h
  · cases h

theorem pc24 : ∀ x ∈ [(3997, 0, c24_5000), (3996, 0, c24_11000), (3992, 0, c24_8000), (3992, 1, c24_12400)], PieceOk (V 24) q24 o24 24 0 x := List.forall_mem_cons.2 ⟨p24_5000, List.forall_mem_cons.2 ⟨p24_11000, List.forall_mem_cons.2 ⟨p24_8000, List.forall_mem_cons.2 ⟨p24_12400, fun _ h => nomatch h⟩⟩⟩⟩

noncomputable def sp24 : Ev.Spec := fun args _ K => match args with
 | ([AV.agg (Blk.any [Ai v0, Ai v1, Ai v2, Ai v3, Ai v4, Fu v5, Ai v6, Fu v7]), Ab v8, Ai v9]) => fano_Select v0 v1 v2 v3 v4 v5 v6 v7 v8 v9 (fun va vb => K (AV.tup [Ai va, Ai vb]))
 | _ => none
noncomputable def S24 := addS 24 sp24 S14
theorem D44 : Dom B0 V S24 T84 44 := Dom.s (m := 43) (n := 0) D43 D43 (O := o24) (OrcOk.fn (fn0 := Tryd.f24) (by kernel_rfl) (by kernel_rfl) pc24) fun args R K r h => by
 unfold sp24 at h; split at h
 · rw [fano_Select_unf] at h; exact Eq.trans (by kernel_rfl) h
 · cases h

noncomputable def sp17 : Ev.Spec := fun args _ K => match args with
 | ([AV.agg (Blk.any [Ai v0, Ai v1, Ai v2, Ai v3, Ai v4, Fu v5, Ai v6, Fu v7])]) => fano_Size v0 v1 v2 v3 v4 v5 v6 v7 (fun v8 => K (Ai v8))
 | _ => none
noncomputable def S17 := addS 17 sp17 S24
theorem D45 : Dom B0 V S17 T84 45 := Dom.s (m := 44) (n := 0) D44 D44 (O := (fun _ => none)) (fun _ _ _ _ => OrcOk.none _ _) fun args R K r h => by
 unfold sp17 at h; split at h
 · rw [fano_Size_unf] at h; exact Eq.trans (by kernel_rfl) h
 · cases h

noncomputable def sp29 : Ev.Spec := fun args _ K => match args with
 | ([AV.agg (Blk.any [Ai v0, Ai v1, Ai v2, Ai v3, Ai v4, Fu v5, Ai v6, Fu v7])]) => fano_Bits v0 v1 v2 v3 v4 v5 v6 v7 (fun v8 v9 => K (AV.agg (Blk.any [Ai v8, Fu v9])))
 | _ => none
noncomputable def S29 := addS 29 sp29 S17
theorem D46 : Dom B0 V S29 T84 46 := Dom.s (m := 45) (n := 0) D45 D45 (O := (fun _ => none)) (fun _ _ _ _ => OrcOk.none _ _) fun args R K r h => by
 unfold sp29 at h; split at h
 · rw [fano_Bits_unf] at h; exact Eq.trans (by kernel_rfl) h
 · cases h

noncomputable def o28r1_4000_in {R : Type} (K : Ex → St → Option R) (vs : List AV) (hh : H) : Option R := match vs, hh with
 | [Ap 1 0, Ap 2 0], [HU v0, HA [Ai v1, Fu v2], HA [Ai v3, AV.sl 0 0 v4 1]] => haystackref02_Same_j4 v0 v1 v2 v3 v4 (fun v5 v6 => K (Ex.ret) (St.mk (spread 38 0 [4] [Ab v5]) [HU v6]))
 | _, _ => none

noncomputable def o28r1_5400_in {R : Type} (K : Ex → St → Option R) (vs : List AV) (hh : H) : Option R := match vs, hh with
 | [Ap 1 0, Ap 2 0, Ai v0], [HU v1, HA [Ai v2, Fu v3], HA [Ai v4, AV.sl 0 0 v5 1]] => haystackref02_Same_l5 v0 v1 v2 v3 v4 v5 (fun v6 v7 => K (Ex.ret) (St.mk (spread 38 0 [4] [Ab v6]) [HU v7])) (fun v6 => K (Ex.exit 0) (St.mk (spread 38 0 [] []) [HU v6]))
 | _, _ => none

noncomputable def o28r1 : Nat → Option PSpec := lkN [(4000, fun st _ K => pickM 38 [2, 3] st (o28r1_4000_in K)), (5400, fun st _ K => pickM 38 [2, 3, 5] st (o28r1_5400_in K))]
noncomputable def q28r1 : CallF := evFun (V 28) S29 T84 10

noncomputable def c28r1_4000 : Code := subC [1, 1] (bodyOf Tryd.f28)

noncomputable def c28r1_5400 : Code := subC [1, 1, 0, 1, 0, 0] (bodyOf Tryd.f28)

noncomputable def lp28r1_5400 {R : Type} (N : Nat) (st : St) (K : Ex → St → Option R) : Option R := evLoop (norm ((V 28).keep 28 (Ev.keyOf c28r1_5400 * 1000 + 400)) 1) (evCode (V 28) q28r1 o28r1 28 1 3994 c28r1_5400) N st (kOut (V 28) 28 1 (Ev.keyOf c28r1_5400 * 1000 + 401) K)

theorem haystackref02_Same_l5_L_eq {R : Type} (K : Ex → St → Option R) : ∀ N : Nat, (fun (v0 : Int) (v1 : List Int) (v2 : Int) (v3 : List Int) (v4 : Int) (v5 : Nat) => lp28r1_5400 N (St.mk (spread 38 0 [2, 3, 5] [Ap 1 0, Ap 2 0, Ai v0]) [HU v1, HA [Ai v2, Fu v3], HA [Ai v4, AV.sl 0 0 v5 1]]) K) = haystackref02_Same_l5_L (fun v6 v7 => K (Ex.ret) (St.mk (spread 38 0 [4] [Ab v6]) [HU v7])) (fun v6 => K (Ex.exit 0) (St.mk (spread 38 0 [] []) [HU v6])) N
  | 0 => by funext v0 v1 v2 v3 v4 v5; rfl
  | N + 1 => by
    funext v0 v1 v2 v3 v4 v5
    simp only [haystackref02_Same_l5_L]
    rw [← haystackref02_Same_l5_L_eq K N]
    kernel_rfl

theorem p28r1_4000 : PieceOk (V 28) q28r1 o28r1 28 1 (3998, 0, c28r1_4000) := .s (size := 38) (ss := [2, 3]) (F := @o28r1_4000_in) (by kernel_rfl) fun R r K vs hh h => by
  unfold o28r1_4000_in at h; split at h
  · rw [haystackref02_Same_j4_unf] at h; exact Eq.trans (by kernel_rfl) h
  · cases h

theorem p28r1_5400 : PieceOk (V 28) q28r1 o28r1 28 1 (3994, 1, c28r1_5400) := .l (size := 38) (ss := [2, 3, 5]) (F := @o28r1_5400_in) (by kernel_rfl) (by kernel_rfl) fun R r K vs hh h => by
  unfold o28r1_5400_in at h; split at h
  · rw [haystackref02_Same_l5_unf] at h; unfold haystackref02_Same_l5_B at h; rw [← haystackref02_Same_l5_L_eq K NR] at h; exact h
  · cases h

theorem pc28r1 : ∀ x ∈ [(3998, 0, c28r1_4000), (3994, 1, c28r1_5400)], PieceOk (V 28) q28r1 o28r1 28 1 x := List.forall_mem_cons.2 ⟨p28r1_4000, List.forall_mem_cons.2 ⟨p28r1_5400, fun _ h => nomatch h⟩⟩

noncomputable def hs28 : HSpec := fun args h _ K => match args, h with
 | [AV.agg (Blk.any [Ai v0, Fu v1]), AV.agg (Blk.any [Ai v2, AV.sl 0 0 v3 1])], [HU v4] => haystackref02_Same_r v0 v1 v2 v3 v4 (fun v5 v6 => K (Ab v5) ([HU v6]))
 | _, _ => none
noncomputable def T28 := addT 28 hs28 T84
theorem D47 : Dom B0 V S29 T28 47 := Dom.t D46 fun args hh R K r h => by
 unfold hs28 at h; split at h
 · rw [haystackref02_Same_r_unf] at h; exact ⟨o28r1, (OrcOk.fn (fn0 := Tryd.f28) (by kernel_rfl) (by kernel_rfl) pc28r1), Eq.trans (by kernel_rfl) h⟩
 · cases h

noncomputable def o12_4000_in {R : Type} (K : Ex → St → Option R) (vs : List AV) (hh : H) : Option R := match vs, hh with
 | [Ap 0 0, Ai v0, Ab v1, Ai v2], [HA [Ai v3, Ai v4, Ai v5, Ai v6, Ai v7, AV.esl, Ai v8, AV.esl]] => haystacklaw09_heads_j4 v0 v1 v2 v3 v4 v5 v6 v7 v8 (fun v9 => K (Ex.ret) (St.mk (spread 108 0 [0] [Ab v9]) []))
 | [Ap 0 0, Ai va, Ab vb, Ai vc], [HA [Ai vd, Ai ve, Ai vf, Ai vg, Ai vh, AV.esl, Ai vi, Fu vj]] => haystacklaw09_heads_j4_1 va vb vc vd ve vf vg vh vi vj (fun v9 => K (Ex.ret) (St.mk (spread 108 0 [0] [Ab v9]) []))
 | [Ap 0 0, Ai vk, Ab vl, Ai vm], [HA [Ai vn, Ai vo, Ai vp, Ai vq, Ai vr, Fu vs, Ai vt, AV.esl]] => haystacklaw09_heads_j4_2 vk vl vm vn vo vp vq vr vs vt (fun v9 => K (Ex.ret) (St.mk (spread 108 0 [0] [Ab v9]) []))
 | [Ap 0 0, Ai vu, Ab vv, Ai vw], [HA [Ai vx, Ai vy, Ai vz, Ai v10, Ai v11, Fu v12, Ai v13, Fu v14]] => haystacklaw09_heads_j4_3 vu vv vw vx vy vz v10 v11 v12 v13 v14 (fun v9 => K (Ex.ret) (St.mk (spread 108 0 [0] [Ab v9]) []))
 | _, _ => none

noncomputable def o12 : Nat → Option PSpec := lkN [(4000, fun st _ K => pickM 108 [1, 2, 3, 4] st (o12_4000_in K))]
noncomputable def q12 : CallF := evFun (V 12) S29 T28 10

noncomputable def c12_4000 : Code := subC [1, 1, 1] (bodyOf Tryd.f12)

theorem haystacklaw09_heads_j4_eq {R : Type} (K : Ex → St → Option R) (v0 : Int) (v1 : Bool) (v2 v3 v4 v5 v6 v7 v8 : Int) : evCode (V 12) q12 o12 12 0 3997 c12_4000 (St.mk (spread 108 0 [1, 2, 3, 4] [Ap 0 0, Ai v0, Ab v1, Ai v2]) [HA [Ai v3, Ai v4, Ai v5, Ai v6, Ai v7, AV.esl, Ai v8, AV.esl]]) (kOut (V 12) 12 0 (Ev.keyOf c12_4000 * 1000 + 1) K) = haystacklaw09_heads_j4_B v0 v1 v2 v3 v4 v5 v6 v7 v8 (fun v9 => K (Ex.ret) (St.mk (spread 108 0 [0] [Ab v9]) [])) := by kernel_rfl

theorem haystacklaw09_heads_j4_1_eq {R : Type} (K : Ex → St → Option R) (v0 : Int) (v1 : Bool) (v2 v3 v4 v5 v6 v7 v8 : Int) (v9 : List Int) : evCode (V 12) q12 o12 12 0 3997 c12_4000 (St.mk (spread 108 0 [1, 2, 3, 4] [Ap 0 0, Ai v0, Ab v1, Ai v2]) [HA [Ai v3, Ai v4, Ai v5, Ai v6, Ai v7, AV.esl, Ai v8, Fu v9]]) (kOut (V 12) 12 0 (Ev.keyOf c12_4000 * 1000 + 1) K) = haystacklaw09_heads_j4_1_B v0 v1 v2 v3 v4 v5 v6 v7 v8 v9 (fun va => K (Ex.ret) (St.mk (spread 108 0 [0] [Ab va]) [])) := by kernel_rfl

theorem haystacklaw09_heads_j4_2_eq {R : Type} (K : Ex → St → Option R) (v0 : Int) (v1 : Bool) (v2 v3 v4 v5 v6 v7 : Int) (v8 : List Int) (v9 : Int) : evCode (V 12) q12 o12 12 0 3997 c12_4000 (St.mk (spread 108 0 [1, 2, 3, 4] [Ap 0 0, Ai v0, Ab v1, Ai v2]) [HA [Ai v3, Ai v4, Ai v5, Ai v6, Ai v7, Fu v8, Ai v9, AV.esl]]) (kOut (V 12) 12 0 (Ev.keyOf c12_4000 * 1000 + 1) K) = haystacklaw09_heads_j4_2_B v0 v1 v2 v3 v4 v5 v6 v7 v8 v9 (fun va => K (Ex.ret) (St.mk (spread 108 0 [0] [Ab va]) [])) := by kernel_rfl

theorem haystacklaw09_heads_j4_3_eq {R : Type} (K : Ex → St → Option R) (v0 : Int) (v1 : Bool) (v2 v3 v4 v5 v6 v7 : Int) (v8 : List Int) (v9 : Int) (va : List Int) : evCode (V 12) q12 o12 12 0 3997 c12_4000 (St.mk (spread 108 0 [1, 2, 3, 4] [Ap 0 0, Ai v0, Ab v1, Ai v2]) [HA [Ai v3, Ai v4, Ai v5, Ai v6, Ai v7, Fu v8, Ai v9, Fu va]]) (kOut (V 12) 12 0 (Ev.keyOf c12_4000 * 1000 + 1) K) = haystacklaw09_heads_j4_3_B v0 v1 v2 v3 v4 v5 v6 v7 v8 v9 va (fun vb => K (Ex.ret) (St.mk (spread 108 0 [0] [Ab vb]) [])) := by kernel_rfl

theorem p12_4000 : PieceOk (V 12) q12 o12 12 0 (3997, 0, c12_4000) := .s (size := 108) (ss := [1, 2, 3, 4]) (F := @o12_4000_in) (by kernel_rfl) fun R r K vs hh h => by
  unfold o12_4000_in at h; split at h
  · rw [haystacklaw09_heads_j4_unf] at h; exact (haystacklaw09_heads_j4_eq K _ _ _ _ _ _ _ _ _).trans h
  · rw [haystacklaw09_heads_j4_1_unf] at h; exact (haystacklaw09_heads_j4_1_eq K _ _ _ _ _ _ _ _ _ _).trans h
  · rw [haystacklaw09_heads_j4_2_unf] at h; exact (haystacklaw09_heads_j4_2_eq K _ _ _ _ _ _ _ _ _ _).trans h
  · rw [haystacklaw09_heads_j4_3_unf] at h; exact (haystacklaw09_heads_j4_3_eq K _ _ _ _ _ _ _ _ _ _ _).trans h
  · cases h

theorem pc12 : ∀ x ∈ [(3997, 0, c12_4000)], PieceOk (V 12) q12 o12 12 0 x := List.forall_mem_cons.2 ⟨p12_4000, fun _ h => nomatch h⟩

theorem haystacklaw09_heads_eq {R : Type} (K : AV → Option R) : evSpec (V 12) S29 T28 o12 10 12 [] R K = haystacklaw09_heads_B (fun v0 => K (Ab v0)) := by kernel_rfl

noncomputable def sp12 : Ev.Spec := fun args _ K => match args with
 | [] => haystacklaw09_heads (fun v0 => K (Ab v0))
 | _ => none
noncomputable def S12 := addS 12 sp12 S29
theorem D48 : Dom B0 V S12 T28 48 := Dom.s (m := 47) (n := 0) D47 D47 (O := o12) (OrcOk.fn (fn0 := Tryd.f12) (by kernel_rfl) (by kernel_rfl) pc12) fun args R K r h => by
 unfold sp12 at h; split at h
 · rw [haystacklaw09_heads_unf] at h; exact (haystacklaw09_heads_eq K).trans h
 · cases h

noncomputable def sp39 : Ev.Spec := fun args _ K => match args with
 | ([Ai v0]) => haystackref02_Words v0 (fun v1 => K (Ai v1))
 | _ => none
noncomputable def S39 := addS 39 sp39 S12
theorem D49 : Dom B0 V S39 T28 49 := Dom.s (m := 48) (n := 0) D48 D48 (O := (fun _ => none)) (fun _ _ _ _ => OrcOk.none _ _) fun args R K r h => by
 unfold sp39 at h; split at h
 · rw [haystackref02_Words_unf] at h; exact Eq.trans (by kernel_rfl) h
 · cases h

noncomputable def o40_4400_in {R : Type} (K : Ex → St → Option R) (vs : List AV) (hh : H) : Option R := match vs, hh with
 | [Ai v0, Au v1, Ai v2], [] => haystackref01_Mask_l4 v0 v1 v2 (fun v3 => K (Ex.exit 0) (St.mk (spread 20 0 [3] [Au v3]) []))
 | _, _ => none

noncomputable def o40_6000_in {R : Type} (K : Ex → St → Option R) (vs : List AV) (hh : H) : Option R := match vs, hh with
 | [Ai v0, Au v1, Ai v2], [] => haystackref01_Mask_j6 v0 v1 v2 (fun v3 v4 v5 => K (Ex.normal) (St.mk (spread 20 0 [0, 3, 4] [Ai v3, Au v4, Ai v5]) []))
 | _, _ => none

noncomputable def o40 : Nat → Option PSpec := lkN [(4400, fun st _ K => pickM 20 [0, 3, 4] st (o40_4400_in K)), (6000, fun st _ K => pickM 20 [0, 3, 4] st (o40_6000_in K))]
noncomputable def q40 : CallF := evFun (V 40) S39 T28 10

noncomputable def c40_4400 : Code := subC [1, 1, 0, 1, 0, 0] (bodyOf Tryd.f40)

noncomputable def lp40_4400 {R : Type} (N : Nat) (st : St) (K : Ex → St → Option R) : Option R := evLoop (norm ((V 40).keep 40 (Ev.keyOf c40_4400 * 1000 + 400)) 0) (evCode (V 40) q40 o40 40 0 3994 c40_4400) N st (kOut (V 40) 40 0 (Ev.keyOf c40_4400 * 1000 + 401) K)

noncomputable def c40_6000 : Code := subC [1, 1, 0, 1, 0, 0, 1] (bodyOf Tryd.f40)

theorem haystackref01_Mask_l4_L_eq {R : Type} (K : Ex → St → Option R) : ∀ N : Nat, (fun (v0 v1 v2 : Int) => lp40_4400 N (St.mk (spread 20 0 [0, 3, 4] [Ai v0, Au v1, Ai v2]) []) K) = haystackref01_Mask_l4_L (fun v3 => K (Ex.exit 0) (St.mk (spread 20 0 [3] [Au v3]) [])) N
  | 0 => by funext v0 v1 v2; rfl
  | N + 1 => by
    funext v0 v1 v2
    simp only [haystackref01_Mask_l4_L]
    rw [← haystackref01_Mask_l4_L_eq K N]
    kernel_rfl

theorem p40_4400 : PieceOk (V 40) q40 o40 40 0 (3994, 1, c40_4400) := .l (size := 20) (ss := [0, 3, 4]) (F := @o40_4400_in) (by kernel_rfl) (by kernel_rfl) fun R r K vs hh h => by
  unfold o40_4400_in at h; split at h
  · rw [haystackref01_Mask_l4_unf] at h; unfold haystackref01_Mask_l4_B at h; rw [← haystackref01_Mask_l4_L_eq K NR] at h; exact h
  · cases h

theorem p40_6000 : PieceOk (V 40) q40 o40 40 0 (3993, 0, c40_6000) := .s (size := 20) (ss := [0, 3, 4]) (F := @o40_6000_in) (by kernel_rfl) fun R r K vs hh h => by
  unfold o40_6000_in at h; split at h
  · rw [haystackref01_Mask_j6_unf] at h; exact Eq.trans (by kernel_rfl) h
  · cases h

theorem pc40 : ∀ x ∈ [(3994, 1, c40_4400), (3993, 0, c40_6000)], PieceOk (V 40) q40 o40 40 0 x := List.forall_mem_cons.2 ⟨p40_4400, List.forall_mem_cons.2 ⟨p40_6000, fun _ h => nomatch h⟩⟩

noncomputable def sp40 : Ev.Spec := fun args _ K => match args with
 | ([Ai v0]) => haystackref01_Mask v0 (fun v1 => K (Au v1))
 | _ => none
noncomputable def S40 := addS 40 sp40 S39
theorem D50 : Dom B0 V S40 T28 50 := Dom.s (m := 49) (n := 0) D49 D49 (O := o40) (OrcOk.fn (fn0 := Tryd.f40) (by kernel_rfl) (by kernel_rfl) pc40) fun args R K r h => by
 unfold sp40 at h; split at h
 · rw [haystackref01_Mask_unf] at h; exact Eq.trans (by kernel_rfl) h
 · cases h

noncomputable def o11_4000_in {R : Type} (K : Ex → St → Option R) (vs : List AV) (hh : H) : Option R := match vs, hh with
 | [Ap 0 0], [HA [Ai v0, Fu v1]] => haystackref02_Check_j4 v0 v1 (fun v2 => K (Ex.ret) (St.mk (spread 40 0 [2] [Ab v2]) []))
 | _, _ => none

noncomputable def o11 : Nat → Option PSpec := lkN [(4000, fun st _ K => pickM 40 [1] st (o11_4000_in K))]
noncomputable def q11 : CallF := evFun (V 11) S40 T28 10

noncomputable def c11_4000 : Code := subC [1, 1] (bodyOf Tryd.f11)

theorem p11_4000 : PieceOk (V 11) q11 o11 11 0 (3998, 0, c11_4000) := .s (size := 40) (ss := [1]) (F := @o11_4000_in) (by kernel_rfl) fun R r K vs hh h => by
  unfold o11_4000_in at h; split at h
  · rw [haystackref02_Check_j4_unf] at h; exact Eq.trans (by kernel_rfl) h
  · cases h

theorem pc11 : ∀ x ∈ [(3998, 0, c11_4000)], PieceOk (V 11) q11 o11 11 0 x := List.forall_mem_cons.2 ⟨p11_4000, fun _ h => nomatch h⟩

noncomputable def sp11 : Ev.Spec := fun args _ K => match args with
 | ([AV.agg (Blk.any [Ai v0, Fu v1])]) => haystackref02_Check v0 v1 (fun v2 => K (Ab v2))
 | _ => none
noncomputable def S11 := addS 11 sp11 S40
theorem D51 : Dom B0 V S11 T28 51 := Dom.s (m := 50) (n := 0) D50 D50 (O := o11) (OrcOk.fn (fn0 := Tryd.f11) (by kernel_rfl) (by kernel_rfl) pc11) fun args R K r h => by
 unfold sp11 at h; split at h
 · rw [haystackref02_Check_unf] at h; exact Eq.trans (by kernel_rfl) h
 · cases h

noncomputable def o3_4000_in {R : Type} (K : Ex → St → Option R) (vs : List AV) (hh : H) : Option R := match vs, hh with
 | [Ai v0, Ap 0 0], [HA [Ai v1, Fu v2]] => haystacklaw09_FanoCounts_j4 v0 v1 v2 (fun v3 => K (Ex.ret) (St.mk (spread 114 0 [4] [Ab v3]) []))
 | _, _ => none

noncomputable def o3 : Nat → Option PSpec := lkN [(4000, fun st _ K => pickM 114 [1, 2] st (o3_4000_in K))]
noncomputable def q3 : CallF := evFun (V 3) S11 T28 10

noncomputable def c3_4000 : Code := subC [1, 1] (bodyOf Tryd.f3)

theorem haystacklaw09_FanoCounts_j4_eq {R : Type} (K : Ex → St → Option R) (v0 v1 : Int) (v2 : List Int) : evCode (V 3) q3 o3 3 0 3998 c3_4000 (St.mk (spread 114 0 [1, 2] [Ai v0, Ap 0 0]) [HA [Ai v1, Fu v2]]) (kOut (V 3) 3 0 (Ev.keyOf c3_4000 * 1000 + 1) K) = haystacklaw09_FanoCounts_j4_B v0 v1 v2 (fun v3 => K (Ex.ret) (St.mk (spread 114 0 [4] [Ab v3]) [])) := by kernel_rfl

theorem p3_4000 : PieceOk (V 3) q3 o3 3 0 (3998, 0, c3_4000) := .s (size := 114) (ss := [1, 2]) (F := @o3_4000_in) (by kernel_rfl) fun R r K vs hh h => by
  unfold o3_4000_in at h; split at h
  · rw [haystacklaw09_FanoCounts_j4_unf] at h; exact (haystacklaw09_FanoCounts_j4_eq K _ _ _).trans h
  · cases h

theorem pc3 : ∀ x ∈ [(3998, 0, c3_4000)], PieceOk (V 3) q3 o3 3 0 x := List.forall_mem_cons.2 ⟨p3_4000, fun _ h => nomatch h⟩

noncomputable def sp3 : Ev.Spec := fun args _ K => match args with
 | ([AV.agg (Blk.any [Ai v0, Fu v1]), Ai v2]) => haystacklaw09_FanoCounts v0 v1 v2 (fun v3 => K (Ab v3))
 | _ => none
noncomputable def S3 := addS 3 sp3 S11
theorem D52 : Dom B0 V S3 T28 52 := Dom.s (m := 51) (n := 0) D51 D51 (O := o3) (OrcOk.fn (fn0 := Tryd.f3) (by kernel_rfl) (by kernel_rfl) pc3) fun args R K r h => by
 unfold sp3 at h; split at h
 · rw [haystacklaw09_FanoCounts_unf] at h; exact Eq.trans (by kernel_rfl) h
 · cases h

noncomputable def sp50 : Ev.Spec := fun args _ K => match args with
 | ([AV.agg (Blk.any [Ai v0, Fu v1]), Ai v2]) => haystackref02_At v0 v1 v2 (fun v3 => K (Ab v3))
 | _ => none
noncomputable def S50 := addS 50 sp50 S3
theorem D53 : Dom B0 V S50 T28 53 := Dom.s (m := 52) (n := 0) D52 D52 (O := (fun _ => none)) (fun _ _ _ _ => OrcOk.none _ _) fun args R K r h => by
 unfold sp50 at h; split at h
 · rw [haystackref02_At_unf] at h; exact Eq.trans (by kernel_rfl) h
 · cases h

noncomputable def o16_4400_in {R : Type} (K : Ex → St → Option R) (vs : List AV) (hh : H) : Option R := match vs, hh with
 | [Ai v0, Ap 0 0, Ai v1, Ai v2], [HA [Ai v3, Fu v4]] => haystackref02_Ones_l4 v0 v1 v2 v3 v4 (fun v5 => K (Ex.exit 0) (St.mk (spread 28 0 [5] [Ai v5]) []))
 | _, _ => none

noncomputable def o16_6000_in {R : Type} (K : Ex → St → Option R) (vs : List AV) (hh : H) : Option R := match vs, hh with
 | [Ai v0, Ap 0 0, Ai v1, Ai v2], [HA [Ai v3, Fu v4]] => haystackref02_Ones_j6 v0 v1 v2 v3 v4 (fun v5 v6 v7 v8 v9 => K (Ex.normal) (St.mk (spread 28 0 [1, 2, 5, 6] [Ai v5, Ap 0 0, Ai v6, Ai v7]) [HA [Ai v8, Fu v9]]))
 | _, _ => none

noncomputable def o16 : Nat → Option PSpec := lkN [(4400, fun st _ K => pickM 28 [1, 2, 5, 6] st (o16_4400_in K)), (6000, fun st _ K => pickM 28 [1, 2, 5, 6] st (o16_6000_in K))]
noncomputable def q16 : CallF := evFun (V 16) S50 T28 10

noncomputable def c16_4400 : Code := subC [1, 1, 0, 1, 0, 0] (bodyOf Tryd.f16)

noncomputable def lp16_4400 {R : Type} (N : Nat) (st : St) (K : Ex → St → Option R) : Option R := evLoop (norm ((V 16).keep 16 (Ev.keyOf c16_4400 * 1000 + 400)) 0) (evCode (V 16) q16 o16 16 0 3994 c16_4400) N st (kOut (V 16) 16 0 (Ev.keyOf c16_4400 * 1000 + 401) K)

noncomputable def c16_6000 : Code := subC [1, 1, 0, 1, 0, 0, 1] (bodyOf Tryd.f16)

theorem haystackref02_Ones_l4_L_eq {R : Type} (K : Ex → St → Option R) : ∀ N : Nat, (fun (v0 v1 v2 v3 : Int) (v4 : List Int) => lp16_4400 N (St.mk (spread 28 0 [1, 2, 5, 6] [Ai v0, Ap 0 0, Ai v1, Ai v2]) [HA [Ai v3, Fu v4]]) K) = haystackref02_Ones_l4_L (fun v5 => K (Ex.exit 0) (St.mk (spread 28 0 [5] [Ai v5]) [])) N
  | 0 => by funext v0 v1 v2 v3 v4; rfl
  | N + 1 => by
    funext v0 v1 v2 v3 v4
    simp only [haystackref02_Ones_l4_L]
    rw [← haystackref02_Ones_l4_L_eq K N]
    kernel_rfl

theorem p16_4400 : PieceOk (V 16) q16 o16 16 0 (3994, 1, c16_4400) := .l (size := 28) (ss := [1, 2, 5, 6]) (F := @o16_4400_in) (by kernel_rfl) (by kernel_rfl) fun R r K vs hh h => by
  unfold o16_4400_in at h; split at h
  · rw [haystackref02_Ones_l4_unf] at h; unfold haystackref02_Ones_l4_B at h; rw [← haystackref02_Ones_l4_L_eq K NR] at h; exact h
  · cases h

theorem p16_6000 : PieceOk (V 16) q16 o16 16 0 (3993, 0, c16_6000) := .s (size := 28) (ss := [1, 2, 5, 6]) (F := @o16_6000_in) (by kernel_rfl) fun R r K vs hh h => by
  unfold o16_6000_in at h; split at h
  · rw [haystackref02_Ones_j6_unf] at h; exact Eq.trans (by kernel_rfl) h
  · cases h

theorem pc16 : ∀ x ∈ [(3994, 1, c16_4400), (3993, 0, c16_6000)], PieceOk (V 16) q16 o16 16 0 x := List.forall_mem_cons.2 ⟨p16_4400, List.forall_mem_cons.2 ⟨p16_6000, fun _ h => nomatch h⟩⟩

noncomputable def sp16 : Ev.Spec := fun args _ K => match args with
 | ([AV.agg (Blk.any [Ai v0, Fu v1]), Ai v2]) => haystackref02_Ones v0 v1 v2 (fun v3 => K (Ai v3))
 | _ => none
noncomputable def S16 := addS 16 sp16 S50
theorem D54 : Dom B0 V S16 T28 54 := Dom.s (m := 53) (n := 0) D53 D53 (O := o16) (OrcOk.fn (fn0 := Tryd.f16) (by kernel_rfl) (by kernel_rfl) pc16) fun args R K r h => by
 unfold sp16 at h; split at h
 · rw [haystackref02_Ones_unf] at h; exact Eq.trans (by kernel_rfl) h
 · cases h

noncomputable def o4_4000_in {R : Type} (K : Ex → St → Option R) (vs : List AV) (hh : H) : Option R := match vs, hh with
 | [Ap 0 0], [HA [Ai v0, Fu v1]] => haystacklaw09_FanoSizes_j4 v0 v1 (fun v2 => K (Ex.ret) (St.mk (spread 64 0 [2] [Ab v2]) []))
 | _, _ => none

noncomputable def o4 : Nat → Option PSpec := lkN [(4000, fun st _ K => pickM 64 [1] st (o4_4000_in K))]
noncomputable def q4 : CallF := evFun (V 4) S16 T28 10

noncomputable def c4_4000 : Code := subC [1, 1] (bodyOf Tryd.f4)

theorem p4_4000 : PieceOk (V 4) q4 o4 4 0 (3998, 0, c4_4000) := .s (size := 64) (ss := [1]) (F := @o4_4000_in) (by kernel_rfl) fun R r K vs hh h => by
  unfold o4_4000_in at h; split at h
  · rw [haystacklaw09_FanoSizes_j4_unf] at h; exact Eq.trans (by kernel_rfl) h
  · cases h

theorem pc4 : ∀ x ∈ [(3998, 0, c4_4000)], PieceOk (V 4) q4 o4 4 0 x := List.forall_mem_cons.2 ⟨p4_4000, fun _ h => nomatch h⟩

noncomputable def sp4 : Ev.Spec := fun args _ K => match args with
 | ([AV.agg (Blk.any [Ai v0, Fu v1])]) => haystacklaw09_FanoSizes v0 v1 (fun v2 => K (Ab v2))
 | _ => none
noncomputable def S4 := addS 4 sp4 S16
theorem D55 : Dom B0 V S4 T28 55 := Dom.s (m := 54) (n := 0) D54 D54 (O := o4) (OrcOk.fn (fn0 := Tryd.f4) (by kernel_rfl) (by kernel_rfl) pc4) fun args R K r h => by
 unfold sp4 at h; split at h
 · rw [haystacklaw09_FanoSizes_unf] at h; exact Eq.trans (by kernel_rfl) h
 · cases h

noncomputable def o28_4000_in {R : Type} (K : Ex → St → Option R) (vs : List AV) (hh : H) : Option R := match vs, hh with
 | [Ap 0 0, Ap 1 0], [HA [Ai v0, Fu v1], HA [Ai v2, Fu v3]] => haystackref02_Same_j4_1 v0 v1 v2 v3 (fun v4 => K (Ex.ret) (St.mk (spread 38 0 [4] [Ab v4]) []))
 | _, _ => none

noncomputable def o28_5400_in {R : Type} (K : Ex → St → Option R) (vs : List AV) (hh : H) : Option R := match vs, hh with
 | [Ap 0 0, Ap 1 0, Ai v0], [HA [Ai v1, Fu v2], HA [Ai v3, Fu v4]] => haystackref02_Same_l5_1 v0 v1 v2 v3 v4 (fun v5 => K (Ex.ret) (St.mk (spread 38 0 [4] [Ab v5]) [])) (fun _ => K (Ex.exit 0) (St.mk (spread 38 0 [] []) []))
 | _, _ => none

noncomputable def o28 : Nat → Option PSpec := lkN [(4000, fun st _ K => pickM 38 [2, 3] st (o28_4000_in K)), (5400, fun st _ K => pickM 38 [2, 3, 5] st (o28_5400_in K))]
noncomputable def q28 : CallF := evFun (V 28) S4 T28 10

noncomputable def c28_4000 : Code := subC [1, 1] (bodyOf Tryd.f28)

noncomputable def c28_5400 : Code := subC [1, 1, 0, 1, 0, 0] (bodyOf Tryd.f28)

noncomputable def lp28_5400 {R : Type} (N : Nat) (st : St) (K : Ex → St → Option R) : Option R := evLoop (norm ((V 28).keep 28 (Ev.keyOf c28_5400 * 1000 + 400)) 0) (evCode (V 28) q28 o28 28 0 3994 c28_5400) N st (kOut (V 28) 28 0 (Ev.keyOf c28_5400 * 1000 + 401) K)

theorem haystackref02_Same_l5_1_L_eq {R : Type} (K : Ex → St → Option R) : ∀ N : Nat, (fun (v0 v1 : Int) (v2 : List Int) (v3 : Int) (v4 : List Int) => lp28_5400 N (St.mk (spread 38 0 [2, 3, 5] [Ap 0 0, Ap 1 0, Ai v0]) [HA [Ai v1, Fu v2], HA [Ai v3, Fu v4]]) K) = haystackref02_Same_l5_1_L (fun v5 => K (Ex.ret) (St.mk (spread 38 0 [4] [Ab v5]) [])) (fun _ => K (Ex.exit 0) (St.mk (spread 38 0 [] []) [])) N
  | 0 => by funext v0 v1 v2 v3 v4; rfl
  | N + 1 => by
    funext v0 v1 v2 v3 v4
    simp only [haystackref02_Same_l5_1_L]
    rw [← haystackref02_Same_l5_1_L_eq K N]
    kernel_rfl

theorem p28_4000 : PieceOk (V 28) q28 o28 28 0 (3998, 0, c28_4000) := .s (size := 38) (ss := [2, 3]) (F := @o28_4000_in) (by kernel_rfl) fun R r K vs hh h => by
  unfold o28_4000_in at h; split at h
  · rw [haystackref02_Same_j4_1_unf] at h; exact Eq.trans (by kernel_rfl) h
  · cases h

theorem p28_5400 : PieceOk (V 28) q28 o28 28 0 (3994, 1, c28_5400) := .l (size := 38) (ss := [2, 3, 5]) (F := @o28_5400_in) (by kernel_rfl) (by kernel_rfl) fun R r K vs hh h => by
  unfold o28_5400_in at h; split at h
  · rw [haystackref02_Same_l5_1_unf] at h; unfold haystackref02_Same_l5_1_B at h; rw [← haystackref02_Same_l5_1_L_eq K NR] at h; exact h
  · cases h

theorem pc28 : ∀ x ∈ [(3998, 0, c28_4000), (3994, 1, c28_5400)], PieceOk (V 28) q28 o28 28 0 x := List.forall_mem_cons.2 ⟨p28_4000, List.forall_mem_cons.2 ⟨p28_5400, fun _ h => nomatch h⟩⟩

noncomputable def sp28 : Ev.Spec := fun args _ K => match args with
 | ([AV.agg (Blk.any [Ai v0, Fu v1]), AV.agg (Blk.any [Ai v2, Fu v3])]) => haystackref02_Same v0 v1 v2 v3 (fun v4 => K (Ab v4))
 | _ => none
noncomputable def S28 := addS 28 sp28 S4
theorem D56 : Dom B0 V S28 T28 56 := Dom.s (m := 55) (n := 0) D55 D55 (O := o28) (OrcOk.fn (fn0 := Tryd.f28) (by kernel_rfl) (by kernel_rfl) pc28) fun args R K r h => by
 unfold sp28 at h; split at h
 · rw [haystackref02_Same_unf] at h; exact Eq.trans (by kernel_rfl) h
 · cases h

noncomputable def o7_4000_in {R : Type} (K : Ex → St → Option R) (vs : List AV) (hh : H) : Option R := match vs, hh with
 | [Ab v0, Ai v1, Ap 0 0], [HA [Ai v2, Fu v3]] => haystacklaw09_FanoBack_j4 v0 v1 v2 v3 (fun v4 => K (Ex.ret) (St.mk (spread 119 0 [6] [Ab v4]) []))
 | _, _ => none

noncomputable def o7_5000_in {R : Type} (K : Ex → St → Option R) (vs : List AV) (hh : H) : Option R := match vs, hh with
 | [Ab v0, Ai v1, Ap 0 0, Ap 1 0, Ai v2], [HA [Ai v3, Fu v4], HA [Ai v5, Ai v6, Ai v7, Ai v8, Ai v9, Fu va, Ai vb, Fu vc]] => haystacklaw09_FanoBack_j5 v0 v1 v2 v3 v4 v5 v6 v7 v8 v9 va vb vc (fun vd => K (Ex.ret) (St.mk (spread 119 0 [6] [Ab vd]) []))
 | _, _ => none

noncomputable def o7_7000_in {R : Type} (K : Ex → St → Option R) (vs : List AV) (hh : H) : Option R := match vs, hh with
 | [Ab v0, Ai v1, Ap 0 0, Ap 1 0], [HA [Ai v2, Fu v3], HA [Ai v4, Ai v5, Ai v6, Ai v7, Ai v8, Fu v9, Ai va, Fu vb]] => haystacklaw09_FanoBack_j7 v0 v1 v2 v3 v4 v5 v6 v7 v8 v9 va vb (fun vc => K (Ex.ret) (St.mk (spread 119 0 [6] [Ab vc]) []))
 | _, _ => none

noncomputable def o7_11000_in {R : Type} (K : Ex → St → Option R) (vs : List AV) (hh : H) : Option R := match vs, hh with
 | [Ab v0, Ai v1, Ap 0 0, Ai v2, Ai v3], [HA [Ai v4, Ai v5, Ai v6, Ai v7, Ai v8, Fu v9, Ai va, Fu vb]] => haystacklaw09_FanoBack_j11 v0 v1 v2 v3 v4 v5 v6 v7 v8 v9 va vb (fun vc => K (Ex.ret) (St.mk (spread 119 0 [6] [Ab vc]) []))
 | _, _ => none

noncomputable def o7 : Nat → Option PSpec := lkN [(4000, fun st _ K => pickM 119 [1, 2, 3] st (o7_4000_in K)), (5000, fun st _ K => pickM 119 [1, 2, 3, 7, 8] st (o7_5000_in K)), (7000, fun st _ K => pickM 119 [1, 2, 3, 7] st (o7_7000_in K)), (11000, fun st _ K => pickM 119 [1, 2, 7, 11, 12] st (o7_11000_in K))]
noncomputable def q7 : CallF := evFun (V 7) S28 T28 10

noncomputable def c7_4000 : Code := subC [1, 1] (bodyOf Tryd.f7)

noncomputable def c7_5000 : Code := subC [1, 1, 1] (bodyOf Tryd.f7)

noncomputable def c7_7000 : Code := subC [1, 1, 1, 1] (bodyOf Tryd.f7)

noncomputable def c7_11000 : Code := subC [1, 1, 1, 1, 1, 1, 1] (bodyOf Tryd.f7)

theorem p7_4000 : PieceOk (V 7) q7 o7 7 0 (3998, 0, c7_4000) := .s (size := 119) (ss := [1, 2, 3]) (F := @o7_4000_in) (by kernel_rfl) fun R r K vs hh h => by
  unfold o7_4000_in at h; split at h
  · rw [haystacklaw09_FanoBack_j4_unf] at h; exact Eq.trans (by kernel_rfl) h
  · cases h

theorem p7_5000 : PieceOk (V 7) q7 o7 7 0 (3997, 0, c7_5000) := .s (size := 119) (ss := [1, 2, 3, 7, 8]) (F := @o7_5000_in) (by kernel_rfl) fun R r K vs hh h => by
  unfold o7_5000_in at h; split at h
  · rw [haystacklaw09_FanoBack_j5_unf] at h; exact Eq.trans (by kernel_rfl) h
  · cases h

theorem p7_7000 : PieceOk (V 7) q7 o7 7 0 (3996, 0, c7_7000) := .s (size := 119) (ss := [1, 2, 3, 7]) (F := @o7_7000_in) (by kernel_rfl) fun R r K vs hh h => by
  unfold o7_7000_in at h; split at h
  · rw [haystacklaw09_FanoBack_j7_unf] at h; exact Eq.trans (by kernel_rfl) h
  · cases h

theorem p7_11000 : PieceOk (V 7) q7 o7 7 0 (3993, 0, c7_11000) := .s (size := 119) (ss := [1, 2, 7, 11, 12]) (F := @o7_11000_in) (by kernel_rfl) fun R r K vs hh h => by
  unfold o7_11000_in at h; split at h
  · rw [haystacklaw09_FanoBack_j11_unf] at h; exact Eq.trans (by kernel_rfl) h
  · cases h

theorem pc7 : ∀ x ∈ [(3998, 0, c7_4000), (3997, 0, c7_5000), (3996, 0, c7_7000), (3993, 0, c7_11000)], PieceOk (V 7) q7 o7 7 0 x := List.forall_mem_cons.2 ⟨p7_4000, List.forall_mem_cons.2 ⟨p7_5000, List.forall_mem_cons.2 ⟨p7_7000, List.forall_mem_cons.2 ⟨p7_11000, fun _ h => nomatch h⟩⟩⟩⟩

noncomputable def sp7 : Ev.Spec := fun args _ K => match args with
 | ([AV.agg (Blk.any [Ai v0, Fu v1]), Ab v2, Ai v3]) => haystacklaw09_FanoBack v0 v1 v2 v3 (fun v4 => K (Ab v4))
 | _ => none
noncomputable def S7 := addS 7 sp7 S28
theorem D57 : Dom B0 V S7 T28 57 := Dom.s (m := 56) (n := 0) D56 D56 (O := o7) (OrcOk.fn (fn0 := Tryd.f7) (by kernel_rfl) (by kernel_rfl) pc7) fun args R K r h => by
 unfold sp7 at h; split at h
 · rw [haystacklaw09_FanoBack_unf] at h; exact Eq.trans (by kernel_rfl) h
 · cases h

theorem ok3 : ∃ sp, SpecOk Tryd.prog (V 3) 3 sp ∧ ∀ args z, sp3 args AV some = some z → sp args AV some = some z := by
  obtain ⟨sp, h1, h2⟩ := Dom.law (P := Tryd.prog) (V := V) (fun f sp h _ => base_ok _ _ f sp h) (fun _ => env_types _ _) (fun _ => env_funs _ _) (fun _ _ => rfl) D57 (f := 3) (sp := sp3) (by kernel_rfl)
  exact ⟨sp, h1, fun args z => h2 args AV some z⟩

theorem ok4 : ∃ sp, SpecOk Tryd.prog (V 4) 4 sp ∧ ∀ args z, sp4 args AV some = some z → sp args AV some = some z := by
  obtain ⟨sp, h1, h2⟩ := Dom.law (P := Tryd.prog) (V := V) (fun f sp h _ => base_ok _ _ f sp h) (fun _ => env_types _ _) (fun _ => env_funs _ _) (fun _ _ => rfl) D57 (f := 4) (sp := sp4) (by kernel_rfl)
  exact ⟨sp, h1, fun args z => h2 args AV some z⟩

theorem ok7 : ∃ sp, SpecOk Tryd.prog (V 7) 7 sp ∧ ∀ args z, sp7 args AV some = some z → sp args AV some = some z := by
  obtain ⟨sp, h1, h2⟩ := Dom.law (P := Tryd.prog) (V := V) (fun f sp h _ => base_ok _ _ f sp h) (fun _ => env_types _ _) (fun _ => env_funs _ _) (fun _ _ => rfl) D57 (f := 7) (sp := sp7) (by kernel_rfl)
  exact ⟨sp, h1, fun args z => h2 args AV some z⟩

end Go.Proofs.YtdojekdcdoaccaaDoor
