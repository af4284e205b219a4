/- The functions that this seat's laws reach, as plain functions, and that they are what the program does. Printed by a program of this repo (wip/Prt). -/
import Derived.Test.YtofblchonjfdbaaGreatDoorBase
import Derived.Test.YtofblchonjfdbaaGreatDoorEnv
import Derived.Test.YtofblchonjfdbaaGreatDoorEvC
import Derived.KernelRfl
import Derived.Test.YtofblchonjfdbaaGreatDoorFn1
namespace Go.Proofs.YtofblchonjfdbaaGreatDoor
open Go Go.Ev
set_option maxRecDepth 100000
set_option maxHeartbeats 4000000

theorem pc116 : ∀ x ∈ [(3998, 0, c116_4000), (3994, 1, c116_5400)], PieceOk (V 116) q116 o116 116 0 x := List.forall_mem_cons.2 ⟨p116_4000, List.forall_mem_cons.2 ⟨p116_5400, fun _ h => nomatch h⟩⟩

noncomputable def sp116 : Ev.Spec := fun args _ K => match args with
 | ([Au v0, Ai v1]) => word_Select v0 v1 (fun v2 => K (Ai v2))
 | _ => none
noncomputable def S116 := addS 116 sp116 S157
theorem D30 : Dom B0 V S116 T108 30 := Dom.s (m := 29) (n := 0) D29 D29 (O := o116) (OrcOk.fn (fn0 := Tryz.f116) (by kernel_rfl) (by kernel_rfl) pc116) fun args R K r h => by
 unfold sp116 at h; split at h
 · rw [word_Select_unf] at h; exact Eq.trans (by kernel_rfl) h
 · cases h

noncomputable def o109r5_5000_in {R : Type} (K : Ex → St → Option R) (vs : List AV) (hh : H) : Option R := match vs, hh with
 | [Ap 3 0], [HA [AV.sl 1 0 v0 1], HO v1, HA [Ai v2], HA [Ai v3], HA [AV.sl 5 0 v4 1], HU v5] => fano_Build_1_j5 v0 v1 v2 v3 v4 v5 (fun v6 v7 v8 v9 va vb vc => K (Ex.ret) (St.mk (spread 26 0 [6] [Ab v6]) [HA [AV.sl 1 0 v7 1], HO v8, HA [Ai v9], HA [Ai va], HA [AV.sl 5 0 vb 1], HU vc]))
 | [Ap 3 0], [HA [AV.sl 1 0 vd 1], HO ve, HA [Ai vf], HA [Ai vg], HA [AV.esl]] => fano_Build_1_j5_1 vd ve vf vg (fun v6 v7 v8 v9 va => K (Ex.ret) (St.mk (spread 26 0 [6] [Ab v6]) [HA [AV.sl 1 0 v7 1], HO v8, HA [Ai v9], HA [Ai va], HA [AV.esl]]))
 | _, _ => none

noncomputable def o109r5 : Nat → Option PSpec := lkN [(5000, fun st _ K => pickM 26 [3] st (o109r5_5000_in K))]
noncomputable def q109r5 : CallF := evFun (V 109) S116 T108 10

noncomputable def c109r5_5000 : Code := subC [1, 1, 1] (bodyOf Tryz.f109)

theorem p109r5_5000 : PieceOk (V 109) q109r5 o109r5 109 5 (3997, 0, c109r5_5000) := .s (size := 26) (ss := [3]) (F := @o109r5_5000_in) (by kernel_rfl) fun R r K vs hh h => by
  unfold o109r5_5000_in at h; split at h
  · rw [fano_Build_1_j5_unf] at h; exact Eq.trans (by kernel_rfl) h
  · rw [fano_Build_1_j5_1_unf] at h; exact Eq.trans (by kernel_rfl) h
  · cases h

theorem pc109r5 : ∀ x ∈ [(3997, 0, c109r5_5000)], PieceOk (V 109) q109r5 o109r5 109 5 x := List.forall_mem_cons.2 ⟨p109r5_5000, fun _ h => nomatch h⟩

noncomputable def o109r6_5000_in {R : Type} (K : Ex → St → Option R) (vs : List AV) (hh : H) : Option R := match vs, hh with
 | [Ap 3 0], [HA [AV.sl 1 0 v0 1], HO v1, HA [Ai v2], HA [Ai v3], HA [AV.sl 6 0 v4 1], HB.dead, HU v5] => fano_Build_1_j5_2 v0 v1 v2 v3 v4 v5 (fun v6 v7 v8 v9 va vb vc => K (Ex.ret) (St.mk (spread 26 0 [6] [Ab v6]) [HA [AV.sl 1 0 v7 1], HO v8, HA [Ai v9], HA [Ai va], HA [AV.sl 6 0 vb 1], HB.dead, HU vc]))
 | [Ap 3 0], [HA [AV.sl 1 0 vd 1], HO ve, HA [Ai vf], HA [Ai vg], HA [AV.sl 5 0 vh 1], HU vi] => fano_Build_1_j5_3 vd ve vf vg vh vi (fun v6 v7 v8 v9 va vb vc => K (Ex.ret) (St.mk (spread 26 0 [6] [Ab v6]) [HA [AV.sl 1 0 v7 1], HO v8, HA [Ai v9], HA [Ai va], HA [AV.sl 5 0 vb 1], HU vc]))
 | _, _ => none

noncomputable def o109r6 : Nat → Option PSpec := lkN [(5000, fun st _ K => pickM 26 [3] st (o109r6_5000_in K))]
noncomputable def q109r6 : CallF := evFun (V 109) S116 T108 10

noncomputable def c109r6_5000 : Code := subC [1, 1, 1] (bodyOf Tryz.f109)

theorem p109r6_5000 : PieceOk (V 109) q109r6 o109r6 109 6 (3997, 0, c109r6_5000) := .s (size := 26) (ss := [3]) (F := @o109r6_5000_in) (by kernel_rfl) fun R r K vs hh h => by
  unfold o109r6_5000_in at h; split at h
  · rw [fano_Build_1_j5_2_unf] at h; exact Eq.trans (by kernel_rfl) h
  · rw [fano_Build_1_j5_3_unf] at h; exact Eq.trans (by kernel_rfl) h
  · cases h

theorem pc109r6 : ∀ x ∈ [(3997, 0, c109r6_5000)], PieceOk (V 109) q109r6 o109r6 109 6 x := List.forall_mem_cons.2 ⟨p109r6_5000, fun _ h => nomatch h⟩

theorem fano_Build_1_r_1_eq {R : Type} (K : AV → H → Option R) (v0 : Int) (v1 : Nat) (v2 : List Bool) (v3 v4 : Int) (v5 : Nat) (v6 : List Int) : evH (V 109) S116 T108 o109r6 10 109 [Ai v0, Ap 0 0, Ap 2 0, Ap 3 0, Ap 4 0] [HA [AV.sl 1 0 v1 1], HO v2, HA [Ai v3], HA [Ai v4], HA [AV.sl 5 0 v5 1], HU v6] R K = fano_Build_1_r_1_B v0 v1 v2 v3 v4 v5 v6 (fun v7 v8 v9 va vb vc vd => K (Ab v7) ([HA [AV.sl 1 0 v8 1], HO v9, HA [Ai va], HA [Ai vb], HA [AV.sl 6 0 vc 1], HB.dead, HU vd])) (fun v7 v8 v9 va vb vc vd => K (Ab v7) ([HA [AV.sl 1 0 v8 1], HO v9, HA [Ai va], HA [Ai vb], HA [AV.sl 5 0 vc 1], HU vd])) := by kernel_rfl

noncomputable def hs109 : HSpec := fun args h _ K => match args, h with
 | [Ai v0, Ap 0 0, Ap 2 0, Ap 3 0, Ap 4 0], [HA [AV.sl 1 0 v1 1], HO v2, HA [Ai v3], HA [Ai v4], HA [AV.esl]] => fano_Build_1_r v0 v1 v2 v3 v4 (fun v5 v6 v7 v8 v9 va vb => K (Ab v5) ([HA [AV.sl 1 0 v6 1], HO v7, HA [Ai v8], HA [Ai v9], HA [AV.sl 5 0 va 1], HU vb])) (fun v5 v6 v7 v8 v9 => K (Ab v5) ([HA [AV.sl 1 0 v6 1], HO v7, HA [Ai v8], HA [Ai v9], HA [AV.esl]]))
 | [Ai vc, Ap 0 0, Ap 2 0, Ap 3 0, Ap 4 0], [HA [AV.sl 1 0 vd 1], HO ve, HA [Ai vf], HA [Ai vg], HA [AV.sl 5 0 vh 1], HU vi] => fano_Build_1_r_1 vc vd ve vf vg vh vi (fun v5 v6 v7 v8 v9 va vb => K (Ab v5) ([HA [AV.sl 1 0 v6 1], HO v7, HA [Ai v8], HA [Ai v9], HA [AV.sl 6 0 va 1], HB.dead, HU vb])) (fun v5 v6 v7 v8 v9 va vb => K (Ab v5) ([HA [AV.sl 1 0 v6 1], HO v7, HA [Ai v8], HA [Ai v9], HA [AV.sl 5 0 va 1], HU vb]))
 | _, _ => none
noncomputable def T109 := addT 109 hs109 T108
theorem D31 : Dom B0 V S116 T109 31 := Dom.t D30 fun args hh R K r h => by
 unfold hs109 at h; split at h
 · rw [fano_Build_1_r_unf] at h; exact ⟨o109r5, (OrcOk.fn (fn0 := Tryz.f109) (by kernel_rfl) (by kernel_rfl) pc109r5), Eq.trans (by kernel_rfl) h⟩
 · rw [fano_Build_1_r_1_unf] at h; exact ⟨o109r6, (OrcOk.fn (fn0 := Tryz.f109) (by kernel_rfl) (by kernel_rfl) pc109r6), (fano_Build_1_r_1_eq K _ _ _ _ _ _ _).trans h⟩
 · cases h

noncomputable def o174r7_4000_in {R : Type} (K : Ex → St → Option R) (vs : List AV) (hh : H) : Option R := match vs, hh with
 | [Ap 0 0, Ap 1 0, Ap 2 0, Ap 3 0, Ap 4 0, Ap 5 0, Ai v0, Ab v1], [HA [Ai v2], HA [Ai v3], HA [Fu v4], HA [Ai v5, Ai v6, Ai v7, Ai v8, Ai v9, Fu va, Ai vb, Fu vc], HA [Ab vd], HA [AV.sl 6 0 ve 1], HO vf] => fano_row_1_j4 v0 v1 v2 v3 v4 v5 v6 v7 v8 v9 va vb vc vd ve vf (fun vg vh vi vj vk vl vm vn vo vp vq vr vs vt vu => K (Ex.normal) (St.mk (spread 50 0 [1, 4, 5, 6, 9] [Ap 0 0, Ap 3 0, Ap 4 0, Ap 5 0, Ai vg]) [HA [Ai vh], HA [Ai vi], HA [Fu vj], HA [Ai vk, Ai vl, Ai vm, Ai vn, Ai vo, Fu vp, Ai vq, Fu vr], HA [Ab vs], HA [AV.sl 6 0 vt 1], HO vu]))
 | _, _ => none

noncomputable def o174r7_5000_in {R : Type} (K : Ex → St → Option R) (vs : List AV) (hh : H) : Option R := match vs, hh with
 | [Ap 0 0, Ap 3 0, Ap 4 0, Ap 5 0, Ai v0], [HA [Ai v1], HA [Ai v2], HA [Fu v3], HA [Ai v4, Ai v5, Ai v6, Ai v7, Ai v8, Fu v9, Ai va, Fu vb], HA [Ab vc], HA [AV.sl 6 0 vd 1], HO ve] => fano_row_1_j5 v0 v1 v2 v3 v4 v5 v6 v7 v8 v9 va vb vc vd ve (fun vf vg vh vi vj vk vl vm vn vo vp vq vr vs vt => K (Ex.ret) (St.mk (spread 50 0 [8] [Ab vf]) [HA [Ai vg], HA [Ai vh], HA [Fu vi], HA [Ai vj, Ai vk, Ai vl, Ai vm, Ai vn, Fu vo, Ai vp, Fu vq], HA [Ab vr], HA [AV.sl 6 0 vs 1], HO vt]))
 | _, _ => none

noncomputable def o174r7_6000_in {R : Type} (K : Ex → St → Option R) (vs : List AV) (hh : H) : Option R := match vs, hh with
 | [Ap 0 0, Ap 4 0, Ap 5 0, Ai v0], [HA [Ai v1], HA [Ai v2], HA [Fu v3], HA [Ai v4, Ai v5, Ai v6, Ai v7, Ai v8, Fu v9, Ai va, Fu vb], HA [Ab vc], HA [AV.sl 6 0 vd 1], HO ve] => fano_row_1_j6 v0 v1 v2 v3 v4 v5 v6 v7 v8 v9 va vb vc vd ve (fun vf vg vh vi vj vk vl vm vn vo vp vq vr vs vt => K (Ex.ret) (St.mk (spread 50 0 [8] [Ab vf]) [HA [Ai vg], HA [Ai vh], HA [Fu vi], HA [Ai vj, Ai vk, Ai vl, Ai vm, Ai vn, Fu vo, Ai vp, Fu vq], HA [Ab vr], HA [AV.sl 6 0 vs 1], HO vt]))
 | _, _ => none

noncomputable def o174r7_8000_in {R : Type} (K : Ex → St → Option R) (vs : List AV) (hh : H) : Option R := match vs, hh with
 | [Ap 0 0, Ap 4 0], [HA [Ai v0], HA [Ai v1], HA [Fu v2], HA [Ai v3, Ai v4, Ai v5, Ai v6, Ai v7, Fu v8, Ai v9, Fu va], HA [Ab vb], HA [AV.sl 6 0 vc 1], HO vd] => fano_row_1_j8 v0 v1 v2 v3 v4 v5 v6 v7 v8 v9 va vb vc vd (fun ve vf vg vh vi vj vk vl vm vn vo vp vq vr vs => K (Ex.ret) (St.mk (spread 50 0 [8] [Ab ve]) [HA [Ai vf], HA [Ai vg], HA [Fu vh], HA [Ai vi, Ai vj, Ai vk, Ai vl, Ai vm, Fu vn, Ai vo, Fu vp], HA [Ab vq], HA [AV.sl 6 0 vr 1], HO vs]))
 | _, _ => none

noncomputable def o174r7 : Nat → Option PSpec := lkN [(4000, fun st _ K => pickM 50 [1, 2, 3, 4, 5, 6, 9, 22] st (o174r7_4000_in K)), (5000, fun st _ K => pickM 50 [1, 4, 5, 6, 9] st (o174r7_5000_in K)), (6000, fun st _ K => pickM 50 [1, 5, 6, 9] st (o174r7_6000_in K)), (8000, fun st _ K => pickM 50 [1, 5] st (o174r7_8000_in K))]
noncomputable def q174r7 : CallF := evFun (V 174) S116 T109 10

noncomputable def c174r7_5000 : Code := subC [1, 1, 1] (bodyOf Tryz.f174)

noncomputable def c174r7_4000 : Code := subC [1, 1, 0, 1] (bodyOf Tryz.f174)

noncomputable def c174r7_6000 : Code := subC [1, 1, 1, 1] (bodyOf Tryz.f174)

noncomputable def c174r7_8000 : Code := subC [1, 1, 1, 1, 1] (bodyOf Tryz.f174)

theorem p174r7_5000 : PieceOk (V 174) q174r7 o174r7 174 7 (3997, 0, c174r7_5000) := .s (size := 50) (ss := [1, 4, 5, 6, 9]) (F := @o174r7_5000_in) (by kernel_rfl) fun R r K vs hh h => by
  unfold o174r7_5000_in at h; split at h
  · rw [fano_row_1_j5_unf] at h; exact Eq.trans (by kernel_rfl) h
  · cases h

theorem p174r7_4000 : PieceOk (V 174) q174r7 o174r7 174 7 (3996, 0, c174r7_4000) := .s (size := 50) (ss := [1, 2, 3, 4, 5, 6, 9, 22]) (F := @o174r7_4000_in) (by kernel_rfl) fun R r K vs hh h => by
  unfold o174r7_4000_in at h; split at h
  · rw [fano_row_1_j4_unf] at h; exact Eq.trans (by kernel_rfl) h
  · cases h

theorem p174r7_6000 : PieceOk (V 174) q174r7 o174r7 174 7 (3996, 0, c174r7_6000) := .s (size := 50) (ss := [1, 5, 6, 9]) (F := @o174r7_6000_in) (by kernel_rfl) fun R r K vs hh h => by
  unfold o174r7_6000_in at h; split at h
  · rw [fano_row_1_j6_unf] at h; exact Eq.trans (by kernel_rfl) h
  · cases h

theorem p174r7_8000 : PieceOk (V 174) q174r7 o174r7 174 7 (3995, 0, c174r7_8000) := .s (size := 50) (ss := [1, 5]) (F := @o174r7_8000_in) (by kernel_rfl) fun R r K vs hh h => by
  unfold o174r7_8000_in at h; split at h
  · rw [fano_row_1_j8_unf] at h; exact Eq.trans (by kernel_rfl) h
  · cases h

theorem pc174r7 : ∀ x ∈ [(3997, 0, c174r7_5000), (3996, 0, c174r7_4000), (3996, 0, c174r7_6000), (3995, 0, c174r7_8000)], PieceOk (V 174) q174r7 o174r7 174 7 x := List.forall_mem_cons.2 ⟨p174r7_5000, List.forall_mem_cons.2 ⟨p174r7_4000, List.forall_mem_cons.2 ⟨p174r7_6000, List.forall_mem_cons.2 ⟨p174r7_8000, fun _ h => nomatch h⟩⟩⟩⟩

theorem fano_row_1_r_eq {R : Type} (K : AV → H → Option R) (v0 v1 v2 : Int) (v3 : List Int) (v4 v5 v6 v7 v8 : Int) (v9 : List Int) (va : Int) (vb : List Int) (vc : Bool) (vd : Nat) (ve : List Bool) : evH (V 174) S116 T109 o174r7 10 174 [Ai v0, Ap 0 0, Ap 1 0, Ap 2 0, Ap 3 0, Ap 4 0, Ap 5 0] [HA [Ai v1], HA [Ai v2], HA [Fu v3], HA [Ai v4, Ai v5, Ai v6, Ai v7, Ai v8, Fu v9, Ai va, Fu vb], HA [Ab vc], HA [AV.sl 6 0 vd 1], HO ve] R K = fano_row_1_r_B v0 v1 v2 v3 v4 v5 v6 v7 v8 v9 va vb vc vd ve (fun vf vg vh vi vj vk vl vm vn vo vp vq vr vs vt => K (Ab vf) ([HA [Ai vg], HA [Ai vh], HA [Fu vi], HA [Ai vj, Ai vk, Ai vl, Ai vm, Ai vn, Fu vo, Ai vp, Fu vq], HA [Ab vr], HA [AV.sl 6 0 vs 1], HO vt])) := by kernel_rfl

noncomputable def hs174 : HSpec := fun args h _ K => match args, h with
 | [Ai v0, Ap 0 0, Ap 1 0, Ap 2 0, Ap 3 0, Ap 4 0, Ap 5 0], [HA [Ai v1], HA [Ai v2], HA [Fu v3], HA [Ai v4, Ai v5, Ai v6, Ai v7, Ai v8, Fu v9, Ai va, Fu vb], HA [Ab vc], HA [AV.sl 6 0 vd 1], HO ve] => fano_row_1_r v0 v1 v2 v3 v4 v5 v6 v7 v8 v9 va vb vc vd ve (fun vf vg vh vi vj vk vl vm vn vo vp vq vr vs vt => K (Ab vf) ([HA [Ai vg], HA [Ai vh], HA [Fu vi], HA [Ai vj, Ai vk, Ai vl, Ai vm, Ai vn, Fu vo, Ai vp, Fu vq], HA [Ab vr], HA [AV.sl 6 0 vs 1], HO vt]))
 | _, _ => none
noncomputable def T174 := addT 174 hs174 T109
theorem D32 : Dom B0 V S116 T174 32 := Dom.t D31 fun args hh R K r h => by
 unfold hs174 at h; split at h
 · rw [fano_row_1_r_unf] at h; exact ⟨o174r7, (OrcOk.fn (fn0 := Tryz.f174) (by kernel_rfl) (by kernel_rfl) pc174r7), (fano_row_1_r_eq K _ _ _ _ _ _ _ _ _ _ _ _ _ _ _).trans h⟩
 · cases h

noncomputable def o154r6_2400_in {R : Type} (K : Ex → St → Option R) (vs : List AV) (hh : H) : Option R := match vs, hh with
 | [AV.fn 109 [Ap 0 0, Ap 2 0, Ap 3 0, Ap 4 0], Fu v0, Ai v1, Ai v2], [HA [AV.sl 1 0 v3 1], HO v4, HA [Ai v5], HA [Ai v6], HA [AV.sl 6 0 v7 1], HA [Ai v8, Fu v9], HU va] => fano_eachOne_1_l2 v0 v1 v2 v3 v4 v5 v6 v7 v8 v9 va (fun vb vc vd ve vf vg vh vi => K (Ex.ret) (St.mk (spread 28 0 [] []) [HA [AV.sl 1 0 vb 1], HO vc, HA [Ai vd], HA [Ai ve], HA [AV.sl 6 0 vf 1], HA [Ai vg, Fu vh], HU vi])) (fun vb vc vd ve vf vg vh vi => K (Ex.exit 0) (St.mk (spread 28 0 [] []) [HA [AV.sl 1 0 vb 1], HO vc, HA [Ai vd], HA [Ai ve], HA [AV.sl 6 0 vf 1], HA [Ai vg, Fu vh], HU vi]))
 | _, _ => none

noncomputable def o154r6_4400_in {R : Type} (K : Ex → St → Option R) (vs : List AV) (hh : H) : Option R := match vs, hh with
 | [AV.fn 109 [Ap 0 0, Ap 2 0, Ap 3 0, Ap 4 0], Ai v0, Au v1, Fu v2, Ai v3, Ai v4], [HA [AV.sl 1 0 v5 1], HO v6, HA [Ai v7], HA [Ai v8], HA [AV.sl 6 0 v9 1], HA [Ai va, Fu vb], HU vc] => fano_eachOne_1_l4 v0 v1 v2 v3 v4 v5 v6 v7 v8 v9 va vb vc (fun vd ve vf vg vh vi vj vk => K (Ex.ret) (St.mk (spread 28 0 [] []) [HA [AV.sl 1 0 vd 1], HO ve, HA [Ai vf], HA [Ai vg], HA [AV.sl 6 0 vh 1], HA [Ai vi, Fu vj], HU vk])) (fun vd ve vf vg vh vi vj vk vl vm vn => K (Ex.exit 2) (St.mk (spread 28 0 [0, 6, 7, 8] [AV.fn 109 [Ap 0 0, Ap 2 0, Ap 3 0, Ap 4 0], Fu vd, Ai ve, Ai vf]) [HA [AV.sl 1 0 vg 1], HO vh, HA [Ai vi], HA [Ai vj], HA [AV.sl 6 0 vk 1], HA [Ai vl, Fu vm], HU vn]))
 | _, _ => none

noncomputable def o154r6 : Nat → Option PSpec := lkN [(2400, fun st _ K => pickM 28 [0, 6, 7, 8] st (o154r6_2400_in K)), (4400, fun st _ K => pickM 28 [0, 3, 4, 6, 7, 8] st (o154r6_4400_in K))]
noncomputable def q154r6 : CallF := evFun (V 154) S116 T174 10

noncomputable def c154r6_2400 : Code := subC [1, 0, 0] (bodyOf Tryz.f154)

noncomputable def lp154r6_2400 {R : Type} (N : Nat) (st : St) (K : Ex → St → Option R) : Option R := evLoop (norm ((V 154).keep 154 (Ev.keyOf c154r6_2400 * 1000 + 400)) 6) (evCode (V 154) q154r6 o154r6 154 6 3997 c154r6_2400) N st (kOut (V 154) 154 6 (Ev.keyOf c154r6_2400 * 1000 + 401) K)

noncomputable def c154r6_4400 : Code := subC [1, 0, 0, 1, 1, 0, 0, 1, 0, 0] (bodyOf Tryz.f154)

noncomputable def lp154r6_4400 {R : Type} (N : Nat) (st : St) (K : Ex → St → Option R) : Option R := evLoop (norm ((V 154).keep 154 (Ev.keyOf c154r6_4400 * 1000 + 400)) 6) (evCode (V 154) q154r6 o154r6 154 6 3990 c154r6_4400) N st (kOut (V 154) 154 6 (Ev.keyOf c154r6_4400 * 1000 + 401) K)

theorem fano_eachOne_1_l4_L_eq {R : Type} (K : Ex → St → Option R) : ∀ N : Nat, (fun (v0 v1 : Int) (v2 : List Int) (v3 v4 : Int) (v5 : Nat) (v6 : List Bool) (v7 v8 : Int) (v9 : Nat) (va : Int) (vb vc : List Int) => lp154r6_4400 N (St.mk (spread 28 0 [0, 3, 4, 6, 7, 8] [AV.fn 109 [Ap 0 0, Ap 2 0, Ap 3 0, Ap 4 0], Ai v0, Au v1, Fu v2, Ai v3, Ai v4]) [HA [AV.sl 1 0 v5 1], HO v6, HA [Ai v7], HA [Ai v8], HA [AV.sl 6 0 v9 1], HA [Ai va, Fu vb], HU vc]) K) = fano_eachOne_1_l4_L (fun vd ve vf vg vh vi vj vk => K (Ex.ret) (St.mk (spread 28 0 [] []) [HA [AV.sl 1 0 vd 1], HO ve, HA [Ai vf], HA [Ai vg], HA [AV.sl 6 0 vh 1], HA [Ai vi, Fu vj], HU vk])) (fun vd ve vf vg vh vi vj vk vl vm vn => K (Ex.exit 2) (St.mk (spread 28 0 [0, 6, 7, 8] [AV.fn 109 [Ap 0 0, Ap 2 0, Ap 3 0, Ap 4 0], Fu vd, Ai ve, Ai vf]) [HA [AV.sl 1 0 vg 1], HO vh, HA [Ai vi], HA [Ai vj], HA [AV.sl 6 0 vk 1], HA [Ai vl, Fu vm], HU vn])) N
  | 0 => by funext v0 v1 v2 v3 v4 v5 v6 v7 v8 v9 va vb vc; rfl
  | N + 1 => by
    funext v0 v1 v2 v3 v4 v5 v6 v7 v8 v9 va vb vc
    simp only [fano_eachOne_1_l4_L]
    rw [← fano_eachOne_1_l4_L_eq K N]
    kernel_rfl

theorem fano_eachOne_1_l2_L_eq {R : Type} (K : Ex → St → Option R) : ∀ N : Nat, (fun (v0 : List Int) (v1 v2 : Int) (v3 : Nat) (v4 : List Bool) (v5 v6 : Int) (v7 : Nat) (v8 : Int) (v9 va : List Int) => lp154r6_2400 N (St.mk (spread 28 0 [0, 6, 7, 8] [AV.fn 109 [Ap 0 0, Ap 2 0, Ap 3 0, Ap 4 0], Fu v0, Ai v1, Ai v2]) [HA [AV.sl 1 0 v3 1], HO v4, HA [Ai v5], HA [Ai v6], HA [AV.sl 6 0 v7 1], HA [Ai v8, Fu v9], HU va]) K) = fano_eachOne_1_l2_L (fun vb vc vd ve vf vg vh vi => K (Ex.ret) (St.mk (spread 28 0 [] []) [HA [AV.sl 1 0 vb 1], HO vc, HA [Ai vd], HA [Ai ve], HA [AV.sl 6 0 vf 1], HA [Ai vg, Fu vh], HU vi])) (fun vb vc vd ve vf vg vh vi => K (Ex.exit 0) (St.mk (spread 28 0 [] []) [HA [AV.sl 1 0 vb 1], HO vc, HA [Ai vd], HA [Ai ve], HA [AV.sl 6 0 vf 1], HA [Ai vg, Fu vh], HU vi])) N
  | 0 => by funext v0 v1 v2 v3 v4 v5 v6 v7 v8 v9 va; rfl
  | N + 1 => by
    funext v0 v1 v2 v3 v4 v5 v6 v7 v8 v9 va
    simp only [fano_eachOne_1_l2_L]
    rw [← fano_eachOne_1_l2_L_eq K N]
    kernel_rfl

theorem p154r6_2400 : PieceOk (V 154) q154r6 o154r6 154 6 (3997, 1, c154r6_2400) := .l (size := 28) (ss := [0, 6, 7, 8]) (F := @o154r6_2400_in) (by kernel_rfl) (by kernel_rfl) fun R r K vs hh h => by
  unfold o154r6_2400_in at h; split at h
  · rw [fano_eachOne_1_l2_unf] at h; unfold fano_eachOne_1_l2_B at h; rw [← fano_eachOne_1_l2_L_eq K NR] at h; exact h
  · cases h

theorem p154r6_4400 : PieceOk (V 154) q154r6 o154r6 154 6 (3990, 1, c154r6_4400) := .l (size := 28) (ss := [0, 3, 4, 6, 7, 8]) (F := @o154r6_4400_in) (by kernel_rfl) (by kernel_rfl) fun R r K vs hh h => by
  unfold o154r6_4400_in at h; split at h
  · rw [fano_eachOne_1_l4_unf] at h; unfold fano_eachOne_1_l4_B at h; rw [← fano_eachOne_1_l4_L_eq K NR] at h; exact h
  · cases h

theorem pc154r6 : ∀ x ∈ [(3997, 1, c154r6_2400), (3990, 1, c154r6_4400)], PieceOk (V 154) q154r6 o154r6 154 6 x := List.forall_mem_cons.2 ⟨p154r6_2400, List.forall_mem_cons.2 ⟨p154r6_4400, fun _ h => nomatch h⟩⟩

noncomputable def o154r8_2400_in {R : Type} (K : Ex → St → Option R) (vs : List AV) (hh : H) : Option R := match vs, hh with
 | [AV.fn 174 [Ap 0 0, Ap 1 0, Ap 2 0, Ap 3 0, Ap 4 0, Ap 5 0], Fu v0, Ai v1, Ai v2], [HA [Ai v3], HA [Ai v4], HA [Fu v5], HA [Ai v6, Ai v7, Ai v8, Ai v9, Ai va, Fu vb, Ai vc, Fu vd], HA [Ab ve], HA [AV.sl 6 0 vf 1], HO vg, HA [Ai vh, Fu vi]] => fano_eachOne_1_l2_1 v0 v1 v2 v3 v4 v5 v6 v7 v8 v9 va vb vc vd ve vf vg vh vi (fun vj vk vl vm vn vo vp vq vr vs vt vu vv vw vx vy => K (Ex.ret) (St.mk (spread 28 0 [] []) [HA [Ai vj], HA [Ai vk], HA [Fu vl], HA [Ai vm, Ai vn, Ai vo, Ai vp, Ai vq, Fu vr, Ai vs, Fu vt], HA [Ab vu], HA [AV.sl 6 0 vv 1], HO vw, HA [Ai vx, Fu vy]])) (fun vj vk vl vm vn vo vp vq vr vs vt vu vv vw vx vy => K (Ex.exit 0) (St.mk (spread 28 0 [] []) [HA [Ai vj], HA [Ai vk], HA [Fu vl], HA [Ai vm, Ai vn, Ai vo, Ai vp, Ai vq, Fu vr, Ai vs, Fu vt], HA [Ab vu], HA [AV.sl 6 0 vv 1], HO vw, HA [Ai vx, Fu vy]]))
 | _, _ => none

noncomputable def o154r8_4400_in {R : Type} (K : Ex → St → Option R) (vs : List AV) (hh : H) : Option R := match vs, hh with
 | [AV.fn 174 [Ap 0 0, Ap 1 0, Ap 2 0, Ap 3 0, Ap 4 0, Ap 5 0], Ai v0, Au v1, Fu v2, Ai v3, Ai v4], [HA [Ai v5], HA [Ai v6], HA [Fu v7], HA [Ai v8, Ai v9, Ai va, Ai vb, Ai vc, Fu vd, Ai ve, Fu vf], HA [Ab vg], HA [AV.sl 6 0 vh 1], HO vi, HA [Ai vj, Fu vk]] => fano_eachOne_1_l4_1 v0 v1 v2 v3 v4 v5 v6 v7 v8 v9 va vb vc vd ve vf vg vh vi vj vk (fun vl vm vn vo vp vq vr vs vt vu vv vw vx vy vz v10 => K (Ex.ret) (St.mk (spread 28 0 [] []) [HA [Ai vl], HA [Ai vm], HA [Fu vn], HA [Ai vo, Ai vp, Ai vq, Ai vr, Ai vs, Fu vt, Ai vu, Fu vv], HA [Ab vw], HA [AV.sl 6 0 vx 1], HO vy, HA [Ai vz, Fu v10]])) (fun vl vm vn vo vp vq vr vs vt vu vv vw vx vy vz v10 v11 v12 v13 => K (Ex.exit 2) (St.mk (spread 28 0 [0, 6, 7, 8] [AV.fn 174 [Ap 0 0, Ap 1 0, Ap 2 0, Ap 3 0, Ap 4 0, Ap 5 0], Fu vl, Ai vm, Ai vn]) [HA [Ai vo], HA [Ai vp], HA [Fu vq], HA [Ai vr, Ai vs, Ai vt, Ai vu, Ai vv, Fu vw, Ai vx, Fu vy], HA [Ab vz], HA [AV.sl 6 0 v10 1], HO v11, HA [Ai v12, Fu v13]]))
 | _, _ => none

noncomputable def o154r8 : Nat → Option PSpec := lkN [(2400, fun st _ K => pickM 28 [0, 6, 7, 8] st (o154r8_2400_in K)), (4400, fun st _ K => pickM 28 [0, 3, 4, 6, 7, 8] st (o154r8_4400_in K))]
noncomputable def q154r8 : CallF := evFun (V 154) S116 T174 10

noncomputable def c154r8_2400 : Code := subC [1, 0, 0] (bodyOf Tryz.f154)

noncomputable def lp154r8_2400 {R : Type} (N : Nat) (st : St) (K : Ex → St → Option R) : Option R := evLoop (norm ((V 154).keep 154 (Ev.keyOf c154r8_2400 * 1000 + 400)) 8) (evCode (V 154) q154r8 o154r8 154 8 3997 c154r8_2400) N st (kOut (V 154) 154 8 (Ev.keyOf c154r8_2400 * 1000 + 401) K)

noncomputable def c154r8_4400 : Code := subC [1, 0, 0, 1, 1, 0, 0, 1, 0, 0] (bodyOf Tryz.f154)

noncomputable def lp154r8_4400 {R : Type} (N : Nat) (st : St) (K : Ex → St → Option R) : Option R := evLoop (norm ((V 154).keep 154 (Ev.keyOf c154r8_4400 * 1000 + 400)) 8) (evCode (V 154) q154r8 o154r8 154 8 3990 c154r8_4400) N st (kOut (V 154) 154 8 (Ev.keyOf c154r8_4400 * 1000 + 401) K)

theorem fano_eachOne_1_l4_1_L_eq {R : Type} (K : Ex → St → Option R) : ∀ N : Nat, (fun (v0 v1 : Int) (v2 : List Int) (v3 v4 v5 v6 : Int) (v7 : List Int) (v8 v9 va vb vc : Int) (vd : List Int) (ve : Int) (vf : List Int) (vg : Bool) (vh : Nat) (vi : List Bool) (vj : Int) (vk : List Int) => lp154r8_4400 N (St.mk (spread 28 0 [0, 3, 4, 6, 7, 8] [AV.fn 174 [Ap 0 0, Ap 1 0, Ap 2 0, Ap 3 0, Ap 4 0, Ap 5 0], Ai v0, Au v1, Fu v2, Ai v3, Ai v4]) [HA [Ai v5], HA [Ai v6], HA [Fu v7], HA [Ai v8, Ai v9, Ai va, Ai vb, Ai vc, Fu vd, Ai ve, Fu vf], HA [Ab vg], HA [AV.sl 6 0 vh 1], HO vi, HA [Ai vj, Fu vk]]) K) = fano_eachOne_1_l4_1_L (fun vl vm vn vo vp vq vr vs vt vu vv vw vx vy vz v10 => K (Ex.ret) (St.mk (spread 28 0 [] []) [HA [Ai vl], HA [Ai vm], HA [Fu vn], HA [Ai vo, Ai vp, Ai vq, Ai vr, Ai vs, Fu vt, Ai vu, Fu vv], HA [Ab vw], HA [AV.sl 6 0 vx 1], HO vy, HA [Ai vz, Fu v10]])) (fun vl vm vn vo vp vq vr vs vt vu vv vw vx vy vz v10 v11 v12 v13 => K (Ex.exit 2) (St.mk (spread 28 0 [0, 6, 7, 8] [AV.fn 174 [Ap 0 0, Ap 1 0, Ap 2 0, Ap 3 0, Ap 4 0, Ap 5 0], Fu vl, Ai vm, Ai vn]) [HA [Ai vo], HA [Ai vp], HA [Fu vq], HA [Ai vr, Ai vs, Ai vt, Ai vu, Ai vv, Fu vw, Ai vx, Fu vy], HA [Ab vz], HA [AV.sl 6 0 v10 1], HO v11, HA [Ai v12, Fu v13]])) N
  | 0 => by funext v0 v1 v2 v3 v4 v5 v6 v7 v8 v9 va vb vc vd ve vf vg vh vi vj vk; rfl
  | N + 1 => by
    funext v0 v1 v2 v3 v4 v5 v6 v7 v8 v9 va vb vc vd ve vf vg vh vi vj vk
    simp only [fano_eachOne_1_l4_1_L]
    rw [← fano_eachOne_1_l4_1_L_eq K N]
    kernel_rfl

theorem fano_eachOne_1_l2_1_L_eq {R : Type} (K : Ex → St → Option R) : ∀ N : Nat, (fun (v0 : List Int) (v1 v2 v3 v4 : Int) (v5 : List Int) (v6 v7 v8 v9 va : Int) (vb : List Int) (vc : Int) (vd : List Int) (ve : Bool) (vf : Nat) (vg : List Bool) (vh : Int) (vi : List Int) => lp154r8_2400 N (St.mk (spread 28 0 [0, 6, 7, 8] [AV.fn 174 [Ap 0 0, Ap 1 0, Ap 2 0, Ap 3 0, Ap 4 0, Ap 5 0], Fu v0, Ai v1, Ai v2]) [HA [Ai v3], HA [Ai v4], HA [Fu v5], HA [Ai v6, Ai v7, Ai v8, Ai v9, Ai va, Fu vb, Ai vc, Fu vd], HA [Ab ve], HA [AV.sl 6 0 vf 1], HO vg, HA [Ai vh, Fu vi]]) K) = fano_eachOne_1_l2_1_L (fun vj vk vl vm vn vo vp vq vr vs vt vu vv vw vx vy => K (Ex.ret) (St.mk (spread 28 0 [] []) [HA [Ai vj], HA [Ai vk], HA [Fu vl], HA [Ai vm, Ai vn, Ai vo, Ai vp, Ai vq, Fu vr, Ai vs, Fu vt], HA [Ab vu], HA [AV.sl 6 0 vv 1], HO vw, HA [Ai vx, Fu vy]])) (fun vj vk vl vm vn vo vp vq vr vs vt vu vv vw vx vy => K (Ex.exit 0) (St.mk (spread 28 0 [] []) [HA [Ai vj], HA [Ai vk], HA [Fu vl], HA [Ai vm, Ai vn, Ai vo, Ai vp, Ai vq, Fu vr, Ai vs, Fu vt], HA [Ab vu], HA [AV.sl 6 0 vv 1], HO vw, HA [Ai vx, Fu vy]])) N
  | 0 => by funext v0 v1 v2 v3 v4 v5 v6 v7 v8 v9 va vb vc vd ve vf vg vh vi; rfl
  | N + 1 => by
    funext v0 v1 v2 v3 v4 v5 v6 v7 v8 v9 va vb vc vd ve vf vg vh vi
    simp only [fano_eachOne_1_l2_1_L]
    rw [← fano_eachOne_1_l2_1_L_eq K N]
    kernel_rfl

theorem p154r8_2400 : PieceOk (V 154) q154r8 o154r8 154 8 (3997, 1, c154r8_2400) := .l (size := 28) (ss := [0, 6, 7, 8]) (F := @o154r8_2400_in) (by kernel_rfl) (by kernel_rfl) fun R r K vs hh h => by
  unfold o154r8_2400_in at h; split at h
  · rw [fano_eachOne_1_l2_1_unf] at h; unfold fano_eachOne_1_l2_1_B at h; rw [← fano_eachOne_1_l2_1_L_eq K NR] at h; exact h
  · cases h

theorem p154r8_4400 : PieceOk (V 154) q154r8 o154r8 154 8 (3990, 1, c154r8_4400) := .l (size := 28) (ss := [0, 3, 4, 6, 7, 8]) (F := @o154r8_4400_in) (by kernel_rfl) (by kernel_rfl) fun R r K vs hh h => by
  unfold o154r8_4400_in at h; split at h
  · rw [fano_eachOne_1_l4_1_unf] at h; unfold fano_eachOne_1_l4_1_B at h; rw [← fano_eachOne_1_l4_1_L_eq K NR] at h; exact h
  · cases h

theorem pc154r8 : ∀ x ∈ [(3997, 1, c154r8_2400), (3990, 1, c154r8_4400)], PieceOk (V 154) q154r8 o154r8 154 8 x := List.forall_mem_cons.2 ⟨p154r8_2400, List.forall_mem_cons.2 ⟨p154r8_4400, fun _ h => nomatch h⟩⟩

noncomputable def hs154 : HSpec := fun args h _ K => match args, h with
 | [AV.fn 109 [Ap 0 0, Ap 2 0, Ap 3 0, Ap 4 0], Ap 5 0], [HA [AV.sl 1 0 v0 1], HO v1, HA [Ai v2], HA [Ai v3], HA [AV.esl], HA [Ai v4, Fu v5]] => fano_eachOne_1_r v0 v1 v2 v3 v4 v5 (fun v6 v7 v8 v9 va vb vc vd => K (AV.tup []) ([HA [AV.sl 1 0 v6 1], HO v7, HA [Ai v8], HA [Ai v9], HA [AV.sl 6 0 va 1], HA [Ai vb, Fu vc], HU vd]))
 | [AV.fn 174 [Ap 0 0, Ap 1 0, Ap 2 0, Ap 3 0, Ap 4 0, Ap 5 0], Ap 7 0], [HA [Ai ve], HA [Ai vf], HA [Fu vg], HA [Ai vh, Ai vi, Ai vj, Ai vk, Ai vl, Fu vm, Ai vn, Fu vo], HA [Ab vp], HA [AV.sl 6 0 vq 1], HO vr, HA [Ai vs, Fu vt]] => fano_eachOne_1_r_1 ve vf vg vh vi vj vk vl vm vn vo vp vq vr vs vt (fun v6 v7 v8 v9 va vb vc vd vu vv vw vx vy vz v10 v11 => K (AV.tup []) ([HA [Ai v6], HA [Ai v7], HA [Fu v8], HA [Ai v9, Ai va, Ai vb, Ai vc, Ai vd, Fu vu, Ai vv, Fu vw], HA [Ab vx], HA [AV.sl 6 0 vy 1], HO vz, HA [Ai v10, Fu v11]]))
 | _, _ => none
noncomputable def T154 := addT 154 hs154 T174
theorem D33 : Dom B0 V S116 T154 33 := Dom.t D32 fun args hh R K r h => by
 unfold hs154 at h; split at h
 · rw [fano_eachOne_1_r_unf] at h; exact ⟨o154r6, (OrcOk.fn (fn0 := Tryz.f154) (by kernel_rfl) (by kernel_rfl) pc154r6), Eq.trans (by kernel_rfl) h⟩
 · rw [fano_eachOne_1_r_1_unf] at h; exact ⟨o154r8, (OrcOk.fn (fn0 := Tryz.f154) (by kernel_rfl) (by kernel_rfl) pc154r8), Eq.trans (by kernel_rfl) h⟩
 · cases h

noncomputable def o88_6400_in {R : Type} (K : Ex → St → Option R) (vs : List AV) (hh : H) : Option R := match vs, hh with
 | [Ap 0 0, Ap 1 0, AV.fsl (Blk.bools v0), Ai v1, Ai v2], [HA [Ai v3, AV.esl], HA [Ai v4, AV.esl]] => bits_From_l6 v0 v1 v2 v3 v4 (fun v5 v6 => K (Ex.exit 0) (St.mk (spread 39 0 [2, 4] [Ap 0 0, Ap 1 0]) [HA [Ai v5, AV.esl], HA [Ai v6, AV.esl]]))
 | [Ap 0 0, Ap 1 0, AV.fsl (Blk.bools v7), Ai v8, Ai v9], [HA [Ai va, AV.esl], HA [Ai vb, AV.sl 2 0 vc 1], HU vd] => bits_From_l6_1 v7 v8 v9 va vb vc vd (fun v5 v6 ve vf => K (Ex.exit 0) (St.mk (spread 39 0 [2, 4] [Ap 0 0, Ap 1 0]) [HA [Ai v5, AV.esl], HA [Ai v6, AV.sl 2 0 ve 1], HU vf]))
 | _, _ => none

noncomputable def o88 : Nat → Option PSpec := lkN [(6400, fun st _ K => pickM 39 [2, 4, 18, 19, 20] st (o88_6400_in K))]
noncomputable def q88 : CallF := evFun (V 88) S116 T154 10

noncomputable def c88_6400 : Code := subC [1, 1, 1, 0, 1, 0, 0] (bodyOf Tryz.f88)

noncomputable def lp88_6400 {R : Type} (N : Nat) (st : St) (K : Ex → St → Option R) : Option R := evLoop (norm ((V 88).keep 88 (Ev.keyOf c88_6400 * 1000 + 400)) 0) (evCode (V 88) q88 o88 88 0 3993 c88_6400) N st (kOut (V 88) 88 0 (Ev.keyOf c88_6400 * 1000 + 401) K)

theorem bits_From_l6_L_eq {R : Type} (K : Ex → St → Option R) : ∀ N : Nat, (fun (v0 : List Bool) (v1 v2 v3 v4 : Int) => lp88_6400 N (St.mk (spread 39 0 [2, 4, 18, 19, 20] [Ap 0 0, Ap 1 0, AV.fsl (Blk.bools v0), Ai v1, Ai v2]) [HA [Ai v3, AV.esl], HA [Ai v4, AV.esl]]) K) = bits_From_l6_L (fun v5 v6 => K (Ex.exit 0) (St.mk (spread 39 0 [2, 4] [Ap 0 0, Ap 1 0]) [HA [Ai v5, AV.esl], HA [Ai v6, AV.esl]])) N
  | 0 => by funext v0 v1 v2 v3 v4; rfl
  | N + 1 => by
    funext v0 v1 v2 v3 v4
    simp only [bits_From_l6_L]
    rw [← bits_From_l6_L_eq K N]
    kernel_rfl

theorem bits_From_l6_1_L_eq {R : Type} (K : Ex → St → Option R) : ∀ N : Nat, (fun (v0 : List Bool) (v1 v2 v3 v4 : Int) (v5 : Nat) (v6 : List Int) => lp88_6400 N (St.mk (spread 39 0 [2, 4, 18, 19, 20] [Ap 0 0, Ap 1 0, AV.fsl (Blk.bools v0), Ai v1, Ai v2]) [HA [Ai v3, AV.esl], HA [Ai v4, AV.sl 2 0 v5 1], HU v6]) K) = bits_From_l6_1_L (fun v7 v8 v9 va => K (Ex.exit 0) (St.mk (spread 39 0 [2, 4] [Ap 0 0, Ap 1 0]) [HA [Ai v7, AV.esl], HA [Ai v8, AV.sl 2 0 v9 1], HU va])) N
  | 0 => by funext v0 v1 v2 v3 v4 v5 v6; rfl
  | N + 1 => by
    funext v0 v1 v2 v3 v4 v5 v6
    simp only [bits_From_l6_1_L]
    rw [← bits_From_l6_1_L_eq K N]
    kernel_rfl

theorem p88_6400 : PieceOk (V 88) q88 o88 88 0 (3993, 1, c88_6400) := .l (size := 39) (ss := [2, 4, 18, 19, 20]) (F := @o88_6400_in) (by kernel_rfl) (by kernel_rfl) fun R r K vs hh h => by
  unfold o88_6400_in at h; split at h
  · rw [bits_From_l6_unf] at h; unfold bits_From_l6_B at h; rw [← bits_From_l6_L_eq K NR] at h; exact h
  · rw [bits_From_l6_1_unf] at h; unfold bits_From_l6_1_B at h; rw [← bits_From_l6_1_L_eq K NR] at h; exact h
  · cases h

theorem pc88 : ∀ x ∈ [(3993, 1, c88_6400)], PieceOk (V 88) q88 o88 88 0 x := List.forall_mem_cons.2 ⟨p88_6400, fun _ h => nomatch h⟩

noncomputable def sp88 : Ev.Spec := fun args _ K => match args with
 | ([AV.fsl (Blk.bools v0)]) => bits_From v0 (fun v1 v2 v3 => K (AV.tup [AV.agg (Blk.any [Ai v1, Fu v2]), Ai v3]))
 | _ => none
noncomputable def S88 := addS 88 sp88 S116
theorem D34 : Dom B0 V S88 T154 34 := Dom.s (m := 33) (n := 0) D33 D33 (O := o88) (OrcOk.fn (fn0 := Tryz.f88) (by kernel_rfl) (by kernel_rfl) pc88) fun args R K r h => by
 unfold sp88 at h; split at h
 · rw [bits_From_unf] at h; exact Eq.trans (by kernel_rfl) h
 · cases h

noncomputable def o52_14000_in {R : Type} (K : Ex → St → Option R) (vs : List AV) (hh : H) : Option R := match vs, hh with
 | [Ap 0 0, Ap 1 0, Ab v0], [HA [Ai v1, Ai v2, Ai v3, Ai v4, Ai v5, AV.esl, Ai v6, AV.esl], HA [Ai v7, Ai v8, Ai v9, Ai va, Ai vb, Fu vc, Ai vd, Fu ve]] => fano_Build_j14 v0 v1 v2 v3 v4 v5 v6 v7 v8 v9 va vb vc vd ve (fun vf vg vh vi vj vk vl => K (Ex.ret) (St.mk (spread 62 0 [2, 3] [Ap 0 0, Ai vf]) [HA [Ai vg, Ai vh, Ai vi, Ai vj, Ai vk, AV.esl, Ai vl, AV.esl]])) (fun vf vg vh vi vj vk vl vm vn vo vp vq vr vs => K (Ex.normal) (St.mk (spread 62 0 [2, 4] [Ap 0 0, Ap 1 0]) [HA [Ai vf, Ai vg, Ai vh, Ai vi, Ai vj, AV.esl, Ai vk, AV.esl], HA [Ai vl, Ai vm, Ai vn, Ai vo, Ai vp, Fu vq, Ai vr, Fu vs]]))
 | _, _ => none

noncomputable def o52 : Nat → Option PSpec := lkN [(14000, fun st _ K => pickM 62 [2, 4, 59] st (o52_14000_in K))]
noncomputable def q52 : CallF := evFun (V 52) S88 T154 10

noncomputable def c52_14000 : Code := subC [1, 1, 1, 1, 1, 1, 1, 1, 1, 1, 1, 0, 1] (bodyOf Tryz.f52)

theorem p52_14000 : PieceOk (V 52) q52 o52 52 0 (3987, 0, c52_14000) := .s (size := 62) (ss := [2, 4, 59]) (F := @o52_14000_in) (by kernel_rfl) fun R r K vs hh h => by
  unfold o52_14000_in at h; split at h
  · rw [fano_Build_j14_unf] at h; exact Eq.trans (by kernel_rfl) h
  · cases h

theorem pc52 : ∀ x ∈ [(3987, 0, c52_14000)], PieceOk (V 52) q52 o52 52 0 x := List.forall_mem_cons.2 ⟨p52_14000, fun _ h => nomatch h⟩

theorem fano_Build_eq {R : Type} (K : AV → Option R) (v0 : Int) (v1 : List Int) : evSpec (V 52) S88 T154 o52 10 52 ([AV.agg (Blk.any [Ai v0, Fu v1])]) R K = fano_Build_B v0 v1 (fun v2 v3 v4 v5 v6 v7 v8 v9 va => K (AV.tup [AV.agg (Blk.any [Ai v2, Ai v3, Ai v4, Ai v5, Ai v6, Fu v7, Ai v8, Fu v9]), Ai va])) := by kernel_rfl

noncomputable def sp52 : Ev.Spec := fun args _ K => match args with
 | ([AV.agg (Blk.any [Ai v0, Fu v1])]) => fano_Build v0 v1 (fun v2 v3 v4 v5 v6 v7 v8 v9 va => K (AV.tup [AV.agg (Blk.any [Ai v2, Ai v3, Ai v4, Ai v5, Ai v6, Fu v7, Ai v8, Fu v9]), Ai va]))
 | _ => none
noncomputable def S52 := addS 52 sp52 S88
theorem D35 : Dom B0 V S52 T154 35 := Dom.s (m := 34) (n := 0) D34 D34 (O := o52) (OrcOk.fn (fn0 := Tryz.f52) (by kernel_rfl) (by kernel_rfl) pc52) fun args R K r h => by
 unfold sp52 at h; split at h
 · rw [fano_Build_unf] at h; exact (fano_Build_eq K _ _).trans h
 · cases h

noncomputable def o14_10000_in {R : Type} (K : Ex → St → Option R) (vs : List AV) (hh : H) : Option R := match vs, hh with
 | [Ap 0 0, Ap 1 0, Ai v0], [HA [Ai v1, Ai v2, AV.esl, AV.esl, AV.esl, Ai v3, Ai v4, Ai v5, Ai v6, AV.esl, Ai v7, AV.esl, AV.esl, AV.esl, Ai v8, Ai v9, Ai va, Ai vb, Ai vc, AV.esl, Ai vd, AV.esl], HA [Ai ve, Ai vf, Fu vg, AV.fsl (Blk.ints .i64 vh), AV.fsl (Blk.ints .i64 vi), Ai vj, Ai vk, Ai vl, Ai vm, Fu vn, Ai vo, Fu vp, AV.fsl (Blk.ints .i64 vq), AV.fsl (Blk.ints .i64 vr), Ai vs, Ai vt, Ai vu, Ai vv, Ai vw, Fu vx, Ai vy, Fu vz]] => vector_Build_j10 v0 v1 v2 v3 v4 v5 v6 v7 v8 v9 va vb vc vd ve vf vg vh vi vj vk vl vm vn vo vp vq vr vs vt vu vv vw vx vy vz (fun v10 v11 v12 v13 v14 v15 v16 v17 v18 v19 v1a v1b v1c v1d => K (Ex.ret) (St.mk (spread 40 0 [4, 5] [Ap 0 0, Ai v10]) [HA [Ai v11, Ai v12, AV.esl, AV.esl, AV.esl, Ai v13, Ai v14, Ai v15, Ai v16, AV.esl, Ai v17, AV.esl, AV.esl, AV.esl, Ai v18, Ai v19, Ai v1a, Ai v1b, Ai v1c, AV.esl, Ai v1d, AV.esl]])) (fun v10 v11 v12 v13 v14 v15 v16 v17 v18 v19 v1a v1b v1c v1d v1e v1f v1g v1h v1i v1j v1k v1l v1m => K (Ex.ret) (St.mk (spread 40 0 [4, 5] [Ap 0 0, Ai v10]) [HA [Ai v11, Ai v12, Fu v13, AV.fsl (Blk.ints .i64 v14), AV.fsl (Blk.ints .i64 v15), Ai v16, Ai v17, Ai v18, Ai v19, Fu v1a, Ai v1b, Fu v1c, AV.fsl (Blk.ints .i64 v1d), AV.fsl (Blk.ints .i64 v1e), Ai v1f, Ai v1g, Ai v1h, Ai v1i, Ai v1j, Fu v1k, Ai v1l, Fu v1m]]))
 | _, _ => none

noncomputable def o14 : Nat → Option PSpec := lkN [(10000, fun st _ K => pickM 40 [4, 6, 7] st (o14_10000_in K))]
noncomputable def q14 : CallF := evFun (V 14) S52 T154 10

noncomputable def c14_10000 : Code := subC [1, 1, 1] (bodyOf Tryz.f14)

theorem p14_10000 : PieceOk (V 14) q14 o14 14 0 (3997, 0, c14_10000) := .s (size := 40) (ss := [4, 6, 7]) (F := @o14_10000_in) (by kernel_rfl) fun R r K vs hh h => by
  unfold o14_10000_in at h; split at h
  · rw [vector_Build_j10_unf] at h; exact Eq.trans (by kernel_rfl) h
  · cases h

theorem pc14 : ∀ x ∈ [(3997, 0, c14_10000)], PieceOk (V 14) q14 o14 14 0 x := List.forall_mem_cons.2 ⟨p14_10000, fun _ h => nomatch h⟩

theorem vector_Build_eq {R : Type} (K : AV → Option R) (v0 v1 : Int) (v2 : List Int) : evSpec (V 14) S52 T154 o14 10 14 ([Ai v0, AV.agg (Blk.any [Ai v1, Fu v2])]) R K = vector_Build_B v0 v1 v2 (fun v3 v4 v5 v6 v7 v8 v9 va vb vc vd ve vf vg vh vi vj vk vl vm vn vo vp => K (AV.tup [AV.agg (Blk.any [Ai v3, Ai v4, Fu v5, AV.fsl (Blk.ints .i64 v6), AV.fsl (Blk.ints .i64 v7), Ai v8, Ai v9, Ai va, Ai vb, Fu vc, Ai vd, Fu ve, AV.fsl (Blk.ints .i64 vf), AV.fsl (Blk.ints .i64 vg), Ai vh, Ai vi, Ai vj, Ai vk, Ai vl, Fu vm, Ai vn, Fu vo]), Ai vp])) := by kernel_rfl

noncomputable def sp14 : Ev.Spec := fun args _ K => match args with
 | ([Ai v0, AV.agg (Blk.any [Ai v1, Fu v2])]) => vector_Build v0 v1 v2 (fun v3 v4 v5 v6 v7 v8 v9 va vb vc vd ve vf vg vh vi vj vk vl vm vn vo vp => K (AV.tup [AV.agg (Blk.any [Ai v3, Ai v4, Fu v5, AV.fsl (Blk.ints .i64 v6), AV.fsl (Blk.ints .i64 v7), Ai v8, Ai v9, Ai va, Ai vb, Fu vc, Ai vd, Fu ve, AV.fsl (Blk.ints .i64 vf), AV.fsl (Blk.ints .i64 vg), Ai vh, Ai vi, Ai vj, Ai vk, Ai vl, Fu vm, Ai vn, Fu vo]), Ai vp]))
 | _ => none
noncomputable def S14 := addS 14 sp14 S52
theorem D36 : Dom B0 V S14 T154 36 := Dom.s (m := 35) (n := 0) D35 D35 (O := o14) (OrcOk.fn (fn0 := Tryz.f14) (by kernel_rfl) (by kernel_rfl) pc14) fun args R K r h => by
 unfold sp14 at h; split at h
 · rw [vector_Build_unf] at h; exact (vector_Build_eq K _ _ _).trans h
 · cases h

noncomputable def o135_3400_in {R : Type} (K : Ex → St → Option R) (vs : List AV) (hh : H) : Option R := match vs, hh with
 | [AV.fsl (Blk.cols [Col.ints .i64 v0, Col.fints .u64 v1] []), Ai v2, Ai v3], [] => vector_empty_l3 v0 v1 v2 v3 (fun v4 => K (Ex.ret) (St.mk (spread 21 0 [2] [Ab v4]) [])) (fun _ => K (Ex.exit 0) (St.mk (spread 21 0 [] []) []))
 | _, _ => none

noncomputable def o135 : Nat → Option PSpec := lkN [(3400, fun st _ K => pickM 21 [5, 6, 7] st (o135_3400_in K))]
noncomputable def q135 : CallF := evFun (V 135) S14 T154 10

noncomputable def c135_3400 : Code := subC [1, 0, 1, 0, 0] (bodyOf Tryz.f135)

noncomputable def lp135_3400 {R : Type} (N : Nat) (st : St) (K : Ex → St → Option R) : Option R := evLoop (norm ((V 135).keep 135 (Ev.keyOf c135_3400 * 1000 + 400)) 0) (evCode (V 135) q135 o135 135 0 3995 c135_3400) N st (kOut (V 135) 135 0 (Ev.keyOf c135_3400 * 1000 + 401) K)

theorem vector_empty_l3_L_eq {R : Type} (K : Ex → St → Option R) : ∀ N : Nat, (fun (v0 : List Int) (v1 : List (List Int)) (v2 v3 : Int) => lp135_3400 N (St.mk (spread 21 0 [5, 6, 7] [AV.fsl (Blk.cols [Col.ints .i64 v0, Col.fints .u64 v1] []), Ai v2, Ai v3]) []) K) = vector_empty_l3_L (fun v4 => K (Ex.ret) (St.mk (spread 21 0 [2] [Ab v4]) [])) (fun _ => K (Ex.exit 0) (St.mk (spread 21 0 [] []) [])) N
  | 0 => by funext v0 v1 v2 v3; rfl
  | N + 1 => by
    funext v0 v1 v2 v3
    simp only [vector_empty_l3_L]
    rw [← vector_empty_l3_L_eq K N]
    kernel_rfl

theorem p135_3400 : PieceOk (V 135) q135 o135 135 0 (3995, 1, c135_3400) := .l (size := 21) (ss := [5, 6, 7]) (F := @o135_3400_in) (by kernel_rfl) (by kernel_rfl) fun R r K vs hh h => by
  unfold o135_3400_in at h; split at h
  · rw [vector_empty_l3_unf] at h; unfold vector_empty_l3_B at h; rw [← vector_empty_l3_L_eq K NR] at h; exact h
  · cases h

theorem pc135 : ∀ x ∈ [(3995, 1, c135_3400)], PieceOk (V 135) q135 o135 135 0 x := List.forall_mem_cons.2 ⟨p135_3400, fun _ h => nomatch h⟩

noncomputable def sp135 : Ev.Spec := fun args _ K => match args with
 | ([AV.fsl (Blk.cols [Col.ints .i64 v0, Col.fints .u64 v1] [])]) => vector_empty v0 v1 (fun v2 => K (Ab v2))
 | _ => none
noncomputable def S135 := addS 135 sp135 S14
theorem D37 : Dom B0 V S135 T154 37 := Dom.s (m := 36) (n := 0) D36 D36 (O := o135) (OrcOk.fn (fn0 := Tryz.f135) (by kernel_rfl) (by kernel_rfl) pc135) fun args R K r h => by
 unfold sp135 at h; split at h
 · rw [vector_empty_unf] at h; exact Eq.trans (by kernel_rfl) h
 · cases h

noncomputable def o79_4000_in {R : Type} (K : Ex → St → Option R) (vs : List AV) (hh : H) : Option R := match vs, hh with
 | [Ap 0 0, Ap 1 0, Ap 2 0, Ab v0], [HA [Ai v1, Ai v2, Fu v3, AV.fsl (Blk.ints .i64 v4), AV.fsl (Blk.ints .i64 v5), Ai v6, Ai v7, Ai v8, Ai v9, Fu va, Ai vb, Fu vc, AV.fsl (Blk.ints .i64 vd), AV.fsl (Blk.ints .i64 ve), Ai vf, Ai vg, Ai vh, Ai vi, Ai vj, Fu vk, Ai vl, Fu vm], HA [Ai vn, Ai vo, Ai vp, Ai vq, Fu vr, Ai vs, Fu vt, AV.fsl (Blk.ints .i64 vu), AV.fsl (Blk.ints .i64 vv)], HA [Ai vw, Ai vx, Ai vy, Ai vz, Ai v10, Fu v11, Ai v12, Fu v13]] => vector_spare_j4 v0 v1 v2 v3 v4 v5 v6 v7 v8 v9 va vb vc vd ve vf vg vh vi vj vk vl vm vn vo vp vq vr vs vt vu vv vw vx vy vz v10 v11 v12 v13 (fun v14 => K (Ex.ret) (St.mk (spread 110 0 [2] [Ab v14]) []))
 | _, _ => none

noncomputable def o79_5000_in {R : Type} (K : Ex → St → Option R) (vs : List AV) (hh : H) : Option R := match vs, hh with
 | [Ap 0 0, Ap 1 0, Ab v0, Ab v1], [HA [Ai v2, Ai v3, Fu v4, AV.fsl (Blk.ints .i64 v5), AV.fsl (Blk.ints .i64 v6), Ai v7, Ai v8, Ai v9, Ai va, Fu vb, Ai vc, Fu vd, AV.fsl (Blk.ints .i64 ve), AV.fsl (Blk.ints .i64 vf), Ai vg, Ai vh, Ai vi, Ai vj, Ai vk, Fu vl, Ai vm, Fu vn], HA [Ai vo, Ai vp, Ai vq, Ai vr, Ai vs, Fu vt, Ai vu, Fu vv]] => vector_spare_j5 v0 v1 v2 v3 v4 v5 v6 v7 v8 v9 va vb vc vd ve vf vg vh vi vj vk vl vm vn vo vp vq vr vs vt vu vv (fun vw => K (Ex.ret) (St.mk (spread 110 0 [2] [Ab vw]) []))
 | _, _ => none

noncomputable def o79_6000_in {R : Type} (K : Ex → St → Option R) (vs : List AV) (hh : H) : Option R := match vs, hh with
 | [Ap 0 0, Ab v0, Ab v1, Ab v2], [HA [Ai v3, Ai v4, Fu v5, AV.fsl (Blk.ints .i64 v6), AV.fsl (Blk.ints .i64 v7), Ai v8, Ai v9, Ai va, Ai vb, Fu vc, Ai vd, Fu ve, AV.fsl (Blk.ints .i64 vf), AV.fsl (Blk.ints .i64 vg), Ai vh, Ai vi, Ai vj, Ai vk, Ai vl, Fu vm, Ai vn, Fu vo]] => vector_spare_j6 v0 v1 v2 v3 v4 v5 v6 v7 v8 v9 va vb vc vd ve vf vg vh vi vj vk vl vm vn vo (fun vp => K (Ex.ret) (St.mk (spread 110 0 [2] [Ab vp]) []))
 | _, _ => none

noncomputable def o79 : Nat → Option PSpec := lkN [(4000, fun st _ K => pickM 110 [1, 4, 5, 6] st (o79_4000_in K)), (5000, fun st _ K => pickM 110 [1, 5, 6, 7] st (o79_5000_in K)), (6000, fun st _ K => pickM 110 [1, 6, 7, 8] st (o79_6000_in K))]
noncomputable def q79 : CallF := evFun (V 79) S135 T154 10

noncomputable def c79_4000 : Code := subC [1, 1, 1] (bodyOf Tryz.f79)

noncomputable def c79_5000 : Code := subC [1, 1, 1, 1] (bodyOf Tryz.f79)

noncomputable def c79_6000 : Code := subC [1, 1, 1, 1, 1] (bodyOf Tryz.f79)

theorem vector_spare_j5_eq {R : Type} (K : Ex → St → Option R) (v0 v1 : Bool) (v2 v3 : Int) (v4 v5 v6 : List Int) (v7 v8 v9 va : Int) (vb : List Int) (vc : Int) (vd ve vf : List Int) (vg vh vi vj vk : Int) (vl : List Int) (vm : Int) (vn : List Int) (vo vp vq vr vs : Int) (vt : List Int) (vu : Int) (vv : List Int) : evCode (V 79) q79 o79 79 0 3996 c79_5000 (St.mk (spread 110 0 [1, 5, 6, 7] [Ap 0 0, Ap 1 0, Ab v0, Ab v1]) [HA [Ai v2, Ai v3, Fu v4, AV.fsl (Blk.ints .i64 v5), AV.fsl (Blk.ints .i64 v6), Ai v7, Ai v8, Ai v9, Ai va, Fu vb, Ai vc, Fu vd, AV.fsl (Blk.ints .i64 ve), AV.fsl (Blk.ints .i64 vf), Ai vg, Ai vh, Ai vi, Ai vj, Ai vk, Fu vl, Ai vm, Fu vn], HA [Ai vo, Ai vp, Ai vq, Ai vr, Ai vs, Fu vt, Ai vu, Fu vv]]) (kOut (V 79) 79 0 (Ev.keyOf c79_5000 * 1000 + 1) K) = vector_spare_j5_B v0 v1 v2 v3 v4 v5 v6 v7 v8 v9 va vb vc vd ve vf vg vh vi vj vk vl vm vn vo vp vq vr vs vt vu vv (fun vw => K (Ex.ret) (St.mk (spread 110 0 [2] [Ab vw]) [])) := by kernel_rfl

theorem vector_spare_j4_eq {R : Type} (K : Ex → St → Option R) (v0 : Bool) (v1 v2 : Int) (v3 v4 v5 : List Int) (v6 v7 v8 v9 : Int) (va : List Int) (vb : Int) (vc vd ve : List Int) (vf vg vh vi vj : Int) (vk : List Int) (vl : Int) (vm : List Int) (vn vo vp vq : Int) (vr : List Int) (vs : Int) (vt vu vv : List Int) (vw vx vy vz v10 : Int) (v11 : List Int) (v12 : Int) (v13 : List Int) : evCode (V 79) q79 o79 79 0 3997 c79_4000 (St.mk (spread 110 0 [1, 4, 5, 6] [Ap 0 0, Ap 1 0, Ap 2 0, Ab v0]) [HA [Ai v1, Ai v2, Fu v3, AV.fsl (Blk.ints .i64 v4), AV.fsl (Blk.ints .i64 v5), Ai v6, Ai v7, Ai v8, Ai v9, Fu va, Ai vb, Fu vc, AV.fsl (Blk.ints .i64 vd), AV.fsl (Blk.ints .i64 ve), Ai vf, Ai vg, Ai vh, Ai vi, Ai vj, Fu vk, Ai vl, Fu vm], HA [Ai vn, Ai vo, Ai vp, Ai vq, Fu vr, Ai vs, Fu vt, AV.fsl (Blk.ints .i64 vu), AV.fsl (Blk.ints .i64 vv)], HA [Ai vw, Ai vx, Ai vy, Ai vz, Ai v10, Fu v11, Ai v12, Fu v13]]) (kOut (V 79) 79 0 (Ev.keyOf c79_4000 * 1000 + 1) K) = vector_spare_j4_B v0 v1 v2 v3 v4 v5 v6 v7 v8 v9 va vb vc vd ve vf vg vh vi vj vk vl vm vn vo vp vq vr vs vt vu vv vw vx vy vz v10 v11 v12 v13 (fun v14 => K (Ex.ret) (St.mk (spread 110 0 [2] [Ab v14]) [])) := by kernel_rfl

theorem p79_4000 : PieceOk (V 79) q79 o79 79 0 (3997, 0, c79_4000) := .s (size := 110) (ss := [1, 4, 5, 6]) (F := @o79_4000_in) (by kernel_rfl) fun R r K vs hh h => by
  unfold o79_4000_in at h; split at h
  · rw [vector_spare_j4_unf] at h; exact (vector_spare_j4_eq K _ _ _ _ _ _ _ _ _ _ _ _ _ _ _ _ _ _ _ _ _ _ _ _ _ _ _ _ _ _ _ _ _ _ _ _ _ _ _ _).trans h
  · cases h

theorem p79_5000 : PieceOk (V 79) q79 o79 79 0 (3996, 0, c79_5000) := .s (size := 110) (ss := [1, 5, 6, 7]) (F := @o79_5000_in) (by kernel_rfl) fun R r K vs hh h => by
  unfold o79_5000_in at h; split at h
  · rw [vector_spare_j5_unf] at h; exact (vector_spare_j5_eq K _ _ _ _ _ _ _ _ _ _ _ _ _ _ _ _ _ _ _ _ _ _ _ _ _ _ _ _ _ _ _ _).trans h
  · cases h

theorem p79_6000 : PieceOk (V 79) q79 o79 79 0 (3995, 0, c79_6000) := .s (size := 110) (ss := [1, 6, 7, 8]) (F := @o79_6000_in) (by kernel_rfl) fun R r K vs hh h => by
  unfold o79_6000_in at h; split at h
  · rw [vector_spare_j6_unf] at h; exact Eq.trans (by kernel_rfl) h
  · cases h

theorem pc79 : ∀ x ∈ [(3997, 0, c79_4000), (3996, 0, c79_5000), (3995, 0, c79_6000)], PieceOk (V 79) q79 o79 79 0 x := List.forall_mem_cons.2 ⟨p79_4000, List.forall_mem_cons.2 ⟨p79_5000, List.forall_mem_cons.2 ⟨p79_6000, fun _ h => nomatch h⟩⟩⟩

noncomputable def sp79 : Ev.Spec := fun args _ K => match args with
 | ([AV.agg (Blk.any [Ai v0, Ai v1, Fu v2, AV.fsl (Blk.ints .i64 v3), AV.fsl (Blk.ints .i64 v4), Ai v5, Ai v6, Ai v7, Ai v8, Fu v9, Ai va, Fu vb, AV.fsl (Blk.ints .i64 vc), AV.fsl (Blk.ints .i64 vd), Ai ve, Ai vf, Ai vg, Ai vh, Ai vi, Fu vj, Ai vk, Fu vl])]) => vector_spare v0 v1 v2 v3 v4 v5 v6 v7 v8 v9 va vb vc vd ve vf vg vh vi vj vk vl (fun vm => K (Ab vm))
 | _ => none
noncomputable def S79 := addS 79 sp79 S135
theorem D38 : Dom B0 V S79 T154 38 := Dom.s (m := 37) (n := 0) D37 D37 (O := o79) (OrcOk.fn (fn0 := Tryz.f79) (by kernel_rfl) (by kernel_rfl) pc79) fun args R K r h => by
 unfold sp79 at h; split at h
 · rw [vector_spare_unf] at h; exact Eq.trans (by kernel_rfl) h
 · cases h

noncomputable def o136_5400_in {R : Type} (K : Ex → St → Option R) (vs : List AV) (hh : H) : Option R := match vs, hh with
 | [AV.fsl (Blk.ints .i64 v0), AV.fsl (Blk.ints .i64 v1), Ai v2, Ai v3], [] => slices_Equal_int_int_l5 v0 v1 v2 v3 (fun v4 => K (Ex.ret) (St.mk (spread 26 0 [4] [Ab v4]) [])) (fun _ => K (Ex.exit 0) (St.mk (spread 26 0 [] []) []))
 | _, _ => none

noncomputable def o136 : Nat → Option PSpec := lkN [(5400, fun st _ K => pickM 26 [0, 1, 12, 13] st (o136_5400_in K))]
noncomputable def q136 : CallF := evFun (V 136) S79 T154 10

noncomputable def c136_5400 : Code := subC [1, 1, 0, 1, 0, 0] (bodyOf Tryz.f136)

noncomputable def lp136_5400 {R : Type} (N : Nat) (st : St) (K : Ex → St → Option R) : Option R := evLoop (norm ((V 136).keep 136 (Ev.keyOf c136_5400 * 1000 + 400)) 0) (evCode (V 136) q136 o136 136 0 3994 c136_5400) N st (kOut (V 136) 136 0 (Ev.keyOf c136_5400 * 1000 + 401) K)

theorem slices_Equal_int_int_l5_L_eq {R : Type} (K : Ex → St → Option R) : ∀ N : Nat, (fun (v0 v1 : List Int) (v2 v3 : Int) => lp136_5400 N (St.mk (spread 26 0 [0, 1, 12, 13] [AV.fsl (Blk.ints .i64 v0), AV.fsl (Blk.ints .i64 v1), Ai v2, Ai v3]) []) K) = slices_Equal_int_int_l5_L (fun v4 => K (Ex.ret) (St.mk (spread 26 0 [4] [Ab v4]) [])) (fun _ => K (Ex.exit 0) (St.mk (spread 26 0 [] []) [])) N
  | 0 => by funext v0 v1 v2 v3; rfl
  | N + 1 => by
    funext v0 v1 v2 v3
    simp only [slices_Equal_int_int_l5_L]
    rw [← slices_Equal_int_int_l5_L_eq K N]
    kernel_rfl

theorem p136_5400 : PieceOk (V 136) q136 o136 136 0 (3994, 1, c136_5400) := .l (size := 26) (ss := [0, 1, 12, 13]) (F := @o136_5400_in) (by kernel_rfl) (by kernel_rfl) fun R r K vs hh h => by
  unfold o136_5400_in at h; split at h
  · rw [slices_Equal_int_int_l5_unf] at h; unfold slices_Equal_int_int_l5_B at h; rw [← slices_Equal_int_int_l5_L_eq K NR] at h; exact h
  · cases h

theorem pc136 : ∀ x ∈ [(3994, 1, c136_5400)], PieceOk (V 136) q136 o136 136 0 x := List.forall_mem_cons.2 ⟨p136_5400, fun _ h => nomatch h⟩

noncomputable def sp136 : Ev.Spec := fun args _ K => match args with
 | ([AV.fsl (Blk.ints .i64 v0), AV.fsl (Blk.ints .i64 v1)]) => slices_Equal_int_int v0 v1 (fun v2 => K (Ab v2))
 | _ => none
noncomputable def S136 := addS 136 sp136 S79
theorem D39 : Dom B0 V S136 T154 39 := Dom.s (m := 38) (n := 0) D38 D38 (O := o136) (OrcOk.fn (fn0 := Tryz.f136) (by kernel_rfl) (by kernel_rfl) pc136) fun args R K r h => by
 unfold sp136 at h; split at h
 · rw [slices_Equal_int_int_unf] at h; exact Eq.trans (by kernel_rfl) h
 · cases h

noncomputable def sp80 : Ev.Spec := fun args _ K => match args with
 | ([AV.agg (Blk.any [Ai v0, Fu v1, AV.fsl (Blk.ints .i64 v2), AV.fsl (Blk.ints .i64 v3)])]) => plain_Check v0 v1 v2 v3 (fun v4 => K (Ab v4))
 | _ => none
noncomputable def S80 := addS 80 sp80 S136
theorem D40 : Dom B0 V S80 T154 40 := Dom.s (m := 39) (n := 0) D39 D39 (O := (fun _ => none)) (fun _ _ _ _ => OrcOk.none _ _) fun args R K r h => by
 unfold sp80 at h; split at h
 · rw [plain_Check_unf] at h; exact Eq.trans (by kernel_rfl) h
 · cases h

noncomputable def sp172 : Ev.Spec := fun args _ K => match args with
 | ([AV.agg (Blk.any [Ai v0, Ai v1, Ai v2, Fu v3])]) => ints_Check v0 v1 v2 v3 (fun v4 => K (Ab v4))
 | _ => none
noncomputable def S172 := addS 172 sp172 S80
theorem D41 : Dom B0 V S172 T154 41 := Dom.s (m := 40) (n := 0) D40 D40 (O := (fun _ => none)) (fun _ _ _ _ => OrcOk.none _ _) fun args R K r h => by
 unfold sp172 at h; split at h
 · rw [ints_Check_unf] at h; exact Eq.trans (by kernel_rfl) h
 · cases h

noncomputable def o173_6400_in {R : Type} (K : Ex → St → Option R) (vs : List AV) (hh : H) : Option R := match vs, hh with
 | [Ap 0 0, AV.sl 1 0 v0 1, Ai v1, Ai v2], [HA [Ai v3, Ai v4, Ai v5, Fu v6], HU v7] => ints_List_l6 v0 v1 v2 v3 v4 v5 v6 v7 (fun v8 v9 => K (Ex.exit 0) (St.mk (spread 33 0 [3] [AV.sl 0 0 v8 1]) [HU v9]))
 | _, _ => none

noncomputable def o173 : Nat → Option PSpec := lkN [(6400, fun st _ K => pickM 33 [1, 3, 12, 13] st (o173_6400_in K))]
noncomputable def q173 : CallF := evFun (V 173) S172 T154 10

noncomputable def c173_6400 : Code := subC [1, 1, 1, 0, 1, 0, 0] (bodyOf Tryz.f173)

noncomputable def lp173_6400 {R : Type} (N : Nat) (st : St) (K : Ex → St → Option R) : Option R := evLoop (norm ((V 173).keep 173 (Ev.keyOf c173_6400 * 1000 + 400)) 0) (evCode (V 173) q173 o173 173 0 3993 c173_6400) N st (kOut (V 173) 173 0 (Ev.keyOf c173_6400 * 1000 + 401) K)

theorem ints_List_l6_L_eq {R : Type} (K : Ex → St → Option R) : ∀ N : Nat, (fun (v0 : Nat) (v1 v2 v3 v4 v5 : Int) (v6 v7 : List Int) => lp173_6400 N (St.mk (spread 33 0 [1, 3, 12, 13] [Ap 0 0, AV.sl 1 0 v0 1, Ai v1, Ai v2]) [HA [Ai v3, Ai v4, Ai v5, Fu v6], HU v7]) K) = ints_List_l6_L (fun v8 v9 => K (Ex.exit 0) (St.mk (spread 33 0 [3] [AV.sl 0 0 v8 1]) [HU v9])) N
  | 0 => by funext v0 v1 v2 v3 v4 v5 v6 v7; rfl
  | N + 1 => by
    funext v0 v1 v2 v3 v4 v5 v6 v7
    simp only [ints_List_l6_L]
    rw [← ints_List_l6_L_eq K N]
    kernel_rfl

theorem p173_6400 : PieceOk (V 173) q173 o173 173 0 (3993, 1, c173_6400) := .l (size := 33) (ss := [1, 3, 12, 13]) (F := @o173_6400_in) (by kernel_rfl) (by kernel_rfl) fun R r K vs hh h => by
  unfold o173_6400_in at h; split at h
  · rw [ints_List_l6_unf] at h; unfold ints_List_l6_B at h; rw [← ints_List_l6_L_eq K NR] at h; exact h
  · cases h

theorem pc173 : ∀ x ∈ [(3993, 1, c173_6400)], PieceOk (V 173) q173 o173 173 0 x := List.forall_mem_cons.2 ⟨p173_6400, fun _ h => nomatch h⟩

noncomputable def sp173 : Ev.Spec := fun args _ K => match args with
 | ([AV.agg (Blk.any [Ai v0, Ai v1, Ai v2, Fu v3])]) => ints_List v0 v1 v2 v3 (fun v4 => K (Fu v4))
 | _ => none
noncomputable def S173 := addS 173 sp173 S172
theorem D42 : Dom B0 V S173 T154 42 := Dom.s (m := 41) (n := 0) D41 D41 (O := o173) (OrcOk.fn (fn0 := Tryz.f173) (by kernel_rfl) (by kernel_rfl) pc173) fun args R K r h => by
 unfold sp173 at h; split at h
 · rw [ints_List_unf] at h; exact Eq.trans (by kernel_rfl) h
 · cases h

noncomputable def o180_7400_in {R : Type} (K : Ex → St → Option R) (vs : List AV) (hh : H) : Option R := match vs, hh with
 | [Ai v0, Au v1, AV.fsl (Blk.cols [Col.fints .u64 v2] []), Au v3, Ai v4], [] => binom_Block_l7 v0 v1 v2 v3 v4 (fun v5 => K (Ex.exit 0) (St.mk (spread 50 0 [9] [Au v5]) []))
 | _, _ => none

noncomputable def o180_13000_in {R : Type} (K : Ex → St → Option R) (vs : List AV) (hh : H) : Option R := match vs, hh with
 | [Ai v0, Au v1, AV.fsl (Blk.cols [Col.fints .u64 v2] []), Au v3, Ai v4, Au v5], [] => binom_Block_j13 v0 v1 v2 v3 v4 v5 (fun v6 v7 v8 v9 va => K (Ex.normal) (St.mk (spread 50 0 [1, 2, 8, 9, 10] [Ai v6, Au v7, AV.fsl (Blk.cols [Col.fints .u64 v8] []), Au v9, Ai va]) []))
 | _, _ => none

noncomputable def o180 : Nat → Option PSpec := lkN [(7400, fun st _ K => pickM 50 [1, 2, 8, 9, 10] st (o180_7400_in K)), (13000, fun st _ K => pickM 50 [1, 2, 8, 9, 10, 11] st (o180_13000_in K))]
noncomputable def q180 : CallF := evFun (V 180) S173 T154 10

noncomputable def c180_7400 : Code := subC [1, 0, 1, 1, 1, 1, 0, 1, 0, 0] (bodyOf Tryz.f180)

noncomputable def lp180_7400 {R : Type} (N : Nat) (st : St) (K : Ex → St → Option R) : Option R := evLoop (norm ((V 180).keep 180 (Ev.keyOf c180_7400 * 1000 + 400)) 0) (evCode (V 180) q180 o180 180 0 3990 c180_7400) N st (kOut (V 180) 180 0 (Ev.keyOf c180_7400 * 1000 + 401) K)

noncomputable def c180_13000 : Code := subC [1, 0, 1, 1, 1, 1, 0, 1, 0, 0, 1, 0, 0, 1, 1, 1] (bodyOf Tryz.f180)

noncomputable def lp180_7400_3993 {R : Type} (N : Nat) (st : St) (K : Ex → St → Option R) : Option R := evLoop (norm ((V 180).keep 180 (Ev.keyOf c180_7400 * 1000 + 400)) 0) (evCode (V 180) q180 o180 180 0 3993 c180_7400) N st (kOut (V 180) 180 0 (Ev.keyOf c180_7400 * 1000 + 401) K)

theorem binom_Block_l7_L_eq {R : Type} (K : Ex → St → Option R) : ∀ N : Nat, (fun (v0 v1 : Int) (v2 : List (List Int)) (v3 v4 : Int) => lp180_7400 N (St.mk (spread 50 0 [1, 2, 8, 9, 10] [Ai v0, Au v1, AV.fsl (Blk.cols [Col.fints .u64 v2] []), Au v3, Ai v4]) []) K) = binom_Block_l7_L (fun v5 => K (Ex.exit 0) (St.mk (spread 50 0 [9] [Au v5]) [])) N
  | 0 => by funext v0 v1 v2 v3 v4; rfl
  | N + 1 => by
    funext v0 v1 v2 v3 v4
    simp only [binom_Block_l7_L]
    rw [← binom_Block_l7_L_eq K N]
    kernel_rfl

theorem binom_Block_l7_L_eq_3993 {R : Type} (K : Ex → St → Option R) : ∀ N : Nat, (fun (v0 v1 : Int) (v2 : List (List Int)) (v3 v4 : Int) => lp180_7400_3993 N (St.mk (spread 50 0 [1, 2, 8, 9, 10] [Ai v0, Au v1, AV.fsl (Blk.cols [Col.fints .u64 v2] []), Au v3, Ai v4]) []) K) = binom_Block_l7_L (fun v5 => K (Ex.exit 0) (St.mk (spread 50 0 [9] [Au v5]) [])) N
  | 0 => by funext v0 v1 v2 v3 v4; rfl
  | N + 1 => by
    funext v0 v1 v2 v3 v4
    simp only [binom_Block_l7_L]
    rw [← binom_Block_l7_L_eq_3993 K N]
    kernel_rfl

theorem p180_7400 : PieceOk (V 180) q180 o180 180 0 (3990, 1, c180_7400) := .l (size := 50) (ss := [1, 2, 8, 9, 10]) (F := @o180_7400_in) (by kernel_rfl) (by kernel_rfl) fun R r K vs hh h => by
  unfold o180_7400_in at h; split at h
  · rw [binom_Block_l7_unf] at h; unfold binom_Block_l7_B at h; rw [← binom_Block_l7_L_eq K NR] at h; exact h
  · cases h

theorem p180_13000 : PieceOk (V 180) q180 o180 180 0 (3984, 0, c180_13000) := .s (size := 50) (ss := [1, 2, 8, 9, 10, 11]) (F := @o180_13000_in) (by kernel_rfl) fun R r K vs hh h => by
  unfold o180_13000_in at h; split at h
  · rw [binom_Block_j13_unf] at h; exact Eq.trans (by kernel_rfl) h
  · cases h

theorem p180_7400_3993 : PieceOk (V 180) q180 o180 180 0 (3993, 1, c180_7400) := .l (size := 50) (ss := [1, 2, 8, 9, 10]) (F := @o180_7400_in) (by kernel_rfl) (by kernel_rfl) fun R r K vs hh h => by
  unfold o180_7400_in at h; split at h
  · rw [binom_Block_l7_unf] at h; unfold binom_Block_l7_B at h; rw [← binom_Block_l7_L_eq_3993 K NR] at h; exact h
  · cases h

theorem p180_13000_3987 : PieceOk (V 180) q180 o180 180 0 (3987, 0, c180_13000) := .s (size := 50) (ss := [1, 2, 8, 9, 10, 11]) (F := @o180_13000_in) (by kernel_rfl) fun R r K vs hh h => by
  unfold o180_13000_in at h; split at h
  · rw [binom_Block_j13_unf] at h; exact Eq.trans (by kernel_rfl) h
  · cases h

theorem pc180 : ∀ x ∈ [(3990, 1, c180_7400), (3984, 0, c180_13000), (3993, 1, c180_7400), (3987, 0, c180_13000)], PieceOk (V 180) q180 o180 180 0 x := List.forall_mem_cons.2 ⟨p180_7400, List.forall_mem_cons.2 ⟨p180_13000, List.forall_mem_cons.2 ⟨p180_7400_3993, List.forall_mem_cons.2 ⟨p180_13000_3987, fun _ h => nomatch h⟩⟩⟩⟩

noncomputable def sp180 : Ev.Spec := fun args _ K => match args with
 | ([Ai v0, Ai v1, Au v2]) => binom_Block v0 v1 v2 (fun v3 v4 => K (AV.tup [Au v3, Ab v4]))
 | _ => none
noncomputable def S180 := addS 180 sp180 S173
theorem D43 : Dom B0 V S180 T154 43 := Dom.s (m := 42) (n := 0) D42 D42 (O := o180) (OrcOk.fn (fn0 := Tryz.f180) (by kernel_rfl) (by kernel_rfl) pc180) fun args R K r h => by
 unfold sp180 at h; split at h
 · rw [binom_Block_unf] at h; exact Eq.trans (by kernel_rfl) h
 · cases h

noncomputable def o170_3000_in {R : Type} (K : Ex → St → Option R) (vs : List AV) (hh : H) : Option R := match vs, hh with
 | [Ap 0 0, Ap 1 0, Ab v0], [HA [Ai v1, Ai v2, Ai v3, Ai v4, Fu v5, Ai v6, Fu v7, AV.fsl (Blk.ints .i64 v8), AV.fsl (Blk.ints .i64 v9)], HA [Ai va, AV.esl]] => rrr_row_j3 v0 v1 v2 v3 v4 v5 v6 v7 v8 v9 va (fun vb vc => K (Ex.ret) (St.mk (spread 106 0 [2, 3] [Ap 0 0, Ab vb]) [HA [Ai vc, AV.esl]])) (fun vb vc vd ve vf vg vh vi vj vk => K (Ex.normal) (St.mk (spread 106 0 [1, 2] [Ap 0 0, Ap 1 0]) [HA [Ai vb, Ai vc, Ai vd, Ai ve, Fu vf, Ai vg, Fu vh, AV.fsl (Blk.ints .i64 vi), AV.fsl (Blk.ints .i64 vj)], HA [Ai vk, AV.esl]]))
 | _, _ => none

noncomputable def o170_4000_in {R : Type} (K : Ex → St → Option R) (vs : List AV) (hh : H) : Option R := match vs, hh with
 | [Ap 0 0, Ap 1 0], [HA [Ai v0, Ai v1, Ai v2, Ai v3, Fu v4, Ai v5, Fu v6, AV.fsl (Blk.ints .i64 v7), AV.fsl (Blk.ints .i64 v8)], HA [Ai v9, AV.esl]] => rrr_row_j4 v0 v1 v2 v3 v4 v5 v6 v7 v8 v9 (fun va vb => K (Ex.ret) (St.mk (spread 106 0 [2, 3] [Ap 0 0, Ab va]) [HA [Ai vb, AV.esl]])) (fun va vb vc => K (Ex.ret) (St.mk (spread 106 0 [2, 3] [Ap 0 0, Ab va]) [HA [Ai vb, Fu vc]]))
 | _, _ => none

noncomputable def o170_7400_in {R : Type} (K : Ex → St → Option R) (vs : List AV) (hh : H) : Option R := match vs, hh with
 | [Ap 0 0, Ap 1 0, Ap 2 0, Ai v0, Fu v1, Ai v2, Ai v3], [HA [Ai v4, Ai v5, Ai v6, Ai v7, Fu v8, Ai v9, Fu va, AV.fsl (Blk.ints .i64 vb), AV.fsl (Blk.ints .i64 vc)], HA [Ai vd, AV.esl], HA [Ai ve, Fu vf]] => rrr_row_l7 v0 v1 v2 v3 v4 v5 v6 v7 v8 v9 va vb vc vd ve vf (fun vg vh => K (Ex.ret) (St.mk (spread 106 0 [2, 3] [Ap 0 0, Ab vg]) [HA [Ai vh, AV.esl]])) (fun vg vh vi => K (Ex.exit 0) (St.mk (spread 106 0 [2, 4] [Ap 0 0, Ap 1 0]) [HA [Ai vg, AV.esl], HA [Ai vh, Fu vi]]))
 | _, _ => none

noncomputable def o170_16000_in {R : Type} (K : Ex → St → Option R) (vs : List AV) (hh : H) : Option R := match vs, hh with
 | [Ap 0 0, Ap 1 0, Ap 2 0, Ai v0, Ai v1, Au v2, Ai v3, Fu v4, Ai v5, Ai v6, Ab v7], [HA [Ai v8, Ai v9, Ai va, Ai vb, Fu vc, Ai vd, Fu ve, AV.fsl (Blk.ints .i64 vf), AV.fsl (Blk.ints .i64 vg)], HA [Ai vh, AV.esl], HA [Ai vi, Fu vj]] => rrr_row_j16 v0 v1 v2 v3 v4 v5 v6 v7 v8 v9 va vb vc vd ve vf vg vh vi vj (fun vk vl => K (Ex.ret) (St.mk (spread 106 0 [2, 3] [Ap 0 0, Ab vk]) [HA [Ai vl, AV.esl]])) (fun vk vl vm vn vo vp vq vr vs vt vu vv vw vx vy vz v10 v11 v12 => K (Ex.normal) (St.mk (spread 106 0 [1, 2, 4, 5, 8, 11, 13, 48, 49, 50] [Ap 0 0, Ap 1 0, Ap 2 0, Ai vk, Ai vl, Au vm, Ai vn, Fu vo, Ai vp, Ai vq]) [HA [Ai vr, Ai vs, Ai vt, Ai vu, Fu vv, Ai vw, Fu vx, AV.fsl (Blk.ints .i64 vy), AV.fsl (Blk.ints .i64 vz)], HA [Ai v10, AV.esl], HA [Ai v11, Fu v12]]))
 | _, _ => none

noncomputable def o170_17000_in {R : Type} (K : Ex → St → Option R) (vs : List AV) (hh : H) : Option R := match vs, hh with
 | [Ap 0 0, Ap 1 0, Ap 2 0, Ai v0, Ai v1, Au v2, Ai v3, Fu v4, Ai v5, Ai v6], [HA [Ai v7, Ai v8, Ai v9, Ai va, Fu vb, Ai vc, Fu vd, AV.fsl (Blk.ints .i64 ve), AV.fsl (Blk.ints .i64 vf)], HA [Ai vg, AV.esl], HA [Ai vh, Fu vi]] => rrr_row_j17 v0 v1 v2 v3 v4 v5 v6 v7 v8 v9 va vb vc vd ve vf vg vh vi (fun vj vk vl vm vn vo vp vq vr vs vt vu vv vw vx vy => K (Ex.normal) (St.mk (spread 106 0 [1, 2, 4, 5, 48, 49, 50] [Ap 0 0, Ap 1 0, Ap 2 0, Ai vj, Fu vk, Ai vl, Ai vm]) [HA [Ai vn, Ai vo, Ai vp, Ai vq, Fu vr, Ai vs, Fu vt, AV.fsl (Blk.ints .i64 vu), AV.fsl (Blk.ints .i64 vv)], HA [Ai vw, AV.esl], HA [Ai vx, Fu vy]]))
 | _, _ => none

noncomputable def o170 : Nat → Option PSpec := lkN [(3000, fun st _ K => pickM 106 [1, 2, 44] st (o170_3000_in K)), (4000, fun st _ K => pickM 106 [1, 2] st (o170_4000_in K)), (7400, fun st _ K => pickM 106 [1, 2, 4, 5, 48, 49, 50] st (o170_7400_in K)), (16000, fun st _ K => pickM 106 [1, 2, 4, 5, 8, 11, 13, 48, 49, 50, 92] st (o170_16000_in K)), (17000, fun st _ K => pickM 106 [1, 2, 4, 5, 8, 11, 13, 48, 49, 50] st (o170_17000_in K))]
noncomputable def q170 : CallF := evFun (V 170) S180 T154 10

noncomputable def c170_4000 : Code := subC [1, 1] (bodyOf Tryz.f170)

noncomputable def c170_3000 : Code := subC [1, 0, 1] (bodyOf Tryz.f170)

noncomputable def c170_7400 : Code := subC [1, 1, 1, 1, 0, 1, 0, 0] (bodyOf Tryz.f170)

noncomputable def lp170_7400 {R : Type} (N : Nat) (st : St) (K : Ex → St → Option R) : Option R := evLoop (norm ((V 170).keep 170 (Ev.keyOf c170_7400 * 1000 + 400)) 0) (evCode (V 170) q170 o170 170 0 3992 c170_7400) N st (kOut (V 170) 170 0 (Ev.keyOf c170_7400 * 1000 + 401) K)

noncomputable def c170_17000 : Code := subC [1, 1, 1, 1, 0, 1, 0, 0, 1, 1, 0, 0, 1, 1, 1, 1, 1, 1, 1] (bodyOf Tryz.f170)

noncomputable def c170_16000 : Code := subC [1, 1, 1, 1, 0, 1, 0, 0, 1, 1, 0, 0, 1, 1, 1, 1, 1, 1, 0, 1] (bodyOf Tryz.f170)

theorem rrr_row_l7_L_eq {R : Type} (K : Ex → St → Option R) : ∀ N : Nat, (fun (v0 : Int) (v1 : List Int) (v2 v3 v4 v5 v6 v7 : Int) (v8 : List Int) (v9 : Int) (va vb vc : List Int) (vd ve : Int) (vf : List Int) => lp170_7400 N (St.mk (spread 106 0 [1, 2, 4, 5, 48, 49, 50] [Ap 0 0, Ap 1 0, Ap 2 0, Ai v0, Fu v1, Ai v2, Ai v3]) [HA [Ai v4, Ai v5, Ai v6, Ai v7, Fu v8, Ai v9, Fu va, AV.fsl (Blk.ints .i64 vb), AV.fsl (Blk.ints .i64 vc)], HA [Ai vd, AV.esl], HA [Ai ve, Fu vf]]) K) = rrr_row_l7_L (fun vg vh => K (Ex.ret) (St.mk (spread 106 0 [2, 3] [Ap 0 0, Ab vg]) [HA [Ai vh, AV.esl]])) (fun vg vh vi => K (Ex.exit 0) (St.mk (spread 106 0 [2, 4] [Ap 0 0, Ap 1 0]) [HA [Ai vg, AV.esl], HA [Ai vh, Fu vi]])) N
  | 0 => by funext v0 v1 v2 v3 v4 v5 v6 v7 v8 v9 va vb vc vd ve vf; rfl
  | N + 1 => by
    funext v0 v1 v2 v3 v4 v5 v6 v7 v8 v9 va vb vc vd ve vf
    simp only [rrr_row_l7_L]
    rw [← rrr_row_l7_L_eq K N]
    kernel_rfl

theorem p170_4000 : PieceOk (V 170) q170 o170 170 0 (3998, 0, c170_4000) := .s (size := 106) (ss := [1, 2]) (F := @o170_4000_in) (by kernel_rfl) fun R r K vs hh h => by
  unfold o170_4000_in at h; split at h
  · rw [rrr_row_j4_unf] at h; exact Eq.trans (by kernel_rfl) h
  · cases h

theorem p170_3000 : PieceOk (V 170) q170 o170 170 0 (3997, 0, c170_3000) := .s (size := 106) (ss := [1, 2, 44]) (F := @o170_3000_in) (by kernel_rfl) fun R r K vs hh h => by
  unfold o170_3000_in at h; split at h
  · rw [rrr_row_j3_unf] at h; exact Eq.trans (by kernel_rfl) h
  · cases h

theorem p170_7400 : PieceOk (V 170) q170 o170 170 0 (3992, 1, c170_7400) := .l (size := 106) (ss := [1, 2, 4, 5, 48, 49, 50]) (F := @o170_7400_in) (by kernel_rfl) (by kernel_rfl) fun R r K vs hh h => by
  unfold o170_7400_in at h; split at h
  · rw [rrr_row_l7_unf] at h; unfold rrr_row_l7_B at h; rw [← rrr_row_l7_L_eq K NR] at h; exact h
  · cases h

theorem p170_17000 : PieceOk (V 170) q170 o170 170 0 (3981, 0, c170_17000) := .s (size := 106) (ss := [1, 2, 4, 5, 8, 11, 13, 48, 49, 50]) (F := @o170_17000_in) (by kernel_rfl) fun R r K vs hh h => by
  unfold o170_17000_in at h; split at h
  · rw [rrr_row_j17_unf] at h; exact Eq.trans (by kernel_rfl) h
  · cases h

theorem p170_16000 : PieceOk (V 170) q170 o170 170 0 (3980, 0, c170_16000) := .s (size := 106) (ss := [1, 2, 4, 5, 8, 11, 13, 48, 49, 50, 92]) (F := @o170_16000_in) (by kernel_rfl) fun R r K vs hh h => by
  unfold o170_16000_in at h; split at h
  · rw [rrr_row_j16_unf] at h; exact Eq.trans (by kernel_rfl) h
  · cases h

theorem pc170 : ∀ x ∈ [(3998, 0, c170_4000), (3997, 0, c170_3000), (3992, 1, c170_7400), (3981, 0, c170_17000), (3980, 0, c170_16000)], PieceOk (V 170) q170 o170 170 0 x := List.forall_mem_cons.2 ⟨p170_4000, List.forall_mem_cons.2 ⟨p170_3000, List.forall_mem_cons.2 ⟨p170_7400, List.forall_mem_cons.2 ⟨p170_17000, List.forall_mem_cons.2 ⟨p170_16000, fun _ h => nomatch h⟩⟩⟩⟩⟩

theorem rrr_row_eq {R : Type} (K : AV → Option R) (v0 v1 v2 v3 : Int) (v4 : List Int) (v5 : Int) (v6 v7 v8 : List Int) : evSpec (V 170) S180 T154 o170 10 170 ([AV.agg (Blk.any [Ai v0, Ai v1, Ai v2, Ai v3, Fu v4, Ai v5, Fu v6, AV.fsl (Blk.ints .i64 v7), AV.fsl (Blk.ints .i64 v8)])]) R K = rrr_row_B v0 v1 v2 v3 v4 v5 v6 v7 v8 (fun v9 va vb => K (AV.tup [AV.agg (Blk.any [Ai v9, Fu va]), Ab vb])) := by kernel_rfl

noncomputable def sp170 : Ev.Spec := fun args _ K => match args with
 | ([AV.agg (Blk.any [Ai v0, Ai v1, Ai v2, Ai v3, Fu v4, Ai v5, Fu v6, AV.fsl (Blk.ints .i64 v7), AV.fsl (Blk.ints .i64 v8)])]) => rrr_row v0 v1 v2 v3 v4 v5 v6 v7 v8 (fun v9 va vb => K (AV.tup [AV.agg (Blk.any [Ai v9, Fu va]), Ab vb]))
 | _ => none
noncomputable def S170 := addS 170 sp170 S180
theorem D44 : Dom B0 V S170 T154 44 := Dom.s (m := 43) (n := 0) D43 D43 (O := o170) (OrcOk.fn (fn0 := Tryz.f170) (by kernel_rfl) (by kernel_rfl) pc170) fun args R K r h => by
 unfold sp170 at h; split at h
 · rw [rrr_row_unf] at h; exact (rrr_row_eq K _ _ _ _ _ _ _ _ _).trans h
 · cases h

noncomputable def o175_5400_in {R : Type} (K : Ex → St → Option R) (vs : List AV) (hh : H) : Option R := match vs, hh with
 | [Fu v0, Fu v1, Ai v2, Ai v3], [] => slices_Equal_uint64_uint64_l5 v0 v1 v2 v3 (fun v4 => K (Ex.ret) (St.mk (spread 26 0 [4] [Ab v4]) [])) (fun _ => K (Ex.exit 0) (St.mk (spread 26 0 [] []) []))
 | _, _ => none

noncomputable def o175 : Nat → Option PSpec := lkN [(5400, fun st _ K => pickM 26 [0, 1, 12, 13] st (o175_5400_in K))]
noncomputable def q175 : CallF := evFun (V 175) S170 T154 10

noncomputable def c175_5400 : Code := subC [1, 1, 0, 1, 0, 0] (bodyOf Tryz.f175)

noncomputable def lp175_5400 {R : Type} (N : Nat) (st : St) (K : Ex → St → Option R) : Option R := evLoop (norm ((V 175).keep 175 (Ev.keyOf c175_5400 * 1000 + 400)) 0) (evCode (V 175) q175 o175 175 0 3994 c175_5400) N st (kOut (V 175) 175 0 (Ev.keyOf c175_5400 * 1000 + 401) K)

theorem slices_Equal_uint64_uint64_l5_L_eq {R : Type} (K : Ex → St → Option R) : ∀ N : Nat, (fun (v0 v1 : List Int) (v2 v3 : Int) => lp175_5400 N (St.mk (spread 26 0 [0, 1, 12, 13] [Fu v0, Fu v1, Ai v2, Ai v3]) []) K) = slices_Equal_uint64_uint64_l5_L (fun v4 => K (Ex.ret) (St.mk (spread 26 0 [4] [Ab v4]) [])) (fun _ => K (Ex.exit 0) (St.mk (spread 26 0 [] []) [])) N
  | 0 => by funext v0 v1 v2 v3; rfl
  | N + 1 => by
    funext v0 v1 v2 v3
    simp only [slices_Equal_uint64_uint64_l5_L]
    rw [← slices_Equal_uint64_uint64_l5_L_eq K N]
    kernel_rfl

theorem p175_5400 : PieceOk (V 175) q175 o175 175 0 (3994, 1, c175_5400) := .l (size := 26) (ss := [0, 1, 12, 13]) (F := @o175_5400_in) (by kernel_rfl) (by kernel_rfl) fun R r K vs hh h => by
  unfold o175_5400_in at h; split at h
  · rw [slices_Equal_uint64_uint64_l5_unf] at h; unfold slices_Equal_uint64_uint64_l5_B at h; rw [← slices_Equal_uint64_uint64_l5_L_eq K NR] at h; exact h
  · cases h

theorem pc175 : ∀ x ∈ [(3994, 1, c175_5400)], PieceOk (V 175) q175 o175 175 0 x := List.forall_mem_cons.2 ⟨p175_5400, fun _ h => nomatch h⟩

noncomputable def sp175 : Ev.Spec := fun args _ K => match args with
 | ([Fu v0, Fu v1]) => slices_Equal_uint64_uint64 v0 v1 (fun v2 => K (Ab v2))
 | _ => none
noncomputable def S175 := addS 175 sp175 S170
theorem D45 : Dom B0 V S175 T154 45 := Dom.s (m := 44) (n := 0) D44 D44 (O := o175) (OrcOk.fn (fn0 := Tryz.f175) (by kernel_rfl) (by kernel_rfl) pc175) fun args R K r h => by
 unfold sp175 at h; split at h
 · rw [slices_Equal_uint64_uint64_unf] at h; exact Eq.trans (by kernel_rfl) h
 · cases h

noncomputable def o171_3000_in {R : Type} (K : Ex → St → Option R) (vs : List AV) (hh : H) : Option R := match vs, hh with
 | [Ap 0 0, Ap 1 0, Ab v0], [HA [Ai v1, Ai v2, Ai v3, Ai v4, Fu v5, Ai v6, Fu v7, AV.fsl (Blk.ints .i64 v8), AV.fsl (Blk.ints .i64 v9)], HA [Ai va, Ai vb, Ai vc, Ai vd, Fu ve, Ai vf, Fu vg, AV.fsl (Blk.ints .i64 vh), AV.fsl (Blk.ints .i64 vi)]] => rrr_same_j3 v0 v1 v2 v3 v4 v5 v6 v7 v8 v9 va vb vc vd ve vf vg vh vi (fun vj => K (Ex.ret) (St.mk (spread 86 0 [4] [Ab vj]) []))
 | _, _ => none

noncomputable def o171_4000_in {R : Type} (K : Ex → St → Option R) (vs : List AV) (hh : H) : Option R := match vs, hh with
 | [Ap 0 0, Ap 1 0, Ab v0, Ab v1], [HA [Ai v2, Ai v3, Ai v4, Ai v5, Fu v6, Ai v7, Fu v8, AV.fsl (Blk.ints .i64 v9), AV.fsl (Blk.ints .i64 va)], HA [Ai vb, Ai vc, Ai vd, Ai ve, Fu vf, Ai vg, Fu vh, AV.fsl (Blk.ints .i64 vi), AV.fsl (Blk.ints .i64 vj)]] => rrr_same_j4 v0 v1 v2 v3 v4 v5 v6 v7 v8 v9 va vb vc vd ve vf vg vh vi vj (fun vk => K (Ex.ret) (St.mk (spread 86 0 [4] [Ab vk]) []))
 | _, _ => none

noncomputable def o171 : Nat → Option PSpec := lkN [(3000, fun st _ K => pickM 86 [2, 3, 5] st (o171_3000_in K)), (4000, fun st _ K => pickM 86 [2, 3, 5, 6] st (o171_4000_in K))]
noncomputable def q171 : CallF := evFun (V 171) S175 T154 10

noncomputable def c171_3000 : Code := subC [1, 1] (bodyOf Tryz.f171)

noncomputable def c171_4000 : Code := subC [1, 1, 1] (bodyOf Tryz.f171)

theorem p171_3000 : PieceOk (V 171) q171 o171 171 0 (3998, 0, c171_3000) := .s (size := 86) (ss := [2, 3, 5]) (F := @o171_3000_in) (by kernel_rfl) fun R r K vs hh h => by
  unfold o171_3000_in at h; split at h
  · rw [rrr_same_j3_unf] at h; exact Eq.trans (by kernel_rfl) h
  · cases h

theorem p171_4000 : PieceOk (V 171) q171 o171 171 0 (3997, 0, c171_4000) := .s (size := 86) (ss := [2, 3, 5, 6]) (F := @o171_4000_in) (by kernel_rfl) fun R r K vs hh h => by
  unfold o171_4000_in at h; split at h
  · rw [rrr_same_j4_unf] at h; exact Eq.trans (by kernel_rfl) h
  · cases h

theorem pc171 : ∀ x ∈ [(3998, 0, c171_3000), (3997, 0, c171_4000)], PieceOk (V 171) q171 o171 171 0 x := List.forall_mem_cons.2 ⟨p171_3000, List.forall_mem_cons.2 ⟨p171_4000, fun _ h => nomatch h⟩⟩

noncomputable def sp171 : Ev.Spec := fun args _ K => match args with
 | ([AV.agg (Blk.any [Ai v0, Ai v1, Ai v2, Ai v3, Fu v4, Ai v5, Fu v6, AV.fsl (Blk.ints .i64 v7), AV.fsl (Blk.ints .i64 v8)]), AV.agg (Blk.any [Ai v9, Ai va, Ai vb, Ai vc, Fu vd, Ai ve, Fu vf, AV.fsl (Blk.ints .i64 vg), AV.fsl (Blk.ints .i64 vh)])]) => rrr_same v0 v1 v2 v3 v4 v5 v6 v7 v8 v9 va vb vc vd ve vf vg vh (fun vi => K (Ab vi))
 | _ => none
noncomputable def S171 := addS 171 sp171 S175
theorem D46 : Dom B0 V S171 T154 46 := Dom.s (m := 45) (n := 0) D45 D45 (O := o171) (OrcOk.fn (fn0 := Tryz.f171) (by kernel_rfl) (by kernel_rfl) pc171) fun args R K r h => by
 unfold sp171 at h; split at h
 · rw [rrr_same_unf] at h; exact Eq.trans (by kernel_rfl) h
 · cases h

noncomputable def sp137 : Ev.Spec := fun args _ K => match args with
 | ([AV.agg (Blk.any [Ai v0, Ai v1, Ai v2, Ai v3, Fu v4, Ai v5, Fu v6, AV.fsl (Blk.ints .i64 v7), AV.fsl (Blk.ints .i64 v8)])]) => rrr_whole v0 v1 v2 v3 v4 v5 v6 v7 v8 (fun v9 va vb => K (AV.tup [AV.agg (Blk.any [Ai v9, Fu va]), Ab vb]))
 | _ => none
noncomputable def S137 := addS 137 sp137 S171
theorem D47 : Dom B0 V S137 T154 47 := Dom.s (m := 46) (n := 0) D46 D46 (O := (fun _ => none)) (fun _ _ _ _ => OrcOk.none _ _) fun args R K r h => by
 unfold sp137 at h; split at h
 · rw [rrr_whole_unf] at h; exact Eq.trans (by kernel_rfl) h
 · cases h

noncomputable def sp81 : Ev.Spec := fun args _ K => match args with
 | ([AV.agg (Blk.any [Ai v0, Ai v1, Ai v2, Ai v3, Fu v4, Ai v5, Fu v6, AV.fsl (Blk.ints .i64 v7), AV.fsl (Blk.ints .i64 v8)])]) => rrr_Check v0 v1 v2 v3 v4 v5 v6 v7 v8 (fun v9 => K (Ab v9))
 | _ => none
noncomputable def S81 := addS 81 sp81 S137
theorem D48 : Dom B0 V S81 T154 48 := Dom.s (m := 47) (n := 0) D47 D47 (O := (fun _ => none)) (fun _ _ _ _ => OrcOk.none _ _) fun args R K r h => by
 unfold sp81 at h; split at h
 · rw [rrr_Check_unf] at h; exact Eq.trans (by kernel_rfl) h
 · cases h

noncomputable def o138_3000_in {R : Type} (K : Ex → St → Option R) (vs : List AV) (hh : H) : Option R := match vs, hh with
 | [Ap 0 0, Ap 1 0, Ab v0], [HA [Ai v1, Ai v2, Ai v3, Ai v4, Ai v5, Fu v6, Ai v7, Fu v8], HA [Ai v9, AV.esl]] => fano_row_j3 v0 v1 v2 v3 v4 v5 v6 v7 v8 v9 (fun va vb => K (Ex.ret) (St.mk (spread 136 0 [2, 3] [Ap 0 0, Ab va]) [HA [Ai vb, AV.esl]])) (fun va vb vc vd ve vf vg vh vi => K (Ex.normal) (St.mk (spread 136 0 [1, 2] [Ap 0 0, Ap 1 0]) [HA [Ai va, Ai vb, Ai vc, Ai vd, Ai ve, Fu vf, Ai vg, Fu vh], HA [Ai vi, AV.esl]]))
 | _, _ => none

noncomputable def o138_4000_in {R : Type} (K : Ex → St → Option R) (vs : List AV) (hh : H) : Option R := match vs, hh with
 | [Ap 0 0, Ap 1 0], [HA [Ai v0, Ai v1, Ai v2, Ai v3, Ai v4, Fu v5, Ai v6, Fu v7], HA [Ai v8, AV.esl]] => fano_row_j4 v0 v1 v2 v3 v4 v5 v6 v7 v8 (fun v9 va => K (Ex.ret) (St.mk (spread 136 0 [2, 3] [Ap 0 0, Ab v9]) [HA [Ai va, AV.esl]])) (fun v9 va vb => K (Ex.ret) (St.mk (spread 136 0 [2, 3] [Ap 0 0, Ab v9]) [HA [Ai va, Fu vb]]))
 | _, _ => none

noncomputable def o138_7000_in {R : Type} (K : Ex → St → Option R) (vs : List AV) (hh : H) : Option R := match vs, hh with
 | [Ap 0 0, Ap 1 0, Ap 2 0, Ap 3 0, Ap 4 0], [HA [Ai v0, Ai v1, Ai v2, Ai v3, Ai v4, Fu v5, Ai v6, Fu v7], HA [Ai v8, AV.esl], HA [Ai v9], HA [Fu va], HA [AV.sl 5 0 vb 1], HO vc] => fano_row_j7 v0 v1 v2 v3 v4 v5 v6 v7 v8 v9 va vb vc (fun vd ve => K (Ex.ret) (St.mk (spread 136 0 [2, 3] [Ap 0 0, Ab vd]) [HA [Ai ve, AV.esl]])) (fun vd ve vf => K (Ex.ret) (St.mk (spread 136 0 [2, 3] [Ap 0 0, Ab vd]) [HA [Ai ve, Fu vf]]))
 | _, _ => none

noncomputable def o138_15000_in {R : Type} (K : Ex → St → Option R) (vs : List AV) (hh : H) : Option R := match vs, hh with
 | [Ap 0 0, Ap 1 0, Ai v0, Ab v1], [HA [Ai v2, AV.esl], HA [Ai v3, Fu v4]] => fano_row_j15 v0 v1 v2 v3 v4 (fun v5 v6 => K (Ex.ret) (St.mk (spread 136 0 [2, 3] [Ap 0 0, Ab v5]) [HA [Ai v6, AV.esl]])) (fun v5 v6 v7 => K (Ex.ret) (St.mk (spread 136 0 [2, 3] [Ap 0 0, Ab v5]) [HA [Ai v6, Fu v7]]))
 | _, _ => none

noncomputable def o138_16000_in {R : Type} (K : Ex → St → Option R) (vs : List AV) (hh : H) : Option R := match vs, hh with
 | [Ap 0 0, Ap 1 0, Ab v0], [HA [Ai v1, AV.esl], HA [Ai v2, Fu v3]] => fano_row_j16 v0 v1 v2 v3 (fun v4 v5 => K (Ex.ret) (St.mk (spread 136 0 [2, 3] [Ap 0 0, Ab v4]) [HA [Ai v5, AV.esl]])) (fun v4 v5 v6 => K (Ex.normal) (St.mk (spread 136 0 [2, 9] [Ap 0 0, Ap 1 0]) [HA [Ai v4, AV.esl], HA [Ai v5, Fu v6]]))
 | _, _ => none

noncomputable def o138 : Nat → Option PSpec := lkN [(3000, fun st _ K => pickM 136 [1, 2, 45] st (o138_3000_in K)), (4000, fun st _ K => pickM 136 [1, 2] st (o138_4000_in K)), (7000, fun st _ K => pickM 136 [1, 2, 4, 5, 6] st (o138_7000_in K)), (15000, fun st _ K => pickM 136 [2, 9, 12, 13] st (o138_15000_in K)), (16000, fun st _ K => pickM 136 [2, 9, 133] st (o138_16000_in K))]
noncomputable def q138 : CallF := evFun (V 138) S81 T154 10

noncomputable def c138_4000 : Code := subC [1, 1] (bodyOf Tryz.f138)

noncomputable def c138_3000 : Code := subC [1, 0, 1] (bodyOf Tryz.f138)

noncomputable def c138_7000 : Code := subC [1, 1, 1, 1, 1] (bodyOf Tryz.f138)

noncomputable def c138_15000 : Code := subC [1, 1, 1, 1, 1, 1, 1, 1, 1, 1, 1, 1] (bodyOf Tryz.f138)

noncomputable def c138_16000 : Code := subC [1, 1, 1, 1, 1, 1, 1, 1, 1, 1, 1, 1, 0, 1] (bodyOf Tryz.f138)

theorem fano_row_j7_eq {R : Type} (K : Ex → St → Option R) (v0 v1 v2 v3 v4 : Int) (v5 : List Int) (v6 : Int) (v7 : List Int) (v8 v9 : Int) (va : List Int) (vb : Nat) (vc : List Bool) : evCode (V 138) q138 o138 138 0 3995 c138_7000 (St.mk (spread 136 0 [1, 2, 4, 5, 6] [Ap 0 0, Ap 1 0, Ap 2 0, Ap 3 0, Ap 4 0]) [HA [Ai v0, Ai v1, Ai v2, Ai v3, Ai v4, Fu v5, Ai v6, Fu v7], HA [Ai v8, AV.esl], HA [Ai v9], HA [Fu va], HA [AV.sl 5 0 vb 1], HO vc]) (kOut (V 138) 138 0 (Ev.keyOf c138_7000 * 1000 + 1) K) = fano_row_j7_B v0 v1 v2 v3 v4 v5 v6 v7 v8 v9 va vb vc (fun vd ve => K (Ex.ret) (St.mk (spread 136 0 [2, 3] [Ap 0 0, Ab vd]) [HA [Ai ve, AV.esl]])) (fun vd ve vf => K (Ex.ret) (St.mk (spread 136 0 [2, 3] [Ap 0 0, Ab vd]) [HA [Ai ve, Fu vf]])) := by kernel_rfl

theorem p138_4000 : PieceOk (V 138) q138 o138 138 0 (3998, 0, c138_4000) := .s (size := 136) (ss := [1, 2]) (F := @o138_4000_in) (by kernel_rfl) fun R r K vs hh h => by
  unfold o138_4000_in at h; split at h
  · rw [fano_row_j4_unf] at h; exact Eq.trans (by kernel_rfl) h
  · cases h

theorem p138_3000 : PieceOk (V 138) q138 o138 138 0 (3997, 0, c138_3000) := .s (size := 136) (ss := [1, 2, 45]) (F := @o138_3000_in) (by kernel_rfl) fun R r K vs hh h => by
  unfold o138_3000_in at h; split at h
  · rw [fano_row_j3_unf] at h; exact Eq.trans (by kernel_rfl) h
  · cases h

theorem p138_7000 : PieceOk (V 138) q138 o138 138 0 (3995, 0, c138_7000) := .s (size := 136) (ss := [1, 2, 4, 5, 6]) (F := @o138_7000_in) (by kernel_rfl) fun R r K vs hh h => by
  unfold o138_7000_in at h; split at h
  · rw [fano_row_j7_unf] at h; exact (fano_row_j7_eq K _ _ _ _ _ _ _ _ _ _ _ _ _).trans h
  · cases h

theorem p138_15000 : PieceOk (V 138) q138 o138 138 0 (3988, 0, c138_15000) := .s (size := 136) (ss := [2, 9, 12, 13]) (F := @o138_15000_in) (by kernel_rfl) fun R r K vs hh h => by
  unfold o138_15000_in at h; split at h
  · rw [fano_row_j15_unf] at h; exact Eq.trans (by kernel_rfl) h
  · cases h

theorem p138_16000 : PieceOk (V 138) q138 o138 138 0 (3986, 0, c138_16000) := .s (size := 136) (ss := [2, 9, 133]) (F := @o138_16000_in) (by kernel_rfl) fun R r K vs hh h => by
  unfold o138_16000_in at h; split at h
  · rw [fano_row_j16_unf] at h; exact Eq.trans (by kernel_rfl) h
  · cases h

theorem pc138 : ∀ x ∈ [(3998, 0, c138_4000), (3997, 0, c138_3000), (3995, 0, c138_7000), (3988, 0, c138_15000), (3986, 0, c138_16000)], PieceOk (V 138) q138 o138 138 0 x := List.forall_mem_cons.2 ⟨p138_4000, List.forall_mem_cons.2 ⟨p138_3000, List.forall_mem_cons.2 ⟨p138_7000, List.forall_mem_cons.2 ⟨p138_15000, List.forall_mem_cons.2 ⟨p138_16000, fun _ h => nomatch h⟩⟩⟩⟩⟩

theorem fano_row_eq {R : Type} (K : AV → Option R) (v0 v1 v2 v3 v4 : Int) (v5 : List Int) (v6 : Int) (v7 : List Int) : evSpec (V 138) S81 T154 o138 10 138 ([AV.agg (Blk.any [Ai v0, Ai v1, Ai v2, Ai v3, Ai v4, Fu v5, Ai v6, Fu v7])]) R K = fano_row_B v0 v1 v2 v3 v4 v5 v6 v7 (fun v8 v9 va => K (AV.tup [AV.agg (Blk.any [Ai v8, Fu v9]), Ab va])) := by kernel_rfl

noncomputable def sp138 : Ev.Spec := fun args _ K => match args with
 | ([AV.agg (Blk.any [Ai v0, Ai v1, Ai v2, Ai v3, Ai v4, Fu v5, Ai v6, Fu v7])]) => fano_row v0 v1 v2 v3 v4 v5 v6 v7 (fun v8 v9 va => K (AV.tup [AV.agg (Blk.any [Ai v8, Fu v9]), Ab va]))
 | _ => none
noncomputable def S138 := addS 138 sp138 S81
theorem D49 : Dom B0 V S138 T154 49 := Dom.s (m := 48) (n := 0) D48 D48 (O := o138) (OrcOk.fn (fn0 := Tryz.f138) (by kernel_rfl) (by kernel_rfl) pc138) fun args R K r h => by
 unfold sp138 at h; split at h
 · rw [fano_row_unf] at h; exact (fano_row_eq K _ _ _ _ _ _ _ _).trans h
 · cases h

noncomputable def sp82 : Ev.Spec := fun args _ K => match args with
 | ([AV.agg (Blk.any [Ai v0, Ai v1, Ai v2, Ai v3, Ai v4, Fu v5, Ai v6, Fu v7])]) => fano_Check v0 v1 v2 v3 v4 v5 v6 v7 (fun v8 => K (Ab v8))
 | _ => none
noncomputable def S82 := addS 82 sp82 S138
theorem D50 : Dom B0 V S82 T154 50 := Dom.s (m := 49) (n := 0) D49 D49 (O := (fun _ => none)) (fun _ _ _ _ => OrcOk.none _ _) fun args R K r h => by
 unfold sp82 at h; split at h
 · rw [fano_Check_unf] at h; exact Eq.trans (by kernel_rfl) h
 · cases h

noncomputable def sp26 : Ev.Spec := fun args _ K => match args with
 | ([AV.agg (Blk.any [Ai v0, Ai v1, Fu v2, AV.fsl (Blk.ints .i64 v3), AV.fsl (Blk.ints .i64 v4), Ai v5, Ai v6, Ai v7, Ai v8, Fu v9, Ai va, Fu vb, AV.fsl (Blk.ints .i64 vc), AV.fsl (Blk.ints .i64 vd), Ai ve, Ai vf, Ai vg, Ai vh, Ai vi, Fu vj, Ai vk, Fu vl])]) => vector_Check v0 v1 v2 v3 v4 v5 v6 v7 v8 v9 va vb vc vd ve vf vg vh vi vj vk vl (fun vm => K (Ab vm))
 | _ => none
noncomputable def S26 := addS 26 sp26 S82
theorem D51 : Dom B0 V S26 T154 51 := Dom.s (m := 50) (n := 0) D50 D50 (O := (fun _ => none)) (fun _ _ _ _ => OrcOk.none _ _) fun args R K r h => by
 unfold sp26 at h; split at h
 · rw [vector_Check_unf] at h; exact Eq.trans (by kernel_rfl) h
 · cases h

noncomputable def o111_6000_in {R : Type} (K : Ex → St → Option R) (vs : List AV) (hh : H) : Option R := match vs, hh with
 | [Ai v0, Ap 0 0], [HA [Ai v1, Fu v2]] => bits_Get_j6 v0 v1 v2 (fun v3 v4 => K (Ex.ret) (St.mk (spread 30 0 [4, 5] [Ab v3, Ai v4]) []))
 | _, _ => none

noncomputable def o111 : Nat → Option PSpec := lkN [(6000, fun st _ K => pickM 30 [1, 2] st (o111_6000_in K))]
noncomputable def q111 : CallF := evFun (V 111) S26 T154 10

noncomputable def c111_6000 : Code := subC [1, 1] (bodyOf Tryz.f111)

theorem p111_6000 : PieceOk (V 111) q111 o111 111 0 (3998, 0, c111_6000) := .s (size := 30) (ss := [1, 2]) (F := @o111_6000_in) (by kernel_rfl) fun R r K vs hh h => by
  unfold o111_6000_in at h; split at h
  · rw [bits_Get_j6_unf] at h; exact Eq.trans (by kernel_rfl) h
  · cases h

theorem pc111 : ∀ x ∈ [(3998, 0, c111_6000)], PieceOk (V 111) q111 o111 111 0 x := List.forall_mem_cons.2 ⟨p111_6000, fun _ h => nomatch h⟩

noncomputable def sp111 : Ev.Spec := fun args _ K => match args with
 | ([AV.agg (Blk.any [Ai v0, Fu v1]), Ai v2]) => bits_Get v0 v1 v2 (fun v3 v4 => K (AV.tup [Ab v3, Ai v4]))
 | _ => none
noncomputable def S111 := addS 111 sp111 S26
theorem D52 : Dom B0 V S111 T154 52 := Dom.s (m := 51) (n := 0) D51 D51 (O := o111) (OrcOk.fn (fn0 := Tryz.f111) (by kernel_rfl) (by kernel_rfl) pc111) fun args R K r h => by
 unfold sp111 at h; split at h
 · rw [bits_Get_unf] at h; exact Eq.trans (by kernel_rfl) h
 · cases h

noncomputable def sp53 : Ev.Spec := fun args _ K => match args with
 | ([AV.agg (Blk.any [Ai v0, Fu v1, AV.fsl (Blk.ints .i64 v2), AV.fsl (Blk.ints .i64 v3)]), Ai v4]) => plain_Access v0 v1 v2 v3 v4 (fun v5 v6 => K (AV.tup [Ab v5, Ai v6]))
 | _ => none
noncomputable def S53 := addS 53 sp53 S111
theorem D53 : Dom B0 V S53 T154 53 := Dom.s (m := 52) (n := 0) D52 D52 (O := (fun _ => none)) (fun _ _ _ _ => OrcOk.none _ _) fun args R K r h => by
 unfold sp53 at h; split at h
 · rw [plain_Access_unf] at h; exact Eq.trans (by kernel_rfl) h
 · cases h

noncomputable def o181_5000_in {R : Type} (K : Ex → St → Option R) (vs : List AV) (hh : H) : Option R := match vs, hh with
 | [Ab v0], [] => ints_has_j5 v0 (fun v1 => K (Ex.ret) (St.mk (spread 24 0 [4] [AV.iface 204 (Ap 0 0)]) [HA [Ai v1]])) (fun _ => K (Ex.normal) (St.mk (spread 24 0 [] []) []))
 | _, _ => none

noncomputable def o181 : Nat → Option PSpec := lkN [(5000, fun st _ K => pickM 24 [12] st (o181_5000_in K))]
noncomputable def q181 : CallF := evFun (V 181) S53 T154 10

noncomputable def c181_5000 : Code := subC [1, 0, 0, 1, 1, 1] (bodyOf Tryz.f181)

theorem p181_5000 : PieceOk (V 181) q181 o181 181 0 (3994, 0, c181_5000) := .s (size := 24) (ss := [12]) (F := @o181_5000_in) (by kernel_rfl) fun R r K vs hh h => by
  unfold o181_5000_in at h; split at h
  · rw [ints_has_j5_unf] at h; exact Eq.trans (by kernel_rfl) h
  · cases h

theorem pc181 : ∀ x ∈ [(3994, 0, c181_5000)], PieceOk (V 181) q181 o181 181 0 x := List.forall_mem_cons.2 ⟨p181_5000, fun _ h => nomatch h⟩

noncomputable def sp181 : Ev.Spec := fun args _ K => match args with
 | ([AV.agg (Blk.any [Ai v0, Ai v1, Ai v2, Fu v3]), Ai v4]) => ints_has v0 v1 v2 v3 v4 (fun v5 => K (AV.iface 204 (AV.fptr (Blk.any [Ai v5])))) (fun _ => K (AV.nilif))
 | _ => none
noncomputable def S181 := addS 181 sp181 S53
theorem D54 : Dom B0 V S181 T154 54 := Dom.s (m := 53) (n := 0) D53 D53 (O := o181) (OrcOk.fn (fn0 := Tryz.f181) (by kernel_rfl) (by kernel_rfl) pc181) fun args R K r h => by
 unfold sp181 at h; split at h
 · rw [ints_has_unf] at h; exact Eq.trans (by kernel_rfl) h
 · cases h

noncomputable def sp159 : Ev.Spec := fun args _ K => match args with
 | ([AV.agg (Blk.any [Ai v0, Ai v1, Ai v2, Fu v3]), Ai v4]) => ints_Get v0 v1 v2 v3 v4 (fun v5 v6 => K (AV.tup [Au v5, Ai v6]))
 | _ => none
noncomputable def S159 := addS 159 sp159 S181
theorem D55 : Dom B0 V S159 T154 55 := Dom.s (m := 54) (n := 0) D54 D54 (O := (fun _ => none)) (fun _ _ _ _ => OrcOk.none _ _) fun args R K r h => by
 unfold sp159 at h; split at h
 · rw [ints_Get_unf] at h; exact Eq.trans (by kernel_rfl) h
 · cases h

noncomputable def sp158 : Ev.Spec := fun args _ K => match args with
 | ([AV.agg (Blk.any [Ai v0, Ai v1, Ai v2, Ai v3, Fu v4, Ai v5, Fu v6, AV.fsl (Blk.ints .i64 v7), AV.fsl (Blk.ints .i64 v8)]), Ai v9, Ai va]) => rrr_get v0 v1 v2 v3 v4 v5 v6 v7 v8 v9 va (fun vb vc => K (AV.tup [Au vb, Ai vc]))
 | _ => none
noncomputable def S158 := addS 158 sp158 S159
theorem D56 : Dom B0 V S158 T154 56 := Dom.s (m := 55) (n := 0) D55 D55 (O := (fun _ => none)) (fun _ _ _ _ => OrcOk.none _ _) fun args R K r h => by
 unfold sp158 at h; split at h
 · rw [rrr_get_unf] at h; exact Eq.trans (by kernel_rfl) h
 · cases h

noncomputable def hs155 : HSpec := fun args h _ K => match args, h with
 | [Ai v0, Au v1, Ai v2, Ap 0 0, Ap 1 0], [HA [Ai v3], HA [Ai v4]] => rrr_ones_1_r v0 v1 v2 v3 v4 (fun v5 v6 v7 => K (Ab v5) ([HA [Ai v6], HA [Ai v7]]))
 | _, _ => none
noncomputable def T155 := addT 155 hs155 T154
theorem D57 : Dom B0 V S158 T155 57 := Dom.t D56 fun args hh R K r h => by
 unfold hs155 at h; split at h
 · rw [rrr_ones_1_r_unf] at h; exact ⟨(fun _ => none), (fun _ _ _ _ => OrcOk.none _ _), Eq.trans (by kernel_rfl) h⟩
 · cases h

noncomputable def o118r3_4000_in {R : Type} (K : Ex → St → Option R) (vs : List AV) (hh : H) : Option R := match vs, hh with
 | [Ai v0, Au v1, Ai v2, Ap 1 0, Ap 2 0], [HA [Ab v3], HA [Ai v4], HA [Ai v5]] => rrr_Select_1_j4 v0 v1 v2 v3 v4 v5 (fun v6 v7 v8 v9 => K (Ex.ret) (St.mk (spread 34 0 [9] [Ab v6]) [HA [Ab v7], HA [Ai v8], HA [Ai v9]]))
 | _, _ => none

noncomputable def o118r3 : Nat → Option PSpec := lkN [(4000, fun st _ K => pickM 34 [0, 1, 2, 4, 5] st (o118r3_4000_in K))]
noncomputable def q118r3 : CallF := evFun (V 118) S158 T155 10

noncomputable def c118r3_4000 : Code := subC [1, 1] (bodyOf Tryz.f118)

theorem p118r3_4000 : PieceOk (V 118) q118r3 o118r3 118 3 (3998, 0, c118r3_4000) := .s (size := 34) (ss := [0, 1, 2, 4, 5]) (F := @o118r3_4000_in) (by kernel_rfl) fun R r K vs hh h => by
  unfold o118r3_4000_in at h; split at h
  · rw [rrr_Select_1_j4_unf] at h; exact Eq.trans (by kernel_rfl) h
  · cases h

theorem pc118r3 : ∀ x ∈ [(3998, 0, c118r3_4000)], PieceOk (V 118) q118r3 o118r3 118 3 x := List.forall_mem_cons.2 ⟨p118r3_4000, fun _ h => nomatch h⟩

noncomputable def hs118 : HSpec := fun args h _ K => match args, h with
 | [Ai v0, Au v1, Ai v2, Ap 0 0, Ap 1 0, Ap 2 0], [HA [Ab v3], HA [Ai v4], HA [Ai v5]] => rrr_Select_1_r v0 v1 v2 v3 v4 v5 (fun v6 v7 v8 v9 => K (Ab v6) ([HA [Ab v7], HA [Ai v8], HA [Ai v9]]))
 | _, _ => none
noncomputable def T118 := addT 118 hs118 T155
theorem D58 : Dom B0 V S158 T118 58 := Dom.t D57 fun args hh R K r h => by
 unfold hs118 at h; split at h
 · rw [rrr_Select_1_r_unf] at h; exact ⟨o118r3, (OrcOk.fn (fn0 := Tryz.f118) (by kernel_rfl) (by kernel_rfl) pc118r3), Eq.trans (by kernel_rfl) h⟩
 · cases h

noncomputable def o117r2_5400_in {R : Type} (K : Ex → St → Option R) (vs : List AV) (hh : H) : Option R := match vs, hh with
 | [AV.fn 155 [Ap 0 0, Ap 1 0], Ap 2 0, Ai v0, Ai v1, Ai v2], [HA [Ai v3], HA [Ai v4], HA [Ai v5, Ai v6, Ai v7, Ai v8, Fu v9, Ai va, Fu vb, AV.fsl (Blk.ints .i64 vc), AV.fsl (Blk.ints .i64 vd)]] => rrr_walk_l5 v0 v1 v2 v3 v4 v5 v6 v7 v8 v9 va vb vc vd (fun ve vf => K (Ex.ret) (St.mk (spread 53 0 [] []) [HA [Ai ve], HA [Ai vf]])) (fun ve vf => K (Ex.exit 0) (St.mk (spread 53 0 [] []) [HA [Ai ve], HA [Ai vf]]))
 | _, _ => none

noncomputable def o117r2 : Nat → Option PSpec := lkN [(5400, fun st _ K => pickM 53 [2, 3, 7, 8, 9] st (o117r2_5400_in K))]
noncomputable def q117r2 : CallF := evFun (V 117) S158 T118 10

noncomputable def c117r2_5400 : Code := subC [1, 1, 1, 1, 0, 0] (bodyOf Tryz.f117)

noncomputable def lp117r2_5400 {R : Type} (N : Nat) (st : St) (K : Ex → St → Option R) : Option R := evLoop (norm ((V 117).keep 117 (Ev.keyOf c117r2_5400 * 1000 + 400)) 2) (evCode (V 117) q117r2 o117r2 117 2 3994 c117r2_5400) N st (kOut (V 117) 117 2 (Ev.keyOf c117r2_5400 * 1000 + 401) K)

theorem rrr_walk_l5_L_eq {R : Type} (K : Ex → St → Option R) : ∀ N : Nat, (fun (v0 v1 v2 v3 v4 v5 v6 v7 v8 : Int) (v9 : List Int) (va : Int) (vb vc vd : List Int) => lp117r2_5400 N (St.mk (spread 53 0 [2, 3, 7, 8, 9] [AV.fn 155 [Ap 0 0, Ap 1 0], Ap 2 0, Ai v0, Ai v1, Ai v2]) [HA [Ai v3], HA [Ai v4], HA [Ai v5, Ai v6, Ai v7, Ai v8, Fu v9, Ai va, Fu vb, AV.fsl (Blk.ints .i64 vc), AV.fsl (Blk.ints .i64 vd)]]) K) = rrr_walk_l5_L (fun ve vf => K (Ex.ret) (St.mk (spread 53 0 [] []) [HA [Ai ve], HA [Ai vf]])) (fun ve vf => K (Ex.exit 0) (St.mk (spread 53 0 [] []) [HA [Ai ve], HA [Ai vf]])) N
  | 0 => by funext v0 v1 v2 v3 v4 v5 v6 v7 v8 v9 va vb vc vd; rfl
  | N + 1 => by
    funext v0 v1 v2 v3 v4 v5 v6 v7 v8 v9 va vb vc vd
    simp only [rrr_walk_l5_L]
    rw [← rrr_walk_l5_L_eq K N]
    kernel_rfl

theorem p117r2_5400 : PieceOk (V 117) q117r2 o117r2 117 2 (3994, 1, c117r2_5400) := .l (size := 53) (ss := [2, 3, 7, 8, 9]) (F := @o117r2_5400_in) (by kernel_rfl) (by kernel_rfl) fun R r K vs hh h => by
  unfold o117r2_5400_in at h; split at h
  · rw [rrr_walk_l5_unf] at h; unfold rrr_walk_l5_B at h; rw [← rrr_walk_l5_L_eq K NR] at h; exact h
  · cases h

theorem pc117r2 : ∀ x ∈ [(3994, 1, c117r2_5400)], PieceOk (V 117) q117r2 o117r2 117 2 x := List.forall_mem_cons.2 ⟨p117r2_5400, fun _ h => nomatch h⟩

noncomputable def o117r3_5400_in {R : Type} (K : Ex → St → Option R) (vs : List AV) (hh : H) : Option R := match vs, hh with
 | [AV.fn 118 [Ap 0 0, Ap 1 0, Ap 2 0], Ap 3 0, Ai v0, Ai v1, Ai v2], [HA [Ab v3], HA [Ai v4], HA [Ai v5], HA [Ai v6, Ai v7, Ai v8, Ai v9, Fu va, Ai vb, Fu vc, AV.fsl (Blk.ints .i64 vd), AV.fsl (Blk.ints .i64 ve)]] => rrr_walk_l5_1 v0 v1 v2 v3 v4 v5 v6 v7 v8 v9 va vb vc vd ve (fun vf vg vh => K (Ex.ret) (St.mk (spread 53 0 [] []) [HA [Ab vf], HA [Ai vg], HA [Ai vh]])) (fun vf vg vh => K (Ex.exit 0) (St.mk (spread 53 0 [] []) [HA [Ab vf], HA [Ai vg], HA [Ai vh]]))
 | _, _ => none

noncomputable def o117r3 : Nat → Option PSpec := lkN [(5400, fun st _ K => pickM 53 [2, 3, 7, 8, 9] st (o117r3_5400_in K))]
noncomputable def q117r3 : CallF := evFun (V 117) S158 T118 10

noncomputable def c117r3_5400 : Code := subC [1, 1, 1, 1, 0, 0] (bodyOf Tryz.f117)

noncomputable def lp117r3_5400 {R : Type} (N : Nat) (st : St) (K : Ex → St → Option R) : Option R := evLoop (norm ((V 117).keep 117 (Ev.keyOf c117r3_5400 * 1000 + 400)) 3) (evCode (V 117) q117r3 o117r3 117 3 3994 c117r3_5400) N st (kOut (V 117) 117 3 (Ev.keyOf c117r3_5400 * 1000 + 401) K)

theorem rrr_walk_l5_1_L_eq {R : Type} (K : Ex → St → Option R) : ∀ N : Nat, (fun (v0 v1 v2 : Int) (v3 : Bool) (v4 v5 v6 v7 v8 v9 : Int) (va : List Int) (vb : Int) (vc vd ve : List Int) => lp117r3_5400 N (St.mk (spread 53 0 [2, 3, 7, 8, 9] [AV.fn 118 [Ap 0 0, Ap 1 0, Ap 2 0], Ap 3 0, Ai v0, Ai v1, Ai v2]) [HA [Ab v3], HA [Ai v4], HA [Ai v5], HA [Ai v6, Ai v7, Ai v8, Ai v9, Fu va, Ai vb, Fu vc, AV.fsl (Blk.ints .i64 vd), AV.fsl (Blk.ints .i64 ve)]]) K) = rrr_walk_l5_1_L (fun vf vg vh => K (Ex.ret) (St.mk (spread 53 0 [] []) [HA [Ab vf], HA [Ai vg], HA [Ai vh]])) (fun vf vg vh => K (Ex.exit 0) (St.mk (spread 53 0 [] []) [HA [Ab vf], HA [Ai vg], HA [Ai vh]])) N
  | 0 => by funext v0 v1 v2 v3 v4 v5 v6 v7 v8 v9 va vb vc vd ve; rfl
  | N + 1 => by
    funext v0 v1 v2 v3 v4 v5 v6 v7 v8 v9 va vb vc vd ve
    simp only [rrr_walk_l5_1_L]
    rw [← rrr_walk_l5_1_L_eq K N]
    kernel_rfl

theorem p117r3_5400 : PieceOk (V 117) q117r3 o117r3 117 3 (3994, 1, c117r3_5400) := .l (size := 53) (ss := [2, 3, 7, 8, 9]) (F := @o117r3_5400_in) (by kernel_rfl) (by kernel_rfl) fun R r K vs hh h => by
  unfold o117r3_5400_in at h; split at h
  · rw [rrr_walk_l5_1_unf] at h; unfold rrr_walk_l5_1_B at h; rw [← rrr_walk_l5_1_L_eq K NR] at h; exact h
  · cases h

theorem pc117r3 : ∀ x ∈ [(3994, 1, c117r3_5400)], PieceOk (V 117) q117r3 o117r3 117 3 x := List.forall_mem_cons.2 ⟨p117r3_5400, fun _ h => nomatch h⟩

noncomputable def hs117 : HSpec := fun args h _ K => match args, h with
 | [AV.agg (Blk.any [Ai v0, Ai v1, Ai v2, Ai v3, Fu v4, Ai v5, Fu v6, AV.fsl (Blk.ints .i64 v7), AV.fsl (Blk.ints .i64 v8)]), Ai v9, AV.fn 155 [Ap 0 0, Ap 1 0]], [HA [Ai va], HA [Ai vb]] => rrr_walk_r v0 v1 v2 v3 v4 v5 v6 v7 v8 v9 va vb (fun vc vd => K (AV.tup []) ([HA [Ai vc], HA [Ai vd]]))
 | [AV.agg (Blk.any [Ai ve, Ai vf, Ai vg, Ai vh, Fu vi, Ai vj, Fu vk, AV.fsl (Blk.ints .i64 vl), AV.fsl (Blk.ints .i64 vm)]), Ai vn, AV.fn 118 [Ap 0 0, Ap 1 0, Ap 2 0]], [HA [Ab vo], HA [Ai vp], HA [Ai vq]] => rrr_walk_r_1 ve vf vg vh vi vj vk vl vm vn vo vp vq (fun vc vd vr => K (AV.tup []) ([HA [Ab vc], HA [Ai vd], HA [Ai vr]]))
 | _, _ => none
noncomputable def T117 := addT 117 hs117 T118
theorem D59 : Dom B0 V S158 T117 59 := Dom.t D58 fun args hh R K r h => by
 unfold hs117 at h; split at h
 · rw [rrr_walk_r_unf] at h; exact ⟨o117r2, (OrcOk.fn (fn0 := Tryz.f117) (by kernel_rfl) (by kernel_rfl) pc117r2), Eq.trans (by kernel_rfl) h⟩
 · rw [rrr_walk_r_1_unf] at h; exact ⟨o117r3, (OrcOk.fn (fn0 := Tryz.f117) (by kernel_rfl) (by kernel_rfl) pc117r3), Eq.trans (by kernel_rfl) h⟩
 · cases h

noncomputable def sp112 : Ev.Spec := fun args _ K => match args with
 | ([AV.agg (Blk.any [Ai v0, Ai v1, Ai v2, Ai v3, Fu v4, Ai v5, Fu v6, AV.fsl (Blk.ints .i64 v7), AV.fsl (Blk.ints .i64 v8)]), Ai v9]) => rrr_ones v0 v1 v2 v3 v4 v5 v6 v7 v8 v9 (fun va => K (Ai va))
 | _ => none
noncomputable def S112 := addS 112 sp112 S158
theorem D60 : Dom B0 V S112 T117 60 := Dom.s (m := 59) (n := 0) D59 D59 (O := (fun _ => none)) (fun _ _ _ _ => OrcOk.none _ _) fun args R K r h => by
 unfold sp112 at h; split at h
 · rw [rrr_ones_unf] at h; exact Eq.trans (by kernel_rfl) h
 · cases h

noncomputable def o54_6000_in {R : Type} (K : Ex → St → Option R) (vs : List AV) (hh : H) : Option R := match vs, hh with
 | [Ai v0, Ap 0 0], [HA [Ai v1, Ai v2, Ai v3, Ai v4, Fu v5, Ai v6, Fu v7, AV.fsl (Blk.ints .i64 v8), AV.fsl (Blk.ints .i64 v9)]] => rrr_Access_j6 v0 v1 v2 v3 v4 v5 v6 v7 v8 v9 (fun va vb => K (Ex.ret) (St.mk (spread 27 0 [4, 5] [Ab va, Ai vb]) []))
 | _, _ => none

noncomputable def o54 : Nat → Option PSpec := lkN [(6000, fun st _ K => pickM 27 [1, 2] st (o54_6000_in K))]
noncomputable def q54 : CallF := evFun (V 54) S112 T117 10

noncomputable def c54_6000 : Code := subC [1, 1] (bodyOf Tryz.f54)

theorem p54_6000 : PieceOk (V 54) q54 o54 54 0 (3998, 0, c54_6000) := .s (size := 27) (ss := [1, 2]) (F := @o54_6000_in) (by kernel_rfl) fun R r K vs hh h => by
  unfold o54_6000_in at h; split at h
  · rw [rrr_Access_j6_unf] at h; exact Eq.trans (by kernel_rfl) h
  · cases h

theorem pc54 : ∀ x ∈ [(3998, 0, c54_6000)], PieceOk (V 54) q54 o54 54 0 x := List.forall_mem_cons.2 ⟨p54_6000, fun _ h => nomatch h⟩

noncomputable def sp54 : Ev.Spec := fun args _ K => match args with
 | ([AV.agg (Blk.any [Ai v0, Ai v1, Ai v2, Ai v3, Fu v4, Ai v5, Fu v6, AV.fsl (Blk.ints .i64 v7), AV.fsl (Blk.ints .i64 v8)]), Ai v9]) => rrr_Access v0 v1 v2 v3 v4 v5 v6 v7 v8 v9 (fun va vb => K (AV.tup [Ab va, Ai vb]))
 | _ => none
noncomputable def S54 := addS 54 sp54 S112
theorem D61 : Dom B0 V S54 T117 61 := Dom.s (m := 60) (n := 0) D60 D60 (O := o54) (OrcOk.fn (fn0 := Tryz.f54) (by kernel_rfl) (by kernel_rfl) pc54) fun args R K r h => by
 unfold sp54 at h; split at h
 · rw [rrr_Access_unf] at h; exact Eq.trans (by kernel_rfl) h
 · cases h

noncomputable def o119_5400_in {R : Type} (K : Ex → St → Option R) (vs : List AV) (hh : H) : Option R := match vs, hh with
 | [Ai v0, Ap 0 0, Ai v1, Ai v2, Ai v3, Fu v4, Ai v5, Ai v6], [HA [Ai v7, Ai v8, Ai v9, Ai va, Ai vb, Fu vc, Ai vd, Fu ve]] => fano_place_l5 v0 v1 v2 v3 v4 v5 v6 v7 v8 v9 va vb vc vd ve (fun vf vg vh vi vj vk vl vm vn vo vp => K (Ex.exit 0) (St.mk (spread 63 0 [1, 2, 5, 7] [Ai vf, Ap 0 0, Ai vg, Ai vh]) [HA [Ai vi, Ai vj, Ai vk, Ai vl, Ai vm, Fu vn, Ai vo, Fu vp]]))
 | _, _ => none

noncomputable def o119 : Nat → Option PSpec := lkN [(5400, fun st _ K => pickM 63 [1, 2, 5, 6, 7, 22, 23, 24] st (o119_5400_in K))]
noncomputable def q119 : CallF := evFun (V 119) S54 T117 10

noncomputable def c119_5400 : Code := subC [1, 1, 1, 0, 1, 0, 0] (bodyOf Tryz.f119)

noncomputable def lp119_5400 {R : Type} (N : Nat) (st : St) (K : Ex → St → Option R) : Option R := evLoop (norm ((V 119).keep 119 (Ev.keyOf c119_5400 * 1000 + 400)) 0) (evCode (V 119) q119 o119 119 0 3993 c119_5400) N st (kOut (V 119) 119 0 (Ev.keyOf c119_5400 * 1000 + 401) K)

theorem fano_place_l5_L_eq {R : Type} (K : Ex → St → Option R) : ∀ N : Nat, (fun (v0 v1 v2 v3 : Int) (v4 : List Int) (v5 v6 v7 v8 v9 va vb : Int) (vc : List Int) (vd : Int) (ve : List Int) => lp119_5400 N (St.mk (spread 63 0 [1, 2, 5, 6, 7, 22, 23, 24] [Ai v0, Ap 0 0, Ai v1, Ai v2, Ai v3, Fu v4, Ai v5, Ai v6]) [HA [Ai v7, Ai v8, Ai v9, Ai va, Ai vb, Fu vc, Ai vd, Fu ve]]) K) = fano_place_l5_L (fun vf vg vh vi vj vk vl vm vn vo vp => K (Ex.exit 0) (St.mk (spread 63 0 [1, 2, 5, 7] [Ai vf, Ap 0 0, Ai vg, Ai vh]) [HA [Ai vi, Ai vj, Ai vk, Ai vl, Ai vm, Fu vn, Ai vo, Fu vp]])) N
  | 0 => by funext v0 v1 v2 v3 v4 v5 v6 v7 v8 v9 va vb vc vd ve; rfl
  | N + 1 => by
    funext v0 v1 v2 v3 v4 v5 v6 v7 v8 v9 va vb vc vd ve
    simp only [fano_place_l5_L]
    rw [← fano_place_l5_L_eq K N]
    kernel_rfl

theorem p119_5400 : PieceOk (V 119) q119 o119 119 0 (3993, 1, c119_5400) := .l (size := 63) (ss := [1, 2, 5, 6, 7, 22, 23, 24]) (F := @o119_5400_in) (by kernel_rfl) (by kernel_rfl) fun R r K vs hh h => by
  unfold o119_5400_in at h; split at h
  · rw [fano_place_l5_unf] at h; unfold fano_place_l5_B at h; rw [← fano_place_l5_L_eq K NR] at h; exact h
  · cases h

theorem pc119 : ∀ x ∈ [(3993, 1, c119_5400)], PieceOk (V 119) q119 o119 119 0 x := List.forall_mem_cons.2 ⟨p119_5400, fun _ h => nomatch h⟩

noncomputable def sp119 : Ev.Spec := fun args _ K => match args with
 | ([AV.agg (Blk.any [Ai v0, Ai v1, Ai v2, Ai v3, Ai v4, Fu v5, Ai v6, Fu v7]), Ai v8]) => fano_place v0 v1 v2 v3 v4 v5 v6 v7 v8 (fun v9 => K (Ai v9))
 | _ => none
noncomputable def S119 := addS 119 sp119 S54
theorem D62 : Dom B0 V S119 T117 62 := Dom.s (m := 61) (n := 0) D61 D61 (O := o119) (OrcOk.fn (fn0 := Tryz.f119) (by kernel_rfl) (by kernel_rfl) pc119) fun args R K r h => by
 unfold sp119 at h; split at h
 · rw [fano_place_unf] at h; exact Eq.trans (by kernel_rfl) h
 · cases h

noncomputable def o113_3400_in {R : Type} (K : Ex → St → Option R) (vs : List AV) (hh : H) : Option R := match vs, hh with
 | [Ai v0, Ap 0 0, Ai v1, Ai v2], [HA [Ai v3, Ai v4, Ai v5, Ai v6, Ai v7, Fu v8, Ai v9, Fu va]] => fano_ones_l3 v0 v1 v2 v3 v4 v5 v6 v7 v8 v9 va (fun vb => K (Ex.exit 0) (St.mk (spread 26 0 [5] [Ai vb]) []))
 | _, _ => none

noncomputable def o113 : Nat → Option PSpec := lkN [(3400, fun st _ K => pickM 26 [1, 2, 5, 6] st (o113_3400_in K))]
noncomputable def q113 : CallF := evFun (V 113) S119 T117 10

noncomputable def c113_3400 : Code := subC [1, 1, 0, 0, 0] (bodyOf Tryz.f113)

noncomputable def lp113_3400 {R : Type} (N : Nat) (st : St) (K : Ex → St → Option R) : Option R := evLoop (norm ((V 113).keep 113 (Ev.keyOf c113_3400 * 1000 + 400)) 0) (evCode (V 113) q113 o113 113 0 3995 c113_3400) N st (kOut (V 113) 113 0 (Ev.keyOf c113_3400 * 1000 + 401) K)

theorem fano_ones_l3_L_eq {R : Type} (K : Ex → St → Option R) : ∀ N : Nat, (fun (v0 v1 v2 v3 v4 v5 v6 v7 : Int) (v8 : List Int) (v9 : Int) (va : List Int) => lp113_3400 N (St.mk (spread 26 0 [1, 2, 5, 6] [Ai v0, Ap 0 0, Ai v1, Ai v2]) [HA [Ai v3, Ai v4, Ai v5, Ai v6, Ai v7, Fu v8, Ai v9, Fu va]]) K) = fano_ones_l3_L (fun vb => K (Ex.exit 0) (St.mk (spread 26 0 [5] [Ai vb]) [])) N
  | 0 => by funext v0 v1 v2 v3 v4 v5 v6 v7 v8 v9 va; rfl
  | N + 1 => by
    funext v0 v1 v2 v3 v4 v5 v6 v7 v8 v9 va
    simp only [fano_ones_l3_L]
    rw [← fano_ones_l3_L_eq K N]
    kernel_rfl

theorem p113_3400 : PieceOk (V 113) q113 o113 113 0 (3995, 1, c113_3400) := .l (size := 26) (ss := [1, 2, 5, 6]) (F := @o113_3400_in) (by kernel_rfl) (by kernel_rfl) fun R r K vs hh h => by
  unfold o113_3400_in at h; split at h
  · rw [fano_ones_l3_unf] at h; unfold fano_ones_l3_B at h; rw [← fano_ones_l3_L_eq K NR] at h; exact h
  · cases h

theorem pc113 : ∀ x ∈ [(3995, 1, c113_3400)], PieceOk (V 113) q113 o113 113 0 x := List.forall_mem_cons.2 ⟨p113_3400, fun _ h => nomatch h⟩

noncomputable def sp113 : Ev.Spec := fun args _ K => match args with
 | ([AV.agg (Blk.any [Ai v0, Ai v1, Ai v2, Ai v3, Ai v4, Fu v5, Ai v6, Fu v7]), Ai v8]) => fano_ones v0 v1 v2 v3 v4 v5 v6 v7 v8 (fun v9 => K (Ai v9))
 | _ => none
noncomputable def S113 := addS 113 sp113 S119
theorem D63 : Dom B0 V S113 T117 63 := Dom.s (m := 62) (n := 0) D62 D62 (O := o113) (OrcOk.fn (fn0 := Tryz.f113) (by kernel_rfl) (by kernel_rfl) pc113) fun args R K r h => by
 unfold sp113 at h; split at h
 · rw [fano_ones_unf] at h; exact Eq.trans (by kernel_rfl) h
 · cases h

noncomputable def o55_6000_in {R : Type} (K : Ex → St → Option R) (vs : List AV) (hh : H) : Option R := match vs, hh with
 | [Ai v0, Ap 0 0], [HA [Ai v1, Ai v2, Ai v3, Ai v4, Ai v5, Fu v6, Ai v7, Fu v8]] => fano_Access_j6 v0 v1 v2 v3 v4 v5 v6 v7 v8 (fun v9 va => K (Ex.ret) (St.mk (spread 27 0 [4, 5] [Ab v9, Ai va]) []))
 | _, _ => none

noncomputable def o55 : Nat → Option PSpec := lkN [(6000, fun st _ K => pickM 27 [1, 2] st (o55_6000_in K))]
noncomputable def q55 : CallF := evFun (V 55) S113 T117 10

noncomputable def c55_6000 : Code := subC [1, 1] (bodyOf Tryz.f55)

theorem p55_6000 : PieceOk (V 55) q55 o55 55 0 (3998, 0, c55_6000) := .s (size := 27) (ss := [1, 2]) (F := @o55_6000_in) (by kernel_rfl) fun R r K vs hh h => by
  unfold o55_6000_in at h; split at h
  · rw [fano_Access_j6_unf] at h; exact Eq.trans (by kernel_rfl) h
  · cases h

theorem pc55 : ∀ x ∈ [(3998, 0, c55_6000)], PieceOk (V 55) q55 o55 55 0 x := List.forall_mem_cons.2 ⟨p55_6000, fun _ h => nomatch h⟩

noncomputable def sp55 : Ev.Spec := fun args _ K => match args with
 | ([AV.agg (Blk.any [Ai v0, Ai v1, Ai v2, Ai v3, Ai v4, Fu v5, Ai v6, Fu v7]), Ai v8]) => fano_Access v0 v1 v2 v3 v4 v5 v6 v7 v8 (fun v9 va => K (AV.tup [Ab v9, Ai va]))
 | _ => none
noncomputable def S55 := addS 55 sp55 S113
theorem D64 : Dom B0 V S55 T117 64 := Dom.s (m := 63) (n := 0) D63 D63 (O := o55) (OrcOk.fn (fn0 := Tryz.f55) (by kernel_rfl) (by kernel_rfl) pc55) fun args R K r h => by
 unfold sp55 at h; split at h
 · rw [fano_Access_unf] at h; exact Eq.trans (by kernel_rfl) h
 · cases h

noncomputable def sp15 : Ev.Spec := fun args _ K => match args with
 | ([AV.agg (Blk.any [Ai v0, Ai v1, Fu v2, AV.fsl (Blk.ints .i64 v3), AV.fsl (Blk.ints .i64 v4), Ai v5, Ai v6, Ai v7, Ai v8, Fu v9, Ai va, Fu vb, AV.fsl (Blk.ints .i64 vc), AV.fsl (Blk.ints .i64 vd), Ai ve, Ai vf, Ai vg, Ai vh, Ai vi, Fu vj, Ai vk, Fu vl]), Ai vm]) => vector_Access v0 v1 v2 v3 v4 v5 v6 v7 v8 v9 va vb vc vd ve vf vg vh vi vj vk vl vm (fun vn vo => K (AV.tup [Ab vn, Ai vo]))
 | _ => none
noncomputable def S15 := addS 15 sp15 S55
theorem D65 : Dom B0 V S15 T117 65 := Dom.s (m := 64) (n := 0) D64 D64 (O := (fun _ => none)) (fun _ _ _ _ => OrcOk.none _ _) fun args R K r h => by
 unfold sp15 at h; split at h
 · rw [vector_Access_unf] at h; exact Eq.trans (by kernel_rfl) h
 · cases h

noncomputable def sp156 : Ev.Spec := fun args _ K => match args with
 | ([AV.agg (Blk.any [Ai v0, Fu v1, AV.fsl (Blk.ints .i64 v2), AV.fsl (Blk.ints .i64 v3)]), Ai v4]) => plain_ones v0 v1 v2 v3 v4 (fun v5 => K (Ai v5))
 | _ => none
noncomputable def S156 := addS 156 sp156 S15
theorem D66 : Dom B0 V S156 T117 66 := Dom.s (m := 65) (n := 0) D65 D65 (O := (fun _ => none)) (fun _ _ _ _ => OrcOk.none _ _) fun args R K r h => by
 unfold sp156 at h; split at h
 · rw [plain_ones_unf] at h; exact Eq.trans (by kernel_rfl) h
 · cases h

noncomputable def sp114 : Ev.Spec := fun args _ K => match args with
 | ([AV.agg (Blk.any [Ai v0, Fu v1, AV.fsl (Blk.ints .i64 v2), AV.fsl (Blk.ints .i64 v3)]), Ab v4, Ai v5]) => plain_ahead v0 v1 v2 v3 v4 v5 (fun v6 => K (Ai v6))
 | _ => none
noncomputable def S114 := addS 114 sp114 S156
theorem D67 : Dom B0 V S114 T117 67 := Dom.s (m := 66) (n := 0) D66 D66 (O := (fun _ => none)) (fun _ _ _ _ => OrcOk.none _ _) fun args R K r h => by
 unfold sp114 at h; split at h
 · rw [plain_ahead_unf] at h; exact Eq.trans (by kernel_rfl) h
 · cases h

noncomputable def o56_6000_in {R : Type} (K : Ex → St → Option R) (vs : List AV) (hh : H) : Option R := match vs, hh with
 | [Ab v0, Ai v1, Ap 0 0], [HA [Ai v2, Fu v3, AV.fsl (Blk.ints .i64 v4), AV.fsl (Blk.ints .i64 v5)]] => plain_Rank_j6 v0 v1 v2 v3 v4 v5 (fun v6 v7 => K (Ex.ret) (St.mk (spread 26 0 [6, 7] [Ai v6, Ai v7]) []))
 | _, _ => none

noncomputable def o56 : Nat → Option PSpec := lkN [(6000, fun st _ K => pickM 26 [1, 2, 3] st (o56_6000_in K))]
noncomputable def q56 : CallF := evFun (V 56) S114 T117 10

noncomputable def c56_6000 : Code := subC [1, 1] (bodyOf Tryz.f56)

theorem p56_6000 : PieceOk (V 56) q56 o56 56 0 (3998, 0, c56_6000) := .s (size := 26) (ss := [1, 2, 3]) (F := @o56_6000_in) (by kernel_rfl) fun R r K vs hh h => by
  unfold o56_6000_in at h; split at h
  · rw [plain_Rank_j6_unf] at h; exact Eq.trans (by kernel_rfl) h
  · cases h

theorem pc56 : ∀ x ∈ [(3998, 0, c56_6000)], PieceOk (V 56) q56 o56 56 0 x := List.forall_mem_cons.2 ⟨p56_6000, fun _ h => nomatch h⟩

noncomputable def sp56 : Ev.Spec := fun args _ K => match args with
 | ([AV.agg (Blk.any [Ai v0, Fu v1, AV.fsl (Blk.ints .i64 v2), AV.fsl (Blk.ints .i64 v3)]), Ab v4, Ai v5]) => plain_Rank v0 v1 v2 v3 v4 v5 (fun v6 v7 => K (AV.tup [Ai v6, Ai v7]))
 | _ => none
noncomputable def S56 := addS 56 sp56 S114
theorem D68 : Dom B0 V S56 T117 68 := Dom.s (m := 67) (n := 0) D67 D67 (O := o56) (OrcOk.fn (fn0 := Tryz.f56) (by kernel_rfl) (by kernel_rfl) pc56) fun args R K r h => by
 unfold sp56 at h; split at h
 · rw [plain_Rank_unf] at h; exact Eq.trans (by kernel_rfl) h
 · cases h

noncomputable def sp115 : Ev.Spec := fun args _ K => match args with
 | ([AV.agg (Blk.any [Ai v0, Ai v1, Ai v2, Ai v3, Fu v4, Ai v5, Fu v6, AV.fsl (Blk.ints .i64 v7), AV.fsl (Blk.ints .i64 v8)]), Ab v9, Ai va]) => rrr_ahead v0 v1 v2 v3 v4 v5 v6 v7 v8 v9 va (fun vb => K (Ai vb))
 | _ => none
noncomputable def S115 := addS 115 sp115 S56
theorem D69 : Dom B0 V S115 T117 69 := Dom.s (m := 68) (n := 0) D68 D68 (O := (fun _ => none)) (fun _ _ _ _ => OrcOk.none _ _) fun args R K r h => by
 unfold sp115 at h; split at h
 · rw [rrr_ahead_unf] at h; exact Eq.trans (by kernel_rfl) h
 · cases h

noncomputable def o57_6000_in {R : Type} (K : Ex → St → Option R) (vs : List AV) (hh : H) : Option R := match vs, hh with
 | [Ab v0, Ai v1, Ap 0 0], [HA [Ai v2, Ai v3, Ai v4, Ai v5, Fu v6, Ai v7, Fu v8, AV.fsl (Blk.ints .i64 v9), AV.fsl (Blk.ints .i64 va)]] => rrr_Rank_j6 v0 v1 v2 v3 v4 v5 v6 v7 v8 v9 va (fun vb vc => K (Ex.ret) (St.mk (spread 25 0 [6, 7] [Ai vb, Ai vc]) []))
 | _, _ => none

noncomputable def o57 : Nat → Option PSpec := lkN [(6000, fun st _ K => pickM 25 [1, 2, 3] st (o57_6000_in K))]
noncomputable def q57 : CallF := evFun (V 57) S115 T117 10

noncomputable def c57_6000 : Code := subC [1, 1] (bodyOf Tryz.f57)

theorem p57_6000 : PieceOk (V 57) q57 o57 57 0 (3998, 0, c57_6000) := .s (size := 25) (ss := [1, 2, 3]) (F := @o57_6000_in) (by kernel_rfl) fun R r K vs hh h => by
  unfold o57_6000_in at h; split at h
  · rw [rrr_Rank_j6_unf] at h; exact Eq.trans (by kernel_rfl) h
  · cases h

theorem pc57 : ∀ x ∈ [(3998, 0, c57_6000)], PieceOk (V 57) q57 o57 57 0 x := List.forall_mem_cons.2 ⟨p57_6000, fun _ h => nomatch h⟩

noncomputable def sp57 : Ev.Spec := fun args _ K => match args with
 | ([AV.agg (Blk.any [Ai v0, Ai v1, Ai v2, Ai v3, Fu v4, Ai v5, Fu v6, AV.fsl (Blk.ints .i64 v7), AV.fsl (Blk.ints .i64 v8)]), Ab v9, Ai va]) => rrr_Rank v0 v1 v2 v3 v4 v5 v6 v7 v8 v9 va (fun vb vc => K (AV.tup [Ai vb, Ai vc]))
 | _ => none
noncomputable def S57 := addS 57 sp57 S115
theorem D70 : Dom B0 V S57 T117 70 := Dom.s (m := 69) (n := 0) D69 D69 (O := o57) (OrcOk.fn (fn0 := Tryz.f57) (by kernel_rfl) (by kernel_rfl) pc57) fun args R K r h => by
 unfold sp57 at h; split at h
 · rw [rrr_Rank_unf] at h; exact Eq.trans (by kernel_rfl) h
 · cases h

noncomputable def o58_6000_in {R : Type} (K : Ex → St → Option R) (vs : List AV) (hh : H) : Option R := match vs, hh with
 | [Ab v0, Ai v1, Ap 0 0], [HA [Ai v2, Ai v3, Ai v4, Ai v5, Ai v6, Fu v7, Ai v8, Fu v9]] => fano_Rank_j6 v0 v1 v2 v3 v4 v5 v6 v7 v8 v9 (fun va vb => K (Ex.ret) (St.mk (spread 31 0 [6, 7] [Ai va, Ai vb]) []))
 | _, _ => none

noncomputable def o58 : Nat → Option PSpec := lkN [(6000, fun st _ K => pickM 31 [1, 2, 3] st (o58_6000_in K))]
noncomputable def q58 : CallF := evFun (V 58) S57 T117 10

noncomputable def c58_6000 : Code := subC [1, 1] (bodyOf Tryz.f58)

theorem p58_6000 : PieceOk (V 58) q58 o58 58 0 (3998, 0, c58_6000) := .s (size := 31) (ss := [1, 2, 3]) (F := @o58_6000_in) (by kernel_rfl) fun R r K vs hh h => by
  unfold o58_6000_in at h; split at h
  · rw [fano_Rank_j6_unf] at h; exact Eq.trans (by kernel_rfl) h
  · cases h

theorem pc58 : ∀ x ∈ [(3998, 0, c58_6000)], PieceOk (V 58) q58 o58 58 0 x := List.forall_mem_cons.2 ⟨p58_6000, fun _ h => nomatch h⟩

noncomputable def sp58 : Ev.Spec := fun args _ K => match args with
 | ([AV.agg (Blk.any [Ai v0, Ai v1, Ai v2, Ai v3, Ai v4, Fu v5, Ai v6, Fu v7]), Ab v8, Ai v9]) => fano_Rank v0 v1 v2 v3 v4 v5 v6 v7 v8 v9 (fun va vb => K (AV.tup [Ai va, Ai vb]))
 | _ => none
noncomputable def S58 := addS 58 sp58 S57
theorem D71 : Dom B0 V S58 T117 71 := Dom.s (m := 70) (n := 0) D70 D70 (O := o58) (OrcOk.fn (fn0 := Tryz.f58) (by kernel_rfl) (by kernel_rfl) pc58) fun args R K r h => by
 unfold sp58 at h; split at h
 · rw [fano_Rank_unf] at h; exact Eq.trans (by kernel_rfl) h
 · cases h

noncomputable def sp16 : Ev.Spec := fun args _ K => match args with
 | ([AV.agg (Blk.any [Ai v0, Ai v1, Fu v2, AV.fsl (Blk.ints .i64 v3), AV.fsl (Blk.ints .i64 v4), Ai v5, Ai v6, Ai v7, Ai v8, Fu v9, Ai va, Fu vb, AV.fsl (Blk.ints .i64 vc), AV.fsl (Blk.ints .i64 vd), Ai ve, Ai vf, Ai vg, Ai vh, Ai vi, Fu vj, Ai vk, Fu vl]), Ab vm, Ai vn]) => vector_Rank v0 v1 v2 v3 v4 v5 v6 v7 v8 v9 va vb vc vd ve vf vg vh vi vj vk vl vm vn (fun vo vp => K (AV.tup [Ai vo, Ai vp]))
 | _ => none
noncomputable def S16 := addS 16 sp16 S58
theorem D72 : Dom B0 V S16 T117 72 := Dom.s (m := 71) (n := 0) D71 D71 (O := (fun _ => none)) (fun _ _ _ _ => OrcOk.none _ _) fun args R K r h => by
 unfold sp16 at h; split at h
 · rw [vector_Rank_unf] at h; exact Eq.trans (by kernel_rfl) h
 · cases h

noncomputable def o59_6000_in {R : Type} (K : Ex → St → Option R) (vs : List AV) (hh : H) : Option R := match vs, hh with
 | [Ab v0, Ai v1, Ap 0 0], [HA [Ai v2, Fu v3, AV.fsl (Blk.ints .i64 v4), AV.fsl (Blk.ints .i64 v5)]] => plain_Select_j6 v0 v1 v2 v3 v4 v5 (fun v6 v7 => K (Ex.ret) (St.mk (spread 71 0 [6, 7] [Ai v6, Ai v7]) []))
 | _, _ => none

noncomputable def o59_7400_in {R : Type} (K : Ex → St → Option R) (vs : List AV) (hh : H) : Option R := match vs, hh with
 | [Ab v0, Ai v1, Ap 0 0, Ai v2, Ai v3], [HA [Ai v4, Fu v5, AV.fsl (Blk.ints .i64 v6), AV.fsl (Blk.ints .i64 v7)]] => plain_Select_l7 v0 v1 v2 v3 v4 v5 v6 v7 (fun v8 v9 va vb vc vd ve => K (Ex.exit 1) (St.mk (spread 71 0 [1, 2, 3, 8] [Ab v8, Ai v9, Ap 0 0, Ai va]) [HA [Ai vb, Fu vc, AV.fsl (Blk.ints .i64 vd), AV.fsl (Blk.ints .i64 ve)]]))
 | _, _ => none

noncomputable def o59_15000_in {R : Type} (K : Ex → St → Option R) (vs : List AV) (hh : H) : Option R := match vs, hh with
 | [Ab v0, Ai v1, Ap 0 0, Ai v2, Au v3], [HA [Ai v4, Fu v5, AV.fsl (Blk.ints .i64 v6), AV.fsl (Blk.ints .i64 v7)]] => plain_Select_j15 v0 v1 v2 v3 v4 v5 v6 v7 (fun v8 v9 => K (Ex.ret) (St.mk (spread 71 0 [6, 7] [Ai v8, Ai v9]) []))
 | _, _ => none

noncomputable def o59 : Nat → Option PSpec := lkN [(6000, fun st _ K => pickM 71 [1, 2, 3] st (o59_6000_in K)), (7400, fun st _ K => pickM 71 [1, 2, 3, 8, 9] st (o59_7400_in K)), (15000, fun st _ K => pickM 71 [1, 2, 3, 8, 11] st (o59_15000_in K))]
noncomputable def q59 : CallF := evFun (V 59) S16 T117 10

noncomputable def c59_6000 : Code := subC [1, 1] (bodyOf Tryz.f59)

noncomputable def c59_7400 : Code := subC [1, 1, 1, 0, 0, 0] (bodyOf Tryz.f59)

noncomputable def lp59_7400 {R : Type} (N : Nat) (st : St) (K : Ex → St → Option R) : Option R := evLoop (norm ((V 59).keep 59 (Ev.keyOf c59_7400 * 1000 + 400)) 0) (evCode (V 59) q59 o59 59 0 3994 c59_7400) N st (kOut (V 59) 59 0 (Ev.keyOf c59_7400 * 1000 + 401) K)

noncomputable def c59_15000 : Code := subC [1, 1, 1, 1, 1, 1] (bodyOf Tryz.f59)

theorem plain_Select_l7_L_eq {R : Type} (K : Ex → St → Option R) : ∀ N : Nat, (fun (v0 : Bool) (v1 v2 v3 v4 : Int) (v5 v6 v7 : List Int) => lp59_7400 N (St.mk (spread 71 0 [1, 2, 3, 8, 9] [Ab v0, Ai v1, Ap 0 0, Ai v2, Ai v3]) [HA [Ai v4, Fu v5, AV.fsl (Blk.ints .i64 v6), AV.fsl (Blk.ints .i64 v7)]]) K) = plain_Select_l7_L (fun v8 v9 va vb vc vd ve => K (Ex.exit 1) (St.mk (spread 71 0 [1, 2, 3, 8] [Ab v8, Ai v9, Ap 0 0, Ai va]) [HA [Ai vb, Fu vc, AV.fsl (Blk.ints .i64 vd), AV.fsl (Blk.ints .i64 ve)]])) N
  | 0 => by funext v0 v1 v2 v3 v4 v5 v6 v7; rfl
  | N + 1 => by
    funext v0 v1 v2 v3 v4 v5 v6 v7
    simp only [plain_Select_l7_L]
    rw [← plain_Select_l7_L_eq K N]
    kernel_rfl

theorem p59_6000 : PieceOk (V 59) q59 o59 59 0 (3998, 0, c59_6000) := .s (size := 71) (ss := [1, 2, 3]) (F := @o59_6000_in) (by kernel_rfl) fun R r K vs hh h => by
  unfold o59_6000_in at h; split at h
  · rw [plain_Select_j6_unf] at h; exact Eq.trans (by kernel_rfl) h
  · cases h

theorem p59_7400 : PieceOk (V 59) q59 o59 59 0 (3994, 1, c59_7400) := .l (size := 71) (ss := [1, 2, 3, 8, 9]) (F := @o59_7400_in) (by kernel_rfl) (by kernel_rfl) fun R r K vs hh h => by
  unfold o59_7400_in at h; split at h
  · rw [plain_Select_l7_unf] at h; unfold plain_Select_l7_B at h; rw [← plain_Select_l7_L_eq K NR] at h; exact h
  · cases h

theorem p59_15000 : PieceOk (V 59) q59 o59 59 0 (3994, 0, c59_15000) := .s (size := 71) (ss := [1, 2, 3, 8, 11]) (F := @o59_15000_in) (by kernel_rfl) fun R r K vs hh h => by
  unfold o59_15000_in at h; split at h
  · rw [plain_Select_j15_unf] at h; exact Eq.trans (by kernel_rfl) h
  · cases h

theorem pc59 : ∀ x ∈ [(3998, 0, c59_6000), (3994, 1, c59_7400), (3994, 0, c59_15000)], PieceOk (V 59) q59 o59 59 0 x := List.forall_mem_cons.2 ⟨p59_6000, List.forall_mem_cons.2 ⟨p59_7400, List.forall_mem_cons.2 ⟨p59_15000, fun _ h => nomatch h⟩⟩⟩

noncomputable def sp59 : Ev.Spec := fun args _ K => match args with
 | ([AV.agg (Blk.any [Ai v0, Fu v1, AV.fsl (Blk.ints .i64 v2), AV.fsl (Blk.ints .i64 v3)]), Ab v4, Ai v5]) => plain_Select v0 v1 v2 v3 v4 v5 (fun v6 v7 => K (AV.tup [Ai v6, Ai v7]))
 | _ => none
noncomputable def S59 := addS 59 sp59 S16
theorem D73 : Dom B0 V S59 T117 73 := Dom.s (m := 72) (n := 0) D72 D72 (O := o59) (OrcOk.fn (fn0 := Tryz.f59) (by kernel_rfl) (by kernel_rfl) pc59) fun args R K r h => by
 unfold sp59 at h; split at h
 · rw [plain_Select_unf] at h; exact Eq.trans (by kernel_rfl) h
 · cases h

noncomputable def o60_6000_in {R : Type} (K : Ex → St → Option R) (vs : List AV) (hh : H) : Option R := match vs, hh with
 | [Ap 0 0, Ap 1 0, Ap 2 0], [HA [Ai v0, Ai v1, Ai v2, Ai v3, Fu v4, Ai v5, Fu v6, AV.fsl (Blk.ints .i64 v7), AV.fsl (Blk.ints .i64 v8)], HA [Ab v9], HA [Ai va]] => rrr_Select_j6 v0 v1 v2 v3 v4 v5 v6 v7 v8 v9 va (fun vb vc => K (Ex.ret) (St.mk (spread 51 0 [6, 7] [Ai vb, Ai vc]) []))
 | _, _ => none

noncomputable def o60_7400_in {R : Type} (K : Ex → St → Option R) (vs : List AV) (hh : H) : Option R := match vs, hh with
 | [Ap 0 0, Ap 1 0, Ap 2 0, Ai v0], [HA [Ai v1, Ai v2, Ai v3, Ai v4, Fu v5, Ai v6, Fu v7, AV.fsl (Blk.ints .i64 v8), AV.fsl (Blk.ints .i64 v9)], HA [Ab va], HA [Ai vb]] => rrr_Select_l7 v0 v1 v2 v3 v4 v5 v6 v7 v8 v9 va vb (fun vc vd ve vf vg vh vi vj vk vl vm vn => K (Ex.exit 1) (St.mk (spread 51 0 [3, 4, 5, 8] [Ap 0 0, Ap 1 0, Ap 2 0, Ai vc]) [HA [Ai vd, Ai ve, Ai vf, Ai vg, Fu vh, Ai vi, Fu vj, AV.fsl (Blk.ints .i64 vk), AV.fsl (Blk.ints .i64 vl)], HA [Ab vm], HA [Ai vn]]))
 | _, _ => none

noncomputable def o60 : Nat → Option PSpec := lkN [(6000, fun st _ K => pickM 51 [3, 4, 5] st (o60_6000_in K)), (7400, fun st _ K => pickM 51 [3, 4, 5, 8] st (o60_7400_in K))]
noncomputable def q60 : CallF := evFun (V 60) S59 T117 10

noncomputable def c60_6000 : Code := subC [1, 1] (bodyOf Tryz.f60)

noncomputable def c60_7400 : Code := subC [1, 1, 1, 0, 0, 0] (bodyOf Tryz.f60)

noncomputable def lp60_7400 {R : Type} (N : Nat) (st : St) (K : Ex → St → Option R) : Option R := evLoop (norm ((V 60).keep 60 (Ev.keyOf c60_7400 * 1000 + 400)) 0) (evCode (V 60) q60 o60 60 0 3994 c60_7400) N st (kOut (V 60) 60 0 (Ev.keyOf c60_7400 * 1000 + 401) K)

theorem rrr_Select_l7_L_eq {R : Type} (K : Ex → St → Option R) : ∀ N : Nat, (fun (v0 v1 v2 v3 v4 : Int) (v5 : List Int) (v6 : Int) (v7 v8 v9 : List Int) (va : Bool) (vb : Int) => lp60_7400 N (St.mk (spread 51 0 [3, 4, 5, 8] [Ap 0 0, Ap 1 0, Ap 2 0, Ai v0]) [HA [Ai v1, Ai v2, Ai v3, Ai v4, Fu v5, Ai v6, Fu v7, AV.fsl (Blk.ints .i64 v8), AV.fsl (Blk.ints .i64 v9)], HA [Ab va], HA [Ai vb]]) K) = rrr_Select_l7_L (fun vc vd ve vf vg vh vi vj vk vl vm vn => K (Ex.exit 1) (St.mk (spread 51 0 [3, 4, 5, 8] [Ap 0 0, Ap 1 0, Ap 2 0, Ai vc]) [HA [Ai vd, Ai ve, Ai vf, Ai vg, Fu vh, Ai vi, Fu vj, AV.fsl (Blk.ints .i64 vk), AV.fsl (Blk.ints .i64 vl)], HA [Ab vm], HA [Ai vn]])) N
  | 0 => by funext v0 v1 v2 v3 v4 v5 v6 v7 v8 v9 va vb; rfl
  | N + 1 => by
    funext v0 v1 v2 v3 v4 v5 v6 v7 v8 v9 va vb
    simp only [rrr_Select_l7_L]
    rw [← rrr_Select_l7_L_eq K N]
    kernel_rfl

theorem p60_6000 : PieceOk (V 60) q60 o60 60 0 (3998, 0, c60_6000) := .s (size := 51) (ss := [3, 4, 5]) (F := @o60_6000_in) (by kernel_rfl) fun R r K vs hh h => by
  unfold o60_6000_in at h; split at h
  · rw [rrr_Select_j6_unf] at h; exact Eq.trans (by kernel_rfl) h
  · cases h

theorem p60_7400 : PieceOk (V 60) q60 o60 60 0 (3994, 1, c60_7400) := .l (size := 51) (ss := [3, 4, 5, 8]) (F := @o60_7400_in) (by kernel_rfl) (by kernel_rfl) fun R r K vs hh h => by
  unfold o60_7400_in at h; split at h
  · rw [rrr_Select_l7_unf] at h; unfold rrr_Select_l7_B at h; rw [← rrr_Select_l7_L_eq K NR] at h; exact h
  · cases h

theorem pc60 : ∀ x ∈ [(3998, 0, c60_6000), (3994, 1, c60_7400)], PieceOk (V 60) q60 o60 60 0 x := List.forall_mem_cons.2 ⟨p60_6000, List.forall_mem_cons.2 ⟨p60_7400, fun _ h => nomatch h⟩⟩

noncomputable def sp60 : Ev.Spec := fun args _ K => match args with
 | ([AV.agg (Blk.any [Ai v0, Ai v1, Ai v2, Ai v3, Fu v4, Ai v5, Fu v6, AV.fsl (Blk.ints .i64 v7), AV.fsl (Blk.ints .i64 v8)]), Ab v9, Ai va]) => rrr_Select v0 v1 v2 v3 v4 v5 v6 v7 v8 v9 va (fun vb vc => K (AV.tup [Ai vb, Ai vc]))
 | _ => none
noncomputable def S60 := addS 60 sp60 S59
theorem D74 : Dom B0 V S60 T117 74 := Dom.s (m := 73) (n := 0) D73 D73 (O := o60) (OrcOk.fn (fn0 := Tryz.f60) (by kernel_rfl) (by kernel_rfl) pc60) fun args R K r h => by
 unfold sp60 at h; split at h
 · rw [rrr_Select_unf] at h; exact Eq.trans (by kernel_rfl) h
 · cases h

noncomputable def o61_5000_in {R : Type} (K : Ex → St → Option R) (vs : List AV) (hh : H) : Option R := match vs, hh with
 | [Ab v0, Ai v1, Ap 0 0, Ai v2], [HA [Ai v3, Ai v4, Ai v5, Ai v6, Ai v7, Fu v8, Ai v9, Fu va]] => fano_Select_j5 v0 v1 v2 v3 v4 v5 v6 v7 v8 v9 va (fun vb vc => K (Ex.ret) (St.mk (spread 61 0 [6, 7] [Ai vb, Ai vc]) []))
 | _, _ => none

noncomputable def o61_8000_in {R : Type} (K : Ex → St → Option R) (vs : List AV) (hh : H) : Option R := match vs, hh with
 | [Ab v0, Ai v1, Ap 0 0, Ab v2], [HA [Ai v3, Ai v4, Ai v5, Ai v6, Ai v7, Fu v8, Ai v9, Fu va]] => fano_Select_j8 v0 v1 v2 v3 v4 v5 v6 v7 v8 v9 va (fun vb vc => K (Ex.ret) (St.mk (spread 61 0 [6, 7] [Ai vb, Ai vc]) [])) (fun vb vc vd ve vf vg vh vi vj => K (Ex.normal) (St.mk (spread 61 0 [2, 3] [Ai vb, Ap 0 0]) [HA [Ai vc, Ai vd, Ai ve, Ai vf, Ai vg, Fu vh, Ai vi, Fu vj]]))
 | _, _ => none

noncomputable def o61_11000_in {R : Type} (K : Ex → St → Option R) (vs : List AV) (hh : H) : Option R := match vs, hh with
 | [Ai v0, Ap 0 0], [HA [Ai v1, Ai v2, Ai v3, Ai v4, Ai v5, Fu v6, Ai v7, Fu v8]] => fano_Select_j11 v0 v1 v2 v3 v4 v5 v6 v7 v8 (fun v9 va => K (Ex.ret) (St.mk (spread 61 0 [6, 7] [Ai v9, Ai va]) []))
 | _, _ => none

noncomputable def o61_12400_in {R : Type} (K : Ex → St → Option R) (vs : List AV) (hh : H) : Option R := match vs, hh with
 | [Ai v0, Ap 0 0, Ai v1, Ai v2], [HA [Ai v3, Ai v4, Ai v5, Ai v6, Ai v7, Fu v8, Ai v9, Fu va]] => fano_Select_l12 v0 v1 v2 v3 v4 v5 v6 v7 v8 v9 va (fun vb => K (Ex.exit 1) (St.mk (spread 61 0 [9] [Ai vb]) []))
 | _, _ => none

noncomputable def o61 : Nat → Option PSpec := lkN [(5000, fun st _ K => pickM 61 [1, 2, 3, 8] st (o61_5000_in K)), (8000, fun st _ K => pickM 61 [1, 2, 3, 25] st (o61_8000_in K)), (11000, fun st _ K => pickM 61 [2, 3] st (o61_11000_in K)), (12400, fun st _ K => pickM 61 [2, 3, 9, 10] st (o61_12400_in K))]
noncomputable def q61 : CallF := evFun (V 61) S60 T117 10

noncomputable def c61_5000 : Code := subC [1, 1, 1] (bodyOf Tryz.f61)

noncomputable def c61_11000 : Code := subC [1, 1, 1, 1] (bodyOf Tryz.f61)

noncomputable def c61_8000 : Code := subC [1, 1, 1, 0, 0, 1, 1, 1] (bodyOf Tryz.f61)

noncomputable def c61_12400 : Code := subC [1, 1, 1, 1, 1, 0, 0, 0] (bodyOf Tryz.f61)

noncomputable def lp61_12400 {R : Type} (N : Nat) (st : St) (K : Ex → St → Option R) : Option R := evLoop (norm ((V 61).keep 61 (Ev.keyOf c61_12400 * 1000 + 400)) 0) (evCode (V 61) q61 o61 61 0 3992 c61_12400) N st (kOut (V 61) 61 0 (Ev.keyOf c61_12400 * 1000 + 401) K)

theorem fano_Select_l12_L_eq {R : Type} (K : Ex → St → Option R) : ∀ N : Nat, (fun (v0 v1 v2 v3 v4 v5 v6 v7 : Int) (v8 : List Int) (v9 : Int) (va : List Int) => lp61_12400 N (St.mk (spread 61 0 [2, 3, 9, 10] [Ai v0, Ap 0 0, Ai v1, Ai v2]) [HA [Ai v3, Ai v4, Ai v5, Ai v6, Ai v7, Fu v8, Ai v9, Fu va]]) K) = fano_Select_l12_L (fun vb => K (Ex.exit 1) (St.mk (spread 61 0 [9] [Ai vb]) [])) N
  | 0 => by funext v0 v1 v2 v3 v4 v5 v6 v7 v8 v9 va; rfl
  | N + 1 => by
    funext v0 v1 v2 v3 v4 v5 v6 v7 v8 v9 va
    simp only [fano_Select_l12_L]
    rw [← fano_Select_l12_L_eq K N]
    kernel_rfl

theorem p61_5000 : PieceOk (V 61) q61 o61 61 0 (3997, 0, c61_5000) := .s (size := 61) (ss := [1, 2, 3, 8]) (F := @o61_5000_in) (by kernel_rfl) fun R r K vs hh h => by
  unfold o61_5000_in at h; split at h
  · rw [fano_Select_j5_unf] at h; exact Eq.trans (by kernel_rfl) h
  · cases h

theorem p61_11000 : PieceOk (V 61) q61 o61 61 0 (3996, 0, c61_11000) := .s (size := 61) (ss := [2, 3]) (F := @o61_11000_in) (by kernel_rfl) fun R r K vs hh h => by
  unfold o61_11000_in at h; split at h
  · rw [fano_Select_j11_unf] at h; exact Eq.trans (by kernel_rfl) h
  · cases h

theorem p61_8000 : PieceOk (V 61) q61 o61 61 0 (3992, 0, c61_8000) := .s (size := 61) (ss := [1, 2, 3, 25]) (F := @o61_8000_in) (by kernel_rfl) fun R r K vs hh h => by
  unfold o61_8000_in at h; split at h
  · rw [fano_Select_j8_unf] at h; exact Eq.trans (by kernel_rfl) h
  · cases h

theorem p61_12400 : PieceOk (V 61) q61 o61 61 0 (3992, 1, c61_12400) := .l (size := 61) (ss := [2, 3, 9, 10]) (F := @o61_12400_in) (by kernel_rfl) (by kernel_rfl) fun R r K vs hh h => by
  unfold o61_12400_in at h; split at h
  · rw [fano_Select_l12_unf] at h; unfold fano_Select_l12_B at h; rw [← fano_Select_l12_L_eq K NR] at h; exact h
  · cases h

theorem pc61 : ∀ x ∈ [(3997, 0, c61_5000), (3996, 0, c61_11000), (3992, 0, c61_8000), (3992, 1, c61_12400)], PieceOk (V 61) q61 o61 61 0 x := List.forall_mem_cons.2 ⟨p61_5000, List.forall_mem_cons.2 ⟨p61_11000, List.forall_mem_cons.2 ⟨p61_8000, List.forall_mem_cons.2 ⟨p61_12400, fun _ h => nomatch h⟩⟩⟩⟩

noncomputable def sp61 : Ev.Spec := fun args _ K => match args with
 | ([AV.agg (Blk.any [Ai v0, Ai v1, Ai v2, Ai v3, Ai v4, Fu v5, Ai v6, Fu v7]), Ab v8, Ai v9]) => fano_Select v0 v1 v2 v3 v4 v5 v6 v7 v8 v9 (fun va vb => K (AV.tup [Ai va, Ai vb]))
 | _ => none
noncomputable def S61 := addS 61 sp61 S60
theorem D75 : Dom B0 V S61 T117 75 := Dom.s (m := 74) (n := 0) D74 D74 (O := o61) (OrcOk.fn (fn0 := Tryz.f61) (by kernel_rfl) (by kernel_rfl) pc61) fun args R K r h => by
 unfold sp61 at h; split at h
 · rw [fano_Select_unf] at h; exact Eq.trans (by kernel_rfl) h
 · cases h

noncomputable def sp17 : Ev.Spec := fun args _ K => match args with
 | ([AV.agg (Blk.any [Ai v0, Ai v1, Fu v2, AV.fsl (Blk.ints .i64 v3), AV.fsl (Blk.ints .i64 v4), Ai v5, Ai v6, Ai v7, Ai v8, Fu v9, Ai va, Fu vb, AV.fsl (Blk.ints .i64 vc), AV.fsl (Blk.ints .i64 vd), Ai ve, Ai vf, Ai vg, Ai vh, Ai vi, Fu vj, Ai vk, Fu vl]), Ab vm, Ai vn]) => vector_Select v0 v1 v2 v3 v4 v5 v6 v7 v8 v9 va vb vc vd ve vf vg vh vi vj vk vl vm vn (fun vo vp => K (AV.tup [Ai vo, Ai vp]))
 | _ => none
noncomputable def S17 := addS 17 sp17 S61
theorem D76 : Dom B0 V S17 T117 76 := Dom.s (m := 75) (n := 0) D75 D75 (O := (fun _ => none)) (fun _ _ _ _ => OrcOk.none _ _) fun args R K r h => by
 unfold sp17 at h; split at h
 · rw [vector_Select_unf] at h; exact Eq.trans (by kernel_rfl) h
 · cases h

noncomputable def sp68 : Ev.Spec := fun args _ K => match args with
 | ([AV.agg (Blk.any [Ai v0, Fu v1, AV.fsl (Blk.ints .i64 v2), AV.fsl (Blk.ints .i64 v3)])]) => plain_Size v0 v1 v2 v3 (fun v4 => K (Ai v4))
 | _ => none
noncomputable def S68 := addS 68 sp68 S17
theorem D77 : Dom B0 V S68 T117 77 := Dom.s (m := 76) (n := 0) D76 D76 (O := (fun _ => none)) (fun _ _ _ _ => OrcOk.none _ _) fun args R K r h => by
 unfold sp68 at h; split at h
 · rw [plain_Size_unf] at h; exact Eq.trans (by kernel_rfl) h
 · cases h

noncomputable def sp69 : Ev.Spec := fun args _ K => match args with
 | ([AV.agg (Blk.any [Ai v0, Ai v1, Ai v2, Ai v3, Fu v4, Ai v5, Fu v6, AV.fsl (Blk.ints .i64 v7), AV.fsl (Blk.ints .i64 v8)])]) => rrr_Size v0 v1 v2 v3 v4 v5 v6 v7 v8 (fun v9 => K (Ai v9))
 | _ => none
noncomputable def S69 := addS 69 sp69 S68
theorem D78 : Dom B0 V S69 T117 78 := Dom.s (m := 77) (n := 0) D77 D77 (O := (fun _ => none)) (fun _ _ _ _ => OrcOk.none _ _) fun args R K r h => by
 unfold sp69 at h; split at h
 · rw [rrr_Size_unf] at h; exact Eq.trans (by kernel_rfl) h
 · cases h

noncomputable def sp70 : Ev.Spec := fun args _ K => match args with
 | ([AV.agg (Blk.any [Ai v0, Ai v1, Ai v2, Ai v3, Ai v4, Fu v5, Ai v6, Fu v7])]) => fano_Size v0 v1 v2 v3 v4 v5 v6 v7 (fun v8 => K (Ai v8))
 | _ => none
noncomputable def S70 := addS 70 sp70 S69
theorem D79 : Dom B0 V S70 T117 79 := Dom.s (m := 78) (n := 0) D78 D78 (O := (fun _ => none)) (fun _ _ _ _ => OrcOk.none _ _) fun args R K r h => by
 unfold sp70 at h; split at h
 · rw [fano_Size_unf] at h; exact Eq.trans (by kernel_rfl) h
 · cases h

noncomputable def sp20 : Ev.Spec := fun args _ K => match args with
 | ([AV.agg (Blk.any [Ai v0, Ai v1, Fu v2, AV.fsl (Blk.ints .i64 v3), AV.fsl (Blk.ints .i64 v4), Ai v5, Ai v6, Ai v7, Ai v8, Fu v9, Ai va, Fu vb, AV.fsl (Blk.ints .i64 vc), AV.fsl (Blk.ints .i64 vd), Ai ve, Ai vf, Ai vg, Ai vh, Ai vi, Fu vj, Ai vk, Fu vl])]) => vector_Size v0 v1 v2 v3 v4 v5 v6 v7 v8 v9 va vb vc vd ve vf vg vh vi vj vk vl (fun vm => K (Ai vm))
 | _ => none
noncomputable def S20 := addS 20 sp20 S70
theorem D80 : Dom B0 V S20 T117 80 := Dom.s (m := 79) (n := 0) D79 D79 (O := (fun _ => none)) (fun _ _ _ _ => OrcOk.none _ _) fun args R K r h => by
 unfold sp20 at h; split at h
 · rw [vector_Size_unf] at h; exact Eq.trans (by kernel_rfl) h
 · cases h

noncomputable def sp83 : Ev.Spec := fun args _ K => match args with
 | ([AV.agg (Blk.any [Ai v0, Fu v1, AV.fsl (Blk.ints .i64 v2), AV.fsl (Blk.ints .i64 v3)])]) => plain_Bits v0 v1 v2 v3 (fun v4 v5 => K (AV.agg (Blk.any [Ai v4, Fu v5])))
 | _ => none
noncomputable def S83 := addS 83 sp83 S20
theorem D81 : Dom B0 V S83 T117 81 := Dom.s (m := 80) (n := 0) D80 D80 (O := (fun _ => none)) (fun _ _ _ _ => OrcOk.none _ _) fun args R K r h => by
 unfold sp83 at h; split at h
 · rw [plain_Bits_unf] at h; exact Eq.trans (by kernel_rfl) h
 · cases h

noncomputable def sp84 : Ev.Spec := fun args _ K => match args with
 | ([AV.agg (Blk.any [Ai v0, Ai v1, Ai v2, Ai v3, Fu v4, Ai v5, Fu v6, AV.fsl (Blk.ints .i64 v7), AV.fsl (Blk.ints .i64 v8)])]) => rrr_Bits v0 v1 v2 v3 v4 v5 v6 v7 v8 (fun v9 va => K (AV.agg (Blk.any [Ai v9, Fu va])))
 | _ => none
noncomputable def S84 := addS 84 sp84 S83
theorem D82 : Dom B0 V S84 T117 82 := Dom.s (m := 81) (n := 0) D81 D81 (O := (fun _ => none)) (fun _ _ _ _ => OrcOk.none _ _) fun args R K r h => by
 unfold sp84 at h; split at h
 · rw [rrr_Bits_unf] at h; exact Eq.trans (by kernel_rfl) h
 · cases h

noncomputable def sp85 : Ev.Spec := fun args _ K => match args with
 | ([AV.agg (Blk.any [Ai v0, Ai v1, Ai v2, Ai v3, Ai v4, Fu v5, Ai v6, Fu v7])]) => fano_Bits v0 v1 v2 v3 v4 v5 v6 v7 (fun v8 v9 => K (AV.agg (Blk.any [Ai v8, Fu v9])))
 | _ => none
noncomputable def S85 := addS 85 sp85 S84
theorem D83 : Dom B0 V S85 T117 83 := Dom.s (m := 82) (n := 0) D82 D82 (O := (fun _ => none)) (fun _ _ _ _ => OrcOk.none _ _) fun args R K r h => by
 unfold sp85 at h; split at h
 · rw [fano_Bits_unf] at h; exact Eq.trans (by kernel_rfl) h
 · cases h

noncomputable def sp29 : Ev.Spec := fun args _ K => match args with
 | ([AV.agg (Blk.any [Ai v0, Ai v1, Fu v2, AV.fsl (Blk.ints .i64 v3), AV.fsl (Blk.ints .i64 v4), Ai v5, Ai v6, Ai v7, Ai v8, Fu v9, Ai va, Fu vb, AV.fsl (Blk.ints .i64 vc), AV.fsl (Blk.ints .i64 vd), Ai ve, Ai vf, Ai vg, Ai vh, Ai vi, Fu vj, Ai vk, Fu vl])]) => vector_Bits v0 v1 v2 v3 v4 v5 v6 v7 v8 v9 va vb vc vd ve vf vg vh vi vj vk vl (fun vm vn => K (AV.agg (Blk.any [Ai vm, Fu vn])))
 | _ => none
noncomputable def S29 := addS 29 sp29 S85
theorem D84 : Dom B0 V S29 T117 84 := Dom.s (m := 83) (n := 0) D83 D83 (O := (fun _ => none)) (fun _ _ _ _ => OrcOk.none _ _) fun args R K r h => by
 unfold sp29 at h; split at h
 · rw [vector_Bits_unf] at h; exact Eq.trans (by kernel_rfl) h
 · cases h

noncomputable def o28_4000_in {R : Type} (K : Ex → St → Option R) (vs : List AV) (hh : H) : Option R := match vs, hh with
 | [Ap 0 0, Ap 1 0], [HA [Ai v0, Fu v1], HA [Ai v2, Fu v3]] => haystackref02_Same_j4 v0 v1 v2 v3 (fun v4 => K (Ex.ret) (St.mk (spread 38 0 [4] [Ab v4]) []))
 | _, _ => none

noncomputable def o28_5400_in {R : Type} (K : Ex → St → Option R) (vs : List AV) (hh : H) : Option R := match vs, hh with
 | [Ap 0 0, Ap 1 0, Ai v0], [HA [Ai v1, Fu v2], HA [Ai v3, Fu v4]] => haystackref02_Same_l5 v0 v1 v2 v3 v4 (fun v5 => K (Ex.ret) (St.mk (spread 38 0 [4] [Ab v5]) [])) (fun _ => K (Ex.exit 0) (St.mk (spread 38 0 [] []) []))
 | _, _ => none

noncomputable def o28 : Nat → Option PSpec := lkN [(4000, fun st _ K => pickM 38 [2, 3] st (o28_4000_in K)), (5400, fun st _ K => pickM 38 [2, 3, 5] st (o28_5400_in K))]
noncomputable def q28 : CallF := evFun (V 28) S29 T117 10

noncomputable def c28_4000 : Code := subC [1, 1] (bodyOf Tryz.f28)

noncomputable def c28_5400 : Code := subC [1, 1, 0, 1, 0, 0] (bodyOf Tryz.f28)

noncomputable def lp28_5400 {R : Type} (N : Nat) (st : St) (K : Ex → St → Option R) : Option R := evLoop (norm ((V 28).keep 28 (Ev.keyOf c28_5400 * 1000 + 400)) 0) (evCode (V 28) q28 o28 28 0 3994 c28_5400) N st (kOut (V 28) 28 0 (Ev.keyOf c28_5400 * 1000 + 401) K)

theorem haystackref02_Same_l5_L_eq {R : Type} (K : Ex → St → Option R) : ∀ N : Nat, (fun (v0 v1 : Int) (v2 : List Int) (v3 : Int) (v4 : List Int) => lp28_5400 N (St.mk (spread 38 0 [2, 3, 5] [Ap 0 0, Ap 1 0, Ai v0]) [HA [Ai v1, Fu v2], HA [Ai v3, Fu v4]]) K) = haystackref02_Same_l5_L (fun v5 => K (Ex.ret) (St.mk (spread 38 0 [4] [Ab v5]) [])) (fun _ => K (Ex.exit 0) (St.mk (spread 38 0 [] []) [])) N
  | 0 => by funext v0 v1 v2 v3 v4; rfl
  | N + 1 => by
    funext v0 v1 v2 v3 v4
    simp only [haystackref02_Same_l5_L]
    rw [← haystackref02_Same_l5_L_eq K N]
    kernel_rfl

theorem p28_4000 : PieceOk (V 28) q28 o28 28 0 (3998, 0, c28_4000) := .s (size := 38) (ss := [2, 3]) (F := @o28_4000_in) (by kernel_rfl) fun R r K vs hh h => by
  unfold o28_4000_in at h; split at h
  · rw [haystackref02_Same_j4_unf] at h; exact Eq.trans (by kernel_rfl) h
  · cases h

theorem p28_5400 : PieceOk (V 28) q28 o28 28 0 (3994, 1, c28_5400) := .l (size := 38) (ss := [2, 3, 5]) (F := @o28_5400_in) (by kernel_rfl) (by kernel_rfl) fun R r K vs hh h => by
  unfold o28_5400_in at h; split at h
  · rw [haystackref02_Same_l5_unf] at h; unfold haystackref02_Same_l5_B at h; rw [← haystackref02_Same_l5_L_eq K NR] at h; exact h
  · cases h

theorem pc28 : ∀ x ∈ [(3998, 0, c28_4000), (3994, 1, c28_5400)], PieceOk (V 28) q28 o28 28 0 x := List.forall_mem_cons.2 ⟨p28_4000, List.forall_mem_cons.2 ⟨p28_5400, fun _ h => nomatch h⟩⟩

noncomputable def sp28 : Ev.Spec := fun args _ K => match args with
 | ([AV.agg (Blk.any [Ai v0, Fu v1]), AV.agg (Blk.any [Ai v2, Fu v3])]) => haystackref02_Same v0 v1 v2 v3 (fun v4 => K (Ab v4))
 | _ => none
noncomputable def S28 := addS 28 sp28 S29
theorem D85 : Dom B0 V S28 T117 85 := Dom.s (m := 84) (n := 0) D84 D84 (O := o28) (OrcOk.fn (fn0 := Tryz.f28) (by kernel_rfl) (by kernel_rfl) pc28) fun args R K r h => by
 unfold sp28 at h; split at h
 · rw [haystackref02_Same_unf] at h; exact Eq.trans (by kernel_rfl) h
 · cases h

noncomputable def o13_4000_in {R : Type} (K : Ex → St → Option R) (vs : List AV) (hh : H) : Option R := match vs, hh with
 | [Ap 0 0, Ai v0, Ab v1, Ai v2], [HA [Ai v3, Ai v4, Fu v5, AV.fsl (Blk.ints .i64 v6), AV.fsl (Blk.ints .i64 v7), Ai v8, Ai v9, Ai va, Ai vb, Fu vc, Ai vd, Fu ve, AV.fsl (Blk.ints .i64 vf), AV.fsl (Blk.ints .i64 vg), Ai vh, Ai vi, Ai vj, Ai vk, Ai vl, Fu vm, Ai vn, Fu vo]] => haystacklaw10_heads_j4 v0 v1 v2 v3 v4 v5 v6 v7 v8 v9 va vb vc vd ve vf vg vh vi vj vk vl vm vn vo (fun vp => K (Ex.ret) (St.mk (spread 108 0 [0] [Ab vp]) []))
 | _, _ => none

noncomputable def o13 : Nat → Option PSpec := lkN [(4000, fun st _ K => pickM 108 [1, 2, 3, 4] st (o13_4000_in K))]
noncomputable def q13 : CallF := evFun (V 13) S28 T117 10

noncomputable def c13_4000 : Code := subC [1, 1, 1] (bodyOf Tryz.f13)

theorem haystacklaw10_heads_j4_eq {R : Type} (K : Ex → St → Option R) (v0 : Int) (v1 : Bool) (v2 v3 v4 : Int) (v5 v6 v7 : List Int) (v8 v9 va vb : Int) (vc : List Int) (vd : Int) (ve vf vg : List Int) (vh vi vj vk vl : Int) (vm : List Int) (vn : Int) (vo : List Int) : evCode (V 13) q13 o13 13 0 3997 c13_4000 (St.mk (spread 108 0 [1, 2, 3, 4] [Ap 0 0, Ai v0, Ab v1, Ai v2]) [HA [Ai v3, Ai v4, Fu v5, AV.fsl (Blk.ints .i64 v6), AV.fsl (Blk.ints .i64 v7), Ai v8, Ai v9, Ai va, Ai vb, Fu vc, Ai vd, Fu ve, AV.fsl (Blk.ints .i64 vf), AV.fsl (Blk.ints .i64 vg), Ai vh, Ai vi, Ai vj, Ai vk, Ai vl, Fu vm, Ai vn, Fu vo]]) (kOut (V 13) 13 0 (Ev.keyOf c13_4000 * 1000 + 1) K) = haystacklaw10_heads_j4_B v0 v1 v2 v3 v4 v5 v6 v7 v8 v9 va vb vc vd ve vf vg vh vi vj vk vl vm vn vo (fun vp => K (Ex.ret) (St.mk (spread 108 0 [0] [Ab vp]) [])) := by kernel_rfl

theorem p13_4000 : PieceOk (V 13) q13 o13 13 0 (3997, 0, c13_4000) := .s (size := 108) (ss := [1, 2, 3, 4]) (F := @o13_4000_in) (by kernel_rfl) fun R r K vs hh h => by
  unfold o13_4000_in at h; split at h
  · rw [haystacklaw10_heads_j4_unf] at h; exact (haystacklaw10_heads_j4_eq K _ _ _ _ _ _ _ _ _ _ _ _ _ _ _ _ _ _ _ _ _ _ _ _ _).trans h
  · cases h

theorem pc13 : ∀ x ∈ [(3997, 0, c13_4000)], PieceOk (V 13) q13 o13 13 0 x := List.forall_mem_cons.2 ⟨p13_4000, fun _ h => nomatch h⟩

noncomputable def sp13 : Ev.Spec := fun args _ K => match args with
 | [] => haystacklaw10_heads (fun v0 => K (Ab v0))
 | _ => none
noncomputable def S13 := addS 13 sp13 S28
theorem D86 : Dom B0 V S13 T117 86 := Dom.s (m := 85) (n := 0) D85 D85 (O := o13) (OrcOk.fn (fn0 := Tryz.f13) (by kernel_rfl) (by kernel_rfl) pc13) fun args R K r h => by
 unfold sp13 at h; split at h
 · rw [haystacklaw10_heads_unf] at h; exact Eq.trans (by kernel_rfl) h
 · cases h

noncomputable def sp48 : Ev.Spec := fun args _ K => match args with
 | ([Ai v0]) => haystackref02_Words v0 (fun v1 => K (Ai v1))
 | _ => none
noncomputable def S48 := addS 48 sp48 S13
theorem D87 : Dom B0 V S48 T117 87 := Dom.s (m := 86) (n := 0) D86 D86 (O := (fun _ => none)) (fun _ _ _ _ => OrcOk.none _ _) fun args R K r h => by
 unfold sp48 at h; split at h
 · rw [haystackref02_Words_unf] at h; exact Eq.trans (by kernel_rfl) h
 · cases h

noncomputable def o49_4400_in {R : Type} (K : Ex → St → Option R) (vs : List AV) (hh : H) : Option R := match vs, hh with
 | [Ai v0, Au v1, Ai v2], [] => haystackref01_Mask_l4 v0 v1 v2 (fun v3 => K (Ex.exit 0) (St.mk (spread 20 0 [3] [Au v3]) []))
 | _, _ => none

noncomputable def o49_6000_in {R : Type} (K : Ex → St → Option R) (vs : List AV) (hh : H) : Option R := match vs, hh with
 | [Ai v0, Au v1, Ai v2], [] => haystackref01_Mask_j6 v0 v1 v2 (fun v3 v4 v5 => K (Ex.normal) (St.mk (spread 20 0 [0, 3, 4] [Ai v3, Au v4, Ai v5]) []))
 | _, _ => none

noncomputable def o49 : Nat → Option PSpec := lkN [(4400, fun st _ K => pickM 20 [0, 3, 4] st (o49_4400_in K)), (6000, fun st _ K => pickM 20 [0, 3, 4] st (o49_6000_in K))]
noncomputable def q49 : CallF := evFun (V 49) S48 T117 10

noncomputable def c49_4400 : Code := subC [1, 1, 0, 1, 0, 0] (bodyOf Tryz.f49)

noncomputable def lp49_4400 {R : Type} (N : Nat) (st : St) (K : Ex → St → Option R) : Option R := evLoop (norm ((V 49).keep 49 (Ev.keyOf c49_4400 * 1000 + 400)) 0) (evCode (V 49) q49 o49 49 0 3994 c49_4400) N st (kOut (V 49) 49 0 (Ev.keyOf c49_4400 * 1000 + 401) K)

noncomputable def c49_6000 : Code := subC [1, 1, 0, 1, 0, 0, 1] (bodyOf Tryz.f49)

theorem haystackref01_Mask_l4_L_eq {R : Type} (K : Ex → St → Option R) : ∀ N : Nat, (fun (v0 v1 v2 : Int) => lp49_4400 N (St.mk (spread 20 0 [0, 3, 4] [Ai v0, Au v1, Ai v2]) []) K) = haystackref01_Mask_l4_L (fun v3 => K (Ex.exit 0) (St.mk (spread 20 0 [3] [Au v3]) [])) N
  | 0 => by funext v0 v1 v2; rfl
  | N + 1 => by
    funext v0 v1 v2
    simp only [haystackref01_Mask_l4_L]
    rw [← haystackref01_Mask_l4_L_eq K N]
    kernel_rfl

theorem p49_4400 : PieceOk (V 49) q49 o49 49 0 (3994, 1, c49_4400) := .l (size := 20) (ss := [0, 3, 4]) (F := @o49_4400_in) (by kernel_rfl) (by kernel_rfl) fun R r K vs hh h => by
  unfold o49_4400_in at h; split at h
  · rw [haystackref01_Mask_l4_unf] at h; unfold haystackref01_Mask_l4_B at h; rw [← haystackref01_Mask_l4_L_eq K NR] at h; exact h
  · cases h

theorem p49_6000 : PieceOk (V 49) q49 o49 49 0 (3993, 0, c49_6000) := .s (size := 20) (ss := [0, 3, 4]) (F := @o49_6000_in) (by kernel_rfl) fun R r K vs hh h => by
  unfold o49_6000_in at h; split at h
  · rw [haystackref01_Mask_j6_unf] at h; exact Eq.trans (by kernel_rfl) h
  · cases h

theorem pc49 : ∀ x ∈ [(3994, 1, c49_4400), (3993, 0, c49_6000)], PieceOk (V 49) q49 o49 49 0 x := List.forall_mem_cons.2 ⟨p49_4400, List.forall_mem_cons.2 ⟨p49_6000, fun _ h => nomatch h⟩⟩

noncomputable def sp49 : Ev.Spec := fun args _ K => match args with
 | ([Ai v0]) => haystackref01_Mask v0 (fun v1 => K (Au v1))
 | _ => none
noncomputable def S49 := addS 49 sp49 S48
theorem D88 : Dom B0 V S49 T117 88 := Dom.s (m := 87) (n := 0) D87 D87 (O := o49) (OrcOk.fn (fn0 := Tryz.f49) (by kernel_rfl) (by kernel_rfl) pc49) fun args R K r h => by
 unfold sp49 at h; split at h
 · rw [haystackref01_Mask_unf] at h; exact Eq.trans (by kernel_rfl) h
 · cases h

noncomputable def o12_4000_in {R : Type} (K : Ex → St → Option R) (vs : List AV) (hh : H) : Option R := match vs, hh with
 | [Ap 0 0], [HA [Ai v0, Fu v1]] => haystackref02_Check_j4 v0 v1 (fun v2 => K (Ex.ret) (St.mk (spread 40 0 [2] [Ab v2]) []))
 | _, _ => none

noncomputable def o12 : Nat → Option PSpec := lkN [(4000, fun st _ K => pickM 40 [1] st (o12_4000_in K))]
noncomputable def q12 : CallF := evFun (V 12) S49 T117 10

noncomputable def c12_4000 : Code := subC [1, 1] (bodyOf Tryz.f12)

theorem p12_4000 : PieceOk (V 12) q12 o12 12 0 (3998, 0, c12_4000) := .s (size := 40) (ss := [1]) (F := @o12_4000_in) (by kernel_rfl) fun R r K vs hh h => by
  unfold o12_4000_in at h; split at h
  · rw [haystackref02_Check_j4_unf] at h; exact Eq.trans (by kernel_rfl) h
  · cases h

theorem pc12 : ∀ x ∈ [(3998, 0, c12_4000)], PieceOk (V 12) q12 o12 12 0 x := List.forall_mem_cons.2 ⟨p12_4000, fun _ h => nomatch h⟩

noncomputable def sp12 : Ev.Spec := fun args _ K => match args with
 | ([AV.agg (Blk.any [Ai v0, Fu v1])]) => haystackref02_Check v0 v1 (fun v2 => K (Ab v2))
 | _ => none
noncomputable def S12 := addS 12 sp12 S49
theorem D89 : Dom B0 V S12 T117 89 := Dom.s (m := 88) (n := 0) D88 D88 (O := o12) (OrcOk.fn (fn0 := Tryz.f12) (by kernel_rfl) (by kernel_rfl) pc12) fun args R K r h => by
 unfold sp12 at h; split at h
 · rw [haystackref02_Check_unf] at h; exact Eq.trans (by kernel_rfl) h
 · cases h

noncomputable def o3_4000_in {R : Type} (K : Ex → St → Option R) (vs : List AV) (hh : H) : Option R := match vs, hh with
 | [Ai v0, Ai v1, Ai v2, Ap 0 0], [HA [Ai v3, Fu v4]] => haystacklaw10_VectorAlike_j4 v0 v1 v2 v3 v4 (fun v5 => K (Ex.ret) (St.mk (spread 155 0 [8] [Ab v5]) []))
 | _, _ => none

noncomputable def o3_8000_in {R : Type} (K : Ex → St → Option R) (vs : List AV) (hh : H) : Option R := match vs, hh with
 | [Ai v0, Ap 0 0, Ap 1 0], [HA [Ai v1, Ai v2, Fu v3, AV.fsl (Blk.ints .i64 v4), AV.fsl (Blk.ints .i64 v5), Ai v6, Ai v7, Ai v8, Ai v9, Fu va, Ai vb, Fu vc, AV.fsl (Blk.ints .i64 vd), AV.fsl (Blk.ints .i64 ve), Ai vf, Ai vg, Ai vh, Ai vi, Ai vj, Fu vk, Ai vl, Fu vm], HA [Ai vn, Ai vo, Fu vp, AV.fsl (Blk.ints .i64 vq), AV.fsl (Blk.ints .i64 vr), Ai vs, Ai vt, Ai vu, Ai vv, Fu vw, Ai vx, Fu vy, AV.fsl (Blk.ints .i64 vz), AV.fsl (Blk.ints .i64 v10), Ai v11, Ai v12, Ai v13, Ai v14, Ai v15, Fu v16, Ai v17, Fu v18]] => haystacklaw10_VectorAlike_j8 v0 v1 v2 v3 v4 v5 v6 v7 v8 v9 va vb vc vd ve vf vg vh vi vj vk vl vm vn vo vp vq vr vs vt vu vv vw vx vy vz v10 v11 v12 v13 v14 v15 v16 v17 v18 (fun v19 => K (Ex.ret) (St.mk (spread 155 0 [8] [Ab v19]) []))
 | _, _ => none

noncomputable def o3 : Nat → Option PSpec := lkN [(4000, fun st _ K => pickM 155 [0, 1, 3, 6] st (o3_4000_in K)), (8000, fun st _ K => pickM 155 [3, 9, 11] st (o3_8000_in K))]
noncomputable def q3 : CallF := evFun (V 3) S12 T117 10

noncomputable def c3_4000 : Code := subC [1, 1] (bodyOf Tryz.f3)

noncomputable def c3_8000 : Code := subC [1, 1, 1, 1, 1] (bodyOf Tryz.f3)

theorem haystacklaw10_VectorAlike_j8_eq {R : Type} (K : Ex → St → Option R) (v0 v1 v2 : Int) (v3 v4 v5 : List Int) (v6 v7 v8 v9 : Int) (va : List Int) (vb : Int) (vc vd ve : List Int) (vf vg vh vi vj : Int) (vk : List Int) (vl : Int) (vm : List Int) (vn vo : Int) (vp vq vr : List Int) (vs vt vu vv : Int) (vw : List Int) (vx : Int) (vy vz v10 : List Int) (v11 v12 v13 v14 v15 : Int) (v16 : List Int) (v17 : Int) (v18 : List Int) : evCode (V 3) q3 o3 3 0 3995 c3_8000 (St.mk (spread 155 0 [3, 9, 11] [Ai v0, Ap 0 0, Ap 1 0]) [HA [Ai v1, Ai v2, Fu v3, AV.fsl (Blk.ints .i64 v4), AV.fsl (Blk.ints .i64 v5), Ai v6, Ai v7, Ai v8, Ai v9, Fu va, Ai vb, Fu vc, AV.fsl (Blk.ints .i64 vd), AV.fsl (Blk.ints .i64 ve), Ai vf, Ai vg, Ai vh, Ai vi, Ai vj, Fu vk, Ai vl, Fu vm], HA [Ai vn, Ai vo, Fu vp, AV.fsl (Blk.ints .i64 vq), AV.fsl (Blk.ints .i64 vr), Ai vs, Ai vt, Ai vu, Ai vv, Fu vw, Ai vx, Fu vy, AV.fsl (Blk.ints .i64 vz), AV.fsl (Blk.ints .i64 v10), Ai v11, Ai v12, Ai v13, Ai v14, Ai v15, Fu v16, Ai v17, Fu v18]]) (kOut (V 3) 3 0 (Ev.keyOf c3_8000 * 1000 + 1) K) = haystacklaw10_VectorAlike_j8_B v0 v1 v2 v3 v4 v5 v6 v7 v8 v9 va vb vc vd ve vf vg vh vi vj vk vl vm vn vo vp vq vr vs vt vu vv vw vx vy vz v10 v11 v12 v13 v14 v15 v16 v17 v18 (fun v19 => K (Ex.ret) (St.mk (spread 155 0 [8] [Ab v19]) [])) := by kernel_rfl

theorem p3_4000 : PieceOk (V 3) q3 o3 3 0 (3998, 0, c3_4000) := .s (size := 155) (ss := [0, 1, 3, 6]) (F := @o3_4000_in) (by kernel_rfl) fun R r K vs hh h => by
  unfold o3_4000_in at h; split at h
  · rw [haystacklaw10_VectorAlike_j4_unf] at h; exact Eq.trans (by kernel_rfl) h
  · cases h

theorem p3_8000 : PieceOk (V 3) q3 o3 3 0 (3995, 0, c3_8000) := .s (size := 155) (ss := [3, 9, 11]) (F := @o3_8000_in) (by kernel_rfl) fun R r K vs hh h => by
  unfold o3_8000_in at h; split at h
  · rw [haystacklaw10_VectorAlike_j8_unf] at h; exact (haystacklaw10_VectorAlike_j8_eq K _ _ _ _ _ _ _ _ _ _ _ _ _ _ _ _ _ _ _ _ _ _ _ _ _ _ _ _ _ _ _ _ _ _ _ _ _ _ _ _ _ _ _ _ _).trans h
  · cases h

theorem pc3 : ∀ x ∈ [(3998, 0, c3_4000), (3995, 0, c3_8000)], PieceOk (V 3) q3 o3 3 0 x := List.forall_mem_cons.2 ⟨p3_4000, List.forall_mem_cons.2 ⟨p3_8000, fun _ h => nomatch h⟩⟩

noncomputable def sp3 : Ev.Spec := fun args _ K => match args with
 | ([Ai v0, Ai v1, AV.agg (Blk.any [Ai v2, Fu v3]), Ai v4]) => haystacklaw10_VectorAlike v0 v1 v2 v3 v4 (fun v5 => K (Ab v5))
 | _ => none
noncomputable def S3 := addS 3 sp3 S12
theorem D90 : Dom B0 V S3 T117 90 := Dom.s (m := 89) (n := 0) D89 D89 (O := o3) (OrcOk.fn (fn0 := Tryz.f3) (by kernel_rfl) (by kernel_rfl) pc3) fun args R K r h => by
 unfold sp3 at h; split at h
 · rw [haystacklaw10_VectorAlike_unf] at h; exact Eq.trans (by kernel_rfl) h
 · cases h

noncomputable def o6_4000_in {R : Type} (K : Ex → St → Option R) (vs : List AV) (hh : H) : Option R := match vs, hh with
 | [Ai v0, Ab v1, Ai v2, Ap 0 0], [HA [Ai v3, Fu v4]] => haystacklaw10_VectorBack_j4 v0 v1 v2 v3 v4 (fun v5 => K (Ex.ret) (St.mk (spread 130 0 [8] [Ab v5]) []))
 | _, _ => none

noncomputable def o6_5000_in {R : Type} (K : Ex → St → Option R) (vs : List AV) (hh : H) : Option R := match vs, hh with
 | [Ab v0, Ai v1, Ap 0 0, Ap 1 0, Ai v2], [HA [Ai v3, Fu v4], HA [Ai v5, Ai v6, Fu v7, AV.fsl (Blk.ints .i64 v8), AV.fsl (Blk.ints .i64 v9), Ai va, Ai vb, Ai vc, Ai vd, Fu ve, Ai vf, Fu vg, AV.fsl (Blk.ints .i64 vh), AV.fsl (Blk.ints .i64 vi), Ai vj, Ai vk, Ai vl, Ai vm, Ai vn, Fu vo, Ai vp, Fu vq]] => haystacklaw10_VectorBack_j5 v0 v1 v2 v3 v4 v5 v6 v7 v8 v9 va vb vc vd ve vf vg vh vi vj vk vl vm vn vo vp vq (fun vr => K (Ex.ret) (St.mk (spread 130 0 [8] [Ab vr]) []))
 | _, _ => none

noncomputable def o6_7000_in {R : Type} (K : Ex → St → Option R) (vs : List AV) (hh : H) : Option R := match vs, hh with
 | [Ab v0, Ai v1, Ap 0 0, Ap 1 0], [HA [Ai v2, Fu v3], HA [Ai v4, Ai v5, Fu v6, AV.fsl (Blk.ints .i64 v7), AV.fsl (Blk.ints .i64 v8), Ai v9, Ai va, Ai vb, Ai vc, Fu vd, Ai ve, Fu vf, AV.fsl (Blk.ints .i64 vg), AV.fsl (Blk.ints .i64 vh), Ai vi, Ai vj, Ai vk, Ai vl, Ai vm, Fu vn, Ai vo, Fu vp]] => haystacklaw10_VectorBack_j7 v0 v1 v2 v3 v4 v5 v6 v7 v8 v9 va vb vc vd ve vf vg vh vi vj vk vl vm vn vo vp (fun vq => K (Ex.ret) (St.mk (spread 130 0 [8] [Ab vq]) []))
 | _, _ => none

noncomputable def o6_11000_in {R : Type} (K : Ex → St → Option R) (vs : List AV) (hh : H) : Option R := match vs, hh with
 | [Ab v0, Ai v1, Ap 0 0, Ai v2, Ai v3], [HA [Ai v4, Ai v5, Fu v6, AV.fsl (Blk.ints .i64 v7), AV.fsl (Blk.ints .i64 v8), Ai v9, Ai va, Ai vb, Ai vc, Fu vd, Ai ve, Fu vf, AV.fsl (Blk.ints .i64 vg), AV.fsl (Blk.ints .i64 vh), Ai vi, Ai vj, Ai vk, Ai vl, Ai vm, Fu vn, Ai vo, Fu vp]] => haystacklaw10_VectorBack_j11 v0 v1 v2 v3 v4 v5 v6 v7 v8 v9 va vb vc vd ve vf vg vh vi vj vk vl vm vn vo vp (fun vq => K (Ex.ret) (St.mk (spread 130 0 [8] [Ab vq]) []))
 | _, _ => none

noncomputable def o6 : Nat → Option PSpec := lkN [(4000, fun st _ K => pickM 130 [0, 2, 3, 5] st (o6_4000_in K)), (5000, fun st _ K => pickM 130 [2, 3, 5, 9, 10] st (o6_5000_in K)), (7000, fun st _ K => pickM 130 [2, 3, 5, 9] st (o6_7000_in K)), (11000, fun st _ K => pickM 130 [2, 3, 9, 13, 14] st (o6_11000_in K))]
noncomputable def q6 : CallF := evFun (V 6) S3 T117 10

noncomputable def c6_4000 : Code := subC [1, 1] (bodyOf Tryz.f6)

noncomputable def c6_5000 : Code := subC [1, 1, 1] (bodyOf Tryz.f6)

noncomputable def c6_7000 : Code := subC [1, 1, 1, 1] (bodyOf Tryz.f6)

noncomputable def c6_11000 : Code := subC [1, 1, 1, 1, 1, 1, 1] (bodyOf Tryz.f6)

theorem haystacklaw10_VectorBack_j7_eq {R : Type} (K : Ex → St → Option R) (v0 : Bool) (v1 v2 : Int) (v3 : List Int) (v4 v5 : Int) (v6 v7 v8 : List Int) (v9 va vb vc : Int) (vd : List Int) (ve : Int) (vf vg vh : List Int) (vi vj vk vl vm : Int) (vn : List Int) (vo : Int) (vp : List Int) : evCode (V 6) q6 o6 6 0 3996 c6_7000 (St.mk (spread 130 0 [2, 3, 5, 9] [Ab v0, Ai v1, Ap 0 0, Ap 1 0]) [HA [Ai v2, Fu v3], HA [Ai v4, Ai v5, Fu v6, AV.fsl (Blk.ints .i64 v7), AV.fsl (Blk.ints .i64 v8), Ai v9, Ai va, Ai vb, Ai vc, Fu vd, Ai ve, Fu vf, AV.fsl (Blk.ints .i64 vg), AV.fsl (Blk.ints .i64 vh), Ai vi, Ai vj, Ai vk, Ai vl, Ai vm, Fu vn, Ai vo, Fu vp]]) (kOut (V 6) 6 0 (Ev.keyOf c6_7000 * 1000 + 1) K) = haystacklaw10_VectorBack_j7_B v0 v1 v2 v3 v4 v5 v6 v7 v8 v9 va vb vc vd ve vf vg vh vi vj vk vl vm vn vo vp (fun vq => K (Ex.ret) (St.mk (spread 130 0 [8] [Ab vq]) [])) := by kernel_rfl

theorem p6_4000 : PieceOk (V 6) q6 o6 6 0 (3998, 0, c6_4000) := .s (size := 130) (ss := [0, 2, 3, 5]) (F := @o6_4000_in) (by kernel_rfl) fun R r K vs hh h => by
  unfold o6_4000_in at h; split at h
  · rw [haystacklaw10_VectorBack_j4_unf] at h; exact Eq.trans (by kernel_rfl) h
  · cases h

theorem p6_5000 : PieceOk (V 6) q6 o6 6 0 (3997, 0, c6_5000) := .s (size := 130) (ss := [2, 3, 5, 9, 10]) (F := @o6_5000_in) (by kernel_rfl) fun R r K vs hh h => by
  unfold o6_5000_in at h; split at h
  · rw [haystacklaw10_VectorBack_j5_unf] at h; exact Eq.trans (by kernel_rfl) h
  · cases h

theorem p6_7000 : PieceOk (V 6) q6 o6 6 0 (3996, 0, c6_7000) := .s (size := 130) (ss := [2, 3, 5, 9]) (F := @o6_7000_in) (by kernel_rfl) fun R r K vs hh h => by
  unfold o6_7000_in at h; split at h
  · rw [haystacklaw10_VectorBack_j7_unf] at h; exact (haystacklaw10_VectorBack_j7_eq K _ _ _ _ _ _ _ _ _ _ _ _ _ _ _ _ _ _ _ _ _ _ _ _ _ _).trans h
  · cases h

theorem p6_11000 : PieceOk (V 6) q6 o6 6 0 (3993, 0, c6_11000) := .s (size := 130) (ss := [2, 3, 9, 13, 14]) (F := @o6_11000_in) (by kernel_rfl) fun R r K vs hh h => by
  unfold o6_11000_in at h; split at h
  · rw [haystacklaw10_VectorBack_j11_unf] at h; exact Eq.trans (by kernel_rfl) h
  · cases h

theorem pc6 : ∀ x ∈ [(3998, 0, c6_4000), (3997, 0, c6_5000), (3996, 0, c6_7000), (3993, 0, c6_11000)], PieceOk (V 6) q6 o6 6 0 x := List.forall_mem_cons.2 ⟨p6_4000, List.forall_mem_cons.2 ⟨p6_5000, List.forall_mem_cons.2 ⟨p6_7000, List.forall_mem_cons.2 ⟨p6_11000, fun _ h => nomatch h⟩⟩⟩⟩

noncomputable def sp6 : Ev.Spec := fun args _ K => match args with
 | ([Ai v0, AV.agg (Blk.any [Ai v1, Fu v2]), Ab v3, Ai v4]) => haystacklaw10_VectorBack v0 v1 v2 v3 v4 (fun v5 => K (Ab v5))
 | _ => none
noncomputable def S6 := addS 6 sp6 S3
theorem D91 : Dom B0 V S6 T117 91 := Dom.s (m := 90) (n := 0) D90 D90 (O := o6) (OrcOk.fn (fn0 := Tryz.f6) (by kernel_rfl) (by kernel_rfl) pc6) fun args R K r h => by
 unfold sp6 at h; split at h
 · rw [haystacklaw10_VectorBack_unf] at h; exact Eq.trans (by kernel_rfl) h
 · cases h

theorem ok3 : ∃ sp, SpecOk Tryz.prog (V 3) 3 sp ∧ ∀ args z, sp3 args AV some = some z → sp args AV some = some z := by
  obtain ⟨sp, h1, h2⟩ := Dom.law (P := Tryz.prog) (V := V) (fun f sp h _ => base_ok _ _ f sp h) (fun _ => env_types _ _) (fun _ => env_funs _ _) (fun _ _ => rfl) D91 (f := 3) (sp := sp3) (by kernel_rfl)
  exact ⟨sp, h1, fun args z => h2 args AV some z⟩

theorem ok6 : ∃ sp, SpecOk Tryz.prog (V 6) 6 sp ∧ ∀ args z, sp6 args AV some = some z → sp args AV some = some z := by
  obtain ⟨sp, h1, h2⟩ := Dom.law (P := Tryz.prog) (V := V) (fun f sp h _ => base_ok _ _ f sp h) (fun _ => env_types _ _) (fun _ => env_funs _ _) (fun _ _ => rfl) D91 (f := 6) (sp := sp6) (by kernel_rfl)
  exact ⟨sp, h1, fun args z => h2 args AV some z⟩

end Go.Proofs.YtofblchonjfdbaaGreatDoor
