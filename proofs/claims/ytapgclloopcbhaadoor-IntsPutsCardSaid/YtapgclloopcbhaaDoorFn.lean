/- The functions that this seat's laws reach, as plain functions, and that they are what the program does. Printed by a program of this repo (wip/Prt). -/
import Derived.Test.YtapgclloopcbhaaDoorBase
import Derived.Test.YtapgclloopcbhaaDoorEnv
import Derived.Test.YtapgclloopcbhaaDoorEvC
import Derived.KernelRfl
import Derived.Test.YtapgclloopcbhaaDoorFn1
namespace Go.Proofs.YtapgclloopcbhaaDoor
open Go Go.Ev
set_option maxRecDepth 100000

theorem haystackref03_Make_l11_1_L_eq {R : Type} (K : Ex → St → Option R) : ∀ N : Nat, (fun (n942 : Int) (l943 : Nat) (l944 : Nat) (n945 : Int) (n946 : Int) (xs947 : List Int) (n948 : Int) (n949 : Int) (n950 : Int) (bs951 : List Bool) => lp44r1_11400 N (St.mk (spread 71 0 [0, 1, 4, 6, 7, 8] [AV.int .i64 n942, AV.sl 0 0 l943 1, AV.ptr 1 0, AV.sl 2 0 l944 1, AV.int .i64 n945, AV.int .i64 n946]) [HB.live (Blk.ints .u64 xs947), HB.live (Blk.any [AV.int .i64 n948, AV.int .i64 n949, AV.int .i64 n950, AV.esl]), HB.live (Blk.bools bs951)]) K) = haystackref03_Make_l11_1_L (fun x0 x1 x2 x3 x4 x5 x6 x7 x8 => K (Ex.exit 2) (St.mk (spread 71 0 [0, 1, 4, 6, 7] [AV.int .i64 x0, AV.sl 0 0 x1 1, AV.ptr 1 0, AV.sl 2 0 x2 1, AV.int .i64 x3]) [HB.live (Blk.ints .u64 x4), HB.live (Blk.any [AV.int .i64 x5, AV.int .i64 x6, AV.int .i64 x7, AV.esl]), HB.live (Blk.bools x8)])) N
  | 0 => by funext n942 l943 l944 n945 n946 xs947 n948 n949 n950 bs951; rfl
  | N + 1 => by
    funext n942 l943 l944 n945 n946 xs947 n948 n949 n950 bs951
    simp only [haystackref03_Make_l11_1_L]
    rw [← haystackref03_Make_l11_1_L_eq K N]
    kernel_rfl

theorem haystackref03_Make_l11_L_eq {R : Type} (K : Ex → St → Option R) : ∀ N : Nat, (fun (n932 : Int) (l933 : Nat) (n934 : Int) (n935 : Int) (xs936 : List Int) (n937 : Int) (n938 : Int) (n939 : Int) => lp44r1_11400 N (St.mk (spread 71 0 [0, 1, 4, 6, 7, 8] [AV.int .i64 n932, AV.sl 0 0 l933 1, AV.ptr 1 0, AV.esl, AV.int .i64 n934, AV.int .i64 n935]) [HB.live (Blk.ints .u64 xs936), HB.live (Blk.any [AV.int .i64 n937, AV.int .i64 n938, AV.int .i64 n939, AV.esl])]) K) = haystackref03_Make_l11_L (fun x0 x1 x2 x3 x4 x5 x6 x7 x8 => K (Ex.exit 2) (St.mk (spread 71 0 [0, 1, 4, 6, 7] [AV.int .i64 x0, AV.sl 0 0 x1 1, AV.ptr 1 0, AV.sl 2 0 x2 1, AV.int .i64 x3]) [HB.live (Blk.ints .u64 x4), HB.live (Blk.any [AV.int .i64 x5, AV.int .i64 x6, AV.int .i64 x7, AV.esl]), HB.live (Blk.bools x8)])) (fun x0 x1 x2 x3 x4 x5 x6 => K (Ex.exit 2) (St.mk (spread 71 0 [0, 1, 4, 6, 7] [AV.int .i64 x0, AV.sl 0 0 x1 1, AV.ptr 1 0, AV.esl, AV.int .i64 x2]) [HB.live (Blk.ints .u64 x3), HB.live (Blk.any [AV.int .i64 x4, AV.int .i64 x5, AV.int .i64 x6, AV.esl])])) N
  | 0 => by funext n932 l933 n934 n935 xs936 n937 n938 n939; rfl
  | N + 1 => by
    funext n932 l933 n934 n935 xs936 n937 n938 n939
    simp only [haystackref03_Make_l11_L]
    rw [← haystackref03_Make_l11_L_eq K N, ← haystackref03_Make_l11_1_L_eq K N]
    kernel_rfl

theorem haystackref03_Make_l6_1_L_eq {R : Type} (K : Ex → St → Option R) : ∀ N : Nat, (fun (n966 : Int) (l967 : Nat) (l968 : Nat) (n969 : Int) (xs970 : List Int) (n971 : Int) (n972 : Int) (n973 : Int) (bs974 : List Bool) => lp44r1_6400 N (St.mk (spread 71 0 [0, 1, 4, 6, 7] [AV.int .i64 n966, AV.sl 0 0 l967 1, AV.ptr 1 0, AV.sl 2 0 l968 1, AV.int .i64 n969]) [HB.live (Blk.ints .u64 xs970), HB.live (Blk.any [AV.int .i64 n971, AV.int .i64 n972, AV.int .i64 n973, AV.esl]), HB.live (Blk.bools bs974)]) K) = haystackref03_Make_l6_1_L (fun x0 x1 x2 x3 x4 => K (Ex.ret) (St.mk (spread 71 0 [4, 5] [AV.ptr 1 0, AV.int .i64 x0]) [HB.live (Blk.ints .u64 x1), HB.live (Blk.any [AV.int .i64 x2, AV.int .i64 x3, AV.int .i64 x4, AV.esl])])) (fun x0 x1 x2 x3 x4 x5 x6 x7 => K (Ex.exit 0) (St.mk (spread 71 0 [0, 1, 4, 6] [AV.int .i64 x0, AV.sl 0 0 x1 1, AV.ptr 1 0, AV.sl 2 0 x2 1]) [HB.live (Blk.ints .u64 x3), HB.live (Blk.any [AV.int .i64 x4, AV.int .i64 x5, AV.int .i64 x6, AV.esl]), HB.live (Blk.bools x7)])) N
  | 0 => by funext n966 l967 l968 n969 xs970 n971 n972 n973 bs974; rfl
  | N + 1 => by
    funext n966 l967 l968 n969 xs970 n971 n972 n973 bs974
    simp only [haystackref03_Make_l6_1_L]
    rw [← haystackref03_Make_l6_1_L_eq K N]
    kernel_rfl

theorem haystackref03_Make_l6_L_eq {R : Type} (K : Ex → St → Option R) : ∀ N : Nat, (fun (n924 : Int) (l925 : Nat) (n926 : Int) (xs927 : List Int) (n928 : Int) (n929 : Int) (n930 : Int) => lp44r1_6400 N (St.mk (spread 71 0 [0, 1, 4, 6, 7] [AV.int .i64 n924, AV.sl 0 0 l925 1, AV.ptr 1 0, AV.esl, AV.int .i64 n926]) [HB.live (Blk.ints .u64 xs927), HB.live (Blk.any [AV.int .i64 n928, AV.int .i64 n929, AV.int .i64 n930, AV.esl])]) K) = haystackref03_Make_l6_L (fun x0 x1 x2 x3 x4 => K (Ex.ret) (St.mk (spread 71 0 [4, 5] [AV.ptr 1 0, AV.int .i64 x0]) [HB.live (Blk.ints .u64 x1), HB.live (Blk.any [AV.int .i64 x2, AV.int .i64 x3, AV.int .i64 x4, AV.esl])])) (fun x0 x1 x2 x3 x4 x5 x6 x7 => K (Ex.exit 0) (St.mk (spread 71 0 [0, 1, 4, 6] [AV.int .i64 x0, AV.sl 0 0 x1 1, AV.ptr 1 0, AV.sl 2 0 x2 1]) [HB.live (Blk.ints .u64 x3), HB.live (Blk.any [AV.int .i64 x4, AV.int .i64 x5, AV.int .i64 x6, AV.esl]), HB.live (Blk.bools x7)])) (fun x0 x1 x2 x3 x4 x5 => K (Ex.exit 0) (St.mk (spread 71 0 [0, 1, 4, 6] [AV.int .i64 x0, AV.sl 0 0 x1 1, AV.ptr 1 0, AV.esl]) [HB.live (Blk.ints .u64 x2), HB.live (Blk.any [AV.int .i64 x3, AV.int .i64 x4, AV.int .i64 x5, AV.esl])])) N
  | 0 => by funext n924 l925 n926 xs927 n928 n929 n930; rfl
  | N + 1 => by
    funext n924 l925 n926 xs927 n928 n929 n930
    simp only [haystackref03_Make_l6_L]
    rw [← haystackref03_Make_l6_L_eq K N, ← haystackref03_Make_l6_1_L_eq K N]
    kernel_rfl

theorem p44r1_4000 : PieceOk (V 44) q44r1 o44r1 44 1 (3998, 0, c44r1_4000) := .s (size := 71) (ss := [0, 1, 4]) (F := @o44r1_4000_in) (by kernel_rfl) fun R r K vs hh h => by
  unfold o44r1_4000_in at h; split at h
  · rw [haystackref03_Make_j4_unf] at h; exact Eq.trans (by kernel_rfl) h
  · cases h

theorem p44r1_3000 : PieceOk (V 44) q44r1 o44r1 44 1 (3997, 0, c44r1_3000) := .s (size := 71) (ss := [0, 1, 4, 28]) (F := @o44r1_3000_in) (by kernel_rfl) fun R r K vs hh h => by
  unfold o44r1_3000_in at h; split at h
  · rw [haystackref03_Make_j3_unf] at h; exact Eq.trans (by kernel_rfl) h
  · cases h

theorem p44r1_6400 : PieceOk (V 44) q44r1 o44r1 44 1 (3993, 1, c44r1_6400) := .l (size := 71) (ss := [0, 1, 4, 6, 7]) (F := @o44r1_6400_in) (by kernel_rfl) (by kernel_rfl) fun R r K vs hh h => by
  unfold o44r1_6400_in at h; split at h
  · rw [haystackref03_Make_l6_unf] at h; unfold haystackref03_Make_l6_B at h; rw [← haystackref03_Make_l6_L_eq K NR] at h; exact h
  · rw [haystackref03_Make_l6_1_unf] at h; unfold haystackref03_Make_l6_1_B at h; rw [← haystackref03_Make_l6_1_L_eq K NR] at h; exact h
  · cases h

theorem p44r1_11400 : PieceOk (V 44) q44r1 o44r1 44 1 (3986, 1, c44r1_11400) := .l (size := 71) (ss := [0, 1, 4, 6, 7, 8]) (F := @o44r1_11400_in) (by kernel_rfl) (by kernel_rfl) fun R r K vs hh h => by
  unfold o44r1_11400_in at h; split at h
  · rw [haystackref03_Make_l11_unf] at h; unfold haystackref03_Make_l11_B at h; rw [← haystackref03_Make_l11_L_eq K NR] at h; exact h
  · rw [haystackref03_Make_l11_1_unf] at h; unfold haystackref03_Make_l11_1_B at h; rw [← haystackref03_Make_l11_1_L_eq K NR] at h; exact h
  · cases h

theorem pc44r1 : ∀ x ∈ [(3998, 0, c44r1_4000), (3997, 0, c44r1_3000), (3993, 1, c44r1_6400), (3986, 1, c44r1_11400)], PieceOk (V 44) q44r1 o44r1 44 1 x := List.forall_mem_cons.2 ⟨p44r1_4000, List.forall_mem_cons.2 ⟨p44r1_3000, List.forall_mem_cons.2 ⟨p44r1_6400, List.forall_mem_cons.2 ⟨p44r1_11400, fun _ h => nomatch h⟩⟩⟩⟩

theorem haystackref03_Make_r_eq {R : Type} (K : AV → H → Option R) (n897 : Int) (l898 : Nat) (xs899 : List Int) : evH (V 44) S83 T83 o44r1 10 44 [AV.int .i64 n897, AV.sl 0 0 l898 1] [HB.live (Blk.ints .u64 xs899)] R K = haystackref03_Make_r_B n897 l898 xs899 (fun x0 x1 x2 x3 x4 => K (AV.tup [AV.agg (Blk.any [AV.int .i64 x0, AV.int .i64 x1, AV.int .i64 x2, AV.esl]), AV.int .i64 x3]) ([HB.live (Blk.ints .u64 x4)])) (fun x0 x1 x2 x3 x4 x5 x6 => K (AV.tup [AV.agg (Blk.any [AV.int .i64 x0, AV.int .i64 x1, AV.int .i64 x2, AV.sl 1 0 x3 1]), AV.int .i64 x4]) ([HB.live (Blk.ints .u64 x5), HB.live (Blk.ints .u64 x6)])) (fun x0 x1 x2 x3 x4 x5 => K (AV.tup [AV.agg (Blk.any [AV.int .i64 x0, AV.int .i64 x1, AV.int .i64 x2, AV.fsl (Blk.ints .u64 x3)]), AV.int .i64 x4]) ([HB.live (Blk.ints .u64 x5)])) := by kernel_rfl

noncomputable def hs44 : HSpec := fun args h _ K => match args, h with
  | [AV.int .i64 n897, AV.sl 0 0 l898 1], [HB.live (Blk.ints .u64 xs899)] => haystackref03_Make_r n897 l898 xs899 (fun x0 x1 x2 x3 x4 => K (AV.tup [AV.agg (Blk.any [AV.int .i64 x0, AV.int .i64 x1, AV.int .i64 x2, AV.esl]), AV.int .i64 x3]) ([HB.live (Blk.ints .u64 x4)])) (fun x0 x1 x2 x3 x4 x5 x6 => K (AV.tup [AV.agg (Blk.any [AV.int .i64 x0, AV.int .i64 x1, AV.int .i64 x2, AV.sl 1 0 x3 1]), AV.int .i64 x4]) ([HB.live (Blk.ints .u64 x5), HB.live (Blk.ints .u64 x6)])) (fun x0 x1 x2 x3 x4 x5 => K (AV.tup [AV.agg (Blk.any [AV.int .i64 x0, AV.int .i64 x1, AV.int .i64 x2, AV.fsl (Blk.ints .u64 x3)]), AV.int .i64 x4]) ([HB.live (Blk.ints .u64 x5)]))
  | _, _ => none
noncomputable def T44 := addT 44 hs44 T83
theorem D44 : Dom B0 V S83 T44 44 := Dom.t D43 fun args hh R K r h => by
  unfold hs44 at h; split at h
  · rw [haystackref03_Make_r_unf] at h; exact ⟨o44r1, (OrcOk.fn (fn0 := Tryd.f44) (by kernel_rfl) (by kernel_rfl) pc44r1), (haystackref03_Make_r_eq K _ _ _).trans h⟩
  · cases h

noncomputable def o43_5000_in {R : Type} (K : Ex → St → Option R) (vs : List AV) (hh : H) : Option R := match vs, hh with
  | [AV.int .i64 n798, AV.int .u64 n799, AV.ptr 0 0, AV.ptr 1 0, AV.bool b800], [HB.live (Blk.any [AV.int .i64 n801, AV.int .i64 n802, AV.int .i64 n803, AV.fsl (Blk.ints .u64 xs804)]), HB.live (Blk.any [AV.int .i64 n805, AV.int .i64 n806, AV.int .i64 n807, AV.esl])] => haystackref03_Put_j5 n798 n799 b800 n801 n802 n803 xs804 n805 n806 n807 (fun x0 x1 x2 x3 x4 => K (Ex.ret) (St.mk (spread 40 0 [6, 7] [AV.ptr 0 0, AV.int .i64 x0]) [HB.live (Blk.any [AV.int .i64 x1, AV.int .i64 x2, AV.int .i64 x3, AV.fsl (Blk.ints .u64 x4)])])) (fun x0 x1 x2 x3 x4 x5 x6 x7 x8 => K (Ex.normal) (St.mk (spread 40 0 [1, 2, 3, 6] [AV.int .i64 x0, AV.int .u64 x1, AV.ptr 0 0, AV.ptr 1 0]) [HB.live (Blk.any [AV.int .i64 x2, AV.int .i64 x3, AV.int .i64 x4, AV.fsl (Blk.ints .u64 x5)]), HB.live (Blk.any [AV.int .i64 x6, AV.int .i64 x7, AV.int .i64 x8, AV.esl])]))
  | _, _ => none

noncomputable def o43_6000_in {R : Type} (K : Ex → St → Option R) (vs : List AV) (hh : H) : Option R := match vs, hh with
  | [AV.int .i64 n822, AV.int .u64 n823, AV.ptr 0 0, AV.ptr 1 0], [HB.live (Blk.any [AV.int .i64 n824, AV.int .i64 n825, AV.int .i64 n826, AV.fsl (Blk.ints .u64 xs827)]), HB.live (Blk.any [AV.int .i64 n828, AV.int .i64 n829, AV.int .i64 n830, AV.esl])] => haystackref03_Put_j6 n822 n823 n824 n825 n826 xs827 n828 n829 n830 (fun x0 x1 x2 x3 x4 => K (Ex.ret) (St.mk (spread 40 0 [6, 7] [AV.ptr 0 0, AV.int .i64 x0]) [HB.live (Blk.any [AV.int .i64 x1, AV.int .i64 x2, AV.int .i64 x3, AV.fsl (Blk.ints .u64 x4)])])) (fun x0 x1 x2 x3 => K (Ex.ret) (St.mk (spread 40 0 [6, 7] [AV.ptr 0 0, AV.int .i64 x0]) [HB.live (Blk.any [AV.int .i64 x1, AV.int .i64 x2, AV.int .i64 x3, AV.esl])])) (fun x0 x1 x2 x3 x4 x5 => K (Ex.ret) (St.mk (spread 40 0 [6, 7] [AV.ptr 0 0, AV.int .i64 x0]) [HB.live (Blk.any [AV.int .i64 x1, AV.int .i64 x2, AV.int .i64 x3, AV.sl 1 0 x4 1]), HB.live (Blk.ints .u64 x5)]))
  | _, _ => none

noncomputable def o43 : Nat → Option PSpec := lkN [(5000, fun st _ K => pickM 40 [1, 2, 3, 6, 20] st (o43_5000_in K)), (6000, fun st _ K => pickM 40 [1, 2, 3, 6] st (o43_6000_in K))]
noncomputable def q43 : CallF := evFun (V 43) S83 T44 10

noncomputable def c43_6000 : Code := subC [1, 1, 1] (bodyOf Tryd.f43)

noncomputable def c43_5000 : Code := subC [1, 1, 0, 1] (bodyOf Tryd.f43)

theorem p43_6000 : PieceOk (V 43) q43 o43 43 0 (3997, 0, c43_6000) := .s (size := 40) (ss := [1, 2, 3, 6]) (F := @o43_6000_in) (by kernel_rfl) fun R r K vs hh h => by
  unfold o43_6000_in at h; split at h
  · rw [haystackref03_Put_j6_unf] at h; exact Eq.trans (by kernel_rfl) h
  · cases h

theorem p43_5000 : PieceOk (V 43) q43 o43 43 0 (3996, 0, c43_5000) := .s (size := 40) (ss := [1, 2, 3, 6, 20]) (F := @o43_5000_in) (by kernel_rfl) fun R r K vs hh h => by
  unfold o43_5000_in at h; split at h
  · rw [haystackref03_Put_j5_unf] at h; exact Eq.trans (by kernel_rfl) h
  · cases h

theorem pc43 : ∀ x ∈ [(3997, 0, c43_6000), (3996, 0, c43_5000)], PieceOk (V 43) q43 o43 43 0 x := List.forall_mem_cons.2 ⟨p43_6000, List.forall_mem_cons.2 ⟨p43_5000, fun _ h => nomatch h⟩⟩

theorem haystackref03_Put_eq {R : Type} (K : AV → Option R) (n791 : Int) (n792 : Int) (n793 : Int) (xs794 : List Int) (n795 : Int) (n796 : Int) : evSpec (V 43) S83 T44 o43 10 43 ([AV.agg (Blk.any [AV.int .i64 n791, AV.int .i64 n792, AV.int .i64 n793, AV.fsl (Blk.ints .u64 xs794)]), AV.int .i64 n795, AV.int .u64 n796]) R K = haystackref03_Put_B n791 n792 n793 xs794 n795 n796 (fun x0 x1 x2 x3 x4 => K (AV.tup [AV.agg (Blk.any [AV.int .i64 x0, AV.int .i64 x1, AV.int .i64 x2, AV.fsl (Blk.ints .u64 x3)]), AV.int .i64 x4])) := by kernel_rfl

noncomputable def sp43 : Ev.Spec := fun args _ K => match args with
  | ([AV.agg (Blk.any [AV.int .i64 n791, AV.int .i64 n792, AV.int .i64 n793, AV.fsl (Blk.ints .u64 xs794)]), AV.int .i64 n795, AV.int .u64 n796]) => haystackref03_Put n791 n792 n793 xs794 n795 n796 (fun x0 x1 x2 x3 x4 => K (AV.tup [AV.agg (Blk.any [AV.int .i64 x0, AV.int .i64 x1, AV.int .i64 x2, AV.fsl (Blk.ints .u64 x3)]), AV.int .i64 x4]))
  | _ => none
noncomputable def S43 := addS 43 sp43 S83
theorem D45 : Dom B0 V S43 T44 45 := Dom.s (m := 44) (n := 0) D44 D44 (O := o43) (OrcOk.fn (fn0 := Tryd.f43) (by kernel_rfl) (by kernel_rfl) pc43) fun args R K r h => by
  unfold sp43 at h; split at h
  · rw [haystackref03_Put_unf] at h; exact (haystackref03_Put_eq K _ _ _ _ _ _).trans h
  · cases h

noncomputable def o44_3000_in {R : Type} (K : Ex → St → Option R) (vs : List AV) (hh : H) : Option R := match vs, hh with
  | [AV.int .i64 n1315, AV.fsl (Blk.ints .u64 xs1316), AV.ptr 0 0, AV.bool b1317], [HB.live (Blk.any [AV.int .i64 n1318, AV.int .i64 n1319, AV.int .i64 n1320, AV.esl])] => haystackref03_Make_j3_1 n1315 xs1316 b1317 n1318 n1319 n1320 (fun x0 x1 x2 x3 => K (Ex.ret) (St.mk (spread 71 0 [4, 5] [AV.ptr 0 0, AV.int .i64 x0]) [HB.live (Blk.any [AV.int .i64 x1, AV.int .i64 x2, AV.int .i64 x3, AV.esl])])) (fun x0 x1 x2 x3 x4 => K (Ex.normal) (St.mk (spread 71 0 [0, 1, 4] [AV.int .i64 x0, AV.fsl (Blk.ints .u64 x1), AV.ptr 0 0]) [HB.live (Blk.any [AV.int .i64 x2, AV.int .i64 x3, AV.int .i64 x4, AV.esl])]))
  | _, _ => none

noncomputable def o44_4000_in {R : Type} (K : Ex → St → Option R) (vs : List AV) (hh : H) : Option R := match vs, hh with
  | [AV.int .i64 n1330, AV.fsl (Blk.ints .u64 xs1331), AV.ptr 0 0], [HB.live (Blk.any [AV.int .i64 n1332, AV.int .i64 n1333, AV.int .i64 n1334, AV.esl])] => haystackref03_Make_j4_1 n1330 xs1331 n1332 n1333 n1334 (fun x0 x1 x2 x3 => K (Ex.ret) (St.mk (spread 71 0 [4, 5] [AV.ptr 0 0, AV.int .i64 x0]) [HB.live (Blk.any [AV.int .i64 x1, AV.int .i64 x2, AV.int .i64 x3, AV.esl])])) (fun x0 x1 x2 x3 x4 x5 => K (Ex.ret) (St.mk (spread 71 0 [4, 5] [AV.ptr 0 0, AV.int .i64 x0]) [HB.live (Blk.any [AV.int .i64 x1, AV.int .i64 x2, AV.int .i64 x3, AV.sl 1 0 x4 1]), HB.live (Blk.ints .u64 x5)])) (fun x0 x1 x2 x3 x4 => K (Ex.ret) (St.mk (spread 71 0 [4, 5] [AV.ptr 0 0, AV.int .i64 x0]) [HB.live (Blk.any [AV.int .i64 x1, AV.int .i64 x2, AV.int .i64 x3, AV.fsl (Blk.ints .u64 x4)])]))
  | _, _ => none

noncomputable def o44_6400_in {R : Type} (K : Ex → St → Option R) (vs : List AV) (hh : H) : Option R := match vs, hh with
  | [AV.int .i64 n1335, AV.fsl (Blk.ints .u64 xs1336), AV.ptr 0 0, AV.esl, AV.int .i64 n1337], [HB.live (Blk.any [AV.int .i64 n1338, AV.int .i64 n1339, AV.int .i64 n1340, AV.esl])] => haystackref03_Make_l6_2 n1335 xs1336 n1337 n1338 n1339 n1340 (fun x0 x1 x2 x3 => K (Ex.ret) (St.mk (spread 71 0 [4, 5] [AV.ptr 0 0, AV.int .i64 x0]) [HB.live (Blk.any [AV.int .i64 x1, AV.int .i64 x2, AV.int .i64 x3, AV.esl])])) (fun x0 x1 x2 x3 x4 x5 x6 => K (Ex.exit 0) (St.mk (spread 71 0 [0, 1, 4, 6] [AV.int .i64 x0, AV.fsl (Blk.ints .u64 x1), AV.ptr 0 0, AV.sl 1 0 x2 1]) [HB.live (Blk.any [AV.int .i64 x3, AV.int .i64 x4, AV.int .i64 x5, AV.esl]), HB.live (Blk.bools x6)])) (fun x0 x1 x2 x3 x4 => K (Ex.exit 0) (St.mk (spread 71 0 [0, 1, 4, 6] [AV.int .i64 x0, AV.fsl (Blk.ints .u64 x1), AV.ptr 0 0, AV.esl]) [HB.live (Blk.any [AV.int .i64 x2, AV.int .i64 x3, AV.int .i64 x4, AV.esl])]))
  | [AV.int .i64 n1373, AV.fsl (Blk.ints .u64 xs1374), AV.ptr 0 0, AV.sl 1 0 l1375 1, AV.int .i64 n1376], [HB.live (Blk.any [AV.int .i64 n1377, AV.int .i64 n1378, AV.int .i64 n1379, AV.esl]), HB.live (Blk.bools bs1380)] => haystackref03_Make_l6_3 n1373 xs1374 l1375 n1376 n1377 n1378 n1379 bs1380 (fun x0 x1 x2 x3 => K (Ex.ret) (St.mk (spread 71 0 [4, 5] [AV.ptr 0 0, AV.int .i64 x0]) [HB.live (Blk.any [AV.int .i64 x1, AV.int .i64 x2, AV.int .i64 x3, AV.esl])])) (fun x0 x1 x2 x3 x4 x5 x6 => K (Ex.exit 0) (St.mk (spread 71 0 [0, 1, 4, 6] [AV.int .i64 x0, AV.fsl (Blk.ints .u64 x1), AV.ptr 0 0, AV.sl 1 0 x2 1]) [HB.live (Blk.any [AV.int .i64 x3, AV.int .i64 x4, AV.int .i64 x5, AV.esl]), HB.live (Blk.bools x6)]))
  | _, _ => none

noncomputable def o44_11400_in {R : Type} (K : Ex → St → Option R) (vs : List AV) (hh : H) : Option R := match vs, hh with
  | [AV.int .i64 n1342, AV.fsl (Blk.ints .u64 xs1343), AV.ptr 0 0, AV.esl, AV.int .i64 n1344, AV.int .i64 n1345], [HB.live (Blk.any [AV.int .i64 n1346, AV.int .i64 n1347, AV.int .i64 n1348, AV.esl])] => haystackref03_Make_l11_2 n1342 xs1343 n1344 n1345 n1346 n1347 n1348 (fun x0 x1 x2 x3 x4 x5 x6 x7 => K (Ex.exit 2) (St.mk (spread 71 0 [0, 1, 4, 6, 7] [AV.int .i64 x0, AV.fsl (Blk.ints .u64 x1), AV.ptr 0 0, AV.sl 1 0 x2 1, AV.int .i64 x3]) [HB.live (Blk.any [AV.int .i64 x4, AV.int .i64 x5, AV.int .i64 x6, AV.esl]), HB.live (Blk.bools x7)])) (fun x0 x1 x2 x3 x4 x5 => K (Ex.exit 2) (St.mk (spread 71 0 [0, 1, 4, 6, 7] [AV.int .i64 x0, AV.fsl (Blk.ints .u64 x1), AV.ptr 0 0, AV.esl, AV.int .i64 x2]) [HB.live (Blk.any [AV.int .i64 x3, AV.int .i64 x4, AV.int .i64 x5, AV.esl])]))
  | [AV.int .i64 n1351, AV.fsl (Blk.ints .u64 xs1352), AV.ptr 0 0, AV.sl 1 0 l1353 1, AV.int .i64 n1354, AV.int .i64 n1355], [HB.live (Blk.any [AV.int .i64 n1356, AV.int .i64 n1357, AV.int .i64 n1358, AV.esl]), HB.live (Blk.bools bs1359)] => haystackref03_Make_l11_3 n1351 xs1352 l1353 n1354 n1355 n1356 n1357 n1358 bs1359 (fun x0 x1 x2 x3 x4 x5 x6 x7 => K (Ex.exit 2) (St.mk (spread 71 0 [0, 1, 4, 6, 7] [AV.int .i64 x0, AV.fsl (Blk.ints .u64 x1), AV.ptr 0 0, AV.sl 1 0 x2 1, AV.int .i64 x3]) [HB.live (Blk.any [AV.int .i64 x4, AV.int .i64 x5, AV.int .i64 x6, AV.esl]), HB.live (Blk.bools x7)]))
  | _, _ => none

noncomputable def o44 : Nat → Option PSpec := lkN [(3000, fun st _ K => pickM 71 [0, 1, 4, 28] st (o44_3000_in K)), (4000, fun st _ K => pickM 71 [0, 1, 4] st (o44_4000_in K)), (6400, fun st _ K => pickM 71 [0, 1, 4, 6, 7] st (o44_6400_in K)), (11400, fun st _ K => pickM 71 [0, 1, 4, 6, 7, 8] st (o44_11400_in K))]
noncomputable def q44 : CallF := evFun (V 44) S43 T44 10

noncomputable def c44_4000 : Code := subC [1, 1] (bodyOf Tryd.f44)

noncomputable def c44_3000 : Code := subC [1, 0, 1] (bodyOf Tryd.f44)

noncomputable def c44_6400 : Code := subC [1, 1, 1, 0, 1, 0, 0] (bodyOf Tryd.f44)

noncomputable def lp44_6400 {R : Type} (N : Nat) (st : St) (K : Ex → St → Option R) : Option R := evLoop (norm ((V 44).keep 44 (Ev.keyOf c44_6400 * 1000 + 400)) 0) (evCode (V 44) q44 o44 44 0 3993 c44_6400) N st (kOut (V 44) 44 0 (Ev.keyOf c44_6400 * 1000 + 401) K)

noncomputable def c44_11400 : Code := subC [1, 1, 1, 0, 1, 0, 0, 1, 0, 0, 1, 1, 0, 0] (bodyOf Tryd.f44)

noncomputable def lp44_11400 {R : Type} (N : Nat) (st : St) (K : Ex → St → Option R) : Option R := evLoop (norm ((V 44).keep 44 (Ev.keyOf c44_11400 * 1000 + 400)) 0) (evCode (V 44) q44 o44 44 0 3986 c44_11400) N st (kOut (V 44) 44 0 (Ev.keyOf c44_11400 * 1000 + 401) K)

theorem haystackref03_Make_l11_3_L_eq {R : Type} (K : Ex → St → Option R) : ∀ N : Nat, (fun (n1351 : Int) (xs1352 : List Int) (l1353 : Nat) (n1354 : Int) (n1355 : Int) (n1356 : Int) (n1357 : Int) (n1358 : Int) (bs1359 : List Bool) => lp44_11400 N (St.mk (spread 71 0 [0, 1, 4, 6, 7, 8] [AV.int .i64 n1351, AV.fsl (Blk.ints .u64 xs1352), AV.ptr 0 0, AV.sl 1 0 l1353 1, AV.int .i64 n1354, AV.int .i64 n1355]) [HB.live (Blk.any [AV.int .i64 n1356, AV.int .i64 n1357, AV.int .i64 n1358, AV.esl]), HB.live (Blk.bools bs1359)]) K) = haystackref03_Make_l11_3_L (fun x0 x1 x2 x3 x4 x5 x6 x7 => K (Ex.exit 2) (St.mk (spread 71 0 [0, 1, 4, 6, 7] [AV.int .i64 x0, AV.fsl (Blk.ints .u64 x1), AV.ptr 0 0, AV.sl 1 0 x2 1, AV.int .i64 x3]) [HB.live (Blk.any [AV.int .i64 x4, AV.int .i64 x5, AV.int .i64 x6, AV.esl]), HB.live (Blk.bools x7)])) N
  | 0 => by funext n1351 xs1352 l1353 n1354 n1355 n1356 n1357 n1358 bs1359; rfl
  | N + 1 => by
    funext n1351 xs1352 l1353 n1354 n1355 n1356 n1357 n1358 bs1359
    simp only [haystackref03_Make_l11_3_L]
    rw [← haystackref03_Make_l11_3_L_eq K N]
    kernel_rfl

theorem haystackref03_Make_l11_2_L_eq {R : Type} (K : Ex → St → Option R) : ∀ N : Nat, (fun (n1342 : Int) (xs1343 : List Int) (n1344 : Int) (n1345 : Int) (n1346 : Int) (n1347 : Int) (n1348 : Int) => lp44_11400 N (St.mk (spread 71 0 [0, 1, 4, 6, 7, 8] [AV.int .i64 n1342, AV.fsl (Blk.ints .u64 xs1343), AV.ptr 0 0, AV.esl, AV.int .i64 n1344, AV.int .i64 n1345]) [HB.live (Blk.any [AV.int .i64 n1346, AV.int .i64 n1347, AV.int .i64 n1348, AV.esl])]) K) = haystackref03_Make_l11_2_L (fun x0 x1 x2 x3 x4 x5 x6 x7 => K (Ex.exit 2) (St.mk (spread 71 0 [0, 1, 4, 6, 7] [AV.int .i64 x0, AV.fsl (Blk.ints .u64 x1), AV.ptr 0 0, AV.sl 1 0 x2 1, AV.int .i64 x3]) [HB.live (Blk.any [AV.int .i64 x4, AV.int .i64 x5, AV.int .i64 x6, AV.esl]), HB.live (Blk.bools x7)])) (fun x0 x1 x2 x3 x4 x5 => K (Ex.exit 2) (St.mk (spread 71 0 [0, 1, 4, 6, 7] [AV.int .i64 x0, AV.fsl (Blk.ints .u64 x1), AV.ptr 0 0, AV.esl, AV.int .i64 x2]) [HB.live (Blk.any [AV.int .i64 x3, AV.int .i64 x4, AV.int .i64 x5, AV.esl])])) N
  | 0 => by funext n1342 xs1343 n1344 n1345 n1346 n1347 n1348; rfl
  | N + 1 => by
    funext n1342 xs1343 n1344 n1345 n1346 n1347 n1348
    simp only [haystackref03_Make_l11_2_L]
    rw [← haystackref03_Make_l11_2_L_eq K N, ← haystackref03_Make_l11_3_L_eq K N]
    kernel_rfl

theorem haystackref03_Make_l6_3_L_eq {R : Type} (K : Ex → St → Option R) : ∀ N : Nat, (fun (n1373 : Int) (xs1374 : List Int) (l1375 : Nat) (n1376 : Int) (n1377 : Int) (n1378 : Int) (n1379 : Int) (bs1380 : List Bool) => lp44_6400 N (St.mk (spread 71 0 [0, 1, 4, 6, 7] [AV.int .i64 n1373, AV.fsl (Blk.ints .u64 xs1374), AV.ptr 0 0, AV.sl 1 0 l1375 1, AV.int .i64 n1376]) [HB.live (Blk.any [AV.int .i64 n1377, AV.int .i64 n1378, AV.int .i64 n1379, AV.esl]), HB.live (Blk.bools bs1380)]) K) = haystackref03_Make_l6_3_L (fun x0 x1 x2 x3 => K (Ex.ret) (St.mk (spread 71 0 [4, 5] [AV.ptr 0 0, AV.int .i64 x0]) [HB.live (Blk.any [AV.int .i64 x1, AV.int .i64 x2, AV.int .i64 x3, AV.esl])])) (fun x0 x1 x2 x3 x4 x5 x6 => K (Ex.exit 0) (St.mk (spread 71 0 [0, 1, 4, 6] [AV.int .i64 x0, AV.fsl (Blk.ints .u64 x1), AV.ptr 0 0, AV.sl 1 0 x2 1]) [HB.live (Blk.any [AV.int .i64 x3, AV.int .i64 x4, AV.int .i64 x5, AV.esl]), HB.live (Blk.bools x6)])) N
  | 0 => by funext n1373 xs1374 l1375 n1376 n1377 n1378 n1379 bs1380; rfl
  | N + 1 => by
    funext n1373 xs1374 l1375 n1376 n1377 n1378 n1379 bs1380
    simp only [haystackref03_Make_l6_3_L]
    rw [← haystackref03_Make_l6_3_L_eq K N]
    kernel_rfl

theorem haystackref03_Make_l6_2_L_eq {R : Type} (K : Ex → St → Option R) : ∀ N : Nat, (fun (n1335 : Int) (xs1336 : List Int) (n1337 : Int) (n1338 : Int) (n1339 : Int) (n1340 : Int) => lp44_6400 N (St.mk (spread 71 0 [0, 1, 4, 6, 7] [AV.int .i64 n1335, AV.fsl (Blk.ints .u64 xs1336), AV.ptr 0 0, AV.esl, AV.int .i64 n1337]) [HB.live (Blk.any [AV.int .i64 n1338, AV.int .i64 n1339, AV.int .i64 n1340, AV.esl])]) K) = haystackref03_Make_l6_2_L (fun x0 x1 x2 x3 => K (Ex.ret) (St.mk (spread 71 0 [4, 5] [AV.ptr 0 0, AV.int .i64 x0]) [HB.live (Blk.any [AV.int .i64 x1, AV.int .i64 x2, AV.int .i64 x3, AV.esl])])) (fun x0 x1 x2 x3 x4 x5 x6 => K (Ex.exit 0) (St.mk (spread 71 0 [0, 1, 4, 6] [AV.int .i64 x0, AV.fsl (Blk.ints .u64 x1), AV.ptr 0 0, AV.sl 1 0 x2 1]) [HB.live (Blk.any [AV.int .i64 x3, AV.int .i64 x4, AV.int .i64 x5, AV.esl]), HB.live (Blk.bools x6)])) (fun x0 x1 x2 x3 x4 => K (Ex.exit 0) (St.mk (spread 71 0 [0, 1, 4, 6] [AV.int .i64 x0, AV.fsl (Blk.ints .u64 x1), AV.ptr 0 0, AV.esl]) [HB.live (Blk.any [AV.int .i64 x2, AV.int .i64 x3, AV.int .i64 x4, AV.esl])])) N
  | 0 => by funext n1335 xs1336 n1337 n1338 n1339 n1340; rfl
  | N + 1 => by
    funext n1335 xs1336 n1337 n1338 n1339 n1340
    simp only [haystackref03_Make_l6_2_L]
    rw [← haystackref03_Make_l6_2_L_eq K N, ← haystackref03_Make_l6_3_L_eq K N]
    kernel_rfl

theorem p44_4000 : PieceOk (V 44) q44 o44 44 0 (3998, 0, c44_4000) := .s (size := 71) (ss := [0, 1, 4]) (F := @o44_4000_in) (by kernel_rfl) fun R r K vs hh h => by
  unfold o44_4000_in at h; split at h
  · rw [haystackref03_Make_j4_1_unf] at h; exact Eq.trans (by kernel_rfl) h
  · cases h

theorem p44_3000 : PieceOk (V 44) q44 o44 44 0 (3997, 0, c44_3000) := .s (size := 71) (ss := [0, 1, 4, 28]) (F := @o44_3000_in) (by kernel_rfl) fun R r K vs hh h => by
  unfold o44_3000_in at h; split at h
  · rw [haystackref03_Make_j3_1_unf] at h; exact Eq.trans (by kernel_rfl) h
  · cases h

theorem p44_6400 : PieceOk (V 44) q44 o44 44 0 (3993, 1, c44_6400) := .l (size := 71) (ss := [0, 1, 4, 6, 7]) (F := @o44_6400_in) (by kernel_rfl) (by kernel_rfl) fun R r K vs hh h => by
  unfold o44_6400_in at h; split at h
  · rw [haystackref03_Make_l6_2_unf] at h; unfold haystackref03_Make_l6_2_B at h; rw [← haystackref03_Make_l6_2_L_eq K NR] at h; exact h
  · rw [haystackref03_Make_l6_3_unf] at h; unfold haystackref03_Make_l6_3_B at h; rw [← haystackref03_Make_l6_3_L_eq K NR] at h; exact h
  · cases h

theorem p44_11400 : PieceOk (V 44) q44 o44 44 0 (3986, 1, c44_11400) := .l (size := 71) (ss := [0, 1, 4, 6, 7, 8]) (F := @o44_11400_in) (by kernel_rfl) (by kernel_rfl) fun R r K vs hh h => by
  unfold o44_11400_in at h; split at h
  · rw [haystackref03_Make_l11_2_unf] at h; unfold haystackref03_Make_l11_2_B at h; rw [← haystackref03_Make_l11_2_L_eq K NR] at h; exact h
  · rw [haystackref03_Make_l11_3_unf] at h; unfold haystackref03_Make_l11_3_B at h; rw [← haystackref03_Make_l11_3_L_eq K NR] at h; exact h
  · cases h

theorem pc44 : ∀ x ∈ [(3998, 0, c44_4000), (3997, 0, c44_3000), (3993, 1, c44_6400), (3986, 1, c44_11400)], PieceOk (V 44) q44 o44 44 0 x := List.forall_mem_cons.2 ⟨p44_4000, List.forall_mem_cons.2 ⟨p44_3000, List.forall_mem_cons.2 ⟨p44_6400, List.forall_mem_cons.2 ⟨p44_11400, fun _ h => nomatch h⟩⟩⟩⟩

theorem haystackref03_Make_eq {R : Type} (K : AV → Option R) (n1313 : Int) (xs1314 : List Int) : evSpec (V 44) S43 T44 o44 10 44 ([AV.int .i64 n1313, AV.fsl (Blk.ints .u64 xs1314)]) R K = haystackref03_Make_B n1313 xs1314 (fun x0 x1 x2 x3 x4 => K (AV.tup [AV.agg (Blk.any [AV.int .i64 x0, AV.int .i64 x1, AV.int .i64 x2, AV.fsl (Blk.ints .u64 x3)]), AV.int .i64 x4])) := by kernel_rfl

noncomputable def sp44 : Ev.Spec := fun args _ K => match args with
  | ([AV.int .i64 n1313, AV.fsl (Blk.ints .u64 xs1314)]) => haystackref03_Make n1313 xs1314 (fun x0 x1 x2 x3 x4 => K (AV.tup [AV.agg (Blk.any [AV.int .i64 x0, AV.int .i64 x1, AV.int .i64 x2, AV.fsl (Blk.ints .u64 x3)]), AV.int .i64 x4]))
  | _ => none
noncomputable def S44 := addS 44 sp44 S43
theorem D46 : Dom B0 V S44 T44 46 := Dom.s (m := 45) (n := 0) D45 D45 (O := o44) (OrcOk.fn (fn0 := Tryd.f44) (by kernel_rfl) (by kernel_rfl) pc44) fun args R K r h => by
  unfold sp44 at h; split at h
  · rw [haystackref03_Make_unf] at h; exact (haystackref03_Make_eq K _ _).trans h
  · cases h

noncomputable def o84_4400_in {R : Type} (K : Ex → St → Option R) (vs : List AV) (hh : H) : Option R := match vs, hh with
  | [AV.fsl (Blk.ints .u64 xs1522), AV.int .i64 n1523, AV.int .i64 n1524], [] => haystackref03_Width_l4 xs1522 n1523 n1524 (fun x0 => K (Ex.exit 0) (St.mk (spread 19 0 [3] [AV.int .i64 x0]) []))
  | _, _ => none

noncomputable def o84 : Nat → Option PSpec := lkN [(4400, fun st _ K => pickM 19 [0, 3, 4] st (o84_4400_in K))]
noncomputable def q84 : CallF := evFun (V 84) S44 T44 10

noncomputable def c84_4400 : Code := subC [1, 1, 0, 1, 0, 0] (bodyOf Tryd.f84)

noncomputable def lp84_4400 {R : Type} (N : Nat) (st : St) (K : Ex → St → Option R) : Option R := evLoop (norm ((V 84).keep 84 (Ev.keyOf c84_4400 * 1000 + 400)) 0) (evCode (V 84) q84 o84 84 0 3994 c84_4400) N st (kOut (V 84) 84 0 (Ev.keyOf c84_4400 * 1000 + 401) K)

theorem haystackref03_Width_l4_L_eq {R : Type} (K : Ex → St → Option R) : ∀ N : Nat, (fun (xs1522 : List Int) (n1523 : Int) (n1524 : Int) => lp84_4400 N (St.mk (spread 19 0 [0, 3, 4] [AV.fsl (Blk.ints .u64 xs1522), AV.int .i64 n1523, AV.int .i64 n1524]) []) K) = haystackref03_Width_l4_L (fun x0 => K (Ex.exit 0) (St.mk (spread 19 0 [3] [AV.int .i64 x0]) [])) N
  | 0 => by funext xs1522 n1523 n1524; rfl
  | N + 1 => by
    funext xs1522 n1523 n1524
    simp only [haystackref03_Width_l4_L]
    rw [← haystackref03_Width_l4_L_eq K N]
    kernel_rfl

theorem p84_4400 : PieceOk (V 84) q84 o84 84 0 (3994, 1, c84_4400) := .l (size := 19) (ss := [0, 3, 4]) (F := @o84_4400_in) (by kernel_rfl) (by kernel_rfl) fun R r K vs hh h => by
  unfold o84_4400_in at h; split at h
  · rw [haystackref03_Width_l4_unf] at h; unfold haystackref03_Width_l4_B at h; rw [← haystackref03_Width_l4_L_eq K NR] at h; exact h
  · cases h

theorem pc84 : ∀ x ∈ [(3994, 1, c84_4400)], PieceOk (V 84) q84 o84 84 0 x := List.forall_mem_cons.2 ⟨p84_4400, fun _ h => nomatch h⟩

noncomputable def sp84 : Ev.Spec := fun args _ K => match args with
  | ([AV.fsl (Blk.ints .u64 xs1521)]) => haystackref03_Width xs1521 (fun x0 => K (AV.int .i64 x0))
  | _ => none
noncomputable def S84 := addS 84 sp84 S44
theorem D47 : Dom B0 V S84 T44 47 := Dom.s (m := 46) (n := 0) D46 D46 (O := o84) (OrcOk.fn (fn0 := Tryd.f84) (by kernel_rfl) (by kernel_rfl) pc84) fun args R K r h => by
  unfold sp84 at h; split at h
  · rw [haystackref03_Width_unf] at h; exact Eq.trans (by kernel_rfl) h
  · cases h

noncomputable def sp45 : Ev.Spec := fun args _ K => match args with
  | ([AV.fsl (Blk.ints .u64 xs1520)]) => haystackref03_Of xs1520 (fun x0 x1 x2 x3 x4 => K (AV.tup [AV.agg (Blk.any [AV.int .i64 x0, AV.int .i64 x1, AV.int .i64 x2, AV.fsl (Blk.ints .u64 x3)]), AV.int .i64 x4]))
  | _ => none
noncomputable def S45 := addS 45 sp45 S84
theorem D48 : Dom B0 V S45 T44 48 := Dom.s (m := 47) (n := 0) D47 D47 (O := (fun _ => none)) (fun _ _ _ _ => OrcOk.none _ _) fun args R K r h => by
  unfold sp45 at h; split at h
  · rw [haystackref03_Of_unf] at h; exact Eq.trans (by kernel_rfl) h
  · cases h

noncomputable def sp49 : Ev.Spec := fun args _ K => match args with
  | ([AV.agg (Blk.any [AV.int .i64 n1548, AV.int .i64 n1549, AV.int .i64 n1550, AV.fsl (Blk.ints .u64 xs1551)])]) => haystackref03_List n1548 n1549 n1550 xs1551 (fun x0 => K (AV.fsl (Blk.ints .u64 x0)))
  | _ => none
noncomputable def S49 := addS 49 sp49 S45
theorem D49 : Dom B0 V S49 T44 49 := Dom.s (m := 37) (n := 11) D48 D37 (O := o49r0) (OrcOk.fn (fn0 := Tryd.f49) (by kernel_rfl) (by kernel_rfl) pc49r0) fun args R K r h => by
  unfold sp49 at h; split at h
  · rw [haystackref03_List_unf] at h; exact Eq.trans (by kernel_rfl) h
  · cases h

noncomputable def o48_5400_in {R : Type} (K : Ex → St → Option R) (vs : List AV) (hh : H) : Option R := match vs, hh with
  | [AV.fsl (Blk.ints .u64 xs1557), AV.fsl (Blk.ints .u64 xs1558), AV.int .i64 n1559], [] => haystackref03_Rows_l5_1 xs1557 xs1558 n1559 (fun x0 => K (Ex.ret) (St.mk (spread 26 0 [4] [AV.bool x0]) [])) (fun _ => K (Ex.exit 0) (St.mk (spread 26 0 [] []) []))
  | _, _ => none

noncomputable def o48 : Nat → Option PSpec := lkN [(5400, fun st _ K => pickM 26 [0, 1, 5] st (o48_5400_in K))]
noncomputable def q48 : CallF := evFun (V 48) S49 T44 10

noncomputable def c48_5400 : Code := subC [1, 1, 0, 1, 0, 0] (bodyOf Tryd.f48)

noncomputable def lp48_5400 {R : Type} (N : Nat) (st : St) (K : Ex → St → Option R) : Option R := evLoop (norm ((V 48).keep 48 (Ev.keyOf c48_5400 * 1000 + 400)) 0) (evCode (V 48) q48 o48 48 0 3994 c48_5400) N st (kOut (V 48) 48 0 (Ev.keyOf c48_5400 * 1000 + 401) K)

theorem haystackref03_Rows_l5_1_L_eq {R : Type} (K : Ex → St → Option R) : ∀ N : Nat, (fun (xs1557 : List Int) (xs1558 : List Int) (n1559 : Int) => lp48_5400 N (St.mk (spread 26 0 [0, 1, 5] [AV.fsl (Blk.ints .u64 xs1557), AV.fsl (Blk.ints .u64 xs1558), AV.int .i64 n1559]) []) K) = haystackref03_Rows_l5_1_L (fun x0 => K (Ex.ret) (St.mk (spread 26 0 [4] [AV.bool x0]) [])) (fun _ => K (Ex.exit 0) (St.mk (spread 26 0 [] []) [])) N
  | 0 => by funext xs1557 xs1558 n1559; rfl
  | N + 1 => by
    funext xs1557 xs1558 n1559
    simp only [haystackref03_Rows_l5_1_L]
    rw [← haystackref03_Rows_l5_1_L_eq K N]
    kernel_rfl

theorem p48_5400 : PieceOk (V 48) q48 o48 48 0 (3994, 1, c48_5400) := .l (size := 26) (ss := [0, 1, 5]) (F := @o48_5400_in) (by kernel_rfl) (by kernel_rfl) fun R r K vs hh h => by
  unfold o48_5400_in at h; split at h
  · rw [haystackref03_Rows_l5_1_unf] at h; unfold haystackref03_Rows_l5_1_B at h; rw [← haystackref03_Rows_l5_1_L_eq K NR] at h; exact h
  · cases h

theorem pc48 : ∀ x ∈ [(3994, 1, c48_5400)], PieceOk (V 48) q48 o48 48 0 x := List.forall_mem_cons.2 ⟨p48_5400, fun _ h => nomatch h⟩

noncomputable def sp48 : Ev.Spec := fun args _ K => match args with
  | ([AV.fsl (Blk.ints .u64 xs1555), AV.fsl (Blk.ints .u64 xs1556)]) => haystackref03_Rows xs1555 xs1556 (fun x0 => K (AV.bool x0))
  | _ => none
noncomputable def S48 := addS 48 sp48 S49
theorem D50 : Dom B0 V S48 T44 50 := Dom.s (m := 49) (n := 0) D49 D49 (O := o48) (OrcOk.fn (fn0 := Tryd.f48) (by kernel_rfl) (by kernel_rfl) pc48) fun args R K r h => by
  unfold sp48 at h; split at h
  · rw [haystackref03_Rows_unf] at h; exact Eq.trans (by kernel_rfl) h
  · cases h

noncomputable def o8_4000_in {R : Type} (K : Ex → St → Option R) (vs : List AV) (hh : H) : Option R := match vs, hh with
  | [AV.int .i64 n705, AV.int .u64 n706, AV.int .i64 n707, AV.fsl (Blk.ints .u64 xs708), AV.ptr 0 0], [HB.live (Blk.any [AV.int .i64 n709, AV.int .i64 n710, AV.int .i64 n711, AV.fsl (Blk.ints .u64 xs712)])] => haystacklaw03_IntsTell_j4 n705 n706 n707 xs708 n709 n710 n711 xs712 (fun x0 => K (Ex.ret) (St.mk (spread 140 0 [10] [AV.bool x0]) []))
  | _, _ => none

noncomputable def o8_8000_in {R : Type} (K : Ex → St → Option R) (vs : List AV) (hh : H) : Option R := match vs, hh with
  | [AV.int .i64 n1288, AV.fsl (Blk.ints .u64 xs1289), AV.ptr 0 0, AV.int .u64 n1290, AV.int .i64 n1291, AV.int .u64 n1292, AV.int .i64 n1293, AV.ptr 1 0, AV.int .i64 n1294, AV.ptr 2 0, AV.int .i64 n1295], [HB.live (Blk.any [AV.int .i64 n1296, AV.int .i64 n1297, AV.int .i64 n1298, AV.fsl (Blk.ints .u64 xs1299)]), HB.live (Blk.any [AV.int .i64 n1300, AV.int .i64 n1301, AV.int .i64 n1302, AV.fsl (Blk.ints .u64 xs1303)]), HB.live (Blk.any [AV.int .i64 n1304, AV.int .i64 n1305, AV.int .i64 n1306, AV.fsl (Blk.ints .u64 xs1307)])] => haystacklaw03_IntsTell_j8 n1288 xs1289 n1290 n1291 n1292 n1293 n1294 n1295 n1296 n1297 n1298 xs1299 n1300 n1301 n1302 xs1303 n1304 n1305 n1306 xs1307 (fun x0 => K (Ex.ret) (St.mk (spread 140 0 [10] [AV.bool x0]) []))
  | _, _ => none

noncomputable def o8_14000_in {R : Type} (K : Ex → St → Option R) (vs : List AV) (hh : H) : Option R := match vs, hh with
  | [AV.ptr 0 0], [HB.live (Blk.any [AV.int .i64 n1541, AV.int .i64 n1542, AV.int .i64 n1543, AV.fsl (Blk.ints .u64 xs1544)])] => haystacklaw03_IntsTell_j14 n1541 n1542 n1543 xs1544 (fun x0 => K (Ex.ret) (St.mk (spread 140 0 [10] [AV.bool x0]) []))
  | _, _ => none

noncomputable def o8 : Nat → Option PSpec := lkN [(4000, fun st _ K => pickM 140 [1, 2, 3, 4, 5] st (o8_4000_in K)), (8000, fun st _ K => pickM 140 [3, 4, 5, 11, 12, 13, 14, 15, 16, 17, 18] st (o8_8000_in K)), (14000, fun st _ K => pickM 140 [5] st (o8_14000_in K))]
noncomputable def q8 : CallF := evFun (V 8) S48 T44 10

noncomputable def c8_4000 : Code := subC [1, 1] (bodyOf Tryd.f8)

noncomputable def c8_8000 : Code := subC [1, 1, 1, 1, 1, 1] (bodyOf Tryd.f8)

noncomputable def c8_14000 : Code := subC [1, 1, 1, 1, 1, 1, 1, 1, 1, 1, 1] (bodyOf Tryd.f8)

theorem haystacklaw03_IntsTell_j8_eq {R : Type} (K : Ex → St → Option R) (n1288 : Int) (xs1289 : List Int) (n1290 : Int) (n1291 : Int) (n1292 : Int) (n1293 : Int) (n1294 : Int) (n1295 : Int) (n1296 : Int) (n1297 : Int) (n1298 : Int) (xs1299 : List Int) (n1300 : Int) (n1301 : Int) (n1302 : Int) (xs1303 : List Int) (n1304 : Int) (n1305 : Int) (n1306 : Int) (xs1307 : List Int) : evCode (V 8) q8 o8 8 0 3994 c8_8000 (St.mk (spread 140 0 [3, 4, 5, 11, 12, 13, 14, 15, 16, 17, 18] [AV.int .i64 n1288, AV.fsl (Blk.ints .u64 xs1289), AV.ptr 0 0, AV.int .u64 n1290, AV.int .i64 n1291, AV.int .u64 n1292, AV.int .i64 n1293, AV.ptr 1 0, AV.int .i64 n1294, AV.ptr 2 0, AV.int .i64 n1295]) [HB.live (Blk.any [AV.int .i64 n1296, AV.int .i64 n1297, AV.int .i64 n1298, AV.fsl (Blk.ints .u64 xs1299)]), HB.live (Blk.any [AV.int .i64 n1300, AV.int .i64 n1301, AV.int .i64 n1302, AV.fsl (Blk.ints .u64 xs1303)]), HB.live (Blk.any [AV.int .i64 n1304, AV.int .i64 n1305, AV.int .i64 n1306, AV.fsl (Blk.ints .u64 xs1307)])]) (kOut (V 8) 8 0 (Ev.keyOf c8_8000 * 1000 + 1) K) = haystacklaw03_IntsTell_j8_B n1288 xs1289 n1290 n1291 n1292 n1293 n1294 n1295 n1296 n1297 n1298 xs1299 n1300 n1301 n1302 xs1303 n1304 n1305 n1306 xs1307 (fun x0 => K (Ex.ret) (St.mk (spread 140 0 [10] [AV.bool x0]) [])) := by kernel_rfl

theorem p8_4000 : PieceOk (V 8) q8 o8 8 0 (3998, 0, c8_4000) := .s (size := 140) (ss := [1, 2, 3, 4, 5]) (F := @o8_4000_in) (by kernel_rfl) fun R r K vs hh h => by
  unfold o8_4000_in at h; split at h
  · rw [haystacklaw03_IntsTell_j4_unf] at h; exact Eq.trans (by kernel_rfl) h
  · cases h

theorem p8_8000 : PieceOk (V 8) q8 o8 8 0 (3994, 0, c8_8000) := .s (size := 140) (ss := [3, 4, 5, 11, 12, 13, 14, 15, 16, 17, 18]) (F := @o8_8000_in) (by kernel_rfl) fun R r K vs hh h => by
  unfold o8_8000_in at h; split at h
  · rw [haystacklaw03_IntsTell_j8_unf] at h; exact (haystacklaw03_IntsTell_j8_eq K _ _ _ _ _ _ _ _ _ _ _ _ _ _ _ _ _ _ _ _).trans h
  · cases h

theorem p8_14000 : PieceOk (V 8) q8 o8 8 0 (3989, 0, c8_14000) := .s (size := 140) (ss := [5]) (F := @o8_14000_in) (by kernel_rfl) fun R r K vs hh h => by
  unfold o8_14000_in at h; split at h
  · rw [haystacklaw03_IntsTell_j14_unf] at h; exact Eq.trans (by kernel_rfl) h
  · cases h

theorem pc8 : ∀ x ∈ [(3998, 0, c8_4000), (3994, 0, c8_8000), (3989, 0, c8_14000)], PieceOk (V 8) q8 o8 8 0 x := List.forall_mem_cons.2 ⟨p8_4000, List.forall_mem_cons.2 ⟨p8_8000, List.forall_mem_cons.2 ⟨p8_14000, fun _ h => nomatch h⟩⟩⟩

noncomputable def sp8 : Ev.Spec := fun args _ K => match args with
  | ([AV.agg (Blk.any [AV.int .i64 n690, AV.int .i64 n691, AV.int .i64 n692, AV.fsl (Blk.ints .u64 xs693)]), AV.int .i64 n694, AV.int .u64 n695, AV.int .i64 n696, AV.fsl (Blk.ints .u64 xs697)]) => haystacklaw03_IntsTell n690 n691 n692 xs693 n694 n695 n696 xs697 (fun x0 => K (AV.bool x0))
  | _ => none
noncomputable def S8 := addS 8 sp8 S48
theorem D51 : Dom B0 V S8 T44 51 := Dom.s (m := 50) (n := 0) D50 D50 (O := o8) (OrcOk.fn (fn0 := Tryd.f8) (by kernel_rfl) (by kernel_rfl) pc8) fun args R K r h => by
  unfold sp8 at h; split at h
  · rw [haystacklaw03_IntsTell_unf] at h; exact Eq.trans (by kernel_rfl) h
  · cases h

noncomputable def o9_7000_in {R : Type} (K : Ex → St → Option R) (vs : List AV) (hh : H) : Option R := match vs, hh with
  | [AV.fsl (Blk.ints .u64 xs1577), AV.int .i64 n1578, AV.ptr 0 0], [HB.live (Blk.any [AV.int .i64 n1579, AV.int .i64 n1580, AV.int .i64 n1581, AV.fsl (Blk.ints .u64 xs1582)])] => haystacklaw03_IntsBack_j7 xs1577 n1578 n1579 n1580 n1581 xs1582 (fun x0 => K (Ex.ret) (St.mk (spread 74 0 [4] [AV.bool x0]) []))
  | _, _ => none

noncomputable def o9 : Nat → Option PSpec := lkN [(7000, fun st _ K => pickM 74 [0, 1, 5] st (o9_7000_in K))]
noncomputable def q9 : CallF := evFun (V 9) S8 T44 10

noncomputable def c9_7000 : Code := subC [1, 1, 1, 1] (bodyOf Tryd.f9)

theorem p9_7000 : PieceOk (V 9) q9 o9 9 0 (3996, 0, c9_7000) := .s (size := 74) (ss := [0, 1, 5]) (F := @o9_7000_in) (by kernel_rfl) fun R r K vs hh h => by
  unfold o9_7000_in at h; split at h
  · rw [haystacklaw03_IntsBack_j7_unf] at h; exact Eq.trans (by kernel_rfl) h
  · cases h

theorem pc9 : ∀ x ∈ [(3996, 0, c9_7000)], PieceOk (V 9) q9 o9 9 0 x := List.forall_mem_cons.2 ⟨p9_7000, fun _ h => nomatch h⟩

noncomputable def sp9 : Ev.Spec := fun args _ K => match args with
  | ([AV.fsl (Blk.ints .u64 xs1566), AV.int .i64 n1567]) => haystacklaw03_IntsBack xs1566 n1567 (fun x0 => K (AV.bool x0))
  | _ => none
noncomputable def S9 := addS 9 sp9 S8
theorem D52 : Dom B0 V S9 T44 52 := Dom.s (m := 51) (n := 0) D51 D51 (O := o9) (OrcOk.fn (fn0 := Tryd.f9) (by kernel_rfl) (by kernel_rfl) pc9) fun args R K r h => by
  unfold sp9 at h; split at h
  · rw [haystacklaw03_IntsBack_unf] at h; exact Eq.trans (by kernel_rfl) h
  · cases h

noncomputable def o10_4000_in {R : Type} (K : Ex → St → Option R) (vs : List AV) (hh : H) : Option R := match vs, hh with
  | [AV.int .i64 n1605, AV.int .u64 n1606, AV.int .i64 n1607, AV.ptr 0 0], [HB.live (Blk.any [AV.int .i64 n1608, AV.int .i64 n1609, AV.int .i64 n1610, AV.fsl (Blk.ints .u64 xs1611)])] => haystacklaw03_IntsPuts_j4 n1605 n1606 n1607 n1608 n1609 n1610 xs1611 (fun x0 => K (Ex.ret) (St.mk (spread 95 0 [8] [AV.bool x0]) []))
  | _, _ => none

noncomputable def o10 : Nat → Option PSpec := lkN [(4000, fun st _ K => pickM 95 [1, 2, 3, 4] st (o10_4000_in K))]
noncomputable def q10 : CallF := evFun (V 10) S9 T44 10

noncomputable def c10_4000 : Code := subC [1, 1] (bodyOf Tryd.f10)

theorem haystacklaw03_IntsPuts_j4_eq {R : Type} (K : Ex → St → Option R) (n1605 : Int) (n1606 : Int) (n1607 : Int) (n1608 : Int) (n1609 : Int) (n1610 : Int) (xs1611 : List Int) : evCode (V 10) q10 o10 10 0 3998 c10_4000 (St.mk (spread 95 0 [1, 2, 3, 4] [AV.int .i64 n1605, AV.int .u64 n1606, AV.int .i64 n1607, AV.ptr 0 0]) [HB.live (Blk.any [AV.int .i64 n1608, AV.int .i64 n1609, AV.int .i64 n1610, AV.fsl (Blk.ints .u64 xs1611)])]) (kOut (V 10) 10 0 (Ev.keyOf c10_4000 * 1000 + 1) K) = haystacklaw03_IntsPuts_j4_B n1605 n1606 n1607 n1608 n1609 n1610 xs1611 (fun x0 => K (Ex.ret) (St.mk (spread 95 0 [8] [AV.bool x0]) [])) := by kernel_rfl

theorem p10_4000 : PieceOk (V 10) q10 o10 10 0 (3998, 0, c10_4000) := .s (size := 95) (ss := [1, 2, 3, 4]) (F := @o10_4000_in) (by kernel_rfl) fun R r K vs hh h => by
  unfold o10_4000_in at h; split at h
  · rw [haystacklaw03_IntsPuts_j4_unf] at h; exact (haystacklaw03_IntsPuts_j4_eq K _ _ _ _ _ _ _).trans h
  · cases h

theorem pc10 : ∀ x ∈ [(3998, 0, c10_4000)], PieceOk (V 10) q10 o10 10 0 x := List.forall_mem_cons.2 ⟨p10_4000, fun _ h => nomatch h⟩

noncomputable def sp10 : Ev.Spec := fun args _ K => match args with
  | ([AV.agg (Blk.any [AV.int .i64 n1594, AV.int .i64 n1595, AV.int .i64 n1596, AV.fsl (Blk.ints .u64 xs1597)]), AV.int .i64 n1598, AV.int .u64 n1599, AV.int .i64 n1600]) => haystacklaw03_IntsPuts n1594 n1595 n1596 xs1597 n1598 n1599 n1600 (fun x0 => K (AV.bool x0))
  | _ => none
noncomputable def S10 := addS 10 sp10 S9
theorem D53 : Dom B0 V S10 T44 53 := Dom.s (m := 52) (n := 0) D52 D52 (O := o10) (OrcOk.fn (fn0 := Tryd.f10) (by kernel_rfl) (by kernel_rfl) pc10) fun args R K r h => by
  unfold sp10 at h; split at h
  · rw [haystacklaw03_IntsPuts_unf] at h; exact Eq.trans (by kernel_rfl) h
  · cases h

theorem ok7 : ∃ sp, SpecOk Tryd.prog (V 7) 7 sp ∧ ∀ args z, sp7 args AV some = some z → sp args AV some = some z := by
  obtain ⟨sp, h1, h2⟩ := Dom.law (P := Tryd.prog) (V := V) (fun f sp h _ => base_ok _ _ f sp h) (fun _ => env_types _ _) (fun _ => env_funs _ _) (fun _ _ => rfl) D53 (f := 7) (sp := sp7) (by kernel_rfl)
  exact ⟨sp, h1, fun args z => h2 args AV some z⟩

theorem ok8 : ∃ sp, SpecOk Tryd.prog (V 8) 8 sp ∧ ∀ args z, sp8 args AV some = some z → sp args AV some = some z := by
  obtain ⟨sp, h1, h2⟩ := Dom.law (P := Tryd.prog) (V := V) (fun f sp h _ => base_ok _ _ f sp h) (fun _ => env_types _ _) (fun _ => env_funs _ _) (fun _ _ => rfl) D53 (f := 8) (sp := sp8) (by kernel_rfl)
  exact ⟨sp, h1, fun args z => h2 args AV some z⟩

theorem ok9 : ∃ sp, SpecOk Tryd.prog (V 9) 9 sp ∧ ∀ args z, sp9 args AV some = some z → sp args AV some = some z := by
  obtain ⟨sp, h1, h2⟩ := Dom.law (P := Tryd.prog) (V := V) (fun f sp h _ => base_ok _ _ f sp h) (fun _ => env_types _ _) (fun _ => env_funs _ _) (fun _ _ => rfl) D53 (f := 9) (sp := sp9) (by kernel_rfl)
  exact ⟨sp, h1, fun args z => h2 args AV some z⟩

theorem ok10 : ∃ sp, SpecOk Tryd.prog (V 10) 10 sp ∧ ∀ args z, sp10 args AV some = some z → sp args AV some = some z := by
  obtain ⟨sp, h1, h2⟩ := Dom.law (P := Tryd.prog) (V := V) (fun f sp h _ => base_ok _ _ f sp h) (fun _ => env_types _ _) (fun _ => env_funs _ _) (fun _ _ => rfl) D53 (f := 10) (sp := sp10) (by kernel_rfl)
  exact ⟨sp, h1, fun args z => h2 args AV some z⟩

end Go.Proofs.YtapgclloopcbhaaDoor
