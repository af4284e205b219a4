import Derived.Test.YtofblchonjfdbaaGreatDoorBase
import Derived.Test.YtofblchonjfdbaaGreatDoorEnv
import Derived.Test.YtofblchonjfdbaaGreatDoorEvC
import Derived.KernelRfl
import Derived.Test.YtofblchonjfdbaaGreatDoorFn2
namespace Go.Proofs.YtofblchonjfdbaaGreatDoor
open Go Go.Ev
noncomputable section
variable {R : Type}
set_option maxRecDepth 100000
set_option maxHeartbeats 4000000
def QNR : Ev.Qj := fun args _ K => match args with
 | ([AV.agg (Blk.any [Ai v0, Ai v1, Fu v2, AV.fsl (Blk.ints .i64 v3), AV.fsl (Blk.ints .i64 v4), Ai v5, Ai v6, Ai v7, Ai v8, Fu v9, Ai va, Fu vb, AV.fsl (Blk.ints .i64 vc), AV.fsl (Blk.ints .i64 vd), Ai ve, Ai vf, Ai vg, Ai vh, Ai vi, Fu vj, Ai vk, Fu vl])]) => Q5c v0 v1 v2 v3 v4 v5 v6 v7 v8 v9 va vb vc vd ve vf vg vh vi vj vk vl (fun vm vn => K (AV.agg (Blk.any [Ai vm, Fu vn])))
 | _ => none
def S29:=Qr 29 QNR S85
theorem D84 : Dom B0 V S29 UD 84 := Dom.s (m := 83) (n := 0) D83 D83 (O := (fun _ => none)) (fun _ _ _ _ => Qd.none _ _) fun args R K r h => by
 unfold QNR at h; split at h
 · rw [Qcu] at h; exact Eq.trans (by kernel_rfl) h
 · cases h
def QlA (K : Ex → St → Option R) (vs : List AV) (hh : H) : Option R := match vs, hh with
 | [Ap 0 0, Ap 1 0], [HA [Ai v0, Fu v1], HA [Ai v2, Fu v3]] => Q3G v0 v1 v2 v3 (fun v4 => K (Ex.ret) (St.mk (Q3 38 0 [4] [Ab v4]) []))
 | _, _ => none
def QlB (K : Ex → St → Option R) (vs : List AV) (hh : H) : Option R := match vs, hh with
 | [Ap 0 0, Ap 1 0, Ai v0], [HA [Ai v1, Fu v2], HA [Ai v3, Fu v4]] => Q3F v0 v1 v2 v3 v4 (fun v5 => K (Ex.ret) (St.mk (Q3 38 0 [4] [Ab v5]) [])) (fun _ => K (Ex.exit 0) (St.mk (Q3 38 0 [] []) []))
 | _, _ => none
def o28:Nat→Option Ql:=lkN [(4000,fun st _ K=>Qf 38 [2,3] st (QlA K)),(5400,fun st _ K=>Qf 38 [2,3,5] st (QlB K))]
def q28:Qi:=Qo (V 28) S29 UD 10
def QyA:Code:=Qk [1,1] (Q9 Tryz.f28)
def QlC:Code:=Qk [1,1,0,1,0,0] (Q9 Tryz.f28)
def QE7(N:Nat)(st:St)(K:Ex→St→Option R):Option R:=Qs (QQ ((V 28).keep 28 (Ev.Qc QlC*1000+400)) 0) (Qh (V 28) q28 o28 28 0 3994 QlC) N st (QJ (V 28) 28 0 (Ev.Qc QlC*1000+401) K)
theorem Q4H(K:Ex→St→Option R):∀ N:Nat,(fun (v0 v1:Int) (v2:List Int) (v3:Int) (v4:List Int)=>QE7 N (St.mk (Q3 38 0 [2,3,5] [Ap 0 0,Ap 1 0,Ai v0]) [HA [Ai v1,Fu v2],HA [Ai v3,Fu v4]]) K)=ZN (fun v5=>K (Ex.ret) (St.mk (Q3 38 0 [4] [Ab v5]) [])) (fun _=>K (Ex.exit 0) (St.mk (Q3 38 0 [] []) [])) N
 | 0=>by funext v0 v1 v2 v3 v4; rfl
 | N+1=>by
  funext v0 v1 v2 v3 v4
  simp only[ZN]
  rw[←Q4H K N]
  kernel_rfl
theorem QGv:Q4 (V 28) q28 o28 28 0 (3998,0,QyA):=.s (size:=38) (ss:=[2,3]) (F:=@QlA) (by kernel_rfl) fun R r K vs hh h=>by
 unfold QlA at h; split at h
 ·rw[Q6a]at h; exact Eq.trans (by kernel_rfl) h
 ·cases h
theorem QGw:Q4 (V 28) q28 o28 28 0 (3994,1,QlC):=.l (size:=38) (ss:=[2,3,5]) (F:=@QlB) (by kernel_rfl) (by kernel_rfl) fun R r K vs hh h=>by
 unfold QlB at h; split at h
 ·rw[Q69]at h; unfold UP at h; rw[←Q4H K NR]at h; exact h
 ·cases h
theorem QQZ:∀ x∈[(3998,0,QyA),(3994,1,QlC)],Q4 (V 28) q28 o28 28 0 x:=List.forall_mem_cons.2 ⟨QGv,List.forall_mem_cons.2 ⟨QGw,fun _ h=>nomatch h⟩⟩
def QNS : Ev.Qj := fun args _ K => match args with
 | ([AV.agg (Blk.any [Ai v0, Fu v1]), AV.agg (Blk.any [Ai v2, Fu v3])]) => QX v0 v1 v2 v3 (fun v4 => K (Ab v4))
 | _ => none
def S28:=Qr 28 QNS S29
theorem D85 : Dom B0 V S28 UD 85 := Dom.s (m := 84) (n := 0) D84 D84 (O := o28) (Qd.fn (fn0 := Tryz.f28) (by kernel_rfl) (by kernel_rfl) QQZ) fun args R K r h => by
 unfold QNS at h; split at h
 · rw [Q9W] at h; exact Eq.trans (by kernel_rfl) h
 · cases h
def QlD (K : Ex → St → Option R) (vs : List AV) (hh : H) : Option R := match vs, hh with
 | [Ap 0 0, Ai v0, Ab v1, Ai v2], [HA [Ai v3, Ai v4, Fu v5, AV.fsl (Blk.ints .i64 v6), AV.fsl (Blk.ints .i64 v7), Ai v8, Ai v9, Ai va, Ai vb, Fu vc, Ai vd, Fu ve, AV.fsl (Blk.ints .i64 vf), AV.fsl (Blk.ints .i64 vg), Ai vh, Ai vi, Ai vj, Ai vk, Ai vl, Fu vm, Ai vn, Fu vo]] => Q2s v0 v1 v2 v3 v4 v5 v6 v7 v8 v9 va vb vc vd ve vf vg vh vi vj vk vl vm vn vo (fun vp => K (Ex.ret) (St.mk (Q3 108 0 [0] [Ab vp]) []))
 | _, _ => none
def o13:Nat→Option Ql:=lkN [(4000,fun st _ K=>Qf 108 [1,2,3,4] st (QlD K))]
def q13:Qi:=Qo (V 13) S28 UD 10
def QpC:Code:=Qk [1,1,1] (Q9 Tryz.f13)
theorem Qf0(K:Ex→St→Option R)(v0:Int)(v1:Bool)(v2 v3 v4:Int)(v5 v6 v7:List Int)(v8 v9 va vb:Int)(vc:List Int)(vd:Int)(ve vf vg:List Int)(vh vi vj vk vl:Int)(vm:List Int)(vn:Int)(vo:List Int):Qh (V 13) q13 o13 13 0 3997 QpC (St.mk (Q3 108 0 [1,2,3,4] [Ap 0 0,Ai v0,Ab v1,Ai v2]) [HA [Ai v3,Ai v4,Fu v5,AV.fsl (Blk.ints .i64 v6),AV.fsl (Blk.ints .i64 v7),Ai v8,Ai v9,Ai va,Ai vb,Fu vc,Ai vd,Fu ve,AV.fsl (Blk.ints .i64 vf),AV.fsl (Blk.ints .i64 vg),Ai vh,Ai vi,Ai vj,Ai vk,Ai vl,Fu vm,Ai vn,Fu vo]]) (QJ (V 13) 13 0 (Ev.Qc QpC*1000+1) K)=Ui v0 v1 v2 v3 v4 v5 v6 v7 v8 v9 va vb vc vd ve vf vg vh vi vj vk vl vm vn vo (fun vp=>K (Ex.ret) (St.mk (Q3 108 0 [0] [Ab vp]) [])):=by kernel_rfl
theorem QGx:Q4 (V 13) q13 o13 13 0 (3997,0,QpC):=.s (size:=108) (ss:=[1,2,3,4]) (F:=@QlD) (by kernel_rfl) fun R r K vs hh h=>by
 unfold QlD at h; split at h
 ·rw[Q5e]at h; exact (Qf0 K _ _ _ _ _ _ _ _ _ _ _ _ _ _ _ _ _ _ _ _ _ _ _ _ _).trans h
 ·cases h
theorem QR0:∀ x∈[(3997,0,QpC)],Q4 (V 13) q13 o13 13 0 x:=List.forall_mem_cons.2 ⟨QGx,fun _ h=>nomatch h⟩
def QNT : Ev.Qj := fun args _ K => match args with
 | [] => Zz (fun v0 => K (Ab v0))
 | _ => none
def S13:=Qr 13 QNT S28
theorem D86 : Dom B0 V S13 UD 86 := Dom.s (m := 85) (n := 0) D85 D85 (O := o13) (Qd.fn (fn0 := Tryz.f13) (by kernel_rfl) (by kernel_rfl) QR0) fun args R K r h => by
 unfold QNT at h; split at h
 · rw [Q8j] at h; exact Eq.trans (by kernel_rfl) h
 · cases h
def QNU : Ev.Qj := fun args _ K => match args with
 | ([Ai v0]) => J8 v0 (fun v1 => K (Ai v1))
 | _ => none
def S48:=Qr 48 QNU S13
theorem D87 : Dom B0 V S48 UD 87 := Dom.s (m := 86) (n := 0) D86 D86 (O := (fun _ => none)) (fun _ _ _ _ => Qd.none _ _) fun args R K r h => by
 unfold QNU at h; split at h
 · rw [Q8k] at h; exact Eq.trans (by kernel_rfl) h
 · cases h
def QlE (K : Ex → St → Option R) (vs : List AV) (hh : H) : Option R := match vs, hh with
 | [Ai v0, Au v1, Ai v2], [] => Q3K v0 v1 v2 (fun v3 => K (Ex.exit 0) (St.mk (Q3 20 0 [3] [Au v3]) []))
 | _, _ => none
def QlF (K : Ex → St → Option R) (vs : List AV) (hh : H) : Option R := match vs, hh with
 | [Ai v0, Au v1, Ai v2], [] => Q3J v0 v1 v2 (fun v3 v4 v5 => K (Ex.normal) (St.mk (Q3 20 0 [0, 3, 4] [Ai v3, Au v4, Ai v5]) []))
 | _, _ => none
def o49:Nat→Option Ql:=lkN [(4400,fun st _ K=>Qf 20 [0,3,4] st (QlE K)),(6000,fun st _ K=>Qf 20 [0,3,4] st (QlF K))]
def q49:Qi:=Qo (V 49) S48 UD 10
def QlG:Code:=Qk [1,1,0,1,0,0] (Q9 Tryz.f49)
def QE8(N:Nat)(st:St)(K:Ex→St→Option R):Option R:=Qs (QQ ((V 49).keep 49 (Ev.Qc QlG*1000+400)) 0) (Qh (V 49) q49 o49 49 0 3994 QlG) N st (QJ (V 49) 49 0 (Ev.Qc QlG*1000+401) K)
def QyB:Code:=Qk [1,1,0,1,0,0,1] (Q9 Tryz.f49)
theorem Q4I(K:Ex→St→Option R):∀ N:Nat,(fun (v0 v1 v2:Int)=>QE8 N (St.mk (Q3 20 0 [0,3,4] [Ai v0,Au v1,Ai v2]) []) K)=ZO (fun v3=>K (Ex.exit 0) (St.mk (Q3 20 0 [3] [Au v3]) [])) N
 | 0=>by funext v0 v1 v2; rfl
 | N+1=>by
  funext v0 v1 v2
  simp only[ZO]
  rw[←Q4I K N]
  kernel_rfl
theorem QGy:Q4 (V 49) q49 o49 49 0 (3994,1,QlG):=.l (size:=20) (ss:=[0,3,4]) (F:=@QlE) (by kernel_rfl) (by kernel_rfl) fun R r K vs hh h=>by
 unfold QlE at h; split at h
 ·rw[Q6c]at h; unfold UQ at h; rw[←Q4I K NR]at h; exact h
 ·cases h
theorem QGz:Q4 (V 49) q49 o49 49 0 (3993,0,QyB):=.s (size:=20) (ss:=[0,3,4]) (F:=@QlF) (by kernel_rfl) fun R r K vs hh h=>by
 unfold QlF at h; split at h
 ·rw[Q6b]at h; exact Eq.trans (by kernel_rfl) h
 ·cases h
theorem QR1:∀ x∈[(3994,1,QlG),(3993,0,QyB)],Q4 (V 49) q49 o49 49 0 x:=List.forall_mem_cons.2 ⟨QGy,List.forall_mem_cons.2 ⟨QGz,fun _ h=>nomatch h⟩⟩
def QNV : Ev.Qj := fun args _ K => match args with
 | ([Ai v0]) => Q2t v0 (fun v1 => K (Au v1))
 | _ => none
def S49:=Qr 49 QNV S48
theorem D88 : Dom B0 V S49 UD 88 := Dom.s (m := 87) (n := 0) D87 D87 (O := o49) (Qd.fn (fn0 := Tryz.f49) (by kernel_rfl) (by kernel_rfl) QR1) fun args R K r h => by
 unfold QNV at h; split at h
 · rw [Q9X] at h; exact Eq.trans (by kernel_rfl) h
 · cases h
def QlH (K : Ex → St → Option R) (vs : List AV) (hh : H) : Option R := match vs, hh with
 | [Ap 0 0], [HA [Ai v0, Fu v1]] => Jo v0 v1 (fun v2 => K (Ex.ret) (St.mk (Q3 40 0 [2] [Ab v2]) []))
 | _, _ => none
def o12:Nat→Option Ql:=lkN [(4000,fun st _ K=>Qf 40 [1] st (QlH K))]
def q12:Qi:=Qo (V 12) S49 UD 10
def QyC:Code:=Qk [1,1] (Q9 Tryz.f12)
theorem QGA:Q4 (V 12) q12 o12 12 0 (3998,0,QyC):=.s (size:=40) (ss:=[1]) (F:=@QlH) (by kernel_rfl) fun R r K vs hh h=>by
 unfold QlH at h; split at h
 ·rw[Q5g]at h; exact Eq.trans (by kernel_rfl) h
 ·cases h
theorem QR2:∀ x∈[(3998,0,QyC)],Q4 (V 12) q12 o12 12 0 x:=List.forall_mem_cons.2 ⟨QGA,fun _ h=>nomatch h⟩
def QNW : Ev.Qj := fun args _ K => match args with
 | ([AV.agg (Blk.any [Ai v0, Fu v1])]) => QD v0 v1 (fun v2 => K (Ab v2))
 | _ => none
def S12:=Qr 12 QNW S49
theorem D89 : Dom B0 V S12 UD 89 := Dom.s (m := 88) (n := 0) D88 D88 (O := o12) (Qd.fn (fn0 := Tryz.f12) (by kernel_rfl) (by kernel_rfl) QR2) fun args R K r h => by
 unfold QNW at h; split at h
 · rw [Q8m] at h; exact Eq.trans (by kernel_rfl) h
 · cases h
def QNX : Ev.Qj := fun args _ K => match args with
 | ([AV.agg (Blk.any [Ai v0, Fu v1]), Ai v2]) => Y5 v0 v1 v2 (fun v3 => K (Ab v3))
 | _ => none
def S78:=Qr 78 QNX S12
theorem D90 : Dom B0 V S78 UD 90 := Dom.s (m := 89) (n := 0) D89 D89 (O := (fun _ => none)) (fun _ _ _ _ => Qd.none _ _) fun args R K r h => by
 unfold QNX at h; split at h
 · rw [Qc6] at h; exact Eq.trans (by kernel_rfl) h
 · cases h
def QlI (K : Ex → St → Option R) (vs : List AV) (hh : H) : Option R := match vs, hh with
 | [Ai v0, Ap 0 0, Ai v1, Ai v2], [HA [Ai v3, Fu v4]] => Q3N v0 v1 v2 v3 v4 (fun v5 => K (Ex.exit 0) (St.mk (Q3 28 0 [5] [Ai v5]) []))
 | _, _ => none
def QlJ (K : Ex → St → Option R) (vs : List AV) (hh : H) : Option R := match vs, hh with
 | [Ai v0, Ap 0 0, Ai v1, Ai v2], [HA [Ai v3, Fu v4]] => Q3M v0 v1 v2 v3 v4 (fun v5 v6 v7 v8 v9 => K (Ex.normal) (St.mk (Q3 28 0 [1, 2, 5, 6] [Ai v5, Ap 0 0, Ai v6, Ai v7]) [HA [Ai v8, Fu v9]]))
 | _, _ => none
def o77:Nat→Option Ql:=lkN [(4400,fun st _ K=>Qf 28 [1,2,5,6] st (QlI K)),(6000,fun st _ K=>Qf 28 [1,2,5,6] st (QlJ K))]
def q77:Qi:=Qo (V 77) S78 UD 10
def QlK:Code:=Qk [1,1,0,1,0,0] (Q9 Tryz.f77)
def QE9(N:Nat)(st:St)(K:Ex→St→Option R):Option R:=Qs (QQ ((V 77).keep 77 (Ev.Qc QlK*1000+400)) 0) (Qh (V 77) q77 o77 77 0 3994 QlK) N st (QJ (V 77) 77 0 (Ev.Qc QlK*1000+401) K)
def QyD:Code:=Qk [1,1,0,1,0,0,1] (Q9 Tryz.f77)
theorem Q4J(K:Ex→St→Option R):∀ N:Nat,(fun (v0 v1 v2 v3:Int) (v4:List Int)=>QE9 N (St.mk (Q3 28 0 [1,2,5,6] [Ai v0,Ap 0 0,Ai v1,Ai v2]) [HA [Ai v3,Fu v4]]) K)=ZP (fun v5=>K (Ex.exit 0) (St.mk (Q3 28 0 [5] [Ai v5]) [])) N
 | 0=>by funext v0 v1 v2 v3 v4; rfl
 | N+1=>by
  funext v0 v1 v2 v3 v4
  simp only[ZP]
  rw[←Q4J K N]
  kernel_rfl
theorem QGB:Q4 (V 77) q77 o77 77 0 (3994,1,QlK):=.l (size:=28) (ss:=[1,2,5,6]) (F:=@QlI) (by kernel_rfl) (by kernel_rfl) fun R r K vs hh h=>by
 unfold QlI at h; split at h
 ·rw[Q6e]at h; unfold UR at h; rw[←Q4J K NR]at h; exact h
 ·cases h
theorem QGC:Q4 (V 77) q77 o77 77 0 (3993,0,QyD):=.s (size:=28) (ss:=[1,2,5,6]) (F:=@QlJ) (by kernel_rfl) fun R r K vs hh h=>by
 unfold QlJ at h; split at h
 ·rw[Q6d]at h; exact Eq.trans (by kernel_rfl) h
 ·cases h
theorem QR3:∀ x∈[(3994,1,QlK),(3993,0,QyD)],Q4 (V 77) q77 o77 77 0 x:=List.forall_mem_cons.2 ⟨QGB,List.forall_mem_cons.2 ⟨QGC,fun _ h=>nomatch h⟩⟩
def QNY : Ev.Qj := fun args _ K => match args with
 | ([AV.agg (Blk.any [Ai v0, Fu v1]), Ai v2]) => Ud v0 v1 v2 (fun v3 => K (Ai v3))
 | _ => none
def S77:=Qr 77 QNY S78
theorem D91 : Dom B0 V S77 UD 91 := Dom.s (m := 90) (n := 0) D90 D90 (O := o77) (Qd.fn (fn0 := Tryz.f77) (by kernel_rfl) (by kernel_rfl) QR3) fun args R K r h => by
 unfold QNY at h; split at h
 · rw [Q9Y] at h; exact Eq.trans (by kernel_rfl) h
 · cases h
def QlL (K : Ex → St → Option R) (vs : List AV) (hh : H) : Option R := match vs, hh with
 | [Ap 0 0, Ap 1 0, Ap 2 0, Ai v0], [HA [Ai v1, Fu v2], HA [Ai v3, AV.esl, AV.esl, AV.esl], HA [Ai v4, Fu v5, AV.sl 3 0 v6 1, AV.esl], HB.live (Blk.ints .i64 v7)] => Q2u v0 v1 v2 v3 v4 v5 v6 v7 (fun v8 v9 va vb vc vd ve => K (Ex.exit 0) (St.mk (Q3 53 0 [1, 2, 4] [Ap 0 0, Ap 1 0, Ap 2 0]) [HA [Ai v8, Fu v9], HA [Ai va, AV.esl, AV.esl, AV.esl], HA [Ai vb, Fu vc, AV.sl 3 0 vd 1, AV.esl], HB.live (Blk.ints .i64 ve)]))
 | _, _ => none
def Qif (K : Ex → St → Option R) (vs : List AV) (hh : H) : Option R := match vs, hh with
 | [Ap 0 0, Ap 1 0, Ap 2 0, Ai v0], [HA [Ai v1, Fu v2], HA [Ai v3, AV.esl, AV.esl, AV.esl], HA [Ai v4, Fu v5, AV.sl 3 0 v6 1, AV.sl 4 0 v7 1], HB.live (Blk.ints .i64 v8), HB.live (Blk.ints .i64 v9)] => Q1B v0 v1 v2 v3 v4 v5 v6 v7 v8 v9 (fun va vb vc vd ve vf vg => K (Ex.exit 2) (St.mk (Q3 53 0 [2, 4] [Ap 0 0, Ap 1 0]) [HA [Ai va, AV.esl, AV.esl, AV.esl], HA [Ai vb, Fu vc, AV.sl 2 0 vd 1, AV.sl 3 0 ve 1], HB.live (Blk.ints .i64 vf), HB.live (Blk.ints .i64 vg)]))
 | _, _ => none
def o62:Nat→Option Ql:=lkN [(6400,fun st _ K=>Qf 53 [1,2,4,5] st (QlL K)),(10400,fun st _ K=>Qf 53 [1,2,4,6] st (Qif K))]
def q62:Qi:=Qo (V 62) S77 UD 10
def QlM:Code:=Qk [1,1,1,0,1,0,0] (Q9 Tryz.f62)
def QEa(N:Nat)(st:St)(K:Ex→St→Option R):Option R:=Qs (QQ ((V 62).keep 62 (Ev.Qc QlM*1000+400)) 0) (Qh (V 62) q62 o62 62 0 3993 QlM) N st (QJ (V 62) 62 0 (Ev.Qc QlM*1000+401) K)
def QgQ:Code:=Qk [1,1,1,1,0,1,0,0] (Q9 Tryz.f62)
def QAY(N:Nat)(st:St)(K:Ex→St→Option R):Option R:=Qs (QQ ((V 62).keep 62 (Ev.Qc QgQ*1000+400)) 0) (Qh (V 62) q62 o62 62 0 3992 QgQ) N st (QJ (V 62) 62 0 (Ev.Qc QgQ*1000+401) K)
theorem Q4a(K:Ex→St→Option R):∀ N:Nat,(fun (v0 v1:Int) (v2:List Int) (v3 v4:Int) (v5:List Int) (v6:Nat) (v7:List Int)=>QEa N (St.mk (Q3 53 0 [1,2,4,5] [Ap 0 0,Ap 1 0,Ap 2 0,Ai v0]) [HA [Ai v1,Fu v2],HA [Ai v3,AV.esl,AV.esl,AV.esl],HA [Ai v4,Fu v5,AV.sl 3 0 v6 1,AV.esl],HB.live (Blk.ints .i64 v7)]) K)=Zs (fun v8 v9 va vb vc vd ve=>K (Ex.exit 0) (St.mk (Q3 53 0 [1,2,4] [Ap 0 0,Ap 1 0,Ap 2 0]) [HA [Ai v8,Fu v9],HA [Ai va,AV.esl,AV.esl,AV.esl],HA [Ai vb,Fu vc,AV.sl 3 0 vd 1,AV.esl],HB.live (Blk.ints .i64 ve)])) N
 | 0=>by funext v0 v1 v2 v3 v4 v5 v6 v7; rfl
 | N+1=>by
  funext v0 v1 v2 v3 v4 v5 v6 v7
  simp only[Zs]
  rw[←Q4a K N]
  kernel_rfl
theorem Q2X(K:Ex→St→Option R):∀ N:Nat,(fun (v0 v1:Int) (v2:List Int) (v3 v4:Int) (v5:List Int) (v6 v7:Nat) (v8 v9:List Int)=>QAY N (St.mk (Q3 53 0 [1,2,4,6] [Ap 0 0,Ap 1 0,Ap 2 0,Ai v0]) [HA [Ai v1,Fu v2],HA [Ai v3,AV.esl,AV.esl,AV.esl],HA [Ai v4,Fu v5,AV.sl 3 0 v6 1,AV.sl 4 0 v7 1],HB.live (Blk.ints .i64 v8),HB.live (Blk.ints .i64 v9)]) K)=Zj (fun va vb vc vd ve vf vg=>K (Ex.exit 2) (St.mk (Q3 53 0 [2,4] [Ap 0 0,Ap 1 0]) [HA [Ai va,AV.esl,AV.esl,AV.esl],HA [Ai vb,Fu vc,AV.sl 2 0 vd 1,AV.sl 3 0 ve 1],HB.live (Blk.ints .i64 vf),HB.live (Blk.ints .i64 vg)])) N
 | 0=>by funext v0 v1 v2 v3 v4 v5 v6 v7 v8 v9; rfl
 | N+1=>by
  funext v0 v1 v2 v3 v4 v5 v6 v7 v8 v9
  simp only[Zj]
  rw[←Q2X K N]
  kernel_rfl
theorem QGD:Q4 (V 62) q62 o62 62 0 (3993,1,QlM):=.l (size:=53) (ss:=[1,2,4,5]) (F:=@QlL) (by kernel_rfl) (by kernel_rfl) fun R r K vs hh h=>by
 unfold QlL at h; split at h
 ·rw[Q5i]at h; unfold Uj at h; rw[←Q4a K NR]at h; exact h
 ·cases h
theorem QEb:Q4 (V 62) q62 o62 62 0 (3992,1,QgQ):=.l (size:=53) (ss:=[1,2,4,6]) (F:=@Qif) (by kernel_rfl) (by kernel_rfl) fun R r K vs hh h=>by
 unfold Qif at h; split at h
 ·rw[Q4t]at h; unfold YW at h; rw[←Q2X K NR]at h; exact h
 ·cases h
theorem QR4:∀ x∈[(3993,1,QlM),(3992,1,QgQ)],Q4 (V 62) q62 o62 62 0 x:=List.forall_mem_cons.2 ⟨QGD,List.forall_mem_cons.2 ⟨QEb,fun _ h=>nomatch h⟩⟩
def QNZ : Ev.Qj := fun args _ K => match args with
 | ([AV.agg (Blk.any [Ai v0, Fu v1])]) => J9 v0 v1 (fun v2 v3 v4 v5 v6 => K (AV.tup [AV.agg (Blk.any [Ai v2, Fu v3, AV.fsl (Blk.ints .i64 v4), AV.fsl (Blk.ints .i64 v5)]), Ai v6]))
 | _ => none
def S62:=Qr 62 QNZ S77
theorem D92 : Dom B0 V S62 UD 92 := Dom.s (m := 91) (n := 0) D91 D91 (O := o62) (Qd.fn (fn0 := Tryz.f62) (by kernel_rfl) (by kernel_rfl) QR4) fun args R K r h => by
 unfold QNZ at h; split at h
 · rw [Q8o] at h; exact Eq.trans (by kernel_rfl) h
 · cases h
def Qdw (K : Ex → St → Option R) (vs : List AV) (hh : H) : Option R := match vs, hh with
 | [Ai v0, Ap 0 0, Ab v1], [HA [Ai v2, AV.esl]] => Uy v0 v1 v2 (fun v3 v4 => K (Ex.ret) (St.mk (Q3 16 0 [2, 3] [Ap 0 0, Ai v3]) [HA [Ai v4, AV.esl]])) (fun v3 v4 => K (Ex.normal) (St.mk (Q3 16 0 [0, 2] [Ai v3, Ap 0 0]) [HA [Ai v4, AV.esl]]))
 | _, _ => none
def Qdx (K : Ex → St → Option R) (vs : List AV) (hh : H) : Option R := match vs, hh with
 | [Ai v0, Ap 0 0], [HA [Ai v1, AV.esl]] => Q0y v0 v1 (fun v2 v3 v4 v5 => K (Ex.ret) (St.mk (Q3 16 0 [2, 3] [Ap 0 0, Ai v2]) [HA [Ai v3, AV.sl 1 0 v4 1], HU v5]))
 | _, _ => none
def Qx7:Nat→Option Ql:=lkN [(3000,fun st _ K=>Qf 16 [0,2,9] st (Qdw K)),(4000,fun st _ K=>Qf 16 [0,2] st (Qdx K))]
def QAZ:Qi:=Qo (V 141) S62 UD 10
def Qrv:Code:=Qk [1,1] (Q9 Tryz.f141)
def Qrw:Code:=Qk [1,0,1] (Q9 Tryz.f141)
theorem QyE:Q4 (V 141) QAZ Qx7 141 0 (3998,0,Qrv):=.s (size:=16) (ss:=[0,2]) (F:=@Qdx) (by kernel_rfl) fun R r K vs hh h=>by
 unfold Qdx at h; split at h
 ·rw[Q7d]at h; exact Eq.trans (by kernel_rfl) h
 ·cases h
theorem QyF:Q4 (V 141) QAZ Qx7 141 0 (3997,0,Qrw):=.s (size:=16) (ss:=[0,2,9]) (F:=@Qdw) (by kernel_rfl) fun R r K vs hh h=>by
 unfold Qdw at h; split at h
 ·rw[Q7c]at h; exact Eq.trans (by kernel_rfl) h
 ·cases h
theorem QJ8:∀ x∈[(3998,0,Qrv),(3997,0,Qrw)],Q4 (V 141) QAZ Qx7 141 0 x:=List.forall_mem_cons.2 ⟨QyE,List.forall_mem_cons.2 ⟨QyF,fun _ h=>nomatch h⟩⟩
def QKN : Ya := fun args h _ K => match args, h with
 | [Ai v0], [] => Q1f v0 (fun v1 v2 => K (AV.tup [AV.agg (Blk.any [Ai v1, AV.esl]), Ai v2]) []) (fun v1 v2 v3 v4 => K (AV.tup [AV.agg (Blk.any [Ai v1, AV.sl 0 0 v2 1]), Ai v3]) ([HU v4]))
 | _, _ => none
def QJ9:=Qp4 141 QKN UD
theorem D93 : Dom B0 V S62 QJ9 93 := Dom.t D92 fun args hh R K r h => by
 unfold QKN at h; split at h
 · rw [Q8t] at h; exact ⟨Qx7, (Qd.fn (fn0 := Tryz.f141) (by kernel_rfl) (by kernel_rfl) QJ8), Eq.trans (by kernel_rfl) h⟩
 · cases h
def QKO : Ev.Qj := fun args _ K => match args with
 | ([Fu v0, Ai v1, Ab v2]) => Qa3 v0 v1 v2
 | _ => none
def QGE:=Qr 142 QKO S62
theorem D94 : Dom B0 V QGE QJ9 94 := Dom.s (m := 93) (n := 0) D93 D93 (O := (fun _ => none)) (fun _ _ _ _ => Qd.none _ _) fun args R K r h => by
 unfold QKO at h; split at h
 · rw [Qly] at h; exact Eq.trans (by kernel_rfl) h
 · cases h
theorem Qig(K:AV→H→Option R)(v0:Nat)(v1:Int)(v2:Bool)(v3:List Int):evH (V 142) QGE QJ9 (fun _=>none) 10 142 [AV.sl 0 0 v0 1,Ai v1,Ab v2] [HU v3] R K=Q03 v0 v1 v2 v3 (fun v4=>K (AV.tup []) ([HU v4])):=by kernel_rfl
def QKP : Ya := fun args h _ K => match args, h with
 | [AV.sl 0 0 v0 1, Ai v1, Ab v2], [HU v3] => Q1g v0 v1 v2 v3 (fun v4 => K (AV.tup []) ([HU v4]))
 | _, _ => none
def QW:=Qp4 142 QKP QJ9
theorem D95 : Dom B0 V QGE QW 95 := Dom.t D94 fun args hh R K r h => by
 unfold QKP at h; split at h
 · rw [Q8u] at h; exact ⟨(fun _ => none), (fun _ _ _ _ => Qd.none _ _), (Qig K _ _ _ _).trans h⟩
 · cases h
def QlN (K : Ex → St → Option R) (vs : List AV) (hh : H) : Option R := match vs, hh with
 | [AV.fsl (Blk.bools v0), Ap 0 0, Ap 1 0, Ai v1, Ai v2], [HA [Ai v3, AV.esl], HA [Ai v4, AV.esl]] => Q3V v0 v1 v2 v3 v4 (fun v5 v6 v7 => K (Ex.exit 0) (St.mk (Q3 29 0 [2, 4, 5] [Ap 0 0, Ap 1 0, Ai v5]) [HA [Ai v6, AV.esl], HA [Ai v7, AV.esl]]))
 | [AV.fsl (Blk.bools v8), Ap 0 0, Ap 1 0, Ai v9, Ai va], [HA [Ai vb, AV.esl], HA [Ai vc, AV.sl 2 0 vd 1], HU ve] => Q1I v8 v9 va vb vc vd ve (fun v5 v6 v7 vf vg => K (Ex.exit 0) (St.mk (Q3 29 0 [2, 4, 5] [Ap 0 0, Ap 1 0, Ai v5]) [HA [Ai v6, AV.esl], HA [Ai v7, AV.sl 2 0 vf 1], HU vg]))
 | _, _ => none
def o93:Nat→Option Ql:=lkN [(4400,fun st _ K=>Qf 29 [0,2,4,5,6] st (QlN K))]
def q93:Qi:=Qo (V 93) QGE QW 10
def QlO:Code:=Qk [1,1,0,1,0,0] (Q9 Tryz.f93)
def Qvn(N:Nat)(st:St)(K:Ex→St→Option R):Option R:=Qs (QQ ((V 93).keep 93 (Ev.Qc QlO*1000+400)) 0) (Qh (V 93) q93 o93 93 0 3994 QlO) N st (QJ (V 93) 93 0 (Ev.Qc QlO*1000+401) K)
theorem Q4K(K:Ex→St→Option R):∀ N:Nat,(fun (v0:List Bool) (v1 v2 v3 v4:Int)=>Qvn N (St.mk (Q3 29 0 [0,2,4,5,6] [AV.fsl (Blk.bools v0),Ap 0 0,Ap 1 0,Ai v1,Ai v2]) [HA [Ai v3,AV.esl],HA [Ai v4,AV.esl]]) K)=UW (fun v5 v6 v7=>K (Ex.exit 0) (St.mk (Q3 29 0 [2,4,5] [Ap 0 0,Ap 1 0,Ai v5]) [HA [Ai v6,AV.esl],HA [Ai v7,AV.esl]])) N
 | 0=>by funext v0 v1 v2 v3 v4; rfl
 | N+1=>by
  funext v0 v1 v2 v3 v4
  simp only[UW]
  rw[←Q4K K N]
  kernel_rfl
theorem Q2Y(K:Ex→St→Option R):∀ N:Nat,(fun (v0:List Bool) (v1 v2 v3 v4:Int) (v5:Nat) (v6:List Int)=>Qvn N (St.mk (Q3 29 0 [0,2,4,5,6] [AV.fsl (Blk.bools v0),Ap 0 0,Ap 1 0,Ai v1,Ai v2]) [HA [Ai v3,AV.esl],HA [Ai v4,AV.sl 2 0 v5 1],HU v6]) K)=Zm (fun v7 v8 v9 va vb=>K (Ex.exit 0) (St.mk (Q3 29 0 [2,4,5] [Ap 0 0,Ap 1 0,Ai v7]) [HA [Ai v8,AV.esl],HA [Ai v9,AV.sl 2 0 va 1],HU vb])) N
 | 0=>by funext v0 v1 v2 v3 v4 v5 v6; rfl
 | N+1=>by
  funext v0 v1 v2 v3 v4 v5 v6
  simp only[Zm]
  rw[←Q2Y K N]
  kernel_rfl
theorem QGF:Q4 (V 93) q93 o93 93 0 (3994,1,QlO):=.l (size:=29) (ss:=[0,2,4,5,6]) (F:=@QlN) (by kernel_rfl) (by kernel_rfl) fun R r K vs hh h=>by
 unfold QlN at h; split at h
 ·rw[Qf1]at h; unfold Q1H at h; rw[←Q4K K NR]at h; exact h
 ·rw[Q4B]at h; unfold U1 at h; rw[←Q2Y K NR]at h; exact h
 ·cases h
theorem QR5:∀ x∈[(3994,1,QlO)],Q4 (V 93) q93 o93 93 0 x:=List.forall_mem_cons.2 ⟨QGF,fun _ h=>nomatch h⟩
def QO0 : Ev.Qj := fun args _ K => match args with
 | ([AV.fsl (Blk.bools v0)]) => Y2 v0 (fun v1 v2 v3 => K (AV.tup [AV.agg (Blk.any [Ai v1, Fu v2]), Ai v3]))
 | _ => none
def S93:=Qr 93 QO0 QGE
theorem D96 : Dom B0 V S93 QW 96 := Dom.s (m := 95) (n := 0) D95 D95 (O := o93) (Qd.fn (fn0 := Tryz.f93) (by kernel_rfl) (by kernel_rfl) QR5) fun args R K r h => by
 unfold QO0 at h; split at h
 · rw [Qa4] at h; exact Eq.trans (by kernel_rfl) h
 · cases h
def Qih (K : Ex → St → Option R) (vs : List AV) (hh : H) : Option R := match vs, hh with
 | [Au v0, Ai v1], [] => Q5n v0 v1 (fun v2 => K (Ex.ret) (St.mk (Q3 16 0 [2] [Ai v2]) [])) (fun _ => K (Ex.exit 0) (St.mk (Q3 16 0 [] []) []))
 | _, _ => none
def QJa:Nat→Option Ql:=lkN [(3400,fun st _ K=>Qf 16 [0,3] st (Qih K))]
def QMo:Qi:=Qo (V 162) S93 QW 10
def QgR:Code:=Qk [1,0,1,0,0] (Q9 Tryz.f162)
def QB0(N:Nat)(st:St)(K:Ex→St→Option R):Option R:=Qs (QQ ((V 162).keep 162 (Ev.Qc QgR*1000+400)) 0) (Qh (V 162) QMo QJa 162 0 3995 QgR) N st (QJ (V 162) 162 0 (Ev.Qc QgR*1000+401) K)
theorem Q60(K:Ex→St→Option R):∀ N:Nat,(fun (v0 v1:Int)=>QB0 N (St.mk (Q3 16 0 [0,3] [Au v0,Ai v1]) []) K)=Y6 (fun v2=>K (Ex.ret) (St.mk (Q3 16 0 [2] [Ai v2]) [])) (fun _=>K (Ex.exit 0) (St.mk (Q3 16 0 [] []) [])) N
 | 0=>by funext v0 v1; rfl
 | N+1=>by
  funext v0 v1
  simp only[Y6]
  rw[←Q60 K N]
  kernel_rfl
theorem QEc:Q4 (V 162) QMo QJa 162 0 (3995,1,QgR):=.l (size:=16) (ss:=[0,3]) (F:=@Qih) (by kernel_rfl) (by kernel_rfl) fun R r K vs hh h=>by
 unfold Qih at h; split at h
 ·rw[Q78]at h; unfold Jp at h; rw[←Q60 K NR]at h; exact h
 ·cases h
theorem QO1:∀ x∈[(3995,1,QgR)],Q4 (V 162) QMo QJa 162 0 x:=List.forall_mem_cons.2 ⟨QEc,fun _ h=>nomatch h⟩
def QKQ : Ev.Qj := fun args _ K => match args with
 | ([Au v0]) => UT v0 (fun v1 => K (Ai v1))
 | _ => none
def QO2:=Qr 162 QKQ S93
theorem D97 : Dom B0 V QO2 QW 97 := Dom.s (m := 96) (n := 0) D96 D96 (O := QJa) (Qd.fn (fn0 := Tryz.f162) (by kernel_rfl) (by kernel_rfl) QO1) fun args R K r h => by
 unfold QKQ at h; split at h
 · rw [Qay] at h; exact Eq.trans (by kernel_rfl) h
 · cases h
def QKR : Ev.Qj := fun args _ K => match args with
 | ([Au v0, Ai v1]) => Q2B v0 v1 (fun v2 => K (Ab v2))
 | _ => none
def QJb:=Qr 163 QKR QO2
theorem D98 : Dom B0 V QJb QW 98 := Dom.s (m := 97) (n := 0) D97 D97 (O := (fun _ => none)) (fun _ _ _ _ => Qd.none _ _) fun args R K r h => by
 unfold QKR at h; split at h
 · rw [Qa2] at h; exact Eq.trans (by kernel_rfl) h
 · cases h
def Qii (K : Ex → St → Option R) (vs : List AV) (hh : H) : Option R := match vs, hh with
 | [Ai v0, Fu v1, Ap 0 0, Ab v2], [HA [Ai v3, Ai v4, Ai v5, AV.esl]] => ZE v0 v1 v2 v3 v4 v5 (fun v6 v7 v8 v9 => K (Ex.ret) (St.mk (Q3 71 0 [4, 5] [Ap 0 0, Ai v6]) [HA [Ai v7, Ai v8, Ai v9, AV.esl]])) (fun v6 v7 v8 v9 va => K (Ex.normal) (St.mk (Q3 71 0 [0, 1, 4] [Ai v6, Fu v7, Ap 0 0]) [HA [Ai v8, Ai v9, Ai va, AV.esl]]))
 | _, _ => none
def Qij (K : Ex → St → Option R) (vs : List AV) (hh : H) : Option R := match vs, hh with
 | [Ai v0, Fu v1, Ap 0 0], [HA [Ai v2, Ai v3, Ai v4, AV.esl]] => ZF v0 v1 v2 v3 v4 (fun v5 v6 v7 v8 => K (Ex.ret) (St.mk (Q3 71 0 [4, 5] [Ap 0 0, Ai v5]) [HA [Ai v6, Ai v7, Ai v8, AV.esl]])) (fun v5 v6 v7 v8 v9 => K (Ex.ret) (St.mk (Q3 71 0 [4, 5] [Ap 0 0, Ai v5]) [HA [Ai v6, Ai v7, Ai v8, Fu v9]]))
 | _, _ => none
def Qik (K : Ex → St → Option R) (vs : List AV) (hh : H) : Option R := match vs, hh with
 | [Ai v0, Fu v1, Ap 0 0, AV.sl 1 0 v2 1, Ai v3], [HA [Ai v4, Ai v5, Ai v6, AV.esl], HO v7] => Q3T v0 v1 v2 v3 v4 v5 v6 v7 (fun v8 v9 va vb => K (Ex.ret) (St.mk (Q3 71 0 [4, 5] [Ap 0 0, Ai v8]) [HA [Ai v9, Ai va, Ai vb, AV.esl]])) (fun v8 v9 va vb vc vd ve => K (Ex.exit 0) (St.mk (Q3 71 0 [0, 1, 4, 6] [Ai v8, Fu v9, Ap 0 0, AV.sl 1 0 va 1]) [HA [Ai vb, Ai vc, Ai vd, AV.esl], HO ve]))
 | _, _ => none
def QfR (K : Ex → St → Option R) (vs : List AV) (hh : H) : Option R := match vs, hh with
 | [Ai v0, Fu v1, Ap 0 0, AV.sl 1 0 v2 1, Ai v3, Ai v4], [HA [Ai v5, Ai v6, Ai v7, AV.esl], HO v8] => Q2C v0 v1 v2 v3 v4 v5 v6 v7 v8 (fun v9 va vb vc vd ve vf vg => K (Ex.exit 2) (St.mk (Q3 71 0 [0, 1, 4, 6, 7] [Ai v9, Fu va, Ap 0 0, AV.sl 1 0 vb 1, Ai vc]) [HA [Ai vd, Ai ve, Ai vf, AV.esl], HO vg]))
 | _, _ => none
def Qx8:Nat→Option Ql:=lkN [(3000,fun st _ K=>Qf 71 [0,1,4,28] st (Qii K)),(4000,fun st _ K=>Qf 71 [0,1,4] st (Qij K)),(6400,fun st _ K=>Qf 71 [0,1,4,6,7] st (Qik K)),(11400,fun st _ K=>Qf 71 [0,1,4,6,7,8] st (QfR K))]
def QB1:Qi:=Qo (V 124) QJb QW 10
def Qvo:Code:=Qk [1,1] (Q9 Tryz.f124)
def Qvp:Code:=Qk [1,0,1] (Q9 Tryz.f124)
def QgS:Code:=Qk [1,1,1,0,1,0,0] (Q9 Tryz.f124)
def QB2(N:Nat)(st:St)(K:Ex→St→Option R):Option R:=Qs (QQ ((V 124).keep 124 (Ev.Qc QgS*1000+400)) 0) (Qh (V 124) QB1 Qx8 124 0 3993 QgS) N st (QJ (V 124) 124 0 (Ev.Qc QgS*1000+401) K)
def Qdy:Code:=Qk [1,1,1,0,1,0,0,1,0,0,1,1,0,0] (Q9 Tryz.f124)
def QyG(N:Nat)(st:St)(K:Ex→St→Option R):Option R:=Qs (QQ ((V 124).keep 124 (Ev.Qc Qdy*1000+400)) 0) (Qh (V 124) QB1 Qx8 124 0 3986 Qdy) N st (QJ (V 124) 124 0 (Ev.Qc Qdy*1000+401) K)
theorem Q4b(K:Ex→St→Option R):∀ N:Nat,(fun (v0:Int) (v1:List Int) (v2:Nat) (v3 v4 v5 v6 v7:Int) (v8:List Bool)=>QyG N (St.mk (Q3 71 0 [0,1,4,6,7,8] [Ai v0,Fu v1,Ap 0 0,AV.sl 1 0 v2 1,Ai v3,Ai v4]) [HA [Ai v5,Ai v6,Ai v7,AV.esl],HO v8]) K)=Zu (fun v9 va vb vc vd ve vf vg=>K (Ex.exit 2) (St.mk (Q3 71 0 [0,1,4,6,7] [Ai v9,Fu va,Ap 0 0,AV.sl 1 0 vb 1,Ai vc]) [HA [Ai vd,Ai ve,Ai vf,AV.esl],HO vg])) N
 | 0=>by funext v0 v1 v2 v3 v4 v5 v6 v7 v8; rfl
 | N+1=>by
  funext v0 v1 v2 v3 v4 v5 v6 v7 v8
  simp only[Zu]
  rw[←Q4b K N]
  kernel_rfl
theorem Q4L(K:Ex→St→Option R):∀ N:Nat,(fun (v0:Int) (v1:List Int) (v2:Nat) (v3 v4 v5 v6:Int) (v7:List Bool)=>QB2 N (St.mk (Q3 71 0 [0,1,4,6,7] [Ai v0,Fu v1,Ap 0 0,AV.sl 1 0 v2 1,Ai v3]) [HA [Ai v4,Ai v5,Ai v6,AV.esl],HO v7]) K)=Za (fun v8 v9 va vb=>K (Ex.ret) (St.mk (Q3 71 0 [4,5] [Ap 0 0,Ai v8]) [HA [Ai v9,Ai va,Ai vb,AV.esl]])) (fun v8 v9 va vb vc vd ve=>K (Ex.exit 0) (St.mk (Q3 71 0 [0,1,4,6] [Ai v8,Fu v9,Ap 0 0,AV.sl 1 0 va 1]) [HA [Ai vb,Ai vc,Ai vd,AV.esl],HO ve])) N
 | 0=>by funext v0 v1 v2 v3 v4 v5 v6 v7; rfl
 | N+1=>by
  funext v0 v1 v2 v3 v4 v5 v6 v7
  simp only[Za]
  rw[←Q4L K N]
  kernel_rfl
theorem QEd:Q4 (V 124) QB1 Qx8 124 0 (3998,0,Qvo):=.s (size:=71) (ss:=[0,1,4]) (F:=@Qij) (by kernel_rfl) fun R r K vs hh h=>by
 unfold Qij at h; split at h
 ·rw[Q6m]at h; exact Eq.trans (by kernel_rfl) h
 ·cases h
theorem QEe:Q4 (V 124) QB1 Qx8 124 0 (3997,0,Qvp):=.s (size:=71) (ss:=[0,1,4,28]) (F:=@Qii) (by kernel_rfl) fun R r K vs hh h=>by
 unfold Qii at h; split at h
 ·rw[Q0f]at h; exact Eq.trans (by kernel_rfl) h
 ·cases h
theorem QEf:Q4 (V 124) QB1 Qx8 124 0 (3993,1,QgS):=.l (size:=71) (ss:=[0,1,4,6,7]) (F:=@Qik) (by kernel_rfl) (by kernel_rfl) fun R r K vs hh h=>by
 unfold Qik at h; split at h
 ·rw[Q6k]at h; unfold UV at h; rw[←Q4L K NR]at h; exact h
 ·cases h
theorem QB3:Q4 (V 124) QB1 Qx8 124 0 (3986,1,Qdy):=.l (size:=71) (ss:=[0,1,4,6,7,8]) (F:=@QfR) (by kernel_rfl) (by kernel_rfl) fun R r K vs hh h=>by
 unfold QfR at h; split at h
 ·rw[Q5r]at h; unfold Um at h; rw[←Q4b K NR]at h; exact h
 ·cases h
theorem QO3:∀ x∈[(3998,0,Qvo),(3997,0,Qvp),(3993,1,QgS),(3986,1,Qdy)],Q4 (V 124) QB1 Qx8 124 0 x:=List.forall_mem_cons.2 ⟨QEd,List.forall_mem_cons.2 ⟨QEe,List.forall_mem_cons.2 ⟨QEf,List.forall_mem_cons.2 ⟨QB3,fun _ h=>nomatch h⟩⟩⟩⟩
theorem Qlv(K:AV→Option R)(v0:Int)(v1:List Int):JD (V 124) QJb QW Qx8 10 124 ([Ai v0,Fu v1]) R K=Q0z v0 v1 (fun v2 v3 v4 v5 v6=>K (AV.tup [AV.agg (Blk.any [Ai v2,Ai v3,Ai v4,Fu v5]),Ai v6])):=by kernel_rfl
def QKS : Ev.Qj := fun args _ K => match args with
 | ([Ai v0, Fu v1]) => JO v0 v1 (fun v2 v3 v4 v5 v6 => K (AV.tup [AV.agg (Blk.any [Ai v2, Ai v3, Ai v4, Fu v5]), Ai v6]))
 | _ => none
def QMp:=Qr 124 QKS QJb
theorem D99 : Dom B0 V QMp QW 99 := Dom.s (m := 98) (n := 0) D98 D98 (O := Qx8) (Qd.fn (fn0 := Tryz.f124) (by kernel_rfl) (by kernel_rfl) QO3) fun args R K r h => by
 unfold QKS at h; split at h
 · rw [Qa5] at h; exact (Qlv K _ _).trans h
 · cases h
def Qil (K : Ex → St → Option R) (vs : List AV) (hh : H) : Option R := match vs, hh with
 | [Ai v0, Ap 0 0, Au v1, Ai v2], [HA [Ai v3, Fu v4]] => Q2w v0 v1 v2 v3 v4 (fun v5 => K (Ex.exit 0) (St.mk (Q3 30 0 [5] [Au v5]) []))
 | _, _ => none
def Qim (K : Ex → St → Option R) (vs : List AV) (hh : H) : Option R := match vs, hh with
 | [Ai v0, Ap 0 0, Au v1, Ai v2], [HA [Ai v3, Fu v4]] => Q2v v0 v1 v2 v3 v4 (fun v5 v6 v7 v8 v9 => K (Ex.normal) (St.mk (Q3 30 0 [1, 2, 5, 6] [Ai v5, Ap 0 0, Au v6, Ai v7]) [HA [Ai v8, Fu v9]]))
 | _, _ => none
def QGG:Nat→Option Ql:=lkN [(4400,fun st _ K=>Qf 30 [1,2,5,6] st (Qil K)),(6000,fun st _ K=>Qf 30 [1,2,5,6] st (Qim K))]
def QJc:Qi:=Qo (V 121) QMp QW 10
def QgT:Code:=Qk [1,1,0,1,0,0] (Q9 Tryz.f121)
def QB4(N:Nat)(st:St)(K:Ex→St→Option R):Option R:=Qs (QQ ((V 121).keep 121 (Ev.Qc QgT*1000+400)) 0) (Qh (V 121) QJc QGG 121 0 3994 QgT) N st (QJ (V 121) 121 0 (Ev.Qc QgT*1000+401) K)
def Qvq:Code:=Qk [1,1,0,1,0,0,1] (Q9 Tryz.f121)
theorem Q4c(K:Ex→St→Option R):∀ N:Nat,(fun (v0 v1 v2 v3:Int) (v4:List Int)=>QB4 N (St.mk (Q3 30 0 [1,2,5,6] [Ai v0,Ap 0 0,Au v1,Ai v2]) [HA [Ai v3,Fu v4]]) K)=Zt (fun v5=>K (Ex.exit 0) (St.mk (Q3 30 0 [5] [Au v5]) [])) N
 | 0=>by funext v0 v1 v2 v3 v4; rfl
 | N+1=>by
  funext v0 v1 v2 v3 v4
  simp only[Zt]
  rw[←Q4c K N]
  kernel_rfl
theorem QEg:Q4 (V 121) QJc QGG 121 0 (3994,1,QgT):=.l (size:=30) (ss:=[1,2,5,6]) (F:=@Qil) (by kernel_rfl) (by kernel_rfl) fun R r K vs hh h=>by
 unfold Qil at h; split at h
 ·rw[Q5k]at h; unfold Uk at h; rw[←Q4c K NR]at h; exact h
 ·cases h
theorem QEh:Q4 (V 121) QJc QGG 121 0 (3993,0,Qvq):=.s (size:=30) (ss:=[1,2,5,6]) (F:=@Qim) (by kernel_rfl) fun R r K vs hh h=>by
 unfold Qim at h; split at h
 ·rw[Q5j]at h; exact Eq.trans (by kernel_rfl) h
 ·cases h
theorem QO4:∀ x∈[(3994,1,QgT),(3993,0,Qvq)],Q4 (V 121) QJc QGG 121 0 x:=List.forall_mem_cons.2 ⟨QEg,List.forall_mem_cons.2 ⟨QEh,fun _ h=>nomatch h⟩⟩
def QKT : Ev.Qj := fun args _ K => match args with
 | ([AV.agg (Blk.any [Ai v0, Fu v1]), Ai v2]) => Q1e v0 v1 v2 (fun v3 => K (Au v3))
 | _ => none
def QMq:=Qr 121 QKT QMp
theorem QO5 : Dom B0 V QMq QW 100 := Dom.s (m := 99) (n := 0) D99 D99 (O := QGG) (Qd.fn (fn0 := Tryz.f121) (by kernel_rfl) (by kernel_rfl) QO4) fun args R K r h => by
 unfold QKT at h; split at h
 · rw [Q8p] at h; exact Eq.trans (by kernel_rfl) h
 · cases h
def Qin (K : Ex → St → Option R) (vs : List AV) (hh : H) : Option R := match vs, hh with
 | [Au v0, Ai v1, Ai v2, Ai v3], [] => Q3R v0 v1 v2 v3 (fun v4 => K (Ex.exit 0) (St.mk (Q3 25 0 [5] [Ai v4]) []))
 | _, _ => none
def Qio (K : Ex → St → Option R) (vs : List AV) (hh : H) : Option R := match vs, hh with
 | [Au v0, Ai v1, Ai v2, Ai v3], [] => Q3Q v0 v1 v2 v3 (fun v4 v5 v6 v7 => K (Ex.normal) (St.mk (Q3 25 0 [0, 1, 5, 6] [Au v4, Ai v5, Ai v6, Ai v7]) []))
 | _, _ => none
def QGH:Nat→Option Ql:=lkN [(4400,fun st _ K=>Qf 25 [0,1,5,6] st (Qin K)),(6000,fun st _ K=>Qf 25 [0,1,5,6] st (Qio K))]
def QJd:Qi:=Qo (V 160) QMq QW 10
def QgU:Code:=Qk [1,1,0,1,0,0] (Q9 Tryz.f160)
def QB5(N:Nat)(st:St)(K:Ex→St→Option R):Option R:=Qs (QQ ((V 160).keep 160 (Ev.Qc QgU*1000+400)) 0) (Qh (V 160) QJd QGH 160 0 3994 QgU) N st (QJ (V 160) 160 0 (Ev.Qc QgU*1000+401) K)
def Qvr:Code:=Qk [1,1,0,1,0,0,1] (Q9 Tryz.f160)
theorem Q4M(K:Ex→St→Option R):∀ N:Nat,(fun (v0 v1 v2 v3:Int)=>QB5 N (St.mk (Q3 25 0 [0,1,5,6] [Au v0,Ai v1,Ai v2,Ai v3]) []) K)=ZQ (fun v4=>K (Ex.exit 0) (St.mk (Q3 25 0 [5] [Ai v4]) [])) N
 | 0=>by funext v0 v1 v2 v3; rfl
 | N+1=>by
  funext v0 v1 v2 v3
  simp only[ZQ]
  rw[←Q4M K N]
  kernel_rfl
theorem QEi:Q4 (V 160) QJd QGH 160 0 (3994,1,QgU):=.l (size:=25) (ss:=[0,1,5,6]) (F:=@Qin) (by kernel_rfl) (by kernel_rfl) fun R r K vs hh h=>by
 unfold Qin at h; split at h
 ·rw[Q6h]at h; unfold US at h; rw[←Q4M K NR]at h; exact h
 ·cases h
theorem QEj:Q4 (V 160) QJd QGH 160 0 (3993,0,Qvr):=.s (size:=25) (ss:=[0,1,5,6]) (F:=@Qio) (by kernel_rfl) fun R r K vs hh h=>by
 unfold Qio at h; split at h
 ·rw[Q6g]at h; exact Eq.trans (by kernel_rfl) h
 ·cases h
theorem QO6:∀ x∈[(3994,1,QgU),(3993,0,Qvr)],Q4 (V 160) QJd QGH 160 0 x:=List.forall_mem_cons.2 ⟨QEi,List.forall_mem_cons.2 ⟨QEj,fun _ h=>nomatch h⟩⟩
def QKU : Ev.Qj := fun args _ K => match args with
 | ([Au v0, Ai v1]) => Q2x v0 v1 (fun v2 => K (Ai v2))
 | _ => none
def QMr:=Qr 160 QKU QMq
theorem QO7 : Dom B0 V QMr QW 101 := Dom.s (m := 100) (n := 0) QO5 QO5 (O := QGH) (Qd.fn (fn0 := Tryz.f160) (by kernel_rfl) (by kernel_rfl) QO6) fun args R K r h => by
 unfold QKU at h; split at h
 · rw [Q9Z] at h; exact Eq.trans (by kernel_rfl) h
 · cases h
def Qip (K : Ex → St → Option R) (vs : List AV) (hh : H) : Option R := match vs, hh with
 | [Ai v0, Ai v1], [] => Q1E v0 v1 (fun v2 => K (Ex.ret) (St.mk (Q3 55 0 [4] [Au v2]) []))
 | _, _ => none
def Qiq (K : Ex → St → Option R) (vs : List AV) (hh : H) : Option R := match vs, hh with
 | [Ai v0, Ai v1, AV.sl 0 0 v2 1, Ai v3], [HU v4] => Q1D v0 v1 v2 v3 v4 (fun v5 v6 v7 => K (Ex.exit 0) (St.mk (Q3 55 0 [1, 5] [Ai v5, AV.sl 0 0 v6 1]) [HU v7]))
 | _, _ => none
def QfS (K : Ex → St → Option R) (vs : List AV) (hh : H) : Option R := match vs, hh with
 | [Ai v0, Ai v1, AV.sl 0 0 v2 1, Ai v3, Ai v4], [HU v5] => Q0T v0 v1 v2 v3 v4 v5 (fun v6 v7 v8 v9 va => K (Ex.exit 2) (St.mk (Q3 55 0 [0, 1, 5, 6] [Ai v6, Ai v7, AV.sl 0 0 v8 1, Ai v9]) [HU va]))
 | _, _ => none
def QB6:Nat→Option Ql:=lkN [(4000,fun st _ K=>Qf 55 [0,1] st (Qip K)),(7400,fun st _ K=>Qf 55 [0,1,5,6] st (Qiq K)),(10400,fun st _ K=>Qf 55 [0,1,5,6,7] st (QfS K))]
def QEk:Qi:=Qo (V 161) QMr QW 10
def Qvs:Code:=Qk [1,1] (Q9 Tryz.f161)
def QgV:Code:=Qk [1,1,1,1,0,1,0,0] (Q9 Tryz.f161)
def QB7(N:Nat)(st:St)(K:Ex→St→Option R):Option R:=Qs (QQ ((V 161).keep 161 (Ev.Qc QgV*1000+400)) 0) (Qh (V 161) QEk QB6 161 0 3992 QgV) N st (QJ (V 161) 161 0 (Ev.Qc QgV*1000+401) K)
def Qdz:Code:=Qk [1,1,1,1,0,1,0,0,1,0,0,1,0,0] (Q9 Tryz.f161)
def QyH(N:Nat)(st:St)(K:Ex→St→Option R):Option R:=Qs (QQ ((V 161).keep 161 (Ev.Qc Qdz*1000+400)) 0) (Qh (V 161) QEk QB6 161 0 3986 Qdz) N st (QJ (V 161) 161 0 (Ev.Qc Qdz*1000+401) K)
theorem Q1Z(K:Ex→St→Option R):∀ N:Nat,(fun (v0 v1:Int) (v2:Nat) (v3 v4:Int) (v5:List Int)=>QyH N (St.mk (Q3 55 0 [0,1,5,6,7] [Ai v0,Ai v1,AV.sl 0 0 v2 1,Ai v3,Ai v4]) [HU v5]) K)=Z9 (fun v6 v7 v8 v9 va=>K (Ex.exit 2) (St.mk (Q3 55 0 [0,1,5,6] [Ai v6,Ai v7,AV.sl 0 0 v8 1,Ai v9]) [HU va])) N
 | 0=>by funext v0 v1 v2 v3 v4 v5; rfl
 | N+1=>by
  funext v0 v1 v2 v3 v4 v5
  simp only[Z9]
  rw[←Q1Z K N]
  kernel_rfl
theorem Q2Z(K:Ex→St→Option R):∀ N:Nat,(fun (v0 v1:Int) (v2:Nat) (v3:Int) (v4:List Int)=>QB7 N (St.mk (Q3 55 0 [0,1,5,6] [Ai v0,Ai v1,AV.sl 0 0 v2 1,Ai v3]) [HU v4]) K)=Zk (fun v5 v6 v7=>K (Ex.exit 0) (St.mk (Q3 55 0 [1,5] [Ai v5,AV.sl 0 0 v6 1]) [HU v7])) N
 | 0=>by funext v0 v1 v2 v3 v4; rfl
 | N+1=>by
  funext v0 v1 v2 v3 v4
  simp only[Zk]
  rw[←Q2Z K N]
  kernel_rfl
theorem QEl:Q4 (V 161) QEk QB6 161 0 (3998,0,Qvs):=.s (size:=55) (ss:=[0,1]) (F:=@Qip) (by kernel_rfl) fun R r K vs hh h=>by
 unfold Qip at h; split at h
 ·rw[Q4v]at h; exact Eq.trans (by kernel_rfl) h
 ·cases h
theorem QEm:Q4 (V 161) QEk QB6 161 0 (3992,1,QgV):=.l (size:=55) (ss:=[0,1,5,6]) (F:=@Qiq) (by kernel_rfl) (by kernel_rfl) fun R r K vs hh h=>by
 unfold Qiq at h; split at h
 ·rw[Q4u]at h; unfold YX at h; rw[←Q2Z K NR]at h; exact h
 ·cases h
theorem QB8:Q4 (V 161) QEk QB6 161 0 (3986,1,Qdz):=.l (size:=55) (ss:=[0,1,5,6,7]) (F:=@QfS) (by kernel_rfl) (by kernel_rfl) fun R r K vs hh h=>by
 unfold QfS at h; split at h
 ·rw[Q3e]at h; unfold YG at h; rw[←Q1Z K NR]at h; exact h
 ·cases h
theorem QO8:∀ x∈[(3998,0,Qvs),(3992,1,QgV),(3986,1,Qdz)],Q4 (V 161) QEk QB6 161 0 x:=List.forall_mem_cons.2 ⟨QEl,List.forall_mem_cons.2 ⟨QEm,List.forall_mem_cons.2 ⟨QB8,fun _ h=>nomatch h⟩⟩⟩
def QKV : Ev.Qj := fun args _ K => match args with
 | ([Ai v0, Ai v1]) => Y1 v0 v1 (fun v2 => K (Au v2))
 | _ => none
def QMs:=Qr 161 QKV QMr
theorem QO9 : Dom B0 V QMs QW 102 := Dom.s (m := 101) (n := 0) QO7 QO7 (O := QB6) (Qd.fn (fn0 := Tryz.f161) (by kernel_rfl) (by kernel_rfl) QO8) fun args R K r h => by
 unfold QKV at h; split at h
 · rw [Q76] at h; exact Eq.trans (by kernel_rfl) h
 · cases h
def Qir (K : Ex → St → Option R) (vs : List AV) (hh : H) : Option R := match vs, hh with
 | [Au v0, Ai v1], [] => Q1G v0 v1 (fun v2 v3 => K (Ex.ret) (St.mk (Q3 41 0 [4, 5] [Ai v2, Au v3]) []))
 | _, _ => none
def Qis (K : Ex → St → Option R) (vs : List AV) (hh : H) : Option R := match vs, hh with
 | [Au v0, Ai v1, Au v2, Ai v3, Ai v4], [] => Q1F v0 v1 v2 v3 v4 (fun v5 v6 => K (Ex.exit 0) (St.mk (Q3 41 0 [6, 7] [Ai v5, Au v6]) []))
 | _, _ => none
def QGI:Nat→Option Ql:=lkN [(4000,fun st _ K=>Qf 41 [0,1] st (Qir K)),(8400,fun st _ K=>Qf 41 [0,6,7,8,9] st (Qis K))]
def QJe:Qi:=Qo (V 120) QMs QW 10
def Qvt:Code:=Qk [1,1] (Q9 Tryz.f120)
def QgW:Code:=Qk [1,1,1,1,1,0,1,0,0] (Q9 Tryz.f120)
def QB9(N:Nat)(st:St)(K:Ex→St→Option R):Option R:=Qs (QQ ((V 120).keep 120 (Ev.Qc QgW*1000+400)) 0) (Qh (V 120) QJe QGI 120 0 3991 QgW) N st (QJ (V 120) 120 0 (Ev.Qc QgW*1000+401) K)
theorem Q30(K:Ex→St→Option R):∀ N:Nat,(fun (v0 v1 v2 v3 v4:Int)=>QB9 N (St.mk (Q3 41 0 [0,6,7,8,9] [Au v0,Ai v1,Au v2,Ai v3,Ai v4]) []) K)=Zl (fun v5 v6=>K (Ex.exit 0) (St.mk (Q3 41 0 [6,7] [Ai v5,Au v6]) [])) N
 | 0=>by funext v0 v1 v2 v3 v4; rfl
 | N+1=>by
  funext v0 v1 v2 v3 v4
  simp only[Zl]
  rw[←Q30 K N]
  kernel_rfl
theorem QEn:Q4 (V 120) QJe QGI 120 0 (3998,0,Qvt):=.s (size:=41) (ss:=[0,1]) (F:=@Qir) (by kernel_rfl) fun R r K vs hh h=>by
 unfold Qir at h; split at h
 ·rw[Q4x]at h; exact Eq.trans (by kernel_rfl) h
 ·cases h
theorem QEo:Q4 (V 120) QJe QGI 120 0 (3991,1,QgW):=.l (size:=41) (ss:=[0,6,7,8,9]) (F:=@Qis) (by kernel_rfl) (by kernel_rfl) fun R r K vs hh h=>by
 unfold Qis at h; split at h
 ·rw[Q4w]at h; unfold YY at h; rw[←Q30 K NR]at h; exact h
 ·cases h
theorem QOa:∀ x∈[(3998,0,Qvt),(3991,1,QgW)],Q4 (V 120) QJe QGI 120 0 x:=List.forall_mem_cons.2 ⟨QEn,List.forall_mem_cons.2 ⟨QEo,fun _ h=>nomatch h⟩⟩
def QKW : Ev.Qj := fun args _ K => match args with
 | ([Au v0, Ai v1]) => Q0x v0 v1 (fun v2 v3 => K (AV.tup [Ai v2, Au v3]))
 | _ => none
def QOb:=Qr 120 QKW QMs
theorem QOc : Dom B0 V QOb QW 103 := Dom.s (m := 102) (n := 0) QO9 QO9 (O := QGI) (Qd.fn (fn0 := Tryz.f120) (by kernel_rfl) (by kernel_rfl) QOa) fun args R K r h => by
 unfold QKW at h; split at h
 · rw [Q77] at h; exact Eq.trans (by kernel_rfl) h
 · cases h
def QKX : Ev.Qj := fun args _ K => match args with
 | ([Ai v0, Ai v1]) => Ja v0 v1 (fun v2 => K (Ai v2))
 | _ => none
def QMt:=Qr 123 QKX QOb
theorem QOd : Dom B0 V QMt QW 104 := Dom.s (m := 103) (n := 0) QOc QOc (O := (fun _ => none)) (fun _ _ _ _ => Qd.none _ _) fun args R K r h => by
 unfold QKX at h; split at h
 · rw [Q8r] at h; exact Eq.trans (by kernel_rfl) h
 · cases h
def Qit (K : Ex → St → Option R) (vs : List AV) (hh : H) : Option R := match vs, hh with
 | [Au v0, Ai v1, AV.sl 0 0 v2 1, Ai v3], [HO v4] => Q5o v0 v1 v2 v3 v4 (fun v5 v6 => K (Ex.exit 0) (St.mk (Q3 22 0 [5] [AV.sl 0 0 v5 1]) [HO v6]))
 | _, _ => none
def QJf:Nat→Option Ql:=lkN [(4400,fun st _ K=>Qf 22 [0,1,5,6] st (Qit K))]
def QMu:Qi:=Qo (V 122) QMt QW 10
def QgX:Code:=Qk [1,1,0,1,0,0] (Q9 Tryz.f122)
def QBa(N:Nat)(st:St)(K:Ex→St→Option R):Option R:=Qs (QQ ((V 122).keep 122 (Ev.Qc QgX*1000+400)) 0) (Qh (V 122) QMu QJf 122 0 3994 QgX) N st (QJ (V 122) 122 0 (Ev.Qc QgX*1000+401) K)
theorem Q61(K:Ex→St→Option R):∀ N:Nat,(fun (v0 v1:Int) (v2:Nat) (v3:Int) (v4:List Bool)=>QBa N (St.mk (Q3 22 0 [0,1,5,6] [Au v0,Ai v1,AV.sl 0 0 v2 1,Ai v3]) [HO v4]) K)=Y7 (fun v5 v6=>K (Ex.exit 0) (St.mk (Q3 22 0 [5] [AV.sl 0 0 v5 1]) [HO v6])) N
 | 0=>by funext v0 v1 v2 v3 v4; rfl
 | N+1=>by
  funext v0 v1 v2 v3 v4
  simp only[Y7]
  rw[←Q61 K N]
  kernel_rfl
theorem QEp:Q4 (V 122) QMu QJf 122 0 (3994,1,QgX):=.l (size:=22) (ss:=[0,1,5,6]) (F:=@Qit) (by kernel_rfl) (by kernel_rfl) fun R r K vs hh h=>by
 unfold Qit at h; split at h
 ·rw[Q79]at h; unfold Jq at h; rw[←Q61 K NR]at h; exact h
 ·cases h
theorem QOe:∀ x∈[(3994,1,QgX)],Q4 (V 122) QMu QJf 122 0 x:=List.forall_mem_cons.2 ⟨QEp,fun _ h=>nomatch h⟩
def QKY : Ev.Qj := fun args _ K => match args with
 | ([Au v0, Ai v1]) => Q4y v0 v1 (fun v2 => K (AV.fsl (Blk.bools v2)))
 | _ => none
def QMv:=Qr 122 QKY QMt
theorem QOf : Dom B0 V QMv QW 105 := Dom.s (m := 104) (n := 0) QOd QOd (O := QJf) (Qd.fn (fn0 := Tryz.f122) (by kernel_rfl) (by kernel_rfl) QOe) fun args R K r h => by
 unfold QKY at h; split at h
 · rw [Qaz] at h; exact Eq.trans (by kernel_rfl) h
 · cases h
def QlP (K : Ex → St → Option R) (vs : List AV) (hh : H) : Option R := match vs, hh with
 | [Ap 0 0, Ap 1 0], [HA [Ai v0, Fu v1], HA [Ai v2, Ai v3, Ai v4, Ai v5, AV.esl, Ai v6, AV.esl, AV.esl, AV.esl]] => Q2F v0 v1 v2 v3 v4 v5 v6 (fun v7 v8 v9 va vb vc => K (Ex.ret) (St.mk (Q3 85 0 [2, 3] [Ap 0 0, Ai v7]) [HA [Ai v8, Ai v9, Ai va, Ai vb, AV.esl, Ai vc, AV.esl, AV.esl, AV.esl]])) (fun v7 v8 v9 va vb vc vd ve vf vg vh vi => K (Ex.ret) (St.mk (Q3 85 0 [2, 3] [Ap 0 0, Ai v7]) [HA [Ai v8, Ai v9, Ai va, Ai vb, Fu vc, Ai vd, Fu ve, AV.sl 1 0 vf 1, AV.sl 2 0 vg 1], HB.live (Blk.ints .i64 vh), HB.live (Blk.ints .i64 vi)]))
 | _, _ => none
def QlQ (K : Ex → St → Option R) (vs : List AV) (hh : H) : Option R := match vs, hh with
 | [Ap 0 0, Ap 1 0, Ap 2 0, AV.sl 5 0 v0 1, AV.sl 6 0 v1 1, Ai v2, Ai v3], [HA [Ai v4, Fu v5], HA [Ai v6, Ai v7, Ai v8, Ai v9, AV.esl, Ai va, AV.esl, AV.esl, AV.esl], HA [Ai vb, Ai vc, Ai vd, Ai ve, AV.esl, Ai vf, AV.esl, AV.sl 3 0 vg 1, AV.sl 4 0 vh 1], HB.live (Blk.ints .i64 vi), HB.live (Blk.ints .i64 vj), HU vk, HO vl] => Q2A v0 v1 v2 v3 v4 v5 v6 v7 v8 v9 va vb vc vd ve vf vg vh vi vj vk vl (fun vm vn vo vp vq vr vs vt vu vv vw vx vy vz v10 v11 v12 v13 => K (Ex.exit 0) (St.mk (Q3 85 0 [2, 4, 5, 6] [Ap 0 0, Ap 1 0, AV.sl 4 0 vm 1, AV.sl 5 0 vn 1]) [HA [Ai vo, Ai vp, Ai vq, Ai vr, AV.esl, Ai vs, AV.esl, AV.esl, AV.esl], HA [Ai vt, Ai vu, Ai vv, Ai vw, AV.esl, Ai vx, AV.esl, AV.sl 2 0 vy 1, AV.sl 3 0 vz 1], HB.live (Blk.ints .i64 v10), HB.live (Blk.ints .i64 v11), HU v12, HO v13]))
 | _, _ => none
def Qiu (K : Ex → St → Option R) (vs : List AV) (hh : H) : Option R := match vs, hh with
 | [Ap 0 0, Ap 1 0, Ap 2 0, AV.sl 5 0 v0 1, AV.sl 6 0 v1 1, Ai v2, Ai v3], [HA [Ai v4, Fu v5], HA [Ai v6, Ai v7, Ai v8, Ai v9, AV.esl, Ai va, AV.esl, AV.esl, AV.esl], HA [Ai vb, Ai vc, Ai vd, Ai ve, AV.esl, Ai vf, AV.esl, AV.sl 3 0 vg 1, AV.sl 4 0 vh 1], HB.live (Blk.ints .i64 vi), HB.live (Blk.ints .i64 vj), HU vk, HO vl] => Yu v0 v1 v2 v3 v4 v5 v6 v7 v8 v9 va vb vc vd ve vf vg vh vi vj vk vl (fun vm vn vo vp vq vr vs vt vu vv vw vx vy vz v10 v11 v12 v13 v14 v15 v16 v17 => K (Ex.normal) (St.mk (Q3 85 0 [1, 2, 4, 5, 6, 7, 8] [Ap 0 0, Ap 1 0, Ap 2 0, AV.sl 5 0 vm 1, AV.sl 6 0 vn 1, Ai vo, Ai vp]) [HA [Ai vq, Fu vr], HA [Ai vs, Ai vt, Ai vu, Ai vv, AV.esl, Ai vw, AV.esl, AV.esl, AV.esl], HA [Ai vx, Ai vy, Ai vz, Ai v10, AV.esl, Ai v11, AV.esl, AV.sl 3 0 v12 1, AV.sl 4 0 v13 1], HB.live (Blk.ints .i64 v14), HB.live (Blk.ints .i64 v15), HU v16, HO v17]))
 | _, _ => none
def Qiv (K : Ex → St → Option R) (vs : List AV) (hh : H) : Option R := match vs, hh with
 | [Ap 0 0, Ap 1 0, Ap 2 0, AV.sl 5 0 v0 1, AV.sl 6 0 v1 1, Ai v2, Ai v3], [HA [Ai v4, Fu v5], HA [Ai v6, Ai v7, Ai v8, Ai v9, AV.esl, Ai va, AV.esl, AV.esl, AV.esl], HA [Ai vb, Ai vc, Ai vd, Ai ve, AV.esl, Ai vf, AV.esl, AV.sl 3 0 vg 1, AV.sl 4 0 vh 1], HB.live (Blk.ints .i64 vi), HB.live (Blk.ints .i64 vj), HU vk, HO vl] => Yt v0 v1 v2 v3 v4 v5 v6 v7 v8 v9 va vb vc vd ve vf vg vh vi vj vk vl (fun vm vn vo vp vq vr vs vt vu vv vw vx vy vz v10 v11 v12 v13 v14 v15 v16 v17 => K (Ex.normal) (St.mk (Q3 85 0 [1, 2, 4, 5, 6, 7, 8] [Ap 0 0, Ap 1 0, Ap 2 0, AV.sl 5 0 vm 1, AV.sl 6 0 vn 1, Ai vo, Ai vp]) [HA [Ai vq, Fu vr], HA [Ai vs, Ai vt, Ai vu, Ai vv, AV.esl, Ai vw, AV.esl, AV.esl, AV.esl], HA [Ai vx, Ai vy, Ai vz, Ai v10, AV.esl, Ai v11, AV.esl, AV.sl 3 0 v12 1, AV.sl 4 0 v13 1], HB.live (Blk.ints .i64 v14), HB.live (Blk.ints .i64 v15), HU v16, HO v17]))
 | _, _ => none
def o63:Nat→Option Ql:=lkN [(2000,fun st _ K=>Qf 85 [1,2] st (QlP K)),(9400,fun st _ K=>Qf 85 [1,2,4,5,6,7,8] st (QlQ K)),(11000,fun st _ K=>Qf 85 [1,2,4,5,6,7,8] st (Qiu K)),(13000,fun st _ K=>Qf 85 [1,2,4,5,6,7,8] st (Qiv K))]
def q63:Qi:=Qo (V 63) QMv QW 10
def QyI:Code:=Qk [1] (Q9 Tryz.f63)
def QlR:Code:=Qk [1,1,1,1,1,1,0,1,0,0] (Q9 Tryz.f63)
def QEq(N:Nat)(st:St)(K:Ex→St→Option R):Option R:=Qs (QQ ((V 63).keep 63 (Ev.Qc QlR*1000+400)) 0) (Qh (V 63) q63 o63 63 0 3990 QlR) N st (QJ (V 63) 63 0 (Ev.Qc QlR*1000+401) K)
def QnP:Code:=Qk [1,1,1,1,1,1,0,1,0,0,1] (Q9 Tryz.f63)
def QnQ:Code:=Qk [1,1,1,1,1,1,0,1,0,0,1,0,0,1] (Q9 Tryz.f63)
theorem Q4d(K:Ex→St→Option R):∀ N:Nat,(fun (v0 v1:Nat) (v2 v3 v4:Int) (v5:List Int) (v6 v7 v8 v9 va vb vc vd ve vf:Int) (vg vh:Nat) (vi vj vk:List Int) (vl:List Bool)=>QEq N (St.mk (Q3 85 0 [1,2,4,5,6,7,8] [Ap 0 0,Ap 1 0,Ap 2 0,AV.sl 5 0 v0 1,AV.sl 6 0 v1 1,Ai v2,Ai v3]) [HA [Ai v4,Fu v5],HA [Ai v6,Ai v7,Ai v8,Ai v9,AV.esl,Ai va,AV.esl,AV.esl,AV.esl],HA [Ai vb,Ai vc,Ai vd,Ai ve,AV.esl,Ai vf,AV.esl,AV.sl 3 0 vg 1,AV.sl 4 0 vh 1],HB.live (Blk.ints .i64 vi),HB.live (Blk.ints .i64 vj),HU vk,HO vl]) K)=QY (fun vm vn vo vp vq vr vs vt vu vv vw vx vy vz v10 v11 v12 v13=>K (Ex.exit 0) (St.mk (Q3 85 0 [2,4,5,6] [Ap 0 0,Ap 1 0,AV.sl 4 0 vm 1,AV.sl 5 0 vn 1]) [HA [Ai vo,Ai vp,Ai vq,Ai vr,AV.esl,Ai vs,AV.esl,AV.esl,AV.esl],HA [Ai vt,Ai vu,Ai vv,Ai vw,AV.esl,Ai vx,AV.esl,AV.sl 2 0 vy 1,AV.sl 3 0 vz 1],HB.live (Blk.ints .i64 v10),HB.live (Blk.ints .i64 v11),HU v12,HO v13])) N
 | 0=>by funext v0 v1 v2 v3 v4 v5 v6 v7 v8 v9 va vb vc vd ve vf vg vh vi vj vk vl; rfl
 | N+1=>by
  funext v0 v1 v2 v3 v4 v5 v6 v7 v8 v9 va vb vc vd ve vf vg vh vi vj vk vl
  simp only[QY]
  rw[←Q4d K N]
  kernel_rfl
theorem QdA(K:Ex→St→Option R)(v0 v1:Nat)(v2 v3 v4:Int)(v5:List Int)(v6 v7 v8 v9 va vb vc vd ve vf:Int)(vg vh:Nat)(vi vj vk:List Int)(vl:List Bool):Qh (V 63) q63 o63 63 0 3986 QnQ (St.mk (Q3 85 0 [1,2,4,5,6,7,8] [Ap 0 0,Ap 1 0,Ap 2 0,AV.sl 5 0 v0 1,AV.sl 6 0 v1 1,Ai v2,Ai v3]) [HA [Ai v4,Fu v5],HA [Ai v6,Ai v7,Ai v8,Ai v9,AV.esl,Ai va,AV.esl,AV.esl,AV.esl],HA [Ai vb,Ai vc,Ai vd,Ai ve,AV.esl,Ai vf,AV.esl,AV.sl 3 0 vg 1,AV.sl 4 0 vh 1],HB.live (Blk.ints .i64 vi),HB.live (Blk.ints .i64 vj),HU vk,HO vl]) (QJ (V 63) 63 0 (Ev.Qc QnQ*1000+1) K)=YZ v0 v1 v2 v3 v4 v5 v6 v7 v8 v9 va vb vc vd ve vf vg vh vi vj vk vl (fun vm vn vo vp vq vr vs vt vu vv vw vx vy vz v10 v11 v12 v13 v14 v15 v16 v17=>K (Ex.normal) (St.mk (Q3 85 0 [1,2,4,5,6,7,8] [Ap 0 0,Ap 1 0,Ap 2 0,AV.sl 5 0 vm 1,AV.sl 6 0 vn 1,Ai vo,Ai vp]) [HA [Ai vq,Fu vr],HA [Ai vs,Ai vt,Ai vu,Ai vv,AV.esl,Ai vw,AV.esl,AV.esl,AV.esl],HA [Ai vx,Ai vy,Ai vz,Ai v10,AV.esl,Ai v11,AV.esl,AV.sl 3 0 v12 1,AV.sl 4 0 v13 1],HB.live (Blk.ints .i64 v14),HB.live (Blk.ints .i64 v15),HU v16,HO v17])):=by kernel_rfl
theorem QdB(K:Ex→St→Option R)(v0 v1:Nat)(v2 v3 v4:Int)(v5:List Int)(v6 v7 v8 v9 va vb vc vd ve vf:Int)(vg vh:Nat)(vi vj vk:List Int)(vl:List Bool):Qh (V 63) q63 o63 63 0 3989 QnP (St.mk (Q3 85 0 [1,2,4,5,6,7,8] [Ap 0 0,Ap 1 0,Ap 2 0,AV.sl 5 0 v0 1,AV.sl 6 0 v1 1,Ai v2,Ai v3]) [HA [Ai v4,Fu v5],HA [Ai v6,Ai v7,Ai v8,Ai v9,AV.esl,Ai va,AV.esl,AV.esl,AV.esl],HA [Ai vb,Ai vc,Ai vd,Ai ve,AV.esl,Ai vf,AV.esl,AV.sl 3 0 vg 1,AV.sl 4 0 vh 1],HB.live (Blk.ints .i64 vi),HB.live (Blk.ints .i64 vj),HU vk,HO vl]) (QJ (V 63) 63 0 (Ev.Qc QnP*1000+1) K)=U0 v0 v1 v2 v3 v4 v5 v6 v7 v8 v9 va vb vc vd ve vf vg vh vi vj vk vl (fun vm vn vo vp vq vr vs vt vu vv vw vx vy vz v10 v11 v12 v13 v14 v15 v16 v17=>K (Ex.normal) (St.mk (Q3 85 0 [1,2,4,5,6,7,8] [Ap 0 0,Ap 1 0,Ap 2 0,AV.sl 5 0 vm 1,AV.sl 6 0 vn 1,Ai vo,Ai vp]) [HA [Ai vq,Fu vr],HA [Ai vs,Ai vt,Ai vu,Ai vv,AV.esl,Ai vw,AV.esl,AV.esl,AV.esl],HA [Ai vx,Ai vy,Ai vz,Ai v10,AV.esl,Ai v11,AV.esl,AV.sl 3 0 v12 1,AV.sl 4 0 v13 1],HB.live (Blk.ints .i64 v14),HB.live (Blk.ints .i64 v15),HU v16,HO v17])):=by kernel_rfl
theorem QGJ:Q4 (V 63) q63 o63 63 0 (3999,0,QyI):=.s (size:=85) (ss:=[1,2]) (F:=@QlP) (by kernel_rfl) fun R r K vs hh h=>by
 unfold QlP at h; split at h
 ·rw[JP]at h; exact Eq.trans (by kernel_rfl) h
 ·cases h
theorem QGK:Q4 (V 63) q63 o63 63 0 (3990,1,QlR):=.l (size:=85) (ss:=[1,2,4,5,6,7,8]) (F:=@QlQ) (by kernel_rfl) (by kernel_rfl) fun R r K vs hh h=>by
 unfold QlQ at h; split at h
 ·rw[Q5p]at h; unfold Ul at h; rw[←Q4d K NR]at h; exact h
 ·cases h
theorem QEr:Q4 (V 63) q63 o63 63 0 (3989,0,QnP):=.s (size:=85) (ss:=[1,2,4,5,6,7,8]) (F:=@Qiu) (by kernel_rfl) fun R r K vs hh h=>by
 unfold Qiu at h; split at h
 ·rw[Q4A]at h; exact (QdB K _ _ _ _ _ _ _ _ _ _ _ _ _ _ _ _ _ _ _ _ _ _).trans h
 ·cases h
theorem QEs:Q4 (V 63) q63 o63 63 0 (3986,0,QnQ):=.s (size:=85) (ss:=[1,2,4,5,6,7,8]) (F:=@Qiv) (by kernel_rfl) fun R r K vs hh h=>by
 unfold Qiv at h; split at h
 ·rw[Q4z]at h; exact (QdA K _ _ _ _ _ _ _ _ _ _ _ _ _ _ _ _ _ _ _ _ _ _).trans h
 ·cases h
theorem QR6:∀ x∈[(3999,0,QyI),(3990,1,QlR),(3989,0,QnP),(3986,0,QnQ)],Q4 (V 63) q63 o63 63 0 x:=List.forall_mem_cons.2 ⟨QGJ,List.forall_mem_cons.2 ⟨QGK,List.forall_mem_cons.2 ⟨QEr,List.forall_mem_cons.2 ⟨QEs,fun _ h=>nomatch h⟩⟩⟩⟩
def QOg : Ev.Qj := fun args _ K => match args with
 | ([AV.agg (Blk.any [Ai v0, Fu v1])]) => YN v0 v1 (fun v2 v3 v4 v5 v6 v7 v8 v9 va vb => K (AV.tup [AV.agg (Blk.any [Ai v2, Ai v3, Ai v4, Ai v5, Fu v6, Ai v7, Fu v8, AV.fsl (Blk.ints .i64 v9), AV.fsl (Blk.ints .i64 va)]), Ai vb]))
 | _ => none
def S63:=Qr 63 QOg QMv
theorem QOh : Dom B0 V S63 QW 106 := Dom.s (m := 105) (n := 0) QOf QOf (O := o63) (Qd.fn (fn0 := Tryz.f63) (by kernel_rfl) (by kernel_rfl) QR6) fun args R K r h => by
 unfold QOg at h; split at h
 · rw [Q1K] at h; exact Eq.trans (by kernel_rfl) h
 · cases h
def Qiw (K : Ex → St → Option R) (vs : List AV) (hh : H) : Option R := match vs, hh with
 | [Ap 0 0, AV.sl 1 0 v0 1, Ai v1], [HA [Ai v2, Fu v3], HB.live (Blk.ints .i64 v4)] => Q1L v0 v1 v2 v3 v4 (fun v5 v6 => K (Ex.exit 0) (St.mk (Q3 19 0 [3] [AV.sl 0 0 v5 1]) [HB.live (Blk.ints .i64 v6)]))
 | _, _ => none
def QJg:Nat→Option Ql:=lkN [(4400,fun st _ K=>Qf 19 [1,3,4] st (Qiw K))]
def QMw:Qi:=Qo (V 126) S63 QW 10
def QgY:Code:=Qk [1,1,0,1,0,0] (Q9 Tryz.f126)
def QBb(N:Nat)(st:St)(K:Ex→St→Option R):Option R:=Qs (QQ ((V 126).keep 126 (Ev.Qc QgY*1000+400)) 0) (Qh (V 126) QMw QJg 126 0 3994 QgY) N st (QJ (V 126) 126 0 (Ev.Qc QgY*1000+401) K)
theorem Q31(K:Ex→St→Option R):∀ N:Nat,(fun (v0:Nat) (v1 v2:Int) (v3 v4:List Int)=>QBb N (St.mk (Q3 19 0 [1,3,4] [Ap 0 0,AV.sl 1 0 v0 1,Ai v1]) [HA [Ai v2,Fu v3],HB.live (Blk.ints .i64 v4)]) K)=Zn (fun v5 v6=>K (Ex.exit 0) (St.mk (Q3 19 0 [3] [AV.sl 0 0 v5 1]) [HB.live (Blk.ints .i64 v6)])) N
 | 0=>by funext v0 v1 v2 v3 v4; rfl
 | N+1=>by
  funext v0 v1 v2 v3 v4
  simp only[Zn]
  rw[←Q31 K N]
  kernel_rfl
theorem QEt:Q4 (V 126) QMw QJg 126 0 (3994,1,QgY):=.l (size:=19) (ss:=[1,3,4]) (F:=@Qiw) (by kernel_rfl) (by kernel_rfl) fun R r K vs hh h=>by
 unfold Qiw at h; split at h
 ·rw[Q4C]at h; unfold U2 at h; rw[←Q31 K NR]at h; exact h
 ·cases h
theorem QOi:∀ x∈[(3994,1,QgY)],Q4 (V 126) QMw QJg 126 0 x:=List.forall_mem_cons.2 ⟨QEt,fun _ h=>nomatch h⟩
def QKZ : Ev.Qj := fun args _ K => match args with
 | ([AV.agg (Blk.any [Ai v0, Fu v1])]) => Uz v0 v1 (fun v2 => K (AV.fsl (Blk.ints .i64 v2)))
 | _ => none
def QOj:=Qr 126 QKZ S63
theorem QOk : Dom B0 V QOj QW 107 := Dom.s (m := 106) (n := 0) QOh QOh (O := QJg) (Qd.fn (fn0 := Tryz.f126) (by kernel_rfl) (by kernel_rfl) QOi) fun args R K r h => by
 unfold QKZ at h; split at h
 · rw [Q7e] at h; exact Eq.trans (by kernel_rfl) h
 · cases h
def QL0 : Ev.Qj := fun args _ K => match args with
 | ([Ai v0, Ai v1]) => YO v0 v1 (fun v2 => K (Ai v2))
 | _ => none
def QJh:=Qr 164 QL0 QOj
theorem QOl : Dom B0 V QJh QW 108 := Dom.s (m := 107) (n := 0) QOk QOk (O := (fun _ => none)) (fun _ _ _ _ => Qd.none _ _) fun args R K r h => by
 unfold QL0 at h; split at h
 · rw [Q8v] at h; exact Eq.trans (by kernel_rfl) h
 · cases h
def Qix (K : Ex → St → Option R) (vs : List AV) (hh : H) : Option R := match vs, hh with
 | [AV.fsl (Blk.ints .i64 v0), Ap 0 0, Ai v1, Ap 1 0, AV.sl 2 0 v2 1, AV.sl 3 0 v3 1, Ai v4], [HA [Ai v5, Ai v6, Ai v7, Ai v8, Ai v9, AV.esl, Ai va, AV.esl], HA [Ai vb, Ai vc, Ai vd, Ai ve, Ai vf, AV.esl, Ai vg, AV.esl], HO vh, HU vi] => Q6J v0 v1 v2 v3 v4 v5 v6 v7 v8 v9 va vb vc vd ve vf vg vh vi (fun vj vk vl vm vn vo vp vq vr vs vt vu vv vw vx vy vz => K (Ex.exit 0) (St.mk (Q3 87 0 [4, 6, 7, 8, 9] [Ap 0 0, Ai vj, Ap 1 0, AV.sl 2 0 vk 1, AV.sl 3 0 vl 1]) [HA [Ai vm, Ai vn, Ai vo, Ai vp, Ai vq, AV.esl, Ai vr, AV.esl], HA [Ai vs, Ai vt, Ai vu, Ai vv, Ai vw, AV.esl, Ai vx, AV.esl], HO vy, HU vz]))
 | _, _ => none
def QfT (K : Ex → St → Option R) (vs : List AV) (hh : H) : Option R := match vs, hh with
 | [Ap 0 0, Ap 1 0, Ap 2 0, Ap 3 0, Ab v0], [HA [Ai v1, Ai v2, Ai v3, Ai v4, Ai v5, AV.esl, Ai v6, AV.esl], HA [Ai v7, Ai v8, Ai v9, Ai va, Ai vb, AV.esl, Ai vc, AV.esl], HA [Ai vd, Ai ve, Ai vf, Fu vg], HA [Ai vh, Fu vi]] => Q0A v0 v1 v2 v3 v4 v5 v6 v7 v8 v9 va vb vc vd ve vf vg vh vi (fun vj vk vl vm vn vo vp => K (Ex.ret) (St.mk (Q3 87 0 [4, 5] [Ap 0 0, Ai vj]) [HA [Ai vk, Ai vl, Ai vm, Ai vn, Ai vo, AV.esl, Ai vp, AV.esl]])) (fun vj vk vl vm vn vo vp vq vr vs vt vu vv vw vx vy vz v10 => K (Ex.normal) (St.mk (Q3 87 0 [4, 7, 11, 13] [Ap 0 0, Ap 1 0, Ap 2 0, Ap 3 0]) [HA [Ai vj, Ai vk, Ai vl, Ai vm, Ai vn, AV.esl, Ai vo, AV.esl], HA [Ai vp, Ai vq, Ai vr, Ai vs, Ai vt, AV.esl, Ai vu, AV.esl], HA [Ai vv, Ai vw, Ai vx, Fu vy], HA [Ai vz, Fu v10]]))
 | _, _ => none
def QfU (K : Ex → St → Option R) (vs : List AV) (hh : H) : Option R := match vs, hh with
 | [Ap 0 0, Ap 1 0, Ap 2 0, Ap 3 0], [HA [Ai v0, Ai v1, Ai v2, Ai v3, Ai v4, AV.esl, Ai v5, AV.esl], HA [Ai v6, Ai v7, Ai v8, Ai v9, Ai va, AV.esl, Ai vb, AV.esl], HA [Ai vc, Ai vd, Ai ve, Fu vf], HA [Ai vg, Fu vh]] => Q0B v0 v1 v2 v3 v4 v5 v6 v7 v8 v9 va vb vc vd ve vf vg vh (fun vi vj vk vl vm vn vo vp vq => K (Ex.ret) (St.mk (Q3 87 0 [4, 5] [Ap 0 0, Ai vi]) [HA [Ai vj, Ai vk, Ai vl, Ai vm, Ai vn, Fu vo, Ai vp, Fu vq]]))
 | _, _ => none
def QBc:Nat→Option Ql:=lkN [(7400,fun st _ K=>Qf 87 [1,4,6,7,8,9,10] st (Qix K)),(15000,fun st _ K=>Qf 87 [4,7,11,13,80] st (QfT K)),(16000,fun st _ K=>Qf 87 [4,7,11,13] st (QfU K))]
def QGL:Qi:=Qo (V 125) QJh QW 10
def QgZ:Code:=Qk [1,1,1,1,1,0,1,0,0] (Q9 Tryz.f125)
def QBd(N:Nat)(st:St)(K:Ex→St→Option R):Option R:=Qs (QQ ((V 125).keep 125 (Ev.Qc QgZ*1000+400)) 0) (Qh (V 125) QGL QBc 125 0 3991 QgZ) N st (QJ (V 125) 125 0 (Ev.Qc QgZ*1000+401) K)
def QsW:Code:=Qk [1,1,1,1,1,1,1,1,1] (Q9 Tryz.f125)
def QsX:Code:=Qk [1,1,1,1,1,1,1,1,0,1] (Q9 Tryz.f125)
theorem Q6N(K:Ex→St→Option R):∀ N:Nat,(fun (v0:List Int) (v1:Int) (v2 v3:Nat) (v4 v5 v6 v7 v8 v9 va vb vc vd ve vf vg:Int) (vh:List Bool) (vi:List Int)=>QBd N (St.mk (Q3 87 0 [1,4,6,7,8,9,10] [AV.fsl (Blk.ints .i64 v0),Ap 0 0,Ai v1,Ap 1 0,AV.sl 2 0 v2 1,AV.sl 3 0 v3 1,Ai v4]) [HA [Ai v5,Ai v6,Ai v7,Ai v8,Ai v9,AV.esl,Ai va,AV.esl],HA [Ai vb,Ai vc,Ai vd,Ai ve,Ai vf,AV.esl,Ai vg,AV.esl],HO vh,HU vi]) K)=Yk (fun vj vk vl vm vn vo vp vq vr vs vt vu vv vw vx vy vz=>K (Ex.exit 0) (St.mk (Q3 87 0 [4,6,7,8,9] [Ap 0 0,Ai vj,Ap 1 0,AV.sl 2 0 vk 1,AV.sl 3 0 vl 1]) [HA [Ai vm,Ai vn,Ai vo,Ai vp,Ai vq,AV.esl,Ai vr,AV.esl],HA [Ai vs,Ai vt,Ai vu,Ai vv,Ai vw,AV.esl,Ai vx,AV.esl],HO vy,HU vz])) N
 | 0=>by funext v0 v1 v2 v3 v4 v5 v6 v7 v8 v9 va vb vc vd ve vf vg vh vi; rfl
 | N+1=>by
  funext v0 v1 v2 v3 v4 v5 v6 v7 v8 v9 va vb vc vd ve vf vg vh vi
  simp only[Yk]
  rw[←Q6N K N]
  kernel_rfl
theorem QEu:Q4 (V 125) QGL QBc 125 0 (3991,1,QgZ):=.l (size:=87) (ss:=[1,4,6,7,8,9,10]) (F:=@Qix) (by kernel_rfl) (by kernel_rfl) fun R r K vs hh h=>by
 unfold Qix at h; split at h
 ·rw[Q8w]at h; unfold Q05 at h; rw[←Q6N K NR]at h; exact h
 ·cases h
theorem QBe:Q4 (V 125) QGL QBc 125 0 (3991,0,QsW):=.s (size:=87) (ss:=[4,7,11,13]) (F:=@QfU) (by kernel_rfl) fun R r K vs hh h=>by
 unfold QfU at h; split at h
 ·rw[Q7g]at h; exact Eq.trans (by kernel_rfl) h
 ·cases h
theorem QBf:Q4 (V 125) QGL QBc 125 0 (3990,0,QsX):=.s (size:=87) (ss:=[4,7,11,13,80]) (F:=@QfT) (by kernel_rfl) fun R r K vs hh h=>by
 unfold QfT at h; split at h
 ·rw[Q7f]at h; exact Eq.trans (by kernel_rfl) h
 ·cases h
theorem QOm:∀ x∈[(3991,1,QgZ),(3991,0,QsW),(3990,0,QsX)],Q4 (V 125) QGL QBc 125 0 x:=List.forall_mem_cons.2 ⟨QEu,List.forall_mem_cons.2 ⟨QBe,List.forall_mem_cons.2 ⟨QBf,fun _ h=>nomatch h⟩⟩⟩
theorem Qom(K:AV→Option R)(v0:Int)(v1:List Int):JD (V 125) QJh QW QBc 10 125 ([Ai v0,AV.fsl (Blk.ints .i64 v1)]) R K=Q2J v0 v1 (fun v2 v3 v4 v5 v6 v7 v8 v9 va=>K (AV.tup [AV.agg (Blk.any [Ai v2,Ai v3,Ai v4,Ai v5,Ai v6,Fu v7,Ai v8,Fu v9]),Ai va])):=by kernel_rfl
def QL1 : Ev.Qj := fun args _ K => match args with
 | ([Ai v0, AV.fsl (Blk.ints .i64 v1)]) => Q1M v0 v1 (fun v2 v3 v4 v5 v6 v7 v8 v9 va => K (AV.tup [AV.agg (Blk.any [Ai v2, Ai v3, Ai v4, Ai v5, Ai v6, Fu v7, Ai v8, Fu v9]), Ai va]))
 | _ => none
def QOn:=Qr 125 QL1 QJh
theorem QOo : Dom B0 V QOn QW 109 := Dom.s (m := 108) (n := 0) QOl QOl (O := QBc) (Qd.fn (fn0 := Tryz.f125) (by kernel_rfl) (by kernel_rfl) QOm) fun args R K r h => by
 unfold QL1 at h; split at h
 · rw [Qc7] at h; exact (Qom K _ _).trans h
 · cases h
def QOp : Ev.Qj := fun args _ K => match args with
 | ([AV.agg (Blk.any [Ai v0, Fu v1])]) => Jb v0 v1 (fun v2 v3 v4 v5 v6 v7 v8 v9 va => K (AV.tup [AV.agg (Blk.any [Ai v2, Ai v3, Ai v4, Ai v5, Ai v6, Fu v7, Ai v8, Fu v9]), Ai va]))
 | _ => none
def S64:=Qr 64 QOp QOn
theorem QOq : Dom B0 V S64 QW 110 := Dom.s (m := 109) (n := 0) QOo QOo (O := (fun _ => none)) (fun _ _ _ _ => Qd.none _ _) fun args R K r h => by
 unfold QOp at h; split at h
 · rw [Q1N] at h; exact Eq.trans (by kernel_rfl) h
 · cases h
def Qiy (K : Ex → St → Option R) (vs : List AV) (hh : H) : Option R := match vs, hh with
 | [Ap 0 0, Ap 1 0, Ai v0], [HA [Ai v1, Ai v2, AV.esl, AV.esl, AV.esl, Ai v3, Ai v4, Ai v5, Ai v6, AV.esl, Ai v7, AV.esl, AV.esl, AV.esl, Ai v8, Ai v9, Ai va, Ai vb, Ai vc, AV.esl, Ai vd, AV.esl], HA [Ai ve, Ai vf, Fu vg, AV.fsl (Blk.ints .i64 vh), AV.fsl (Blk.ints .i64 vi), Ai vj, Ai vk, Ai vl, Ai vm, Fu vn, Ai vo, Fu vp, AV.fsl (Blk.ints .i64 vq), AV.fsl (Blk.ints .i64 vr), Ai vs, Ai vt, Ai vu, Ai vv, Ai vw, Fu vx, Ai vy, Fu vz]] => ZR v0 v1 v2 v3 v4 v5 v6 v7 v8 v9 va vb vc vd ve vf vg vh vi vj vk vl vm vn vo vp vq vr vs vt vu vv vw vx vy vz (fun v10 v11 v12 v13 v14 v15 v16 v17 v18 v19 v1a v1b v1c v1d => K (Ex.ret) (St.mk (Q3 40 0 [4, 5] [Ap 0 0, Ai v10]) [HA [Ai v11, Ai v12, AV.esl, AV.esl, AV.esl, Ai v13, Ai v14, Ai v15, Ai v16, AV.esl, Ai v17, AV.esl, AV.esl, AV.esl, Ai v18, Ai v19, Ai v1a, Ai v1b, Ai v1c, AV.esl, Ai v1d, AV.esl]])) (fun v10 v11 v12 v13 v14 v15 v16 v17 v18 v19 v1a v1b v1c v1d v1e v1f v1g v1h v1i v1j v1k v1l v1m => K (Ex.ret) (St.mk (Q3 40 0 [4, 5] [Ap 0 0, Ai v10]) [HA [Ai v11, Ai v12, Fu v13, AV.fsl (Blk.ints .i64 v14), AV.fsl (Blk.ints .i64 v15), Ai v16, Ai v17, Ai v18, Ai v19, Fu v1a, Ai v1b, Fu v1c, AV.fsl (Blk.ints .i64 v1d), AV.fsl (Blk.ints .i64 v1e), Ai v1f, Ai v1g, Ai v1h, Ai v1i, Ai v1j, Fu v1k, Ai v1l, Fu v1m]]))
 | _, _ => none
def o18:Nat→Option Ql:=lkN [(10000,fun st _ K=>Qf 40 [4,6,7] st (Qiy K))]
def q18:Qi:=Qo (V 18) S64 QW 10
def Qvu:Code:=Qk [1,1,1] (Q9 Tryz.f18)
theorem QEv:Q4 (V 18) q18 o18 18 0 (3997,0,Qvu):=.s (size:=40) (ss:=[4,6,7]) (F:=@Qiy) (by kernel_rfl) fun R r K vs hh h=>by
 unfold Qiy at h; split at h
 ·rw[Qz]at h; exact Eq.trans (by kernel_rfl) h
 ·cases h
theorem QR7:∀ x∈[(3997,0,Qvu)],Q4 (V 18) q18 o18 18 0 x:=List.forall_mem_cons.2 ⟨QEv,fun _ h=>nomatch h⟩
theorem Qiz(K:AV→Option R)(v0 v1:Int)(v2:List Int):JD (V 18) S64 QW o18 10 18 ([Ai v0,AV.agg (Blk.any [Ai v1,Fu v2])]) R K=Z0 v0 v1 v2 (fun v3 v4 v5 v6 v7 v8 v9 va vb vc vd ve vf vg vh vi vj vk vl vm vn vo vp=>K (AV.tup [AV.agg (Blk.any [Ai v3,Ai v4,Fu v5,AV.fsl (Blk.ints .i64 v6),AV.fsl (Blk.ints .i64 v7),Ai v8,Ai v9,Ai va,Ai vb,Fu vc,Ai vd,Fu ve,AV.fsl (Blk.ints .i64 vf),AV.fsl (Blk.ints .i64 vg),Ai vh,Ai vi,Ai vj,Ai vk,Ai vl,Fu vm,Ai vn,Fu vo]),Ai vp])):=by kernel_rfl
def QOr : Ev.Qj := fun args _ K => match args with
 | ([Ai v0, AV.agg (Blk.any [Ai v1, Fu v2])]) => Jc v0 v1 v2 (fun v3 v4 v5 v6 v7 v8 v9 va vb vc vd ve vf vg vh vi vj vk vl vm vn vo vp => K (AV.tup [AV.agg (Blk.any [Ai v3, Ai v4, Fu v5, AV.fsl (Blk.ints .i64 v6), AV.fsl (Blk.ints .i64 v7), Ai v8, Ai v9, Ai va, Ai vb, Fu vc, Ai vd, Fu ve, AV.fsl (Blk.ints .i64 vf), AV.fsl (Blk.ints .i64 vg), Ai vh, Ai vi, Ai vj, Ai vk, Ai vl, Fu vm, Ai vn, Fu vo]), Ai vp]))
 | _ => none
def S18:=Qr 18 QOr S64
theorem QOs : Dom B0 V S18 QW 111 := Dom.s (m := 110) (n := 0) QOq QOq (O := o18) (Qd.fn (fn0 := Tryz.f18) (by kernel_rfl) (by kernel_rfl) QR7) fun args R K r h => by
 unfold QOr at h; split at h
 · rw [ZS] at h; exact (Qiz K _ _ _).trans h
 · cases h
def QlS (K : Ex → St → Option R) (vs : List AV) (hh : H) : Option R := match vs, hh with
 | [AV.fsl (Blk.ints .i64 v0), AV.fsl (Blk.ints .i64 v1), Ai v2], [] => Q0U v0 v1 v2 (fun v3 => K (Ex.ret) (St.mk (Q3 26 0 [4] [Ab v3]) [])) (fun _ => K (Ex.exit 0) (St.mk (Q3 26 0 [] []) []))
 | _, _ => none
def o96:Nat→Option Ql:=lkN [(5400,fun st _ K=>Qf 26 [0,1,5] st (QlS K))]
def q96:Qi:=Qo (V 96) S18 QW 10
def QlT:Code:=Qk [1,1,0,1,0,0] (Q9 Tryz.f96)
def QEw(N:Nat)(st:St)(K:Ex→St→Option R):Option R:=Qs (QQ ((V 96).keep 96 (Ev.Qc QlT*1000+400)) 0) (Qh (V 96) q96 o96 96 0 3994 QlT) N st (QJ (V 96) 96 0 (Ev.Qc QlT*1000+401) K)
theorem Q20(K:Ex→St→Option R):∀ N:Nat,(fun (v0 v1:List Int) (v2:Int)=>QEw N (St.mk (Q3 26 0 [0,1,5] [AV.fsl (Blk.ints .i64 v0),AV.fsl (Blk.ints .i64 v1),Ai v2]) []) K)=Zb (fun v3=>K (Ex.ret) (St.mk (Q3 26 0 [4] [Ab v3]) [])) (fun _=>K (Ex.exit 0) (St.mk (Q3 26 0 [] []) [])) N
 | 0=>by funext v0 v1 v2; rfl
 | N+1=>by
  funext v0 v1 v2
  simp only[Zb]
  rw[←Q20 K N]
  kernel_rfl
theorem QGM:Q4 (V 96) q96 o96 96 0 (3994,1,QlT):=.l (size:=26) (ss:=[0,1,5]) (F:=@QlS) (by kernel_rfl) (by kernel_rfl) fun R r K vs hh h=>by
 unfold QlS at h; split at h
 ·rw[Q3f]at h; unfold YH at h; rw[←Q20 K NR]at h; exact h
 ·cases h
theorem QR8:∀ x∈[(3994,1,QlT)],Q4 (V 96) q96 o96 96 0 x:=List.forall_mem_cons.2 ⟨QGM,fun _ h=>nomatch h⟩
def QOt : Ev.Qj := fun args _ K => match args with
 | ([AV.fsl (Blk.ints .i64 v0), AV.fsl (Blk.ints .i64 v1)]) => ZG v0 v1 (fun v2 => K (Ab v2))
 | _ => none
def S96:=Qr 96 QOt S18
theorem QOu : Dom B0 V S96 QW 112 := Dom.s (m := 111) (n := 0) QOs QOs (O := o96) (Qd.fn (fn0 := Tryz.f96) (by kernel_rfl) (by kernel_rfl) QR8) fun args R K r h => by
 unfold QOt at h; split at h
 · rw [Q6o] at h; exact Eq.trans (by kernel_rfl) h
 · cases h
def QOv : Ev.Qj := fun args _ K => match args with
 | ([AV.agg (Blk.any [Ai v0, Fu v1, AV.fsl (Blk.ints .i64 v2), AV.fsl (Blk.ints .i64 v3)]), AV.agg (Blk.any [Ai v4, Fu v5, AV.fsl (Blk.ints .i64 v6), AV.fsl (Blk.ints .i64 v7)])]) => JQ v0 v1 v2 v3 v4 v5 v6 v7 (fun v8 => K (Ab v8))
 | _ => none
def S65:=Qr 65 QOv S96
theorem QOw : Dom B0 V S65 QW 113 := Dom.s (m := 112) (n := 0) QOu QOu (O := (fun _ => none)) (fun _ _ _ _ => Qd.none _ _) fun args R K r h => by
 unfold QOv at h; split at h
 · rw [Qa6] at h; exact Eq.trans (by kernel_rfl) h
 · cases h
def QL2 : Ev.Qj := fun args _ K => match args with
 | ([AV.agg (Blk.any [Ai v0, Ai v1, Ai v2, Fu v3]), AV.agg (Blk.any [Ai v4, Ai v5, Ai v6, Fu v7])]) => JR v0 v1 v2 v3 v4 v5 v6 v7 (fun v8 => K (Ab v8))
 | _ => none
def QOx:=Qr 127 QL2 S65
theorem QOy : Dom B0 V QOx QW 114 := Dom.s (m := 113) (n := 0) QOw QOw (O := (fun _ => none)) (fun _ _ _ _ => Qd.none _ _) fun args R K r h => by
 unfold QL2 at h; split at h
 · rw [Qa7] at h; exact Eq.trans (by kernel_rfl) h
 · cases h
def QOz : Ev.Qj := fun args _ K => match args with
 | ([AV.agg (Blk.any [Ai v0, Ai v1, Ai v2, Ai v3, Fu v4, Ai v5, Fu v6, AV.fsl (Blk.ints .i64 v7), AV.fsl (Blk.ints .i64 v8)]), AV.agg (Blk.any [Ai v9, Ai va, Ai vb, Ai vc, Fu vd, Ai ve, Fu vf, AV.fsl (Blk.ints .i64 vg), AV.fsl (Blk.ints .i64 vh)])]) => JS v0 v1 v2 v3 v4 v5 v6 v7 v8 v9 va vb vc vd ve vf vg vh (fun vi => K (Ab vi))
 | _ => none
def S66:=Qr 66 QOz QOx
theorem QOA : Dom B0 V S66 QW 115 := Dom.s (m := 114) (n := 0) QOy QOy (O := (fun _ => none)) (fun _ _ _ _ => Qd.none _ _) fun args R K r h => by
 unfold QOz at h; split at h
 · rw [Qa8] at h; exact Eq.trans (by kernel_rfl) h
 · cases h
def QOB : Ev.Qj := fun args _ K => match args with
 | ([AV.agg (Blk.any [Ai v0, Ai v1, Ai v2, Ai v3, Ai v4, Fu v5, Ai v6, Fu v7]), AV.agg (Blk.any [Ai v8, Ai v9, Ai va, Ai vb, Ai vc, Fu vd, Ai ve, Fu vf])]) => JT v0 v1 v2 v3 v4 v5 v6 v7 v8 v9 va vb vc vd ve vf (fun vg => K (Ab vg))
 | _ => none
def S67:=Qr 67 QOB S66
theorem QOC : Dom B0 V S67 QW 116 := Dom.s (m := 115) (n := 0) QOA QOA (O := (fun _ => none)) (fun _ _ _ _ => Qd.none _ _) fun args R K r h => by
 unfold QOB at h; split at h
 · rw [Qa9] at h; exact Eq.trans (by kernel_rfl) h
 · cases h
def QOD : Ev.Qj := fun args _ K => match args with
 | ([AV.agg (Blk.any [Ai v0, Ai v1, Fu v2, AV.fsl (Blk.ints .i64 v3), AV.fsl (Blk.ints .i64 v4), Ai v5, Ai v6, Ai v7, Ai v8, Fu v9, Ai va, Fu vb, AV.fsl (Blk.ints .i64 vc), AV.fsl (Blk.ints .i64 vd), Ai ve, Ai vf, Ai vg, Ai vh, Ai vi, Fu vj, Ai vk, Fu vl]), AV.agg (Blk.any [Ai vm, Ai vn, Fu vo, AV.fsl (Blk.ints .i64 vp), AV.fsl (Blk.ints .i64 vq), Ai vr, Ai vs, Ai vt, Ai vu, Fu vv, Ai vw, Fu vx, AV.fsl (Blk.ints .i64 vy), AV.fsl (Blk.ints .i64 vz), Ai v10, Ai v11, Ai v12, Ai v13, Ai v14, Fu v15, Ai v16, Fu v17])]) => JU v0 v1 v2 v3 v4 v5 v6 v7 v8 v9 va vb vc vd ve vf vg vh vi vj vk vl vm vn vo vp vq vr vs vt vu vv vw vx vy vz v10 v11 v12 v13 v14 v15 v16 v17 (fun v18 => K (Ab v18))
 | _ => none
def S19:=Qr 19 QOD S67
theorem QOE : Dom B0 V S19 QW 117 := Dom.s (m := 116) (n := 0) QOC QOC (O := (fun _ => none)) (fun _ _ _ _ => Qd.none _ _) fun args R K r h => by
 unfold QOD at h; split at h
 · rw [Q2K] at h; exact Eq.trans (by kernel_rfl) h
 · cases h
def QL3 : Ev.Qj := fun args _ K => match args with
 | ([AV.agg (Blk.any [Ai v0, Fu v1])]) => Yp v0 v1 (fun v2 => K (Ab v2))
 | _ => none
def QOF:=Qr 165 QL3 S19
theorem QOG : Dom B0 V QOF QW 118 := Dom.s (m := 117) (n := 0) QOE QOE (O := (fun _ => none)) (fun _ _ _ _ => Qd.none _ _) fun args R K r h => by
 unfold QL3 at h; split at h
 · rw [Qaa] at h; exact Eq.trans (by kernel_rfl) h
 · cases h
def QL4 : Ev.Qj := fun args _ K => match args with
 | ([AV.agg (Blk.any [Ai v0, Ai v1, Ai v2, Fu v3])]) => Jd v0 v1 v2 v3 (fun v4 => K (Ab v4))
 | _ => none
def QMx:=Qr 166 QL4 QOF
theorem QOH : Dom B0 V QMx QW 119 := Dom.s (m := 118) (n := 0) QOG QOG (O := (fun _ => none)) (fun _ _ _ _ => Qd.none _ _) fun args R K r h => by
 unfold QL4 at h; split at h
 · rw [Q8x] at h; exact Eq.trans (by kernel_rfl) h
 · cases h
def QiA (K : Ex → St → Option R) (vs : List AV) (hh : H) : Option R := match vs, hh with
 | [Ap 0 0, Ab v0], [HA [Ai v1, Ai v2, Fu v3, AV.fsl (Blk.ints .i64 v4), AV.fsl (Blk.ints .i64 v5), Ai v6, Ai v7, Ai v8, Ai v9, Fu va, Ai vb, Fu vc, AV.fsl (Blk.ints .i64 vd), AV.fsl (Blk.ints .i64 ve), Ai vf, Ai vg, Ai vh, Ai vi, Ai vj, Fu vk, Ai vl, Fu vm]] => U8 v0 v1 v2 v3 v4 v5 v6 v7 v8 v9 va vb vc vd ve vf vg vh vi vj vk vl vm (fun vn => K (Ex.ret) (St.mk (Q3 94 0 [2] [Ab vn]) []))
 | _, _ => none
def QiB (K : Ex → St → Option R) (vs : List AV) (hh : H) : Option R := match vs, hh with
 | [Ap 0 0, Ab v0, Ab v1], [HA [Ai v2, Ai v3, Fu v4, AV.fsl (Blk.ints .i64 v5), AV.fsl (Blk.ints .i64 v6), Ai v7, Ai v8, Ai v9, Ai va, Fu vb, Ai vc, Fu vd, AV.fsl (Blk.ints .i64 ve), AV.fsl (Blk.ints .i64 vf), Ai vg, Ai vh, Ai vi, Ai vj, Ai vk, Fu vl, Ai vm, Fu vn]] => ZI v0 v1 v2 v3 v4 v5 v6 v7 v8 v9 va vb vc vd ve vf vg vh vi vj vk vl vm vn (fun vo => K (Ex.ret) (St.mk (Q3 94 0 [2] [Ab vo]) []))
 | _, _ => none
def QiC (K : Ex → St → Option R) (vs : List AV) (hh : H) : Option R := match vs, hh with
 | [Ap 0 0, Ab v0, Ab v1, Ab v2], [HA [Ai v3, Ai v4, Fu v5, AV.fsl (Blk.ints .i64 v6), AV.fsl (Blk.ints .i64 v7), Ai v8, Ai v9, Ai va, Ai vb, Fu vc, Ai vd, Fu ve, AV.fsl (Blk.ints .i64 vf), AV.fsl (Blk.ints .i64 vg), Ai vh, Ai vi, Ai vj, Ai vk, Ai vl, Fu vm, Ai vn, Fu vo]] => ZH v0 v1 v2 v3 v4 v5 v6 v7 v8 v9 va vb vc vd ve vf vg vh vi vj vk vl vm vn vo (fun vp => K (Ex.ret) (St.mk (Q3 94 0 [2] [Ab vp]) []))
 | _, _ => none
def QBg:Nat→Option Ql:=lkN [(3000,fun st _ K=>Qf 94 [1,3] st (QiA K)),(4000,fun st _ K=>Qf 94 [1,3,4] st (QiB K)),(5000,fun st _ K=>Qf 94 [1,3,4,5] st (QiC K))]
def QEx:Qi:=Qo (V 131) QMx QW 10
def QnR:Code:=Qk [1,1] (Q9 Tryz.f131)
def QnS:Code:=Qk [1,1,1] (Q9 Tryz.f131)
def Qvv:Code:=Qk [1,1,1,1] (Q9 Tryz.f131)
theorem QfV(K:Ex→St→Option R)(v0 v1:Bool)(v2 v3:Int)(v4 v5 v6:List Int)(v7 v8 v9 va:Int)(vb:List Int)(vc:Int)(vd ve vf:List Int)(vg vh vi vj vk:Int)(vl:List Int)(vm:Int)(vn:List Int):Qh (V 131) QEx QBg 131 0 3997 QnS (St.mk (Q3 94 0 [1,3,4] [Ap 0 0,Ab v0,Ab v1]) [HA [Ai v2,Ai v3,Fu v4,AV.fsl (Blk.ints .i64 v5),AV.fsl (Blk.ints .i64 v6),Ai v7,Ai v8,Ai v9,Ai va,Fu vb,Ai vc,Fu vd,AV.fsl (Blk.ints .i64 ve),AV.fsl (Blk.ints .i64 vf),Ai vg,Ai vh,Ai vi,Ai vj,Ai vk,Fu vl,Ai vm,Fu vn]]) (QJ (V 131) 131 0 (Ev.Qc QnS*1000+1) K)=UX v0 v1 v2 v3 v4 v5 v6 v7 v8 v9 va vb vc vd ve vf vg vh vi vj vk vl vm vn (fun vo=>K (Ex.ret) (St.mk (Q3 94 0 [2] [Ab vo]) [])):=by kernel_rfl
theorem QfW(K:Ex→St→Option R)(v0:Bool)(v1 v2:Int)(v3 v4 v5:List Int)(v6 v7 v8 v9:Int)(va:List Int)(vb:Int)(vc vd ve:List Int)(vf vg vh vi vj:Int)(vk:List Int)(vl:Int)(vm:List Int):Qh (V 131) QEx QBg 131 0 3998 QnR (St.mk (Q3 94 0 [1,3] [Ap 0 0,Ab v0]) [HA [Ai v1,Ai v2,Fu v3,AV.fsl (Blk.ints .i64 v4),AV.fsl (Blk.ints .i64 v5),Ai v6,Ai v7,Ai v8,Ai v9,Fu va,Ai vb,Fu vc,AV.fsl (Blk.ints .i64 vd),AV.fsl (Blk.ints .i64 ve),Ai vf,Ai vg,Ai vh,Ai vi,Ai vj,Fu vk,Ai vl,Fu vm]]) (QJ (V 131) 131 0 (Ev.Qc QnR*1000+1) K)=UY v0 v1 v2 v3 v4 v5 v6 v7 v8 v9 va vb vc vd ve vf vg vh vi vj vk vl vm (fun vn=>K (Ex.ret) (St.mk (Q3 94 0 [2] [Ab vn]) [])):=by kernel_rfl
theorem QEy:Q4 (V 131) QEx QBg 131 0 (3998,0,QnR):=.s (size:=94) (ss:=[1,3]) (F:=@QiA) (by kernel_rfl) fun R r K vs hh h=>by
 unfold QiA at h; split at h
 ·rw[Q6r]at h; exact (QfW K _ _ _ _ _ _ _ _ _ _ _ _ _ _ _ _ _ _ _ _ _ _ _).trans h
 ·cases h
theorem QEz:Q4 (V 131) QEx QBg 131 0 (3997,0,QnS):=.s (size:=94) (ss:=[1,3,4]) (F:=@QiB) (by kernel_rfl) fun R r K vs hh h=>by
 unfold QiB at h; split at h
 ·rw[Q6q]at h; exact (QfV K _ _ _ _ _ _ _ _ _ _ _ _ _ _ _ _ _ _ _ _ _ _ _ _).trans h
 ·cases h
theorem QEA:Q4 (V 131) QEx QBg 131 0 (3996,0,Qvv):=.s (size:=94) (ss:=[1,3,4,5]) (F:=@QiC) (by kernel_rfl) fun R r K vs hh h=>by
 unfold QiC at h; split at h
 ·rw[Q6p]at h; exact Eq.trans (by kernel_rfl) h
 ·cases h
theorem QOI:∀ x∈[(3998,0,QnR),(3997,0,QnS),(3996,0,Qvv)],Q4 (V 131) QEx QBg 131 0 x:=List.forall_mem_cons.2 ⟨QEy,List.forall_mem_cons.2 ⟨QEz,List.forall_mem_cons.2 ⟨QEA,fun _ h=>nomatch h⟩⟩⟩
def QL5 : Ev.Qj := fun args _ K => match args with
 | ([AV.agg (Blk.any [Ai v0, Ai v1, Fu v2, AV.fsl (Blk.ints .i64 v3), AV.fsl (Blk.ints .i64 v4), Ai v5, Ai v6, Ai v7, Ai v8, Fu v9, Ai va, Fu vb, AV.fsl (Blk.ints .i64 vc), AV.fsl (Blk.ints .i64 vd), Ai ve, Ai vf, Ai vg, Ai vh, Ai vi, Fu vj, Ai vk, Fu vl])]) => Q2L v0 v1 v2 v3 v4 v5 v6 v7 v8 v9 va vb vc vd ve vf vg vh vi vj vk vl (fun vm => K (Ab vm))
 | _ => none
def QOJ:=Qr 131 QL5 QMx
theorem QOK : Dom B0 V QOJ QW 120 := Dom.s (m := 119) (n := 0) QOH QOH (O := QBg) (Qd.fn (fn0 := Tryz.f131) (by kernel_rfl) (by kernel_rfl) QOI) fun args R K r h => by
 unfold QL5 at h; split at h
 · rw [Qab] at h; exact Eq.trans (by kernel_rfl) h
 · cases h
def QL6 : Ev.Qj := fun args _ K => match args with
 | ([AV.agg (Blk.any [Ai v0, Fu v1, AV.fsl (Blk.ints .i64 v2), AV.fsl (Blk.ints .i64 v3)])]) => Je v0 v1 v2 v3 (fun v4 => K (Ab v4))
 | _ => none
def QOL:=Qr 128 QL6 QOJ
theorem QOM : Dom B0 V QOL QW 121 := Dom.s (m := 120) (n := 0) QOK QOK (O := (fun _ => none)) (fun _ _ _ _ => Qd.none _ _) fun args R K r h => by
 unfold QL6 at h; split at h
 · rw [Q8y] at h; exact Eq.trans (by kernel_rfl) h
 · cases h
def QL7 : Ev.Qj := fun args _ K => match args with
 | ([AV.agg (Blk.any [Ai v0, Fu v1, AV.fsl (Blk.ints .i64 v2), AV.fsl (Blk.ints .i64 v3)])]) => Jf v0 v1 v2 v3 (fun v4 v5 v6 => K (AV.tup [AV.agg (Blk.any [Ai v4, Fu v5]), Ab v6]))
 | _ => none
def QON:=Qr 132 QL7 QOL
theorem QOO : Dom B0 V QON QW 122 := Dom.s (m := 121) (n := 0) QOM QOM (O := (fun _ => none)) (fun _ _ _ _ => Qd.none _ _) fun args R K r h => by
 unfold QL7 at h; split at h
 · rw [Q8z] at h; exact Eq.trans (by kernel_rfl) h
 · cases h
def QL8 : Ev.Qj := fun args _ K => match args with
 | ([AV.agg (Blk.any [Ai v0, Ai v1, Ai v2, Fu v3])]) => Yf v0 v1 v2 v3 (fun v4 => K (Ab v4))
 | _ => none
def QMy:=Qr 167 QL8 QON
theorem QOP : Dom B0 V QMy QW 123 := Dom.s (m := 122) (n := 0) QOO QOO (O := (fun _ => none)) (fun _ _ _ _ => Qd.none _ _) fun args R K r h => by
 unfold QL8 at h; split at h
 · rw [Q8A] at h; exact Eq.trans (by kernel_rfl) h
 · cases h
def QiD (K : Ex → St → Option R) (vs : List AV) (hh : H) : Option R := match vs, hh with
 | [Ai v0, Ai v1, Ap 0 0], [HA [Ai v2, Fu v3]] => Q2O v0 v1 v2 v3 (fun v4 v5 => K (Ex.ret) (St.mk (Q3 53 0 [6, 7] [Au v4, Ai v5]) []))
 | _, _ => none
def QiE (K : Ex → St → Option R) (vs : List AV) (hh : H) : Option R := match vs, hh with
 | [Ai v0, Ai v1, Ap 0 0], [HA [Ai v2, Fu v3]] => Q2N v0 v1 v2 v3 (fun v4 v5 => K (Ex.ret) (St.mk (Q3 53 0 [6, 7] [Au v4, Ai v5]) []))
 | _, _ => none
def QiF (K : Ex → St → Option R) (vs : List AV) (hh : H) : Option R := match vs, hh with
 | [Ai v0, Ai v1, Ap 0 0, Au v2, Ai v3], [HA [Ai v4, Fu v5]] => Q2M v0 v1 v2 v3 v4 v5 (fun v6 => K (Ex.exit 0) (St.mk (Q3 53 0 [8] [Au v6]) []))
 | _, _ => none
def QEB:Nat→Option Ql:=lkN [(4000,fun st _ K=>Qf 53 [1,2,3] st (QiD K)),(6000,fun st _ K=>Qf 53 [1,2,3] st (QiE K)),(8400,fun st _ K=>Qf 53 [1,2,3,8,9] st (QiF K))]
def QGN:Qi:=Qo (V 184) QMy QW 10
def Qvw:Code:=Qk [1,1] (Q9 Tryz.f184)
def Qvx:Code:=Qk [1,1,1] (Q9 Tryz.f184)
def Qh0:Code:=Qk [1,1,1,1,0,1,0,0] (Q9 Tryz.f184)
def QBh(N:Nat)(st:St)(K:Ex→St→Option R):Option R:=Qs (QQ ((V 184).keep 184 (Ev.Qc Qh0*1000+400)) 0) (Qh (V 184) QGN QEB 184 0 3992 Qh0) N st (QJ (V 184) 184 0 (Ev.Qc Qh0*1000+401) K)
theorem Q4e(K:Ex→St→Option R):∀ N:Nat,(fun (v0 v1 v2 v3 v4:Int) (v5:List Int)=>QBh N (St.mk (Q3 53 0 [1,2,3,8,9] [Ai v0,Ai v1,Ap 0 0,Au v2,Ai v3]) [HA [Ai v4,Fu v5]]) K)=Zv (fun v6=>K (Ex.exit 0) (St.mk (Q3 53 0 [8] [Au v6]) [])) N
 | 0=>by funext v0 v1 v2 v3 v4 v5; rfl
 | N+1=>by
  funext v0 v1 v2 v3 v4 v5
  simp only[Zv]
  rw[←Q4e K N]
  kernel_rfl
theorem QEC:Q4 (V 184) QGN QEB 184 0 (3998,0,Qvw):=.s (size:=53) (ss:=[1,2,3]) (F:=@QiD) (by kernel_rfl) fun R r K vs hh h=>by
 unfold QiD at h; split at h
 ·rw[Q5C]at h; exact Eq.trans (by kernel_rfl) h
 ·cases h
theorem QED:Q4 (V 184) QGN QEB 184 0 (3997,0,Qvx):=.s (size:=53) (ss:=[1,2,3]) (F:=@QiE) (by kernel_rfl) fun R r K vs hh h=>by
 unfold QiE at h; split at h
 ·rw[Q5B]at h; exact Eq.trans (by kernel_rfl) h
 ·cases h
theorem QEE:Q4 (V 184) QGN QEB 184 0 (3992,1,Qh0):=.l (size:=53) (ss:=[1,2,3,8,9]) (F:=@QiF) (by kernel_rfl) (by kernel_rfl) fun R r K vs hh h=>by
 unfold QiF at h; split at h
 ·rw[Q5A]at h; unfold Uo at h; rw[←Q4e K NR]at h; exact h
 ·cases h
theorem QOQ:∀ x∈[(3998,0,Qvw),(3997,0,Qvx),(3992,1,Qh0)],Q4 (V 184) QGN QEB 184 0 x:=List.forall_mem_cons.2 ⟨QEC,List.forall_mem_cons.2 ⟨QED,List.forall_mem_cons.2 ⟨QEE,fun _ h=>nomatch h⟩⟩⟩
def QL9 : Ev.Qj := fun args _ K => match args with
 | ([AV.agg (Blk.any [Ai v0, Fu v1]), Ai v2, Ai v3]) => Jg v0 v1 v2 v3 (fun v4 v5 => K (AV.tup [Au v4, Ai v5]))
 | _ => none
def QMz:=Qr 184 QL9 QMy
theorem QOR : Dom B0 V QMz QW 124 := Dom.s (m := 123) (n := 0) QOP QOP (O := QEB) (Qd.fn (fn0 := Tryz.f184) (by kernel_rfl) (by kernel_rfl) QOQ) fun args R K r h => by
 unfold QL9 at h; split at h
 · rw [Q8B] at h; exact Eq.trans (by kernel_rfl) h
 · cases h
def QiG (K : Ex → St → Option R) (vs : List AV) (hh : H) : Option R := match vs, hh with
 | [Ai v0, Ap 0 0], [HA [Ai v1, Ai v2, Ai v3, Fu v4]] => Q5D v0 v1 v2 v3 v4 (fun v5 v6 => K (Ex.ret) (St.mk (Q3 28 0 [4, 5] [Au v5, Ai v6]) []))
 | _, _ => none
def QMA:Nat→Option Ql:=lkN [(6000,fun st _ K=>Qf 28 [1,2] st (QiG K))]
def QOS:Qi:=Qo (V 187) QMz QW 10
def Qvy:Code:=Qk [1,1,1] (Q9 Tryz.f187)
theorem QEF:Q4 (V 187) QOS QMA 187 0 (3997,0,Qvy):=.s (size:=28) (ss:=[1,2]) (F:=@QiG) (by kernel_rfl) fun R r K vs hh h=>by
 unfold QiG at h; split at h
 ·rw[Q7j]at h; exact Eq.trans (by kernel_rfl) h
 ·cases h
theorem QOT:∀ x∈[(3997,0,Qvy)],Q4 (V 187) QOS QMA 187 0 x:=List.forall_mem_cons.2 ⟨QEF,fun _ h=>nomatch h⟩
def QLa : Ev.Qj := fun args _ K => match args with
 | ([AV.agg (Blk.any [Ai v0, Ai v1, Ai v2, Fu v3]), Ai v4]) => Q4D v0 v1 v2 v3 v4 (fun v5 v6 => K (AV.tup [Au v5, Ai v6]))
 | _ => none
def QMB:=Qr 187 QLa QMz
theorem QOU : Dom B0 V QMB QW 125 := Dom.s (m := 124) (n := 0) QOR QOR (O := QMA) (Qd.fn (fn0 := Tryz.f187) (by kernel_rfl) (by kernel_rfl) QOT) fun args R K r h => by
 unfold QLa at h; split at h
 · rw [QaB] at h; exact Eq.trans (by kernel_rfl) h
 · cases h
def QiH (K : Ex → St → Option R) (vs : List AV) (hh : H) : Option R := match vs, hh with
 | [Ap 0 0, AV.sl 1 0 v0 1, Ai v1], [HA [Ai v2, Ai v3, Ai v4, Fu v5], HU v6] => Q43 v0 v1 v2 v3 v4 v5 v6 (fun v7 v8 => K (Ex.exit 0) (St.mk (Q3 28 0 [3] [AV.sl 0 0 v7 1]) [HU v8]))
 | _, _ => none
def QiI (K : Ex → St → Option R) (vs : List AV) (hh : H) : Option R := match vs, hh with
 | [Ap 0 0, AV.sl 1 0 v0 1, Ai v1], [HA [Ai v2, Ai v3, Ai v4, Fu v5], HU v6] => Q42 v0 v1 v2 v3 v4 v5 v6 (fun v7 v8 v9 va vb vc vd => K (Ex.normal) (St.mk (Q3 28 0 [1, 3, 4] [Ap 0 0, AV.sl 1 0 v7 1, Ai v8]) [HA [Ai v9, Ai va, Ai vb, Fu vc], HU vd]))
 | _, _ => none
def QGO:Nat→Option Ql:=lkN [(4400,fun st _ K=>Qf 28 [1,3,4] st (QiH K)),(6000,fun st _ K=>Qf 28 [1,3,4] st (QiI K))]
def QJi:Qi:=Qo (V 183) QMB QW 10
def Qh1:Code:=Qk [1,1,0,1,0,0] (Q9 Tryz.f183)
def QBi(N:Nat)(st:St)(K:Ex→St→Option R):Option R:=Qs (QQ ((V 183).keep 183 (Ev.Qc Qh1*1000+400)) 0) (Qh (V 183) QJi QGO 183 0 3994 Qh1) N st (QJ (V 183) 183 0 (Ev.Qc Qh1*1000+401) K)
def Qvz:Code:=Qk [1,1,0,1,0,0,1] (Q9 Tryz.f183)
theorem Q4N(K:Ex→St→Option R):∀ N:Nat,(fun (v0:Nat) (v1 v2 v3 v4:Int) (v5 v6:List Int)=>QBi N (St.mk (Q3 28 0 [1,3,4] [Ap 0 0,AV.sl 1 0 v0 1,Ai v1]) [HA [Ai v2,Ai v3,Ai v4,Fu v5],HU v6]) K)=Zc (fun v7 v8=>K (Ex.exit 0) (St.mk (Q3 28 0 [3] [AV.sl 0 0 v7 1]) [HU v8])) N
 | 0=>by funext v0 v1 v2 v3 v4 v5 v6; rfl
 | N+1=>by
  funext v0 v1 v2 v3 v4 v5 v6
  simp only[Zc]
  rw[←Q4N K N]
  kernel_rfl
theorem QEG:Q4 (V 183) QJi QGO 183 0 (3994,1,Qh1):=.l (size:=28) (ss:=[1,3,4]) (F:=@QiH) (by kernel_rfl) (by kernel_rfl) fun R r K vs hh h=>by
 unfold QiH at h; split at h
 ·rw[Q6t]at h; unfold UZ at h; rw[←Q4N K NR]at h; exact h
 ·cases h
theorem QEH:Q4 (V 183) QJi QGO 183 0 (3993,0,Qvz):=.s (size:=28) (ss:=[1,3,4]) (F:=@QiI) (by kernel_rfl) fun R r K vs hh h=>by
 unfold QiI at h; split at h
 ·rw[Q6s]at h; exact Eq.trans (by kernel_rfl) h
 ·cases h
theorem QOV:∀ x∈[(3994,1,Qh1),(3993,0,Qvz)],Q4 (V 183) QJi QGO 183 0 x:=List.forall_mem_cons.2 ⟨QEG,List.forall_mem_cons.2 ⟨QEH,fun _ h=>nomatch h⟩⟩
def QLb : Ev.Qj := fun args _ K => match args with
 | ([AV.agg (Blk.any [Ai v0, Ai v1, Ai v2, Fu v3])]) => JW v0 v1 v2 v3 (fun v4 => K (Fu v4))
 | _ => none
def QMC:=Qr 183 QLb QMB
theorem QOW : Dom B0 V QMC QW 126 := Dom.s (m := 125) (n := 0) QOU QOU (O := QGO) (Qd.fn (fn0 := Tryz.f183) (by kernel_rfl) (by kernel_rfl) QOV) fun args R K r h => by
 unfold QLb at h; split at h
 · rw [Qac] at h; exact Eq.trans (by kernel_rfl) h
 · cases h
def QiJ (K : Ex → St → Option R) (vs : List AV) (hh : H) : Option R := match vs, hh with
 | [Ai v0, Au v1, Au v2, Ai v3], [] => Q2R v0 v1 v2 v3 (fun v4 => K (Ex.exit 0) (St.mk (Q3 43 0 [8] [Au v4]) []))
 | _, _ => none
def QiK (K : Ex → St → Option R) (vs : List AV) (hh : H) : Option R := match vs, hh with
 | [Ai v0, Au v1, Au v2, Ai v3], [] => Q2Q v0 v1 v2 v3 (fun v4 v5 v6 v7 => K (Ex.normal) (St.mk (Q3 43 0 [1, 2, 8, 9] [Ai v4, Au v5, Au v6, Ai v7]) []))
 | _, _ => none
def QGP:Nat→Option Ql:=lkN [(6400,fun st _ K=>Qf 43 [1,2,8,9] st (QiJ K)),(8000,fun st _ K=>Qf 43 [1,2,8,9] st (QiK K))]
def QJj:Qi:=Qo (V 185) QMC QW 10
def Qh2:Code:=Qk [1,1,1,0,1,0,0] (Q9 Tryz.f185)
def QBj(N:Nat)(st:St)(K:Ex→St→Option R):Option R:=Qs (QQ ((V 185).keep 185 (Ev.Qc Qh2*1000+400)) 0) (Qh (V 185) QJj QGP 185 0 3993 Qh2) N st (QJ (V 185) 185 0 (Ev.Qc Qh2*1000+401) K)
def QvA:Code:=Qk [1,1,1,0,1,0,0,1] (Q9 Tryz.f185)
theorem Q4f(K:Ex→St→Option R):∀ N:Nat,(fun (v0 v1 v2 v3:Int)=>QBj N (St.mk (Q3 43 0 [1,2,8,9] [Ai v0,Au v1,Au v2,Ai v3]) []) K)=Zw (fun v4=>K (Ex.exit 0) (St.mk (Q3 43 0 [8] [Au v4]) [])) N
 | 0=>by funext v0 v1 v2 v3; rfl
 | N+1=>by
  funext v0 v1 v2 v3
  simp only[Zw]
  rw[←Q4f K N]
  kernel_rfl
theorem QEI:Q4 (V 185) QJj QGP 185 0 (3993,1,Qh2):=.l (size:=43) (ss:=[1,2,8,9]) (F:=@QiJ) (by kernel_rfl) (by kernel_rfl) fun R r K vs hh h=>by
 unfold QiJ at h; split at h
 ·rw[Q5G]at h; unfold Up at h; rw[←Q4f K NR]at h; exact h
 ·cases h
theorem QEJ:Q4 (V 185) QJj QGP 185 0 (3992,0,QvA):=.s (size:=43) (ss:=[1,2,8,9]) (F:=@QiK) (by kernel_rfl) fun R r K vs hh h=>by
 unfold QiK at h; split at h
 ·rw[Q5F]at h; exact Eq.trans (by kernel_rfl) h
 ·cases h
theorem QOX:∀ x∈[(3993,1,Qh2),(3992,0,QvA)],Q4 (V 185) QJj QGP 185 0 x:=List.forall_mem_cons.2 ⟨QEI,List.forall_mem_cons.2 ⟨QEJ,fun _ h=>nomatch h⟩⟩
def QLc : Ev.Qj := fun args _ K => match args with
 | ([Ai v0, Ai v1, Au v2]) => Q1h v0 v1 v2 (fun v3 v4 => K (AV.tup [Au v3, Ab v4]))
 | _ => none
def QMD:=Qr 185 QLc QMC
theorem QOY : Dom B0 V QMD QW 127 := Dom.s (m := 126) (n := 0) QOW QOW (O := QGP) (Qd.fn (fn0 := Tryz.f185) (by kernel_rfl) (by kernel_rfl) QOX) fun args R K r h => by
 unfold QLc at h; split at h
 · rw [Q8C] at h; exact Eq.trans (by kernel_rfl) h
 · cases h
def QiL (K : Ex → St → Option R) (vs : List AV) (hh : H) : Option R := match vs, hh with
 | [Ap 0 0, Ap 1 0, AV.sl 2 0 v0 1, Ai v1, Fu v2, Ai v3], [HA [Ai v4, Ai v5, Ai v6, Ai v7, Fu v8, Ai v9, Fu va, AV.fsl (Blk.ints .i64 vb), AV.fsl (Blk.ints .i64 vc)], HA [Ai vd, AV.esl], HO ve] => Q5H v0 v1 v2 v3 v4 v5 v6 v7 v8 v9 va vb vc vd ve (fun vf => K (Ex.ret) (St.mk (Q3 82 0 [2] [Ap 0 0]) [HA [Ai vf, AV.esl]])) (fun vf vg vh => K (Ex.exit 0) (St.mk (Q3 82 0 [2, 3] [Ap 0 0, AV.sl 1 0 vf 1]) [HA [Ai vg, AV.esl], HO vh]))
 | _, _ => none
def QfX (K : Ex → St → Option R) (vs : List AV) (hh : H) : Option R := match vs, hh with
 | [Ap 0 0, Ap 1 0, AV.sl 2 0 v0 1, Ai v1, Fu v2, Ai v3, Ai v4, Au v5], [HA [Ai v6, Ai v7, Ai v8, Ai v9, Fu va, Ai vb, Fu vc, AV.fsl (Blk.ints .i64 vd), AV.fsl (Blk.ints .i64 ve)], HA [Ai vf, AV.esl], HO vg] => Q47 v0 v1 v2 v3 v4 v5 v6 v7 v8 v9 va vb vc vd ve vf vg (fun vh vi vj vk vl vm vn vo vp vq vr vs vt vu vv => K (Ex.normal) (St.mk (Q3 82 0 [1, 2, 3, 4, 5, 6] [Ap 0 0, Ap 1 0, AV.sl 2 0 vh 1, Ai vi, Fu vj, Ai vk]) [HA [Ai vl, Ai vm, Ai vn, Ai vo, Fu vp, Ai vq, Fu vr, AV.fsl (Blk.ints .i64 vs), AV.fsl (Blk.ints .i64 vt)], HA [Ai vu, AV.esl], HO vv]))
 | _, _ => none
def QfY (K : Ex → St → Option R) (vs : List AV) (hh : H) : Option R := match vs, hh with
 | [Ap 0 0, Ap 1 0, AV.sl 2 0 v0 1, Ai v1, Fu v2, Ai v3, Ai v4, Au v5, Ai v6], [HA [Ai v7, Ai v8, Ai v9, Ai va, Fu vb, Ai vc, Fu vd, AV.fsl (Blk.ints .i64 ve), AV.fsl (Blk.ints .i64 vf)], HA [Ai vg, AV.esl], HO vh] => Q46 v0 v1 v2 v3 v4 v5 v6 v7 v8 v9 va vb vc vd ve vf vg vh (fun vi vj vk vl vm vn vo vp vq vr vs vt vu vv vw vx => K (Ex.exit 2) (St.mk (Q3 82 0 [1, 2, 3, 4, 5, 6, 8] [Ap 0 0, Ap 1 0, AV.sl 2 0 vi 1, Ai vj, Fu vk, Ai vl, Ai vm]) [HA [Ai vn, Ai vo, Ai vp, Ai vq, Fu vr, Ai vs, Fu vt, AV.fsl (Blk.ints .i64 vu), AV.fsl (Blk.ints .i64 vv)], HA [Ai vw, AV.esl], HO vx]))
 | _, _ => none
def QfZ (K : Ex → St → Option R) (vs : List AV) (hh : H) : Option R := match vs, hh with
 | [Ap 0 0, Ap 1 0, AV.sl 2 0 v0 1, Ai v1, Fu v2, Ai v3, Ai v4, Au v5, Ai v6], [HA [Ai v7, Ai v8, Ai v9, Ai va, Fu vb, Ai vc, Fu vd, AV.fsl (Blk.ints .i64 ve), AV.fsl (Blk.ints .i64 vf)], HA [Ai vg, AV.esl], HO vh] => Q45 v0 v1 v2 v3 v4 v5 v6 v7 v8 v9 va vb vc vd ve vf vg vh (fun vi vj vk vl vm vn vo vp vq vr vs vt vu vv vw vx vy vz => K (Ex.normal) (St.mk (Q3 82 0 [1, 2, 3, 4, 5, 6, 8, 11, 13] [Ap 0 0, Ap 1 0, AV.sl 2 0 vi 1, Ai vj, Fu vk, Ai vl, Ai vm, Au vn, Ai vo]) [HA [Ai vp, Ai vq, Ai vr, Ai vs, Fu vt, Ai vu, Fu vv, AV.fsl (Blk.ints .i64 vw), AV.fsl (Blk.ints .i64 vx)], HA [Ai vy, AV.esl], HO vz]))
 | _, _ => none
def QyJ:Nat→Option Ql:=lkN [(6400,fun st _ K=>Qf 82 [1,2,3,4,5,6] st (QiL K)),(14000,fun st _ K=>Qf 82 [1,2,3,4,5,6,8,11] st (QfX K)),(15400,fun st _ K=>Qf 82 [1,2,3,4,5,6,8,11,13] st (QfY K)),(17000,fun st _ K=>Qf 82 [1,2,3,4,5,6,8,11,13] st (QfZ K))]
def QBk:Qi:=Qo (V 168) QMD QW 10
def Qh3:Code:=Qk [1,1,1,1,0,1,0,0] (Q9 Tryz.f168)
def QBl(N:Nat)(st:St)(K:Ex→St→Option R):Option R:=Qs (QQ ((V 168).keep 168 (Ev.Qc Qh3*1000+400)) 0) (Qh (V 168) QBk QyJ 168 0 3992 Qh3) N st (QJ (V 168) 168 0 (Ev.Qc Qh3*1000+401) K)
def QsY:Code:=Qk [1,1,1,1,0,1,0,0,1,0,0,1,1,1,1,1] (Q9 Tryz.f168)
def QdC:Code:=Qk [1,1,1,1,0,1,0,0,1,0,0,1,1,1,1,1,0,1,0,0] (Q9 Tryz.f168)
def QyK(N:Nat)(st:St)(K:Ex→St→Option R):Option R:=Qs (QQ ((V 168).keep 168 (Ev.Qc QdC*1000+400)) 0) (Qh (V 168) QBk QyJ 168 0 3980 QdC) N st (QJ (V 168) 168 0 (Ev.Qc QdC*1000+401) K)
def QsZ:Code:=Qk [1,1,1,1,0,1,0,0,1,0,0,1,1,1,1,1,0,1,0,0,1] (Q9 Tryz.f168)
theorem Q4O(K:Ex→St→Option R):∀ N:Nat,(fun (v0:Nat) (v1:Int) (v2:List Int) (v3 v4 v5 v6 v7 v8 v9 va:Int) (vb:List Int) (vc:Int) (vd ve vf:List Int) (vg:Int) (vh:List Bool)=>QyK N (St.mk (Q3 82 0 [1,2,3,4,5,6,8,11,13] [Ap 0 0,Ap 1 0,AV.sl 2 0 v0 1,Ai v1,Fu v2,Ai v3,Ai v4,Au v5,Ai v6]) [HA [Ai v7,Ai v8,Ai v9,Ai va,Fu vb,Ai vc,Fu vd,AV.fsl (Blk.ints .i64 ve),AV.fsl (Blk.ints .i64 vf)],HA [Ai vg,AV.esl],HO vh]) K)=ZT (fun vi vj vk vl vm vn vo vp vq vr vs vt vu vv vw vx=>K (Ex.exit 2) (St.mk (Q3 82 0 [1,2,3,4,5,6,8] [Ap 0 0,Ap 1 0,AV.sl 2 0 vi 1,Ai vj,Fu vk,Ai vl,Ai vm]) [HA [Ai vn,Ai vo,Ai vp,Ai vq,Fu vr,Ai vs,Fu vt,AV.fsl (Blk.ints .i64 vu),AV.fsl (Blk.ints .i64 vv)],HA [Ai vw,AV.esl],HO vx])) N
 | 0=>by funext v0 v1 v2 v3 v4 v5 v6 v7 v8 v9 va vb vc vd ve vf vg vh; rfl
 | N+1=>by
  funext v0 v1 v2 v3 v4 v5 v6 v7 v8 v9 va vb vc vd ve vf vg vh
  simp only[ZT]
  rw[←Q4O K N]
  kernel_rfl
theorem Q62(K:Ex→St→Option R):∀ N:Nat,(fun (v0:Nat) (v1:Int) (v2:List Int) (v3 v4 v5 v6 v7:Int) (v8:List Int) (v9:Int) (va vb vc:List Int) (vd:Int) (ve:List Bool)=>QBl N (St.mk (Q3 82 0 [1,2,3,4,5,6] [Ap 0 0,Ap 1 0,AV.sl 2 0 v0 1,Ai v1,Fu v2,Ai v3]) [HA [Ai v4,Ai v5,Ai v6,Ai v7,Fu v8,Ai v9,Fu va,AV.fsl (Blk.ints .i64 vb),AV.fsl (Blk.ints .i64 vc)],HA [Ai vd,AV.esl],HO ve]) K)=Y8 (fun vf=>K (Ex.ret) (St.mk (Q3 82 0 [2] [Ap 0 0]) [HA [Ai vf,AV.esl]])) (fun vf vg vh=>K (Ex.exit 0) (St.mk (Q3 82 0 [2,3] [Ap 0 0,AV.sl 1 0 vf 1]) [HA [Ai vg,AV.esl],HO vh])) N
 | 0=>by funext v0 v1 v2 v3 v4 v5 v6 v7 v8 v9 va vb vc vd ve; rfl
 | N+1=>by
  funext v0 v1 v2 v3 v4 v5 v6 v7 v8 v9 va vb vc vd ve
  simp only[Y8]
  rw[←Q62 K N]
  kernel_rfl
theorem QEK:Q4 (V 168) QBk QyJ 168 0 (3992,1,Qh3):=.l (size:=82) (ss:=[1,2,3,4,5,6]) (F:=@QiL) (by kernel_rfl) (by kernel_rfl) fun R r K vs hh h=>by
 unfold QiL at h; split at h
 ·rw[Q7l]at h; unfold Jr at h; rw[←Q62 K NR]at h; exact h
 ·cases h
theorem QBm:Q4 (V 168) QBk QyJ 168 0 (3984,0,QsY):=.s (size:=82) (ss:=[1,2,3,4,5,6,8,11]) (F:=@QfX) (by kernel_rfl) fun R r K vs hh h=>by
 unfold QfX at h; split at h
 ·rw[Q6w]at h; exact Eq.trans (by kernel_rfl) h
 ·cases h
theorem QBn:Q4 (V 168) QBk QyJ 168 0 (3980,1,QdC):=.l (size:=82) (ss:=[1,2,3,4,5,6,8,11,13]) (F:=@QfY) (by kernel_rfl) (by kernel_rfl) fun R r K vs hh h=>by
 unfold QfY at h; split at h
 ·rw[Q6v]at h; unfold J0 at h; rw[←Q4O K NR]at h; exact h
 ·cases h
theorem QBo:Q4 (V 168) QBk QyJ 168 0 (3979,0,QsZ):=.s (size:=82) (ss:=[1,2,3,4,5,6,8,11,13]) (F:=@QfZ) (by kernel_rfl) fun R r K vs hh h=>by
 unfold QfZ at h; split at h
 ·rw[Q6u]at h; exact Eq.trans (by kernel_rfl) h
 ·cases h
theorem QOZ:∀ x∈[(3992,1,Qh3),(3984,0,QsY),(3980,1,QdC),(3979,0,QsZ)],Q4 (V 168) QBk QyJ 168 0 x:=List.forall_mem_cons.2 ⟨QEK,List.forall_mem_cons.2 ⟨QBm,List.forall_mem_cons.2 ⟨QBn,List.forall_mem_cons.2 ⟨QBo,fun _ h=>nomatch h⟩⟩⟩⟩
def QLd : Ev.Qj := fun args _ K => match args with
 | ([AV.agg (Blk.any [Ai v0, Ai v1, Ai v2, Ai v3, Fu v4, Ai v5, Fu v6, AV.fsl (Blk.ints .i64 v7), AV.fsl (Blk.ints .i64 v8)])]) => Q4E v0 v1 v2 v3 v4 v5 v6 v7 v8 (fun v9 va => K (AV.agg (Blk.any [Ai v9, Fu va])))
 | _ => none
def QJk:=Qr 168 QLd QMD
theorem QP0 : Dom B0 V QJk QW 128 := Dom.s (m := 127) (n := 0) QOY QOY (O := QyJ) (Qd.fn (fn0 := Tryz.f168) (by kernel_rfl) (by kernel_rfl) QOZ) fun args R K r h => by
 unfold QLd at h; split at h
 · rw [QaC] at h; exact Eq.trans (by kernel_rfl) h
 · cases h
def QiM (K : Ex → St → Option R) (vs : List AV) (hh : H) : Option R := match vs, hh with
 | [Ap 0 0, Ap 1 0, Ab v0], [HA [Ai v1, Ai v2, Ai v3, Ai v4, Fu v5, Ai v6, Fu v7, AV.fsl (Blk.ints .i64 v8), AV.fsl (Blk.ints .i64 v9)], HA [Ai va, AV.esl]] => QS v0 v1 v2 v3 v4 v5 v6 v7 v8 v9 va (fun vb vc => K (Ex.ret) (St.mk (Q3 41 0 [2, 3] [Ap 0 0, Ab vb]) [HA [Ai vc, AV.esl]])) (fun vb vc vd ve vf vg vh vi vj vk => K (Ex.normal) (St.mk (Q3 41 0 [1, 2] [Ap 0 0, Ap 1 0]) [HA [Ai vb, Ai vc, Ai vd, Ai ve, Fu vf, Ai vg, Fu vh, AV.fsl (Blk.ints .i64 vi), AV.fsl (Blk.ints .i64 vj)], HA [Ai vk, AV.esl]]))
 | _, _ => none
def QiN (K : Ex → St → Option R) (vs : List AV) (hh : H) : Option R := match vs, hh with
 | [Ap 0 0, Ap 1 0], [HA [Ai v0, Ai v1, Ai v2, Ai v3, Fu v4, Ai v5, Fu v6, AV.fsl (Blk.ints .i64 v7), AV.fsl (Blk.ints .i64 v8)], HA [Ai v9, AV.esl]] => Y9 v0 v1 v2 v3 v4 v5 v6 v7 v8 v9 (fun va vb => K (Ex.ret) (St.mk (Q3 41 0 [2, 3] [Ap 0 0, Ab va]) [HA [Ai vb, AV.esl]])) (fun va vb vc => K (Ex.ret) (St.mk (Q3 41 0 [2, 3] [Ap 0 0, Ab va]) [HA [Ai vb, Fu vc]]))
 | _, _ => none
def QGQ:Nat→Option Ql:=lkN [(3000,fun st _ K=>Qf 41 [1,2,26] st (QiM K)),(4000,fun st _ K=>Qf 41 [1,2] st (QiN K))]
def QME:Qi:=Qo (V 133) QJk QW 10
def QvB:Code:=Qk [1,1] (Q9 Tryz.f133)
def QvC:Code:=Qk [1,0,1] (Q9 Tryz.f133)
theorem QEL:Q4 (V 133) QME QGQ 133 0 (3998,0,QvB):=.s (size:=41) (ss:=[1,2]) (F:=@QiN) (by kernel_rfl) fun R r K vs hh h=>by
 unfold QiN at h; split at h
 ·rw[Q5I]at h; exact Eq.trans (by kernel_rfl) h
 ·cases h
theorem QEM:Q4 (V 133) QME QGQ 133 0 (3997,0,QvC):=.s (size:=41) (ss:=[1,2,26]) (F:=@QiM) (by kernel_rfl) fun R r K vs hh h=>by
 unfold QiM at h; split at h
 ·rw[JV]at h; exact Eq.trans (by kernel_rfl) h
 ·cases h
theorem QP1:∀ x∈[(3998,0,QvB),(3997,0,QvC)],Q4 (V 133) QME QGQ 133 0 x:=List.forall_mem_cons.2 ⟨QEL,List.forall_mem_cons.2 ⟨QEM,fun _ h=>nomatch h⟩⟩
theorem QiO(K:AV→Option R)(v0 v1 v2 v3:Int)(v4:List Int)(v5:Int)(v6 v7 v8:List Int):JD (V 133) QJk QW QGQ 10 133 ([AV.agg (Blk.any [Ai v0,Ai v1,Ai v2,Ai v3,Fu v4,Ai v5,Fu v6,AV.fsl (Blk.ints .i64 v7),AV.fsl (Blk.ints .i64 v8)])]) R K=Q07 v0 v1 v2 v3 v4 v5 v6 v7 v8 (fun v9 va vb=>K (AV.tup [AV.agg (Blk.any [Ai v9,Fu va]),Ab vb])):=by kernel_rfl
def QLe : Ev.Qj := fun args _ K => match args with
 | ([AV.agg (Blk.any [Ai v0, Ai v1, Ai v2, Ai v3, Fu v4, Ai v5, Fu v6, AV.fsl (Blk.ints .i64 v7), AV.fsl (Blk.ints .i64 v8)])]) => Z4 v0 v1 v2 v3 v4 v5 v6 v7 v8 (fun v9 va vb => K (AV.tup [AV.agg (Blk.any [Ai v9, Fu va]), Ab vb]))
 | _ => none
def QMF:=Qr 133 QLe QJk
theorem QP2 : Dom B0 V QMF QW 129 := Dom.s (m := 128) (n := 0) QP0 QP0 (O := QGQ) (Qd.fn (fn0 := Tryz.f133) (by kernel_rfl) (by kernel_rfl) QP1) fun args R K r h => by
 unfold QLe at h; split at h
 · rw [Q8E] at h; exact (QiO K _ _ _ _ _ _ _ _ _).trans h
 · cases h
def QiP (K : Ex → St → Option R) (vs : List AV) (hh : H) : Option R := match vs, hh with
 | [Ap 0 0], [HA [Ai v0, Ai v1, Ai v2, Ai v3, Ai v4, Fu v5, Ai v6, Fu v7]] => Q4W v0 v1 v2 v3 v4 v5 v6 v7 (fun v8 => K (Ex.ret) (St.mk (Q3 125 0 [2, 3] [AV.esl, Ab v8]) [])) (fun v8 v9 va => K (Ex.ret) (St.mk (Q3 125 0 [2, 3] [AV.sl 0 0 v8 1, Ab v9]) [HB.live (Blk.ints .i64 va)]))
 | _, _ => none
def QiQ (K : Ex → St → Option R) (vs : List AV) (hh : H) : Option R := match vs, hh with
 | [Ap 0 0, Ai v0], [HA [Ai v1, Ai v2, Ai v3, Ai v4, Ai v5, Fu v6, Ai v7, Fu v8]] => Q4V v0 v1 v2 v3 v4 v5 v6 v7 v8 (fun v9 => K (Ex.ret) (St.mk (Q3 125 0 [2, 3] [AV.esl, Ab v9]) [])) (fun v9 va vb => K (Ex.ret) (St.mk (Q3 125 0 [2, 3] [AV.sl 0 0 v9 1, Ab va]) [HB.live (Blk.ints .i64 vb)]))
 | _, _ => none
def QiR (K : Ex → St → Option R) (vs : List AV) (hh : H) : Option R := match vs, hh with
 | [Ap 0 0, Ai v0, Fu v1, AV.fsl (Blk.ints .i64 v2)], [HA [Ai v3, Ai v4, Ai v5, Ai v6, Ai v7, Fu v8, Ai v9, Fu va]] => Ys v0 v1 v2 v3 v4 v5 v6 v7 v8 v9 va (fun vb => K (Ex.ret) (St.mk (Q3 125 0 [2, 3] [AV.esl, Ab vb]) [])) (fun vb vc vd => K (Ex.ret) (St.mk (Q3 125 0 [2, 3] [AV.sl 0 0 vb 1, Ab vc]) [HB.live (Blk.ints .i64 vd)]))
 | _, _ => none
def Qg0 (K : Ex → St → Option R) (vs : List AV) (hh : H) : Option R := match vs, hh with
 | [Ap 0 0, Ai v0, Fu v1, AV.fsl (Blk.ints .i64 v2), AV.sl 1 0 v3 1, Ai v4], [HA [Ai v5, Ai v6, Ai v7, Ai v8, Ai v9, Fu va, Ai vb, Fu vc], HB.live (Blk.ints .i64 vd)] => Q3y v0 v1 v2 v3 v4 v5 v6 v7 v8 v9 va vb vc vd (fun ve => K (Ex.ret) (St.mk (Q3 125 0 [2, 3] [AV.esl, Ab ve]) [])) (fun ve vf => K (Ex.exit 0) (St.mk (Q3 125 0 [7] [AV.sl 0 0 ve 1]) [HB.live (Blk.ints .i64 vf)]))
 | _, _ => none
def Qg1 (K : Ex → St → Option R) (vs : List AV) (hh : H) : Option R := match vs, hh with
 | [Ap 0 0, Ai v0, Fu v1, AV.fsl (Blk.ints .i64 v2), AV.sl 1 0 v3 1, Ai v4, Ai v5, Ab v6], [HA [Ai v7, Ai v8, Ai v9, Ai va, Ai vb, Fu vc, Ai vd, Fu ve], HB.live (Blk.ints .i64 vf)] => Q08 v0 v1 v2 v3 v4 v5 v6 v7 v8 v9 va vb vc vd ve vf (fun vg vh vi vj vk vl vm vn vo vp vq vr vs vt vu => K (Ex.normal) (St.mk (Q3 125 0 [1, 4, 5, 6, 7, 8, 9] [Ap 0 0, Ai vg, Fu vh, AV.fsl (Blk.ints .i64 vi), AV.sl 1 0 vj 1, Ai vk, Ai vl]) [HA [Ai vm, Ai vn, Ai vo, Ai vp, Ai vq, Fu vr, Ai vs, Fu vt], HB.live (Blk.ints .i64 vu)]))
 | _, _ => none
def Qg2 (K : Ex → St → Option R) (vs : List AV) (hh : H) : Option R := match vs, hh with
 | [Ap 0 0, Ai v0, Fu v1, AV.fsl (Blk.ints .i64 v2), AV.sl 1 0 v3 1, Ai v4, Ai v5], [HA [Ai v6, Ai v7, Ai v8, Ai v9, Ai va, Fu vb, Ai vc, Fu vd], HB.live (Blk.ints .i64 ve)] => Yh v0 v1 v2 v3 v4 v5 v6 v7 v8 v9 va vb vc vd ve (fun vf => K (Ex.ret) (St.mk (Q3 125 0 [2, 3] [AV.esl, Ab vf]) [])) (fun vf vg vh vi vj vk vl vm vn vo vp vq vr vs => K (Ex.normal) (St.mk (Q3 125 0 [1, 4, 5, 6, 7, 8] [Ap 0 0, Ai vf, Fu vg, AV.fsl (Blk.ints .i64 vh), AV.sl 1 0 vi 1, Ai vj]) [HA [Ai vk, Ai vl, Ai vm, Ai vn, Ai vo, Fu vp, Ai vq, Fu vr], HB.live (Blk.ints .i64 vs)]))
 | _, _ => none
def Qg3 (K : Ex → St → Option R) (vs : List AV) (hh : H) : Option R := match vs, hh with
 | [Ap 0 0, Ai v0, Fu v1, AV.fsl (Blk.ints .i64 v2), AV.sl 1 0 v3 1, Ai v4, Ai v5], [HA [Ai v6, Ai v7, Ai v8, Ai v9, Ai va, Fu vb, Ai vc, Fu vd], HB.live (Blk.ints .i64 ve)] => U9 v0 v1 v2 v3 v4 v5 v6 v7 v8 v9 va vb vc vd ve (fun vf vg vh vi vj vk vl vm vn vo vp vq vr vs => K (Ex.normal) (St.mk (Q3 125 0 [1, 4, 5, 6, 7, 8] [Ap 0 0, Ai vf, Fu vg, AV.fsl (Blk.ints .i64 vh), AV.sl 1 0 vi 1, Ai vj]) [HA [Ai vk, Ai vl, Ai vm, Ai vn, Ai vo, Fu vp, Ai vq, Fu vr], HB.live (Blk.ints .i64 vs)]))
 | _, _ => none
def Qt0:Nat→Option Ql:=lkN [(4000,fun st _ K=>Qf 125 [1] st (QiP K)),(5000,fun st _ K=>Qf 125 [1,4] st (QiQ K)),(9000,fun st _ K=>Qf 125 [1,4,5,6] st (QiR K)),(11400,fun st _ K=>Qf 125 [1,4,5,6,7,8] st (Qg0 K)),(15000,fun st _ K=>Qf 125 [1,4,5,6,7,8,9,91] st (Qg1 K)),(16000,fun st _ K=>Qf 125 [1,4,5,6,7,8,9] st (Qg2 K)),(18000,fun st _ K=>Qf 125 [1,4,5,6,7,8,9] st (Qg3 K))]
def QuX:Qi:=Qo (V 169) QMF QW 10
def QvD:Code:=Qk [1,1] (Q9 Tryz.f169)
def QvE:Code:=Qk [1,1,1] (Q9 Tryz.f169)
def QvF:Code:=Qk [1,1,1,1,1,1] (Q9 Tryz.f169)
def QdD:Code:=Qk [1,1,1,1,1,1,1,0,1,0,0] (Q9 Tryz.f169)
def QyL(N:Nat)(st:St)(K:Ex→St→Option R):Option R:=Qs (QQ ((V 169).keep 169 (Ev.Qc QdD*1000+400)) 0) (Qh (V 169) QuX Qt0 169 0 3989 QdD) N st (QJ (V 169) 169 0 (Ev.Qc QdD*1000+401) K)
def QiS:Code:=Qk [1,1,1,1,1,1,1,0,1,0,0,1,0,0,1,1] (Q9 Tryz.f169)
def Qt1:Code:=Qk [1,1,1,1,1,1,1,0,1,0,0,1,0,0,1,0,1] (Q9 Tryz.f169)
def Qt2:Code:=Qk [1,1,1,1,1,1,1,0,1,0,0,1,0,0,1,1,1] (Q9 Tryz.f169)
theorem Q4P(K:Ex→St→Option R):∀ N:Nat,(fun (v0:Int) (v1 v2:List Int) (v3:Nat) (v4 v5 v6 v7 v8 v9:Int) (va:List Int) (vb:Int) (vc vd:List Int)=>QyL N (St.mk (Q3 125 0 [1,4,5,6,7,8] [Ap 0 0,Ai v0,Fu v1,AV.fsl (Blk.ints .i64 v2),AV.sl 1 0 v3 1,Ai v4]) [HA [Ai v5,Ai v6,Ai v7,Ai v8,Ai v9,Fu va,Ai vb,Fu vc],HB.live (Blk.ints .i64 vd)]) K)=Z6 (fun ve=>K (Ex.ret) (St.mk (Q3 125 0 [2,3] [AV.esl,Ab ve]) [])) (fun ve vf=>K (Ex.exit 0) (St.mk (Q3 125 0 [7] [AV.sl 0 0 ve 1]) [HB.live (Blk.ints .i64 vf)])) N
 | 0=>by funext v0 v1 v2 v3 v4 v5 v6 v7 v8 v9 va vb vc vd; rfl
 | N+1=>by
  funext v0 v1 v2 v3 v4 v5 v6 v7 v8 v9 va vb vc vd
  simp only[Z6]
  rw[←Q4P K N]
  kernel_rfl
theorem Qg4(K:Ex→St→Option R)(v0:Int)(v1 v2:List Int)(v3:Nat)(v4 v5 v6 v7 v8 v9 va:Int)(vb:List Int)(vc:Int)(vd ve:List Int):Qh (V 169) QuX Qt0 169 0 3984 QiS (St.mk (Q3 125 0 [1,4,5,6,7,8,9] [Ap 0 0,Ai v0,Fu v1,AV.fsl (Blk.ints .i64 v2),AV.sl 1 0 v3 1,Ai v4,Ai v5]) [HA [Ai v6,Ai v7,Ai v8,Ai v9,Ai va,Fu vb,Ai vc,Fu vd],HB.live (Blk.ints .i64 ve)]) (QJ (V 169) 169 0 (Ev.Qc QiS*1000+1) K)=UG v0 v1 v2 v3 v4 v5 v6 v7 v8 v9 va vb vc vd ve (fun vf=>K (Ex.ret) (St.mk (Q3 125 0 [2,3] [AV.esl,Ab vf]) [])) (fun vf vg vh vi vj vk vl vm vn vo vp vq vr vs=>K (Ex.normal) (St.mk (Q3 125 0 [1,4,5,6,7,8] [Ap 0 0,Ai vf,Fu vg,AV.fsl (Blk.ints .i64 vh),AV.sl 1 0 vi 1,Ai vj]) [HA [Ai vk,Ai vl,Ai vm,Ai vn,Ai vo,Fu vp,Ai vq,Fu vr],HB.live (Blk.ints .i64 vs)])):=by kernel_rfl
theorem QEN:Q4 (V 169) QuX Qt0 169 0 (3998,0,QvD):=.s (size:=125) (ss:=[1]) (F:=@QiP) (by kernel_rfl) fun R r K vs hh h=>by
 unfold QiP at h; split at h
 ·rw[Q6U]at h; exact Eq.trans (by kernel_rfl) h
 ·cases h
theorem QEO:Q4 (V 169) QuX Qt0 169 0 (3997,0,QvE):=.s (size:=125) (ss:=[1,4]) (F:=@QiQ) (by kernel_rfl) fun R r K vs hh h=>by
 unfold QiQ at h; split at h
 ·rw[Q6T]at h; exact Eq.trans (by kernel_rfl) h
 ·cases h
theorem QEP:Q4 (V 169) QuX Qt0 169 0 (3994,0,QvF):=.s (size:=125) (ss:=[1,4,5,6]) (F:=@QiR) (by kernel_rfl) fun R r K vs hh h=>by
 unfold QiR at h; split at h
 ·rw[Q6S]at h; exact Eq.trans (by kernel_rfl) h
 ·cases h
theorem QBp:Q4 (V 169) QuX Qt0 169 0 (3989,1,QdD):=.l (size:=125) (ss:=[1,4,5,6,7,8]) (F:=@Qg0) (by kernel_rfl) (by kernel_rfl) fun R r K vs hh h=>by
 unfold Qg0 at h; split at h
 ·rw[Q64]at h; unfold UH at h; rw[←Q4P K NR]at h; exact h
 ·cases h
theorem QBq:Q4 (V 169) QuX Qt0 169 0 (3984,0,QiS):=.s (size:=125) (ss:=[1,4,5,6,7,8,9]) (F:=@Qg2) (by kernel_rfl) fun R r K vs hh h=>by
 unfold Qg2 at h; split at h
 ·rw[Q63]at h; exact (Qg4 K _ _ _ _ _ _ _ _ _ _ _ _ _ _ _).trans h
 ·cases h
theorem QBr:Q4 (V 169) QuX Qt0 169 0 (3983,0,Qt1):=.s (size:=125) (ss:=[1,4,5,6,7,8,9,91]) (F:=@Qg1) (by kernel_rfl) fun R r K vs hh h=>by
 unfold Qg1 at h; split at h
 ·rw[Q0g]at h; exact Eq.trans (by kernel_rfl) h
 ·cases h
theorem QBs:Q4 (V 169) QuX Qt0 169 0 (3983,0,Qt2):=.s (size:=125) (ss:=[1,4,5,6,7,8,9]) (F:=@Qg3) (by kernel_rfl) fun R r K vs hh h=>by
 unfold Qg3 at h; split at h
 ·rw[Q6x]at h; exact Eq.trans (by kernel_rfl) h
 ·cases h
theorem QP3:∀ x∈[(3998,0,QvD),(3997,0,QvE),(3994,0,QvF),(3989,1,QdD),(3984,0,QiS),(3983,0,Qt1),(3983,0,Qt2)],Q4 (V 169) QuX Qt0 169 0 x:=List.forall_mem_cons.2 ⟨QEN,List.forall_mem_cons.2 ⟨QEO,List.forall_mem_cons.2 ⟨QEP,List.forall_mem_cons.2 ⟨QBp,List.forall_mem_cons.2 ⟨QBq,List.forall_mem_cons.2 ⟨QBr,List.forall_mem_cons.2 ⟨QBs,fun _ h=>nomatch h⟩⟩⟩⟩⟩⟩⟩
def QLf : Ev.Qj := fun args _ K => match args with
 | ([AV.agg (Blk.any [Ai v0, Ai v1, Ai v2, Ai v3, Ai v4, Fu v5, Ai v6, Fu v7])]) => YE v0 v1 v2 v3 v4 v5 v6 v7 (fun v8 v9 => K (AV.tup [AV.fsl (Blk.ints .i64 v8), Ab v9]))
 | _ => none
def QJl:=Qr 169 QLf QMF
theorem QP4 : Dom B0 V QJl QW 130 := Dom.s (m := 129) (n := 0) QP2 QP2 (O := Qt0) (Qd.fn (fn0 := Tryz.f169) (by kernel_rfl) (by kernel_rfl) QP3) fun args R K r h => by
 unfold QLf at h; split at h
 · rw [Q3z] at h; exact Eq.trans (by kernel_rfl) h
 · cases h
def QiT (K : Ex → St → Option R) (vs : List AV) (hh : H) : Option R := match vs, hh with
 | [Ap 0 0, Ap 1 0, AV.fsl (Blk.ints .i64 v0), Ab v1], [HA [Ai v2, Ai v3, Ai v4, Ai v5, Ai v6, Fu v7, Ai v8, Fu v9], HA [Ai va, AV.esl]] => Ji v0 v1 v2 v3 v4 v5 v6 v7 v8 v9 va (fun vb vc => K (Ex.ret) (St.mk (Q3 57 0 [2, 3] [Ap 0 0, Ab vb]) [HA [Ai vc, AV.esl]])) (fun vb vc vd ve vf vg vh vi vj vk => K (Ex.normal) (St.mk (Q3 57 0 [1, 2, 4] [Ap 0 0, Ap 1 0, AV.fsl (Blk.ints .i64 vb)]) [HA [Ai vc, Ai vd, Ai ve, Ai vf, Ai vg, Fu vh, Ai vi, Fu vj], HA [Ai vk, AV.esl]]))
 | _, _ => none
def QiU (K : Ex → St → Option R) (vs : List AV) (hh : H) : Option R := match vs, hh with
 | [Ap 0 0, Ap 1 0, AV.fsl (Blk.ints .i64 v0)], [HA [Ai v1, Ai v2, Ai v3, Ai v4, Ai v5, Fu v6, Ai v7, Fu v8], HA [Ai v9, AV.esl]] => Jj v0 v1 v2 v3 v4 v5 v6 v7 v8 v9 (fun va vb vc => K (Ex.ret) (St.mk (Q3 57 0 [2, 3] [Ap 0 0, Ab va]) [HA [Ai vb, Fu vc]]))
 | _, _ => none
def Qg5 (K : Ex → St → Option R) (vs : List AV) (hh : H) : Option R := match vs, hh with
 | [Ap 0 0, AV.fsl (Blk.ints .i64 v0), AV.sl 1 0 v1 1, Ai v2], [HA [Ai v3, AV.esl], HO v4] => Q1k v0 v1 v2 v3 v4 (fun v5 v6 v7 => K (Ex.exit 0) (St.mk (Q3 57 0 [2, 8] [Ap 0 0, AV.sl 1 0 v5 1]) [HA [Ai v6, AV.esl], HO v7]))
 | _, _ => none
def QBt:Nat→Option Ql:=lkN [(7000,fun st _ K=>Qf 57 [1,2,4,34] st (QiT K)),(8000,fun st _ K=>Qf 57 [1,2,4] st (QiU K)),(10400,fun st _ K=>Qf 57 [2,4,8,9] st (Qg5 K))]
def QGR:Qi:=Qo (V 134) QJl QW 10
def QvG:Code:=Qk [1,1,1,1,1] (Q9 Tryz.f134)
def QvH:Code:=Qk [1,1,1,1,0,1] (Q9 Tryz.f134)
def QdE:Code:=Qk [1,1,1,1,1,1,0,1,0,0] (Q9 Tryz.f134)
def QyM(N:Nat)(st:St)(K:Ex→St→Option R):Option R:=Qs (QQ ((V 134).keep 134 (Ev.Qc QdE*1000+400)) 0) (Qh (V 134) QGR QBt 134 0 3990 QdE) N st (QJ (V 134) 134 0 (Ev.Qc QdE*1000+401) K)
theorem Q32(K:Ex→St→Option R):∀ N:Nat,(fun (v0:List Int) (v1:Nat) (v2 v3:Int) (v4:List Bool)=>QyM N (St.mk (Q3 57 0 [2,4,8,9] [Ap 0 0,AV.fsl (Blk.ints .i64 v0),AV.sl 1 0 v1 1,Ai v2]) [HA [Ai v3,AV.esl],HO v4]) K)=Zh (fun v5 v6 v7=>K (Ex.exit 0) (St.mk (Q3 57 0 [2,8] [Ap 0 0,AV.sl 1 0 v5 1]) [HA [Ai v6,AV.esl],HO v7])) N
 | 0=>by funext v0 v1 v2 v3 v4; rfl
 | N+1=>by
  funext v0 v1 v2 v3 v4
  simp only[Zh]
  rw[←Q32 K N]
  kernel_rfl
theorem QEQ:Q4 (V 134) QGR QBt 134 0 (3995,0,QvG):=.s (size:=57) (ss:=[1,2,4]) (F:=@QiU) (by kernel_rfl) fun R r K vs hh h=>by
 unfold QiU at h; split at h
 ·rw[Q4X]at h; exact Eq.trans (by kernel_rfl) h
 ·cases h
theorem QER:Q4 (V 134) QGR QBt 134 0 (3994,0,QvH):=.s (size:=57) (ss:=[1,2,4,34]) (F:=@QiT) (by kernel_rfl) fun R r K vs hh h=>by
 unfold QiT at h; split at h
 ·rw[JE]at h; exact Eq.trans (by kernel_rfl) h
 ·cases h
theorem QBu:Q4 (V 134) QGR QBt 134 0 (3990,1,QdE):=.l (size:=57) (ss:=[2,4,8,9]) (F:=@Qg5) (by kernel_rfl) (by kernel_rfl) fun R r K vs hh h=>by
 unfold Qg5 at h; split at h
 ·rw[Q4i]at h; unfold YT at h; rw[←Q32 K NR]at h; exact h
 ·cases h
theorem QP5:∀ x∈[(3995,0,QvG),(3994,0,QvH),(3990,1,QdE)],Q4 (V 134) QGR QBt 134 0 x:=List.forall_mem_cons.2 ⟨QEQ,List.forall_mem_cons.2 ⟨QER,List.forall_mem_cons.2 ⟨QBu,fun _ h=>nomatch h⟩⟩⟩
theorem QiV(K:AV→Option R)(v0 v1 v2 v3 v4:Int)(v5:List Int)(v6:Int)(v7:List Int):JD (V 134) QJl QW QBt 10 134 ([AV.agg (Blk.any [Ai v0,Ai v1,Ai v2,Ai v3,Ai v4,Fu v5,Ai v6,Fu v7])]) R K=U6 v0 v1 v2 v3 v4 v5 v6 v7 (fun v8 v9 va=>K (AV.tup [AV.agg (Blk.any [Ai v8,Fu v9]),Ab va])):=by kernel_rfl
def QLg : Ev.Qj := fun args _ K => match args with
 | ([AV.agg (Blk.any [Ai v0, Ai v1, Ai v2, Ai v3, Ai v4, Fu v5, Ai v6, Fu v7])]) => Z3 v0 v1 v2 v3 v4 v5 v6 v7 (fun v8 v9 va => K (AV.tup [AV.agg (Blk.any [Ai v8, Fu v9]), Ab va]))
 | _ => none
def QP6:=Qr 134 QLg QJl
theorem QP7 : Dom B0 V QP6 QW 131 := Dom.s (m := 130) (n := 0) QP4 QP4 (O := QBt) (Qd.fn (fn0 := Tryz.f134) (by kernel_rfl) (by kernel_rfl) QP5) fun args R K r h => by
 unfold QLg at h; split at h
 · rw [Q1l] at h; exact (QiV K _ _ _ _ _ _ _ _).trans h
 · cases h
def QP8 : Ev.Qj := fun args _ K => match args with
 | ([AV.agg (Blk.any [Ai v0, Ai v1, Fu v2, AV.fsl (Blk.ints .i64 v3), AV.fsl (Blk.ints .i64 v4), Ai v5, Ai v6, Ai v7, Ai v8, Fu v9, Ai va, Fu vb, AV.fsl (Blk.ints .i64 vc), AV.fsl (Blk.ints .i64 vd), Ai ve, Ai vf, Ai vg, Ai vh, Ai vi, Fu vj, Ai vk, Fu vl])]) => QC v0 v1 v2 v3 v4 v5 v6 v7 v8 v9 va vb vc vd ve vf vg vh vi vj vk vl (fun vm vn vo => K (AV.tup [AV.agg (Blk.any [Ai vm, Fu vn]), Ab vo]))
 | _ => none
def S75:=Qr 75 QP8 QP6
theorem QP9 : Dom B0 V S75 QW 132 := Dom.s (m := 131) (n := 0) QP7 QP7 (O := (fun _ => none)) (fun _ _ _ _ => Qd.none _ _) fun args R K r h => by
 unfold QP8 at h; split at h
 · rw [ZM] at h; exact Eq.trans (by kernel_rfl) h
 · cases h
def QPa : Ev.Qj := fun args _ K => match args with
 | ([AV.agg (Blk.any [Ai v0, Ai v1, Fu v2, AV.fsl (Blk.ints .i64 v3), AV.fsl (Blk.ints .i64 v4), Ai v5, Ai v6, Ai v7, Ai v8, Fu v9, Ai va, Fu vb, AV.fsl (Blk.ints .i64 vc), AV.fsl (Blk.ints .i64 vd), Ai ve, Ai vf, Ai vg, Ai vh, Ai vi, Fu vj, Ai vk, Fu vl])]) => Ye v0 v1 v2 v3 v4 v5 v6 v7 v8 v9 va vb vc vd ve vf vg vh vi vj vk vl (fun vm => K (Ab vm))
 | _ => none
def S27:=Qr 27 QPa S75
theorem QPb : Dom B0 V S27 QW 133 := Dom.s (m := 132) (n := 0) QP9 QP9 (O := (fun _ => none)) (fun _ _ _ _ => Qd.none _ _) fun args R K r h => by
 unfold QPa at h; split at h
 · rw [UI] at h; exact Eq.trans (by kernel_rfl) h
 · cases h
def QPc : Ev.Qj := fun args _ K => match args with
 | ([AV.agg (Blk.any [Ai v0, Fu v1, AV.fsl (Blk.ints .i64 v2), AV.fsl (Blk.ints .i64 v3)])]) => Q2c v0 v1 v2 v3 (fun v4 => K (Ai v4))
 | _ => none
def S71:=Qr 71 QPc S27
theorem QPd : Dom B0 V S71 QW 134 := Dom.s (m := 133) (n := 0) QPb QPb (O := (fun _ => none)) (fun _ _ _ _ => Qd.none _ _) fun args R K r h => by
 unfold QPc at h; split at h
 · rw [Q90] at h; exact Eq.trans (by kernel_rfl) h
 · cases h
def QLh : Ev.Qj := fun args _ K => match args with
 | ([AV.agg (Blk.any [Ai v0, Ai v1, Ai v2, Ai v3, Fu v4, Ai v5, Fu v6, AV.fsl (Blk.ints .i64 v7), AV.fsl (Blk.ints .i64 v8)])]) => Q18 v0 v1 v2 v3 v4 v5 v6 v7 v8 (fun v9 => K (Ab v9))
 | _ => none
def QPe:=Qr 129 QLh S71
theorem QPf : Dom B0 V QPe QW 135 := Dom.s (m := 134) (n := 0) QPd QPd (O := (fun _ => none)) (fun _ _ _ _ => Qd.none _ _) fun args R K r h => by
 unfold QLh at h; split at h
 · rw [Q88] at h; exact Eq.trans (by kernel_rfl) h
 · cases h
def QPg : Ev.Qj := fun args _ K => match args with
 | ([AV.agg (Blk.any [Ai v0, Ai v1, Ai v2, Ai v3, Fu v4, Ai v5, Fu v6, AV.fsl (Blk.ints .i64 v7), AV.fsl (Blk.ints .i64 v8)])]) => Q2d v0 v1 v2 v3 v4 v5 v6 v7 v8 (fun v9 => K (Ai v9))
 | _ => none
def S72:=Qr 72 QPg QPe
theorem QPh : Dom B0 V S72 QW 136 := Dom.s (m := 135) (n := 0) QPf QPf (O := (fun _ => none)) (fun _ _ _ _ => Qd.none _ _) fun args R K r h => by
 unfold QPg at h; split at h
 · rw [Q91] at h; exact Eq.trans (by kernel_rfl) h
 · cases h
def QLi : Ev.Qj := fun args _ K => match args with
 | ([AV.agg (Blk.any [Ai v0, Ai v1, Ai v2, Ai v3, Ai v4, Fu v5, Ai v6, Fu v7])]) => Q19 v0 v1 v2 v3 v4 v5 v6 v7 (fun v8 => K (Ab v8))
 | _ => none
def QPi:=Qr 130 QLi S72
theorem QPj : Dom B0 V QPi QW 137 := Dom.s (m := 136) (n := 0) QPh QPh (O := (fun _ => none)) (fun _ _ _ _ => Qd.none _ _) fun args R K r h => by
 unfold QLi at h; split at h
 · rw [Q89] at h; exact Eq.trans (by kernel_rfl) h
 · cases h
def QPk : Ev.Qj := fun args _ K => match args with
 | ([AV.agg (Blk.any [Ai v0, Ai v1, Ai v2, Ai v3, Ai v4, Fu v5, Ai v6, Fu v7])]) => Q2e v0 v1 v2 v3 v4 v5 v6 v7 (fun v8 => K (Ai v8))
 | _ => none
def S73:=Qr 73 QPk QPi
theorem QPl : Dom B0 V S73 QW 138 := Dom.s (m := 137) (n := 0) QPj QPj (O := (fun _ => none)) (fun _ _ _ _ => Qd.none _ _) fun args R K r h => by
 unfold QPk at h; split at h
 · rw [Q92] at h; exact Eq.trans (by kernel_rfl) h
 · cases h
def QPm : Ev.Qj := fun args _ K => match args with
 | ([AV.agg (Blk.any [Ai v0, Ai v1, Fu v2, AV.fsl (Blk.ints .i64 v3), AV.fsl (Blk.ints .i64 v4), Ai v5, Ai v6, Ai v7, Ai v8, Fu v9, Ai va, Fu vb, AV.fsl (Blk.ints .i64 vc), AV.fsl (Blk.ints .i64 vd), Ai ve, Ai vf, Ai vg, Ai vh, Ai vi, Fu vj, Ai vk, Fu vl])]) => Yo v0 v1 v2 v3 v4 v5 v6 v7 v8 v9 va vb vc vd ve vf vg vh vi vj vk vl (fun vm => K (Ai vm))
 | _ => none
def S21:=Qr 21 QPm S73
theorem QPn : Dom B0 V S21 QW 139 := Dom.s (m := 138) (n := 0) QPl QPl (O := (fun _ => none)) (fun _ _ _ _ => Qd.none _ _) fun args R K r h => by
 unfold QPm at h; split at h
 · rw [Y4] at h; exact Eq.trans (by kernel_rfl) h
 · cases h
def QoX (K : Ex → St → Option R) (vs : List AV) (hh : H) : Option R := match vs, hh with
 | [Ai v0, Ap 0 0], [HA [Ai v1, Fu v2]] => Ur v0 v1 v2 (fun v3 => K (Ex.ret) (St.mk (Q3 49 0 [4] [Ab v3]) []))
 | _, _ => none
def o4:Nat→Option Ql:=lkN [(4000,fun st _ K=>Qf 49 [0,3] st (QoX K))]
def q4:Qi:=Qo (V 4) S21 QW 10
def QsF:Code:=Qk [1,1] (Q9 Tryz.f4)
theorem Q8V(K:Ex→St→Option R)(v0 v1:Int)(v2:List Int):Qh (V 4) q4 o4 4 0 3998 QsF (St.mk (Q3 49 0 [0,3] [Ai v0,Ap 0 0]) [HA [Ai v1,Fu v2]]) (QJ (V 4) 4 0 (Ev.Qc QsF*1000+1) K)=ZV v0 v1 v2 (fun v3=>K (Ex.ret) (St.mk (Q3 49 0 [4] [Ab v3]) [])):=by kernel_rfl
theorem QJm:Q4 (V 4) q4 o4 4 0 (3998,0,QsF):=.s (size:=49) (ss:=[0,3]) (F:=@QoX) (by kernel_rfl) fun R r K vs hh h=>by
 unfold QoX at h; split at h
 ·rw[Q0a]at h; exact (Q8V K _ _ _).trans h
 ·cases h
theorem pc4:∀ x∈[(3998,0,QsF)],Q4 (V 4) q4 o4 4 0 x:=List.forall_mem_cons.2 ⟨QJm,fun _ h=>nomatch h⟩
def sp4 : Ev.Qj := fun args _ K => match args with
 | ([Ai v0, AV.agg (Blk.any [Ai v1, Fu v2])]) => JF v0 v1 v2 (fun v3 => K (Ab v3))
 | _ => none
def S4:=Qr 4 sp4 S21
theorem QPo : Dom B0 V S4 QW 140 := Dom.s (m := 139) (n := 0) QPn QPn (O := o4) (Qd.fn (fn0 := Tryz.f4) (by kernel_rfl) (by kernel_rfl) pc4) fun args R K r h => by
 unfold sp4 at h; split at h
 · rw [Q1m] at h; exact Eq.trans (by kernel_rfl) h
 · cases h
def QlU (K : Ex → St → Option R) (vs : List AV) (hh : H) : Option R := match vs, hh with
 | [Ap 0 0, Ap 1 0, Ap 2 0], [HA [Ai v0, Fu v1, AV.fsl (Blk.ints .i64 v2), AV.fsl (Blk.ints .i64 v3)], HA [Ai v4, Ai v5, Ai v6, Ai v7, Fu v8, Ai v9, Fu va, AV.fsl (Blk.ints .i64 vb), AV.fsl (Blk.ints .i64 vc)], HA [Ai vd, Ai ve, Ai vf, Ai vg, Ai vh, Fu vi, Ai vj, Fu vk]] => Q2h v0 v1 v2 v3 v4 v5 v6 v7 v8 v9 va vb vc vd ve vf vg vh vi vj vk (fun vl => K (Ex.ret) (St.mk (Q3 102 0 [2] [Ab vl]) []))
 | _, _ => none
def QlV (K : Ex → St → Option R) (vs : List AV) (hh : H) : Option R := match vs, hh with
 | [Ap 0 0, Ap 1 0], [HA [Ai v0, Ai v1, Ai v2, Ai v3, Fu v4, Ai v5, Fu v6, AV.fsl (Blk.ints .i64 v7), AV.fsl (Blk.ints .i64 v8)], HA [Ai v9, Ai va, Ai vb, Ai vc, Ai vd, Fu ve, Ai vf, Fu vg]] => Q2g v0 v1 v2 v3 v4 v5 v6 v7 v8 v9 va vb vc vd ve vf vg (fun vh => K (Ex.ret) (St.mk (Q3 102 0 [2] [Ab vh]) []))
 | _, _ => none
def QlW (K : Ex → St → Option R) (vs : List AV) (hh : H) : Option R := match vs, hh with
 | [Ap 0 0], [HA [Ai v0, Ai v1, Ai v2, Ai v3, Ai v4, Fu v5, Ai v6, Fu v7]] => Q2f v0 v1 v2 v3 v4 v5 v6 v7 (fun v8 => K (Ex.ret) (St.mk (Q3 102 0 [2] [Ab v8]) []))
 | _, _ => none
def o74:Nat→Option Ql:=lkN [(3000,fun st _ K=>Qf 102 [3,4,5] st (QlU K)),(5000,fun st _ K=>Qf 102 [4,5] st (QlV K)),(7000,fun st _ K=>Qf 102 [5] st (QlW K))]
def q74:Qi:=Qo (V 74) S4 QW 10
def QyN:Code:=Qk [1,1] (Q9 Tryz.f74)
def QyO:Code:=Qk [1,1,1] (Q9 Tryz.f74)
def QyP:Code:=Qk [1,1,1,1] (Q9 Tryz.f74)
theorem QGS:Q4 (V 74) q74 o74 74 0 (3998,0,QyN):=.s (size:=102) (ss:=[3,4,5]) (F:=@QlU) (by kernel_rfl) fun R r K vs hh h=>by
 unfold QlU at h; split at h
 ·rw[Q53]at h; exact Eq.trans (by kernel_rfl) h
 ·cases h
theorem QGT:Q4 (V 74) q74 o74 74 0 (3997,0,QyO):=.s (size:=102) (ss:=[4,5]) (F:=@QlV) (by kernel_rfl) fun R r K vs hh h=>by
 unfold QlV at h; split at h
 ·rw[Q52]at h; exact Eq.trans (by kernel_rfl) h
 ·cases h
theorem QGU:Q4 (V 74) q74 o74 74 0 (3996,0,QyP):=.s (size:=102) (ss:=[5]) (F:=@QlW) (by kernel_rfl) fun R r K vs hh h=>by
 unfold QlW at h; split at h
 ·rw[Q51]at h; exact Eq.trans (by kernel_rfl) h
 ·cases h
theorem QR9:∀ x∈[(3998,0,QyN),(3997,0,QyO),(3996,0,QyP)],Q4 (V 74) q74 o74 74 0 x:=List.forall_mem_cons.2 ⟨QGS,List.forall_mem_cons.2 ⟨QGT,List.forall_mem_cons.2 ⟨QGU,fun _ h=>nomatch h⟩⟩⟩
def QPp : Ev.Qj := fun args _ K => match args with
 | ([AV.agg (Blk.any [Ai v0, Ai v1, Fu v2, AV.fsl (Blk.ints .i64 v3), AV.fsl (Blk.ints .i64 v4), Ai v5, Ai v6, Ai v7, Ai v8, Fu v9, Ai va, Fu vb, AV.fsl (Blk.ints .i64 vc), AV.fsl (Blk.ints .i64 vd), Ai ve, Ai vf, Ai vg, Ai vh, Ai vi, Fu vj, Ai vk, Fu vl])]) => Q6z v0 v1 v2 v3 v4 v5 v6 v7 v8 v9 va vb vc vd ve vf vg vh vi vj vk vl (fun vm => K (Ab vm))
 | _ => none
def S74:=Qr 74 QPp S4
theorem QPq : Dom B0 V S74 QW 141 := Dom.s (m := 140) (n := 0) QPo QPo (O := o74) (Qd.fn (fn0 := Tryz.f74) (by kernel_rfl) (by kernel_rfl) QR9) fun args R K r h => by
 unfold QPp at h; split at h
 · rw [Q8a] at h; exact Eq.trans (by kernel_rfl) h
 · cases h
def QPr : Ev.Qj := fun args _ K => match args with
 | ([AV.agg (Blk.any [Ai v0, Ai v1, Fu v2, AV.fsl (Blk.ints .i64 v3), AV.fsl (Blk.ints .i64 v4), Ai v5, Ai v6, Ai v7, Ai v8, Fu v9, Ai va, Fu vb, AV.fsl (Blk.ints .i64 vc), AV.fsl (Blk.ints .i64 vd), Ai ve, Ai vf, Ai vg, Ai vh, Ai vi, Fu vj, Ai vk, Fu vl])]) => Q1a v0 v1 v2 v3 v4 v5 v6 v7 v8 v9 va vb vc vd ve vf vg vh vi vj vk vl (fun vm => K (Ab vm))
 | _ => none
def S22:=Qr 22 QPr S74
theorem QPs : Dom B0 V S22 QW 142 := Dom.s (m := 141) (n := 0) QPq QPq (O := (fun _ => none)) (fun _ _ _ _ => Qd.none _ _) fun args R K r h => by
 unfold QPr at h; split at h
 · rw [Q8b] at h; exact Eq.trans (by kernel_rfl) h
 · cases h
def QlX (K : Ex → St → Option R) (vs : List AV) (hh : H) : Option R := match vs, hh with
 | [Ai v0, Ap 0 0], [HA [Ai v1, Fu v2]] => Q54 v0 v1 v2 (fun v3 v4 => K (Ex.ret) (St.mk (Q3 20 0 [4, 5] [Ab v3, Ai v4]) []))
 | _, _ => none
def o76:Nat→Option Ql:=lkN [(6000,fun st _ K=>Qf 20 [1,2] st (QlX K))]
def q76:Qi:=Qo (V 76) S22 QW 10
def QyQ:Code:=Qk [1,1,1] (Q9 Tryz.f76)
theorem QGV:Q4 (V 76) q76 o76 76 0 (3997,0,QyQ):=.s (size:=20) (ss:=[1,2]) (F:=@QlX) (by kernel_rfl) fun R r K vs hh h=>by
 unfold QlX at h; split at h
 ·rw[Q6V]at h; exact Eq.trans (by kernel_rfl) h
 ·cases h
theorem QRa:∀ x∈[(3997,0,QyQ)],Q4 (V 76) q76 o76 76 0 x:=List.forall_mem_cons.2 ⟨QGV,fun _ h=>nomatch h⟩
def QPt : Ev.Qj := fun args _ K => match args with
 | ([AV.agg (Blk.any [Ai v0, Fu v1]), Ai v2]) => Q4j v0 v1 v2 (fun v3 v4 => K (AV.tup [Ab v3, Ai v4]))
 | _ => none
def S76:=Qr 76 QPt S22
theorem QPu : Dom B0 V S76 QW 143 := Dom.s (m := 142) (n := 0) QPs QPs (O := o76) (Qd.fn (fn0 := Tryz.f76) (by kernel_rfl) (by kernel_rfl) QRa) fun args R K r h => by
 unfold QPt at h; split at h
 · rw [Qaq] at h; exact Eq.trans (by kernel_rfl) h
 · cases h
def QPv : Ev.Qj := fun args _ K => match args with
 | ([AV.agg (Blk.any [Ai v0, Ai v1, Fu v2, AV.fsl (Blk.ints .i64 v3), AV.fsl (Blk.ints .i64 v4), Ai v5, Ai v6, Ai v7, Ai v8, Fu v9, Ai va, Fu vb, AV.fsl (Blk.ints .i64 vc), AV.fsl (Blk.ints .i64 vd), Ai ve, Ai vf, Ai vg, Ai vh, Ai vi, Fu vj, Ai vk, Fu vl]), Ai vm]) => Us v0 v1 v2 v3 v4 v5 v6 v7 v8 v9 va vb vc vd ve vf vg vh vi vj vk vl vm (fun vn vo => K (AV.tup [Ab vn, Ai vo]))
 | _ => none
def S23:=Qr 23 QPv S76
theorem QPw : Dom B0 V S23 QW 144 := Dom.s (m := 143) (n := 0) QPu QPu (O := (fun _ => none)) (fun _ _ _ _ => Qd.none _ _) fun args R K r h => by
 unfold QPv at h; split at h
 · rw [Q0N] at h; exact Eq.trans (by kernel_rfl) h
 · cases h
def QlY (K : Ex → St → Option R) (vs : List AV) (hh : H) : Option R := match vs, hh with
 | [Ab v0, Ai v1, Ap 0 0], [HA [Ai v2, Fu v3]] => Q3E v0 v1 v2 v3 (fun v4 v5 => K (Ex.ret) (St.mk (Q3 35 0 [6, 7] [Ai v4, Ai v5]) []))
 | _, _ => none
def o24:Nat→Option Ql:=lkN [(7000,fun st _ K=>Qf 35 [1,2,8] st (QlY K))]
def q24:Qi:=Qo (V 24) S23 QW 10
def QyR:Code:=Qk [1,1,1,1] (Q9 Tryz.f24)
theorem QGW:Q4 (V 24) q24 o24 24 0 (3996,0,QyR):=.s (size:=35) (ss:=[1,2,8]) (F:=@QlY) (by kernel_rfl) fun R r K vs hh h=>by
 unfold QlY at h; split at h
 ·rw[Q66]at h; exact Eq.trans (by kernel_rfl) h
 ·cases h
theorem QRb:∀ x∈[(3996,0,QyR)],Q4 (V 24) q24 o24 24 0 x:=List.forall_mem_cons.2 ⟨QGW,fun _ h=>nomatch h⟩
def QPx : Ev.Qj := fun args _ K => match args with
 | ([AV.agg (Blk.any [Ai v0, Ai v1, Fu v2, AV.fsl (Blk.ints .i64 v3), AV.fsl (Blk.ints .i64 v4), Ai v5, Ai v6, Ai v7, Ai v8, Fu v9, Ai va, Fu vb, AV.fsl (Blk.ints .i64 vc), AV.fsl (Blk.ints .i64 vd), Ai ve, Ai vf, Ai vg, Ai vh, Ai vi, Fu vj, Ai vk, Fu vl]), Ab vm, Ai vn]) => JG v0 v1 v2 v3 v4 v5 v6 v7 v8 v9 va vb vc vd ve vf vg vh vi vj vk vl vm vn (fun vo vp => K (AV.tup [Ai vo, Ai vp]))
 | _ => none
def S24:=Qr 24 QPx S23
theorem QPy : Dom B0 V S24 QW 145 := Dom.s (m := 144) (n := 0) QPw QPw (O := o24) (Qd.fn (fn0 := Tryz.f24) (by kernel_rfl) (by kernel_rfl) QRb) fun args R K r h => by
 unfold QPx at h; split at h
 · rw [Q2j] at h; exact Eq.trans (by kernel_rfl) h
 · cases h
def QlZ (K : Ex → St → Option R) (vs : List AV) (hh : H) : Option R := match vs, hh with
 | [Ab v0, Ai v1, Ap 0 0, Ai v2, Ai v3], [HA [Ai v4, Fu v5]] => Q1o v0 v1 v2 v3 v4 v5 (fun v6 v7 => K (Ex.ret) (St.mk (Q3 36 0 [6, 7] [Ai v6, Ai v7]) [])) (fun _ => K (Ex.exit 0) (St.mk (Q3 36 0 [] []) []))
 | _, _ => none
def o25:Nat→Option Ql:=lkN [(7400,fun st _ K=>Qf 36 [1,2,8,10,11] st (QlZ K))]
def q25:Qi:=Qo (V 25) S24 QW 10
def Qm0:Code:=Qk [1,1,1,1,0,1,0,0] (Q9 Tryz.f25)
def QES(N:Nat)(st:St)(K:Ex→St→Option R):Option R:=Qs (QQ ((V 25).keep 25 (Ev.Qc Qm0*1000+400)) 0) (Qh (V 25) q25 o25 25 0 3992 Qm0) N st (QJ (V 25) 25 0 (Ev.Qc Qm0*1000+401) K)
theorem Q33(K:Ex→St→Option R):∀ N:Nat,(fun (v0:Bool) (v1 v2 v3 v4:Int) (v5:List Int)=>QES N (St.mk (Q3 36 0 [1,2,8,10,11] [Ab v0,Ai v1,Ap 0 0,Ai v2,Ai v3]) [HA [Ai v4,Fu v5]]) K)=Qv (fun v6 v7=>K (Ex.ret) (St.mk (Q3 36 0 [6,7] [Ai v6,Ai v7]) [])) (fun _=>K (Ex.exit 0) (St.mk (Q3 36 0 [] []) [])) N
 | 0=>by funext v0 v1 v2 v3 v4 v5; rfl
 | N+1=>by
  funext v0 v1 v2 v3 v4 v5
  simp only[Qv]
  rw[←Q33 K N]
  kernel_rfl
theorem QGX:Q4 (V 25) q25 o25 25 0 (3992,1,Qm0):=.l (size:=36) (ss:=[1,2,8,10,11]) (F:=@QlZ) (by kernel_rfl) (by kernel_rfl) fun R r K vs hh h=>by
 unfold QlZ at h; split at h
 ·rw[Q4k]at h; unfold YU at h; rw[←Q33 K NR]at h; exact h
 ·cases h
theorem QRc:∀ x∈[(3992,1,Qm0)],Q4 (V 25) q25 o25 25 0 x:=List.forall_mem_cons.2 ⟨QGX,fun _ h=>nomatch h⟩
def QPz : Ev.Qj := fun args _ K => match args with
 | ([AV.agg (Blk.any [Ai v0, Ai v1, Fu v2, AV.fsl (Blk.ints .i64 v3), AV.fsl (Blk.ints .i64 v4), Ai v5, Ai v6, Ai v7, Ai v8, Fu v9, Ai va, Fu vb, AV.fsl (Blk.ints .i64 vc), AV.fsl (Blk.ints .i64 vd), Ai ve, Ai vf, Ai vg, Ai vh, Ai vi, Fu vj, Ai vk, Fu vl]), Ab vm, Ai vn]) => Ut v0 v1 v2 v3 v4 v5 v6 v7 v8 v9 va vb vc vd ve vf vg vh vi vj vk vl vm vn (fun vo vp => K (AV.tup [Ai vo, Ai vp]))
 | _ => none
def S25:=Qr 25 QPz S24
theorem QPA : Dom B0 V S25 QW 146 := Dom.s (m := 145) (n := 0) QPy QPy (O := o25) (Qd.fn (fn0 := Tryz.f25) (by kernel_rfl) (by kernel_rfl) QRc) fun args R K r h => by
 unfold QPz at h; split at h
 · rw [Q0O] at h; exact Eq.trans (by kernel_rfl) h
 · cases h
def QPB : Ev.Qj := fun args _ K => match args with
 | ([AV.agg (Blk.any [Ai v0, Ai v1, Fu v2, AV.fsl (Blk.ints .i64 v3), AV.fsl (Blk.ints .i64 v4), Ai v5, Ai v6, Ai v7, Ai v8, Fu v9, Ai va, Fu vb, AV.fsl (Blk.ints .i64 vc), AV.fsl (Blk.ints .i64 vd), Ai ve, Ai vf, Ai vg, Ai vh, Ai vi, Fu vj, Ai vk, Fu vl])]) => JH v0 v1 v2 v3 v4 v5 v6 v7 v8 v9 va vb vc vd ve vf vg vh vi vj vk vl (fun vm vn => K (AV.agg (Blk.any [Ai vm, Fu vn])))
 | _ => none
def S30:=Qr 30 QPB S25
theorem QPC : Dom B0 V S30 QW 147 := Dom.s (m := 146) (n := 0) QPA QPA (O := (fun _ => none)) (fun _ _ _ _ => Qd.none _ _) fun args R K r h => by
 unfold QPB at h; split at h
 · rw [Q2k] at h; exact Eq.trans (by kernel_rfl) h
 · cases h
def QoY (K : Ex → St → Option R) (vs : List AV) (hh : H) : Option R := match vs, hh with
 | [Ab v0, Ai v1, Ap 0 0, Ab v2, Ai v3], [HA [Ai v4, Ai v5, Fu v6, AV.fsl (Blk.ints .i64 v7), AV.fsl (Blk.ints .i64 v8), Ai v9, Ai va, Ai vb, Ai vc, Fu vd, Ai ve, Fu vf, AV.fsl (Blk.ints .i64 vg), AV.fsl (Blk.ints .i64 vh), Ai vi, Ai vj, Ai vk, Ai vl, Ai vm, Fu vn, Ai vo, Fu vp]] => J4 v0 v1 v2 v3 v4 v5 v6 v7 v8 v9 va vb vc vd ve vf vg vh vi vj vk vl vm vn vo vp (fun vq => K (Ex.ret) (St.mk (Q3 113 0 [6] [Ab vq]) []))
 | _, _ => none
def Qm1 (K : Ex → St → Option R) (vs : List AV) (hh : H) : Option R := match vs, hh with
 | [Ap 0 0], [HA [Ai v0, Ai v1, Fu v2, AV.fsl (Blk.ints .i64 v3), AV.fsl (Blk.ints .i64 v4), Ai v5, Ai v6, Ai v7, Ai v8, Fu v9, Ai va, Fu vb, AV.fsl (Blk.ints .i64 vc), AV.fsl (Blk.ints .i64 vd), Ai ve, Ai vf, Ai vg, Ai vh, Ai vi, Fu vj, Ai vk, Fu vl]] => Uu v0 v1 v2 v3 v4 v5 v6 v7 v8 v9 va vb vc vd ve vf vg vh vi vj vk vl (fun vm => K (Ex.ret) (St.mk (Q3 113 0 [6] [Ab vm]) []))
 | _, _ => none
def o5:Nat→Option Ql:=lkN [(5000,fun st _ K=>Qf 113 [1,2,3,7,8] st (QoY K)),(12000,fun st _ K=>Qf 113 [3] st (Qm1 K))]
def q5:Qi:=Qo (V 5) S30 QW 10
def QsG:Code:=Qk [1,1,1] (Q9 Tryz.f5)
def QpD:Code:=Qk [1,1,1,1,1,1,1,1,1] (Q9 Tryz.f5)
theorem Q8W(K:Ex→St→Option R)(v0 v1:Int)(v2 v3 v4:List Int)(v5 v6 v7 v8:Int)(v9:List Int)(va:Int)(vb vc vd:List Int)(ve vf vg vh vi:Int)(vj:List Int)(vk:Int)(vl:List Int):Qh (V 5) q5 o5 5 0 3991 QpD (St.mk (Q3 113 0 [3] [Ap 0 0]) [HA [Ai v0,Ai v1,Fu v2,AV.fsl (Blk.ints .i64 v3),AV.fsl (Blk.ints .i64 v4),Ai v5,Ai v6,Ai v7,Ai v8,Fu v9,Ai va,Fu vb,AV.fsl (Blk.ints .i64 vc),AV.fsl (Blk.ints .i64 vd),Ai ve,Ai vf,Ai vg,Ai vh,Ai vi,Fu vj,Ai vk,Fu vl]]) (QJ (V 5) 5 0 (Ev.Qc QpD*1000+1) K)=QZ v0 v1 v2 v3 v4 v5 v6 v7 v8 v9 va vb vc vd ve vf vg vh vi vj vk vl (fun vm=>K (Ex.ret) (St.mk (Q3 113 0 [6] [Ab vm]) [])):=by kernel_rfl
theorem Qao(K:Ex→St→Option R)(v0:Bool)(v1:Int)(v2:Bool)(v3 v4 v5:Int)(v6 v7 v8:List Int)(v9 va vb vc:Int)(vd:List Int)(ve:Int)(vf vg vh:List Int)(vi vj vk vl vm:Int)(vn:List Int)(vo:Int)(vp:List Int):Qh (V 5) q5 o5 5 0 3997 QsG (St.mk (Q3 113 0 [1,2,3,7,8] [Ab v0,Ai v1,Ap 0 0,Ab v2,Ai v3]) [HA [Ai v4,Ai v5,Fu v6,AV.fsl (Blk.ints .i64 v7),AV.fsl (Blk.ints .i64 v8),Ai v9,Ai va,Ai vb,Ai vc,Fu vd,Ai ve,Fu vf,AV.fsl (Blk.ints .i64 vg),AV.fsl (Blk.ints .i64 vh),Ai vi,Ai vj,Ai vk,Ai vl,Ai vm,Fu vn,Ai vo,Fu vp]]) (QJ (V 5) 5 0 (Ev.Qc QsG*1000+1) K)=Z7 v0 v1 v2 v3 v4 v5 v6 v7 v8 v9 va vb vc vd ve vf vg vh vi vj vk vl vm vn vo vp (fun vq=>K (Ex.ret) (St.mk (Q3 113 0 [6] [Ab vq]) [])):=by kernel_rfl
theorem QJn:Q4 (V 5) q5 o5 5 0 (3997,0,QsG):=.s (size:=113) (ss:=[1,2,3,7,8]) (F:=@QoY) (by kernel_rfl) fun R r K vs hh h=>by
 unfold QoY at h; split at h
 ·rw[YF]at h; exact (Qao K _ _ _ _ _ _ _ _ _ _ _ _ _ _ _ _ _ _ _ _ _ _ _ _ _ _).trans h
 ·cases h
theorem QGY:Q4 (V 5) q5 o5 5 0 (3991,0,QpD):=.s (size:=113) (ss:=[3]) (F:=@Qm1) (by kernel_rfl) fun R r K vs hh h=>by
 unfold Qm1 at h; split at h
 ·rw[YC]at h; exact (Q8W K _ _ _ _ _ _ _ _ _ _ _ _ _ _ _ _ _ _ _ _ _ _).trans h
 ·cases h
theorem pc5:∀ x∈[(3997,0,QsG),(3991,0,QpD)],Q4 (V 5) q5 o5 5 0 x:=List.forall_mem_cons.2 ⟨QJn,List.forall_mem_cons.2 ⟨QGY,fun _ h=>nomatch h⟩⟩
def sp5 : Ev.Qj := fun args _ K => match args with
 | ([AV.agg (Blk.any [Ai v0, Ai v1, Fu v2, AV.fsl (Blk.ints .i64 v3), AV.fsl (Blk.ints .i64 v4), Ai v5, Ai v6, Ai v7, Ai v8, Fu v9, Ai va, Fu vb, AV.fsl (Blk.ints .i64 vc), AV.fsl (Blk.ints .i64 vd), Ai ve, Ai vf, Ai vg, Ai vh, Ai vi, Fu vj, Ai vk, Fu vl]), Ab vm, Ai vn]) => Q0c v0 v1 v2 v3 v4 v5 v6 v7 v8 v9 va vb vc vd ve vf vg vh vi vj vk vl vm vn (fun vo => K (Ab vo))
 | _ => none
def S5:=Qr 5 sp5 S30
theorem QPD : Dom B0 V S5 QW 148 := Dom.s (m := 147) (n := 0) QPC QPC (O := o5) (Qd.fn (fn0 := Tryz.f5) (by kernel_rfl) (by kernel_rfl) pc5) fun args R K r h => by
 unfold sp5 at h; split at h
 · rw [Q22] at h; exact Eq.trans (by kernel_rfl) h
 · cases h
theorem ok4:∃ sp,Q3u Tryz.prog (V 4) 4 sp∧∀ args z,sp4 args AV some=some z→sp args AV some=some z:=by
 obtain ⟨sp,h1,h2⟩:=Dom.law (P:=Tryz.prog) (V:=V) (fun f sp h _=>QD5 _ _ f sp h) (fun _=>QnT _ _) (fun _=>QyS _ _) (fun _ _=>rfl) QPD (f:=4) (sp:=sp4) (by kernel_rfl)
 exact ⟨sp,h1,fun args z=>h2 args AV some z⟩
theorem ok5:∃ sp,Q3u Tryz.prog (V 5) 5 sp∧∀ args z,sp5 args AV some=some z→sp args AV some=some z:=by
 obtain ⟨sp,h1,h2⟩:=Dom.law (P:=Tryz.prog) (V:=V) (fun f sp h _=>QD5 _ _ f sp h) (fun _=>QnT _ _) (fun _=>QyS _ _) (fun _ _=>rfl) QPD (f:=5) (sp:=sp5) (by kernel_rfl)
 exact ⟨sp,h1,fun args z=>h2 args AV some z⟩
end
end Go.Proofs.YtofblchonjfdbaaGreatDoor
