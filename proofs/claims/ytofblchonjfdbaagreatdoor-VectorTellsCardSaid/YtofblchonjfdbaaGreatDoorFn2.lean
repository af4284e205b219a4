import Derived.Test.YtofblchonjfdbaaGreatDoorBase
import Derived.Test.YtofblchonjfdbaaGreatDoorEnv
import Derived.Test.YtofblchonjfdbaaGreatDoorEvC
import Derived.KernelRfl
import Derived.Test.YtofblchonjfdbaaGreatDoorFn1
namespace Go.Proofs.YtofblchonjfdbaaGreatDoor
open Go Go.Ev
noncomputable section
variable {R : Type}
set_option maxRecDepth 100000
set_option maxHeartbeats 4000000
def UG (v0 : Int) (v1 v2 : List Int) (v3 : Nat) (v4 v5 v6 v7 v8 v9 va : Int) (vb : List Int) (vc : Int) (vd ve : List Int) (K0 : Bool → Option R) (K1 : Int → List Int → List Int → Nat → Int → Int → Int → Int → Int → Int → List Int → Int → List Int → List Int → Option R) : Option R :=
 sel (decide (v6 ≤ v5))
 (K0 false)
 (sel (decide (0 < v4))
 (sel (decide (0 ≤ QB .i64 v4 1))
 (sel (decide (QB .i64 v4 1 < (↑v3 : Int)))
 (sel (decide (Int.toNat (QB .i64 v4 1) < List.length ve))
 (sel (decide (v5 ≤ List.getD ve (Int.toNat (QB .i64 v4 1)) 0))
 (K0 false)
 (U9 v0 v1 v2 v3 v4 v5 v6 v7 v8 v9 va vb vc vd ve
 K1))
 (none))
 (none))
 (none))
 (U9 v0 v1 v2 v3 v4 v5 v6 v7 v8 v9 va vb vc vd ve
 K1))
def Yh:=Qa (@UG R)
theorem Q63 : @Yh R = @UG R:=Q2 _
def Q87 (rec : Int → List Int → List Int → Nat → Int → Int → Int → Int → Int → Int → List Int → Int → List Int → List Int → Option R) (v0 : Int) (v1 v2 : List Int) (v3 : Nat) (v4 v5 v6 v7 v8 v9 : Int) (va : List Int) (vb : Int) (vc vd : List Int) (K0 : Bool → Option R) (K1 : Nat → List Int → Option R) : Option R :=
 sel (decide (v4 < (↑(List.length v2) : Int)))
 (sel (decide (0 ≤ v4))
 (sel (decide (v4 < (↑(List.length v2) : Int)))
 (sel (decide (0 ≤ QV .u64 v0))
 (sel (decide (0 < v0))
 (Q08 v0 v1 v2 v3 v4 (Qap .i64 (QB .i64 (List.getD v2 (Int.toNat v4) 0) v4) (QV .u64 v0)) (decide (v4 < (↑(List.length v1) : Int))) v5 v6 v7 v8 v9 va vb vc vd
 (fun ve vf vg vh vi vj vk vl vm vn vo vp vq vr vs => Yh ve vf vg vh vi vj vk vl vm vn vo vp vq vr vs
 (fun vt => K0 vt)
 (fun vu vv vw vx vy vz v10 v11 v12 v13 v14 v15 v16 v17 => rec vu vv vw vx (Qe .i64 vy 1) vz v10 v11 v12 v13 v14 v15 v16 v17)))
 (Q08 v0 v1 v2 v3 v4 (Qap .i64 (QB .i64 (List.getD v2 (Int.toNat v4) 0) v4) (QV .u64 v0)) false v5 v6 v7 v8 v9 va vb vc vd
 (fun v18 v19 v1a v1b v1c v1d v1e v1f v1g v1h v1i v1j v1k v1l v1m => Yh v18 v19 v1a v1b v1c v1d v1e v1f v1g v1h v1i v1j v1k v1l v1m
 (fun v1n => K0 v1n)
 (fun v1o v1p v1q v1r v1s v1t v1u v1v v1w v1x v1y v1z v20 v21 => rec v1o v1p v1q v1r (Qe .i64 v1s 1) v1t v1u v1v v1w v1x v1y v1z v20 v21))))
 (none))
 (none))
 (none))
 (K1 v3 vd)
def Z6 (K0 : Bool → Option R) (K1 : Nat → List Int → Option R) : Nat → Int → List Int → List Int → Nat → Int → Int → Int → Int → Int → Int → List Int → Int → List Int → List Int → Option R
 | 0, _, _, _, _, _, _, _, _, _, _, _, _, _, _ => none
 | N + 1, v0, v1, v2, v3, v4, v5, v6, v7, v8, v9, va, vb, vc, vd => Q87 (Z6 K0 K1 N) v0 v1 v2 v3 v4 v5 v6 v7 v8 v9 va vb vc vd K0 K1
def UH (v0 : Int) (v1 v2 : List Int) (v3 : Nat) (v4 v5 v6 v7 v8 v9 : Int) (va : List Int) (vb : Int) (vc vd : List Int) (K0 : Bool → Option R) (K1 : Nat → List Int → Option R) : Option R :=
 Z6 K0 K1 NR v0 v1 v2 v3 v4 v5 v6 v7 v8 v9 va vb vc vd
def Q3y:=Qa (@UH R)
theorem Q64 : @Q3y R = @UH R:=Q2 _
def Q29 (v0 : Int) (v1 v2 : List Int) (v3 v4 v5 v6 v7 : Int) (v8 : List Int) (v9 : Int) (va : List Int) (K0 : Bool → Option R) (K1 : Nat → Bool → List Int → Option R) : Option R :=
 Q3y v0 v1 v2 0 0 v3 v4 v5 v6 v7 v8 v9 va []
 (fun vb => K0 vb)
 (fun vc vd => K1 vc true vd)
def Ys:=Qa (@Q29 R)
theorem Q6S : @Ys R = @Q29 R:=Q2 _
def Q2a (v0 v1 v2 v3 v4 v5 : Int) (v6 : List Int) (v7 : Int) (v8 : List Int) (K0 : Bool → Option R) (K1 : Nat → Bool → List Int → Option R) : Option R :=
 JW v3 v4 v5 v6
 (fun v9 => Uz v7 v8
 (fun va => sel (!decide ((↑(List.length va) : Int) = v2))
 (K0 false)
 (sel (decide (0 < v0))
 (sel (!decide ((↑(List.length v9) : Int) = v2))
 (K0 false)
 (Ys v0 v9 va v1 v2 v3 v4 v5 v6 v7 v8
 (fun vb => K0 vb)
 (fun vc vd ve => K1 vc vd ve)))
 (Ys v0 v9 va v1 v2 v3 v4 v5 v6 v7 v8
 (fun vf => K0 vf)
 (fun vg vh vi => K1 vg vh vi)))))
def Q4V:=Qa (@Q2a R)
theorem Q6T : @Q4V R = @Q2a R:=Q2 _
def Q2b (v0 v1 v2 v3 v4 : Int) (v5 : List Int) (v6 : Int) (v7 : List Int) (K0 : Bool → Option R) (K1 : Nat → Bool → List Int → Option R) : Option R :=
 YO v0 v1
 (fun v8 => Q4V v8 v0 v1 v2 v3 v4 v5 v6 v7
 (fun v9 => K0 v9)
 (fun va vb vc => K1 va vb vc))
def Q4W:=Qa (@Q2b R)
theorem Q6U : @Q4W R = @Q2b R:=Q2 _
def Q17 (v0 v1 v2 v3 v4 : Int) (v5 : List Int) (v6 : Int) (v7 : List Int) (K0 : List Int → Bool → Option R) : Option R :=
 sel (decide (v0 < 0))
 (K0 [] false)
 (sel (decide (1048576 < v0))
 (K0 [] false)
 (sel (decide (v1 < 0))
 (K0 [] false)
 (sel (decide (v0 < v1))
 (K0 [] false)
 (Yf v2 v3 v4 v5
 (fun v8 => sel (!v8)
 (K0 [] false)
 (QD v6 v7
 (fun v9 => sel (!v9)
 (K0 [] false)
 (Q4W v0 v1 v2 v3 v4 v5 v6 v7
 (fun va => K0 [] va)
 (fun vb vc vd => sel (decide (vb = List.length vd))
 (K0 vd vc)
 (none))))))))))
def YE:=Qa (@Q17 R)
theorem Q3z : @YE R = @Q17 R:=Q2 _
def Ug (v0 : List Int) (v1 : Bool) (v2 v3 v4 v5 v6 : Int) (v7 : List Int) (v8 : Int) (v9 : List Int) (va : Int) (K0 : Bool → Int → Option R) (K1 : List Int → Int → Int → Int → Int → Int → List Int → Int → List Int → Int → Option R) : Option R :=
 sel v1
 (K0 false 0)
 (K1 v0 v2 v3 v4 v5 v6 v7 v8 v9 va)
def Ji:=Qa (@Ug R)
theorem JE : @Ji R = @Ug R:=Q2 _
def Q65 (rec : List Int → Nat → Int → Int → List Bool → Option R) (v0 : List Int) (v1 : Nat) (v2 v3 : Int) (v4 : List Bool) (K0 : Nat → Int → List Bool → Option R) : Option R :=
 sel (decide (v2 < (↑(List.length v0) : Int)))
 (sel (decide (0 ≤ v2))
 (sel (decide (v2 < (↑(List.length v0) : Int)))
 (sel (decide (0 ≤ List.getD v0 (Int.toNat v2) 0))
 (sel (decide (List.getD v0 (Int.toNat v2) 0 < (↑v1 : Int)))
 (sel (decide (Int.toNat (List.getD v0 (Int.toNat v2) 0) < List.length v4))
 (Y3 (List.set v4 (Int.toNat (List.getD v0 (Int.toNat v2) 0)) true) (fun (v5 : List Bool) =>
 rec v0 v1 (Qe .i64 v2 1) v3 v5))
 (none))
 (none))
 (none))
 (none))
 (none))
 (K0 v1 v3 v4)
def Zh (K0 : Nat → Int → List Bool → Option R) : Nat → List Int → Nat → Int → Int → List Bool → Option R
 | 0, _, _, _, _, _ => none
 | N + 1, v0, v1, v2, v3, v4 => Q65 (Zh K0 N) v0 v1 v2 v3 v4 K0
def YT (v0 : List Int) (v1 : Nat) (v2 v3 : Int) (v4 : List Bool) (K0 : Nat → Int → List Bool → Option R) : Option R :=
 Zh K0 NR v0 v1 v2 v3 v4
def Q1k:=Qa (@YT R)
theorem Q4i : @Q1k R = @YT R:=Q2 _
def Q0J (v0 : List Int) (v1 _v2 _v3 _v4 _v5 : Int) (_v6 : List Int) (_v7 : Int) (_v8 : List Int) (v9 : Int) (K0 : Bool → Int → List Int → Option R) : Option R :=
 sel (decide (0 ≤ v1))
 (sel (decide (v1 ≤ v1))
 (sel (decide (v1 ≤ 281474976710656))
 (sel (decide ((↑1 : Int) * v1 ≤ 281474976710656))
 (Y3 (List.replicate (Int.toNat v1) false) (fun (va : List Bool) =>
 Q1k v0 (Int.toNat v1) 0 v9 va
 (fun vb _ vd => sel (decide (vb = List.length vd))
 (sel (decide (vb = List.length vd))
 (Y2 vd
 (fun ve vf _ => K0 true ve vf))
 (none))
 (none))))
 (none))
 (none))
 (none))
 (none)
def Jj:=Qa (@Q0J R)
theorem Q4X : @Jj R = @Q0J R:=Q2 _
def U6 (v0 v1 v2 v3 v4 : Int) (v5 : List Int) (v6 : Int) (v7 : List Int) (K0 : Int → List Int → Bool → Option R) : Option R :=
 YE v0 v1 v2 v3 v4 v5 v6 v7
 (fun v8 v9 => sel (!v9)
 (K0 0 [] false)
 (Q1M v0 v8
 (fun va vb vc vd ve vf vg vh vi => sel (!decide (vi = 0))
 (Ji v8 true v0 v1 v2 v3 v4 v5 v6 v7 0
 (fun vj vk => K0 vk [] vj)
 (fun vl vm vn vo vp vq vr vs vt vu => Jj vl vm vn vo vp vq vr vs vt vu
 (fun vv vw vx => K0 vw vx vv)))
 (JT v0 v1 v2 v3 v4 v5 v6 v7 va vb vc vd ve vf vg vh
 (fun vy => Ji v8 (!vy) v0 v1 v2 v3 v4 v5 v6 v7 0
 (fun vz v10 => K0 v10 [] vz)
 (fun v11 v12 v13 v14 v15 v16 v17 v18 v19 v1a => Jj v11 v12 v13 v14 v15 v16 v17 v18 v19 v1a
 (fun v1b v1c v1d => K0 v1c v1d v1b)))))))
def Z3:=Qa (@U6 R)
theorem Q1l : @Z3 R = @U6 R:=Q2 _
def ZD (v0 v1 : Int) (v2 v3 v4 : List Int) (v5 v6 v7 v8 : Int) (v9 : List Int) (va : Int) (vb vc vd : List Int) (ve vf vg vh vi : Int) (vj : List Int) (vk : Int) (vl : List Int) (K0 : Int → List Int → Bool → Option R) : Option R :=
 Q2L v0 v1 v2 v3 v4 v5 v6 v7 v8 v9 va vb vc vd ve vf vg vh vi vj vk vl
 (fun vm => sel (!vm)
 (K0 0 [] false)
 (sel (decide (v0 = 1))
 (Jf v1 v2 v3 v4
 (fun vn vo vp => K0 vn vo vp))
 (sel (decide (v0 = 2))
 (Z4 v5 v6 v7 v8 v9 va vb vc vd
 (fun vq vr vs => K0 vq vr vs))
 (sel (decide (v0 = 3))
 (Z3 ve vf vg vh vi vj vk vl
 (fun vt vu vv => K0 vt vu vv))
 (K0 0 [] false)))))
def QC:=Qa (@ZD R)
theorem ZM : @QC R = @ZD R:=Q2 _
def U7 (v0 v1 : Int) (v2 v3 v4 : List Int) (v5 v6 v7 v8 : Int) (v9 : List Int) (va : Int) (vb vc vd : List Int) (ve vf vg vh vi : Int) (vj : List Int) (vk : Int) (vl : List Int) (K0 : Bool → Option R) : Option R :=
 QC v0 v1 v2 v3 v4 v5 v6 v7 v8 v9 va vb vc vd ve vf vg vh vi vj vk vl
 (fun _ _ vo => K0 vo)
def Ye:=Qa (@U7 R)
theorem UI : @Ye R = @U7 R:=Q2 _
def Q4Y (v0 : Int) (v1 v2 v3 : List Int) (K0 : Int → Option R) : Option R :=
 Je v0 v1 v2 v3
 (fun v4 => sel (!v4)
 (K0 0)
 (K0 (Qe .i64 (Qe .i64 v0 (UC .i64 32 (↑(List.length v2) : Int))) (UC .i64 16 (↑(List.length v3) : Int)))))
def Q2c:=Qa (@Q4Y R)
theorem Q90 : @Q2c R = @Q4Y R:=Q2 _
def Q3A (v0 v1 v2 v3 : Int) (v4 : List Int) (v5 : Int) (v6 v7 v8 : List Int) (K0 : Bool → Option R) : Option R :=
 Z4 v0 v1 v2 v3 v4 v5 v6 v7 v8
 (fun _ _ vb => K0 vb)
def Q18:=Qa (@Q3A R)
theorem Q88 : @Q18 R = @Q3A R:=Q2 _
def Q4Z (v0 v1 v2 v3 : Int) (v4 : List Int) (v5 : Int) (v6 v7 v8 : List Int) (K0 : Int → Option R) : Option R :=
 Q18 v0 v1 v2 v3 v4 v5 v6 v7 v8
 (fun v9 => sel (!v9)
 (K0 0)
 (K0 (Qe .i64 (Qe .i64 v3 v5) (UC .i64 64 (↑(List.length v7) : Int)))))
def Q2d:=Qa (@Q4Z R)
theorem Q91 : @Q2d R = @Q4Z R:=Q2 _
def Q3B (v0 v1 v2 v3 v4 : Int) (v5 : List Int) (v6 : Int) (v7 : List Int) (K0 : Bool → Option R) : Option R :=
 Z3 v0 v1 v2 v3 v4 v5 v6 v7
 (fun _ _ va => K0 va)
def Q19:=Qa (@Q3B R)
theorem Q89 : @Q19 R = @Q3B R:=Q2 _
def Q50 (v0 v1 v2 v3 v4 : Int) (v5 : List Int) (v6 : Int) (v7 : List Int) (K0 : Int → Option R) : Option R :=
 Q19 v0 v1 v2 v3 v4 v5 v6 v7
 (fun v8 => sel (!v8)
 (K0 0)
 (K0 (Qe .i64 (Qe .i64 v4 v6) 64)))
def Q2e:=Qa (@Q50 R)
theorem Q92 : @Q2e R = @Q50 R:=Q2 _
def ZZ (v0 v1 : Int) (v2 v3 v4 : List Int) (v5 v6 v7 v8 : Int) (v9 : List Int) (va : Int) (vb vc vd : List Int) (ve vf vg vh vi : Int) (vj : List Int) (vk : Int) (vl : List Int) (K0 : Int → Option R) : Option R :=
 Ye v0 v1 v2 v3 v4 v5 v6 v7 v8 v9 va vb vc vd ve vf vg vh vi vj vk vl
 (fun vm => sel (!vm)
 (K0 0)
 (sel (decide (v0 = 1))
 (Q2c v1 v2 v3 v4
 (fun vn => K0 vn))
 (sel (decide (v0 = 2))
 (Q2d v5 v6 v7 v8 v9 va vb vc vd
 (fun vo => K0 vo))
 (Q2e ve vf vg vh vi vj vk vl
 (fun vp => K0 vp)))))
def Yo:=Qa (@ZZ R)
theorem Y4 : @Yo R = @ZZ R:=Q2 _
def ZV (v0 v1 : Int) (v2 : List Int) (K0 : Bool → Option R) : Option R :=
 Q0s v0 v1 v2
 (fun v3 v4 v5 v6 v7 v8 v9 va vb vc vd ve vf vg vh vi vj vk vl vm vn vo vp => Jc v0 v1 v2
 (fun vq vr vs vt vu vv vw vx vy vz v10 v11 v12 v13 v14 v15 v16 v17 v18 v19 v1a v1b v1c => JU v3 v4 v5 v6 v7 v8 v9 va vb vc vd ve vf vg vh vi vj vk vl vm vn vo vq vr vs vt vu vv vw vx vy vz v10 v11 v12 v13 v14 v15 v16 v17 v18 v19 v1a v1b
 (fun v1d => sel v1d
 (sel (decide (vp = v1c))
 (Q0w v3 v4 v5 v6 v7 v8 v9 va vb vc vd ve vf vg vh vi vj vk vl vm vn vo
 (fun v1e => Yo vq vr vs vt vu vv vw vx vy vz v10 v11 v12 v13 v14 v15 v16 v17 v18 v19 v1a v1b
 (fun v1f => sel (decide (v1e = v1f))
 (Zz
 (fun v1g => K0 v1g))
 (K0 false))))
 (K0 false))
 (K0 false))))
def Ur:=Qa (@ZV R)
theorem Q0a : @Ur R = @ZV R:=Q2 _
def J3 (v0 v1 : Int) (v2 : List Int) (K0 : Bool → Option R) : Option R :=
 sel (decide (3000 < v1))
 (Zz
 (fun v3 => K0 v3))
 (sel (decide (3000 < (↑(List.length v2) : Int)))
 (Zz
 (fun v4 => K0 v4))
 (Ur v0 v1 v2
 (fun v5 => K0 v5)))
def JF:=Qa (@J3 R)
theorem Q1m : @JF R = @J3 R:=Q2 _
def Q0K (v0 v1 v2 _v3 _v4 : Int) (v5 : List Int) (_v6 : Int) (v7 : List Int) (K0 : Bool → Option R) : Option R :=
 sel (decide (v0 ≤ 3000))
 (sel (decide (v1 ≤ 3000))
 (sel (decide (v2 ≤ 3000))
 (sel (decide ((↑(List.length v5) : Int) ≤ 3000))
 (sel (decide ((↑(List.length v7) : Int) ≤ 3000))
 (K0 true)
 (K0 false))
 (K0 false))
 (K0 false))
 (K0 false))
 (K0 false)
def Q2f:=Qa (@Q0K R)
theorem Q51 : @Q2f R = @Q0K R:=Q2 _
def Q0L (v0 v1 _v2 _v3 : Int) (v4 : List Int) (_v5 : Int) (v6 v7 v8 : List Int) (v9 va vb vc vd : Int) (ve : List Int) (vf : Int) (vg : List Int) (K0 : Bool → Option R) : Option R :=
 sel (decide (3000 < v0))
 (K0 false)
 (sel (decide (3000 < v1))
 (K0 false)
 (sel (decide (3000 < (↑(List.length v4) : Int)))
 (K0 false)
 (sel (decide (3000 < (↑(List.length v6) : Int)))
 (K0 false)
 (sel (decide (3000 < (↑(List.length v7) : Int)))
 (K0 false)
 (sel (decide (3000 < (↑(List.length v8) : Int)))
 (K0 false)
 (Q2f v9 va vb vc vd ve vf vg
 (fun vh => K0 vh)))))))
def Q2g:=Qa (@Q0L R)
theorem Q52 : @Q2g R = @Q0L R:=Q2 _
def Q0M (v0 : Int) (v1 v2 v3 : List Int) (v4 v5 v6 v7 : Int) (v8 : List Int) (v9 : Int) (va vb vc : List Int) (vd ve vf vg vh : Int) (vi : List Int) (vj : Int) (vk : List Int) (K0 : Bool → Option R) : Option R :=
 sel (decide (3000 < v0))
 (K0 false)
 (sel (decide (3000 < (↑(List.length v1) : Int)))
 (K0 false)
 (sel (decide (3000 < (↑(List.length v2) : Int)))
 (K0 false)
 (sel (decide (3000 < (↑(List.length v3) : Int)))
 (K0 false)
 (Q2g v4 v5 v6 v7 v8 v9 va vb vc vd ve vf vg vh vi vj vk
 (fun vl => K0 vl)))))
def Q2h:=Qa (@Q0M R)
theorem Q53 : @Q2h R = @Q0M R:=Q2 _
def Q3C (_v0 v1 : Int) (v2 v3 v4 : List Int) (v5 v6 v7 v8 : Int) (v9 : List Int) (va : Int) (vb vc vd : List Int) (ve vf vg vh vi : Int) (vj : List Int) (vk : Int) (vl : List Int) (K0 : Bool → Option R) : Option R :=
 Q2h v1 v2 v3 v4 v5 v6 v7 v8 v9 va vb vc vd ve vf vg vh vi vj vk vl
 (fun vm => K0 vm)
def Q6z:=Qa (@Q3C R)
theorem Q8a : @Q6z R = @Q3C R:=Q2 _
def Q3D (v0 v1 : Int) (v2 v3 v4 : List Int) (v5 v6 v7 v8 : Int) (v9 : List Int) (va : Int) (vb vc vd : List Int) (ve vf vg vh vi : Int) (vj : List Int) (vk : Int) (vl : List Int) (K0 : Bool → Option R) : Option R :=
 Q6z v0 v1 v2 v3 v4 v5 v6 v7 v8 v9 va vb vc vd ve vf vg vh vi vj vk vl
 (fun vm => K0 vm)
def Q1a:=Qa (@Q3D R)
theorem Q8b : @Q1a R = @Q3D R:=Q2 _
def Q2i (v0 v1 : Int) (v2 : List Int) (K0 : Bool → Int → Option R) : Option R :=
 Y5 v1 v2 v0
 (fun v3 => K0 v3 0)
def Q54:=Qa (@Q2i R)
theorem Q6V : @Q54 R = @Q2i R:=Q2 _
def Q6A (v0 : Int) (v1 : List Int) (v2 : Int) (K0 : Bool → Int → Option R) : Option R :=
 QD v0 v1
 (fun v3 => sel (!v3)
 (K0 false 2)
 (sel (decide (v2 < 0))
 (K0 false 3)
 (sel (decide (v0 ≤ v2))
 (K0 false 3)
 (Q54 v2 v0 v1
 (fun v4 v5 => K0 v4 v5)))))
def Q4j:=Qa (@Q6A R)
theorem Qaq : @Q4j R = @Q6A R:=Q2 _
def Jk (v0 v1 : Int) (v2 v3 v4 : List Int) (v5 v6 v7 v8 : Int) (v9 : List Int) (va : Int) (vb vc vd : List Int) (ve vf vg vh vi : Int) (vj : List Int) (vk : Int) (vl : List Int) (vm : Int) (K0 : Bool → Int → Option R) : Option R :=
 QC v0 v1 v2 v3 v4 v5 v6 v7 v8 v9 va vb vc vd ve vf vg vh vi vj vk vl
 (fun vn vo vp => sel (!vp)
 (K0 false 2)
 (Q4j vn vo vm
 (fun vq vr => K0 vq vr)))
def Us:=Qa (@Jk R)
theorem Q0N : @Us R = @Jk R:=Q2 _
def Q1n (v0 : Bool) (v1 v2 : Int) (v3 : List Int) (K0 : Int → Int → Option R) : Option R :=
 Ud v2 v3 v1
 (fun v4 => sel (!v0)
 (K0 (QB .i64 v1 v4) 0)
 (K0 v4 0))
def Q3E:=Qa (@Q1n R)
theorem Q66 : @Q3E R = @Q1n R:=Q2 _
def Q0q (v0 v1 : Int) (v2 v3 v4 : List Int) (v5 v6 v7 v8 : Int) (v9 : List Int) (va : Int) (vb vc vd : List Int) (ve vf vg vh vi : Int) (vj : List Int) (vk : Int) (vl : List Int) (vm : Bool) (vn : Int) (K0 : Int → Int → Option R) : Option R :=
 QC v0 v1 v2 v3 v4 v5 v6 v7 v8 v9 va vb vc vd ve vf vg vh vi vj vk vl
 (fun vo vp vq => sel (!vq)
 (K0 0 2)
 (sel (decide (vn < 0))
 (K0 0 3)
 (sel (decide (vo < vn))
 (K0 0 3)
 (Q3E vm vn vo vp
 (fun vr vs => K0 vr vs)))))
def JG:=Qa (@Q0q R)
theorem Q2j : @JG R = @Q0q R:=Q2 _
def Yb (rec : Bool → Int → Int → Int → Int → List Int → Option R) (v0 : Bool) (v1 v2 v3 v4 : Int) (v5 : List Int) (K0 : Int → Int → Option R) (K1 : Unit → Option R) : Option R :=
 sel (decide (v3 < v4))
 (Y5 v4 v5 v3
 (fun v6 => sel (!v6 == v0)
 (rec v0 v1 v2 (Qe .i64 v3 1) v4 v5)
 (sel (decide (v2 = v1))
 (K0 v3 0)
 (rec v0 v1 (Qe .i64 v2 1) (Qe .i64 v3 1) v4 v5))))
 (K1 ())
def Qv (K0 : Int → Int → Option R) (K1 : Unit → Option R) : Nat → Bool → Int → Int → Int → Int → List Int → Option R
 | 0, _, _, _, _, _, _ => none
 | N + 1, v0, v1, v2, v3, v4, v5 => Yb (Qv K0 K1 N) v0 v1 v2 v3 v4 v5 K0 K1
def YU (v0 : Bool) (v1 v2 v3 v4 : Int) (v5 : List Int) (K0 : Int → Int → Option R) (K1 : Unit → Option R) : Option R :=
 Qv K0 K1 NR v0 v1 v2 v3 v4 v5
def Q1o:=Qa (@YU R)
theorem Q4k : @Q1o R = @YU R:=Q2 _
def Jl (v0 v1 : Int) (v2 v3 v4 : List Int) (v5 v6 v7 v8 : Int) (v9 : List Int) (va : Int) (vb vc vd : List Int) (ve vf vg vh vi : Int) (vj : List Int) (vk : Int) (vl : List Int) (vm : Bool) (vn : Int) (K0 : Int → Int → Option R) : Option R :=
 QC v0 v1 v2 v3 v4 v5 v6 v7 v8 v9 va vb vc vd ve vf vg vh vi vj vk vl
 (fun vo vp vq => sel (!vq)
 (K0 0 2)
 (Q1o vm vn 0 0 vo vp
 (fun vr vs => K0 vr vs)
 (fun _ => K0 0 3)))
def Ut:=Qa (@Jl R)
theorem Q0O : @Ut R = @Jl R:=Q2 _
def Q0r (v0 v1 : Int) (v2 v3 v4 : List Int) (v5 v6 v7 v8 : Int) (v9 : List Int) (va : Int) (vb vc vd : List Int) (ve vf vg vh vi : Int) (vj : List Int) (vk : Int) (vl : List Int) (K0 : Int → List Int → Option R) : Option R :=
 QC v0 v1 v2 v3 v4 v5 v6 v7 v8 v9 va vb vc vd ve vf vg vh vi vj vk vl
 (fun vm vn _ => K0 vm vn)
def JH:=Qa (@Q0r R)
theorem Q2k : @JH R = @Q0r R:=Q2 _
def QZ (v0 v1 : Int) (v2 v3 v4 : List Int) (v5 v6 v7 v8 : Int) (v9 : List Int) (va : Int) (vb vc vd : List Int) (ve vf vg vh vi : Int) (vj : List Int) (vk : Int) (vl : List Int) (K0 : Bool → Option R) : Option R :=
 ZK v0 v1 v2 v3 v4 v5 v6 v7 v8 v9 va vb vc vd ve vf vg vh vi vj vk vl
 (fun vm => Ye v0 v1 v2 v3 v4 v5 v6 v7 v8 v9 va vb vc vd ve vf vg vh vi vj vk vl
 (fun vn => sel (vm == vn)
 (Q0w v0 v1 v2 v3 v4 v5 v6 v7 v8 v9 va vb vc vd ve vf vg vh vi vj vk vl
 (fun vo => Yo v0 v1 v2 v3 v4 v5 v6 v7 v8 v9 va vb vc vd ve vf vg vh vi vj vk vl
 (fun vp => sel (decide (vo = vp))
 (Q5c v0 v1 v2 v3 v4 v5 v6 v7 v8 v9 va vb vc vd ve vf vg vh vi vj vk vl
 (fun vq vr => JH v0 v1 v2 v3 v4 v5 v6 v7 v8 v9 va vb vc vd ve vf vg vh vi vj vk vl
 (fun vs vt => QX vq vr vs vt
 (fun vu => sel vu
 (Zz
 (fun vv => K0 vv))
 (K0 false)))))
 (K0 false))))
 (K0 false)))
def Uu:=Qa (@QZ R)
theorem YC : @Uu R = @QZ R:=Q2 _
def Z7 (v0 : Bool) (v1 : Int) (v2 : Bool) (v3 v4 v5 : Int) (v6 v7 v8 : List Int) (v9 va vb vc : Int) (vd : List Int) (ve : Int) (vf vg vh : List Int) (vi vj vk vl vm : Int) (vn : List Int) (vo : Int) (vp : List Int) (K0 : Bool → Option R) : Option R :=
 Us v4 v5 v6 v7 v8 v9 va vb vc vd ve vf vg vh vi vj vk vl vm vn vo vp v1
 (fun vq vr => Q8h v4 v5 v6 v7 v8 v9 va vb vc vd ve vf vg vh vi vj vk vl vm vn vo vp v0 v1
 (fun vs vt => JG v4 v5 v6 v7 v8 v9 va vb vc vd ve vf vg vh vi vj vk vl vm vn vo vp v0 v1
 (fun vu vv => Jv v4 v5 v6 v7 v8 v9 va vb vc vd ve vf vg vh vi vj vk vl vm vn vo vp v0 v1
 (fun vw vx => Ut v4 v5 v6 v7 v8 v9 va vb vc vd ve vf vg vh vi vj vk vl vm vn vo vp v0 v1
 (fun vy vz => sel (!v2 == vq)
 (K0 false)
 (sel (!decide (v3 = vr))
 (K0 false)
 (sel (!decide (vs = vu))
 (K0 false)
 (sel (!decide (vt = vv))
 (K0 false)
 (sel (!decide (vw = vy))
 (K0 false)
 (sel (!decide (vx = vz))
 (K0 false)
 (Uu v4 v5 v6 v7 v8 v9 va vb vc vd ve vf vg vh vi vj vk vl vm vn vo vp
 (fun v10 => K0 v10))))))))))))
def J4:=Qa (@Z7 R)
theorem YF : @J4 R = @Z7 R:=Q2 _
def Jm (v0 v1 : Int) (v2 v3 v4 : List Int) (v5 v6 v7 v8 : Int) (v9 : List Int) (va : Int) (vb vc vd : List Int) (ve vf vg vh vi : Int) (vj : List Int) (vk : Int) (vl : List Int) (vm : Bool) (vn : Int) (K0 : Bool → Option R) : Option R :=
 Q1a v0 v1 v2 v3 v4 v5 v6 v7 v8 v9 va vb vc vd ve vf vg vh vi vj vk vl
 (fun vo => sel (!vo)
 (Zz
 (fun vp => K0 vp))
 (Q3s v0 v1 v2 v3 v4 v5 v6 v7 v8 v9 va vb vc vd ve vf vg vh vi vj vk vl vn
 (fun vq vr => J4 vm vn vq vr v0 v1 v2 v3 v4 v5 v6 v7 v8 v9 va vb vc vd ve vf vg vh vi vj vk vl
 (fun vs => K0 vs))))
def Q0c:=Qa (@Jm R)
theorem Q22 : @Q0c R = @Jm R:=Q2 _
def kpt:List (Nat×List (Nat×List Nat)):=[(4,[(4002,[4]),(4001,[4]),(4000,[0,3])]),(5,[(12002,[6]),(12001,[6]),(12000,[3]),(5002,[6]),(5001,[6]),(5000,[1,2,3,7,8])]),(12,[(4002,[2]),(4001,[2]),(4000,[1])]),(13,[(999999999,[]),(999999998,[]),(9000,[1,2,3,4,5,6,7,8,9,10,12,14,999999]),(8000,[1,2,3,4,5,6,7,8,9,10,12,999999]),(7000,[1,2,3,4,5,6,7,8,9,10,999999]),(6000,[1,2,3,4,5,6,7,8,999999]),(5000,[1,2,3,4,5,6,999999]),(4002,[0]),(4001,[0]),(4000,[1,2,3,4,999999]),(3000,[1,2,999999]),(2000,[999999])]),(14,[(999999998,[]),(10002,[4,5]),(10001,[4,5]),(10000,[4,6,7,4000006003,2000006004,2000006005,4000006010,4000006012,2000006013,2000006014,4000006020,4000006022])]),(15,[(999999998,[])]),(16,[(999999998,[])]),(17,[(999999998,[])]),(18,[(999999998,[]),(10002,[4,5]),(10001,[4,5]),(10000,[4,6,7,4000006003,2000006004,2000006005,4000006010,4000006012,2000006013,2000006014,4000006020,4000006022])]),(19,[(999999998,[])]),(20,[(999999998,[])]),(21,[(999999998,[])]),(22,[(2000,[1,999999])]),(23,[(999999998,[])]),(24,[(999999998,[]),(7002,[6,7]),(7001,[6,7]),(7000,[1,2,8])]),(25,[(999999998,[]),(7403,[]),(7402,[6,7]),(7401,[]),(7400,[1,2,8,10,11])]),(26,[(999999998,[])]),(27,[(999999998,[])]),(28,[(5403,[]),(5402,[4]),(5401,[]),(5400,[2,3,5]),(4002,[4]),(4001,[4]),(4000,[2,3])]),(29,[(999999998,[])]),(30,[(999999998,[])]),(49,[(6003,[3]),(6002,[2]),(6001,[0,3,4]),(6000,[0,3,4]),(4403,[3]),(4402,[2]),(4401,[]),(4400,[0,3,4])]),(50,[(999999998,[]),(11003,[2,4]),(11004,[1,2,4,5,16,17]),(11002,[2,3]),(11001,[1,2,4,5,16,17]),(11000,[1,2,4,5,6,16,17]),(10003,[2,4]),(10004,[1,2,4,5,16,17]),(10002,[2,3]),(10001,[1,2,4,5,6,16,17]),(10000,[1,2,4,5,6,16,17,29]),(7403,[2,4]),(7402,[2,3]),(7401,[]),(7400,[1,2,4,5,16,17,3000004003,3000004004])]),(51,[(999999998,[]),(18003,[2,4,5]),(18004,[1,2,4,5,6,7]),(18002,[2,3]),(18001,[1,2,4,5,6,7]),(18000,[1,2,4,5,6,7,10,4000004007]),(12003,[2,4,5]),(12004,[1,2,4,5,6,7]),(12002,[2,3]),(12001,[1,2,4,5,6,7]),(12000,[1,2,4,5,6,7,3000004008,3000004009]),(10003,[2,4,5]),(10002,[2,3]),(10001,[1,2,4,5,6,7]),(10000,[1,2,4,5,6,7]),(8403,[2,4,5]),(8402,[2,3]),(8401,[]),(8400,[1,2,4,5,6,7,4000004007,3000004008,3000004009,5000005000]),(5002,[2,3]),(5001,[2,3]),(5000,[1,2,4])]),(52,[(999999998,[]),(14002,[2,3]),(14001,[2,4]),(14000,[2,4,59])]),(53,[(999999998,[])]),(54,[(999999998,[]),(6002,[4,5]),(6001,[4,5]),(6000,[1,2])]),(55,[(999999998,[]),(6002,[4,5]),(6001,[4,5]),(6000,[1,2])]),(56,[(999999998,[]),(6002,[6,7]),(6001,[6,7]),(6000,[1,2,3])]),(57,[(999999998,[]),(6002,[6,7]),(6001,[6,7]),(6000,[1,2,3])]),(58,[(999999998,[]),(6002,[6,7]),(6001,[6,7]),(6000,[1,2,3])]),(59,[(999999998,[]),(15002,[6,7]),(15001,[6,7]),(15000,[1,2,3,8,11]),(7404,[1,2,3,8]),(7402,[6,7]),(7401,[]),(7400,[1,2,3,8,9]),(6002,[6,7]),(6001,[6,7]),(6000,[1,2,3])]),(60,[(999999998,[]),(7404,[3,4,5,8]),(7402,[6,7]),(7401,[]),(7400,[3,4,5,8]),(6002,[6,7]),(6001,[6,7]),(6000,[3,4,5])]),(61,[(999999998,[]),(12404,[9]),(12402,[6,7]),(12401,[]),(12400,[2,3,9,10]),(11002,[6,7]),(11001,[6,7]),(11000,[2,3]),(8003,[2,3]),(8002,[6,7]),(8001,[2,3]),(8000,[1,2,3,25]),(5002,[6,7]),(5001,[6,7]),(5000,[1,2,3,8])]),(62,[(999999998,[]),(10405,[2,4]),(10402,[2,3]),(10401,[]),(10400,[1,2,4,6,3000004004]),(6403,[1,2,4]),(6402,[2,3]),(6401,[]),(6400,[1,2,4,5,3000004003])]),(63,[(999999998,[]),(13003,[2,4,5,6]),(13004,[1,2,4,5,6,7,8]),(13002,[2,3]),(13001,[1,2,4,5,6,7,8]),(13000,[1,2,4,5,6,7,8,3000004008,3000004009]),(11003,[2,4,5,6]),(11002,[2,3]),(11001,[1,2,4,5,6,7,8]),(11000,[1,2,4,5,6,7,8]),(9403,[2,4,5,6]),(9402,[2,3]),(9401,[]),(9400,[1,2,4,5,6,7,8,3000004008,3000004009,5000005000,9000006000]),(2002,[2,3]),(2001,[2,3]),(2000,[1,2])]),(64,[(999999998,[])]),(65,[(999999998,[])]),(66,[(999999998,[])]),(67,[(999999998,[])]),(68,[(999999998,[])]),(69,[(999999998,[])]),(70,[(999999998,[])]),(71,[(999999998,[])]),(72,[(999999998,[])]),(73,[(999999998,[])]),(74,[(999999998,[]),(7002,[2]),(7001,[2]),(7000,[5]),(5002,[2]),(5001,[2]),(5000,[4,5]),(3002,[2]),(3001,[2]),(3000,[3,4,5])]),(75,[(999999998,[])]),(76,[(6002,[4,5]),(6001,[4,5]),(6000,[1,2])]),(77,[(6003,[5]),(6002,[4]),(6001,[1,2,5,6]),(6000,[1,2,5,6]),(4403,[5]),(4402,[4]),(4401,[]),(4400,[1,2,5,6])]),(79,[(999999998,[]),(6002,[2]),(6001,[2]),(6000,[1,6,7,8]),(5002,[2]),(5001,[2]),(5000,[1,5,6,7]),(4002,[2]),(4001,[2]),(4000,[1,4,5,6])]),(80,[(999999998,[])]),(81,[(999999998,[])]),(82,[(999999998,[])]),(83,[(999999998,[])]),(84,[(999999998,[])]),(85,[(999999998,[])]),(88,[(6403,[2,4]),(6402,[2,3]),(6401,[]),(6400,[2,4,18,19,20])]),(89,[(7403,[1,2,5]),(7402,[4]),(7401,[]),(7400,[1,2,5,20,21,22])]),(93,[(4403,[2,4,5]),(4402,[2,3]),(4401,[]),(4400,[0,2,4,5,6])]),(96,[(999999998,[]),(5403,[]),(5402,[4]),(5401,[]),(5400,[0,1,5])]),(99,[(4002,[2]),(4001,[2]),(4000,[1])]),(101,[(12002,[6,7]),(12001,[6,7]),(12000,[2,10]),(8002,[6,7]),(8001,[6,7]),(8000,[1,2,3]),(5003,[1,2,3]),(5002,[6,7]),(5001,[1,2,3]),(5000,[1,2,3,23]),(3003,[1,2,3]),(3002,[6,7]),(3001,[1,2,3]),(3000,[1,2,3,11])]),(102,[(999999998,[])]),(103,[(999999998,[])]),(104,[(4002,[6,7]),(4001,[6,7]),(4000,[1,2,3,6]),(3002,[6,7]),(3001,[1,2,3,6]),(3000,[1,2,3,6,26])]),(106,[(6403,[0,1,4,6]),(6402,[4,5]),(6401,[]),(6400,[0,1,4,6,34,35,36]),(4002,[4,5]),(4001,[4,5]),(4000,[0,1,4]),(3002,[4,5]),(3001,[0,1,4]),(3000,[0,1,4,28])]),(107,[(999999998,[])]),(108,[(999999998,[])]),(109,[(999999998,[]),(5002,[6]),(5001,[6]),(5000,[3])]),(111,[(6002,[4,5]),(6001,[4,5]),(6000,[1,2])]),(112,[(999999998,[])]),(113,[(999999998,[]),(3403,[5]),(3402,[4]),(3401,[]),(3400,[1,2,5,6])]),(114,[(999999998,[])]),(115,[(999999998,[])]),(116,[(5403,[0]),(5402,[4]),(5401,[]),(5400,[0,13,14]),(4002,[4]),(4001,[4]),(4000,[0,1])]),(117,[(999999998,[]),(5403,[]),(5402,[]),(5401,[]),(5400,[2,3,7,8,9])]),(118,[(999999998,[]),(4002,[9]),(4001,[9]),(4000,[0,1,2,4,5])]),(119,[(999999998,[]),(5403,[1,2,5,7]),(5402,[4]),(5401,[]),(5400,[1,2,5,6,7,22,23,24])]),(120,[(8403,[6,7]),(8402,[4,5]),(8401,[]),(8400,[0,6,7,8,9]),(4002,[4,5]),(4001,[4,5]),(4000,[0,1])]),(121,[(999999998,[]),(6003,[5]),(6002,[4]),(6001,[1,2,5,6]),(6000,[1,2,5,6]),(4403,[5]),(4402,[4]),(4401,[]),(4400,[1,2,5,6])]),(122,[(999999998,[]),(4403,[5]),(4402,[4]),(4401,[]),(4400,[0,1,5,6,9000005000])]),(124,[(999999998,[]),(11403,[0,1,4,6]),(11404,[0,1,4,6,7]),(11405,[0,1,4,6,7]),(11402,[4,5]),(11401,[]),(11400,[0,1,4,6,7,8,9000006000]),(6403,[0,1,4,6]),(6402,[4,5]),(6401,[]),(6400,[0,1,4,6,7,9000006000]),(4002,[4,5]),(4001,[4,5]),(4000,[0,1,4]),(3002,[4,5]),(3001,[0,1,4]),(3000,[0,1,4,28])]),(125,[(999999998,[]),(16002,[4,5]),(16001,[4,5]),(16000,[4,7,11,13]),(15002,[4,5]),(15001,[4,7,11,13]),(15000,[4,7,11,13,80]),(7403,[4,6,7,8,9]),(7402,[4,5]),(7401,[]),(7400,[1,4,6,7,8,9,10,5000009000])]),(126,[(999999998,[]),(4403,[3]),(4402,[2]),(4401,[]),(4400,[1,3,4,3000003000])]),(128,[(999999998,[])]),(129,[(999999998,[])]),(130,[(999999998,[])]),(131,[(999999998,[]),(5002,[2]),(5001,[2]),(5000,[1,3,4,5]),(4002,[2]),(4001,[2]),(4000,[1,3,4]),(3002,[2]),(3001,[2]),(3000,[1,3])]),(132,[(999999998,[])]),(133,[(999999998,[]),(4002,[2,3]),(4001,[2,3]),(4000,[1,2]),(3002,[2,3]),(3001,[1,2]),(3000,[1,2,26])]),(134,[(999999998,[]),(10403,[2,8]),(10402,[2,3]),(10401,[]),(10400,[2,4,8,9]),(8002,[2,3]),(8001,[2,3]),(8000,[1,2,4]),(7002,[2,3]),(7001,[1,2,4]),(7000,[1,2,4,34])]),(135,[(999999998,[]),(3403,[]),(3402,[2]),(3401,[]),(3400,[5,6,7])]),(136,[(5403,[]),(5402,[4]),(5401,[]),(5400,[0,1,12,13])]),(137,[(999999998,[])]),(138,[(999999998,[]),(16002,[2,3]),(16001,[2,9]),(16000,[2,9,133]),(15002,[2,3]),(15001,[2,3]),(15000,[2,9,12,13]),(7002,[2,3]),(7001,[2,3]),(7000,[1,2,4,5,6]),(4002,[2,3]),(4001,[2,3]),(4000,[1,2]),(3002,[2,3]),(3001,[1,2]),(3000,[1,2,45])]),(139,[(4002,[2,3]),(4001,[2,3]),(4000,[0,2]),(3002,[2,3]),(3001,[0,2]),(3000,[0,2,9])]),(141,[(4002,[2,3]),(4001,[2,3]),(4000,[0,2]),(3002,[2,3]),(3001,[0,2]),(3000,[0,2,9])]),(148,[(14003,[6,8]),(14004,[0,6,7,8,9]),(14002,[4,5]),(14001,[0,6,7,8,9]),(14000,[0,6,7,8,9,10]),(9403,[6,8]),(9402,[4,5]),(9401,[]),(9400,[0,6,7,8,9]),(4002,[4,5]),(4001,[4,5]),(4000,[0,1])]),(150,[(6002,[]),(6001,[]),(6000,[2,3,6,7,36]),(5002,[]),(5001,[]),(5000,[2,3,6,7])]),(151,[(6403,[1,5]),(6402,[4]),(6401,[]),(6400,[1,5,23,24]),(4002,[4]),(4001,[4]),(4000,[0,1])]),(153,[(4403,[3]),(4402,[2]),(4401,[]),(4400,[3,6,7,8])]),(154,[(999999998,[]),(4403,[]),(4404,[0,6,7,8]),(4405,[0,6,7,8]),(4402,[]),(4401,[]),(4400,[0,3,4,6,7,8,5000000401]),(2403,[]),(2402,[]),(2401,[]),(2400,[0,6,7,8,5000000401])]),(155,[(999999998,[])]),(156,[(999999998,[])]),(158,[(999999998,[])]),(160,[(6003,[5]),(6002,[4]),(6001,[0,1,5,6]),(6000,[0,1,5,6]),(4403,[5]),(4402,[4]),(4401,[]),(4400,[0,1,5,6])]),(161,[(10403,[1,5]),(10404,[0,1,5,6]),(10405,[0,1,5,6]),(10402,[4]),(10401,[]),(10400,[0,1,5,6,7]),(7403,[1,5]),(7402,[4]),(7401,[]),(7400,[0,1,5,6]),(4002,[4]),(4001,[4]),(4000,[0,1])]),(162,[(3403,[]),(3402,[2]),(3401,[]),(3400,[0,3])]),(164,[(999999998,[])]),(165,[(999999998,[])]),(166,[(999999998,[])]),(168,[(999999998,[]),(17003,[2,3]),(17004,[1,2,3,4,5,6]),(17005,[1,2,3,4,5,6,8]),(17002,[2]),(17001,[1,2,3,4,5,6,8,11,13]),(17000,[1,2,3,4,5,6,8,11,13]),(15403,[2,3]),(15404,[1,2,3,4,5,6]),(15405,[1,2,3,4,5,6,8]),(15402,[2]),(15401,[]),(15400,[1,2,3,4,5,6,8,11,13,9000003000]),(14003,[2,3]),(14004,[1,2,3,4,5,6]),(14002,[2]),(14001,[1,2,3,4,5,6]),(14000,[1,2,3,4,5,6,8,11]),(6403,[2,3]),(6402,[2]),(6401,[]),(6400,[1,2,3,4,5,6,9000003000])]),(169,[(999999998,[]),(18003,[7]),(18004,[1,4,5,6,7,8]),(18002,[2,3]),(18001,[1,4,5,6,7,8]),(18000,[1,4,5,6,7,8,9]),(16003,[7]),(16004,[1,4,5,6,7,8]),(16002,[2,3]),(16001,[1,4,5,6,7,8]),(16000,[1,4,5,6,7,8,9]),(15003,[7]),(15004,[1,4,5,6,7,8]),(15002,[2,3]),(15001,[1,4,5,6,7,8,9]),(15000,[1,4,5,6,7,8,9,91]),(11403,[7]),(11402,[2,3]),(11401,[]),(11400,[1,4,5,6,7,8,3000007000]),(9002,[2,3]),(9001,[2,3]),(9000,[1,4,5,6]),(5002,[2,3]),(5001,[2,3]),(5000,[1,4]),(4002,[2,3]),(4001,[2,3]),(4000,[1])]),(170,[(999999998,[]),(17003,[2,4]),(17004,[1,2,4,5,48,49,50]),(17002,[2,3]),(17001,[1,2,4,5,48,49,50]),(17000,[1,2,4,5,8,11,13,48,49,50]),(16003,[2,4]),(16004,[1,2,4,5,48,49,50]),(16002,[2,3]),(16001,[1,2,4,5,8,11,13,48,49,50]),(16000,[1,2,4,5,8,11,13,48,49,50,92]),(7403,[2,4]),(7402,[2,3]),(7401,[]),(7400,[1,2,4,5,48,49,50,4000004002]),(4002,[2,3]),(4001,[2,3]),(4000,[1,2]),(3002,[2,3]),(3001,[1,2]),(3000,[1,2,44])]),(171,[(999999998,[]),(4002,[4]),(4001,[4]),(4000,[2,3,5,6]),(3002,[4]),(3001,[4]),(3000,[2,3,5])]),(173,[(6403,[3]),(6402,[2]),(6401,[]),(6400,[1,3,12,13])]),(174,[(999999998,[]),(8002,[8]),(8001,[8]),(8000,[1,5]),(6002,[8]),(6001,[8]),(6000,[1,5,6,9]),(5002,[8]),(5001,[8]),(5000,[1,4,5,6,9]),(4002,[8]),(4001,[1,4,5,6,9]),(4000,[1,2,3,4,5,6,9,22])]),(175,[(5403,[]),(5402,[4]),(5401,[]),(5400,[0,1,12,13])]),(177,[(10000,[4,999999]),(9000,[3,4,9,10,999999]),(8000,[3,4,5,9,10,999999]),(7000,[3,4,5,9,10,999999]),(6000,[3,4,9,10,11,999999]),(5403,[4]),(5402,[2]),(5401,[]),(5400,[3,4,9,10]),(5000,[3,4,9,10,999999]),(4000,[0,3,4,999999]),(3000,[0,3,999999]),(2000,[0,999999])]),(178,[(2403,[]),(2402,[]),(2401,[]),(2400,[0,4])]),(179,[(11002,[2]),(11001,[2]),(11000,[0,2]),(8002,[2]),(8001,[2]),(8000,[0,2]),(5002,[2]),(5001,[2]),(5000,[0,2])]),(180,[(13201,[0,1,2,8,9]),(13003,[9]),(13004,[1,2,8,9,10]),(13002,[6,7]),(13001,[1,2,8,9,10]),(13000,[1,2,8,9,10,11]),(7601,[0,1,2,8,9]),(7403,[9]),(7402,[6,7]),(7401,[]),(7400,[1,2,8,9,10]),(6702,[6,7]),(6701,[6,7]),(6700,[0,1,2,8,9])]),(181,[(5003,[]),(5002,[4]),(5001,[]),(5000,[12])]),(183,[(6003,[3]),(6002,[2]),(6001,[1,3,4]),(6000,[1,3,4]),(4403,[3]),(4402,[2]),(4401,[]),(4400,[1,3,4,5000003000])]),(184,[(8403,[8]),(8402,[6,7]),(8401,[]),(8400,[1,2,3,8,9]),(6002,[6,7]),(6001,[6,7]),(6000,[1,2,3]),(4002,[6,7]),(4001,[6,7]),(4000,[1,2,3])]),(185,[(8003,[8]),(8002,[6,7]),(8001,[1,2,8,9]),(8000,[1,2,8,9]),(6403,[8]),(6402,[6,7]),(6401,[]),(6400,[1,2,8,9])]),(187,[(6002,[4,5]),(6001,[4,5]),(6000,[1,2])])]
def lvt:List (Nat×List Nat):=[(104,[149]),(88,[139]),(52,[108]),(138,[108]),(93,[141])]
def V(f:FuncId):Env:=env (QMJ kpt) (QRd (match lkN lvt f with|some l=>l|none=>[]))
theorem D0:Dom B0 V B0 T0 0:=Dom.nil QH0
def QLp : Ev.Qj := fun args _ K => match args with
 | ([Ai v0]) => QaL v0 (fun v1 => K (Ai v1))
 | _ => none
def QPL:=Qr 146 QLp B0
theorem D1 : Dom B0 V QPL T0 1 := Dom.s (m := 0) (n := 0) D0 D0 (O := (fun _ => none)) (fun _ _ _ _ => Qd.none _ _) fun args R K r h => by
 unfold QLp at h; split at h
 · rw [QmR] at h; exact Eq.trans (by kernel_rfl) h
 · cases h
def QLq : Ev.Qj := fun args _ K => match args with
 | ([Ai v0]) => Q0h v0 (fun v1 => K (Au v1))
 | _ => none
def QN3:=Qr 110 QLq QPL
theorem D2 : Dom B0 V QN3 T0 2 := Dom.s (m := 1) (n := 0) D1 D1 (O := (fun _ => none)) (fun _ _ _ _ => Qd.none _ _) fun args R K r h => by
 unfold QLq at h; split at h
 · rw [QoA] at h; exact Eq.trans (by kernel_rfl) h
 · cases h
def Qmr (K : Ex → St → Option R) (vs : List AV) (hh : H) : Option R := match vs, hh with
 | [Ap 0 0], [HA [Ai v0, Fu v1]] => Qbm v0 v1 (fun v2 => K (Ex.ret) (St.mk (Q3 40 0 [2] [Ab v2]) []))
 | _, _ => none
def o99:Nat→Option Ql:=lkN [(4000,fun st _ K=>Qf 40 [1] st (Qmr K))]
def q99:Qi:=Qo (V 99) QN3 T0 10
def QzM:Code:=Qk [1,1] (Q9 Tryz.f99)
theorem QHK:Q4 (V 99) q99 o99 99 0 (3998,0,QzM):=.s (size:=40) (ss:=[1]) (F:=@Qmr) (by kernel_rfl) fun R r K vs hh h=>by
 unfold Qmr at h; split at h
 ·rw[Qfk]at h; exact Eq.trans (by kernel_rfl) h
 ·cases h
theorem QRe:∀ x∈[(3998,0,QzM)],Q4 (V 99) q99 o99 99 0 x:=List.forall_mem_cons.2 ⟨QHK,fun _ h=>nomatch h⟩
def QPM : Ev.Qj := fun args _ K => match args with
 | ([AV.agg (Blk.any [Ai v0, Fu v1])]) => Ub v0 v1 (fun v2 => K (Ab v2))
 | _ => none
def S99:=Qr 99 QPM QN3
theorem D3 : Dom B0 V S99 T0 3 := Dom.s (m := 2) (n := 0) D2 D2 (O := o99) (Qd.fn (fn0 := Tryz.f99) (by kernel_rfl) (by kernel_rfl) QRe) fun args R K r h => by
 unfold QPM at h; split at h
 · rw [QmT] at h; exact Eq.trans (by kernel_rfl) h
 · cases h
theorem Qgc(K:AV→Option R)(v0:Int):JD (V 147) S99 T0 (fun _=>none) 10 147 ([Au v0]) R K=UJ v0 (fun v1=>K (Ai v1)):=by kernel_rfl
def QLr : Ev.Qj := fun args _ K => match args with
 | ([Au v0]) => JZ v0 (fun v1 => K (Ai v1))
 | _ => none
def QPN:=Qr 147 QLr S99
theorem D4 : Dom B0 V QPN T0 4 := Dom.s (m := 3) (n := 0) D3 D3 (O := (fun _ => none)) (fun _ _ _ _ => Qd.none _ _) fun args R K r h => by
 unfold QLr at h; split at h
 · rw [Q67] at h; exact (Qgc K _).trans h
 · cases h
def QLs : Ev.Qj := fun args _ K => match args with
 | ([Au v0]) => Q37 v0 (fun v1 => K (Ai v1))
 | _ => none
def QN4:=Qr 100 QLs QPN
theorem D5 : Dom B0 V QN4 T0 5 := Dom.s (m := 4) (n := 0) D4 D4 (O := (fun _ => none)) (fun _ _ _ _ => Qd.none _ _) fun args R K r h => by
 unfold QLs at h; split at h
 · rw [Qq3] at h; exact Eq.trans (by kernel_rfl) h
 · cases h
def Qms (K : Ex → St → Option R) (vs : List AV) (hh : H) : Option R := match vs, hh with
 | [Ap 0 0, Ap 1 0, Ap 2 0, Ai v0, Ai v1, Ai v2], [HA [Ai v3, Fu v4], HA [Ai v5, AV.esl, AV.esl, AV.esl], HA [Ai v6, Fu v7, AV.sl 3 0 v8 1, AV.sl 4 0 v9 1], HB.live (Blk.ints .i64 va), HB.live (Blk.ints .i64 vb)] => Qef v0 v1 v2 v3 v4 v5 v6 v7 v8 v9 va vb (fun vc vd ve vf vg vh vi => K (Ex.exit 0) (St.mk (Q3 64 0 [2, 4] [Ap 0 0, Ap 1 0]) [HA [Ai vc, AV.esl, AV.esl, AV.esl], HA [Ai vd, Fu ve, AV.sl 2 0 vf 1, AV.sl 3 0 vg 1], HB.live (Blk.ints .i64 vh), HB.live (Blk.ints .i64 vi)]))
 | _, _ => none
def Qjf (K : Ex → St → Option R) (vs : List AV) (hh : H) : Option R := match vs, hh with
 | [Ap 0 0, Ap 1 0, Ap 2 0, Ai v0, Ai v1, Ai v2, Ai v3, Ab v4], [HA [Ai v5, Fu v6], HA [Ai v7, AV.esl, AV.esl, AV.esl], HA [Ai v8, Fu v9, AV.sl 3 0 va 1, AV.sl 4 0 vb 1], HB.live (Blk.ints .i64 vc), HB.live (Blk.ints .i64 vd)] => Q0i v0 v1 v2 v3 v4 v5 v6 v7 v8 v9 va vb vc vd (fun ve vf vg vh vi vj vk vl vm vn vo vp vq => K (Ex.normal) (St.mk (Q3 64 0 [1, 2, 4, 5, 6, 16, 17] [Ap 0 0, Ap 1 0, Ap 2 0, Ai ve, Ai vf, Ai vg, Ai vh]) [HA [Ai vi, Fu vj], HA [Ai vk, AV.esl, AV.esl, AV.esl], HA [Ai vl, Fu vm, AV.sl 3 0 vn 1, AV.sl 4 0 vo 1], HB.live (Blk.ints .i64 vp), HB.live (Blk.ints .i64 vq)]))
 | _, _ => none
def Qjg (K : Ex → St → Option R) (vs : List AV) (hh : H) : Option R := match vs, hh with
 | [Ap 0 0, Ap 1 0, Ap 2 0, Ai v0, Ai v1, Ai v2, Ai v3], [HA [Ai v4, Fu v5], HA [Ai v6, AV.esl, AV.esl, AV.esl], HA [Ai v7, Fu v8, AV.sl 3 0 v9 1, AV.sl 4 0 va 1], HB.live (Blk.ints .i64 vb), HB.live (Blk.ints .i64 vc)] => YQ v0 v1 v2 v3 v4 v5 v6 v7 v8 v9 va vb vc (fun vd ve vf vg vh vi vj vk vl vm vn vo => K (Ex.normal) (St.mk (Q3 64 0 [1, 2, 4, 5, 16, 17] [Ap 0 0, Ap 1 0, Ap 2 0, Ai vd, Ai ve, Ai vf]) [HA [Ai vg, Fu vh], HA [Ai vi, AV.esl, AV.esl, AV.esl], HA [Ai vj, Fu vk, AV.sl 3 0 vl 1, AV.sl 4 0 vm 1], HB.live (Blk.ints .i64 vn), HB.live (Blk.ints .i64 vo)]))
 | _, _ => none
def o50:Nat→Option Ql:=lkN [(7400,fun st _ K=>Qf 64 [1,2,4,5,16,17] st (Qms K)),(10000,fun st _ K=>Qf 64 [1,2,4,5,6,16,17,29] st (Qjf K)),(11000,fun st _ K=>Qf 64 [1,2,4,5,6,16,17] st (Qjg K))]
def q50:Qi:=Qo (V 50) QN4 T0 10
def Qmt:Code:=Qk [1,1,1,1,0,1,0,0] (Q9 Tryz.f50)
def QFo(N:Nat)(st:St)(K:Ex→St→Option R):Option R:=Qs (QQ ((V 50).keep 50 (Ev.Qc Qmt*1000+400)) 0) (Qh (V 50) q50 o50 50 0 3992 Qmt) N st (QJ (V 50) 50 0 (Ev.Qc Qmt*1000+401) K)
def Qwi:Code:=Qk [1,1,1,1,0,1,0,0,1,1,0,0,1,1] (Q9 Tryz.f50)
def Qwj:Code:=Qk [1,1,1,1,0,1,0,0,1,1,0,0,1,0,1] (Q9 Tryz.f50)
theorem Qcz(K:Ex→St→Option R):∀ N:Nat,(fun (v0 v1 v2 v3:Int) (v4:List Int) (v5 v6:Int) (v7:List Int) (v8 v9:Nat) (va vb:List Int)=>QFo N (St.mk (Q3 64 0 [1,2,4,5,16,17] [Ap 0 0,Ap 1 0,Ap 2 0,Ai v0,Ai v1,Ai v2]) [HA [Ai v3,Fu v4],HA [Ai v5,AV.esl,AV.esl,AV.esl],HA [Ai v6,Fu v7,AV.sl 3 0 v8 1,AV.sl 4 0 v9 1],HB.live (Blk.ints .i64 va),HB.live (Blk.ints .i64 vb)]) K)=Z8 (fun vc vd ve vf vg vh vi=>K (Ex.exit 0) (St.mk (Q3 64 0 [2,4] [Ap 0 0,Ap 1 0]) [HA [Ai vc,AV.esl,AV.esl,AV.esl],HA [Ai vd,Fu ve,AV.sl 2 0 vf 1,AV.sl 3 0 vg 1],HB.live (Blk.ints .i64 vh),HB.live (Blk.ints .i64 vi)])) N
 | 0=>by funext v0 v1 v2 v3 v4 v5 v6 v7 v8 v9 va vb; rfl
 | N+1=>by
  funext v0 v1 v2 v3 v4 v5 v6 v7 v8 v9 va vb
  simp only[Z8]
  rw[←Qcz K N]
  kernel_rfl
theorem QHL:Q4 (V 50) q50 o50 50 0 (3992,1,Qmt):=.l (size:=64) (ss:=[1,2,4,5,16,17]) (F:=@Qms) (by kernel_rfl) (by kernel_rfl) fun R r K vs hh h=>by
 unfold Qms at h; split at h
 ·rw[Qeg]at h; unfold Q5N at h; rw[←Qcz K NR]at h; exact h
 ·cases h
theorem QFp:Q4 (V 50) q50 o50 50 0 (3986,0,Qwi):=.s (size:=64) (ss:=[1,2,4,5,6,16,17]) (F:=@Qjg) (by kernel_rfl) fun R r K vs hh h=>by
 unfold Qjg at h; split at h
 ·rw[QcE]at h; exact Eq.trans (by kernel_rfl) h
 ·cases h
theorem QFq:Q4 (V 50) q50 o50 50 0 (3985,0,Qwj):=.s (size:=64) (ss:=[1,2,4,5,6,16,17,29]) (F:=@Qjf) (by kernel_rfl) fun R r K vs hh h=>by
 unfold Qjf at h; split at h
 ·rw[QcD]at h; exact Eq.trans (by kernel_rfl) h
 ·cases h
theorem QRf:∀ x∈[(3992,1,Qmt),(3986,0,Qwi),(3985,0,Qwj)],Q4 (V 50) q50 o50 50 0 x:=List.forall_mem_cons.2 ⟨QHL,List.forall_mem_cons.2 ⟨QFp,List.forall_mem_cons.2 ⟨QFq,fun _ h=>nomatch h⟩⟩⟩
def QPO : Ev.Qj := fun args _ K => match args with
 | ([AV.agg (Blk.any [Ai v0, Fu v1])]) => QbU v0 v1 (fun v2 v3 v4 v5 v6 => K (AV.tup [AV.agg (Blk.any [Ai v2, Fu v3, AV.fsl (Blk.ints .i64 v4), AV.fsl (Blk.ints .i64 v5)]), Ai v6]))
 | _ => none
def S50:=Qr 50 QPO QN4
theorem D6 : Dom B0 V S50 T0 6 := Dom.s (m := 5) (n := 0) D5 D5 (O := o50) (Qd.fn (fn0 := Tryz.f50) (by kernel_rfl) (by kernel_rfl) QRf) fun args R K r h => by
 unfold QPO at h; split at h
 · rw [QkR] at h; exact Eq.trans (by kernel_rfl) h
 · cases h
def Qjh (K : Ex → St → Option R) (vs : List AV) (hh : H) : Option R := match vs, hh with
 | [Au v0, Ai v1], [] => JK v0 v1 (fun v2 => K (Ex.ret) (St.mk (Q3 25 0 [2] [Ai v2]) []))
 | _, _ => none
def Qji (K : Ex → St → Option R) (vs : List AV) (hh : H) : Option R := match vs, hh with
 | [Au v0, Ai v1], [] => JJ v0 v1 (fun v2 => K (Ex.ret) (St.mk (Q3 25 0 [2] [Ai v2]) []))
 | _, _ => none
def Qgd (K : Ex → St → Option R) (vs : List AV) (hh : H) : Option R := match vs, hh with
 | [Au v0, Ai v1], [] => J7 v0 v1 (fun v2 => K (Ex.ret) (St.mk (Q3 25 0 [2] [Ai v2]) []))
 | _, _ => none
def QFr:Nat→Option Ql:=lkN [(5000,fun st _ K=>Qf 25 [0,2] st (Qjh K)),(8000,fun st _ K=>Qf 25 [0,2] st (Qji K)),(11000,fun st _ K=>Qf 25 [0,2] st (Qgd K))]
def QHM:Qi:=Qo (V 179) S50 T0 10
def Qwk:Code:=Qk [1,1] (Q9 Tryz.f179)
def Qwl:Code:=Qk [1,1,1] (Q9 Tryz.f179)
def Qjj:Code:=Qk [1,1,1,1] (Q9 Tryz.f179)
theorem Qjk(K:Ex→St→Option R)(v0 v1:Int):Qh (V 179) QHM QFr 179 0 3996 Qjj (St.mk (Q3 25 0 [0,2] [Au v0,Ai v1]) []) (QJ (V 179) 179 0 (Ev.Qc Qjj*1000+1) K)=Q00 v0 v1 (fun v2=>K (Ex.ret) (St.mk (Q3 25 0 [2] [Ai v2]) [])):=by kernel_rfl
theorem QFs:Q4 (V 179) QHM QFr 179 0 (3998,0,Qwk):=.s (size:=25) (ss:=[0,2]) (F:=@Qjh) (by kernel_rfl) fun R r K vs hh h=>by
 unfold Qjh at h; split at h
 ·rw[Q9e]at h; exact Eq.trans (by kernel_rfl) h
 ·cases h
theorem QFt:Q4 (V 179) QHM QFr 179 0 (3997,0,Qwl):=.s (size:=25) (ss:=[0,2]) (F:=@Qji) (by kernel_rfl) fun R r K vs hh h=>by
 unfold Qji at h; split at h
 ·rw[Q9d]at h; exact Eq.trans (by kernel_rfl) h
 ·cases h
theorem QC9:Q4 (V 179) QHM QFr 179 0 (3996,0,Qjj):=.s (size:=25) (ss:=[0,2]) (F:=@Qgd) (by kernel_rfl) fun R r K vs hh h=>by
 unfold Qgd at h; split at h
 ·rw[Q8c]at h; exact (Qjk K _ _).trans h
 ·cases h
theorem QPP:∀ x∈[(3998,0,Qwk),(3997,0,Qwl),(3996,0,Qjj)],Q4 (V 179) QHM QFr 179 0 x:=List.forall_mem_cons.2 ⟨QFs,List.forall_mem_cons.2 ⟨QFt,List.forall_mem_cons.2 ⟨QC9,fun _ h=>nomatch h⟩⟩⟩
def QLt : Ev.Qj := fun args _ K => match args with
 | ([Au v0]) => Q7B v0 (fun v1 => K (Ai v1))
 | _ => none
def QPQ:=Qr 179 QLt S50
theorem D7 : Dom B0 V QPQ T0 7 := Dom.s (m := 6) (n := 0) D6 D6 (O := QFr) (Qd.fn (fn0 := Tryz.f179) (by kernel_rfl) (by kernel_rfl) QPP) fun args R K r h => by
 unfold QLt at h; split at h
 · rw [QcG] at h; exact Eq.trans (by kernel_rfl) h
 · cases h
def QLu : Ev.Qj := fun args _ K => match args with
 | ([Au v0]) => QbW v0 (fun v1 => K (Ai v1))
 | _ => none
def QN5:=Qr 152 QLu QPQ
theorem D8 : Dom B0 V QN5 T0 8 := Dom.s (m := 7) (n := 0) D7 D7 (O := (fun _ => none)) (fun _ _ _ _ => Qd.none _ _) fun args R K r h => by
 unfold QLu at h; split at h
 · rw [Qq5] at h; exact Eq.trans (by kernel_rfl) h
 · cases h
def Qjl (K : Ex → St → Option R) (vs : List AV) (hh : H) : Option R := match vs, hh with
 | [Ai v0, Fu v1, Ai v2, Ai v3], [] => Qgo v0 v1 v2 v3 (fun v4 => K (Ex.exit 0) (St.mk (Q3 18 0 [3] [Ai v4]) []))
 | _, _ => none
def QJO:Nat→Option Ql:=lkN [(4400,fun st _ K=>Qf 18 [3,6,7,8] st (Qjl K))]
def QN6:Qi:=Qo (V 153) QN5 T0 10
def Qhb:Code:=Qk [1,1,0,1,0,0] (Q9 Tryz.f153)
def QCa(N:Nat)(st:St)(K:Ex→St→Option R):Option R:=Qs (QQ ((V 153).keep 153 (Ev.Qc Qhb*1000+400)) 0) (Qh (V 153) QN6 QJO 153 0 3994 Qhb) N st (QJ (V 153) 153 0 (Ev.Qc Qhb*1000+401) K)
theorem QdS(K:Ex→St→Option R):∀ N:Nat,(fun (v0:Int) (v1:List Int) (v2 v3:Int)=>QCa N (St.mk (Q3 18 0 [3,6,7,8] [Ai v0,Fu v1,Ai v2,Ai v3]) []) K)=Q0k (fun v4=>K (Ex.exit 0) (St.mk (Q3 18 0 [3] [Ai v4]) [])) N
 | 0=>by funext v0 v1 v2 v3; rfl
 | N+1=>by
  funext v0 v1 v2 v3
  simp only[Q0k]
  rw[←QdS K N]
  kernel_rfl
theorem QFu:Q4 (V 153) QN6 QJO 153 0 (3994,1,Qhb):=.l (size:=18) (ss:=[3,6,7,8]) (F:=@Qjl) (by kernel_rfl) (by kernel_rfl) fun R r K vs hh h=>by
 unfold Qjl at h; split at h
 ·rw[Qfr]at h; unfold Q7E at h; rw[←QdS K NR]at h; exact h
 ·cases h
theorem QPR:∀ x∈[(3994,1,Qhb)],Q4 (V 153) QN6 QJO 153 0 x:=List.forall_mem_cons.2 ⟨QFu,fun _ h=>nomatch h⟩
def QLv : Ev.Qj := fun args _ K => match args with
 | ([Fu v0]) => Qka v0 (fun v1 => K (Ai v1))
 | _ => none
def QJP:=Qr 153 QLv QN5
theorem D9 : Dom B0 V QJP T0 9 := Dom.s (m := 8) (n := 0) D8 D8 (O := QJO) (Qd.fn (fn0 := Tryz.f153) (by kernel_rfl) (by kernel_rfl) QPR) fun args R K r h => by
 unfold QLv at h; split at h
 · rw [QmY] at h; exact Eq.trans (by kernel_rfl) h
 · cases h
def QdT (K : Ex → St → Option R) (vs : List AV) (hh : H) : Option R := match vs, hh with
 | [Ai v0, Ap 0 0, Ab v1], [HA [Ai v2, AV.esl]] => Q23 v0 v1 v2 (fun v3 v4 => K (Ex.ret) (St.mk (Q3 16 0 [2, 3] [Ap 0 0, Ai v3]) [HA [Ai v4, AV.esl]])) (fun v3 v4 => K (Ex.normal) (St.mk (Q3 16 0 [0, 2] [Ai v3, Ap 0 0]) [HA [Ai v4, AV.esl]]))
 | _, _ => none
def QdU (K : Ex → St → Option R) (vs : List AV) (hh : H) : Option R := match vs, hh with
 | [Ai v0, Ap 0 0], [HA [Ai v1, AV.esl]] => Q57 v0 v1 (fun v2 v3 v4 v5 => K (Ex.ret) (St.mk (Q3 16 0 [2, 3] [Ap 0 0, Ai v2]) [HA [Ai v3, AV.sl 1 0 v4 1], HU v5]))
 | _, _ => none
def QtU:Nat→Option Ql:=lkN [(3000,fun st _ K=>Qf 16 [0,2,9] st (QdT K)),(4000,fun st _ K=>Qf 16 [0,2] st (QdU K))]
def QCb:Qi:=Qo (V 139) QJP T0 10
def QrP:Code:=Qk [1,1] (Q9 Tryz.f139)
def QrQ:Code:=Qk [1,0,1] (Q9 Tryz.f139)
theorem QzN:Q4 (V 139) QCb QtU 139 0 (3998,0,QrP):=.s (size:=16) (ss:=[0,2]) (F:=@QdU) (by kernel_rfl) fun R r K vs hh h=>by
 unfold QdU at h; split at h
 ·rw[QkX]at h; exact Eq.trans (by kernel_rfl) h
 ·cases h
theorem QzO:Q4 (V 139) QCb QtU 139 0 (3997,0,QrQ):=.s (size:=16) (ss:=[0,2,9]) (F:=@QdT) (by kernel_rfl) fun R r K vs hh h=>by
 unfold QdT at h; split at h
 ·rw[Qcj]at h; exact Eq.trans (by kernel_rfl) h
 ·cases h
theorem QDC:∀ x∈[(3998,0,QrP),(3997,0,QrQ)],Q4 (V 139) QCb QtU 139 0 x:=List.forall_mem_cons.2 ⟨QzN,List.forall_mem_cons.2 ⟨QzO,fun _ h=>nomatch h⟩⟩
def QLw : Ya := fun args h _ K => match args, h with
 | [Ai v0], [] => Qkf v0 (fun v1 v2 => K (AV.tup [AV.agg (Blk.any [Ai v1, AV.esl]), Ai v2]) []) (fun v1 v2 v3 v4 => K (AV.tup [AV.agg (Blk.any [Ai v1, AV.sl 0 0 v2 1]), Ai v3]) ([HU v4]))
 | _, _ => none
def QJQ:=Qp4 139 QLw T0
theorem D10 : Dom B0 V QJP QJQ 10 := Dom.t D9 fun args hh R K r h => by
 unfold QLw at h; split at h
 · rw [Qn4] at h; exact ⟨QtU, (Qd.fn (fn0 := Tryz.f139) (by kernel_rfl) (by kernel_rfl) QDC), Eq.trans (by kernel_rfl) h⟩
 · cases h
def QLx : Ev.Qj := fun args _ K => match args with
 | ([Ai v0]) => Qq6 v0 (fun v1 v2 v3 => K (AV.tup [AV.agg (Blk.any [Ai v1, Fu v2]), Ai v3]))
 | _ => none
def QxL:=Qr 139 QLx QJP
theorem D11 : Dom B0 V QxL QJQ 11 := Dom.s (m := 9) (n := 1) D10 D9 (O := QtU) (Qd.fn (fn0 := Tryz.f139) (by kernel_rfl) (by kernel_rfl) QDC) fun args R K r h => by
 unfold QLx at h; split at h
 · rw [Qq7] at h; exact Eq.trans (by kernel_rfl) h
 · cases h
theorem Qv6(K:AV→H→Option R)(v0:Int)(v1:List Int)(v2:Int):evH (V 149) QxL QJQ (fun _=>none) 10 149 [AV.agg (Blk.any [Ai v0,Fu v1]),Ai v2] [] R K=Qd6 v0 v1 v2 (fun v3 v4 v5=>K (AV.agg (Blk.any [Ai v3,AV.sl 0 0 v4 1])) ([HU v5])):=by kernel_rfl
def QLy : Ya := fun args h _ K => match args, h with
 | [AV.agg (Blk.any [Ai v0, Fu v1]), Ai v2], [] => Qk6 v0 v1 v2 (fun v3 v4 v5 => K (AV.agg (Blk.any [Ai v3, AV.sl 0 0 v4 1])) ([HU v5]))
 | _, _ => none
def QJR:=Qp4 149 QLy QJQ
theorem D12 : Dom B0 V QxL QJR 12 := Dom.t D11 fun args hh R K r h => by
 unfold QLy at h; split at h
 · rw [QmW] at h; exact ⟨(fun _ => none), (fun _ _ _ _ => Qd.none _ _), (Qv6 K _ _ _).trans h⟩
 · cases h
def QdV (K : Ex → St → Option R) (vs : List AV) (hh : H) : Option R := match vs, hh with
 | [Au v0, Ap 1 0, Ai v1, Ai v2], [HU v3, HA [Ai v4, AV.sl 0 0 v5 1]] => Q9l v0 v1 v2 v3 v4 v5 (fun v6 => K (Ex.normal) (St.mk (Q3 49 0 [] []) [HU v6]))
 | _, _ => none
def QdW (K : Ex → St → Option R) (vs : List AV) (hh : H) : Option R := match vs, hh with
 | [Au v0, Ap 1 0, Ai v1, Ai v2, Ab v3], [HU v4, HA [Ai v5, AV.sl 0 0 v6 1]] => Q9k v0 v1 v2 v3 v4 v5 v6 (fun v7 => K (Ex.normal) (St.mk (Q3 49 0 [] []) [HU v7]))
 | _, _ => none
def QtV:Nat→Option Ql:=lkN [(5000,fun st _ K=>Qf 49 [2,3,6,7] st (QdV K)),(6000,fun st _ K=>Qf 49 [2,3,6,7,36] st (QdW K))]
def QCc:Qi:=Qo (V 150) QxL QJR 10
def QrR:Code:=Qk [1,1,1] (Q9 Tryz.f150)
def QrS:Code:=Qk [1,1,1,1] (Q9 Tryz.f150)
theorem QzP:Q4 (V 150) QCc QtV 150 1 (3997,0,QrR):=.s (size:=49) (ss:=[2,3,6,7]) (F:=@QdV) (by kernel_rfl) fun R r K vs hh h=>by
 unfold QdV at h; split at h
 ·rw[Qhs]at h; exact Eq.trans (by kernel_rfl) h
 ·cases h
theorem QzQ:Q4 (V 150) QCc QtV 150 1 (3996,0,QrS):=.s (size:=49) (ss:=[2,3,6,7,36]) (F:=@QdW) (by kernel_rfl) fun R r K vs hh h=>by
 unfold QdW at h; split at h
 ·rw[QaN]at h; exact Eq.trans (by kernel_rfl) h
 ·cases h
theorem QJS:∀ x∈[(3997,0,QrR),(3996,0,QrS)],Q4 (V 150) QCc QtV 150 1 x:=List.forall_mem_cons.2 ⟨QzP,List.forall_mem_cons.2 ⟨QzQ,fun _ h=>nomatch h⟩⟩
theorem QtW(K:AV→H→Option R)(v0:Int)(v1:Nat)(v2 v3:Int)(v4:List Int):evH (V 150) QxL QJR QtV 10 150 [AV.agg (Blk.any [Ai v0,AV.sl 0 0 v1 1]),Ai v2,Au v3] [HU v4] R K=Qbo v0 v1 v2 v3 v4 (fun v5=>K (AV.tup []) ([HU v5])):=by kernel_rfl
def QLz : Ya := fun args h _ K => match args, h with
 | [AV.agg (Blk.any [Ai v0, AV.sl 0 0 v1 1]), Ai v2, Au v3], [HU v4] => Qfq v0 v1 v2 v3 v4 (fun v5 => K (AV.tup []) ([HU v5]))
 | _, _ => none
def Qsm:=Qp4 150 QLz QJR
theorem D13 : Dom B0 V QxL Qsm 13 := Dom.t D12 fun args hh R K r h => by
 unfold QLz at h; split at h
 · rw [QkV] at h; exact ⟨QtV, (Qd.fn (fn0 := Tryz.f150) (by kernel_rfl) (by kernel_rfl) QJS), (QtW K _ _ _ _ _).trans h⟩
 · cases h
def Qjm (K : Ex → St → Option R) (vs : List AV) (hh : H) : Option R := match vs, hh with
 | [Au v0, Ai v1, Ap 0 0, Ap 1 0, Ab v2], [HA [Ai v3, Fu v4], HA [Ai v5, AV.esl]] => JL v0 v1 v2 v3 v4 v5 (fun v6 v7 v8 => K (Ex.ret) (St.mk (Q3 43 0 [6, 7] [Ap 0 0, Ai v6]) [HA [Ai v7, Fu v8]])) (fun v6 v7 v8 v9 va => K (Ex.normal) (St.mk (Q3 43 0 [1, 2, 3, 6] [Au v6, Ai v7, Ap 0 0, Ap 1 0]) [HA [Ai v8, Fu v9], HA [Ai va, AV.esl]]))
 | _, _ => none
def Qjn (K : Ex → St → Option R) (vs : List AV) (hh : H) : Option R := match vs, hh with
 | [Au v0, Ai v1, Ap 0 0, Ap 1 0], [HA [Ai v2, Fu v3], HA [Ai v4, AV.esl]] => JM v0 v1 v2 v3 v4 (fun v5 v6 v7 v8 => K (Ex.ret) (St.mk (Q3 43 0 [6, 7] [Ap 0 0, Ai v5]) [HA [Ai v6, AV.sl 1 0 v7 1], HU v8]))
 | _, _ => none
def QHN:Nat→Option Ql:=lkN [(3000,fun st _ K=>Qf 43 [1,2,3,6,26] st (Qjm K)),(4000,fun st _ K=>Qf 43 [1,2,3,6] st (Qjn K))]
def QN7:Qi:=Qo (V 104) QxL Qsm 10
def Qwm:Code:=Qk [1,1] (Q9 Tryz.f104)
def Qwn:Code:=Qk [1,0,1] (Q9 Tryz.f104)
theorem QFv:Q4 (V 104) QN7 QHN 104 0 (3998,0,Qwm):=.s (size:=43) (ss:=[1,2,3,6]) (F:=@Qjn) (by kernel_rfl) fun R r K vs hh h=>by
 unfold Qjn at h; split at h
 ·rw[Qel]at h; exact Eq.trans (by kernel_rfl) h
 ·cases h
theorem QFw:Q4 (V 104) QN7 QHN 104 0 (3997,0,Qwn):=.s (size:=43) (ss:=[1,2,3,6,26]) (F:=@Qjm) (by kernel_rfl) fun R r K vs hh h=>by
 unfold Qjm at h; split at h
 ·rw[Q7T]at h; exact Eq.trans (by kernel_rfl) h
 ·cases h
theorem QPS:∀ x∈[(3998,0,Qwm),(3997,0,Qwn)],Q4 (V 104) QN7 QHN 104 0 x:=List.forall_mem_cons.2 ⟨QFv,List.forall_mem_cons.2 ⟨QFw,fun _ h=>nomatch h⟩⟩
theorem QtX(K:AV→Option R)(v0:Int)(v1:List Int)(v2 v3:Int):JD (V 104) QxL Qsm QHN 10 104 ([AV.agg (Blk.any [Ai v0,Fu v1]),Au v2,Ai v3]) R K=Qbp v0 v1 v2 v3 (fun v4 v5 v6=>K (AV.tup [AV.agg (Blk.any [Ai v4,Fu v5]),Ai v6])):=by kernel_rfl
def QLA : Ev.Qj := fun args _ K => match args with
 | ([AV.agg (Blk.any [Ai v0, Fu v1]), Au v2, Ai v3]) => Q8e v0 v1 v2 v3 (fun v4 v5 v6 => K (AV.tup [AV.agg (Blk.any [Ai v4, Fu v5]), Ai v6]))
 | _ => none
def QJT:=Qr 104 QLA QxL
theorem D14 : Dom B0 V QJT Qsm 14 := Dom.s (m := 13) (n := 0) D13 D13 (O := QHN) (Qd.fn (fn0 := Tryz.f104) (by kernel_rfl) (by kernel_rfl) QPS) fun args R K r h => by
 unfold QLA at h; split at h
 · rw [QkW] at h; exact (QtX K _ _ _ _).trans h
 · cases h
def Qjo (K : Ex → St → Option R) (vs : List AV) (hh : H) : Option R := match vs, hh with
 | [Ai v0, Fu v1, Ap 0 0, Ab v2], [HA [Ai v3, Ai v4, Ai v5, AV.esl]] => Q2m v0 v1 v2 v3 v4 v5 (fun v6 v7 v8 v9 => K (Ex.ret) (St.mk (Q3 53 0 [4, 5] [Ap 0 0, Ai v6]) [HA [Ai v7, Ai v8, Ai v9, AV.esl]])) (fun v6 v7 v8 v9 va => K (Ex.normal) (St.mk (Q3 53 0 [0, 1, 4] [Ai v6, Fu v7, Ap 0 0]) [HA [Ai v8, Ai v9, Ai va, AV.esl]]))
 | _, _ => none
def Qjp (K : Ex → St → Option R) (vs : List AV) (hh : H) : Option R := match vs, hh with
 | [Ai v0, Fu v1, Ap 0 0], [HA [Ai v2, Ai v3, Ai v4, AV.esl]] => Q2n v0 v1 v2 v3 v4 (fun v5 v6 v7 v8 v9 => K (Ex.ret) (St.mk (Q3 53 0 [4, 5] [Ap 0 0, Ai v5]) [HA [Ai v6, Ai v7, Ai v8, Fu v9]]))
 | _, _ => none
def Qjq (K : Ex → St → Option R) (vs : List AV) (hh : H) : Option R := match vs, hh with
 | [Ai v0, Fu v1, Ap 0 0, Ap 1 0, Fu v2, Ai v3, Ai v4], [HA [Ai v5, Ai v6, Ai v7, AV.esl], HA [Ai v8, Fu v9]] => Qk8 v0 v1 v2 v3 v4 v5 v6 v7 v8 v9 (fun va vb vc vd ve vf vg => K (Ex.exit 0) (St.mk (Q3 53 0 [0, 1, 4, 6] [Ai va, Fu vb, Ap 0 0, Ap 1 0]) [HA [Ai vc, Ai vd, Ai ve, AV.esl], HA [Ai vf, Fu vg]]))
 | _, _ => none
def QCd:Nat→Option Ql:=lkN [(3000,fun st _ K=>Qf 53 [0,1,4,28] st (Qjo K)),(4000,fun st _ K=>Qf 53 [0,1,4] st (Qjp K)),(6400,fun st _ K=>Qf 53 [0,1,4,6,34,35,36] st (Qjq K))]
def QHO:Qi:=Qo (V 106) QJT Qsm 10
def Qwo:Code:=Qk [1,1] (Q9 Tryz.f106)
def Qwp:Code:=Qk [1,0,1] (Q9 Tryz.f106)
def Qhc:Code:=Qk [1,1,1,0,1,0,0] (Q9 Tryz.f106)
def QCe(N:Nat)(st:St)(K:Ex→St→Option R):Option R:=Qs (QQ ((V 106).keep 106 (Ev.Qc Qhc*1000+400)) 0) (Qh (V 106) QHO QCd 106 0 3993 Qhc) N st (QJ (V 106) 106 0 (Ev.Qc Qhc*1000+401) K)
theorem Qfd(K:Ex→St→Option R):∀ N:Nat,(fun (v0:Int) (v1 v2:List Int) (v3 v4 v5 v6 v7 v8:Int) (v9:List Int)=>QCe N (St.mk (Q3 53 0 [0,1,4,6,34,35,36] [Ai v0,Fu v1,Ap 0 0,Ap 1 0,Fu v2,Ai v3,Ai v4]) [HA [Ai v5,Ai v6,Ai v7,AV.esl],HA [Ai v8,Fu v9]]) K)=Q1r (fun va vb vc vd ve vf vg=>K (Ex.exit 0) (St.mk (Q3 53 0 [0,1,4,6] [Ai va,Fu vb,Ap 0 0,Ap 1 0]) [HA [Ai vc,Ai vd,Ai ve,AV.esl],HA [Ai vf,Fu vg]])) N
 | 0=>by funext v0 v1 v2 v3 v4 v5 v6 v7 v8 v9; rfl
 | N+1=>by
  funext v0 v1 v2 v3 v4 v5 v6 v7 v8 v9
  simp only[Q1r]
  rw[←Qfd K N]
  kernel_rfl
theorem QFx:Q4 (V 106) QHO QCd 106 0 (3998,0,Qwo):=.s (size:=53) (ss:=[0,1,4]) (F:=@Qjp) (by kernel_rfl) fun R r K vs hh h=>by
 unfold Qjp at h; split at h
 ·rw[Qhv]at h; exact Eq.trans (by kernel_rfl) h
 ·cases h
theorem QFy:Q4 (V 106) QHO QCd 106 0 (3997,0,Qwp):=.s (size:=53) (ss:=[0,1,4,28]) (F:=@Qjo) (by kernel_rfl) fun R r K vs hh h=>by
 unfold Qjo at h; split at h
 ·rw[QaP]at h; exact Eq.trans (by kernel_rfl) h
 ·cases h
theorem QFz:Q4 (V 106) QHO QCd 106 0 (3993,1,Qhc):=.l (size:=53) (ss:=[0,1,4,6,34,35,36]) (F:=@Qjq) (by kernel_rfl) (by kernel_rfl) fun R r K vs hh h=>by
 unfold Qjq at h; split at h
 ·rw[Qhu]at h; unfold Q9r at h; rw[←Qfd K NR]at h; exact h
 ·cases h
theorem QPT:∀ x∈[(3998,0,Qwo),(3997,0,Qwp),(3993,1,Qhc)],Q4 (V 106) QHO QCd 106 0 x:=List.forall_mem_cons.2 ⟨QFx,List.forall_mem_cons.2 ⟨QFy,List.forall_mem_cons.2 ⟨QFz,fun _ h=>nomatch h⟩⟩⟩
theorem QxM(K:AV→Option R)(v0:Int)(v1:List Int):JD (V 106) QJT Qsm QCd 10 106 ([Ai v0,Fu v1]) R K=Qfs v0 v1 (fun v2 v3 v4 v5 v6=>K (AV.tup [AV.agg (Blk.any [Ai v2,Ai v3,Ai v4,Fu v5]),Ai v6])):=by kernel_rfl
def QLB : Ev.Qj := fun args _ K => match args with
 | ([Ai v0, Fu v1]) => Qhw v0 v1 (fun v2 v3 v4 v5 v6 => K (AV.tup [AV.agg (Blk.any [Ai v2, Ai v3, Ai v4, Fu v5]), Ai v6]))
 | _ => none
def QN8:=Qr 106 QLB QJT
theorem D15 : Dom B0 V QN8 Qsm 15 := Dom.s (m := 14) (n := 0) D14 D14 (O := QCd) (Qd.fn (fn0 := Tryz.f106) (by kernel_rfl) (by kernel_rfl) QPT) fun args R K r h => by
 unfold QLB at h; split at h
 · rw [QoB] at h; exact (QxM K _ _).trans h
 · cases h
def Qjr (K : Ex → St → Option R) (vs : List AV) (hh : H) : Option R := match vs, hh with
 | [Ai v0, Ai v1, Ap 0 0, Ab v2], [HA [Ai v3, Fu v4]] => Q3o v0 v1 v2 v3 v4 (fun v5 v6 => K (Ex.ret) (St.mk (Q3 73 0 [6, 7] [Au v5, Ai v6]) [])) (fun v5 v6 v7 v8 => K (Ex.normal) (St.mk (Q3 73 0 [1, 2, 3] [Ai v5, Ai v6, Ap 0 0]) [HA [Ai v7, Fu v8]]))
 | _, _ => none
def Qjs (K : Ex → St → Option R) (vs : List AV) (hh : H) : Option R := match vs, hh with
 | [Ai v0, Ai v1, Ap 0 0, Ab v2], [HA [Ai v3, Fu v4]] => Q3n v0 v1 v2 v3 v4 (fun v5 v6 => K (Ex.ret) (St.mk (Q3 73 0 [6, 7] [Au v5, Ai v6]) [])) (fun v5 v6 v7 v8 => K (Ex.normal) (St.mk (Q3 73 0 [1, 2, 3] [Ai v5, Ai v6, Ap 0 0]) [HA [Ai v7, Fu v8]]))
 | _, _ => none
def Qjt (K : Ex → St → Option R) (vs : List AV) (hh : H) : Option R := match vs, hh with
 | [Ai v0, Ai v1, Ap 0 0], [HA [Ai v2, Fu v3]] => Q3p v0 v1 v2 v3 (fun v4 v5 => K (Ex.ret) (St.mk (Q3 73 0 [6, 7] [Au v4, Ai v5]) []))
 | _, _ => none
def Qge (K : Ex → St → Option R) (vs : List AV) (hh : H) : Option R := match vs, hh with
 | [Ai v0, Au v1], [] => Q9b v0 v1 (fun v2 v3 => K (Ex.ret) (St.mk (Q3 73 0 [6, 7] [Au v2, Ai v3]) []))
 | _, _ => none
def QCf:Nat→Option Ql:=lkN [(3000,fun st _ K=>Qf 73 [1,2,3,11] st (Qjr K)),(5000,fun st _ K=>Qf 73 [1,2,3,23] st (Qjs K)),(8000,fun st _ K=>Qf 73 [1,2,3] st (Qjt K)),(12000,fun st _ K=>Qf 73 [2,10] st (Qge K))]
def QFA:Qi:=Qo (V 101) QN8 Qsm 10
def Qo8:Code:=Qk [1,1] (Q9 Tryz.f101)
def Qwq:Code:=Qk [1,0,0,1] (Q9 Tryz.f101)
def Qwr:Code:=Qk [1,0,0,1,1,1] (Q9 Tryz.f101)
def QtY:Code:=Qk [1,1,1,1,1] (Q9 Tryz.f101)
theorem Qr6(K:Ex→St→Option R)(v0 v1 v2:Int)(v3:List Int):Qh (V 101) QFA QCf 101 0 3998 Qo8 (St.mk (Q3 73 0 [1,2,3] [Ai v0,Ai v1,Ap 0 0]) [HA [Ai v2,Fu v3]]) (QJ (V 101) 101 0 (Ev.Qc Qo8*1000+1) K)=Q7z v0 v1 v2 v3 (fun v4 v5=>K (Ex.ret) (St.mk (Q3 73 0 [6,7] [Au v4,Ai v5]) [])):=by kernel_rfl
theorem QFB:Q4 (V 101) QFA QCf 101 0 (3998,0,Qo8):=.s (size:=73) (ss:=[1,2,3]) (F:=@Qjt) (by kernel_rfl) fun R r K vs hh h=>by
 unfold Qjt at h; split at h
 ·rw[Qfl]at h; exact (Qr6 K _ _ _ _).trans h
 ·cases h
theorem QFC:Q4 (V 101) QFA QCf 101 0 (3996,0,Qwq):=.s (size:=73) (ss:=[1,2,3,11]) (F:=@Qjr) (by kernel_rfl) fun R r K vs hh h=>by
 unfold Qjr at h; split at h
 ·rw[Q9a]at h; exact Eq.trans (by kernel_rfl) h
 ·cases h
theorem QFD:Q4 (V 101) QFA QCf 101 0 (3994,0,Qwr):=.s (size:=73) (ss:=[1,2,3,23]) (F:=@Qjs) (by kernel_rfl) fun R r K vs hh h=>by
 unfold Qjs at h; split at h
 ·rw[Q99]at h; exact Eq.trans (by kernel_rfl) h
 ·cases h
theorem QCg:Q4 (V 101) QFA QCf 101 0 (3995,0,QtY):=.s (size:=73) (ss:=[2,10]) (F:=@Qge) (by kernel_rfl) fun R r K vs hh h=>by
 unfold Qge at h; split at h
 ·rw[Q7Q]at h; exact Eq.trans (by kernel_rfl) h
 ·cases h
theorem QPU:∀ x∈[(3998,0,Qo8),(3996,0,Qwq),(3994,0,Qwr),(3995,0,QtY)],Q4 (V 101) QFA QCf 101 0 x:=List.forall_mem_cons.2 ⟨QFB,List.forall_mem_cons.2 ⟨QFC,List.forall_mem_cons.2 ⟨QFD,List.forall_mem_cons.2 ⟨QCg,fun _ h=>nomatch h⟩⟩⟩⟩
def QLC : Ev.Qj := fun args _ K => match args with
 | ([AV.agg (Blk.any [Ai v0, Fu v1]), Ai v2, Ai v3]) => Q2l v0 v1 v2 v3 (fun v4 v5 => K (AV.tup [Au v4, Ai v5]))
 | _ => none
def QPV:=Qr 101 QLC QN8
theorem D16 : Dom B0 V QPV Qsm 16 := Dom.s (m := 15) (n := 0) D15 D15 (O := QCf) (Qd.fn (fn0 := Tryz.f101) (by kernel_rfl) (by kernel_rfl) QPU) fun args R K r h => by
 unfold QLC at h; split at h
 · rw [QmU] at h; exact Eq.trans (by kernel_rfl) h
 · cases h
def QLD : Ev.Qj := fun args _ K => match args with
 | [] => Qq4 (fun v0 v1 => K (AV.agg (Blk.any [Ai v0, Au v1])))
 | _ => none
def QHP:=Qr 103 QLD QPV
theorem D17 : Dom B0 V QHP Qsm 17 := Dom.s (m := 16) (n := 0) D16 D16 (O := (fun _ => none)) (fun _ _ _ _ => Qd.none _ _) fun args R K r h => by
 unfold QLD at h; split at h
 · rw [Qk4] at h; exact Eq.trans (by kernel_rfl) h
 · cases h
def QdX (K : Ex → St → Option R) (vs : List AV) (hh : H) : Option R := match vs, hh with
 | [Ap 0 0, Ai v0], [HU v1] => Q9c v0 v1 (fun v2 => K (Ex.exit 0) (St.mk (Q3 25 0 [] []) [HU v2]))
 | _, _ => none
def QxN:Nat→Option Ql:=lkN [(2400,fun st _ K=>Qf 25 [0,4] st (QdX K))]
def QCh:Qi:=Qo (V 178) QHP Qsm 10
def QbI:Code:=Qk [1,0,0] (Q9 Tryz.f178)
def QxO(N:Nat)(st:St)(K:Ex→St→Option R):Option R:=Qs (QQ ((V 178).keep 178 (Ev.Qc QbI*1000+400)) 1) (Qh (V 178) QCh QxN 178 1 3997 QbI) N st (QJ (V 178) 178 1 (Ev.Qc QbI*1000+401) K)
theorem Q93(K:Ex→St→Option R):∀ N:Nat,(fun (v0:Int) (v1:List Int)=>QxO N (St.mk (Q3 25 0 [0,4] [Ap 0 0,Ai v0]) [HU v1]) K)=YK (fun v2=>K (Ex.exit 0) (St.mk (Q3 25 0 [] []) [HU v2])) N
 | 0=>by funext v0 v1; rfl
 | N+1=>by
  funext v0 v1
  simp only[YK]
  rw[←Q93 K N]
  kernel_rfl
theorem QzR:Q4 (V 178) QCh QxN 178 1 (3997,1,QbI):=.l (size:=25) (ss:=[0,4]) (F:=@QdX) (by kernel_rfl) (by kernel_rfl) fun R r K vs hh h=>by
 unfold QdX at h; split at h
 ·rw[Qar]at h; unfold Q1b at h; rw[←Q93 K NR]at h; exact h
 ·cases h
theorem QJU:∀ x∈[(3997,1,QbI)],Q4 (V 178) QCh QxN 178 1 x:=List.forall_mem_cons.2 ⟨QzR,fun _ h=>nomatch h⟩
def QLE : Ya := fun args h _ K => match args, h with
 | [Ap 0 0, Ai v0], [HU v1] => Q1p v0 v1 (fun v2 => K (AV.tup []) ([HU v2]))
 | _, _ => none
def Qoq:=Qp4 178 QLE Qsm
theorem D18 : Dom B0 V QHP Qoq 18 := Dom.t D17 fun args hh R K r h => by
 unfold QLE at h; split at h
 · rw [QbV] at h; exact ⟨QxN, (Qd.fn (fn0 := Tryz.f178) (by kernel_rfl) (by kernel_rfl) QJU), Eq.trans (by kernel_rfl) h⟩
 · cases h
def Qju (K : Ex → St → Option R) (vs : List AV) (hh : H) : Option R := match vs, hh with
 | [Ap 0 0, AV.sl 1 0 v0 1, Ai v1, Ai v2], [HU v3, HB.live (Blk.cols [Col.fints .u64 v4] [])] => Qbn v0 v1 v2 v3 v4 (fun v5 v6 => K (Ex.exit 0) (St.mk (Q3 25 0 [4] [AV.sl 0 0 v5 1]) [HB.live (Blk.cols [Col.fints .u64 v6] [])]))
 | _, _ => none
def QJV:Nat→Option Ql:=lkN [(5400,fun st _ K=>Qf 25 [3,4,9,10] st (Qju K))]
def QN9:Qi:=Qo (V 177) QHP Qoq 10
def Qhd:Code:=Qk [1,1,1,0,1,0,0] (Q9 Tryz.f177)
def QCi(N:Nat)(st:St)(K:Ex→St→Option R):Option R:=Qs (QQ ((V 177).keep 177 (Ev.Qc Qhd*1000+400)) 0) (Qh (V 177) QN9 QJV 177 0 3993 Qhd) N st (QJ (V 177) 177 0 (Ev.Qc Qhd*1000+401) K)
theorem QdY(K:Ex→St→Option R):∀ N:Nat,(fun (v0:Nat) (v1 v2:Int) (v3:List Int) (v4:List (List Int))=>QCi N (St.mk (Q3 25 0 [3,4,9,10] [Ap 0 0,AV.sl 1 0 v0 1,Ai v1,Ai v2]) [HU v3,HB.live (Blk.cols [Col.fints .u64 v4] [])]) K)=Q0j (fun v5 v6=>K (Ex.exit 0) (St.mk (Q3 25 0 [4] [AV.sl 0 0 v5 1]) [HB.live (Blk.cols [Col.fints .u64 v6] [])])) N
 | 0=>by funext v0 v1 v2 v3 v4; rfl
 | N+1=>by
  funext v0 v1 v2 v3 v4
  simp only[Q0j]
  rw[←QdY K N]
  kernel_rfl
theorem QFE:Q4 (V 177) QN9 QJV 177 0 (3993,1,Qhd):=.l (size:=25) (ss:=[3,4,9,10]) (F:=@Qju) (by kernel_rfl) (by kernel_rfl) fun R r K vs hh h=>by
 unfold Qju at h; split at h
 ·rw[Qfm]at h; unfold Q7A at h; rw[←QdY K NR]at h; exact h
 ·cases h
theorem QPW:∀ x∈[(3993,1,Qhd)],Q4 (V 177) QN9 QJV 177 0 x:=List.forall_mem_cons.2 ⟨QFE,fun _ h=>nomatch h⟩
def QLF : Ev.Qj := fun args _ K => match args with
 | ([Ai v0]) => Qeh v0 (fun v1 => K (AV.fsl (Blk.cols [Col.fints .u64 v1] [])))
 | _ => none
def QNa:=Qr 177 QLF QHP
theorem D19 : Dom B0 V QNa Qoq 19 := Dom.s (m := 18) (n := 0) D18 D18 (O := QJV) (Qd.fn (fn0 := Tryz.f177) (by kernel_rfl) (by kernel_rfl) QPW) fun args R K r h => by
 unfold QLF at h; split at h
 · rw [QmV] at h; exact Eq.trans (by kernel_rfl) h
 · cases h
def Qjv (K : Ex → St → Option R) (vs : List AV) (hh : H) : Option R := match vs, hh with
 | [Au v0, Ai v1], [] => Qch v0 v1 (fun v2 v3 => K (Ex.ret) (St.mk (Q3 51 0 [4, 5] [Ai v2, Au v3]) []))
 | _, _ => none
def Qjw (K : Ex → St → Option R) (vs : List AV) (hh : H) : Option R := match vs, hh with
 | [Au v0, Ai v1, AV.fsl (Blk.cols [Col.fints .u64 v2] []), Au v3, Ai v4], [] => Qcg v0 v1 v2 v3 v4 (fun v5 v6 => K (Ex.exit 0) (St.mk (Q3 51 0 [6, 8] [Ai v5, Au v6]) []))
 | _, _ => none
def Qgf (K : Ex → St → Option R) (vs : List AV) (hh : H) : Option R := match vs, hh with
 | [Au v0, Ai v1, AV.fsl (Blk.cols [Col.fints .u64 v2] []), Au v3, Ai v4, Ai v5], [] => Q1q v0 v1 v2 v3 v4 v5 (fun v6 v7 v8 v9 va => K (Ex.normal) (St.mk (Q3 51 0 [0, 6, 7, 8, 9] [Au v6, Ai v7, AV.fsl (Blk.cols [Col.fints .u64 v8] []), Au v9, Ai va]) []))
 | _, _ => none
def QFF:Nat→Option Ql:=lkN [(4000,fun st _ K=>Qf 51 [0,1] st (Qjv K)),(9400,fun st _ K=>Qf 51 [0,6,7,8,9] st (Qjw K)),(14000,fun st _ K=>Qf 51 [0,6,7,8,9,10] st (Qgf K))]
def QHQ:Qi:=Qo (V 148) QNa Qoq 10
def Qws:Code:=Qk [1,1] (Q9 Tryz.f148)
def Qhe:Code:=Qk [1,1,1,1,1,1,0,1,0,0] (Q9 Tryz.f148)
def QCj(N:Nat)(st:St)(K:Ex→St→Option R):Option R:=Qs (QQ ((V 148).keep 148 (Ev.Qc Qhe*1000+400)) 0) (Qh (V 148) QHQ QFF 148 0 3990 Qhe) N st (QJ (V 148) 148 0 (Ev.Qc Qhe*1000+401) K)
def QtZ:Code:=Qk [1,1,1,1,1,1,0,1,0,0,1,0,0,1,1] (Q9 Tryz.f148)
theorem QbJ(K:Ex→St→Option R):∀ N:Nat,(fun (v0 v1:Int) (v2:List (List Int)) (v3 v4:Int)=>QCj N (St.mk (Q3 51 0 [0,6,7,8,9] [Au v0,Ai v1,AV.fsl (Blk.cols [Col.fints .u64 v2] []),Au v3,Ai v4]) []) K)=UK (fun v5 v6=>K (Ex.exit 0) (St.mk (Q3 51 0 [6,8] [Ai v5,Au v6]) [])) N
 | 0=>by funext v0 v1 v2 v3 v4; rfl
 | N+1=>by
  funext v0 v1 v2 v3 v4
  simp only[UK]
  rw[←QbJ K N]
  kernel_rfl
theorem QFG:Q4 (V 148) QHQ QFF 148 0 (3998,0,Qws):=.s (size:=51) (ss:=[0,1]) (F:=@Qjv) (by kernel_rfl) fun R r K vs hh h=>by
 unfold Qjv at h; split at h
 ·rw[QcI]at h; exact Eq.trans (by kernel_rfl) h
 ·cases h
theorem QFH:Q4 (V 148) QHQ QFF 148 0 (3990,1,Qhe):=.l (size:=51) (ss:=[0,6,7,8,9]) (F:=@Qjw) (by kernel_rfl) (by kernel_rfl) fun R r K vs hh h=>by
 unfold Qjw at h; split at h
 ·rw[QcH]at h; unfold Q4l at h; rw[←QbJ K NR]at h; exact h
 ·cases h
theorem QCk:Q4 (V 148) QHQ QFF 148 0 (3985,0,QtZ):=.s (size:=51) (ss:=[0,6,7,8,9,10]) (F:=@Qgf) (by kernel_rfl) fun R r K vs hh h=>by
 unfold Qgf at h; split at h
 ·rw[QbX]at h; exact Eq.trans (by kernel_rfl) h
 ·cases h
theorem QPX:∀ x∈[(3998,0,Qws),(3990,1,Qhe),(3985,0,QtZ)],Q4 (V 148) QHQ QFF 148 0 x:=List.forall_mem_cons.2 ⟨QFG,List.forall_mem_cons.2 ⟨QFH,List.forall_mem_cons.2 ⟨QCk,fun _ h=>nomatch h⟩⟩⟩
def QLG : Ev.Qj := fun args _ K => match args with
 | ([Au v0, Ai v1]) => Qd5 v0 v1 (fun v2 v3 => K (AV.tup [Ai v2, Au v3]))
 | _ => none
def QPY:=Qr 148 QLG QNa
theorem D20 : Dom B0 V QPY Qoq 20 := Dom.s (m := 19) (n := 0) D19 D19 (O := QFF) (Qd.fn (fn0 := Tryz.f148) (by kernel_rfl) (by kernel_rfl) QPX) fun args R K r h => by
 unfold QLG at h; split at h
 · rw [Qhq] at h; exact Eq.trans (by kernel_rfl) h
 · cases h
def QLH : Ev.Qj := fun args _ K => match args with
 | ([Au v0]) => Qfo v0 (fun v1 v2 => K (AV.agg (Blk.any [Ai v1, Au v2])))
 | _ => none
def QNb:=Qr 102 QLH QPY
theorem D21 : Dom B0 V QNb Qoq 21 := Dom.s (m := 20) (n := 0) D20 D20 (O := (fun _ => none)) (fun _ _ _ _ => Qd.none _ _) fun args R K r h => by
 unfold QLH at h; split at h
 · rw [QkT] at h; exact Eq.trans (by kernel_rfl) h
 · cases h
def Qjx (K : Ex → St → Option R) (vs : List AV) (hh : H) : Option R := match vs, hh with
 | [Ai v0, Ai v1], [] => Qci v0 v1 (fun v2 => K (Ex.ret) (St.mk (Q3 33 0 [4] [Au v2]) []))
 | _, _ => none
def Qjy (K : Ex → St → Option R) (vs : List AV) (hh : H) : Option R := match vs, hh with
 | [Ai v0, Ap 0 0, Ai v1, Ai v2], [HU v3] => Q7C v0 v1 v2 v3 (fun v4 v5 => K (Ex.exit 0) (St.mk (Q3 33 0 [1, 5] [Ai v4, Ap 0 0]) [HU v5]))
 | _, _ => none
def QHR:Nat→Option Ql:=lkN [(4000,fun st _ K=>Qf 33 [0,1] st (Qjx K)),(6400,fun st _ K=>Qf 33 [1,5,23,24] st (Qjy K))]
def QJW:Qi:=Qo (V 151) QNb Qoq 10
def Qwt:Code:=Qk [1,1] (Q9 Tryz.f151)
def Qhf:Code:=Qk [1,1,1,0,1,0,0] (Q9 Tryz.f151)
def QCl(N:Nat)(st:St)(K:Ex→St→Option R):Option R:=Qs (QQ ((V 151).keep 151 (Ev.Qc Qhf*1000+400)) 0) (Qh (V 151) QJW QHR 151 0 3993 Qhf) N st (QJ (V 151) 151 0 (Ev.Qc Qhf*1000+401) K)
theorem QbK(K:Ex→St→Option R):∀ N:Nat,(fun (v0 v1 v2:Int) (v3:List Int)=>QCl N (St.mk (Q3 33 0 [1,5,23,24] [Ai v0,Ap 0 0,Ai v1,Ai v2]) [HU v3]) K)=UL (fun v4 v5=>K (Ex.exit 0) (St.mk (Q3 33 0 [1,5] [Ai v4,Ap 0 0]) [HU v5])) N
 | 0=>by funext v0 v1 v2 v3; rfl
 | N+1=>by
  funext v0 v1 v2 v3
  simp only[UL]
  rw[←QbK K N]
  kernel_rfl
theorem QFI:Q4 (V 151) QJW QHR 151 0 (3998,0,Qwt):=.s (size:=33) (ss:=[0,1]) (F:=@Qjx) (by kernel_rfl) fun R r K vs hh h=>by
 unfold Qjx at h; split at h
 ·rw[QcK]at h; exact Eq.trans (by kernel_rfl) h
 ·cases h
theorem QFJ:Q4 (V 151) QJW QHR 151 0 (3993,1,Qhf):=.l (size:=33) (ss:=[1,5,23,24]) (F:=@Qjy) (by kernel_rfl) (by kernel_rfl) fun R r K vs hh h=>by
 unfold Qjy at h; split at h
 ·rw[QcJ]at h; unfold Q4m at h; rw[←QbK K NR]at h; exact h
 ·cases h
theorem QPZ:∀ x∈[(3998,0,Qwt),(3993,1,Qhf)],Q4 (V 151) QJW QHR 151 0 x:=List.forall_mem_cons.2 ⟨QFI,List.forall_mem_cons.2 ⟨QFJ,fun _ h=>nomatch h⟩⟩
def QLI : Ev.Qj := fun args _ K => match args with
 | ([Ai v0, Ai v1]) => Q9i v0 v1 (fun v2 => K (Au v2))
 | _ => none
def QQ0:=Qr 151 QLI QNb
theorem D22 : Dom B0 V QQ0 Qoq 22 := Dom.s (m := 21) (n := 0) D21 D21 (O := QHR) (Qd.fn (fn0 := Tryz.f151) (by kernel_rfl) (by kernel_rfl) QPZ) fun args R K r h => by
 unfold QLI at h; split at h
 · rw [Qhr] at h; exact Eq.trans (by kernel_rfl) h
 · cases h
def QLJ : Ev.Qj := fun args _ K => match args with
 | ([Ai v0, Ai v1]) => Q8d v0 v1 (fun v2 => K (Ai v2))
 | _ => none
def QNc:=Qr 105 QLJ QQ0
theorem D23 : Dom B0 V QNc Qoq 23 := Dom.s (m := 22) (n := 0) D22 D22 (O := (fun _ => none)) (fun _ _ _ _ => Qd.none _ _) fun args R K r h => by
 unfold QLJ at h; split at h
 · rw [QkU] at h; exact Eq.trans (by kernel_rfl) h
 · cases h
def Qmu (K : Ex → St → Option R) (vs : List AV) (hh : H) : Option R := match vs, hh with
 | [Ap 0 0, Ap 1 0, Ap 2 0], [HA [Ai v0, Fu v1], HA [Ai v2, Ai v3, Ai v4, Ai v5, AV.esl, Ai v6, AV.esl, AV.esl, AV.esl], HA [Ai v7, Ai v8, Ai v9, Ai va, AV.esl, Ai vb, AV.esl, AV.esl, AV.esl]] => Qkb v0 v1 v2 v3 v4 v5 v6 v7 v8 v9 va vb (fun vc vd ve vf vg vh vi vj vk vl vm vn => K (Ex.ret) (St.mk (Q3 94 0 [2, 3] [Ap 0 0, Ai vc]) [HA [Ai vd, Ai ve, Ai vf, Ai vg, Fu vh, Ai vi, Fu vj, AV.sl 1 0 vk 1, AV.sl 2 0 vl 1], HB.live (Blk.ints .i64 vm), HB.live (Blk.ints .i64 vn)]))
 | _, _ => none
def Qmv (K : Ex → St → Option R) (vs : List AV) (hh : H) : Option R := match vs, hh with
 | [Ap 0 0, Ap 1 0, Ap 2 0, AV.sl 5 0 v0 1, Ai v1, Ai v2], [HA [Ai v3, Fu v4], HA [Ai v5, Ai v6, Ai v7, Ai v8, AV.esl, Ai v9, AV.esl, AV.esl, AV.esl], HA [Ai va, Ai vb, Ai vc, Ai vd, AV.esl, Ai ve, Fu vf, AV.sl 3 0 vg 1, AV.sl 4 0 vh 1], HB.live (Blk.ints .i64 vi), HB.live (Blk.ints .i64 vj), HU vk] => Qk7 v0 v1 v2 v3 v4 v5 v6 v7 v8 v9 va vb vc vd ve vf vg vh vi vj vk (fun vl vm vn vo vp vq vr vs vt vu vv vw vx vy vz v10 v11 => K (Ex.exit 0) (St.mk (Q3 94 0 [2, 4, 5] [Ap 0 0, Ap 1 0, AV.sl 4 0 vl 1]) [HA [Ai vm, Ai vn, Ai vo, Ai vp, AV.esl, Ai vq, AV.esl, AV.esl, AV.esl], HA [Ai vr, Ai vs, Ai vt, Ai vu, AV.esl, Ai vv, Fu vw, AV.sl 2 0 vx 1, AV.sl 3 0 vy 1], HB.live (Blk.ints .i64 vz), HB.live (Blk.ints .i64 v10), HU v11]))
 | _, _ => none
def Qjz (K : Ex → St → Option R) (vs : List AV) (hh : H) : Option R := match vs, hh with
 | [Ap 0 0, Ap 1 0, Ap 2 0, AV.sl 5 0 v0 1, Ai v1, Ai v2], [HA [Ai v3, Fu v4], HA [Ai v5, Ai v6, Ai v7, Ai v8, AV.esl, Ai v9, AV.esl, AV.esl, AV.esl], HA [Ai va, Ai vb, Ai vc, Ai vd, AV.esl, Ai ve, Fu vf, AV.sl 3 0 vg 1, AV.sl 4 0 vh 1], HB.live (Blk.ints .i64 vi), HB.live (Blk.ints .i64 vj), HU vk] => Qbr v0 v1 v2 v3 v4 v5 v6 v7 v8 v9 va vb vc vd ve vf vg vh vi vj vk (fun vl vm vn vo vp vq vr vs vt vu vv vw vx vy vz v10 v11 => K (Ex.exit 0) (St.mk (Q3 94 0 [2, 4, 5] [Ap 0 0, Ap 1 0, AV.sl 4 0 vl 1]) [HA [Ai vm, Ai vn, Ai vo, Ai vp, AV.esl, Ai vq, AV.esl, AV.esl, AV.esl], HA [Ai vr, Ai vs, Ai vt, Ai vu, AV.esl, Ai vv, Fu vw, AV.sl 2 0 vx 1, AV.sl 3 0 vy 1], HB.live (Blk.ints .i64 vz), HB.live (Blk.ints .i64 v10), HU v11])) (fun vl vm vn vo vp vq vr vs vt vu vv vw vx vy vz v10 v11 v12 v13 v14 v15 => K (Ex.normal) (St.mk (Q3 94 0 [1, 2, 4, 5, 6, 7] [Ap 0 0, Ap 1 0, Ap 2 0, AV.sl 5 0 vl 1, Ai vm, Ai vn]) [HA [Ai vo, Fu vp], HA [Ai vq, Ai vr, Ai vs, Ai vt, AV.esl, Ai vu, AV.esl, AV.esl, AV.esl], HA [Ai vv, Ai vw, Ai vx, Ai vy, AV.esl, Ai vz, Fu v10, AV.sl 3 0 v11 1, AV.sl 4 0 v12 1], HB.live (Blk.ints .i64 v13), HB.live (Blk.ints .i64 v14), HU v15]))
 | _, _ => none
def QjA (K : Ex → St → Option R) (vs : List AV) (hh : H) : Option R := match vs, hh with
 | [Ap 0 0, Ap 1 0, Ap 2 0, AV.sl 5 0 v0 1, Ai v1, Ai v2], [HA [Ai v3, Fu v4], HA [Ai v5, Ai v6, Ai v7, Ai v8, AV.esl, Ai v9, AV.esl, AV.esl, AV.esl], HA [Ai va, Ai vb, Ai vc, Ai vd, AV.esl, Ai ve, Fu vf, AV.sl 3 0 vg 1, AV.sl 4 0 vh 1], HB.live (Blk.ints .i64 vi), HB.live (Blk.ints .i64 vj), HU vk] => Q70 v0 v1 v2 v3 v4 v5 v6 v7 v8 v9 va vb vc vd ve vf vg vh vi vj vk (fun vl vm vn vo vp vq vr vs vt vu vv vw vx vy vz v10 v11 => K (Ex.exit 0) (St.mk (Q3 94 0 [2, 4, 5] [Ap 0 0, Ap 1 0, AV.sl 4 0 vl 1]) [HA [Ai vm, Ai vn, Ai vo, Ai vp, AV.esl, Ai vq, AV.esl, AV.esl, AV.esl], HA [Ai vr, Ai vs, Ai vt, Ai vu, AV.esl, Ai vv, Fu vw, AV.sl 2 0 vx 1, AV.sl 3 0 vy 1], HB.live (Blk.ints .i64 vz), HB.live (Blk.ints .i64 v10), HU v11])) (fun vl vm vn vo vp vq vr vs vt vu vv vw vx vy vz v10 v11 v12 v13 v14 v15 => K (Ex.normal) (St.mk (Q3 94 0 [1, 2, 4, 5, 6, 7] [Ap 0 0, Ap 1 0, Ap 2 0, AV.sl 5 0 vl 1, Ai vm, Ai vn]) [HA [Ai vo, Fu vp], HA [Ai vq, Ai vr, Ai vs, Ai vt, AV.esl, Ai vu, AV.esl, AV.esl, AV.esl], HA [Ai vv, Ai vw, Ai vx, Ai vy, AV.esl, Ai vz, Fu v10, AV.sl 3 0 v11 1, AV.sl 4 0 v12 1], HB.live (Blk.ints .i64 v13), HB.live (Blk.ints .i64 v14), HU v15]))
 | _, _ => none
def QjB (K : Ex → St → Option R) (vs : List AV) (hh : H) : Option R := match vs, hh with
 | [Ap 0 0, Ap 1 0, Ap 2 0, AV.sl 5 0 v0 1, Ai v1, Ai v2, Ap 6 0], [HA [Ai v3, Fu v4], HA [Ai v5, Ai v6, Ai v7, Ai v8, AV.esl, Ai v9, AV.esl, AV.esl, AV.esl], HA [Ai va, Ai vb, Ai vc, Ai vd, AV.esl, Ai ve, Fu vf, AV.sl 3 0 vg 1, AV.sl 4 0 vh 1], HB.live (Blk.ints .i64 vi), HB.live (Blk.ints .i64 vj), HU vk, HA [Ai vl, Au vm]] => Qbq v0 v1 v2 v3 v4 v5 v6 v7 v8 v9 va vb vc vd ve vf vg vh vi vj vk vl vm (fun vn vo vp vq vr vs vt vu vv vw vx vy vz v10 v11 v12 v13 v14 v15 v16 v17 => K (Ex.normal) (St.mk (Q3 94 0 [1, 2, 4, 5, 6, 7] [Ap 0 0, Ap 1 0, Ap 2 0, AV.sl 5 0 vn 1, Ai vo, Ai vp]) [HA [Ai vq, Fu vr], HA [Ai vs, Ai vt, Ai vu, Ai vv, AV.esl, Ai vw, AV.esl, AV.esl, AV.esl], HA [Ai vx, Ai vy, Ai vz, Ai v10, AV.esl, Ai v11, Fu v12, AV.sl 3 0 v13 1, AV.sl 4 0 v14 1], HB.live (Blk.ints .i64 v15), HB.live (Blk.ints .i64 v16), HU v17]))
 | _, _ => none
def o51:Nat→Option Ql:=lkN [(5000,fun st _ K=>Qf 94 [1,2,4] st (Qmu K)),(8400,fun st _ K=>Qf 94 [1,2,4,5,6,7] st (Qmv K)),(10000,fun st _ K=>Qf 94 [1,2,4,5,6,7] st (Qjz K)),(12000,fun st _ K=>Qf 94 [1,2,4,5,6,7] st (QjA K)),(18000,fun st _ K=>Qf 94 [1,2,4,5,6,7,10] st (QjB K))]
def q51:Qi:=Qo (V 51) QNc Qoq 10
def QzS:Code:=Qk [1,1,1] (Q9 Tryz.f51)
def Qmw:Code:=Qk [1,1,1,1,1,0,1,0,0] (Q9 Tryz.f51)
def QFK(N:Nat)(st:St)(K:Ex→St→Option R):Option R:=Qs (QQ ((V 51).keep 51 (Ev.Qc Qmw*1000+400)) 0) (Qh (V 51) q51 o51 51 0 3991 Qmw) N st (QJ (V 51) 51 0 (Ev.Qc Qmw*1000+401) K)
def Qo9:Code:=Qk [1,1,1,1,1,0,1,0,0,1] (Q9 Tryz.f51)
def Qoa:Code:=Qk [1,1,1,1,1,0,1,0,0,1,0,0,1] (Q9 Tryz.f51)
def Qwu:Code:=Qk [1,1,1,1,1,0,1,0,0,1,0,0,1,1,1,1,1,1] (Q9 Tryz.f51)
theorem Qfe(K:Ex→St→Option R):∀ N:Nat,(fun (v0:Nat) (v1 v2 v3:Int) (v4:List Int) (v5 v6 v7 v8 v9 va vb vc vd ve:Int) (vf:List Int) (vg vh:Nat) (vi vj vk:List Int)=>QFK N (St.mk (Q3 94 0 [1,2,4,5,6,7] [Ap 0 0,Ap 1 0,Ap 2 0,AV.sl 5 0 v0 1,Ai v1,Ai v2]) [HA [Ai v3,Fu v4],HA [Ai v5,Ai v6,Ai v7,Ai v8,AV.esl,Ai v9,AV.esl,AV.esl,AV.esl],HA [Ai va,Ai vb,Ai vc,Ai vd,AV.esl,Ai ve,Fu vf,AV.sl 3 0 vg 1,AV.sl 4 0 vh 1],HB.live (Blk.ints .i64 vi),HB.live (Blk.ints .i64 vj),HU vk]) K)=Uv (fun vl vm vn vo vp vq vr vs vt vu vv vw vx vy vz v10 v11=>K (Ex.exit 0) (St.mk (Q3 94 0 [2,4,5] [Ap 0 0,Ap 1 0,AV.sl 4 0 vl 1]) [HA [Ai vm,Ai vn,Ai vo,Ai vp,AV.esl,Ai vq,AV.esl,AV.esl,AV.esl],HA [Ai vr,Ai vs,Ai vt,Ai vu,AV.esl,Ai vv,Fu vw,AV.sl 2 0 vx 1,AV.sl 3 0 vy 1],HB.live (Blk.ints .i64 vz),HB.live (Blk.ints .i64 v10),HU v11])) N
 | 0=>by funext v0 v1 v2 v3 v4 v5 v6 v7 v8 v9 va vb vc vd ve vf vg vh vi vj vk; rfl
 | N+1=>by
  funext v0 v1 v2 v3 v4 v5 v6 v7 v8 v9 va vb vc vd ve vf vg vh vi vj vk
  simp only[Uv]
  rw[←Qfe K N]
  kernel_rfl
theorem Qr7(K:Ex→St→Option R)(v0:Nat)(v1 v2 v3:Int)(v4:List Int)(v5 v6 v7 v8 v9 va vb vc vd ve:Int)(vf:List Int)(vg vh:Nat)(vi vj vk:List Int):Qh (V 51) q51 o51 51 0 3987 Qoa (St.mk (Q3 94 0 [1,2,4,5,6,7] [Ap 0 0,Ap 1 0,Ap 2 0,AV.sl 5 0 v0 1,Ai v1,Ai v2]) [HA [Ai v3,Fu v4],HA [Ai v5,Ai v6,Ai v7,Ai v8,AV.esl,Ai v9,AV.esl,AV.esl,AV.esl],HA [Ai va,Ai vb,Ai vc,Ai vd,AV.esl,Ai ve,Fu vf,AV.sl 3 0 vg 1,AV.sl 4 0 vh 1],HB.live (Blk.ints .i64 vi),HB.live (Blk.ints .i64 vj),HU vk]) (QJ (V 51) 51 0 (Ev.Qc Qoa*1000+1) K)=Q38 v0 v1 v2 v3 v4 v5 v6 v7 v8 v9 va vb vc vd ve vf vg vh vi vj vk (fun vl vm vn vo vp vq vr vs vt vu vv vw vx vy vz v10 v11=>K (Ex.exit 0) (St.mk (Q3 94 0 [2,4,5] [Ap 0 0,Ap 1 0,AV.sl 4 0 vl 1]) [HA [Ai vm,Ai vn,Ai vo,Ai vp,AV.esl,Ai vq,AV.esl,AV.esl,AV.esl],HA [Ai vr,Ai vs,Ai vt,Ai vu,AV.esl,Ai vv,Fu vw,AV.sl 2 0 vx 1,AV.sl 3 0 vy 1],HB.live (Blk.ints .i64 vz),HB.live (Blk.ints .i64 v10),HU v11])) (fun vl vm vn vo vp vq vr vs vt vu vv vw vx vy vz v10 v11 v12 v13 v14 v15=>K (Ex.normal) (St.mk (Q3 94 0 [1,2,4,5,6,7] [Ap 0 0,Ap 1 0,Ap 2 0,AV.sl 5 0 vl 1,Ai vm,Ai vn]) [HA [Ai vo,Fu vp],HA [Ai vq,Ai vr,Ai vs,Ai vt,AV.esl,Ai vu,AV.esl,AV.esl,AV.esl],HA [Ai vv,Ai vw,Ai vx,Ai vy,AV.esl,Ai vz,Fu v10,AV.sl 3 0 v11 1,AV.sl 4 0 v12 1],HB.live (Blk.ints .i64 v13),HB.live (Blk.ints .i64 v14),HU v15])):=by kernel_rfl
theorem Qr8(K:Ex→St→Option R)(v0:Nat)(v1 v2 v3:Int)(v4:List Int)(v5 v6 v7 v8 v9 va vb vc vd ve:Int)(vf:List Int)(vg vh:Nat)(vi vj vk:List Int):Qh (V 51) q51 o51 51 0 3990 Qo9 (St.mk (Q3 94 0 [1,2,4,5,6,7] [Ap 0 0,Ap 1 0,Ap 2 0,AV.sl 5 0 v0 1,Ai v1,Ai v2]) [HA [Ai v3,Fu v4],HA [Ai v5,Ai v6,Ai v7,Ai v8,AV.esl,Ai v9,AV.esl,AV.esl,AV.esl],HA [Ai va,Ai vb,Ai vc,Ai vd,AV.esl,Ai ve,Fu vf,AV.sl 3 0 vg 1,AV.sl 4 0 vh 1],HB.live (Blk.ints .i64 vi),HB.live (Blk.ints .i64 vj),HU vk]) (QJ (V 51) 51 0 (Ev.Qc Qo9*1000+1) K)=Q39 v0 v1 v2 v3 v4 v5 v6 v7 v8 v9 va vb vc vd ve vf vg vh vi vj vk (fun vl vm vn vo vp vq vr vs vt vu vv vw vx vy vz v10 v11=>K (Ex.exit 0) (St.mk (Q3 94 0 [2,4,5] [Ap 0 0,Ap 1 0,AV.sl 4 0 vl 1]) [HA [Ai vm,Ai vn,Ai vo,Ai vp,AV.esl,Ai vq,AV.esl,AV.esl,AV.esl],HA [Ai vr,Ai vs,Ai vt,Ai vu,AV.esl,Ai vv,Fu vw,AV.sl 2 0 vx 1,AV.sl 3 0 vy 1],HB.live (Blk.ints .i64 vz),HB.live (Blk.ints .i64 v10),HU v11])) (fun vl vm vn vo vp vq vr vs vt vu vv vw vx vy vz v10 v11 v12 v13 v14 v15=>K (Ex.normal) (St.mk (Q3 94 0 [1,2,4,5,6,7] [Ap 0 0,Ap 1 0,Ap 2 0,AV.sl 5 0 vl 1,Ai vm,Ai vn]) [HA [Ai vo,Fu vp],HA [Ai vq,Ai vr,Ai vs,Ai vt,AV.esl,Ai vu,AV.esl,AV.esl,AV.esl],HA [Ai vv,Ai vw,Ai vx,Ai vy,AV.esl,Ai vz,Fu v10,AV.sl 3 0 v11 1,AV.sl 4 0 v12 1],HB.live (Blk.ints .i64 v13),HB.live (Blk.ints .i64 v14),HU v15])):=by kernel_rfl
theorem QHS:Q4 (V 51) q51 o51 51 0 (3997,0,QzS):=.s (size:=94) (ss:=[1,2,4]) (F:=@Qmu) (by kernel_rfl) fun R r K vs hh h=>by
 unfold Qmu at h; split at h
 ·rw[Qhx]at h; exact Eq.trans (by kernel_rfl) h
 ·cases h
theorem QHT:Q4 (V 51) q51 o51 51 0 (3991,1,Qmw):=.l (size:=94) (ss:=[1,2,4,5,6,7]) (F:=@Qmv) (by kernel_rfl) (by kernel_rfl) fun R r K vs hh h=>by
 unfold Qmv at h; split at h
 ·rw[Qht]at h; unfold Q9p at h; rw[←Qfe K NR]at h; exact h
 ·cases h
theorem QFL:Q4 (V 51) q51 o51 51 0 (3990,0,Qo9):=.s (size:=94) (ss:=[1,2,4,5,6,7]) (F:=@Qjz) (by kernel_rfl) fun R r K vs hh h=>by
 unfold Qjz at h; split at h
 ·rw[Q9o]at h; exact (Qr8 K _ _ _ _ _ _ _ _ _ _ _ _ _ _ _ _ _ _ _ _ _).trans h
 ·cases h
theorem QFM:Q4 (V 51) q51 o51 51 0 (3987,0,Qoa):=.s (size:=94) (ss:=[1,2,4,5,6,7]) (F:=@QjA) (by kernel_rfl) fun R r K vs hh h=>by
 unfold QjA at h; split at h
 ·rw[Q9n]at h; exact (Qr7 K _ _ _ _ _ _ _ _ _ _ _ _ _ _ _ _ _ _ _ _ _).trans h
 ·cases h
theorem QFN:Q4 (V 51) q51 o51 51 0 (3982,0,Qwu):=.s (size:=94) (ss:=[1,2,4,5,6,7,10]) (F:=@QjB) (by kernel_rfl) fun R r K vs hh h=>by
 unfold QjB at h; split at h
 ·rw[Q9m]at h; exact Eq.trans (by kernel_rfl) h
 ·cases h
theorem QRg:∀ x∈[(3997,0,QzS),(3991,1,Qmw),(3990,0,Qo9),(3987,0,Qoa),(3982,0,Qwu)],Q4 (V 51) q51 o51 51 0 x:=List.forall_mem_cons.2 ⟨QHS,List.forall_mem_cons.2 ⟨QHT,List.forall_mem_cons.2 ⟨QFL,List.forall_mem_cons.2 ⟨QFM,List.forall_mem_cons.2 ⟨QFN,fun _ h=>nomatch h⟩⟩⟩⟩⟩
def QQ1 : Ev.Qj := fun args _ K => match args with
 | ([AV.agg (Blk.any [Ai v0, Fu v1])]) => Qdo v0 v1 (fun v2 v3 v4 v5 v6 v7 v8 v9 va vb => K (AV.tup [AV.agg (Blk.any [Ai v2, Ai v3, Ai v4, Ai v5, Fu v6, Ai v7, Fu v8, AV.fsl (Blk.ints .i64 v9), AV.fsl (Blk.ints .i64 va)]), Ai vb]))
 | _ => none
def S51:=Qr 51 QQ1 QNc
theorem D24 : Dom B0 V S51 Qoq 24 := Dom.s (m := 23) (n := 0) D23 D23 (O := o51) (Qd.fn (fn0 := Tryz.f51) (by kernel_rfl) (by kernel_rfl) QRg) fun args R K r h => by
 unfold QQ1 at h; split at h
 · rw [Qgp] at h; exact Eq.trans (by kernel_rfl) h
 · cases h
def QLK : Ev.Qj := fun args _ K => match args with
 | ([Au v0, Ai v1]) => QaQ v0 v1 (fun v2 => K (Ai v2))
 | _ => none
def QNd:=Qr 140 QLK S51
theorem D25 : Dom B0 V QNd Qoq 25 := Dom.s (m := 24) (n := 0) D24 D24 (O := (fun _ => none)) (fun _ _ _ _ => Qd.none _ _) fun args R K r h => by
 unfold QLK at h; split at h
 · rw [QoC] at h; exact Eq.trans (by kernel_rfl) h
 · cases h
def Qmx (K : Ex → St → Option R) (vs : List AV) (hh : H) : Option R := match vs, hh with
 | [Ai v0, Ap 0 0, Ai v1, Fu v2, Ai v3, Ai v4], [HA [Ai v5, Fu v6]] => Qkc v0 v1 v2 v3 v4 v5 v6 (fun v7 v8 v9 va => K (Ex.exit 0) (St.mk (Q3 46 0 [1, 2, 5] [Ai v7, Ap 0 0, Ai v8]) [HA [Ai v9, Fu va]]))
 | _, _ => none
def o89:Nat→Option Ql:=lkN [(7400,fun st _ K=>Qf 46 [1,2,5,20,21,22] st (Qmx K))]
def q89:Qi:=Qo (V 89) QNd Qoq 10
def Qmy:Code:=Qk [1,1,1,1,0,1,0,0] (Q9 Tryz.f89)
def QFO(N:Nat)(st:St)(K:Ex→St→Option R):Option R:=Qs (QQ ((V 89).keep 89 (Ev.Qc Qmy*1000+400)) 0) (Qh (V 89) q89 o89 89 0 3992 Qmy) N st (QJ (V 89) 89 0 (Ev.Qc Qmy*1000+401) K)
theorem Qff(K:Ex→St→Option R):∀ N:Nat,(fun (v0 v1:Int) (v2:List Int) (v3 v4 v5:Int) (v6:List Int)=>QFO N (St.mk (Q3 46 0 [1,2,5,20,21,22] [Ai v0,Ap 0 0,Ai v1,Fu v2,Ai v3,Ai v4]) [HA [Ai v5,Fu v6]]) K)=Q1s (fun v7 v8 v9 va=>K (Ex.exit 0) (St.mk (Q3 46 0 [1,2,5] [Ai v7,Ap 0 0,Ai v8]) [HA [Ai v9,Fu va]])) N
 | 0=>by funext v0 v1 v2 v3 v4 v5 v6; rfl
 | N+1=>by
  funext v0 v1 v2 v3 v4 v5 v6
  simp only[Q1s]
  rw[←Qff K N]
  kernel_rfl
theorem QHU:Q4 (V 89) q89 o89 89 0 (3992,1,Qmy):=.l (size:=46) (ss:=[1,2,5,20,21,22]) (F:=@Qmx) (by kernel_rfl) (by kernel_rfl) fun R r K vs hh h=>by
 unfold Qmx at h; split at h
 ·rw[Qhy]at h; unfold Q9s at h; rw[←Qff K NR]at h; exact h
 ·cases h
theorem QRh:∀ x∈[(3992,1,Qmy)],Q4 (V 89) q89 o89 89 0 x:=List.forall_mem_cons.2 ⟨QHU,fun _ h=>nomatch h⟩
def QQ2 : Ev.Qj := fun args _ K => match args with
 | ([AV.agg (Blk.any [Ai v0, Fu v1]), Ai v2]) => Qhz v0 v1 v2 (fun v3 => K (Ai v3))
 | _ => none
def S89:=Qr 89 QQ2 QNd
theorem D26 : Dom B0 V S89 Qoq 26 := Dom.s (m := 25) (n := 0) D25 D25 (O := o89) (Qd.fn (fn0 := Tryz.f89) (by kernel_rfl) (by kernel_rfl) QRh) fun args R K r h => by
 unfold QQ2 at h; split at h
 · rw [QoD] at h; exact Eq.trans (by kernel_rfl) h
 · cases h
def QLL : Ev.Qj := fun args _ K => match args with
 | ([Ai v0, Ai v1]) => QaR v0 v1 (fun v2 => K (Ai v2))
 | _ => none
def QNe:=Qr 107 QLL S89
theorem D27 : Dom B0 V QNe Qoq 27 := Dom.s (m := 26) (n := 0) D26 D26 (O := (fun _ => none)) (fun _ _ _ _ => Qd.none _ _) fun args R K r h => by
 unfold QLL at h; split at h
 · rw [Qn2] at h; exact Eq.trans (by kernel_rfl) h
 · cases h
def QLM : Ya := fun args h _ K => match args, h with
 | [AV.agg (Blk.any [Ai v0, Fu v1])], [] => Q9t v0 v1 (fun v2 v3 => K (AV.fn 154 [Ap 0 0]) ([HA [Ai v2, Fu v3]]))
 | _, _ => none
def QzT:=Qp4 108 QLM Qoq
theorem D28 : Dom B0 V QNe QzT 28 := Dom.t D27 fun args hh R K r h => by
 unfold QLM at h; split at h
 · rw [Q7U] at h; exact ⟨(fun _ => none), (fun _ _ _ _ => Qd.none _ _), Eq.trans (by kernel_rfl) h⟩
 · cases h
def QLN : Ev.Qj := fun args _ K => match args with
 | ([Au v0]) => Yc v0 (fun v1 => K (Ai v1))
 | _ => none
def QNf:=Qr 157 QLN QNe
theorem D29 : Dom B0 V QNf QzT 29 := Dom.s (m := 28) (n := 0) D28 D28 (O := (fun _ => none)) (fun _ _ _ _ => Qd.none _ _) fun args R K r h => by
 unfold QLN at h; split at h
 · rw [Q24] at h; exact Eq.trans (by kernel_rfl) h
 · cases h
def QjC (K : Ex → St → Option R) (vs : List AV) (hh : H) : Option R := match vs, hh with
 | [Au v0, Ai v1], [] => Qer v0 v1 (fun v2 => K (Ex.ret) (St.mk (Q3 23 0 [4] [Ai v2]) []))
 | _, _ => none
def QjD (K : Ex → St → Option R) (vs : List AV) (hh : H) : Option R := match vs, hh with
 | [Au v0, Ai v1, Ai v2], [] => Qep v0 v1 v2 (fun v3 => K (Ex.exit 0) (St.mk (Q3 23 0 [0] [Au v3]) []))
 | _, _ => none
def QHV:Nat→Option Ql:=lkN [(4000,fun st _ K=>Qf 23 [0,1] st (QjC K)),(5400,fun st _ K=>Qf 23 [0,13,14] st (QjD K))]
def QJX:Qi:=Qo (V 116) QNf QzT 10
def Qwv:Code:=Qk [1,1] (Q9 Tryz.f116)
def Qhg:Code:=Qk [1,1,0,1,0,0] (Q9 Tryz.f116)
def QCm(N:Nat)(st:St)(K:Ex→St→Option R):Option R:=Qs (QQ ((V 116).keep 116 (Ev.Qc Qhg*1000+400)) 0) (Qh (V 116) QJX QHV 116 0 3994 Qhg) N st (QJ (V 116) 116 0 (Ev.Qc Qhg*1000+401) K)
theorem QcA(K:Ex→St→Option R):∀ N:Nat,(fun (v0 v1 v2:Int)=>QCm N (St.mk (Q3 23 0 [0,13,14] [Au v0,Ai v1,Ai v2]) []) K)=Jy (fun v3=>K (Ex.exit 0) (St.mk (Q3 23 0 [0] [Au v3]) [])) N
 | 0=>by funext v0 v1 v2; rfl
 | N+1=>by
  funext v0 v1 v2
  simp only[Jy]
  rw[←QcA K N]
  kernel_rfl
theorem QFP:Q4 (V 116) QJX QHV 116 0 (3998,0,Qwv):=.s (size:=23) (ss:=[0,1]) (F:=@QjC) (by kernel_rfl) fun R r K vs hh h=>by
 unfold QjC at h; split at h
 ·rw[Qes]at h; exact Eq.trans (by kernel_rfl) h
 ·cases h
theorem QFQ:Q4 (V 116) QJX QHV 116 0 (3994,1,Qhg):=.l (size:=23) (ss:=[0,13,14]) (F:=@QjD) (by kernel_rfl) (by kernel_rfl) fun R r K vs hh h=>by
 unfold QjD at h; split at h
 ·rw[Qeq]at h; unfold Q5R at h; rw[←QcA K NR]at h; exact h
 ·cases h
theorem QQ3:∀ x∈[(3998,0,Qwv),(3994,1,Qhg)],Q4 (V 116) QJX QHV 116 0 x:=List.forall_mem_cons.2 ⟨QFP,List.forall_mem_cons.2 ⟨QFQ,fun _ h=>nomatch h⟩⟩
def QLO : Ev.Qj := fun args _ K => match args with
 | ([Au v0, Ai v1]) => Q25 v0 v1 (fun v2 => K (Ai v2))
 | _ => none
def Qr9:=Qr 116 QLO QNf
theorem D30 : Dom B0 V Qr9 QzT 30 := Dom.s (m := 29) (n := 0) D29 D29 (O := QHV) (Qd.fn (fn0 := Tryz.f116) (by kernel_rfl) (by kernel_rfl) QQ3) fun args R K r h => by
 unfold QLO at h; split at h
 · rw [QkZ] at h; exact Eq.trans (by kernel_rfl) h
 · cases h
def QdZ (K : Ex → St → Option R) (vs : List AV) (hh : H) : Option R := match vs, hh with
 | [Ap 3 0], [HA [AV.sl 1 0 v0 1], HO v1, HA [Ai v2], HA [Ai v3], HA [AV.sl 5 0 v4 1], HU v5] => Qck v0 v1 v2 v3 v4 v5 (fun v6 v7 v8 v9 va vb vc => K (Ex.ret) (St.mk (Q3 26 0 [6] [Ab v6]) [HA [AV.sl 1 0 v7 1], HO v8, HA [Ai v9], HA [Ai va], HA [AV.sl 5 0 vb 1], HU vc]))
 | [Ap 3 0], [HA [AV.sl 1 0 vd 1], HO ve, HA [Ai vf], HA [Ai vg], HA [AV.esl]] => Q9u vd ve vf vg (fun v6 v7 v8 v9 va => K (Ex.ret) (St.mk (Q3 26 0 [6] [Ab v6]) [HA [AV.sl 1 0 v7 1], HO v8, HA [Ai v9], HA [Ai va], HA [AV.esl]]))
 | _, _ => none
def QCn:Nat→Option Ql:=lkN [(5000,fun st _ K=>Qf 26 [3] st (QdZ K))]
def QHW:Qi:=Qo (V 109) Qr9 QzT 10
def QrT:Code:=Qk [1,1,1] (Q9 Tryz.f109)
theorem QzU:Q4 (V 109) QHW QCn 109 5 (3997,0,QrT):=.s (size:=26) (ss:=[3]) (F:=@QdZ) (by kernel_rfl) fun R r K vs hh h=>by
 unfold QdZ at h; split at h
 ·rw[Qos]at h; exact Eq.trans (by kernel_rfl) h
 ·rw[Qlx]at h; exact Eq.trans (by kernel_rfl) h
 ·cases h
theorem QJY:∀ x∈[(3997,0,QrT)],Q4 (V 109) QHW QCn 109 5 x:=List.forall_mem_cons.2 ⟨QzU,fun _ h=>nomatch h⟩
def Qe0 (K : Ex → St → Option R) (vs : List AV) (hh : H) : Option R := match vs, hh with
 | [Ap 3 0], [HA [AV.sl 1 0 v0 1], HO v1, HA [Ai v2], HA [Ai v3], HA [AV.sl 6 0 v4 1], HB.dead, HU v5] => Q9v v0 v1 v2 v3 v4 v5 (fun v6 v7 v8 v9 va vb vc => K (Ex.ret) (St.mk (Q3 26 0 [6] [Ab v6]) [HA [AV.sl 1 0 v7 1], HO v8, HA [Ai v9], HA [Ai va], HA [AV.sl 6 0 vb 1], HB.dead, HU vc]))
 | [Ap 3 0], [HA [AV.sl 1 0 vd 1], HO ve, HA [Ai vf], HA [Ai vg], HA [AV.sl 5 0 vh 1], HU vi] => Q9w vd ve vf vg vh vi (fun v6 v7 v8 v9 va vb vc => K (Ex.ret) (St.mk (Q3 26 0 [6] [Ab v6]) [HA [AV.sl 1 0 v7 1], HO v8, HA [Ai v9], HA [Ai va], HA [AV.sl 5 0 vb 1], HU vc]))
 | _, _ => none
def QxP:Nat→Option Ql:=lkN [(5000,fun st _ K=>Qf 26 [3] st (Qe0 K))]
def QHX:Qi:=Qo (V 109) Qr9 QzT 10
def QrU:Code:=Qk [1,1,1] (Q9 Tryz.f109)
theorem QzV:Q4 (V 109) QHX QxP 109 6 (3997,0,QrU):=.s (size:=26) (ss:=[3]) (F:=@Qe0) (by kernel_rfl) fun R r K vs hh h=>by
 unfold Qe0 at h; split at h
 ·rw[Qas]at h; exact Eq.trans (by kernel_rfl) h
 ·rw[Qat]at h; exact Eq.trans (by kernel_rfl) h
 ·cases h
theorem QJZ:∀ x∈[(3997,0,QrU)],Q4 (V 109) QHX QxP 109 6 x:=List.forall_mem_cons.2 ⟨QzV,fun _ h=>nomatch h⟩
theorem Qor(K:AV→H→Option R)(v0:Int)(v1:Nat)(v2:List Bool)(v3 v4:Int)(v5:Nat)(v6:List Int):evH (V 109) Qr9 QzT QxP 10 109 [Ai v0,Ap 0 0,Ap 2 0,Ap 3 0,Ap 4 0] [HA [AV.sl 1 0 v1 1],HO v2,HA [Ai v3],HA [Ai v4],HA [AV.sl 5 0 v5 1],HU v6] R K=Q2o v0 v1 v2 v3 v4 v5 v6 (fun v7 v8 v9 va vb vc vd=>K (Ab v7) ([HA [AV.sl 1 0 v8 1],HO v9,HA [Ai va],HA [Ai vb],HA [AV.sl 6 0 vc 1],HB.dead,HU vd])) (fun v7 v8 v9 va vb vc vd=>K (Ab v7) ([HA [AV.sl 1 0 v8 1],HO v9,HA [Ai va],HA [Ai vb],HA [AV.sl 5 0 vc 1],HU vd])):=by kernel_rfl
def QLP : Ya := fun args h _ K => match args, h with
 | [Ai v0, Ap 0 0, Ap 2 0, Ap 3 0, Ap 4 0], [HA [AV.sl 1 0 v1 1], HO v2, HA [Ai v3], HA [Ai v4], HA [AV.esl]] => Qn3 v0 v1 v2 v3 v4 (fun v5 v6 v7 v8 v9 va vb => K (Ab v5) ([HA [AV.sl 1 0 v6 1], HO v7, HA [Ai v8], HA [Ai v9], HA [AV.sl 5 0 va 1], HU vb])) (fun v5 v6 v7 v8 v9 => K (Ab v5) ([HA [AV.sl 1 0 v6 1], HO v7, HA [Ai v8], HA [Ai v9], HA [AV.esl]]))
 | [Ai vc, Ap 0 0, Ap 2 0, Ap 3 0, Ap 4 0], [HA [AV.sl 1 0 vd 1], HO ve, HA [Ai vf], HA [Ai vg], HA [AV.sl 5 0 vh 1], HU vi] => Q5S vc vd ve vf vg vh vi (fun v5 v6 v7 v8 v9 va vb => K (Ab v5) ([HA [AV.sl 1 0 v6 1], HO v7, HA [Ai v8], HA [Ai v9], HA [AV.sl 6 0 va 1], HB.dead, HU vb])) (fun v5 v6 v7 v8 v9 va vb => K (Ab v5) ([HA [AV.sl 1 0 v6 1], HO v7, HA [Ai v8], HA [Ai v9], HA [AV.sl 5 0 va 1], HU vb]))
 | _, _ => none
def QK0:=Qp4 109 QLP QzT
theorem D31 : Dom B0 V Qr9 QK0 31 := Dom.t D30 fun args hh R K r h => by
 unfold QLP at h; split at h
 · rw [Qpn] at h; exact ⟨QCn, (Qd.fn (fn0 := Tryz.f109) (by kernel_rfl) (by kernel_rfl) QJY), Eq.trans (by kernel_rfl) h⟩
 · rw [QbY] at h; exact ⟨QxP, (Qd.fn (fn0 := Tryz.f109) (by kernel_rfl) (by kernel_rfl) QJZ), (Qor K _ _ _ _ _ _ _).trans h⟩
 · cases h
def Qe1 (K : Ex → St → Option R) (vs : List AV) (hh : H) : Option R := match vs, hh with
 | [Ap 0 0, Ap 1 0, Ap 2 0, Ap 3 0, Ap 4 0, Ap 5 0, Ai v0, Ab v1], [HA [Ai v2], HA [Ai v3], HA [Fu v4], HA [Ai v5, Ai v6, Ai v7, Ai v8, Ai v9, Fu va, Ai vb, Fu vc], HA [Ab vd], HA [AV.sl 6 0 ve 1], HO vf] => Qbt v0 v1 v2 v3 v4 v5 v6 v7 v8 v9 va vb vc vd ve vf (fun vg vh vi vj vk vl vm vn vo vp vq vr vs vt vu => K (Ex.normal) (St.mk (Q3 50 0 [1, 4, 5, 6, 9] [Ap 0 0, Ap 3 0, Ap 4 0, Ap 5 0, Ai vg]) [HA [Ai vh], HA [Ai vi], HA [Fu vj], HA [Ai vk, Ai vl, Ai vm, Ai vn, Ai vo, Fu vp, Ai vq, Fu vr], HA [Ab vs], HA [AV.sl 6 0 vt 1], HO vu]))
 | _, _ => none
def Qe2 (K : Ex → St → Option R) (vs : List AV) (hh : H) : Option R := match vs, hh with
 | [Ap 0 0, Ap 3 0, Ap 4 0, Ap 5 0, Ai v0], [HA [Ai v1], HA [Ai v2], HA [Fu v3], HA [Ai v4, Ai v5, Ai v6, Ai v7, Ai v8, Fu v9, Ai va, Fu vb], HA [Ab vc], HA [AV.sl 6 0 vd 1], HO ve] => Q73 v0 v1 v2 v3 v4 v5 v6 v7 v8 v9 va vb vc vd ve (fun vf vg vh vi vj vk vl vm vn vo vp vq vr vs vt => K (Ex.ret) (St.mk (Q3 50 0 [8] [Ab vf]) [HA [Ai vg], HA [Ai vh], HA [Fu vi], HA [Ai vj, Ai vk, Ai vl, Ai vm, Ai vn, Fu vo, Ai vp, Fu vq], HA [Ab vr], HA [AV.sl 6 0 vs 1], HO vt]))
 | _, _ => none
def Qe3 (K : Ex → St → Option R) (vs : List AV) (hh : H) : Option R := match vs, hh with
 | [Ap 0 0, Ap 4 0, Ap 5 0, Ai v0], [HA [Ai v1], HA [Ai v2], HA [Fu v3], HA [Ai v4, Ai v5, Ai v6, Ai v7, Ai v8, Fu v9, Ai va, Fu vb], HA [Ab vc], HA [AV.sl 6 0 vd 1], HO ve] => Qbv v0 v1 v2 v3 v4 v5 v6 v7 v8 v9 va vb vc vd ve (fun vf vg vh vi vj vk vl vm vn vo vp vq vr vs vt => K (Ex.ret) (St.mk (Q3 50 0 [8] [Ab vf]) [HA [Ai vg], HA [Ai vh], HA [Fu vi], HA [Ai vj, Ai vk, Ai vl, Ai vm, Ai vn, Fu vo, Ai vp, Fu vq], HA [Ab vr], HA [AV.sl 6 0 vs 1], HO vt]))
 | _, _ => none
def Qe4 (K : Ex → St → Option R) (vs : List AV) (hh : H) : Option R := match vs, hh with
 | [Ap 0 0, Ap 4 0], [HA [Ai v0], HA [Ai v1], HA [Fu v2], HA [Ai v3, Ai v4, Ai v5, Ai v6, Ai v7, Fu v8, Ai v9, Fu va], HA [Ab vb], HA [AV.sl 6 0 vc 1], HO vd] => Qbu v0 v1 v2 v3 v4 v5 v6 v7 v8 v9 va vb vc vd (fun ve vf vg vh vi vj vk vl vm vn vo vp vq vr vs => K (Ex.ret) (St.mk (Q3 50 0 [8] [Ab ve]) [HA [Ai vf], HA [Ai vg], HA [Fu vh], HA [Ai vi, Ai vj, Ai vk, Ai vl, Ai vm, Fu vn, Ai vo, Fu vp], HA [Ab vq], HA [AV.sl 6 0 vr 1], HO vs]))
 | _, _ => none
def Qph:Nat→Option Ql:=lkN [(4000,fun st _ K=>Qf 50 [1,2,3,4,5,6,9,22] st (Qe1 K)),(5000,fun st _ K=>Qf 50 [1,4,5,6,9] st (Qe2 K)),(6000,fun st _ K=>Qf 50 [1,5,6,9] st (Qe3 K)),(8000,fun st _ K=>Qf 50 [1,5] st (Qe4 K))]
def Qu0:Qi:=Qo (V 174) Qr9 QK0 10
def QrV:Code:=Qk [1,1,1] (Q9 Tryz.f174)
def QrW:Code:=Qk [1,1,0,1] (Q9 Tryz.f174)
def QrX:Code:=Qk [1,1,1,1] (Q9 Tryz.f174)
def QrY:Code:=Qk [1,1,1,1,1] (Q9 Tryz.f174)
theorem QzW:Q4 (V 174) Qu0 Qph 174 7 (3997,0,QrV):=.s (size:=50) (ss:=[1,4,5,6,9]) (F:=@Qe2) (by kernel_rfl) fun R r K vs hh h=>by
 unfold Qe2 at h; split at h
 ·rw[Qfx]at h; exact Eq.trans (by kernel_rfl) h
 ·cases h
theorem QzX:Q4 (V 174) Qu0 Qph 174 7 (3996,0,QrW):=.s (size:=50) (ss:=[1,2,3,4,5,6,9,22]) (F:=@Qe1) (by kernel_rfl) fun R r K vs hh h=>by
 unfold Qe1 at h; split at h
 ·rw[Q9I]at h; exact Eq.trans (by kernel_rfl) h
 ·cases h
theorem QzY:Q4 (V 174) Qu0 Qph 174 7 (3996,0,QrX):=.s (size:=50) (ss:=[1,5,6,9]) (F:=@Qe3) (by kernel_rfl) fun R r K vs hh h=>by
 unfold Qe3 at h; split at h
 ·rw[Q9J]at h; exact Eq.trans (by kernel_rfl) h
 ·cases h
theorem QzZ:Q4 (V 174) Qu0 Qph 174 7 (3995,0,QrY):=.s (size:=50) (ss:=[1,5]) (F:=@Qe4) (by kernel_rfl) fun R r K vs hh h=>by
 unfold Qe4 at h; split at h
 ·rw[Q4q]at h; exact Eq.trans (by kernel_rfl) h
 ·cases h
theorem QK1:∀ x∈[(3997,0,QrV),(3996,0,QrW),(3996,0,QrX),(3995,0,QrY)],Q4 (V 174) Qu0 Qph 174 7 x:=List.forall_mem_cons.2 ⟨QzW,List.forall_mem_cons.2 ⟨QzX,List.forall_mem_cons.2 ⟨QzY,List.forall_mem_cons.2 ⟨QzZ,fun _ h=>nomatch h⟩⟩⟩⟩
theorem Qsn(K:AV→H→Option R)(v0 v1 v2:Int)(v3:List Int)(v4 v5 v6 v7 v8:Int)(v9:List Int)(va:Int)(vb:List Int)(vc:Bool)(vd:Nat)(ve:List Bool):evH (V 174) Qr9 QK0 Qph 10 174 [Ai v0,Ap 0 0,Ap 1 0,Ap 2 0,Ap 3 0,Ap 4 0,Ap 5 0] [HA [Ai v1],HA [Ai v2],HA [Fu v3],HA [Ai v4,Ai v5,Ai v6,Ai v7,Ai v8,Fu v9,Ai va,Fu vb],HA [Ab vc],HA [AV.sl 6 0 vd 1],HO ve] R K=Q9K v0 v1 v2 v3 v4 v5 v6 v7 v8 v9 va vb vc vd ve (fun vf vg vh vi vj vk vl vm vn vo vp vq vr vs vt=>K (Ab vf) ([HA [Ai vg],HA [Ai vh],HA [Fu vi],HA [Ai vj,Ai vk,Ai vl,Ai vm,Ai vn,Fu vo,Ai vp,Fu vq],HA [Ab vr],HA [AV.sl 6 0 vs 1],HO vt])):=by kernel_rfl
def QLQ : Ya := fun args h _ K => match args, h with
 | [Ai v0, Ap 0 0, Ap 1 0, Ap 2 0, Ap 3 0, Ap 4 0, Ap 5 0], [HA [Ai v1], HA [Ai v2], HA [Fu v3], HA [Ai v4, Ai v5, Ai v6, Ai v7, Ai v8, Fu v9, Ai va, Fu vb], HA [Ab vc], HA [AV.sl 6 0 vd 1], HO ve] => Qd9 v0 v1 v2 v3 v4 v5 v6 v7 v8 v9 va vb vc vd ve (fun vf vg vh vi vj vk vl vm vn vo vp vq vr vs vt => K (Ab vf) ([HA [Ai vg], HA [Ai vh], HA [Fu vi], HA [Ai vj, Ai vk, Ai vl, Ai vm, Ai vn, Fu vo, Ai vp, Fu vq], HA [Ab vr], HA [AV.sl 6 0 vs 1], HO vt]))
 | _, _ => none
def QK2:=Qp4 174 QLQ QK0
theorem D32 : Dom B0 V Qr9 QK2 32 := Dom.t D31 fun args hh R K r h => by
 unfold QLQ at h; split at h
 · rw [QhI] at h; exact ⟨Qph, (Qd.fn (fn0 := Tryz.f174) (by kernel_rfl) (by kernel_rfl) QK1), (Qsn K _ _ _ _ _ _ _ _ _ _ _ _ _ _ _).trans h⟩
 · cases h
def Qe5 (K : Ex → St → Option R) (vs : List AV) (hh : H) : Option R := match vs, hh with
 | [AV.fn 109 [Ap 0 0, Ap 2 0, Ap 3 0, Ap 4 0], Fu v0, Ai v1, Ai v2], [HA [AV.sl 1 0 v3 1], HO v4, HA [Ai v5], HA [Ai v6], HA [AV.sl 6 0 v7 1], HA [Ai v8, Fu v9], HU va] => Q9y v0 v1 v2 v3 v4 v5 v6 v7 v8 v9 va (fun vb vc vd ve vf vg vh vi => K (Ex.ret) (St.mk (Q3 28 0 [] []) [HA [AV.sl 1 0 vb 1], HO vc, HA [Ai vd], HA [Ai ve], HA [AV.sl 6 0 vf 1], HA [Ai vg, Fu vh], HU vi])) (fun vb vc vd ve vf vg vh vi => K (Ex.exit 0) (St.mk (Q3 28 0 [] []) [HA [AV.sl 1 0 vb 1], HO vc, HA [Ai vd], HA [Ai ve], HA [AV.sl 6 0 vf 1], HA [Ai vg, Fu vh], HU vi]))
 | _, _ => none
def Qe6 (K : Ex → St → Option R) (vs : List AV) (hh : H) : Option R := match vs, hh with
 | [AV.fn 109 [Ap 0 0, Ap 2 0, Ap 3 0, Ap 4 0], Ai v0, Au v1, Fu v2, Ai v3, Ai v4], [HA [AV.sl 1 0 v5 1], HO v6, HA [Ai v7], HA [Ai v8], HA [AV.sl 6 0 v9 1], HA [Ai va, Fu vb], HU vc] => Q9x v0 v1 v2 v3 v4 v5 v6 v7 v8 v9 va vb vc (fun vd ve vf vg vh vi vj vk => K (Ex.ret) (St.mk (Q3 28 0 [] []) [HA [AV.sl 1 0 vd 1], HO ve, HA [Ai vf], HA [Ai vg], HA [AV.sl 6 0 vh 1], HA [Ai vi, Fu vj], HU vk])) (fun vd ve vf vg vh vi vj vk vl vm vn => K (Ex.exit 2) (St.mk (Q3 28 0 [0, 6, 7, 8] [AV.fn 109 [Ap 0 0, Ap 2 0, Ap 3 0, Ap 4 0], Fu vd, Ai ve, Ai vf]) [HA [AV.sl 1 0 vg 1], HO vh, HA [Ai vi], HA [Ai vj], HA [AV.sl 6 0 vk 1], HA [Ai vl, Fu vm], HU vn]))
 | _, _ => none
def Qra:Nat→Option Ql:=lkN [(2400,fun st _ K=>Qf 28 [0,6,7,8] st (Qe5 K)),(4400,fun st _ K=>Qf 28 [0,3,4,6,7,8] st (Qe6 K))]
def Qu1:Qi:=Qo (V 154) Qr9 QK2 10
def QbL:Code:=Qk [1,0,0] (Q9 Tryz.f154)
def QxQ(N:Nat)(st:St)(K:Ex→St→Option R):Option R:=Qs (QQ ((V 154).keep 154 (Ev.Qc QbL*1000+400)) 6) (Qh (V 154) Qu1 Qra 154 6 3997 QbL) N st (QJ (V 154) 154 6 (Ev.Qc QbL*1000+401) K)
def QbM:Code:=Qk [1,0,0,1,1,0,0,1,0,0] (Q9 Tryz.f154)
def QxR(N:Nat)(st:St)(K:Ex→St→Option R):Option R:=Qs (QQ ((V 154).keep 154 (Ev.Qc QbM*1000+400)) 6) (Qh (V 154) Qu1 Qra 154 6 3990 QbM) N st (QJ (V 154) 154 6 (Ev.Qc QbM*1000+401) K)
theorem Q94(K:Ex→St→Option R):∀ N:Nat,(fun (v0 v1:Int) (v2:List Int) (v3 v4:Int) (v5:Nat) (v6:List Bool) (v7 v8:Int) (v9:Nat) (va:Int) (vb vc:List Int)=>QxR N (St.mk (Q3 28 0 [0,3,4,6,7,8] [AV.fn 109 [Ap 0 0,Ap 2 0,Ap 3 0,Ap 4 0],Ai v0,Au v1,Fu v2,Ai v3,Ai v4]) [HA [AV.sl 1 0 v5 1],HO v6,HA [Ai v7],HA [Ai v8],HA [AV.sl 6 0 v9 1],HA [Ai va,Fu vb],HU vc]) K)=YL (fun vd ve vf vg vh vi vj vk=>K (Ex.ret) (St.mk (Q3 28 0 [] []) [HA [AV.sl 1 0 vd 1],HO ve,HA [Ai vf],HA [Ai vg],HA [AV.sl 6 0 vh 1],HA [Ai vi,Fu vj],HU vk])) (fun vd ve vf vg vh vi vj vk vl vm vn=>K (Ex.exit 2) (St.mk (Q3 28 0 [0,6,7,8] [AV.fn 109 [Ap 0 0,Ap 2 0,Ap 3 0,Ap 4 0],Fu vd,Ai ve,Ai vf]) [HA [AV.sl 1 0 vg 1],HO vh,HA [Ai vi],HA [Ai vj],HA [AV.sl 6 0 vk 1],HA [Ai vl,Fu vm],HU vn])) N
 | 0=>by funext v0 v1 v2 v3 v4 v5 v6 v7 v8 v9 va vb vc; rfl
 | N+1=>by
  funext v0 v1 v2 v3 v4 v5 v6 v7 v8 v9 va vb vc
  simp only[YL]
  rw[←Q94 K N]
  kernel_rfl
theorem Q95(K:Ex→St→Option R):∀ N:Nat,(fun (v0:List Int) (v1 v2:Int) (v3:Nat) (v4:List Bool) (v5 v6:Int) (v7:Nat) (v8:Int) (v9 va:List Int)=>QxQ N (St.mk (Q3 28 0 [0,6,7,8] [AV.fn 109 [Ap 0 0,Ap 2 0,Ap 3 0,Ap 4 0],Fu v0,Ai v1,Ai v2]) [HA [AV.sl 1 0 v3 1],HO v4,HA [Ai v5],HA [Ai v6],HA [AV.sl 6 0 v7 1],HA [Ai v8,Fu v9],HU va]) K)=YM (fun vb vc vd ve vf vg vh vi=>K (Ex.ret) (St.mk (Q3 28 0 [] []) [HA [AV.sl 1 0 vb 1],HO vc,HA [Ai vd],HA [Ai ve],HA [AV.sl 6 0 vf 1],HA [Ai vg,Fu vh],HU vi])) (fun vb vc vd ve vf vg vh vi=>K (Ex.exit 0) (St.mk (Q3 28 0 [] []) [HA [AV.sl 1 0 vb 1],HO vc,HA [Ai vd],HA [Ai ve],HA [AV.sl 6 0 vf 1],HA [Ai vg,Fu vh],HU vi])) N
 | 0=>by funext v0 v1 v2 v3 v4 v5 v6 v7 v8 v9 va; rfl
 | N+1=>by
  funext v0 v1 v2 v3 v4 v5 v6 v7 v8 v9 va
  simp only[YM]
  rw[←Q95 K N]
  kernel_rfl
theorem QA0:Q4 (V 154) Qu1 Qra 154 6 (3997,1,QbL):=.l (size:=28) (ss:=[0,6,7,8]) (F:=@Qe5) (by kernel_rfl) (by kernel_rfl) fun R r K vs hh h=>by
 unfold Qe5 at h; split at h
 ·rw[Qav]at h; unfold Q1d at h; rw[←Q95 K NR]at h; exact h
 ·cases h
theorem QA1:Q4 (V 154) Qu1 Qra 154 6 (3990,1,QbM):=.l (size:=28) (ss:=[0,3,4,6,7,8]) (F:=@Qe6) (by kernel_rfl) (by kernel_rfl) fun R r K vs hh h=>by
 unfold Qe6 at h; split at h
 ·rw[Qau]at h; unfold Q1c at h; rw[←Q94 K NR]at h; exact h
 ·cases h
theorem QK3:∀ x∈[(3997,1,QbL),(3990,1,QbM)],Q4 (V 154) Qu1 Qra 154 6 x:=List.forall_mem_cons.2 ⟨QA0,List.forall_mem_cons.2 ⟨QA1,fun _ h=>nomatch h⟩⟩
def Qe7 (K : Ex → St → Option R) (vs : List AV) (hh : H) : Option R := match vs, hh with
 | [AV.fn 174 [Ap 0 0, Ap 1 0, Ap 2 0, Ap 3 0, Ap 4 0, Ap 5 0], Fu v0, Ai v1, Ai v2], [HA [Ai v3], HA [Ai v4], HA [Fu v5], HA [Ai v6, Ai v7, Ai v8, Ai v9, Ai va, Fu vb, Ai vc, Fu vd], HA [Ab ve], HA [AV.sl 6 0 vf 1], HO vg, HA [Ai vh, Fu vi]] => Q6G v0 v1 v2 v3 v4 v5 v6 v7 v8 v9 va vb vc vd ve vf vg vh vi (fun vj vk vl vm vn vo vp vq vr vs vt vu vv vw vx vy => K (Ex.ret) (St.mk (Q3 28 0 [] []) [HA [Ai vj], HA [Ai vk], HA [Fu vl], HA [Ai vm, Ai vn, Ai vo, Ai vp, Ai vq, Fu vr, Ai vs, Fu vt], HA [Ab vu], HA [AV.sl 6 0 vv 1], HO vw, HA [Ai vx, Fu vy]])) (fun vj vk vl vm vn vo vp vq vr vs vt vu vv vw vx vy => K (Ex.exit 0) (St.mk (Q3 28 0 [] []) [HA [Ai vj], HA [Ai vk], HA [Fu vl], HA [Ai vm, Ai vn, Ai vo, Ai vp, Ai vq, Fu vr, Ai vs, Fu vt], HA [Ab vu], HA [AV.sl 6 0 vv 1], HO vw, HA [Ai vx, Fu vy]]))
 | _, _ => none
def Qe8 (K : Ex → St → Option R) (vs : List AV) (hh : H) : Option R := match vs, hh with
 | [AV.fn 174 [Ap 0 0, Ap 1 0, Ap 2 0, Ap 3 0, Ap 4 0, Ap 5 0], Ai v0, Au v1, Fu v2, Ai v3, Ai v4], [HA [Ai v5], HA [Ai v6], HA [Fu v7], HA [Ai v8, Ai v9, Ai va, Ai vb, Ai vc, Fu vd, Ai ve, Fu vf], HA [Ab vg], HA [AV.sl 6 0 vh 1], HO vi, HA [Ai vj, Fu vk]] => Q6F v0 v1 v2 v3 v4 v5 v6 v7 v8 v9 va vb vc vd ve vf vg vh vi vj vk (fun vl vm vn vo vp vq vr vs vt vu vv vw vx vy vz v10 => K (Ex.ret) (St.mk (Q3 28 0 [] []) [HA [Ai vl], HA [Ai vm], HA [Fu vn], HA [Ai vo, Ai vp, Ai vq, Ai vr, Ai vs, Fu vt, Ai vu, Fu vv], HA [Ab vw], HA [AV.sl 6 0 vx 1], HO vy, HA [Ai vz, Fu v10]])) (fun vl vm vn vo vp vq vr vs vt vu vv vw vx vy vz v10 v11 v12 v13 => K (Ex.exit 2) (St.mk (Q3 28 0 [0, 6, 7, 8] [AV.fn 174 [Ap 0 0, Ap 1 0, Ap 2 0, Ap 3 0, Ap 4 0, Ap 5 0], Fu vl, Ai vm, Ai vn]) [HA [Ai vo], HA [Ai vp], HA [Fu vq], HA [Ai vr, Ai vs, Ai vt, Ai vu, Ai vv, Fu vw, Ai vx, Fu vy], HA [Ab vz], HA [AV.sl 6 0 v10 1], HO v11, HA [Ai v12, Fu v13]]))
 | _, _ => none
def Qrb:Nat→Option Ql:=lkN [(2400,fun st _ K=>Qf 28 [0,6,7,8] st (Qe7 K)),(4400,fun st _ K=>Qf 28 [0,3,4,6,7,8] st (Qe8 K))]
def Qu2:Qi:=Qo (V 154) Qr9 QK2 10
def QbN:Code:=Qk [1,0,0] (Q9 Tryz.f154)
def QxS(N:Nat)(st:St)(K:Ex→St→Option R):Option R:=Qs (QQ ((V 154).keep 154 (Ev.Qc QbN*1000+400)) 8) (Qh (V 154) Qu2 Qrb 154 8 3997 QbN) N st (QJ (V 154) 154 8 (Ev.Qc QbN*1000+401) K)
def QbO:Code:=Qk [1,0,0,1,1,0,0,1,0,0] (Q9 Tryz.f154)
def QxT(N:Nat)(st:St)(K:Ex→St→Option R):Option R:=Qs (QQ ((V 154).keep 154 (Ev.Qc QbO*1000+400)) 8) (Qh (V 154) Qu2 Qrb 154 8 3990 QbO) N st (QJ (V 154) 154 8 (Ev.Qc QbO*1000+401) K)
theorem Q6W(K:Ex→St→Option R):∀ N:Nat,(fun (v0 v1:Int) (v2:List Int) (v3 v4 v5 v6:Int) (v7:List Int) (v8 v9 va vb vc:Int) (vd:List Int) (ve:Int) (vf:List Int) (vg:Bool) (vh:Nat) (vi:List Bool) (vj:Int) (vk:List Int)=>QxT N (St.mk (Q3 28 0 [0,3,4,6,7,8] [AV.fn 174 [Ap 0 0,Ap 1 0,Ap 2 0,Ap 3 0,Ap 4 0,Ap 5 0],Ai v0,Au v1,Fu v2,Ai v3,Ai v4]) [HA [Ai v5],HA [Ai v6],HA [Fu v7],HA [Ai v8,Ai v9,Ai va,Ai vb,Ai vc,Fu vd,Ai ve,Fu vf],HA [Ab vg],HA [AV.sl 6 0 vh 1],HO vi,HA [Ai vj,Fu vk]]) K)=Yi (fun vl vm vn vo vp vq vr vs vt vu vv vw vx vy vz v10=>K (Ex.ret) (St.mk (Q3 28 0 [] []) [HA [Ai vl],HA [Ai vm],HA [Fu vn],HA [Ai vo,Ai vp,Ai vq,Ai vr,Ai vs,Fu vt,Ai vu,Fu vv],HA [Ab vw],HA [AV.sl 6 0 vx 1],HO vy,HA [Ai vz,Fu v10]])) (fun vl vm vn vo vp vq vr vs vt vu vv vw vx vy vz v10 v11 v12 v13=>K (Ex.exit 2) (St.mk (Q3 28 0 [0,6,7,8] [AV.fn 174 [Ap 0 0,Ap 1 0,Ap 2 0,Ap 3 0,Ap 4 0,Ap 5 0],Fu vl,Ai vm,Ai vn]) [HA [Ai vo],HA [Ai vp],HA [Fu vq],HA [Ai vr,Ai vs,Ai vt,Ai vu,Ai vv,Fu vw,Ai vx,Fu vy],HA [Ab vz],HA [AV.sl 6 0 v10 1],HO v11,HA [Ai v12,Fu v13]])) N
 | 0=>by funext v0 v1 v2 v3 v4 v5 v6 v7 v8 v9 va vb vc vd ve vf vg vh vi vj vk; rfl
 | N+1=>by
  funext v0 v1 v2 v3 v4 v5 v6 v7 v8 v9 va vb vc vd ve vf vg vh vi vj vk
  simp only[Yi]
  rw[←Q6W K N]
  kernel_rfl
theorem Q6X(K:Ex→St→Option R):∀ N:Nat,(fun (v0:List Int) (v1 v2 v3 v4:Int) (v5:List Int) (v6 v7 v8 v9 va:Int) (vb:List Int) (vc:Int) (vd:List Int) (ve:Bool) (vf:Nat) (vg:List Bool) (vh:Int) (vi:List Int)=>QxS N (St.mk (Q3 28 0 [0,6,7,8] [AV.fn 174 [Ap 0 0,Ap 1 0,Ap 2 0,Ap 3 0,Ap 4 0,Ap 5 0],Fu v0,Ai v1,Ai v2]) [HA [Ai v3],HA [Ai v4],HA [Fu v5],HA [Ai v6,Ai v7,Ai v8,Ai v9,Ai va,Fu vb,Ai vc,Fu vd],HA [Ab ve],HA [AV.sl 6 0 vf 1],HO vg,HA [Ai vh,Fu vi]]) K)=Yj (fun vj vk vl vm vn vo vp vq vr vs vt vu vv vw vx vy=>K (Ex.ret) (St.mk (Q3 28 0 [] []) [HA [Ai vj],HA [Ai vk],HA [Fu vl],HA [Ai vm,Ai vn,Ai vo,Ai vp,Ai vq,Fu vr,Ai vs,Fu vt],HA [Ab vu],HA [AV.sl 6 0 vv 1],HO vw,HA [Ai vx,Fu vy]])) (fun vj vk vl vm vn vo vp vq vr vs vt vu vv vw vx vy=>K (Ex.exit 0) (St.mk (Q3 28 0 [] []) [HA [Ai vj],HA [Ai vk],HA [Fu vl],HA [Ai vm,Ai vn,Ai vo,Ai vp,Ai vq,Fu vr,Ai vs,Fu vt],HA [Ab vu],HA [AV.sl 6 0 vv 1],HO vw,HA [Ai vx,Fu vy]])) N
 | 0=>by funext v0 v1 v2 v3 v4 v5 v6 v7 v8 v9 va vb vc vd ve vf vg vh vi; rfl
 | N+1=>by
  funext v0 v1 v2 v3 v4 v5 v6 v7 v8 v9 va vb vc vd ve vf vg vh vi
  simp only[Yj]
  rw[←Q6X K N]
  kernel_rfl
theorem QA2:Q4 (V 154) Qu2 Qrb 154 8 (3997,1,QbN):=.l (size:=28) (ss:=[0,6,7,8]) (F:=@Qe7) (by kernel_rfl) (by kernel_rfl) fun R r K vs hh h=>by
 unfold Qe7 at h; split at h
 ·rw[Q8g]at h; unfold Q02 at h; rw[←Q6X K NR]at h; exact h
 ·cases h
theorem QA3:Q4 (V 154) Qu2 Qrb 154 8 (3990,1,QbO):=.l (size:=28) (ss:=[0,3,4,6,7,8]) (F:=@Qe8) (by kernel_rfl) (by kernel_rfl) fun R r K vs hh h=>by
 unfold Qe8 at h; split at h
 ·rw[Q8f]at h; unfold Q01 at h; rw[←Q6W K NR]at h; exact h
 ·cases h
theorem QK4:∀ x∈[(3997,1,QbN),(3990,1,QbO)],Q4 (V 154) Qu2 Qrb 154 8 x:=List.forall_mem_cons.2 ⟨QA2,List.forall_mem_cons.2 ⟨QA3,fun _ h=>nomatch h⟩⟩
def QLR : Ya := fun args h _ K => match args, h with
 | [AV.fn 109 [Ap 0 0, Ap 2 0, Ap 3 0, Ap 4 0], Ap 5 0], [HA [AV.sl 1 0 v0 1], HO v1, HA [Ai v2], HA [Ai v3], HA [AV.esl], HA [Ai v4, Fu v5]] => QaT v0 v1 v2 v3 v4 v5 (fun v6 v7 v8 v9 va vb vc vd => K (AV.tup []) ([HA [AV.sl 1 0 v6 1], HO v7, HA [Ai v8], HA [Ai v9], HA [AV.sl 6 0 va 1], HA [Ai vb, Fu vc], HU vd]))
 | [AV.fn 174 [Ap 0 0, Ap 1 0, Ap 2 0, Ap 3 0, Ap 4 0, Ap 5 0], Ap 7 0], [HA [Ai ve], HA [Ai vf], HA [Fu vg], HA [Ai vh, Ai vi, Ai vj, Ai vk, Ai vl, Fu vm, Ai vn, Fu vo], HA [Ab vp], HA [AV.sl 6 0 vq 1], HO vr, HA [Ai vs, Fu vt]] => Q7Z ve vf vg vh vi vj vk vl vm vn vo vp vq vr vs vt (fun v6 v7 v8 v9 va vb vc vd vu vv vw vx vy vz v10 v11 => K (AV.tup []) ([HA [Ai v6], HA [Ai v7], HA [Fu v8], HA [Ai v9, Ai va, Ai vb, Ai vc, Ai vd, Fu vu, Ai vv, Fu vw], HA [Ab vx], HA [AV.sl 6 0 vy 1], HO vz, HA [Ai v10, Fu v11]]))
 | _, _ => none
def Q0P:=Qp4 154 QLR QK2
theorem D33 : Dom B0 V Qr9 Q0P 33 := Dom.t D32 fun args hh R K r h => by
 unfold QLR at h; split at h
 · rw [QbZ] at h; exact ⟨Qra, (Qd.fn (fn0 := Tryz.f154) (by kernel_rfl) (by kernel_rfl) QK3), Eq.trans (by kernel_rfl) h⟩
 · rw [Q9L] at h; exact ⟨Qrb, (Qd.fn (fn0 := Tryz.f154) (by kernel_rfl) (by kernel_rfl) QK4), Eq.trans (by kernel_rfl) h⟩
 · cases h
def Qmz (K : Ex → St → Option R) (vs : List AV) (hh : H) : Option R := match vs, hh with
 | [Ap 0 0, Ap 1 0, AV.fsl (Blk.bools v0), Ai v1, Ai v2], [HA [Ai v3, AV.esl], HA [Ai v4, AV.esl]] => Qkg v0 v1 v2 v3 v4 (fun v5 v6 => K (Ex.exit 0) (St.mk (Q3 39 0 [2, 4] [Ap 0 0, Ap 1 0]) [HA [Ai v5, AV.esl], HA [Ai v6, AV.esl]]))
 | [Ap 0 0, Ap 1 0, AV.fsl (Blk.bools v7), Ai v8, Ai v9], [HA [Ai va, AV.esl], HA [Ai vb, AV.sl 2 0 vc 1], HU vd] => Q9A v7 v8 v9 va vb vc vd (fun v5 v6 ve vf => K (Ex.exit 0) (St.mk (Q3 39 0 [2, 4] [Ap 0 0, Ap 1 0]) [HA [Ai v5, AV.esl], HA [Ai v6, AV.sl 2 0 ve 1], HU vf]))
 | _, _ => none
def o88:Nat→Option Ql:=lkN [(6400,fun st _ K=>Qf 39 [2,4,18,19,20] st (Qmz K))]
def q88:Qi:=Qo (V 88) Qr9 Q0P 10
def QmA:Code:=Qk [1,1,1,0,1,0,0] (Q9 Tryz.f88)
def Qww(N:Nat)(st:St)(K:Ex→St→Option R):Option R:=Qs (QQ ((V 88).keep 88 (Ev.Qc QmA*1000+400)) 0) (Qh (V 88) q88 o88 88 0 3993 QmA) N st (QJ (V 88) 88 0 (Ev.Qc QmA*1000+401) K)
theorem Qfg(K:Ex→St→Option R):∀ N:Nat,(fun (v0:List Bool) (v1 v2 v3 v4:Int)=>Qww N (St.mk (Q3 39 0 [2,4,18,19,20] [Ap 0 0,Ap 1 0,AV.fsl (Blk.bools v0),Ai v1,Ai v2]) [HA [Ai v3,AV.esl],HA [Ai v4,AV.esl]]) K)=Q9z (fun v5 v6=>K (Ex.exit 0) (St.mk (Q3 39 0 [2,4] [Ap 0 0,Ap 1 0]) [HA [Ai v5,AV.esl],HA [Ai v6,AV.esl]])) N
 | 0=>by funext v0 v1 v2 v3 v4; rfl
 | N+1=>by
  funext v0 v1 v2 v3 v4
  simp only[Q9z]
  rw[←Qfg K N]
  kernel_rfl
theorem QcB(K:Ex→St→Option R):∀ N:Nat,(fun (v0:List Bool) (v1 v2 v3 v4:Int) (v5:Nat) (v6:List Int)=>Qww N (St.mk (Q3 39 0 [2,4,18,19,20] [Ap 0 0,Ap 1 0,AV.fsl (Blk.bools v0),Ai v1,Ai v2]) [HA [Ai v3,AV.esl],HA [Ai v4,AV.sl 2 0 v5 1],HU v6]) K)=Jz (fun v7 v8 v9 va=>K (Ex.exit 0) (St.mk (Q3 39 0 [2,4] [Ap 0 0,Ap 1 0]) [HA [Ai v7,AV.esl],HA [Ai v8,AV.sl 2 0 v9 1],HU va])) N
 | 0=>by funext v0 v1 v2 v3 v4 v5 v6; rfl
 | N+1=>by
  funext v0 v1 v2 v3 v4 v5 v6
  simp only[Jz]
  rw[←QcB K N]
  kernel_rfl
theorem QHY:Q4 (V 88) q88 o88 88 0 (3993,1,QmA):=.l (size:=39) (ss:=[2,4,18,19,20]) (F:=@Qmz) (by kernel_rfl) (by kernel_rfl) fun R r K vs hh h=>by
 unfold Qmz at h; split at h
 ·rw[Qrc]at h; unfold Qet at h; rw[←Qfg K NR]at h; exact h
 ·rw[Qeu]at h; unfold Q5T at h; rw[←QcB K NR]at h; exact h
 ·cases h
theorem QRi:∀ x∈[(3993,1,QmA)],Q4 (V 88) q88 o88 88 0 x:=List.forall_mem_cons.2 ⟨QHY,fun _ h=>nomatch h⟩
def QQ4 : Ev.Qj := fun args _ K => match args with
 | ([AV.fsl (Blk.bools v0)]) => QhD v0 (fun v1 v2 v3 => K (AV.tup [AV.agg (Blk.any [Ai v1, Fu v2]), Ai v3]))
 | _ => none
def S88:=Qr 88 QQ4 Qr9
theorem D34 : Dom B0 V S88 Q0P 34 := Dom.s (m := 33) (n := 0) D33 D33 (O := o88) (Qd.fn (fn0 := Tryz.f88) (by kernel_rfl) (by kernel_rfl) QRi) fun args R K r h => by
 unfold QQ4 at h; split at h
 · rw [QoE] at h; exact Eq.trans (by kernel_rfl) h
 · cases h
def QjE (K : Ex → St → Option R) (vs : List AV) (hh : H) : Option R := match vs, hh with
 | [Ap 0 0, Ap 1 0, Ab v0], [HA [Ai v1, Ai v2, Ai v3, Ai v4, Ai v5, AV.esl, Ai v6, AV.esl], HA [Ai v7, Ai v8, Ai v9, Ai va, Ai vb, Fu vc, Ai vd, Fu ve]] => Q9B v0 v1 v2 v3 v4 v5 v6 v7 v8 v9 va vb vc vd ve (fun vf vg vh vi vj vk vl => K (Ex.ret) (St.mk (Q3 62 0 [2, 3] [Ap 0 0, Ai vf]) [HA [Ai vg, Ai vh, Ai vi, Ai vj, Ai vk, AV.esl, Ai vl, AV.esl]])) (fun vf vg vh vi vj vk vl vm vn vo vp vq vr vs => K (Ex.normal) (St.mk (Q3 62 0 [2, 4] [Ap 0 0, Ap 1 0]) [HA [Ai vf, Ai vg, Ai vh, Ai vi, Ai vj, AV.esl, Ai vk, AV.esl], HA [Ai vl, Ai vm, Ai vn, Ai vo, Ai vp, Fu vq, Ai vr, Fu vs]]))
 | _, _ => none
def o52:Nat→Option Ql:=lkN [(14000,fun st _ K=>Qf 62 [2,4,59] st (QjE K))]
def q52:Qi:=Qo (V 52) S88 Q0P 10
def Qwx:Code:=Qk [1,1,1,1,1,1,1,1,1,1,1,0,1] (Q9 Tryz.f52)
theorem QFR:Q4 (V 52) q52 o52 52 0 (3987,0,Qwx):=.s (size:=62) (ss:=[2,4,59]) (F:=@QjE) (by kernel_rfl) fun R r K vs hh h=>by
 unfold QjE at h; split at h
 ·rw[Qev]at h; exact Eq.trans (by kernel_rfl) h
 ·cases h
theorem QRj:∀ x∈[(3987,0,Qwx)],Q4 (V 52) q52 o52 52 0 x:=List.forall_mem_cons.2 ⟨QFR,fun _ h=>nomatch h⟩
theorem Qv7(K:AV→Option R)(v0:Int)(v1:List Int):JD (V 52) S88 Q0P o52 10 52 ([AV.agg (Blk.any [Ai v0,Fu v1])]) R K=Q9C v0 v1 (fun v2 v3 v4 v5 v6 v7 v8 v9 va=>K (AV.tup [AV.agg (Blk.any [Ai v2,Ai v3,Ai v4,Ai v5,Ai v6,Fu v7,Ai v8,Fu v9]),Ai va])):=by kernel_rfl
def QQ5 : Ev.Qj := fun args _ K => match args with
 | ([AV.agg (Blk.any [Ai v0, Fu v1])]) => QaV v0 v1 (fun v2 v3 v4 v5 v6 v7 v8 v9 va => K (AV.tup [AV.agg (Blk.any [Ai v2, Ai v3, Ai v4, Ai v5, Ai v6, Fu v7, Ai v8, Fu v9]), Ai va]))
 | _ => none
def S52:=Qr 52 QQ5 S88
theorem D35 : Dom B0 V S52 Q0P 35 := Dom.s (m := 34) (n := 0) D34 D34 (O := o52) (Qd.fn (fn0 := Tryz.f52) (by kernel_rfl) (by kernel_rfl) QRj) fun args R K r h => by
 unfold QQ5 at h; split at h
 · rw [Qew] at h; exact (Qv7 K _ _).trans h
 · cases h
def QjF (K : Ex → St → Option R) (vs : List AV) (hh : H) : Option R := match vs, hh with
 | [Ap 0 0, Ap 1 0, Ai v0], [HA [Ai v1, Ai v2, AV.esl, AV.esl, AV.esl, Ai v3, Ai v4, Ai v5, Ai v6, AV.esl, Ai v7, AV.esl, AV.esl, AV.esl, Ai v8, Ai v9, Ai va, Ai vb, Ai vc, AV.esl, Ai vd, AV.esl], HA [Ai ve, Ai vf, Fu vg, AV.fsl (Blk.ints .i64 vh), AV.fsl (Blk.ints .i64 vi), Ai vj, Ai vk, Ai vl, Ai vm, Fu vn, Ai vo, Fu vp, AV.fsl (Blk.ints .i64 vq), AV.fsl (Blk.ints .i64 vr), Ai vs, Ai vt, Ai vu, Ai vv, Ai vw, Fu vx, Ai vy, Fu vz]] => JA v0 v1 v2 v3 v4 v5 v6 v7 v8 v9 va vb vc vd ve vf vg vh vi vj vk vl vm vn vo vp vq vr vs vt vu vv vw vx vy vz (fun v10 v11 v12 v13 v14 v15 v16 v17 v18 v19 v1a v1b v1c v1d => K (Ex.ret) (St.mk (Q3 40 0 [4, 5] [Ap 0 0, Ai v10]) [HA [Ai v11, Ai v12, AV.esl, AV.esl, AV.esl, Ai v13, Ai v14, Ai v15, Ai v16, AV.esl, Ai v17, AV.esl, AV.esl, AV.esl, Ai v18, Ai v19, Ai v1a, Ai v1b, Ai v1c, AV.esl, Ai v1d, AV.esl]])) (fun v10 v11 v12 v13 v14 v15 v16 v17 v18 v19 v1a v1b v1c v1d v1e v1f v1g v1h v1i v1j v1k v1l v1m => K (Ex.ret) (St.mk (Q3 40 0 [4, 5] [Ap 0 0, Ai v10]) [HA [Ai v11, Ai v12, Fu v13, AV.fsl (Blk.ints .i64 v14), AV.fsl (Blk.ints .i64 v15), Ai v16, Ai v17, Ai v18, Ai v19, Fu v1a, Ai v1b, Fu v1c, AV.fsl (Blk.ints .i64 v1d), AV.fsl (Blk.ints .i64 v1e), Ai v1f, Ai v1g, Ai v1h, Ai v1i, Ai v1j, Fu v1k, Ai v1l, Fu v1m]]))
 | _, _ => none
def o14:Nat→Option Ql:=lkN [(10000,fun st _ K=>Qf 40 [4,6,7] st (QjF K))]
def q14:Qi:=Qo (V 14) S52 Q0P 10
def Qwy:Code:=Qk [1,1,1] (Q9 Tryz.f14)
theorem QFS:Q4 (V 14) q14 o14 14 0 (3997,0,Qwy):=.s (size:=40) (ss:=[4,6,7]) (F:=@QjF) (by kernel_rfl) fun R r K vs hh h=>by
 unfold QjF at h; split at h
 ·rw[Zf]at h; exact Eq.trans (by kernel_rfl) h
 ·cases h
theorem QRk:∀ x∈[(3997,0,Qwy)],Q4 (V 14) q14 o14 14 0 x:=List.forall_mem_cons.2 ⟨QFS,fun _ h=>nomatch h⟩
theorem Qso(K:AV→Option R)(v0 v1:Int)(v2:List Int):JD (V 14) S52 Q0P o14 10 14 ([Ai v0,AV.agg (Blk.any [Ai v1,Fu v2])]) R K=Uw v0 v1 v2 (fun v3 v4 v5 v6 v7 v8 v9 va vb vc vd ve vf vg vh vi vj vk vl vm vn vo vp=>K (AV.tup [AV.agg (Blk.any [Ai v3,Ai v4,Fu v5,AV.fsl (Blk.ints .i64 v6),AV.fsl (Blk.ints .i64 v7),Ai v8,Ai v9,Ai va,Ai vb,Fu vc,Ai vd,Fu ve,AV.fsl (Blk.ints .i64 vf),AV.fsl (Blk.ints .i64 vg),Ai vh,Ai vi,Ai vj,Ai vk,Ai vl,Fu vm,Ai vn,Fu vo]),Ai vp])):=by kernel_rfl
def QQ6 : Ev.Qj := fun args _ K => match args with
 | ([Ai v0, AV.agg (Blk.any [Ai v1, Fu v2])]) => Q0s v0 v1 v2 (fun v3 v4 v5 v6 v7 v8 v9 va vb vc vd ve vf vg vh vi vj vk vl vm vn vo vp => K (AV.tup [AV.agg (Blk.any [Ai v3, Ai v4, Fu v5, AV.fsl (Blk.ints .i64 v6), AV.fsl (Blk.ints .i64 v7), Ai v8, Ai v9, Ai va, Ai vb, Fu vc, Ai vd, Fu ve, AV.fsl (Blk.ints .i64 vf), AV.fsl (Blk.ints .i64 vg), Ai vh, Ai vi, Ai vj, Ai vk, Ai vl, Fu vm, Ai vn, Fu vo]), Ai vp]))
 | _ => none
def S14:=Qr 14 QQ6 S52
theorem D36 : Dom B0 V S14 Q0P 36 := Dom.s (m := 35) (n := 0) D35 D35 (O := o14) (Qd.fn (fn0 := Tryz.f14) (by kernel_rfl) (by kernel_rfl) QRk) fun args R K r h => by
 unfold QQ6 at h; split at h
 · rw [JB] at h; exact (Qso K _ _ _).trans h
 · cases h
def QjG (K : Ex → St → Option R) (vs : List AV) (hh : H) : Option R := match vs, hh with
 | [AV.fsl (Blk.cols [Col.ints .i64 v0, Col.fints .u64 v1] []), Ai v2, Ai v3], [] => Qcl v0 v1 v2 v3 (fun v4 => K (Ex.ret) (St.mk (Q3 21 0 [2] [Ab v4]) [])) (fun _ => K (Ex.exit 0) (St.mk (Q3 21 0 [] []) []))
 | _, _ => none
def QK5:Nat→Option Ql:=lkN [(3400,fun st _ K=>Qf 21 [5,6,7] st (QjG K))]
def QNg:Qi:=Qo (V 135) S14 Q0P 10
def Qhh:Code:=Qk [1,0,1,0,0] (Q9 Tryz.f135)
def QCo(N:Nat)(st:St)(K:Ex→St→Option R):Option R:=Qs (QQ ((V 135).keep 135 (Ev.Qc Qhh*1000+400)) 0) (Qh (V 135) QNg QK5 135 0 3995 Qhh) N st (QJ (V 135) 135 0 (Ev.Qc Qhh*1000+401) K)
theorem QbP(K:Ex→St→Option R):∀ N:Nat,(fun (v0:List Int) (v1:List (List Int)) (v2 v3:Int)=>QCo N (St.mk (Q3 21 0 [5,6,7] [AV.fsl (Blk.cols [Col.ints .i64 v0,Col.fints .u64 v1] []),Ai v2,Ai v3]) []) K)=UM (fun v4=>K (Ex.ret) (St.mk (Q3 21 0 [2] [Ab v4]) [])) (fun _=>K (Ex.exit 0) (St.mk (Q3 21 0 [] []) [])) N
 | 0=>by funext v0 v1 v2 v3; rfl
 | N+1=>by
  funext v0 v1 v2 v3
  simp only[UM]
  rw[←QbP K N]
  kernel_rfl
theorem QFT:Q4 (V 135) QNg QK5 135 0 (3995,1,Qhh):=.l (size:=21) (ss:=[5,6,7]) (F:=@QjG) (by kernel_rfl) (by kernel_rfl) fun R r K vs hh h=>by
 unfold QjG at h; split at h
 ·rw[Q6D]at h; unfold Q0t at h; rw[←QbP K NR]at h; exact h
 ·cases h
theorem QQ7:∀ x∈[(3995,1,Qhh)],Q4 (V 135) QNg QK5 135 0 x:=List.forall_mem_cons.2 ⟨QFT,fun _ h=>nomatch h⟩
def QLS : Ev.Qj := fun args _ K => match args with
 | ([AV.fsl (Blk.cols [Col.ints .i64 v0, Col.fints .u64 v1] [])]) => Q2p v0 v1 (fun v2 => K (Ab v2))
 | _ => none
def QNh:=Qr 135 QLS S14
theorem D37 : Dom B0 V QNh Q0P 37 := Dom.s (m := 36) (n := 0) D36 D36 (O := QK5) (Qd.fn (fn0 := Tryz.f135) (by kernel_rfl) (by kernel_rfl) QQ7) fun args R K r h => by
 unfold QLS at h; split at h
 · rw [QaW] at h; exact Eq.trans (by kernel_rfl) h
 · cases h
def QmB (K : Ex → St → Option R) (vs : List AV) (hh : H) : Option R := match vs, hh with
 | [Ap 0 0, Ap 1 0, Ap 2 0, Ab v0], [HA [Ai v1, Ai v2, Fu v3, AV.fsl (Blk.ints .i64 v4), AV.fsl (Blk.ints .i64 v5), Ai v6, Ai v7, Ai v8, Ai v9, Fu va, Ai vb, Fu vc, AV.fsl (Blk.ints .i64 vd), AV.fsl (Blk.ints .i64 ve), Ai vf, Ai vg, Ai vh, Ai vi, Ai vj, Fu vk, Ai vl, Fu vm], HA [Ai vn, Ai vo, Ai vp, Ai vq, Fu vr, Ai vs, Fu vt, AV.fsl (Blk.ints .i64 vu), AV.fsl (Blk.ints .i64 vv)], HA [Ai vw, Ai vx, Ai vy, Ai vz, Ai v10, Fu v11, Ai v12, Fu v13]] => Q3a v0 v1 v2 v3 v4 v5 v6 v7 v8 v9 va vb vc vd ve vf vg vh vi vj vk vl vm vn vo vp vq vr vs vt vu vv vw vx vy vz v10 v11 v12 v13 (fun v14 => K (Ex.ret) (St.mk (Q3 110 0 [2] [Ab v14]) []))
 | _, _ => none
def QmC (K : Ex → St → Option R) (vs : List AV) (hh : H) : Option R := match vs, hh with
 | [Ap 0 0, Ap 1 0, Ab v0, Ab v1], [HA [Ai v2, Ai v3, Fu v4, AV.fsl (Blk.ints .i64 v5), AV.fsl (Blk.ints .i64 v6), Ai v7, Ai v8, Ai v9, Ai va, Fu vb, Ai vc, Fu vd, AV.fsl (Blk.ints .i64 ve), AV.fsl (Blk.ints .i64 vf), Ai vg, Ai vh, Ai vi, Ai vj, Ai vk, Fu vl, Ai vm, Fu vn], HA [Ai vo, Ai vp, Ai vq, Ai vr, Ai vs, Fu vt, Ai vu, Fu vv]] => YS v0 v1 v2 v3 v4 v5 v6 v7 v8 v9 va vb vc vd ve vf vg vh vi vj vk vl vm vn vo vp vq vr vs vt vu vv (fun vw => K (Ex.ret) (St.mk (Q3 110 0 [2] [Ab vw]) []))
 | _, _ => none
def QmD (K : Ex → St → Option R) (vs : List AV) (hh : H) : Option R := match vs, hh with
 | [Ap 0 0, Ab v0, Ab v1, Ab v2], [HA [Ai v3, Ai v4, Fu v5, AV.fsl (Blk.ints .i64 v6), AV.fsl (Blk.ints .i64 v7), Ai v8, Ai v9, Ai va, Ai vb, Fu vc, Ai vd, Fu ve, AV.fsl (Blk.ints .i64 vf), AV.fsl (Blk.ints .i64 vg), Ai vh, Ai vi, Ai vj, Ai vk, Ai vl, Fu vm, Ai vn, Fu vo]] => YR v0 v1 v2 v3 v4 v5 v6 v7 v8 v9 va vb vc vd ve vf vg vh vi vj vk vl vm vn vo (fun vp => K (Ex.ret) (St.mk (Q3 110 0 [2] [Ab vp]) []))
 | _, _ => none
def o79:Nat→Option Ql:=lkN [(4000,fun st _ K=>Qf 110 [1,4,5,6] st (QmB K)),(5000,fun st _ K=>Qf 110 [1,5,6,7] st (QmC K)),(6000,fun st _ K=>Qf 110 [1,6,7,8] st (QmD K))]
def q79:Qi:=Qo (V 79) QNh Q0P 10
def Qq1:Code:=Qk [1,1,1] (Q9 Tryz.f79)
def Qq2:Code:=Qk [1,1,1,1] (Q9 Tryz.f79)
def QA4:Code:=Qk [1,1,1,1,1] (Q9 Tryz.f79)
theorem Qpi(K:Ex→St→Option R)(v0 v1:Bool)(v2 v3:Int)(v4 v5 v6:List Int)(v7 v8 v9 va:Int)(vb:List Int)(vc:Int)(vd ve vf:List Int)(vg vh vi vj vk:Int)(vl:List Int)(vm:Int)(vn:List Int)(vo vp vq vr vs:Int)(vt:List Int)(vu:Int)(vv:List Int):Qh (V 79) q79 o79 79 0 3996 Qq2 (St.mk (Q3 110 0 [1,5,6,7] [Ap 0 0,Ap 1 0,Ab v0,Ab v1]) [HA [Ai v2,Ai v3,Fu v4,AV.fsl (Blk.ints .i64 v5),AV.fsl (Blk.ints .i64 v6),Ai v7,Ai v8,Ai v9,Ai va,Fu vb,Ai vc,Fu vd,AV.fsl (Blk.ints .i64 ve),AV.fsl (Blk.ints .i64 vf),Ai vg,Ai vh,Ai vi,Ai vj,Ai vk,Fu vl,Ai vm,Fu vn],HA [Ai vo,Ai vp,Ai vq,Ai vr,Ai vs,Fu vt,Ai vu,Fu vv]]) (QJ (V 79) 79 0 (Ev.Qc Qq2*1000+1) K)=Q4n v0 v1 v2 v3 v4 v5 v6 v7 v8 v9 va vb vc vd ve vf vg vh vi vj vk vl vm vn vo vp vq vr vs vt vu vv (fun vw=>K (Ex.ret) (St.mk (Q3 110 0 [2] [Ab vw]) [])):=by kernel_rfl
theorem Qpj(K:Ex→St→Option R)(v0:Bool)(v1 v2:Int)(v3 v4 v5:List Int)(v6 v7 v8 v9:Int)(va:List Int)(vb:Int)(vc vd ve:List Int)(vf vg vh vi vj:Int)(vk:List Int)(vl:Int)(vm:List Int)(vn vo vp vq:Int)(vr:List Int)(vs:Int)(vt vu vv:List Int)(vw vx vy vz v10:Int)(v11:List Int)(v12:Int)(v13:List Int):Qh (V 79) q79 o79 79 0 3997 Qq1 (St.mk (Q3 110 0 [1,4,5,6] [Ap 0 0,Ap 1 0,Ap 2 0,Ab v0]) [HA [Ai v1,Ai v2,Fu v3,AV.fsl (Blk.ints .i64 v4),AV.fsl (Blk.ints .i64 v5),Ai v6,Ai v7,Ai v8,Ai v9,Fu va,Ai vb,Fu vc,AV.fsl (Blk.ints .i64 vd),AV.fsl (Blk.ints .i64 ve),Ai vf,Ai vg,Ai vh,Ai vi,Ai vj,Fu vk,Ai vl,Fu vm],HA [Ai vn,Ai vo,Ai vp,Ai vq,Fu vr,Ai vs,Fu vt,AV.fsl (Blk.ints .i64 vu),AV.fsl (Blk.ints .i64 vv)],HA [Ai vw,Ai vx,Ai vy,Ai vz,Ai v10,Fu v11,Ai v12,Fu v13]]) (QJ (V 79) 79 0 (Ev.Qc Qq1*1000+1) K)=Q4o v0 v1 v2 v3 v4 v5 v6 v7 v8 v9 va vb vc vd ve vf vg vh vi vj vk vl vm vn vo vp vq vr vs vt vu vv vw vx vy vz v10 v11 v12 v13 (fun v14=>K (Ex.ret) (St.mk (Q3 110 0 [2] [Ab v14]) [])):=by kernel_rfl
theorem QHZ:Q4 (V 79) q79 o79 79 0 (3997,0,Qq1):=.s (size:=110) (ss:=[1,4,5,6]) (F:=@QmB) (by kernel_rfl) fun R r K vs hh h=>by
 unfold QmB at h; split at h
 ·rw[QcQ]at h; exact (Qpj K _ _ _ _ _ _ _ _ _ _ _ _ _ _ _ _ _ _ _ _ _ _ _ _ _ _ _ _ _ _ _ _ _ _ _ _ _ _ _ _).trans h
 ·cases h
theorem QI0:Q4 (V 79) q79 o79 79 0 (3996,0,Qq2):=.s (size:=110) (ss:=[1,5,6,7]) (F:=@QmC) (by kernel_rfl) fun R r K vs hh h=>by
 unfold QmC at h; split at h
 ·rw[QcP]at h; exact (Qpi K _ _ _ _ _ _ _ _ _ _ _ _ _ _ _ _ _ _ _ _ _ _ _ _ _ _ _ _ _ _ _ _).trans h
 ·cases h
theorem QI1:Q4 (V 79) q79 o79 79 0 (3995,0,QA4):=.s (size:=110) (ss:=[1,6,7,8]) (F:=@QmD) (by kernel_rfl) fun R r K vs hh h=>by
 unfold QmD at h; split at h
 ·rw[QcO]at h; exact Eq.trans (by kernel_rfl) h
 ·cases h
theorem QRl:∀ x∈[(3997,0,Qq1),(3996,0,Qq2),(3995,0,QA4)],Q4 (V 79) q79 o79 79 0 x:=List.forall_mem_cons.2 ⟨QHZ,List.forall_mem_cons.2 ⟨QI0,List.forall_mem_cons.2 ⟨QI1,fun _ h=>nomatch h⟩⟩⟩
def QQ8 : Ev.Qj := fun args _ K => match args with
 | ([AV.agg (Blk.any [Ai v0, Ai v1, Fu v2, AV.fsl (Blk.ints .i64 v3), AV.fsl (Blk.ints .i64 v4), Ai v5, Ai v6, Ai v7, Ai v8, Fu v9, Ai va, Fu vb, AV.fsl (Blk.ints .i64 vc), AV.fsl (Blk.ints .i64 vd), Ai ve, Ai vf, Ai vg, Ai vh, Ai vi, Fu vj, Ai vk, Fu vl])]) => Qd7 v0 v1 v2 v3 v4 v5 v6 v7 v8 v9 va vb vc vd ve vf vg vh vi vj vk vl (fun vm => K (Ab vm))
 | _ => none
def S79:=Qr 79 QQ8 QNh
theorem D38 : Dom B0 V S79 Q0P 38 := Dom.s (m := 37) (n := 0) D37 D37 (O := o79) (Qd.fn (fn0 := Tryz.f79) (by kernel_rfl) (by kernel_rfl) QRl) fun args R K r h => by
 unfold QQ8 at h; split at h
 · rw [QhE] at h; exact Eq.trans (by kernel_rfl) h
 · cases h
def QjH (K : Ex → St → Option R) (vs : List AV) (hh : H) : Option R := match vs, hh with
 | [AV.fsl (Blk.ints .i64 v0), AV.fsl (Blk.ints .i64 v1), Ai v2, Ai v3], [] => Q1t v0 v1 v2 v3 (fun v4 => K (Ex.ret) (St.mk (Q3 26 0 [4] [Ab v4]) [])) (fun _ => K (Ex.exit 0) (St.mk (Q3 26 0 [] []) []))
 | _, _ => none
def QK6:Nat→Option Ql:=lkN [(5400,fun st _ K=>Qf 26 [0,1,12,13] st (QjH K))]
def QNi:Qi:=Qo (V 136) S79 Q0P 10
def Qhi:Code:=Qk [1,1,0,1,0,0] (Q9 Tryz.f136)
def QCp(N:Nat)(st:St)(K:Ex→St→Option R):Option R:=Qs (QQ ((V 136).keep 136 (Ev.Qc Qhi*1000+400)) 0) (Qh (V 136) QNi QK6 136 0 3994 Qhi) N st (QJ (V 136) 136 0 (Ev.Qc Qhi*1000+401) K)
theorem Q36(K:Ex→St→Option R):∀ N:Nat,(fun (v0 v1:List Int) (v2 v3:Int)=>QCp N (St.mk (Q3 26 0 [0,1,12,13] [AV.fsl (Blk.ints .i64 v0),AV.fsl (Blk.ints .i64 v1),Ai v2,Ai v3]) []) K)=Zi (fun v4=>K (Ex.ret) (St.mk (Q3 26 0 [4] [Ab v4]) [])) (fun _=>K (Ex.exit 0) (St.mk (Q3 26 0 [] []) [])) N
 | 0=>by funext v0 v1 v2 v3; rfl
 | N+1=>by
  funext v0 v1 v2 v3
  simp only[Zi]
  rw[←Q36 K N]
  kernel_rfl
theorem QFU:Q4 (V 136) QNi QK6 136 0 (3994,1,Qhi):=.l (size:=26) (ss:=[0,1,12,13]) (F:=@QjH) (by kernel_rfl) (by kernel_rfl) fun R r K vs hh h=>by
 unfold QjH at h; split at h
 ·rw[Q4p]at h; unfold YV at h; rw[←Q36 K NR]at h; exact h
 ·cases h
theorem QQ9:∀ x∈[(3994,1,Qhi)],Q4 (V 136) QNi QK6 136 0 x:=List.forall_mem_cons.2 ⟨QFU,fun _ h=>nomatch h⟩
def QLT : Ev.Qj := fun args _ K => match args with
 | ([AV.fsl (Blk.ints .i64 v0), AV.fsl (Blk.ints .i64 v1)]) => Y0 v0 v1 (fun v2 => K (Ab v2))
 | _ => none
def QQa:=Qr 136 QLT S79
theorem D39 : Dom B0 V QQa Q0P 39 := Dom.s (m := 38) (n := 0) D38 D38 (O := QK6) (Qd.fn (fn0 := Tryz.f136) (by kernel_rfl) (by kernel_rfl) QQ9) fun args R K r h => by
 unfold QLT at h; split at h
 · rw [Q71] at h; exact Eq.trans (by kernel_rfl) h
 · cases h
def QQb : Ev.Qj := fun args _ K => match args with
 | ([AV.agg (Blk.any [Ai v0, Fu v1, AV.fsl (Blk.ints .i64 v2), AV.fsl (Blk.ints .i64 v3)])]) => Ju v0 v1 v2 v3 (fun v4 => K (Ab v4))
 | _ => none
def S80:=Qr 80 QQb QQa
theorem D40 : Dom B0 V S80 Q0P 40 := Dom.s (m := 39) (n := 0) D39 D39 (O := (fun _ => none)) (fun _ _ _ _ => Qd.none _ _) fun args R K r h => by
 unfold QQb at h; split at h
 · rw [Ql0] at h; exact Eq.trans (by kernel_rfl) h
 · cases h
def QLU : Ev.Qj := fun args _ K => match args with
 | ([AV.agg (Blk.any [Ai v0, Ai v1, Ai v2, Fu v3])]) => Q7W v0 v1 v2 v3 (fun v4 => K (Ab v4))
 | _ => none
def QNj:=Qr 172 QLU S80
theorem D41 : Dom B0 V QNj Q0P 41 := Dom.s (m := 40) (n := 0) D40 D40 (O := (fun _ => none)) (fun _ _ _ _ => Qd.none _ _) fun args R K r h => by
 unfold QLU at h; split at h
 · rw [Qn6] at h; exact Eq.trans (by kernel_rfl) h
 · cases h
def QjI (K : Ex → St → Option R) (vs : List AV) (hh : H) : Option R := match vs, hh with
 | [Ap 0 0, AV.sl 1 0 v0 1, Ai v1, Ai v2], [HA [Ai v3, Ai v4, Ai v5, Fu v6], HU v7] => Qki v0 v1 v2 v3 v4 v5 v6 v7 (fun v8 v9 => K (Ex.exit 0) (St.mk (Q3 33 0 [3] [AV.sl 0 0 v8 1]) [HU v9]))
 | _, _ => none
def QK7:Nat→Option Ql:=lkN [(6400,fun st _ K=>Qf 33 [1,3,12,13] st (QjI K))]
def QNk:Qi:=Qo (V 173) QNj Q0P 10
def Qhj:Code:=Qk [1,1,1,0,1,0,0] (Q9 Tryz.f173)
def QCq(N:Nat)(st:St)(K:Ex→St→Option R):Option R:=Qs (QQ ((V 173).keep 173 (Ev.Qc Qhj*1000+400)) 0) (Qh (V 173) QNk QK7 173 0 3993 Qhj) N st (QJ (V 173) 173 0 (Ev.Qc Qhj*1000+401) K)
theorem Qfh(K:Ex→St→Option R):∀ N:Nat,(fun (v0:Nat) (v1 v2 v3 v4 v5:Int) (v6 v7:List Int)=>QCq N (St.mk (Q3 33 0 [1,3,12,13] [Ap 0 0,AV.sl 1 0 v0 1,Ai v1,Ai v2]) [HA [Ai v3,Ai v4,Ai v5,Fu v6],HU v7]) K)=Q1u (fun v8 v9=>K (Ex.exit 0) (St.mk (Q3 33 0 [3] [AV.sl 0 0 v8 1]) [HU v9])) N
 | 0=>by funext v0 v1 v2 v3 v4 v5 v6 v7; rfl
 | N+1=>by
  funext v0 v1 v2 v3 v4 v5 v6 v7
  simp only[Q1u]
  rw[←Qfh K N]
  kernel_rfl
theorem QFV:Q4 (V 173) QNk QK7 173 0 (3993,1,Qhj):=.l (size:=33) (ss:=[1,3,12,13]) (F:=@QjI) (by kernel_rfl) (by kernel_rfl) fun R r K vs hh h=>by
 unfold QjI at h; split at h
 ·rw[QhF]at h; unfold Q9G at h; rw[←Qfh K NR]at h; exact h
 ·cases h
theorem QQc:∀ x∈[(3993,1,Qhj)],Q4 (V 173) QNk QK7 173 0 x:=List.forall_mem_cons.2 ⟨QFV,fun _ h=>nomatch h⟩
def QLV : Ev.Qj := fun args _ K => match args with
 | ([AV.agg (Blk.any [Ai v0, Ai v1, Ai v2, Fu v3])]) => QhG v0 v1 v2 v3 (fun v4 => K (Fu v4))
 | _ => none
def QNl:=Qr 173 QLV QNj
theorem D42 : Dom B0 V QNl Q0P 42 := Dom.s (m := 41) (n := 0) D41 D41 (O := QK7) (Qd.fn (fn0 := Tryz.f173) (by kernel_rfl) (by kernel_rfl) QQc) fun args R K r h => by
 unfold QLV at h; split at h
 · rw [QoF] at h; exact Eq.trans (by kernel_rfl) h
 · cases h
def Q96 (K : Ex → St → Option R) (vs : List AV) (hh : H) : Option R := match vs, hh with
 | [Ai v0, Au v1, AV.fsl (Blk.cols [Col.fints .u64 v2] []), Au v3, Ai v4], [] => Qey v0 v1 v2 v3 v4 (fun v5 => K (Ex.exit 0) (St.mk (Q3 50 0 [9] [Au v5]) []))
 | _, _ => none
def Q6Y (K : Ex → St → Option R) (vs : List AV) (hh : H) : Option R := match vs, hh with
 | [Ai v0, Au v1, AV.fsl (Blk.cols [Col.fints .u64 v2] []), Au v3, Ai v4, Au v5], [] => Q3b v0 v1 v2 v3 v4 v5 (fun v6 v7 v8 v9 va => K (Ex.normal) (St.mk (Q3 50 0 [1, 2, 8, 9, 10] [Ai v6, Au v7, AV.fsl (Blk.cols [Col.fints .u64 v8] []), Au v9, Ai va]) []))
 | _, _ => none
def QA5:Nat→Option Ql:=lkN [(7400,fun st _ K=>Qf 50 [1,2,8,9,10] st (Q96 K)),(13000,fun st _ K=>Qf 50 [1,2,8,9,10,11] st (Q6Y K))]
def QCr:Qi:=Qo (V 180) QNl Q0P 10
def Q3m:Code:=Qk [1,0,1,1,1,1,0,1,0,0] (Q9 Tryz.f180)
def QCs(N:Nat)(st:St)(K:Ex→St→Option R):Option R:=Qs (QQ ((V 180).keep 180 (Ev.Qc Q3m*1000+400)) 0) (Qh (V 180) QCr QA5 180 0 3990 Q3m) N st (QJ (V 180) 180 0 (Ev.Qc Q3m*1000+401) K)
def QjJ:Code:=Qk [1,0,1,1,1,1,0,1,0,0,1,0,0,1,1,1] (Q9 Tryz.f180)
def Qsp(N:Nat)(st:St)(K:Ex→St→Option R):Option R:=Qs (QQ ((V 180).keep 180 (Ev.Qc Q3m*1000+400)) 0) (Qh (V 180) QCr QA5 180 0 3993 Q3m) N st (QJ (V 180) 180 0 (Ev.Qc Q3m*1000+401) K)
theorem QcC(K:Ex→St→Option R):∀ N:Nat,(fun (v0 v1:Int) (v2:List (List Int)) (v3 v4:Int)=>QCs N (St.mk (Q3 50 0 [1,2,8,9,10] [Ai v0,Au v1,AV.fsl (Blk.cols [Col.fints .u64 v2] []),Au v3,Ai v4]) []) K)=QO (fun v5=>K (Ex.exit 0) (St.mk (Q3 50 0 [9] [Au v5]) [])) N
 | 0=>by funext v0 v1 v2 v3 v4; rfl
 | N+1=>by
  funext v0 v1 v2 v3 v4
  simp only[QO]
  rw[←QcC K N]
  kernel_rfl
theorem Q6Z(K:Ex→St→Option R):∀ N:Nat,(fun (v0 v1:Int) (v2:List (List Int)) (v3 v4:Int)=>Qsp N (St.mk (Q3 50 0 [1,2,8,9,10] [Ai v0,Au v1,AV.fsl (Blk.cols [Col.fints .u64 v2] []),Au v3,Ai v4]) []) K)=QO (fun v5=>K (Ex.exit 0) (St.mk (Q3 50 0 [9] [Au v5]) [])) N
 | 0=>by funext v0 v1 v2 v3 v4; rfl
 | N+1=>by
  funext v0 v1 v2 v3 v4
  simp only[QO]
  rw[←Q6Z K N]
  kernel_rfl
theorem QFW:Q4 (V 180) QCr QA5 180 0 (3990,1,Q3m):=.l (size:=50) (ss:=[1,2,8,9,10]) (F:=@Q96) (by kernel_rfl) (by kernel_rfl) fun R r K vs hh h=>by
 unfold Q96 at h; split at h
 ·rw[Q7X]at h; unfold Q1v at h; rw[←QcC K NR]at h; exact h
 ·cases h
theorem QCt:Q4 (V 180) QCr QA5 180 0 (3984,0,QjJ):=.s (size:=50) (ss:=[1,2,8,9,10,11]) (F:=@Q6Y) (by kernel_rfl) fun R r K vs hh h=>by
 unfold Q6Y at h; split at h
 ·rw[Q6E]at h; exact Eq.trans (by kernel_rfl) h
 ·cases h
theorem Qu3:Q4 (V 180) QCr QA5 180 0 (3993,1,Q3m):=.l (size:=50) (ss:=[1,2,8,9,10]) (F:=@Q96) (by kernel_rfl) (by kernel_rfl) fun R r K vs hh h=>by
 unfold Q96 at h; split at h
 ·rw[Q7X]at h; unfold Q1v at h; rw[←Q6Z K NR]at h; exact h
 ·cases h
theorem Qsq:Q4 (V 180) QCr QA5 180 0 (3987,0,QjJ):=.s (size:=50) (ss:=[1,2,8,9,10,11]) (F:=@Q6Y) (by kernel_rfl) fun R r K vs hh h=>by
 unfold Q6Y at h; split at h
 ·rw[Q6E]at h; exact Eq.trans (by kernel_rfl) h
 ·cases h
theorem QQd:∀ x∈[(3990,1,Q3m),(3984,0,QjJ),(3993,1,Q3m),(3987,0,QjJ)],Q4 (V 180) QCr QA5 180 0 x:=List.forall_mem_cons.2 ⟨QFW,List.forall_mem_cons.2 ⟨QCt,List.forall_mem_cons.2 ⟨Qu3,List.forall_mem_cons.2 ⟨Qsq,fun _ h=>nomatch h⟩⟩⟩⟩
def QLW : Ev.Qj := fun args _ K => match args with
 | ([Ai v0, Ai v1, Au v2]) => Qc0 v0 v1 v2 (fun v3 v4 => K (AV.tup [Au v3, Ab v4]))
 | _ => none
def QK8:=Qr 180 QLW QNl
theorem D43 : Dom B0 V QK8 Q0P 43 := Dom.s (m := 42) (n := 0) D42 D42 (O := QA5) (Qd.fn (fn0 := Tryz.f180) (by kernel_rfl) (by kernel_rfl) QQd) fun args R K r h => by
 unfold QLW at h; split at h
 · rw [Ql1] at h; exact Eq.trans (by kernel_rfl) h
 · cases h
def QjK (K : Ex → St → Option R) (vs : List AV) (hh : H) : Option R := match vs, hh with
 | [Ap 0 0, Ap 1 0, Ab v0], [HA [Ai v1, Ai v2, Ai v3, Ai v4, Fu v5, Ai v6, Fu v7, AV.fsl (Blk.ints .i64 v8), AV.fsl (Blk.ints .i64 v9)], HA [Ai va, AV.esl]] => Q2r v0 v1 v2 v3 v4 v5 v6 v7 v8 v9 va (fun vb vc => K (Ex.ret) (St.mk (Q3 106 0 [2, 3] [Ap 0 0, Ab vb]) [HA [Ai vc, AV.esl]])) (fun vb vc vd ve vf vg vh vi vj vk => K (Ex.normal) (St.mk (Q3 106 0 [1, 2] [Ap 0 0, Ap 1 0]) [HA [Ai vb, Ai vc, Ai vd, Ai ve, Fu vf, Ai vg, Fu vh, AV.fsl (Blk.ints .i64 vi), AV.fsl (Blk.ints .i64 vj)], HA [Ai vk, AV.esl]]))
 | _, _ => none
def QjL (K : Ex → St → Option R) (vs : List AV) (hh : H) : Option R := match vs, hh with
 | [Ap 0 0, Ap 1 0], [HA [Ai v0, Ai v1, Ai v2, Ai v3, Fu v4, Ai v5, Fu v6, AV.fsl (Blk.ints .i64 v7), AV.fsl (Blk.ints .i64 v8)], HA [Ai v9, AV.esl]] => Q7Y v0 v1 v2 v3 v4 v5 v6 v7 v8 v9 (fun va vb => K (Ex.ret) (St.mk (Q3 106 0 [2, 3] [Ap 0 0, Ab va]) [HA [Ai vb, AV.esl]])) (fun va vb vc => K (Ex.ret) (St.mk (Q3 106 0 [2, 3] [Ap 0 0, Ab va]) [HA [Ai vb, Fu vc]]))
 | _, _ => none
def QjM (K : Ex → St → Option R) (vs : List AV) (hh : H) : Option R := match vs, hh with
 | [Ap 0 0, Ap 1 0, Ap 2 0, Ai v0, Fu v1, Ai v2, Ai v3], [HA [Ai v4, Ai v5, Ai v6, Ai v7, Fu v8, Ai v9, Fu va, AV.fsl (Blk.ints .i64 vb), AV.fsl (Blk.ints .i64 vc)], HA [Ai vd, AV.esl], HA [Ai ve, Fu vf]] => Qpo v0 v1 v2 v3 v4 v5 v6 v7 v8 v9 va vb vc vd ve vf (fun vg vh => K (Ex.ret) (St.mk (Q3 106 0 [2, 3] [Ap 0 0, Ab vg]) [HA [Ai vh, AV.esl]])) (fun vg vh vi => K (Ex.exit 0) (St.mk (Q3 106 0 [2, 4] [Ap 0 0, Ap 1 0]) [HA [Ai vg, AV.esl], HA [Ai vh, Fu vi]]))
 | _, _ => none
def Qgg (K : Ex → St → Option R) (vs : List AV) (hh : H) : Option R := match vs, hh with
 | [Ap 0 0, Ap 1 0, Ap 2 0, Ai v0, Ai v1, Au v2, Ai v3, Fu v4, Ai v5, Ai v6, Ab v7], [HA [Ai v8, Ai v9, Ai va, Ai vb, Fu vc, Ai vd, Fu ve, AV.fsl (Blk.ints .i64 vf), AV.fsl (Blk.ints .i64 vg)], HA [Ai vh, AV.esl], HA [Ai vi, Fu vj]] => Qc1 v0 v1 v2 v3 v4 v5 v6 v7 v8 v9 va vb vc vd ve vf vg vh vi vj (fun vk vl => K (Ex.ret) (St.mk (Q3 106 0 [2, 3] [Ap 0 0, Ab vk]) [HA [Ai vl, AV.esl]])) (fun vk vl vm vn vo vp vq vr vs vt vu vv vw vx vy vz v10 v11 v12 => K (Ex.normal) (St.mk (Q3 106 0 [1, 2, 4, 5, 8, 11, 13, 48, 49, 50] [Ap 0 0, Ap 1 0, Ap 2 0, Ai vk, Ai vl, Au vm, Ai vn, Fu vo, Ai vp, Ai vq]) [HA [Ai vr, Ai vs, Ai vt, Ai vu, Fu vv, Ai vw, Fu vx, AV.fsl (Blk.ints .i64 vy), AV.fsl (Blk.ints .i64 vz)], HA [Ai v10, AV.esl], HA [Ai v11, Fu v12]]))
 | _, _ => none
def Qgh (K : Ex → St → Option R) (vs : List AV) (hh : H) : Option R := match vs, hh with
 | [Ap 0 0, Ap 1 0, Ap 2 0, Ai v0, Ai v1, Au v2, Ai v3, Fu v4, Ai v5, Ai v6], [HA [Ai v7, Ai v8, Ai v9, Ai va, Fu vb, Ai vc, Fu vd, AV.fsl (Blk.ints .i64 ve), AV.fsl (Blk.ints .i64 vf)], HA [Ai vg, AV.esl], HA [Ai vh, Fu vi]] => Qc2 v0 v1 v2 v3 v4 v5 v6 v7 v8 v9 va vb vc vd ve vf vg vh vi (fun vj vk vl vm vn vo vp vq vr vs vt vu vv vw vx vy => K (Ex.normal) (St.mk (Q3 106 0 [1, 2, 4, 5, 48, 49, 50] [Ap 0 0, Ap 1 0, Ap 2 0, Ai vj, Fu vk, Ai vl, Ai vm]) [HA [Ai vn, Ai vo, Ai vp, Ai vq, Fu vr, Ai vs, Fu vt, AV.fsl (Blk.ints .i64 vu), AV.fsl (Blk.ints .i64 vv)], HA [Ai vw, AV.esl], HA [Ai vx, Fu vy]]))
 | _, _ => none
def QxU:Nat→Option Ql:=lkN [(3000,fun st _ K=>Qf 106 [1,2,44] st (QjK K)),(4000,fun st _ K=>Qf 106 [1,2] st (QjL K)),(7400,fun st _ K=>Qf 106 [1,2,4,5,48,49,50] st (QjM K)),(16000,fun st _ K=>Qf 106 [1,2,4,5,8,11,13,48,49,50,92] st (Qgg K)),(17000,fun st _ K=>Qf 106 [1,2,4,5,8,11,13,48,49,50] st (Qgh K))]
def QCu:Qi:=Qo (V 170) QK8 Q0P 10
def Qwz:Code:=Qk [1,1] (Q9 Tryz.f170)
def QwA:Code:=Qk [1,0,1] (Q9 Tryz.f170)
def Qhk:Code:=Qk [1,1,1,1,0,1,0,0] (Q9 Tryz.f170)
def QCv(N:Nat)(st:St)(K:Ex→St→Option R):Option R:=Qs (QQ ((V 170).keep 170 (Ev.Qc Qhk*1000+400)) 0) (Qh (V 170) QCu QxU 170 0 3992 Qhk) N st (QJ (V 170) 170 0 (Ev.Qc Qhk*1000+401) K)
def Qu4:Code:=Qk [1,1,1,1,0,1,0,0,1,1,0,0,1,1,1,1,1,1,1] (Q9 Tryz.f170)
def Qu5:Code:=Qk [1,1,1,1,0,1,0,0,1,1,0,0,1,1,1,1,1,1,0,1] (Q9 Tryz.f170)
theorem QkQ(K:Ex→St→Option R):∀ N:Nat,(fun (v0:Int) (v1:List Int) (v2 v3 v4 v5 v6 v7:Int) (v8:List Int) (v9:Int) (va vb vc:List Int) (vd ve:Int) (vf:List Int)=>QCv N (St.mk (Q3 106 0 [1,2,4,5,48,49,50] [Ap 0 0,Ap 1 0,Ap 2 0,Ai v0,Fu v1,Ai v2,Ai v3]) [HA [Ai v4,Ai v5,Ai v6,Ai v7,Fu v8,Ai v9,Fu va,AV.fsl (Blk.ints .i64 vb),AV.fsl (Blk.ints .i64 vc)],HA [Ai vd,AV.esl],HA [Ai ve,Fu vf]]) K)=Q5U (fun vg vh=>K (Ex.ret) (St.mk (Q3 106 0 [2,3] [Ap 0 0,Ab vg]) [HA [Ai vh,AV.esl]])) (fun vg vh vi=>K (Ex.exit 0) (St.mk (Q3 106 0 [2,4] [Ap 0 0,Ap 1 0]) [HA [Ai vg,AV.esl],HA [Ai vh,Fu vi]])) N
 | 0=>by funext v0 v1 v2 v3 v4 v5 v6 v7 v8 v9 va vb vc vd ve vf; rfl
 | N+1=>by
  funext v0 v1 v2 v3 v4 v5 v6 v7 v8 v9 va vb vc vd ve vf
  simp only[Q5U]
  rw[←QkQ K N]
  kernel_rfl
theorem QFX:Q4 (V 170) QCu QxU 170 0 (3998,0,Qwz):=.s (size:=106) (ss:=[1,2]) (F:=@QjL) (by kernel_rfl) fun R r K vs hh h=>by
 unfold QjL at h; split at h
 ·rw[Qna]at h; exact Eq.trans (by kernel_rfl) h
 ·cases h
theorem QFY:Q4 (V 170) QCu QxU 170 0 (3997,0,QwA):=.s (size:=106) (ss:=[1,2,44]) (F:=@QjK) (by kernel_rfl) fun R r K vs hh h=>by
 unfold QjK at h; split at h
 ·rw[Qez]at h; exact Eq.trans (by kernel_rfl) h
 ·cases h
theorem QFZ:Q4 (V 170) QCu QxU 170 0 (3992,1,Qhk):=.l (size:=106) (ss:=[1,2,4,5,48,49,50]) (F:=@QjM) (by kernel_rfl) (by kernel_rfl) fun R r K vs hh h=>by
 unfold QjM at h; split at h
 ·rw[Qn9]at h; unfold Qd8 at h; rw[←QkQ K NR]at h; exact h
 ·cases h
theorem QCw:Q4 (V 170) QCu QxU 170 0 (3981,0,Qu4):=.s (size:=106) (ss:=[1,2,4,5,8,11,13,48,49,50]) (F:=@Qgh) (by kernel_rfl) fun R r K vs hh h=>by
 unfold Qgh at h; split at h
 ·rw[Ql2]at h; exact Eq.trans (by kernel_rfl) h
 ·cases h
theorem QCx:Q4 (V 170) QCu QxU 170 0 (3980,0,Qu5):=.s (size:=106) (ss:=[1,2,4,5,8,11,13,48,49,50,92]) (F:=@Qgg) (by kernel_rfl) fun R r K vs hh h=>by
 unfold Qgg at h; split at h
 ·rw[Q7F]at h; exact Eq.trans (by kernel_rfl) h
 ·cases h
theorem QQe:∀ x∈[(3998,0,Qwz),(3997,0,QwA),(3992,1,Qhk),(3981,0,Qu4),(3980,0,Qu5)],Q4 (V 170) QCu QxU 170 0 x:=List.forall_mem_cons.2 ⟨QFX,List.forall_mem_cons.2 ⟨QFY,List.forall_mem_cons.2 ⟨QFZ,List.forall_mem_cons.2 ⟨QCw,List.forall_mem_cons.2 ⟨QCx,fun _ h=>nomatch h⟩⟩⟩⟩⟩
theorem QCy(K:AV→Option R)(v0 v1 v2 v3:Int)(v4:List Int)(v5:Int)(v6 v7 v8:List Int):JD (V 170) QK8 Q0P QxU 10 170 ([AV.agg (Blk.any [Ai v0,Ai v1,Ai v2,Ai v3,Fu v4,Ai v5,Fu v6,AV.fsl (Blk.ints .i64 v7),AV.fsl (Blk.ints .i64 v8)])]) R K=Qoc v0 v1 v2 v3 v4 v5 v6 v7 v8 (fun v9 va vb=>K (AV.tup [AV.agg (Blk.any [Ai v9,Fu va]),Ab vb])):=by kernel_rfl
def QLX : Ev.Qj := fun args _ K => match args with
 | ([AV.agg (Blk.any [Ai v0, Ai v1, Ai v2, Ai v3, Fu v4, Ai v5, Fu v6, AV.fsl (Blk.ints .i64 v7), AV.fsl (Blk.ints .i64 v8)])]) => QsM v0 v1 v2 v3 v4 v5 v6 v7 v8 (fun v9 va vb => K (AV.tup [AV.agg (Blk.any [Ai v9, Fu va]), Ab vb]))
 | _ => none
def QNm:=Qr 170 QLX QK8
theorem D44 : Dom B0 V QNm Q0P 44 := Dom.s (m := 43) (n := 0) D43 D43 (O := QxU) (Qd.fn (fn0 := Tryz.f170) (by kernel_rfl) (by kernel_rfl) QQe) fun args R K r h => by
 unfold QLX at h; split at h
 · rw [Qs0] at h; exact (QCy K _ _ _ _ _ _ _ _ _).trans h
 · cases h
def QjN (K : Ex → St → Option R) (vs : List AV) (hh : H) : Option R := match vs, hh with
 | [Fu v0, Fu v1, Ai v2, Ai v3], [] => Ux v0 v1 v2 v3 (fun v4 => K (Ex.ret) (St.mk (Q3 26 0 [4] [Ab v4]) [])) (fun _ => K (Ex.exit 0) (St.mk (Q3 26 0 [] []) []))
 | _, _ => none
def QK9:Nat→Option Ql:=lkN [(5400,fun st _ K=>Qf 26 [0,1,12,13] st (QjN K))]
def QNn:Qi:=Qo (V 175) QNm Q0P 10
def Qhl:Code:=Qk [1,1,0,1,0,0] (Q9 Tryz.f175)
def QCz(N:Nat)(st:St)(K:Ex→St→Option R):Option R:=Qs (QQ ((V 175).keep 175 (Ev.Qc Qhl*1000+400)) 0) (Qh (V 175) QNn QK9 175 0 3994 Qhl) N st (QJ (V 175) 175 0 (Ev.Qc Qhl*1000+401) K)
theorem JI(K:Ex→St→Option R):∀ N:Nat,(fun (v0 v1:List Int) (v2 v3:Int)=>QCz N (St.mk (Q3 26 0 [0,1,12,13] [Fu v0,Fu v1,Ai v2,Ai v3]) []) K)=QI (fun v4=>K (Ex.ret) (St.mk (Q3 26 0 [4] [Ab v4]) [])) (fun _=>K (Ex.exit 0) (St.mk (Q3 26 0 [] []) [])) N
 | 0=>by funext v0 v1 v2 v3; rfl
 | N+1=>by
  funext v0 v1 v2 v3
  simp only[QI]
  rw[←JI K N]
  kernel_rfl
theorem QG0:Q4 (V 175) QNn QK9 175 0 (3994,1,Qhl):=.l (size:=26) (ss:=[0,1,12,13]) (F:=@QjN) (by kernel_rfl) (by kernel_rfl) fun R r K vs hh h=>by
 unfold QjN at h; split at h
 ·rw[Q0b]at h; unfold ZW at h; rw[←JI K NR]at h; exact h
 ·cases h
theorem QQf:∀ x∈[(3994,1,Qhl)],Q4 (V 175) QNn QK9 175 0 x:=List.forall_mem_cons.2 ⟨QG0,fun _ h=>nomatch h⟩
def QLY : Ev.Qj := fun args _ K => match args with
 | ([Fu v0, Fu v1]) => QL v0 v1 (fun v2 => K (Ab v2))
 | _ => none
def QNo:=Qr 175 QLY QNm
theorem D45 : Dom B0 V QNo Q0P 45 := Dom.s (m := 44) (n := 0) D44 D44 (O := QK9) (Qd.fn (fn0 := Tryz.f175) (by kernel_rfl) (by kernel_rfl) QQf) fun args R K r h => by
 unfold QLY at h; split at h
 · rw [Q1w] at h; exact Eq.trans (by kernel_rfl) h
 · cases h
def QjO (K : Ex → St → Option R) (vs : List AV) (hh : H) : Option R := match vs, hh with
 | [Ap 0 0, Ap 1 0, Ab v0], [HA [Ai v1, Ai v2, Ai v3, Ai v4, Fu v5, Ai v6, Fu v7, AV.fsl (Blk.ints .i64 v8), AV.fsl (Blk.ints .i64 v9)], HA [Ai va, Ai vb, Ai vc, Ai vd, Fu ve, Ai vf, Fu vg, AV.fsl (Blk.ints .i64 vh), AV.fsl (Blk.ints .i64 vi)]] => Q58 v0 v1 v2 v3 v4 v5 v6 v7 v8 v9 va vb vc vd ve vf vg vh vi (fun vj => K (Ex.ret) (St.mk (Q3 86 0 [4] [Ab vj]) []))
 | _, _ => none
def QjP (K : Ex → St → Option R) (vs : List AV) (hh : H) : Option R := match vs, hh with
 | [Ap 0 0, Ap 1 0, Ab v0, Ab v1], [HA [Ai v2, Ai v3, Ai v4, Ai v5, Fu v6, Ai v7, Fu v8, AV.fsl (Blk.ints .i64 v9), AV.fsl (Blk.ints .i64 va)], HA [Ai vb, Ai vc, Ai vd, Ai ve, Fu vf, Ai vg, Fu vh, AV.fsl (Blk.ints .i64 vi), AV.fsl (Blk.ints .i64 vj)]] => Qc3 v0 v1 v2 v3 v4 v5 v6 v7 v8 v9 va vb vc vd ve vf vg vh vi vj (fun vk => K (Ex.ret) (St.mk (Q3 86 0 [4] [Ab vk]) []))
 | _, _ => none
def QKa:Nat→Option Ql:=lkN [(3000,fun st _ K=>Qf 86 [2,3,5] st (QjO K)),(4000,fun st _ K=>Qf 86 [2,3,5,6] st (QjP K))]
def QNp:Qi:=Qo (V 171) QNo Q0P 10
def QwB:Code:=Qk [1,1] (Q9 Tryz.f171)
def QwC:Code:=Qk [1,1,1] (Q9 Tryz.f171)
theorem QG1:Q4 (V 171) QNp QKa 171 0 (3998,0,QwB):=.s (size:=86) (ss:=[2,3,5]) (F:=@QjO) (by kernel_rfl) fun R r K vs hh h=>by
 unfold QjO at h; split at h
 ·rw[Ql4]at h; exact Eq.trans (by kernel_rfl) h
 ·cases h
theorem QG2:Q4 (V 171) QNp QKa 171 0 (3997,0,QwC):=.s (size:=86) (ss:=[2,3,5,6]) (F:=@QjP) (by kernel_rfl) fun R r K vs hh h=>by
 unfold QjP at h; split at h
 ·rw[Ql3]at h; exact Eq.trans (by kernel_rfl) h
 ·cases h
theorem QQg:∀ x∈[(3998,0,QwB),(3997,0,QwC)],Q4 (V 171) QNp QKa 171 0 x:=List.forall_mem_cons.2 ⟨QG1,List.forall_mem_cons.2 ⟨QG2,fun _ h=>nomatch h⟩⟩
def QLZ : Ev.Qj := fun args _ K => match args with
 | ([AV.agg (Blk.any [Ai v0, Ai v1, Ai v2, Ai v3, Fu v4, Ai v5, Fu v6, AV.fsl (Blk.ints .i64 v7), AV.fsl (Blk.ints .i64 v8)]), AV.agg (Blk.any [Ai v9, Ai va, Ai vb, Ai vc, Fu vd, Ai ve, Fu vf, AV.fsl (Blk.ints .i64 vg), AV.fsl (Blk.ints .i64 vh)])]) => Qqa v0 v1 v2 v3 v4 v5 v6 v7 v8 v9 va vb vc vd ve vf vg vh (fun vi => K (Ab vi))
 | _ => none
def QQh:=Qr 171 QLZ QNo
theorem D46 : Dom B0 V QQh Q0P 46 := Dom.s (m := 45) (n := 0) D45 D45 (O := QKa) (Qd.fn (fn0 := Tryz.f171) (by kernel_rfl) (by kernel_rfl) QQg) fun args R K r h => by
 unfold QLZ at h; split at h
 · rw [Qqb] at h; exact Eq.trans (by kernel_rfl) h
 · cases h
def QM0 : Ev.Qj := fun args _ K => match args with
 | ([AV.agg (Blk.any [Ai v0, Ai v1, Ai v2, Ai v3, Fu v4, Ai v5, Fu v6, AV.fsl (Blk.ints .i64 v7), AV.fsl (Blk.ints .i64 v8)])]) => QaX v0 v1 v2 v3 v4 v5 v6 v7 v8 (fun v9 va vb => K (AV.tup [AV.agg (Blk.any [Ai v9, Fu va]), Ab vb]))
 | _ => none
def QQi:=Qr 137 QM0 QQh
theorem D47 : Dom B0 V QQi Q0P 47 := Dom.s (m := 46) (n := 0) D46 D46 (O := (fun _ => none)) (fun _ _ _ _ => Qd.none _ _) fun args R K r h => by
 unfold QM0 at h; split at h
 · rw [Qgx] at h; exact Eq.trans (by kernel_rfl) h
 · cases h
def QQj : Ev.Qj := fun args _ K => match args with
 | ([AV.agg (Blk.any [Ai v0, Ai v1, Ai v2, Ai v3, Fu v4, Ai v5, Fu v6, AV.fsl (Blk.ints .i64 v7), AV.fsl (Blk.ints .i64 v8)])]) => Q3q v0 v1 v2 v3 v4 v5 v6 v7 v8 (fun v9 => K (Ab v9))
 | _ => none
def S81:=Qr 81 QQj QQi
theorem D48 : Dom B0 V S81 Q0P 48 := Dom.s (m := 47) (n := 0) D47 D47 (O := (fun _ => none)) (fun _ _ _ _ => Qd.none _ _) fun args R K r h => by
 unfold QQj at h; split at h
 · rw [Qgy] at h; exact Eq.trans (by kernel_rfl) h
 · cases h
def QjQ (K : Ex → St → Option R) (vs : List AV) (hh : H) : Option R := match vs, hh with
 | [Ap 0 0, Ap 1 0, Ab v0], [HA [Ai v1, Ai v2, Ai v3, Ai v4, Ai v5, Fu v6, Ai v7, Fu v8], HA [Ai v9, AV.esl]] => Q0u v0 v1 v2 v3 v4 v5 v6 v7 v8 v9 (fun va vb => K (Ex.ret) (St.mk (Q3 136 0 [2, 3] [Ap 0 0, Ab va]) [HA [Ai vb, AV.esl]])) (fun va vb vc vd ve vf vg vh vi => K (Ex.normal) (St.mk (Q3 136 0 [1, 2] [Ap 0 0, Ap 1 0]) [HA [Ai va, Ai vb, Ai vc, Ai vd, Ai ve, Fu vf, Ai vg, Fu vh], HA [Ai vi, AV.esl]]))
 | _, _ => none
def QjR (K : Ex → St → Option R) (vs : List AV) (hh : H) : Option R := match vs, hh with
 | [Ap 0 0, Ap 1 0], [HA [Ai v0, Ai v1, Ai v2, Ai v3, Ai v4, Fu v5, Ai v6, Fu v7], HA [Ai v8, AV.esl]] => Q0v v0 v1 v2 v3 v4 v5 v6 v7 v8 (fun v9 va => K (Ex.ret) (St.mk (Q3 136 0 [2, 3] [Ap 0 0, Ab v9]) [HA [Ai va, AV.esl]])) (fun v9 va vb => K (Ex.ret) (St.mk (Q3 136 0 [2, 3] [Ap 0 0, Ab v9]) [HA [Ai va, Fu vb]]))
 | _, _ => none
def QjS (K : Ex → St → Option R) (vs : List AV) (hh : H) : Option R := match vs, hh with
 | [Ap 0 0, Ap 1 0, Ap 2 0, Ap 3 0, Ap 4 0], [HA [Ai v0, Ai v1, Ai v2, Ai v3, Ai v4, Fu v5, Ai v6, Fu v7], HA [Ai v8, AV.esl], HA [Ai v9], HA [Fu va], HA [AV.sl 5 0 vb 1], HO vc] => Qnb v0 v1 v2 v3 v4 v5 v6 v7 v8 v9 va vb vc (fun vd ve => K (Ex.ret) (St.mk (Q3 136 0 [2, 3] [Ap 0 0, Ab vd]) [HA [Ai ve, AV.esl]])) (fun vd ve vf => K (Ex.ret) (St.mk (Q3 136 0 [2, 3] [Ap 0 0, Ab vd]) [HA [Ai ve, Fu vf]]))
 | _, _ => none
def Qgi (K : Ex → St → Option R) (vs : List AV) (hh : H) : Option R := match vs, hh with
 | [Ap 0 0, Ap 1 0, Ai v0, Ab v1], [HA [Ai v2, AV.esl], HA [Ai v3, Fu v4]] => Uh v0 v1 v2 v3 v4 (fun v5 v6 => K (Ex.ret) (St.mk (Q3 136 0 [2, 3] [Ap 0 0, Ab v5]) [HA [Ai v6, AV.esl]])) (fun v5 v6 v7 => K (Ex.ret) (St.mk (Q3 136 0 [2, 3] [Ap 0 0, Ab v5]) [HA [Ai v6, Fu v7]]))
 | _, _ => none
def Qgj (K : Ex → St → Option R) (vs : List AV) (hh : H) : Option R := match vs, hh with
 | [Ap 0 0, Ap 1 0, Ab v0], [HA [Ai v1, AV.esl], HA [Ai v2, Fu v3]] => Qda v0 v1 v2 v3 (fun v4 v5 => K (Ex.ret) (St.mk (Q3 136 0 [2, 3] [Ap 0 0, Ab v4]) [HA [Ai v5, AV.esl]])) (fun v4 v5 v6 => K (Ex.normal) (St.mk (Q3 136 0 [2, 9] [Ap 0 0, Ap 1 0]) [HA [Ai v4, AV.esl], HA [Ai v5, Fu v6]]))
 | _, _ => none
def QxV:Nat→Option Ql:=lkN [(3000,fun st _ K=>Qf 136 [1,2,45] st (QjQ K)),(4000,fun st _ K=>Qf 136 [1,2] st (QjR K)),(7000,fun st _ K=>Qf 136 [1,2,4,5,6] st (QjS K)),(15000,fun st _ K=>Qf 136 [2,9,12,13] st (Qgi K)),(16000,fun st _ K=>Qf 136 [2,9,133] st (Qgj K))]
def QCA:Qi:=Qo (V 138) S81 Q0P 10
def QwD:Code:=Qk [1,1] (Q9 Tryz.f138)
def QwE:Code:=Qk [1,0,1] (Q9 Tryz.f138)
def Qob:Code:=Qk [1,1,1,1,1] (Q9 Tryz.f138)
def Qu6:Code:=Qk [1,1,1,1,1,1,1,1,1,1,1,1] (Q9 Tryz.f138)
def Qu7:Code:=Qk [1,1,1,1,1,1,1,1,1,1,1,1,0,1] (Q9 Tryz.f138)
theorem Qu8(K:Ex→St→Option R)(v0 v1 v2 v3 v4:Int)(v5:List Int)(v6:Int)(v7:List Int)(v8 v9:Int)(va:List Int)(vb:Nat)(vc:List Bool):Qh (V 138) QCA QxV 138 0 3995 Qob (St.mk (Q3 136 0 [1,2,4,5,6] [Ap 0 0,Ap 1 0,Ap 2 0,Ap 3 0,Ap 4 0]) [HA [Ai v0,Ai v1,Ai v2,Ai v3,Ai v4,Fu v5,Ai v6,Fu v7],HA [Ai v8,AV.esl],HA [Ai v9],HA [Fu va],HA [AV.sl 5 0 vb 1],HO vc]) (QJ (V 138) 138 0 (Ev.Qc Qob*1000+1) K)=Qbw v0 v1 v2 v3 v4 v5 v6 v7 v8 v9 va vb vc (fun vd ve=>K (Ex.ret) (St.mk (Q3 136 0 [2,3] [Ap 0 0,Ab vd]) [HA [Ai ve,AV.esl]])) (fun vd ve vf=>K (Ex.ret) (St.mk (Q3 136 0 [2,3] [Ap 0 0,Ab vd]) [HA [Ai ve,Fu vf]])):=by kernel_rfl
theorem QG3:Q4 (V 138) QCA QxV 138 0 (3998,0,QwD):=.s (size:=136) (ss:=[1,2]) (F:=@QjR) (by kernel_rfl) fun R r K vs hh h=>by
 unfold QjR at h; split at h
 ·rw[Ql6]at h; exact Eq.trans (by kernel_rfl) h
 ·cases h
theorem QG4:Q4 (V 138) QCA QxV 138 0 (3997,0,QwE):=.s (size:=136) (ss:=[1,2,45]) (F:=@QjQ) (by kernel_rfl) fun R r K vs hh h=>by
 unfold QjQ at h; split at h
 ·rw[Q7G]at h; exact Eq.trans (by kernel_rfl) h
 ·cases h
theorem QG5:Q4 (V 138) QCA QxV 138 0 (3995,0,Qob):=.s (size:=136) (ss:=[1,2,4,5,6]) (F:=@QjS) (by kernel_rfl) fun R r K vs hh h=>by
 unfold QjS at h; split at h
 ·rw[Ql5]at h; exact (Qu8 K _ _ _ _ _ _ _ _ _ _ _ _ _).trans h
 ·cases h
theorem QCB:Q4 (V 138) QCA QxV 138 0 (3988,0,Qu6):=.s (size:=136) (ss:=[2,9,12,13]) (F:=@Qgi) (by kernel_rfl) fun R r K vs hh h=>by
 unfold Qgi at h; split at h
 ·rw[QaZ]at h; exact Eq.trans (by kernel_rfl) h
 ·cases h
theorem QCC:Q4 (V 138) QCA QxV 138 0 (3986,0,Qu7):=.s (size:=136) (ss:=[2,9,133]) (F:=@Qgj) (by kernel_rfl) fun R r K vs hh h=>by
 unfold Qgj at h; split at h
 ·rw[QaY]at h; exact Eq.trans (by kernel_rfl) h
 ·cases h
theorem QQk:∀ x∈[(3998,0,QwD),(3997,0,QwE),(3995,0,Qob),(3988,0,Qu6),(3986,0,Qu7)],Q4 (V 138) QCA QxV 138 0 x:=List.forall_mem_cons.2 ⟨QG3,List.forall_mem_cons.2 ⟨QG4,List.forall_mem_cons.2 ⟨QG5,List.forall_mem_cons.2 ⟨QCB,List.forall_mem_cons.2 ⟨QCC,fun _ h=>nomatch h⟩⟩⟩⟩⟩
theorem QA6(K:AV→Option R)(v0 v1 v2 v3 v4:Int)(v5:List Int)(v6:Int)(v7:List Int):JD (V 138) S81 Q0P QxV 10 138 ([AV.agg (Blk.any [Ai v0,Ai v1,Ai v2,Ai v3,Ai v4,Fu v5,Ai v6,Fu v7])]) R K=QeA v0 v1 v2 v3 v4 v5 v6 v7 (fun v8 v9 va=>K (AV.tup [AV.agg (Blk.any [Ai v8,Fu v9]),Ab va])):=by kernel_rfl
def QM1 : Ev.Qj := fun args _ K => match args with
 | ([AV.agg (Blk.any [Ai v0, Ai v1, Ai v2, Ai v3, Ai v4, Fu v5, Ai v6, Fu v7])]) => QhJ v0 v1 v2 v3 v4 v5 v6 v7 (fun v8 v9 va => K (AV.tup [AV.agg (Blk.any [Ai v8, Fu v9]), Ab va]))
 | _ => none
def QQl:=Qr 138 QM1 S81
theorem D49 : Dom B0 V QQl Q0P 49 := Dom.s (m := 48) (n := 0) D48 D48 (O := QxV) (Qd.fn (fn0 := Tryz.f138) (by kernel_rfl) (by kernel_rfl) QQk) fun args R K r h => by
 unfold QM1 at h; split at h
 · rw [Qkk] at h; exact (QA6 K _ _ _ _ _ _ _ _).trans h
 · cases h
def QQm : Ev.Qj := fun args _ K => match args with
 | ([AV.agg (Blk.any [Ai v0, Ai v1, Ai v2, Ai v3, Ai v4, Fu v5, Ai v6, Fu v7])]) => Q0Q v0 v1 v2 v3 v4 v5 v6 v7 (fun v8 => K (Ab v8))
 | _ => none
def S82:=Qr 82 QQm QQl
theorem D50 : Dom B0 V S82 Q0P 50 := Dom.s (m := 49) (n := 0) D49 D49 (O := (fun _ => none)) (fun _ _ _ _ => Qd.none _ _) fun args R K r h => by
 unfold QQm at h; split at h
 · rw [QeB] at h; exact Eq.trans (by kernel_rfl) h
 · cases h
def QQn : Ev.Qj := fun args _ K => match args with
 | ([AV.agg (Blk.any [Ai v0, Ai v1, Fu v2, AV.fsl (Blk.ints .i64 v3), AV.fsl (Blk.ints .i64 v4), Ai v5, Ai v6, Ai v7, Ai v8, Fu v9, Ai va, Fu vb, AV.fsl (Blk.ints .i64 vc), AV.fsl (Blk.ints .i64 vd), Ai ve, Ai vf, Ai vg, Ai vh, Ai vi, Fu vj, Ai vk, Fu vl])]) => ZK v0 v1 v2 v3 v4 v5 v6 v7 v8 v9 va vb vc vd ve vf vg vh vi vj vk vl (fun vm => K (Ab vm))
 | _ => none
def S26:=Qr 26 QQn S82
theorem D51 : Dom B0 V S26 Q0P 51 := Dom.s (m := 50) (n := 0) D50 D50 (O := (fun _ => none)) (fun _ _ _ _ => Qd.none _ _) fun args R K r h => by
 unfold QQn at h; split at h
 · rw [JC] at h; exact Eq.trans (by kernel_rfl) h
 · cases h
def QjT (K : Ex → St → Option R) (vs : List AV) (hh : H) : Option R := match vs, hh with
 | [Ai v0, Ap 0 0], [HA [Ai v1, Fu v2]] => Qnc v0 v1 v2 (fun v3 v4 => K (Ex.ret) (St.mk (Q3 30 0 [4, 5] [Ab v3, Ai v4]) []))
 | _, _ => none
def QNq:Nat→Option Ql:=lkN [(6000,fun st _ K=>Qf 30 [1,2] st (QjT K))]
def QQo:Qi:=Qo (V 111) S26 Q0P 10
def QwF:Code:=Qk [1,1] (Q9 Tryz.f111)
theorem QG6:Q4 (V 111) QQo QNq 111 0 (3998,0,QwF):=.s (size:=30) (ss:=[1,2]) (F:=@QjT) (by kernel_rfl) fun R r K vs hh h=>by
 unfold QjT at h; split at h
 ·rw[Ql7]at h; exact Eq.trans (by kernel_rfl) h
 ·cases h
theorem QQp:∀ x∈[(3998,0,QwF)],Q4 (V 111) QQo QNq 111 0 x:=List.forall_mem_cons.2 ⟨QG6,fun _ h=>nomatch h⟩
def QM2 : Ev.Qj := fun args _ K => match args with
 | ([AV.agg (Blk.any [Ai v0, Fu v1]), Ai v2]) => Qqc v0 v1 v2 (fun v3 v4 => K (AV.tup [Ab v3, Ai v4]))
 | _ => none
def QQq:=Qr 111 QM2 S26
theorem D52 : Dom B0 V QQq Q0P 52 := Dom.s (m := 51) (n := 0) D51 D51 (O := QNq) (Qd.fn (fn0 := Tryz.f111) (by kernel_rfl) (by kernel_rfl) QQp) fun args R K r h => by
 unfold QM2 at h; split at h
 · rw [Qqd] at h; exact Eq.trans (by kernel_rfl) h
 · cases h
def QQr : Ev.Qj := fun args _ K => match args with
 | ([AV.agg (Blk.any [Ai v0, Fu v1, AV.fsl (Blk.ints .i64 v2), AV.fsl (Blk.ints .i64 v3)]), Ai v4]) => Qdc v0 v1 v2 v3 v4 (fun v5 v6 => K (AV.tup [Ab v5, Ai v6]))
 | _ => none
def S53:=Qr 53 QQr QQq
theorem D53 : Dom B0 V S53 Q0P 53 := Dom.s (m := 52) (n := 0) D52 D52 (O := (fun _ => none)) (fun _ _ _ _ => Qd.none _ _) fun args R K r h => by
 unfold QQr at h; split at h
 · rw [QhK] at h; exact Eq.trans (by kernel_rfl) h
 · cases h
def QjU (K : Ex → St → Option R) (vs : List AV) (hh : H) : Option R := match vs, hh with
 | [Ab v0], [] => Qc4 v0 (fun v1 => K (Ex.ret) (St.mk (Q3 24 0 [4] [AV.iface 204 (Ap 0 0)]) [HA [Ai v1]])) (fun _ => K (Ex.normal) (St.mk (Q3 24 0 [] []) []))
 | _, _ => none
def QNr:Nat→Option Ql:=lkN [(5000,fun st _ K=>Qf 24 [12] st (QjU K))]
def QQs:Qi:=Qo (V 181) S53 Q0P 10
def QwG:Code:=Qk [1,0,0,1,1,1] (Q9 Tryz.f181)
theorem QG7:Q4 (V 181) QQs QNr 181 0 (3994,0,QwG):=.s (size:=24) (ss:=[12]) (F:=@QjU) (by kernel_rfl) fun R r K vs hh h=>by
 unfold QjU at h; split at h
 ·rw[Ql8]at h; exact Eq.trans (by kernel_rfl) h
 ·cases h
theorem QQt:∀ x∈[(3994,0,QwG)],Q4 (V 181) QQs QNr 181 0 x:=List.forall_mem_cons.2 ⟨QG7,fun _ h=>nomatch h⟩
def QM3 : Ev.Qj := fun args _ K => match args with
 | ([AV.agg (Blk.any [Ai v0, Ai v1, Ai v2, Fu v3]), Ai v4]) => Qqe v0 v1 v2 v3 v4 (fun v5 => K (AV.iface 204 (AV.fptr (Blk.any [Ai v5])))) (fun _ => K (AV.nilif))
 | _ => none
def QQu:=Qr 181 QM3 S53
theorem D54 : Dom B0 V QQu Q0P 54 := Dom.s (m := 53) (n := 0) D53 D53 (O := QNr) (Qd.fn (fn0 := Tryz.f181) (by kernel_rfl) (by kernel_rfl) QQt) fun args R K r h => by
 unfold QM3 at h; split at h
 · rw [Qqf] at h; exact Eq.trans (by kernel_rfl) h
 · cases h
def QM4 : Ev.Qj := fun args _ K => match args with
 | ([AV.agg (Blk.any [Ai v0, Ai v1, Ai v2, Fu v3]), Ai v4]) => Qnd v0 v1 v2 v3 v4 (fun v5 v6 => K (AV.tup [Au v5, Ai v6]))
 | _ => none
def QQv:=Qr 159 QM4 QQu
theorem D55 : Dom B0 V QQv Q0P 55 := Dom.s (m := 54) (n := 0) D54 D54 (O := (fun _ => none)) (fun _ _ _ _ => Qd.none _ _) fun args R K r h => by
 unfold QM4 at h; split at h
 · rw [Qqg] at h; exact Eq.trans (by kernel_rfl) h
 · cases h
def QM5 : Ev.Qj := fun args _ K => match args with
 | ([AV.agg (Blk.any [Ai v0, Ai v1, Ai v2, Ai v3, Fu v4, Ai v5, Fu v6, AV.fsl (Blk.ints .i64 v7), AV.fsl (Blk.ints .i64 v8)]), Ai v9, Ai va]) => Qqh v0 v1 v2 v3 v4 v5 v6 v7 v8 v9 va (fun vb vc => K (AV.tup [Au vb, Ai vc]))
 | _ => none
def QA7:=Qr 158 QM5 QQv
theorem D56 : Dom B0 V QA7 Q0P 56 := Dom.s (m := 55) (n := 0) D55 D55 (O := (fun _ => none)) (fun _ _ _ _ => Qd.none _ _) fun args R K r h => by
 unfold QM5 at h; split at h
 · rw [Qs1] at h; exact Eq.trans (by kernel_rfl) h
 · cases h
def QM6 : Ya := fun args h _ K => match args, h with
 | [Ai v0, Au v1, Ai v2, Ap 0 0, Ap 1 0], [HA [Ai v3], HA [Ai v4]] => Qkl v0 v1 v2 v3 v4 (fun v5 v6 v7 => K (Ab v5) ([HA [Ai v6], HA [Ai v7]]))
 | _, _ => none
def QNs:=Qp4 155 QM6 Q0P
theorem D57 : Dom B0 V QA7 QNs 57 := Dom.t D56 fun args hh R K r h => by
 unfold QM6 at h; split at h
 · rw [QhL] at h; exact ⟨(fun _ => none), (fun _ _ _ _ => Qd.none _ _), Eq.trans (by kernel_rfl) h⟩
 · cases h
def Qe9 (K : Ex → St → Option R) (vs : List AV) (hh : H) : Option R := match vs, hh with
 | [Ai v0, Au v1, Ai v2, Ap 1 0, Ap 2 0], [HA [Ab v3], HA [Ai v4], HA [Ai v5]] => Q3d v0 v1 v2 v3 v4 v5 (fun v6 v7 v8 v9 => K (Ex.ret) (St.mk (Q3 34 0 [9] [Ab v6]) [HA [Ab v7], HA [Ai v8], HA [Ai v9]]))
 | _, _ => none
def QCD:Nat→Option Ql:=lkN [(4000,fun st _ K=>Qf 34 [0,1,2,4,5] st (Qe9 K))]
def QI2:Qi:=Qo (V 118) QA7 QNs 10
def QrZ:Code:=Qk [1,1] (Q9 Tryz.f118)
theorem QA8:Q4 (V 118) QI2 QCD 118 3 (3998,0,QrZ):=.s (size:=34) (ss:=[0,1,2,4,5]) (F:=@Qe9) (by kernel_rfl) fun R r K vs hh h=>by
 unfold Qe9 at h; split at h
 ·rw[QcT]at h; exact Eq.trans (by kernel_rfl) h
 ·cases h
theorem QKb:∀ x∈[(3998,0,QrZ)],Q4 (V 118) QI2 QCD 118 3 x:=List.forall_mem_cons.2 ⟨QA8,fun _ h=>nomatch h⟩
def QM7 : Ya := fun args h _ K => match args, h with
 | [Ai v0, Au v1, Ai v2, Ap 0 0, Ap 1 0, Ap 2 0], [HA [Ab v3], HA [Ai v4], HA [Ai v5]] => Q9S v0 v1 v2 v3 v4 v5 (fun v6 v7 v8 v9 => K (Ab v6) ([HA [Ab v7], HA [Ai v8], HA [Ai v9]]))
 | _, _ => none
def QKc:=Qp4 118 QM7 QNs
theorem D58 : Dom B0 V QA7 QKc 58 := Dom.t D57 fun args hh R K r h => by
 unfold QM7 at h; split at h
 · rw [QeL] at h; exact ⟨QCD, (Qd.fn (fn0 := Tryz.f118) (by kernel_rfl) (by kernel_rfl) QKb), Eq.trans (by kernel_rfl) h⟩
 · cases h
def Qea (K : Ex → St → Option R) (vs : List AV) (hh : H) : Option R := match vs, hh with
 | [AV.fn 155 [Ap 0 0, Ap 1 0], Ap 2 0, Ai v0, Ai v1, Ai v2], [HA [Ai v3], HA [Ai v4], HA [Ai v5, Ai v6, Ai v7, Ai v8, Fu v9, Ai va, Fu vb, AV.fsl (Blk.ints .i64 vc), AV.fsl (Blk.ints .i64 vd)]] => Qne v0 v1 v2 v3 v4 v5 v6 v7 v8 v9 va vb vc vd (fun ve vf => K (Ex.ret) (St.mk (Q3 53 0 [] []) [HA [Ai ve], HA [Ai vf]])) (fun ve vf => K (Ex.exit 0) (St.mk (Q3 53 0 [] []) [HA [Ai ve], HA [Ai vf]]))
 | _, _ => none
def QxW:Nat→Option Ql:=lkN [(5400,fun st _ K=>Qf 53 [2,3,7,8,9] st (Qea K))]
def QCE:Qi:=Qo (V 117) QA7 QKc 10
def QbQ:Code:=Qk [1,1,1,1,0,0] (Q9 Tryz.f117)
def QxX(N:Nat)(st:St)(K:Ex→St→Option R):Option R:=Qs (QQ ((V 117).keep 117 (Ev.Qc QbQ*1000+400)) 2) (Qh (V 117) QCE QxW 117 2 3994 QbQ) N st (QJ (V 117) 117 2 (Ev.Qc QbQ*1000+401) K)
theorem Qhm(K:Ex→St→Option R):∀ N:Nat,(fun (v0 v1 v2 v3 v4 v5 v6 v7 v8:Int) (v9:List Int) (va:Int) (vb vc vd:List Int)=>QxX N (St.mk (Q3 53 0 [2,3,7,8,9] [AV.fn 155 [Ap 0 0,Ap 1 0],Ap 2 0,Ai v0,Ai v1,Ai v2]) [HA [Ai v3],HA [Ai v4],HA [Ai v5,Ai v6,Ai v7,Ai v8,Fu v9,Ai va,Fu vb,AV.fsl (Blk.ints .i64 vc),AV.fsl (Blk.ints .i64 vd)]]) K)=Q3r (fun ve vf=>K (Ex.ret) (St.mk (Q3 53 0 [] []) [HA [Ai ve],HA [Ai vf]])) (fun ve vf=>K (Ex.exit 0) (St.mk (Q3 53 0 [] []) [HA [Ai ve],HA [Ai vf]])) N
 | 0=>by funext v0 v1 v2 v3 v4 v5 v6 v7 v8 v9 va vb vc vd; rfl
 | N+1=>by
  funext v0 v1 v2 v3 v4 v5 v6 v7 v8 v9 va vb vc vd
  simp only[Q3r]
  rw[←Qhm K N]
  kernel_rfl
theorem QA9:Q4 (V 117) QCE QxW 117 2 (3994,1,QbQ):=.l (size:=53) (ss:=[2,3,7,8,9]) (F:=@Qea) (by kernel_rfl) (by kernel_rfl) fun R r K vs hh h=>by
 unfold Qea at h; split at h
 ·rw[Ql9]at h; unfold Qbx at h; rw[←Qhm K NR]at h; exact h
 ·cases h
theorem QKd:∀ x∈[(3994,1,QbQ)],Q4 (V 117) QCE QxW 117 2 x:=List.forall_mem_cons.2 ⟨QA9,fun _ h=>nomatch h⟩
def Qeb (K : Ex → St → Option R) (vs : List AV) (hh : H) : Option R := match vs, hh with
 | [AV.fn 118 [Ap 0 0, Ap 1 0, Ap 2 0], Ap 3 0, Ai v0, Ai v1, Ai v2], [HA [Ab v3], HA [Ai v4], HA [Ai v5], HA [Ai v6, Ai v7, Ai v8, Ai v9, Fu va, Ai vb, Fu vc, AV.fsl (Blk.ints .i64 vd), AV.fsl (Blk.ints .i64 ve)]] => QgJ v0 v1 v2 v3 v4 v5 v6 v7 v8 v9 va vb vc vd ve (fun vf vg vh => K (Ex.ret) (St.mk (Q3 53 0 [] []) [HA [Ab vf], HA [Ai vg], HA [Ai vh]])) (fun vf vg vh => K (Ex.exit 0) (St.mk (Q3 53 0 [] []) [HA [Ab vf], HA [Ai vg], HA [Ai vh]]))
 | _, _ => none
def QxY:Nat→Option Ql:=lkN [(5400,fun st _ K=>Qf 53 [2,3,7,8,9] st (Qeb K))]
def QCF:Qi:=Qo (V 117) QA7 QKc 10
def QbR:Code:=Qk [1,1,1,1,0,0] (Q9 Tryz.f117)
def QxZ(N:Nat)(st:St)(K:Ex→St→Option R):Option R:=Qs (QQ ((V 117).keep 117 (Ev.Qc QbR*1000+400)) 3) (Qh (V 117) QCF QxY 117 3 3994 QbR) N st (QJ (V 117) 117 3 (Ev.Qc QbR*1000+401) K)
theorem Qec(K:Ex→St→Option R):∀ N:Nat,(fun (v0 v1 v2:Int) (v3:Bool) (v4 v5 v6 v7 v8 v9:Int) (va:List Int) (vb:Int) (vc vd ve:List Int)=>QxZ N (St.mk (Q3 53 0 [2,3,7,8,9] [AV.fn 118 [Ap 0 0,Ap 1 0,Ap 2 0],Ap 3 0,Ai v0,Ai v1,Ai v2]) [HA [Ab v3],HA [Ai v4],HA [Ai v5],HA [Ai v6,Ai v7,Ai v8,Ai v9,Fu va,Ai vb,Fu vc,AV.fsl (Blk.ints .i64 vd),AV.fsl (Blk.ints .i64 ve)]]) K)=Q0n (fun vf vg vh=>K (Ex.ret) (St.mk (Q3 53 0 [] []) [HA [Ab vf],HA [Ai vg],HA [Ai vh]])) (fun vf vg vh=>K (Ex.exit 0) (St.mk (Q3 53 0 [] []) [HA [Ab vf],HA [Ai vg],HA [Ai vh]])) N
 | 0=>by funext v0 v1 v2 v3 v4 v5 v6 v7 v8 v9 va vb vc vd ve; rfl
 | N+1=>by
  funext v0 v1 v2 v3 v4 v5 v6 v7 v8 v9 va vb vc vd ve
  simp only[Q0n]
  rw[←Qec K N]
  kernel_rfl
theorem QAa:Q4 (V 117) QCF QxY 117 3 (3994,1,QbR):=.l (size:=53) (ss:=[2,3,7,8,9]) (F:=@Qeb) (by kernel_rfl) (by kernel_rfl) fun R r K vs hh h=>by
 unfold Qeb at h; split at h
 ·rw[QfE]at h; unfold Q7M at h; rw[←Qec K NR]at h; exact h
 ·cases h
theorem QKe:∀ x∈[(3994,1,QbR)],Q4 (V 117) QCF QxY 117 3 x:=List.forall_mem_cons.2 ⟨QAa,fun _ h=>nomatch h⟩
def QM8 : Ya := fun args h _ K => match args, h with
 | [AV.agg (Blk.any [Ai v0, Ai v1, Ai v2, Ai v3, Fu v4, Ai v5, Fu v6, AV.fsl (Blk.ints .i64 v7), AV.fsl (Blk.ints .i64 v8)]), Ai v9, AV.fn 155 [Ap 0 0, Ap 1 0]], [HA [Ai va], HA [Ai vb]] => Qpt v0 v1 v2 v3 v4 v5 v6 v7 v8 v9 va vb (fun vc vd => K (AV.tup []) ([HA [Ai vc], HA [Ai vd]]))
 | [AV.agg (Blk.any [Ai ve, Ai vf, Ai vg, Ai vh, Fu vi, Ai vj, Fu vk, AV.fsl (Blk.ints .i64 vl), AV.fsl (Blk.ints .i64 vm)]), Ai vn, AV.fn 118 [Ap 0 0, Ap 1 0, Ap 2 0]], [HA [Ab vo], HA [Ai vp], HA [Ai vq]] => Qde ve vf vg vh vi vj vk vl vm vn vo vp vq (fun vc vd vr => K (AV.tup []) ([HA [Ab vc], HA [Ai vd], HA [Ai vr]]))
 | _, _ => none
def UD:=Qp4 117 QM8 QKc
theorem D59 : Dom B0 V QA7 UD 59 := Dom.t D58 fun args hh R K r h => by
 unfold QM8 at h; split at h
 · rw [Qnf] at h; exact ⟨QxW, (Qd.fn (fn0 := Tryz.f117) (by kernel_rfl) (by kernel_rfl) QKd), Eq.trans (by kernel_rfl) h⟩
 · rw [QhP] at h; exact ⟨QxY, (Qd.fn (fn0 := Tryz.f117) (by kernel_rfl) (by kernel_rfl) QKe), Eq.trans (by kernel_rfl) h⟩
 · cases h
def QM9 : Ev.Qj := fun args _ K => match args with
 | ([AV.agg (Blk.any [Ai v0, Ai v1, Ai v2, Ai v3, Fu v4, Ai v5, Fu v6, AV.fsl (Blk.ints .i64 v7), AV.fsl (Blk.ints .i64 v8)]), Ai v9]) => QeE v0 v1 v2 v3 v4 v5 v6 v7 v8 v9 (fun va => K (Ai va))
 | _ => none
def QNt:=Qr 112 QM9 QA7
theorem D60 : Dom B0 V QNt UD 60 := Dom.s (m := 59) (n := 0) D59 D59 (O := (fun _ => none)) (fun _ _ _ _ => Qd.none _ _) fun args R K r h => by
 unfold QM9 at h; split at h
 · rw [Qqi] at h; exact Eq.trans (by kernel_rfl) h
 · cases h
def QmE (K : Ex → St → Option R) (vs : List AV) (hh : H) : Option R := match vs, hh with
 | [Ai v0, Ap 0 0], [HA [Ai v1, Ai v2, Ai v3, Ai v4, Fu v5, Ai v6, Fu v7, AV.fsl (Blk.ints .i64 v8), AV.fsl (Blk.ints .i64 v9)]] => QgC v0 v1 v2 v3 v4 v5 v6 v7 v8 v9 (fun va vb => K (Ex.ret) (St.mk (Q3 27 0 [4, 5] [Ab va, Ai vb]) []))
 | _, _ => none
def o54:Nat→Option Ql:=lkN [(6000,fun st _ K=>Qf 27 [1,2] st (QmE K))]
def q54:Qi:=Qo (V 54) QNt UD 10
def QAb:Code:=Qk [1,1] (Q9 Tryz.f54)
theorem QI3:Q4 (V 54) q54 o54 54 0 (3998,0,QAb):=.s (size:=27) (ss:=[1,2]) (F:=@QmE) (by kernel_rfl) fun R r K vs hh h=>by
 unfold QmE at h; split at h
 ·rw[Qfy]at h; exact Eq.trans (by kernel_rfl) h
 ·cases h
theorem QRm:∀ x∈[(3998,0,QAb)],Q4 (V 54) q54 o54 54 0 x:=List.forall_mem_cons.2 ⟨QI3,fun _ h=>nomatch h⟩
def QQw : Ev.Qj := fun args _ K => match args with
 | ([AV.agg (Blk.any [Ai v0, Ai v1, Ai v2, Ai v3, Fu v4, Ai v5, Fu v6, AV.fsl (Blk.ints .i64 v7), AV.fsl (Blk.ints .i64 v8)]), Ai v9]) => Qko v0 v1 v2 v3 v4 v5 v6 v7 v8 v9 (fun va vb => K (AV.tup [Ab va, Ai vb]))
 | _ => none
def S54:=Qr 54 QQw QNt
theorem D61 : Dom B0 V S54 UD 61 := Dom.s (m := 60) (n := 0) D60 D60 (O := o54) (Qd.fn (fn0 := Tryz.f54) (by kernel_rfl) (by kernel_rfl) QRm) fun args R K r h => by
 unfold QQw at h; split at h
 · rw [Qng] at h; exact Eq.trans (by kernel_rfl) h
 · cases h
def QjV (K : Ex → St → Option R) (vs : List AV) (hh : H) : Option R := match vs, hh with
 | [Ai v0, Ap 0 0, Ai v1, Ai v2, Ai v3, Fu v4, Ai v5, Ai v6], [HA [Ai v7, Ai v8, Ai v9, Ai va, Ai vb, Fu vc, Ai vd, Fu ve]] => QgD v0 v1 v2 v3 v4 v5 v6 v7 v8 v9 va vb vc vd ve (fun vf vg vh vi vj vk vl vm vn vo vp => K (Ex.exit 0) (St.mk (Q3 63 0 [1, 2, 5, 7] [Ai vf, Ap 0 0, Ai vg, Ai vh]) [HA [Ai vi, Ai vj, Ai vk, Ai vl, Ai vm, Fu vn, Ai vo, Fu vp]]))
 | _, _ => none
def QKf:Nat→Option Ql:=lkN [(5400,fun st _ K=>Qf 63 [1,2,5,6,7,22,23,24] st (QjV K))]
def QNu:Qi:=Qo (V 119) S54 UD 10
def Qhn:Code:=Qk [1,1,1,0,1,0,0] (Q9 Tryz.f119)
def QCG(N:Nat)(st:St)(K:Ex→St→Option R):Option R:=Qs (QQ ((V 119).keep 119 (Ev.Qc Qhn*1000+400)) 0) (Qh (V 119) QNu QKf 119 0 3993 Qhn) N st (QJ (V 119) 119 0 (Ev.Qc Qhn*1000+401) K)
theorem Qed(K:Ex→St→Option R):∀ N:Nat,(fun (v0 v1 v2 v3:Int) (v4:List Int) (v5 v6 v7 v8 v9 va vb:Int) (vc:List Int) (vd:Int) (ve:List Int)=>QCG N (St.mk (Q3 63 0 [1,2,5,6,7,22,23,24] [Ai v0,Ap 0 0,Ai v1,Ai v2,Ai v3,Fu v4,Ai v5,Ai v6]) [HA [Ai v7,Ai v8,Ai v9,Ai va,Ai vb,Fu vc,Ai vd,Fu ve]]) K)=Q0l (fun vf vg vh vi vj vk vl vm vn vo vp=>K (Ex.exit 0) (St.mk (Q3 63 0 [1,2,5,7] [Ai vf,Ap 0 0,Ai vg,Ai vh]) [HA [Ai vi,Ai vj,Ai vk,Ai vl,Ai vm,Fu vn,Ai vo,Fu vp]])) N
 | 0=>by funext v0 v1 v2 v3 v4 v5 v6 v7 v8 v9 va vb vc vd ve; rfl
 | N+1=>by
  funext v0 v1 v2 v3 v4 v5 v6 v7 v8 v9 va vb vc vd ve
  simp only[Q0l]
  rw[←Qed K N]
  kernel_rfl
theorem QG8:Q4 (V 119) QNu QKf 119 0 (3993,1,Qhn):=.l (size:=63) (ss:=[1,2,5,6,7,22,23,24]) (F:=@QjV) (by kernel_rfl) (by kernel_rfl) fun R r K vs hh h=>by
 unfold QjV at h; split at h
 ·rw[Qfz]at h; unfold Q7J at h; rw[←Qed K NR]at h; exact h
 ·cases h
theorem QQx:∀ x∈[(3993,1,Qhn)],Q4 (V 119) QNu QKf 119 0 x:=List.forall_mem_cons.2 ⟨QG8,fun _ h=>nomatch h⟩
def QMa : Ev.Qj := fun args _ K => match args with
 | ([AV.agg (Blk.any [Ai v0, Ai v1, Ai v2, Ai v3, Ai v4, Fu v5, Ai v6, Fu v7]), Ai v8]) => QeF v0 v1 v2 v3 v4 v5 v6 v7 v8 (fun v9 => K (Ai v9))
 | _ => none
def QNv:=Qr 119 QMa S54
theorem D62 : Dom B0 V QNv UD 62 := Dom.s (m := 61) (n := 0) D61 D61 (O := QKf) (Qd.fn (fn0 := Tryz.f119) (by kernel_rfl) (by kernel_rfl) QQx) fun args R K r h => by
 unfold QMa at h; split at h
 · rw [Qnh] at h; exact Eq.trans (by kernel_rfl) h
 · cases h
def QjW (K : Ex → St → Option R) (vs : List AV) (hh : H) : Option R := match vs, hh with
 | [Ai v0, Ap 0 0, Ai v1, Ai v2], [HA [Ai v3, Ai v4, Ai v5, Ai v6, Ai v7, Fu v8, Ai v9, Fu va]] => Qkq v0 v1 v2 v3 v4 v5 v6 v7 v8 v9 va (fun vb => K (Ex.exit 0) (St.mk (Q3 26 0 [5] [Ai vb]) []))
 | _, _ => none
def QKg:Nat→Option Ql:=lkN [(3400,fun st _ K=>Qf 26 [1,2,5,6] st (QjW K))]
def QNw:Qi:=Qo (V 113) QNv UD 10
def Qho:Code:=Qk [1,1,0,0,0] (Q9 Tryz.f113)
def QCH(N:Nat)(st:St)(K:Ex→St→Option R):Option R:=Qs (QQ ((V 113).keep 113 (Ev.Qc Qho*1000+400)) 0) (Qh (V 113) QNw QKg 113 0 3995 Qho) N st (QJ (V 113) 113 0 (Ev.Qc Qho*1000+401) K)
theorem Qfi(K:Ex→St→Option R):∀ N:Nat,(fun (v0 v1 v2 v3 v4 v5 v6 v7:Int) (v8:List Int) (v9:Int) (va:List Int)=>QCH N (St.mk (Q3 26 0 [1,2,5,6] [Ai v0,Ap 0 0,Ai v1,Ai v2]) [HA [Ai v3,Ai v4,Ai v5,Ai v6,Ai v7,Fu v8,Ai v9,Fu va]]) K)=Q1x (fun vb=>K (Ex.exit 0) (St.mk (Q3 26 0 [5] [Ai vb]) [])) N
 | 0=>by funext v0 v1 v2 v3 v4 v5 v6 v7 v8 v9 va; rfl
 | N+1=>by
  funext v0 v1 v2 v3 v4 v5 v6 v7 v8 v9 va
  simp only[Q1x]
  rw[←Qfi K N]
  kernel_rfl
theorem QG9:Q4 (V 113) QNw QKg 113 0 (3995,1,Qho):=.l (size:=26) (ss:=[1,2,5,6]) (F:=@QjW) (by kernel_rfl) (by kernel_rfl) fun R r K vs hh h=>by
 unfold QjW at h; split at h
 ·rw[QhM]at h; unfold Q9O at h; rw[←Qfi K NR]at h; exact h
 ·cases h
theorem QQy:∀ x∈[(3995,1,Qho)],Q4 (V 113) QNw QKg 113 0 x:=List.forall_mem_cons.2 ⟨QG9,fun _ h=>nomatch h⟩
def QMb : Ev.Qj := fun args _ K => match args with
 | ([AV.agg (Blk.any [Ai v0, Ai v1, Ai v2, Ai v3, Ai v4, Fu v5, Ai v6, Fu v7]), Ai v8]) => Qb0 v0 v1 v2 v3 v4 v5 v6 v7 v8 (fun v9 => K (Ai v9))
 | _ => none
def QNx:=Qr 113 QMb QNv
theorem D63 : Dom B0 V QNx UD 63 := Dom.s (m := 62) (n := 0) D62 D62 (O := QKg) (Qd.fn (fn0 := Tryz.f113) (by kernel_rfl) (by kernel_rfl) QQy) fun args R K r h => by
 unfold QMb at h; split at h
 · rw [QoH] at h; exact Eq.trans (by kernel_rfl) h
 · cases h
def QmF (K : Ex → St → Option R) (vs : List AV) (hh : H) : Option R := match vs, hh with
 | [Ai v0, Ap 0 0], [HA [Ai v1, Ai v2, Ai v3, Ai v4, Ai v5, Fu v6, Ai v7, Fu v8]] => QeG v0 v1 v2 v3 v4 v5 v6 v7 v8 (fun v9 va => K (Ex.ret) (St.mk (Q3 27 0 [4, 5] [Ab v9, Ai va]) []))
 | _, _ => none
def o55:Nat→Option Ql:=lkN [(6000,fun st _ K=>Qf 27 [1,2] st (QmF K))]
def q55:Qi:=Qo (V 55) QNx UD 10
def QAc:Code:=Qk [1,1] (Q9 Tryz.f55)
theorem QI4:Q4 (V 55) q55 o55 55 0 (3998,0,QAc):=.s (size:=27) (ss:=[1,2]) (F:=@QmF) (by kernel_rfl) fun R r K vs hh h=>by
 unfold QmF at h; split at h
 ·rw[QeH]at h; exact Eq.trans (by kernel_rfl) h
 ·cases h
theorem QRn:∀ x∈[(3998,0,QAc)],Q4 (V 55) q55 o55 55 0 x:=List.forall_mem_cons.2 ⟨QI4,fun _ h=>nomatch h⟩
def QQz : Ev.Qj := fun args _ K => match args with
 | ([AV.agg (Blk.any [Ai v0, Ai v1, Ai v2, Ai v3, Ai v4, Fu v5, Ai v6, Fu v7]), Ai v8]) => QfA v0 v1 v2 v3 v4 v5 v6 v7 v8 (fun v9 va => K (AV.tup [Ab v9, Ai va]))
 | _ => none
def S55:=Qr 55 QQz QNx
theorem D64 : Dom B0 V S55 UD 64 := Dom.s (m := 63) (n := 0) D63 D63 (O := o55) (Qd.fn (fn0 := Tryz.f55) (by kernel_rfl) (by kernel_rfl) QRn) fun args R K r h => by
 unfold QQz at h; split at h
 · rw [Qlb] at h; exact Eq.trans (by kernel_rfl) h
 · cases h
def QQA : Ev.Qj := fun args _ K => match args with
 | ([AV.agg (Blk.any [Ai v0, Ai v1, Fu v2, AV.fsl (Blk.ints .i64 v3), AV.fsl (Blk.ints .i64 v4), Ai v5, Ai v6, Ai v7, Ai v8, Fu v9, Ai va, Fu vb, AV.fsl (Blk.ints .i64 vc), AV.fsl (Blk.ints .i64 vd), Ai ve, Ai vf, Ai vg, Ai vh, Ai vi, Fu vj, Ai vk, Fu vl]), Ai vm]) => Q3s v0 v1 v2 v3 v4 v5 v6 v7 v8 v9 va vb vc vd ve vf vg vh vi vj vk vl vm (fun vn vo => K (AV.tup [Ab vn, Ai vo]))
 | _ => none
def S15:=Qr 15 QQA S55
theorem D65 : Dom B0 V S15 UD 65 := Dom.s (m := 64) (n := 0) D64 D64 (O := (fun _ => none)) (fun _ _ _ _ => Qd.none _ _) fun args R K r h => by
 unfold QQA at h; split at h
 · rw [Q9P] at h; exact Eq.trans (by kernel_rfl) h
 · cases h
def QMc : Ev.Qj := fun args _ K => match args with
 | ([AV.agg (Blk.any [Ai v0, Fu v1, AV.fsl (Blk.ints .i64 v2), AV.fsl (Blk.ints .i64 v3)]), Ai v4]) => QeI v0 v1 v2 v3 v4 (fun v5 => K (Ai v5))
 | _ => none
def QQB:=Qr 156 QMc S15
theorem D66 : Dom B0 V QQB UD 66 := Dom.s (m := 65) (n := 0) D65 D65 (O := (fun _ => none)) (fun _ _ _ _ => Qd.none _ _) fun args R K r h => by
 unfold QMc at h; split at h
 · rw [Qnk] at h; exact Eq.trans (by kernel_rfl) h
 · cases h
def QMd : Ev.Qj := fun args _ K => match args with
 | ([AV.agg (Blk.any [Ai v0, Fu v1, AV.fsl (Blk.ints .i64 v2), AV.fsl (Blk.ints .i64 v3)]), Ab v4, Ai v5]) => Q5a v0 v1 v2 v3 v4 v5 (fun v6 => K (Ai v6))
 | _ => none
def QNy:=Qr 114 QMd QQB
theorem D67 : Dom B0 V QNy UD 67 := Dom.s (m := 66) (n := 0) D66 D66 (O := (fun _ => none)) (fun _ _ _ _ => Qd.none _ _) fun args R K r h => by
 unfold QMd at h; split at h
 · rw [Qlc] at h; exact Eq.trans (by kernel_rfl) h
 · cases h
def QmG (K : Ex → St → Option R) (vs : List AV) (hh : H) : Option R := match vs, hh with
 | [Ab v0, Ai v1, Ap 0 0], [HA [Ai v2, Fu v3, AV.fsl (Blk.ints .i64 v4), AV.fsl (Blk.ints .i64 v5)]] => QgG v0 v1 v2 v3 v4 v5 (fun v6 v7 => K (Ex.ret) (St.mk (Q3 26 0 [6, 7] [Ai v6, Ai v7]) []))
 | _, _ => none
def o56:Nat→Option Ql:=lkN [(6000,fun st _ K=>Qf 26 [1,2,3] st (QmG K))]
def q56:Qi:=Qo (V 56) QNy UD 10
def QAd:Code:=Qk [1,1] (Q9 Tryz.f56)
theorem QI5:Q4 (V 56) q56 o56 56 0 (3998,0,QAd):=.s (size:=26) (ss:=[1,2,3]) (F:=@QmG) (by kernel_rfl) fun R r K vs hh h=>by
 unfold QmG at h; split at h
 ·rw[QfB]at h; exact Eq.trans (by kernel_rfl) h
 ·cases h
theorem QRo:∀ x∈[(3998,0,QAd)],Q4 (V 56) q56 o56 56 0 x:=List.forall_mem_cons.2 ⟨QI5,fun _ h=>nomatch h⟩
def QQC : Ev.Qj := fun args _ K => match args with
 | ([AV.agg (Blk.any [Ai v0, Fu v1, AV.fsl (Blk.ints .i64 v2), AV.fsl (Blk.ints .i64 v3)]), Ab v4, Ai v5]) => Qkt v0 v1 v2 v3 v4 v5 (fun v6 v7 => K (AV.tup [Ai v6, Ai v7]))
 | _ => none
def S56:=Qr 56 QQC QNy
theorem D68 : Dom B0 V S56 UD 68 := Dom.s (m := 67) (n := 0) D67 D67 (O := o56) (Qd.fn (fn0 := Tryz.f56) (by kernel_rfl) (by kernel_rfl) QRo) fun args R K r h => by
 unfold QQC at h; split at h
 · rw [Qnl] at h; exact Eq.trans (by kernel_rfl) h
 · cases h
def QMe : Ev.Qj := fun args _ K => match args with
 | ([AV.agg (Blk.any [Ai v0, Ai v1, Ai v2, Ai v3, Fu v4, Ai v5, Fu v6, AV.fsl (Blk.ints .i64 v7), AV.fsl (Blk.ints .i64 v8)]), Ab v9, Ai va]) => Qdp v0 v1 v2 v3 v4 v5 v6 v7 v8 v9 va (fun vb => K (Ai vb))
 | _ => none
def QNz:=Qr 115 QMe S56
theorem D69 : Dom B0 V QNz UD 69 := Dom.s (m := 68) (n := 0) D68 D68 (O := (fun _ => none)) (fun _ _ _ _ => Qd.none _ _) fun args R K r h => by
 unfold QMe at h; split at h
 · rw [QoI] at h; exact Eq.trans (by kernel_rfl) h
 · cases h
def QmH (K : Ex → St → Option R) (vs : List AV) (hh : H) : Option R := match vs, hh with
 | [Ab v0, Ai v1, Ap 0 0], [HA [Ai v2, Ai v3, Ai v4, Ai v5, Fu v6, Ai v7, Fu v8, AV.fsl (Blk.ints .i64 v9), AV.fsl (Blk.ints .i64 va)]] => Qnn v0 v1 v2 v3 v4 v5 v6 v7 v8 v9 va (fun vb vc => K (Ex.ret) (St.mk (Q3 25 0 [6, 7] [Ai vb, Ai vc]) []))
 | _, _ => none
def o57:Nat→Option Ql:=lkN [(6000,fun st _ K=>Qf 25 [1,2,3] st (QmH K))]
def q57:Qi:=Qo (V 57) QNz UD 10
def QAe:Code:=Qk [1,1] (Q9 Tryz.f57)
theorem QI6:Q4 (V 57) q57 o57 57 0 (3998,0,QAe):=.s (size:=25) (ss:=[1,2,3]) (F:=@QmH) (by kernel_rfl) fun R r K vs hh h=>by
 unfold QmH at h; split at h
 ·rw[Qld]at h; exact Eq.trans (by kernel_rfl) h
 ·cases h
theorem QRp:∀ x∈[(3998,0,QAe)],Q4 (V 57) q57 o57 57 0 x:=List.forall_mem_cons.2 ⟨QI6,fun _ h=>nomatch h⟩
def QQD : Ev.Qj := fun args _ K => match args with
 | ([AV.agg (Blk.any [Ai v0, Ai v1, Ai v2, Ai v3, Fu v4, Ai v5, Fu v6, AV.fsl (Blk.ints .i64 v7), AV.fsl (Blk.ints .i64 v8)]), Ab v9, Ai va]) => Qqj v0 v1 v2 v3 v4 v5 v6 v7 v8 v9 va (fun vb vc => K (AV.tup [Ai vb, Ai vc]))
 | _ => none
def S57:=Qr 57 QQD QNz
theorem D70 : Dom B0 V S57 UD 70 := Dom.s (m := 69) (n := 0) D69 D69 (O := o57) (Qd.fn (fn0 := Tryz.f57) (by kernel_rfl) (by kernel_rfl) QRp) fun args R K r h => by
 unfold QQD at h; split at h
 · rw [Qqk] at h; exact Eq.trans (by kernel_rfl) h
 · cases h
def QmI (K : Ex → St → Option R) (vs : List AV) (hh : H) : Option R := match vs, hh with
 | [Ab v0, Ai v1, Ap 0 0], [HA [Ai v2, Ai v3, Ai v4, Ai v5, Ai v6, Fu v7, Ai v8, Fu v9]] => Qku v0 v1 v2 v3 v4 v5 v6 v7 v8 v9 (fun va vb => K (Ex.ret) (St.mk (Q3 31 0 [6, 7] [Ai va, Ai vb]) []))
 | _, _ => none
def o58:Nat→Option Ql:=lkN [(6000,fun st _ K=>Qf 31 [1,2,3] st (QmI K))]
def q58:Qi:=Qo (V 58) S57 UD 10
def QAf:Code:=Qk [1,1] (Q9 Tryz.f58)
theorem QI7:Q4 (V 58) q58 o58 58 0 (3998,0,QAf):=.s (size:=31) (ss:=[1,2,3]) (F:=@QmI) (by kernel_rfl) fun R r K vs hh h=>by
 unfold QmI at h; split at h
 ·rw[QhN]at h; exact Eq.trans (by kernel_rfl) h
 ·cases h
theorem QRq:∀ x∈[(3998,0,QAf)],Q4 (V 58) q58 o58 58 0 x:=List.forall_mem_cons.2 ⟨QI7,fun _ h=>nomatch h⟩
def QQE : Ev.Qj := fun args _ K => match args with
 | ([AV.agg (Blk.any [Ai v0, Ai v1, Ai v2, Ai v3, Ai v4, Fu v5, Ai v6, Fu v7]), Ab v8, Ai v9]) => Qod v0 v1 v2 v3 v4 v5 v6 v7 v8 v9 (fun va vb => K (AV.tup [Ai va, Ai vb]))
 | _ => none
def S58:=Qr 58 QQE S57
theorem D71 : Dom B0 V S58 UD 71 := Dom.s (m := 70) (n := 0) D70 D70 (O := o58) (Qd.fn (fn0 := Tryz.f58) (by kernel_rfl) (by kernel_rfl) QRq) fun args R K r h => by
 unfold QQE at h; split at h
 · rw [QoJ] at h; exact Eq.trans (by kernel_rfl) h
 · cases h
def QQF : Ev.Qj := fun args _ K => match args with
 | ([AV.agg (Blk.any [Ai v0, Ai v1, Fu v2, AV.fsl (Blk.ints .i64 v3), AV.fsl (Blk.ints .i64 v4), Ai v5, Ai v6, Ai v7, Ai v8, Fu v9, Ai va, Fu vb, AV.fsl (Blk.ints .i64 vc), AV.fsl (Blk.ints .i64 vd), Ai ve, Ai vf, Ai vg, Ai vh, Ai vi, Fu vj, Ai vk, Fu vl]), Ab vm, Ai vn]) => Q8h v0 v1 v2 v3 v4 v5 v6 v7 v8 v9 va vb vc vd ve vf vg vh vi vj vk vl vm vn (fun vo vp => K (AV.tup [Ai vo, Ai vp]))
 | _ => none
def S16:=Qr 16 QQF S58
theorem D72 : Dom B0 V S16 UD 72 := Dom.s (m := 71) (n := 0) D71 D71 (O := (fun _ => none)) (fun _ _ _ _ => Qd.none _ _) fun args R K r h => by
 unfold QQF at h; split at h
 · rw [Qcp] at h; exact Eq.trans (by kernel_rfl) h
 · cases h
def QmJ (K : Ex → St → Option R) (vs : List AV) (hh : H) : Option R := match vs, hh with
 | [Ab v0, Ai v1, Ap 0 0], [HA [Ai v2, Fu v3, AV.fsl (Blk.ints .i64 v4), AV.fsl (Blk.ints .i64 v5)]] => Qcr v0 v1 v2 v3 v4 v5 (fun v6 v7 => K (Ex.ret) (St.mk (Q3 71 0 [6, 7] [Ai v6, Ai v7]) []))
 | _, _ => none
def QmK (K : Ex → St → Option R) (vs : List AV) (hh : H) : Option R := match vs, hh with
 | [Ab v0, Ai v1, Ap 0 0, Ai v2, Ai v3], [HA [Ai v4, Fu v5, AV.fsl (Blk.ints .i64 v6), AV.fsl (Blk.ints .i64 v7)]] => Qcq v0 v1 v2 v3 v4 v5 v6 v7 (fun v8 v9 va vb vc vd ve => K (Ex.exit 1) (St.mk (Q3 71 0 [1, 2, 3, 8] [Ab v8, Ai v9, Ap 0 0, Ai va]) [HA [Ai vb, Fu vc, AV.fsl (Blk.ints .i64 vd), AV.fsl (Blk.ints .i64 ve)]]))
 | _, _ => none
def QjX (K : Ex → St → Option R) (vs : List AV) (hh : H) : Option R := match vs, hh with
 | [Ab v0, Ai v1, Ap 0 0, Ai v2, Au v3], [HA [Ai v4, Fu v5, AV.fsl (Blk.ints .i64 v6), AV.fsl (Blk.ints .i64 v7)]] => Uc v0 v1 v2 v3 v4 v5 v6 v7 (fun v8 v9 => K (Ex.ret) (St.mk (Q3 71 0 [6, 7] [Ai v8, Ai v9]) []))
 | _, _ => none
def o59:Nat→Option Ql:=lkN [(6000,fun st _ K=>Qf 71 [1,2,3] st (QmJ K)),(7400,fun st _ K=>Qf 71 [1,2,3,8,9] st (QmK K)),(15000,fun st _ K=>Qf 71 [1,2,3,8,11] st (QjX K))]
def q59:Qi:=Qo (V 59) S16 UD 10
def QAg:Code:=Qk [1,1] (Q9 Tryz.f59)
def QmL:Code:=Qk [1,1,1,0,0,0] (Q9 Tryz.f59)
def QGa(N:Nat)(st:St)(K:Ex→St→Option R):Option R:=Qs (QQ ((V 59).keep 59 (Ev.Qc QmL*1000+400)) 0) (Qh (V 59) q59 o59 59 0 3994 QmL) N st (QJ (V 59) 59 0 (Ev.Qc QmL*1000+401) K)
def QwH:Code:=Qk [1,1,1,1,1,1] (Q9 Tryz.f59)
theorem QbS(K:Ex→St→Option R):∀ N:Nat,(fun (v0:Bool) (v1 v2 v3 v4:Int) (v5 v6 v7:List Int)=>QGa N (St.mk (Q3 71 0 [1,2,3,8,9] [Ab v0,Ai v1,Ap 0 0,Ai v2,Ai v3]) [HA [Ai v4,Fu v5,AV.fsl (Blk.ints .i64 v6),AV.fsl (Blk.ints .i64 v7)]]) K)=UN (fun v8 v9 va vb vc vd ve=>K (Ex.exit 1) (St.mk (Q3 71 0 [1,2,3,8] [Ab v8,Ai v9,Ap 0 0,Ai va]) [HA [Ai vb,Fu vc,AV.fsl (Blk.ints .i64 vd),AV.fsl (Blk.ints .i64 ve)]])) N
 | 0=>by funext v0 v1 v2 v3 v4 v5 v6 v7; rfl
 | N+1=>by
  funext v0 v1 v2 v3 v4 v5 v6 v7
  simp only[UN]
  rw[←QbS K N]
  kernel_rfl
theorem QI8:Q4 (V 59) q59 o59 59 0 (3998,0,QAg):=.s (size:=71) (ss:=[1,2,3]) (F:=@QmJ) (by kernel_rfl) fun R r K vs hh h=>by
 unfold QmJ at h; split at h
 ·rw[QcS]at h; exact Eq.trans (by kernel_rfl) h
 ·cases h
theorem QI9:Q4 (V 59) q59 o59 59 0 (3994,1,QmL):=.l (size:=71) (ss:=[1,2,3,8,9]) (F:=@QmK) (by kernel_rfl) (by kernel_rfl) fun R r K vs hh h=>by
 unfold QmK at h; split at h
 ·rw[QcR]at h; unfold Q4r at h; rw[←QbS K NR]at h; exact h
 ·cases h
theorem QGb:Q4 (V 59) q59 o59 59 0 (3994,0,QwH):=.s (size:=71) (ss:=[1,2,3,8,11]) (F:=@QjX) (by kernel_rfl) fun R r K vs hh h=>by
 unfold QjX at h; split at h
 ·rw[Qc5]at h; exact Eq.trans (by kernel_rfl) h
 ·cases h
theorem QRr:∀ x∈[(3998,0,QAg),(3994,1,QmL),(3994,0,QwH)],Q4 (V 59) q59 o59 59 0 x:=List.forall_mem_cons.2 ⟨QI8,List.forall_mem_cons.2 ⟨QI9,List.forall_mem_cons.2 ⟨QGb,fun _ h=>nomatch h⟩⟩⟩
def QQG : Ev.Qj := fun args _ K => match args with
 | ([AV.agg (Blk.any [Ai v0, Fu v1, AV.fsl (Blk.ints .i64 v2), AV.fsl (Blk.ints .i64 v3)]), Ab v4, Ai v5]) => Qdd v0 v1 v2 v3 v4 v5 (fun v6 v7 => K (AV.tup [Ai v6, Ai v7]))
 | _ => none
def S59:=Qr 59 QQG S16
theorem D73 : Dom B0 V S59 UD 73 := Dom.s (m := 72) (n := 0) D72 D72 (O := o59) (Qd.fn (fn0 := Tryz.f59) (by kernel_rfl) (by kernel_rfl) QRr) fun args R K r h => by
 unfold QQG at h; split at h
 · rw [QhO] at h; exact Eq.trans (by kernel_rfl) h
 · cases h
def QmM (K : Ex → St → Option R) (vs : List AV) (hh : H) : Option R := match vs, hh with
 | [Ap 0 0, Ap 1 0, Ap 2 0], [HA [Ai v0, Ai v1, Ai v2, Ai v3, Fu v4, Ai v5, Fu v6, AV.fsl (Blk.ints .i64 v7), AV.fsl (Blk.ints .i64 v8)], HA [Ab v9], HA [Ai va]] => Qbz v0 v1 v2 v3 v4 v5 v6 v7 v8 v9 va (fun vb vc => K (Ex.ret) (St.mk (Q3 51 0 [6, 7] [Ai vb, Ai vc]) []))
 | _, _ => none
def QmN (K : Ex → St → Option R) (vs : List AV) (hh : H) : Option R := match vs, hh with
 | [Ap 0 0, Ap 1 0, Ap 2 0, Ai v0], [HA [Ai v1, Ai v2, Ai v3, Ai v4, Fu v5, Ai v6, Fu v7, AV.fsl (Blk.ints .i64 v8), AV.fsl (Blk.ints .i64 v9)], HA [Ab va], HA [Ai vb]] => QgI v0 v1 v2 v3 v4 v5 v6 v7 v8 v9 va vb (fun vc vd ve vf vg vh vi vj vk vl vm vn => K (Ex.exit 1) (St.mk (Q3 51 0 [3, 4, 5, 8] [Ap 0 0, Ap 1 0, Ap 2 0, Ai vc]) [HA [Ai vd, Ai ve, Ai vf, Ai vg, Fu vh, Ai vi, Fu vj, AV.fsl (Blk.ints .i64 vk), AV.fsl (Blk.ints .i64 vl)], HA [Ab vm], HA [Ai vn]]))
 | _, _ => none
def o60:Nat→Option Ql:=lkN [(6000,fun st _ K=>Qf 51 [3,4,5] st (QmM K)),(7400,fun st _ K=>Qf 51 [3,4,5,8] st (QmN K))]
def q60:Qi:=Qo (V 60) S59 UD 10
def QAh:Code:=Qk [1,1] (Q9 Tryz.f60)
def QmO:Code:=Qk [1,1,1,0,0,0] (Q9 Tryz.f60)
def QGc(N:Nat)(st:St)(K:Ex→St→Option R):Option R:=Qs (QQ ((V 60).keep 60 (Ev.Qc QmO*1000+400)) 0) (Qh (V 60) q60 o60 60 0 3994 QmO) N st (QJ (V 60) 60 0 (Ev.Qc QmO*1000+401) K)
theorem Qee(K:Ex→St→Option R):∀ N:Nat,(fun (v0 v1 v2 v3 v4:Int) (v5:List Int) (v6:Int) (v7 v8 v9:List Int) (va:Bool) (vb:Int)=>QGc N (St.mk (Q3 51 0 [3,4,5,8] [Ap 0 0,Ap 1 0,Ap 2 0,Ai v0]) [HA [Ai v1,Ai v2,Ai v3,Ai v4,Fu v5,Ai v6,Fu v7,AV.fsl (Blk.ints .i64 v8),AV.fsl (Blk.ints .i64 v9)],HA [Ab va],HA [Ai vb]]) K)=Q0m (fun vc vd ve vf vg vh vi vj vk vl vm vn=>K (Ex.exit 1) (St.mk (Q3 51 0 [3,4,5,8] [Ap 0 0,Ap 1 0,Ap 2 0,Ai vc]) [HA [Ai vd,Ai ve,Ai vf,Ai vg,Fu vh,Ai vi,Fu vj,AV.fsl (Blk.ints .i64 vk),AV.fsl (Blk.ints .i64 vl)],HA [Ab vm],HA [Ai vn]])) N
 | 0=>by funext v0 v1 v2 v3 v4 v5 v6 v7 v8 v9 va vb; rfl
 | N+1=>by
  funext v0 v1 v2 v3 v4 v5 v6 v7 v8 v9 va vb
  simp only[Q0m]
  rw[←Qee K N]
  kernel_rfl
theorem QIa:Q4 (V 60) q60 o60 60 0 (3998,0,QAh):=.s (size:=51) (ss:=[3,4,5]) (F:=@QmM) (by kernel_rfl) fun R r K vs hh h=>by
 unfold QmM at h; split at h
 ·rw[QfF]at h; exact Eq.trans (by kernel_rfl) h
 ·cases h
theorem QIb:Q4 (V 60) q60 o60 60 0 (3994,1,QmO):=.l (size:=51) (ss:=[3,4,5,8]) (F:=@QmN) (by kernel_rfl) (by kernel_rfl) fun R r K vs hh h=>by
 unfold QmN at h; split at h
 ·rw[QfD]at h; unfold Q7L at h; rw[←Qee K NR]at h; exact h
 ·cases h
theorem QRs:∀ x∈[(3998,0,QAh),(3994,1,QmO)],Q4 (V 60) q60 o60 60 0 x:=List.forall_mem_cons.2 ⟨QIa,List.forall_mem_cons.2 ⟨QIb,fun _ h=>nomatch h⟩⟩
def QQH : Ev.Qj := fun args _ K => match args with
 | ([AV.agg (Blk.any [Ai v0, Ai v1, Ai v2, Ai v3, Fu v4, Ai v5, Fu v6, AV.fsl (Blk.ints .i64 v7), AV.fsl (Blk.ints .i64 v8)]), Ab v9, Ai va]) => Qkw v0 v1 v2 v3 v4 v5 v6 v7 v8 v9 va (fun vb vc => K (AV.tup [Ai vb, Ai vc]))
 | _ => none
def S60:=Qr 60 QQH S59
theorem D74 : Dom B0 V S60 UD 74 := Dom.s (m := 73) (n := 0) D73 D73 (O := o60) (Qd.fn (fn0 := Tryz.f60) (by kernel_rfl) (by kernel_rfl) QRs) fun args R K r h => by
 unfold QQH at h; split at h
 · rw [Qnp] at h; exact Eq.trans (by kernel_rfl) h
 · cases h
def QmP (K : Ex → St → Option R) (vs : List AV) (hh : H) : Option R := match vs, hh with
 | [Ab v0, Ai v1, Ap 0 0, Ai v2], [HA [Ai v3, Ai v4, Ai v5, Ai v6, Ai v7, Fu v8, Ai v9, Fu va]] => Q5b v0 v1 v2 v3 v4 v5 v6 v7 v8 v9 va (fun vb vc => K (Ex.ret) (St.mk (Q3 61 0 [6, 7] [Ai vb, Ai vc]) []))
 | _, _ => none
def QmQ (K : Ex → St → Option R) (vs : List AV) (hh : H) : Option R := match vs, hh with
 | [Ab v0, Ai v1, Ap 0 0, Ab v2], [HA [Ai v3, Ai v4, Ai v5, Ai v6, Ai v7, Fu v8, Ai v9, Fu va]] => Q9T v0 v1 v2 v3 v4 v5 v6 v7 v8 v9 va (fun vb vc => K (Ex.ret) (St.mk (Q3 61 0 [6, 7] [Ai vb, Ai vc]) [])) (fun vb vc vd ve vf vg vh vi vj => K (Ex.normal) (St.mk (Q3 61 0 [2, 3] [Ai vb, Ap 0 0]) [HA [Ai vc, Ai vd, Ai ve, Ai vf, Ai vg, Fu vh, Ai vi, Fu vj]]))
 | _, _ => none
def QjY (K : Ex → St → Option R) (vs : List AV) (hh : H) : Option R := match vs, hh with
 | [Ai v0, Ap 0 0], [HA [Ai v1, Ai v2, Ai v3, Ai v4, Ai v5, Fu v6, Ai v7, Fu v8]] => Q7N v0 v1 v2 v3 v4 v5 v6 v7 v8 (fun v9 va => K (Ex.ret) (St.mk (Q3 61 0 [6, 7] [Ai v9, Ai va]) []))
 | _, _ => none
def QjZ (K : Ex → St → Option R) (vs : List AV) (hh : H) : Option R := match vs, hh with
 | [Ai v0, Ap 0 0, Ai v1, Ai v2], [HA [Ai v3, Ai v4, Ai v5, Ai v6, Ai v7, Fu v8, Ai v9, Fu va]] => Qct v0 v1 v2 v3 v4 v5 v6 v7 v8 v9 va (fun vb => K (Ex.exit 1) (St.mk (Q3 61 0 [9] [Ai vb]) []))
 | _, _ => none
def o61:Nat→Option Ql:=lkN [(5000,fun st _ K=>Qf 61 [1,2,3,8] st (QmP K)),(8000,fun st _ K=>Qf 61 [1,2,3,25] st (QmQ K)),(11000,fun st _ K=>Qf 61 [2,3] st (QjY K)),(12400,fun st _ K=>Qf 61 [2,3,9,10] st (QjZ K))]
def q61:Qi:=Qo (V 61) S60 UD 10
def QAi:Code:=Qk [1,1,1] (Q9 Tryz.f61)
def QwI:Code:=Qk [1,1,1,1] (Q9 Tryz.f61)
def QAj:Code:=Qk [1,1,1,0,0,1,1,1] (Q9 Tryz.f61)
def Qhp:Code:=Qk [1,1,1,1,1,0,0,0] (Q9 Tryz.f61)
def QCI(N:Nat)(st:St)(K:Ex→St→Option R):Option R:=Qs (QQ ((V 61).keep 61 (Ev.Qc Qhp*1000+400)) 0) (Qh (V 61) q61 o61 61 0 3992 Qhp) N st (QJ (V 61) 61 0 (Ev.Qc Qhp*1000+401) K)
theorem QbT(K:Ex→St→Option R):∀ N:Nat,(fun (v0 v1 v2 v3 v4 v5 v6 v7:Int) (v8:List Int) (v9:Int) (va:List Int)=>QCI N (St.mk (Q3 61 0 [2,3,9,10] [Ai v0,Ap 0 0,Ai v1,Ai v2]) [HA [Ai v3,Ai v4,Ai v5,Ai v6,Ai v7,Fu v8,Ai v9,Fu va]]) K)=UO (fun vb=>K (Ex.exit 1) (St.mk (Q3 61 0 [9] [Ai vb]) [])) N
 | 0=>by funext v0 v1 v2 v3 v4 v5 v6 v7 v8 v9 va; rfl
 | N+1=>by
  funext v0 v1 v2 v3 v4 v5 v6 v7 v8 v9 va
  simp only[UO]
  rw[←QbT K N]
  kernel_rfl
theorem QIc:Q4 (V 61) q61 o61 61 0 (3997,0,QAi):=.s (size:=61) (ss:=[1,2,3,8]) (F:=@QmP) (by kernel_rfl) fun R r K vs hh h=>by
 unfold QmP at h; split at h
 ·rw[QeN]at h; exact Eq.trans (by kernel_rfl) h
 ·cases h
theorem QGd:Q4 (V 61) q61 o61 61 0 (3996,0,QwI):=.s (size:=61) (ss:=[2,3]) (F:=@QjY) (by kernel_rfl) fun R r K vs hh h=>by
 unfold QjY at h; split at h
 ·rw[QcV]at h; exact Eq.trans (by kernel_rfl) h
 ·cases h
theorem QId:Q4 (V 61) q61 o61 61 0 (3992,0,QAj):=.s (size:=61) (ss:=[1,2,3,25]) (F:=@QmQ) (by kernel_rfl) fun R r K vs hh h=>by
 unfold QmQ at h; split at h
 ·rw[Q81]at h; exact Eq.trans (by kernel_rfl) h
 ·cases h
theorem QGe:Q4 (V 61) q61 o61 61 0 (3992,1,Qhp):=.l (size:=61) (ss:=[2,3,9,10]) (F:=@QjZ) (by kernel_rfl) (by kernel_rfl) fun R r K vs hh h=>by
 unfold QjZ at h; split at h
 ·rw[QcU]at h; unfold Q4s at h; rw[←QbT K NR]at h; exact h
 ·cases h
theorem QRt:∀ x∈[(3997,0,QAi),(3996,0,QwI),(3992,0,QAj),(3992,1,Qhp)],Q4 (V 61) q61 o61 61 0 x:=List.forall_mem_cons.2 ⟨QIc,List.forall_mem_cons.2 ⟨QGd,List.forall_mem_cons.2 ⟨QId,List.forall_mem_cons.2 ⟨QGe,fun _ h=>nomatch h⟩⟩⟩⟩
def QQI : Ev.Qj := fun args _ K => match args with
 | ([AV.agg (Blk.any [Ai v0, Ai v1, Ai v2, Ai v3, Ai v4, Fu v5, Ai v6, Fu v7]), Ab v8, Ai v9]) => QfH v0 v1 v2 v3 v4 v5 v6 v7 v8 v9 (fun va vb => K (AV.tup [Ai va, Ai vb]))
 | _ => none
def S61:=Qr 61 QQI S60
theorem D75 : Dom B0 V S61 UD 75 := Dom.s (m := 74) (n := 0) D74 D74 (O := o61) (Qd.fn (fn0 := Tryz.f61) (by kernel_rfl) (by kernel_rfl) QRt) fun args R K r h => by
 unfold QQI at h; split at h
 · rw [Qlg] at h; exact Eq.trans (by kernel_rfl) h
 · cases h
def QQJ : Ev.Qj := fun args _ K => match args with
 | ([AV.agg (Blk.any [Ai v0, Ai v1, Fu v2, AV.fsl (Blk.ints .i64 v3), AV.fsl (Blk.ints .i64 v4), Ai v5, Ai v6, Ai v7, Ai v8, Fu v9, Ai va, Fu vb, AV.fsl (Blk.ints .i64 vc), AV.fsl (Blk.ints .i64 vd), Ai ve, Ai vf, Ai vg, Ai vh, Ai vi, Fu vj, Ai vk, Fu vl]), Ab vm, Ai vn]) => Jv v0 v1 v2 v3 v4 v5 v6 v7 v8 v9 va vb vc vd ve vf vg vh vi vj vk vl vm vn (fun vo vp => K (AV.tup [Ai vo, Ai vp]))
 | _ => none
def S17:=Qr 17 QQJ S61
theorem D76 : Dom B0 V S17 UD 76 := Dom.s (m := 75) (n := 0) D75 D75 (O := (fun _ => none)) (fun _ _ _ _ => Qd.none _ _) fun args R K r h => by
 unfold QQJ at h; split at h
 · rw [Q9V] at h; exact Eq.trans (by kernel_rfl) h
 · cases h
def QQK : Ev.Qj := fun args _ K => match args with
 | ([AV.agg (Blk.any [Ai v0, Fu v1, AV.fsl (Blk.ints .i64 v2), AV.fsl (Blk.ints .i64 v3)])]) => Qky v0 v1 v2 v3 (fun v4 => K (Ai v4))
 | _ => none
def S68:=Qr 68 QQK S17
theorem D77 : Dom B0 V S68 UD 77 := Dom.s (m := 76) (n := 0) D76 D76 (O := (fun _ => none)) (fun _ _ _ _ => Qd.none _ _) fun args R K r h => by
 unfold QQK at h; split at h
 · rw [Qnq] at h; exact Eq.trans (by kernel_rfl) h
 · cases h
def QQL : Ev.Qj := fun args _ K => match args with
 | ([AV.agg (Blk.any [Ai v0, Ai v1, Ai v2, Ai v3, Fu v4, Ai v5, Fu v6, AV.fsl (Blk.ints .i64 v7), AV.fsl (Blk.ints .i64 v8)])]) => Qql v0 v1 v2 v3 v4 v5 v6 v7 v8 (fun v9 => K (Ai v9))
 | _ => none
def S69:=Qr 69 QQL S68
theorem D78 : Dom B0 V S69 UD 78 := Dom.s (m := 77) (n := 0) D77 D77 (O := (fun _ => none)) (fun _ _ _ _ => Qd.none _ _) fun args R K r h => by
 unfold QQL at h; split at h
 · rw [Qqm] at h; exact Eq.trans (by kernel_rfl) h
 · cases h
def QQM : Ev.Qj := fun args _ K => match args with
 | ([AV.agg (Blk.any [Ai v0, Ai v1, Ai v2, Ai v3, Ai v4, Fu v5, Ai v6, Fu v7])]) => Qoe v0 v1 v2 v3 v4 v5 v6 v7 (fun v8 => K (Ai v8))
 | _ => none
def S70:=Qr 70 QQM S69
theorem D79 : Dom B0 V S70 UD 79 := Dom.s (m := 78) (n := 0) D78 D78 (O := (fun _ => none)) (fun _ _ _ _ => Qd.none _ _) fun args R K r h => by
 unfold QQM at h; split at h
 · rw [QoK] at h; exact Eq.trans (by kernel_rfl) h
 · cases h
def QQN : Ev.Qj := fun args _ K => match args with
 | ([AV.agg (Blk.any [Ai v0, Ai v1, Fu v2, AV.fsl (Blk.ints .i64 v3), AV.fsl (Blk.ints .i64 v4), Ai v5, Ai v6, Ai v7, Ai v8, Fu v9, Ai va, Fu vb, AV.fsl (Blk.ints .i64 vc), AV.fsl (Blk.ints .i64 vd), Ai ve, Ai vf, Ai vg, Ai vh, Ai vi, Fu vj, Ai vk, Fu vl])]) => Q0w v0 v1 v2 v3 v4 v5 v6 v7 v8 v9 va vb vc vd ve vf vg vh vi vj vk vl (fun vm => K (Ai vm))
 | _ => none
def S20:=Qr 20 QQN S70
theorem D80 : Dom B0 V S20 UD 80 := Dom.s (m := 79) (n := 0) D79 D79 (O := (fun _ => none)) (fun _ _ _ _ => Qd.none _ _) fun args R K r h => by
 unfold QQN at h; split at h
 · rw [J6] at h; exact Eq.trans (by kernel_rfl) h
 · cases h
def QQO : Ev.Qj := fun args _ K => match args with
 | ([AV.agg (Blk.any [Ai v0, Fu v1, AV.fsl (Blk.ints .i64 v2), AV.fsl (Blk.ints .i64 v3)])]) => QkA v0 v1 v2 v3 (fun v4 v5 => K (AV.agg (Blk.any [Ai v4, Fu v5])))
 | _ => none
def S83:=Qr 83 QQO S20
theorem D81 : Dom B0 V S83 UD 81 := Dom.s (m := 80) (n := 0) D80 D80 (O := (fun _ => none)) (fun _ _ _ _ => Qd.none _ _) fun args R K r h => by
 unfold QQO at h; split at h
 · rw [Qns] at h; exact Eq.trans (by kernel_rfl) h
 · cases h
def QQP : Ev.Qj := fun args _ K => match args with
 | ([AV.agg (Blk.any [Ai v0, Ai v1, Ai v2, Ai v3, Fu v4, Ai v5, Fu v6, AV.fsl (Blk.ints .i64 v7), AV.fsl (Blk.ints .i64 v8)])]) => Qqn v0 v1 v2 v3 v4 v5 v6 v7 v8 (fun v9 va => K (AV.agg (Blk.any [Ai v9, Fu va])))
 | _ => none
def S84:=Qr 84 QQP S83
theorem D82 : Dom B0 V S84 UD 82 := Dom.s (m := 81) (n := 0) D81 D81 (O := (fun _ => none)) (fun _ _ _ _ => Qd.none _ _) fun args R K r h => by
 unfold QQP at h; split at h
 · rw [Qqo] at h; exact Eq.trans (by kernel_rfl) h
 · cases h
def QQQ : Ev.Qj := fun args _ K => match args with
 | ([AV.agg (Blk.any [Ai v0, Ai v1, Ai v2, Ai v3, Ai v4, Fu v5, Ai v6, Fu v7])]) => Qof v0 v1 v2 v3 v4 v5 v6 v7 (fun v8 v9 => K (AV.agg (Blk.any [Ai v8, Fu v9])))
 | _ => none
def S85:=Qr 85 QQQ S84
theorem D83 : Dom B0 V S85 UD 83 := Dom.s (m := 82) (n := 0) D82 D82 (O := (fun _ => none)) (fun _ _ _ _ => Qd.none _ _) fun args R K r h => by
 unfold QQQ at h; split at h
 · rw [QoL] at h; exact Eq.trans (by kernel_rfl) h
 · cases h
end
end Go.Proofs.YtofblchonjfdbaaGreatDoor
