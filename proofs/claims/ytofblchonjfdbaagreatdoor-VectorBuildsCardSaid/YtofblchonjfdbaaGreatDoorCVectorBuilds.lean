/- 'VectorBuilds' is true of every input that its row lets in: the row,and the card that ties the listed variable to the program's text. Conditions: the row's own. Printed by a program of this repo (wip/close.py). -/
import Derived.Test.YtofblchonjfdbaaGreatDoorClose
import Derived.Test.YtofblchonjfdbaaGreatDoorVectorLawsU
namespace Go.Proofs.YtofblchonjfdbaaGreatDoor
open Go Go.Ev Go.RowKit
set_option maxRecDepth 100000
theorem Qol(os:Os)(started:os.Started)(H:Type)(enc:TypeId×Value→H):
  ReturnsInHanded {} Tryz.checked os 4 .any (fun w args=>(Rows.vectorBuildsSpec.pre enc Tryz.prog Tryz.f4 [] false w args∧QuW w)∧sizedMet enc Tryz.prog Tryz.f4 (OpenSpec.ofChange Rows.vectorBuildsSpec) false w args)
   (Rows.vectorBuildsSpec.post enc Tryz.prog Tryz.f4 false true false false):=by
 refine returnsInHanded_of_change_and (C:=Tryz.checked) (X:=fun w _=>QuW w) (fun _ _ _ hh h=>h.of_heap hh) own started (by kernel_rfl) Tryz.func4
  (ChangeSpec.witness_at (enc:=enc) (C:=Tryz.checked) (os:=os) (X:=fun w _=>QuW w) false (QqS os) #[.int .i64 0,.agg #[.int .i64 0,.slice none 0 0]] 8 rfl (by kernel_rfl) (by kernel_rfl) (by kernel_rfl) (by kernel_rfl) (by kernel_rfl)
   (Qov os _)) ?_
 intro W base args ds gs before hval hW _ _ hL _
 obtain ⟨sp,hsp,hle⟩:=ok4
 exact QpI (sp:=sp) (QnT _ _) hsp Qyz (by kernel_rfl) (pas:=QhR) (by kernel_rfl) rfl Tryz.underlying4 rfl (fun H ds hd=>by
  match ds,hd with
  | [d1,d2],_=>rfl) (fun vs h=>hle vs _ (Qre vs h)) hval hW (QD3 _ _ hL)
theorem vectorBuilds_holds:Rows.VectorBuildsSaid:=
 OpenClaim.holds_of_wide 4 Tryz.f4 rfl rfl rfl rfl rfl rfl rfl ⟨rfl,rfl,rfl,rfl,rfl⟩ rfl rfl rfl rfl rfl (by kernel_rfl) Tryz.func4 (by kernel_rfl)
  (of_decide_eq_true (by kernel_rfl)) (by unfold Func.isWrapper; rw[if_neg (of_decide_eq_false (by kernel_rfl))]; exact ⟨rfl,rfl⟩)
  (fun os started H enc _=>Qol os started H enc)
theorem vectorBuilds_card:Rows.VectorBuildsCardSaid:=
 Claim7.holds_tied_plain_at .later [] [.data,.handle] true (true, "68c809e1ddd1db0cb8c265e0895120f790e387fbb719f0d63db3b5a9c16eb5b6") true
  vectorBuilds_holds (fun _ h=>by cases h) (by kernel_rfl) (fun _ h=>by cases h) vectorBuilds_row_tie rfl ⟨rfl,rfl⟩ (by kernel_rfl) rfl
  (fun f fn hf hfn=>by
   obtain rfl:f=4:=Option.some.inj ((show Tryz.prog.funcNamed "haystack/haystacklaw10.VectorBuilds" = some 4 by kernel_rfl).symm.trans hf) |>.symm
   obtain rfl:fn=Tryz.f4:=(Option.some.inj (Tryz.func4.symm.trans hfn)).symm
   exact ⟨by kernel_rfl,fun j t ht=>QD2 (by kernel_rfl) j t ht⟩)
  (by kernel_rfl)
#print axioms vectorBuilds_card
end Go.Proofs.YtofblchonjfdbaaGreatDoor
