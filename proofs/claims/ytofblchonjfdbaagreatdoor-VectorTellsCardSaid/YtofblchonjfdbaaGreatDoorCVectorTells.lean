/- 'VectorTells' is true of every input that its row lets in: the row,and the card that ties the listed variable to the program's text. Conditions: the row's own. Printed by a program of this repo (wip/close.py). -/
import Derived.Test.YtofblchonjfdbaaGreatDoorClose
import Derived.Test.YtofblchonjfdbaaGreatDoorVectorLawsT
namespace Go.Proofs.YtofblchonjfdbaaGreatDoor
open Go Go.Ev Go.RowKit
set_option maxRecDepth 100000
theorem QpB(os:Os)(started:os.Started)(H:Type)(enc:TypeId×Value→H):
  ReturnsInHanded {} Tryz.checked os 5 .any (fun w args=>(Rows.vectorTellsSpec.pre enc Tryz.prog Tryz.f5 [] false w args∧QuW w)∧sizedMet enc Tryz.prog Tryz.f5 (OpenSpec.ofChange Rows.vectorTellsSpec) false w args)
   (Rows.vectorTellsSpec.post enc Tryz.prog Tryz.f5 false true false false):=by
 refine returnsInHanded_of_change_and (C:=Tryz.checked) (X:=fun w _=>QuW w) (fun _ _ _ hh h=>h.of_heap hh) own started (by kernel_rfl) Tryz.func5
  (ChangeSpec.witness_at (enc:=enc) (C:=Tryz.checked) (os:=os) (X:=fun w _=>QuW w) false (QqS os) #[.agg #[.int .i64 0,.int .i64 0,.slice none 0 0,.slice none 0 0,.slice none 0 0,.int .i64 0,.int .i64 0,.int .i64 0,.int .i64 0,.slice none 0 0,.int .i64 0,.slice none 0 0,.slice none 0 0,.slice none 0 0,.int .i64 0,.int .i64 0,.int .i64 0,.int .i64 0,.int .i64 0,.slice none 0 0,.int .i64 0,.slice none 0 0],.bool false,.int .i64 0] 8 rfl (by kernel_rfl) (by kernel_rfl) (by kernel_rfl) (by kernel_rfl) (by kernel_rfl)
   (Qov os _)) ?_
 intro W base args ds gs before hval hW _ _ hL _
 obtain ⟨sp,hsp,hle⟩:=ok5
 exact QpI (sp:=sp) (QnT _ _) hsp Qyz (by kernel_rfl) (pas:=Qlu) (by kernel_rfl) rfl Tryz.underlying4 rfl (fun H ds hd=>by
  match ds,hd with
  | [d1,d2,d3],_=>rfl) (fun vs h=>hle vs _ (QsE vs h)) hval hW (QD3 _ _ hL)
theorem vectorTells_holds:Rows.VectorTellsSaid:=
 OpenClaim.holds_of_wide 5 Tryz.f5 rfl rfl rfl rfl rfl rfl rfl ⟨rfl,rfl,rfl,rfl,rfl⟩ rfl rfl rfl rfl rfl (by kernel_rfl) Tryz.func5 (by kernel_rfl)
  (of_decide_eq_true (by kernel_rfl)) (by unfold Func.isWrapper; rw[if_neg (of_decide_eq_false (by kernel_rfl))]; exact ⟨rfl,rfl⟩)
  (fun os started H enc _=>QpB os started H enc)
theorem vectorTells_card:Rows.VectorTellsCardSaid:=
 Claim7.holds_tied_plain_at .later [] [.data,.handle] true (true, "68c809e1ddd1db0cb8c265e0895120f790e387fbb719f0d63db3b5a9c16eb5b6") true
  vectorTells_holds (fun _ h=>by cases h) (by kernel_rfl) (fun _ h=>by cases h) vectorTells_row_tie rfl ⟨rfl,rfl⟩ (by kernel_rfl) rfl
  (fun f fn hf hfn=>by
   obtain rfl:f=5:=Option.some.inj ((show Tryz.prog.funcNamed "haystack/haystacklaw10.VectorTells" = some 5 by kernel_rfl).symm.trans hf) |>.symm
   obtain rfl:fn=Tryz.f5:=(Option.some.inj (Tryz.func5.symm.trans hfn)).symm
   exact ⟨by kernel_rfl,fun j t ht=>QD2 (by kernel_rfl) j t ht⟩)
  (by kernel_rfl)
#print axioms vectorTells_card
end Go.Proofs.YtofblchonjfdbaaGreatDoor
