/- The functions that this seat's laws reach, as plain functions, and that they are what the program does. Printed by a program of this repo (wip/Prt). -/
import Derived.Test.YtkjadjdcbpiebaaEnv
import Derived.Test.YtkjadjdcbpiebaaEv27
import Derived.KernelRfl
import Derived.Test.YtkjadjdcbpiebaaFn1
namespace Go.Proofs.Ytkjadjdcbpiebaa
open Go Go.Ev
set_option maxRecDepth 100000

noncomputable def sp12 : Ev.Spec := fun args _ K => match args with
  | ([AV.int .u64 n1269, AV.int .u64 n1270]) => haystacklaw04_StreamOrder n1269 n1270 (fun x0 => K (AV.bool x0))
  | _ => none
noncomputable def S12 := addS 12 sp12 S11
theorem D51 : Dom V S12 T60 51 := Dom.s (m := 50) (n := 0) D50 D50 (O := o12) (OrcOk.fn (fn0 := Try.f12) (by kernel_rfl) (by kernel_rfl) pc12) fun args R K r h => by
  unfold sp12 at h; split at h
  · rw [haystacklaw04_StreamOrder_unf] at h; exact Eq.trans (by kernel_rfl) h
  · cases h

theorem ok9 : ∃ sp, SpecOk Try.prog (V 9) 9 sp ∧ ∀ args z, sp9 args AV some = some z → sp args AV some = some z := by
  obtain ⟨sp, h1, h2⟩ := Dom.law (P := Try.prog) (V := V) (fun _ => env_types _ _) (fun _ => env_funs _ _) (fun _ _ => rfl) D51 (f := 9) (sp := sp9) (by kernel_rfl)
  exact ⟨sp, h1, fun args z => h2 args AV some z⟩

theorem ok10 : ∃ sp, SpecOk Try.prog (V 10) 10 sp ∧ ∀ args z, sp10 args AV some = some z → sp args AV some = some z := by
  obtain ⟨sp, h1, h2⟩ := Dom.law (P := Try.prog) (V := V) (fun _ => env_types _ _) (fun _ => env_funs _ _) (fun _ _ => rfl) D51 (f := 10) (sp := sp10) (by kernel_rfl)
  exact ⟨sp, h1, fun args z => h2 args AV some z⟩

theorem ok11 : ∃ sp, SpecOk Try.prog (V 11) 11 sp ∧ ∀ args z, sp11 args AV some = some z → sp args AV some = some z := by
  obtain ⟨sp, h1, h2⟩ := Dom.law (P := Try.prog) (V := V) (fun _ => env_types _ _) (fun _ => env_funs _ _) (fun _ _ => rfl) D51 (f := 11) (sp := sp11) (by kernel_rfl)
  exact ⟨sp, h1, fun args z => h2 args AV some z⟩

theorem ok12 : ∃ sp, SpecOk Try.prog (V 12) 12 sp ∧ ∀ args z, sp12 args AV some = some z → sp args AV some = some z := by
  obtain ⟨sp, h1, h2⟩ := Dom.law (P := Try.prog) (V := V) (fun _ => env_types _ _) (fun _ => env_funs _ _) (fun _ _ => rfl) D51 (f := 12) (sp := sp12) (by kernel_rfl)
  exact ⟨sp, h1, fun args z => h2 args AV some z⟩

end Go.Proofs.Ytkjadjdcbpiebaa
