/- The variable that the rows list, in a world where a row's condition holds; a world where it holds. Printed by a program of this repo (wip/close.py). -/
import Derived.Test.YtdojekdcdoaccaaDoorFn
import Derived.Test.YtdojekdcdoaccaaDoorRows
import Derived.Test.YtdojekdcdoaccaaDoorTie
import Derived.Test.YtdojekdcdoaccaaDoorCards
import Derived.Test.YtdojekdcdoaccaaDoorEvC
import Derived.ChangeSame
import Derived.JoinedOf
import Derived.LaidLaws
import Derived.Lib.LaidTab
import Derived.SevenTiedAt
import Derived.ChangeVars
import Derived.RowKitTokens
import Derived.LaidHandle
import Derived.Stop.Joined
namespace Go.Proofs.YtdojekdcdoaccaaDoor
open Go Go.Ev Go.RowKit
set_option maxRecDepth 100000

theorem own : ownKnob Tryd.prog.godebug = none := by kernel_rfl
theorem laid_out : laidOutB Tryd.prog = true := by kernel_rfl
theorem noStand {P : Program} {ts : Array TypeId} (h : ts.toList.all (fun t => !P.wantsStandIn t) = true) (j : Nat) (t : TypeId) (ht : ts[j]? = some t) : P.wantsStandIn t = false := by
  have hm : t ∈ ts.toList := by
    rw [← Array.getElem?_toList] at ht
    exact List.mem_of_getElem? ht
  simpa using List.all_eq_true.1 h t hm
abbrev laidL : List (String × DataW Unit) := [("math/bits.deBruijn64tab", Rows.laid_math_bits_deBruijn64tab), ("errors.errorType", Rows.laid_errors_errorType)]
abbrev Laid (W : World) : Prop := laidMetH Tryd.prog laidL W
theorem et_N : Tryd.prog.globalNamed "errors.errorType" = some 1 := by kernel_rfl
theorem et_rt : (Tryd.prog.cutTypes.find? (·.1 == "internal/reflectlite.rtype")).map (·.2) = some 154 := by kernel_rfl
theorem et_row : ((List.range 197).filter fun t => Tryd.prog.rowNamed t [101, 114, 114, 111, 114]) = [121] := by kernel_rfl
theorem et_size : Tryd.prog.types.size = 197 := by kernel_rfl
theorem handle_of_laid {W : World} (h : Laid W) : W.cell? ⟨1, 0, none⟩ = some etV := by
  have h' : laidMet Tryd.prog [("math/bits.deBruijn64tab", Rows.laid_math_bits_deBruijn64tab)] W ∧ handlesMet Tryd.prog [("errors.errorType", Rows.laid_errors_errorType)] W := h
  obtain ⟨name, u, ty, e1, e2, e3, e4, e5⟩ := h'.2 _ (List.mem_singleton.2 rfl)
  have en : name = [101, 114, 114, 111, 114] := (Option.some.inj e1).symm
  subst en
  obtain rfl := Option.some.inj (et_rt.symm.trans e2)
  have hm : ty ∈ (List.range 197).filter fun t => Tryd.prog.rowNamed t [101, 114, 114, 111, 114] := List.mem_filter.2 ⟨List.mem_range.2 (by rw [← et_size]; exact e3), e4⟩
  rw [et_row] at hm
  obtain rfl := List.mem_singleton.1 hm
  have hh : typeHandle Tryd.prog 121 = .pointer (some ⟨2, 121, none⟩) := by kernel_rfl
  rw [hh] at e5
  simpa [etV] using World.var?_cell et_N e5 0
theorem tabT : (Tryd.prog.globals[0]?).map (·.type) = some 132 := by kernel_rfl
theorem tabN : Tryd.prog.globalNamed "math/bits.deBruijn64tab" = some 0 := by kernel_rfl
theorem tabL {H : Type} : Rows.laid_math_bits_deBruijn64tab (H := H) = Lib.tabData .u8 tzTab := rfl
theorem tab_is {W : World} (h : Laid W) : Lib.TabIs Tryd.prog W "math/bits.deBruijn64tab" .u8 tzTab :=
  have h' : laidMet Tryd.prog [("math/bits.deBruijn64tab", Rows.laid_math_bits_deBruijn64tab)] W ∧ handlesMet Tryd.prog [("errors.errorType", Rows.laid_errors_errorType)] W := h
  Lib.tabIs_of_head tabN tabT Tryd.underlying132 Tryd.underlying5 (by kernel_rfl) (by kernel_rfl) (tabL ▸ h'.1)
theorem glob_ok (keep : FuncId → Nat → Option (List Nat)) (vs : FuncId → Bool) {W : World} (h : Laid W) : GlobOk (env keep vs) (fun _ => False) W := by
  intro g c hg
  have hg : Gv g = some c := hg
  unfold Gv at hg
  split at hg
  · rename_i hb
    cases hg
    obtain rfl := Nat.eq_of_beq_eq_true hb
    have hc := handle_of_laid h
    refine ⟨cell_lt hc, fun h => h, [etV], ⟨etV, [], rfl, rfl, rfl⟩, ?_⟩
    intro i u hi
    cases i with
    | zero => cases hi; exact hc
    | succ i => cases hi
  · split at hg
    · rename_i hb
      cases hg
      obtain rfl := Nat.eq_of_beq_eq_true hb
      have hc : ∀ i, i < 64 → W.cell? ⟨0, i, none⟩ = some (.int .u8 (tzTab.getD i 0)) := fun i hi => (tab_is h).cell tabN i hi
      refine ⟨cell_lt (hc 0 (by decide)), fun h => h, _, rfl, ?_⟩
      intro i u hi
      simp only [List.getElem?_map, Option.map_eq_some_iff] at hi
      obtain ⟨z, hz, rfl⟩ := hi
      have hl : i < 64 := (List.getElem?_eq_some_iff.1 hz).1
      have := hc i hl
      rw [List.getD_eq_getElem?_getD, hz] at this
      unfold Addr.add
      split
      · rename_i h0; subst h0; exact this
      · rw [show (0 : Nat) + i = i by omega]; exact this
    · cases hg

noncomputable def laidWorld (os : Os) : World :=
  let w := World.holding Tryd.prog os ⟨#[], #[], []⟩
  let h1 := w.heap.modify 1 (fun
      | .cells _ t frozen => .cells #[etV] t frozen
      | o => o)
  let h1 := h1.modify 0 (fun
      | .cells _ t frozen => .cells (tzTab.map (Value.int .u8)).toArray t frozen
      | o => o)
  { w with heap := h1 }
theorem laidWorld_met (os : Os) (args : Array Value) : Laid ((laidWorld os).forCall (fun _ _ => 0) ⟨#[], args, []⟩).memory :=
  laidMetH_of_parts (laidMet_of_run' 3 (by kernel_rfl) (by kernel_rfl)) (by kernel_rfl)
end Go.Proofs.YtdojekdcdoaccaaDoor
