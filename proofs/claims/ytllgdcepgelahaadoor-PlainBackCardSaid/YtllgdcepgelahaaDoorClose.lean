/- The variable that the rows list, in a world where a row's condition holds; a world where it holds. Printed by a program of this repo (wip/close.py). -/
import Derived.Test.YtllgdcepgelahaaDoorFn
import Derived.Test.YtllgdcepgelahaaDoorRows
import Derived.Test.YtllgdcepgelahaaDoorTie
import Derived.Test.YtllgdcepgelahaaDoorCards
import Derived.Test.YtllgdcepgelahaaDoorEv22
import Derived.ChangeSame
import Derived.JoinedOf
import Derived.LaidLaws
import Derived.Lib.LaidTab
import Derived.SevenTiedAt
namespace Go.Proofs.YtllgdcepgelahaaDoor
open Go Go.Ev Go.RowKit
set_option maxRecDepth 100000

theorem own : ownKnob Tryd.prog.godebug = none := by kernel_rfl
theorem laid_out : laidOutB Tryd.prog = true := by kernel_rfl
theorem noStand {P : Program} {ts : Array TypeId} (h : ts.toList.all (fun t => !P.wantsStandIn t) = true) (j : Nat) (t : TypeId) (ht : ts[j]? = some t) : P.wantsStandIn t = false := by
  have hm : t ∈ ts.toList := by
    rw [← Array.getElem?_toList] at ht
    exact List.mem_of_getElem? ht
  simpa using List.all_eq_true.1 h t hm
theorem tabT : (Tryd.prog.globals[1]?).map (·.type) = some 155 := by kernel_rfl
theorem tabN : Tryd.prog.globalNamed "math/bits.deBruijn64tab" = some 1 := by kernel_rfl
theorem tabL {H : Type} : Rows.laid_math_bits_deBruijn64tab (H := H) = Lib.tabData .u8 tzTab := rfl
abbrev Laid (W : World) : Prop := laidMet Tryd.prog [("math/bits.deBruijn64tab", Rows.laid_math_bits_deBruijn64tab)] W
theorem tab_is {W : World} (h : Laid W) : Lib.TabIs Tryd.prog W "math/bits.deBruijn64tab" .u8 tzTab :=
  have h' : laidMet Tryd.prog [("math/bits.deBruijn64tab", Rows.laid_math_bits_deBruijn64tab)] W := h
  Lib.tabIs_of_head tabN tabT Tryd.underlying155 Tryd.underlying5 (by kernel_rfl) (by kernel_rfl) (tabL ▸ h')
theorem glob_ok (keep : FuncId → Nat → Option (List Nat)) (vs : FuncId → Bool) {W : World} (h : Laid W) : GlobOk (env keep vs) (fun _ => False) W := by
  intro g c hg
  have hg : Gv g = some c := hg
  unfold Gv at hg
  split at hg
  · rename_i hb
    cases hg
    obtain rfl := Nat.eq_of_beq_eq_true hb
    have hc : ∀ i, i < 64 → W.cell? ⟨1, i, none⟩ = some (.int .u8 (tzTab.getD i 0)) := fun i hi => (tab_is h).cell tabN i hi
    refine ⟨cell_lt (hc 0 (by decide)), fun h => h, _, rfl, ?_⟩
    intro i u hi
    simp only [List.getElem?_map, Option.map_eq_some_iff] at hi
    obtain ⟨z, hz, rfl⟩ := hi
    have hl : i < 64 := (List.getElem?_eq_some_iff.1 hz).1
    have := hc i hl
    rw [List.getD_eq_getElem?_getD, hz] at this
    unfold Addr.add
    split
    · rename_i h0; subst h0; exact this
    · rw [show (0 : Nat) + i = i by omega]; exact this
  · cases hg

noncomputable def laidWorld (os : Os) : World :=
  { World.holding Tryd.prog os ⟨#[], #[], []⟩ with heap := (World.holding Tryd.prog os ⟨#[], #[], []⟩).heap.modify 1 fun
      | .cells _ t frozen => .cells (tzTab.map (Value.int .u8)).toArray t frozen
      | o => o }
theorem laidWorld_met (os : Os) (args : Array Value) : Laid ((laidWorld os).forCall (fun _ _ => 0) ⟨#[], args, []⟩).memory :=
  laidMet_of_run' 3 (by kernel_rfl) (by kernel_rfl)
end Go.Proofs.YtllgdcepgelahaaDoor
