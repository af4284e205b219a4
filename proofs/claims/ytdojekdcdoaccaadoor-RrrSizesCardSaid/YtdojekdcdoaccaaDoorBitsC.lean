/- Layer 2: what rows of bits become, and their counts. -/
import Derived.Test.YtdojekdcdoaccaaDoorBitsB
namespace Go.Proofs.YtdojekdcdoaccaaDoor
open Go Go.Ev
section
variable {R : Type}
theorem live_out {n e : Int} {l : Nat} {ws : List Nat} (h : l = ws.length) (K : Int → List Int → Int → Option R) {Y : Option R} : sel (decide (l = List.length (ci ws))) (K n (ci ws) e) Y = K n (ci ws) e := by
  rw [sel_pos (by rw [ci_length]; exact h)]

theorem bits_Append_spec (n : Int) (ws : List Nat) (hw : Ws ws) (x : Nat) (hx : x < 2 ^ 64) (k : Int) (K : Int → List Int → Int → Option R) :
    bits_Append n (ci ws) (x : Int) k K = K (appendS n ws x k).1 (ci (appendS n ws x k).2.1) (appendS n ws x k).2.2 := by
  have bad : ∀ (K0 : Int → Int → List Int → Option R) (K1 : Int → Int → Int → List Int → Int → Option R), bits_Append_j3 (x : Int) k true n (ci ws) 0 K0 K1 = K0 2 n (ci ws) := fun K0 K1 => by
    rw [bits_Append_j3_unf]; unfold bits_Append_j3_B; rfl
  rw [bits_Append_unf]; unfold bits_Append_B
  rw [bits_Check_spec n ws hw]
  cases hok : okRow n ws with
  | false => rw [Bool.not_false, Ev.sel_true, bad]; simp [appendS, hok]
  | true =>
    obtain ⟨l, rfl, rfl, hl⟩ := okRow_wds hok hw.1
    rw [Bool.not_true, Ev.sel_false]
    by_cases h1 : k < 0
    · rw [sel_pos h1, bad]; simp [appendS, h1]
    rw [sel_neg h1]
    by_cases h2 : 64 < k
    · rw [sel_pos h2, bad]; simp [appendS, h2]
    rw [sel_neg h2, subW_i64 (by omega) (by omega)]
    by_cases h3 : 1048576 - (l.length : Int) < k
    · rw [decide_eq_true h3, bad]; simp [appendS, h3]
    rw [decide_eq_false h3, bits_Append_j3_unf]; unfold bits_Append_j3_B
    rw [Ev.sel_false]
    show bits_Append_j4 _ _ _ _ _ _ = _
    obtain ⟨c, rfl⟩ : ∃ c : Nat, k = (c : Int) := ⟨k.toNat, by omega⟩
    have ea : appendS (l.length : Int) (wds l) x (c : Int) = ((l.length : Int) + (c : Int), wds (l ++ lowB x c), 0) := by
      unfold appendS
      rw [if_pos ⟨hok, by omega, h3⟩, rowB_wds, Int.toNat_natCast]
    rw [ea, bits_Append_j4_unf]; unfold bits_Append_j4_B
    rw [addW_i64 (by omega) (by omega), ← Int.natCast_add, bits_own_spec _ _ _ (by omega) (by rw [wds_length]; omega), word_Mask_spec _ (by omega) (by omega), andW_u64 _ _ hx (maskN_lt _), and_maskN, show min (c : Int).toNat 64 = c by omega]
    have hWs : Ws (wds l ++ List.replicate ((l.length + c + 63) / 64 - (wds l).length) 0) := by
      refine ⟨fun w hw => ?_, by simp [wds_length]; omega⟩
      rcases List.mem_append.1 hw with hw | hw
      · exact wds_lt hw
      · rw [(List.mem_replicate.1 hw).2]; decide
    rw [bits_fill_spec _ _ _ (by simp [wds_length]; omega) l.length (x % 2 ^ c) hWs (Nat.lt_of_le_of_lt (Nat.mod_le _ _) hx) (by omega), wds_fill hx (by omega)]
    exact live_out (by rw [wds_length, List.length_append, lowB_length]) K

end
end Go.Proofs.YtdojekdcdoaccaaDoor
