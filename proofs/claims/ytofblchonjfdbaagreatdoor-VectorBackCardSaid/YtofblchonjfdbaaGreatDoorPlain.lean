/- Layer 7: what rows of bits with counts beside them come to. -/
import Derived.Test.YtofblchonjfdbaaGreatDoorBitsE
import Derived.Test.YtofblchonjfdbaaGreatDoorWordB
import Derived.Test.YtofblchonjfdbaaGreatDoorWA
namespace Go.Proofs.YtofblchonjfdbaaGreatDoor
open Go Go.Ev
section
variable {R : Type}
/-- the counts of groups, the counts within groups -/
def supP (ws : List Nat) (m : Nat) : List Int := (List.range m).map fun i => ((pcb ws (512 * i) : Nat) : Int)
def subP (ws : List Nat) (m : Nat) : List Int := (List.range m).map fun j => ((pcb ws (64 * j) : Nat) : Int) - ((pcb ws (512 * (j / 8)) : Nat) : Int)
theorem supP_length (ws : List Nat) (m : Nat) : (supP ws m).length = m := by simp [supP]
theorem subP_length (ws : List Nat) (m : Nat) : (subP ws m).length = m := by simp [subP]
theorem supP_succ (ws : List Nat) (m : Nat) : supP ws m ++ [((pcb ws (512 * m) : Nat) : Int)] = supP ws (m + 1) := by simp [supP, List.range_succ]
theorem subP_succ (ws : List Nat) (m : Nat) : subP ws m ++ [((pcb ws (64 * m) : Nat) : Int) - ((pcb ws (512 * (m / 8)) : Nat) : Int)] = subP ws (m + 1) := by simp [subP, List.range_succ]
theorem supP_get (ws : List Nat) {m i : Nat} (h : i < m) : (supP ws m).getD i 0 = ((pcb ws (512 * i) : Nat) : Int) := by
  unfold supP
  rw [List.getD_eq_getElem?_getD, List.getElem?_map, List.getElem?_range h]; rfl
theorem subP_get (ws : List Nat) {m j : Nat} (h : j < m) : (subP ws m).getD j 0 = ((pcb ws (64 * j) : Nat) : Int) - ((pcb ws (512 * (j / 8)) : Nat) : Int) := by
  unfold subP
  rw [List.getD_eq_getElem?_getD, List.getElem?_map, List.getElem?_range h]; rfl
def supF (l : List Bool) : List Int := supP (wds l) (l.length / 512 + 1)
def subF (l : List Bool) : List Int := subP (wds l) ((l.length + 63) / 64)
theorem supF_length (l : List Bool) : (supF l).length = l.length / 512 + 1 := supP_length _ _
theorem subF_length (l : List Bool) : (subF l).length = (l.length + 63) / 64 := subP_length _ _
theorem quo8 (n : Nat) (h : n < 4611686018427387904) : quoW .i64 (n : Int) 8 = ((n / 8 : Nat) : Int) := by rw [quoW_nat (by omega) (by omega) (by omega)]; omega
theorem rem8 (n : Nat) : remW (n : Int) 8 = ((n % 8 : Nat) : Int) := by rw [remW_nat' (by omega)]; omega
theorem pcb_mono (ws : List Nat) {i j : Nat} (h : i ≤ j) : pcb ws i ≤ pcb ws j := by
  induction j with
  | zero => have : i = 0 := by omega
            subst this; exact Nat.le_refl _
  | succ j ih =>
    by_cases e : i = j + 1
    · subst e; exact Nat.le_refl _
    · have := ih (by omega)
      simp only [pcb]; omega
theorem pb_j10 (a b c d : Int) (t : Bool) (e : Int) (xs : List Int) (f g : Int) (ys : List Int) (l1 l2 : Nat) (us vs : List Int) (h1 : us.length = l1) (h2 : us.length ≤ 4000000) (K : Int → Int → Int → Int → Int → List Int → Int → Int → List Int → Nat → Nat → List Int → List Int → Option R) :
    plain_Build_j10 a b c d t e xs f g ys l1 l2 us vs K = if t = true then K a b c d e xs f g ys (l1 + 1) l2 (us ++ [a]) vs else K a b c d e xs f g ys l1 l2 us vs := by
  rw [plain_Build_j10_unf]; unfold plain_Build_j10_B
  cases t with
  | true => rw [Ev.sel_true, sel_pos h1, sel_pos (by omega), letV_eq, if_pos rfl]
  | false => rw [Ev.sel_false, if_neg (by decide)]
/-- is a count taken ahead of word j? -/
def takes (N j : Nat) : Bool := decide (j % 8 = 0 ∧ 64 * j ≤ N)
theorem plain_Build_loop (l : List Bool) (hl : l.length ≤ 1048576) (K : Int → Int → List Int → Nat → Nat → List Int → List Int → Option R) (f g : Int) (ys : List Int) : ∀ (N j : Nat), j ≤ (l.length + 63) / 64 → (l.length + 63) / 64 + 1 - j < N →
    plain_Build_l7_L K N ((pcb (wds l) (64 * j) : Nat) : Int) (((l.length + 63) / 64 : Nat) + 1 : Int) (j : Int) (l.length : Int) (ci (wds l)) f g ys ((j + 7) / 8) j (supP (wds l) ((j + 7) / 8)) (subP (wds l) j) = K f g ys (l.length / 512 + 1) ((l.length + 63) / 64) (supF l) (subF l)
  | 0, _, _, h => by omega
  | N + 1, j, h1, h2 => by
    simp only [plain_Build_l7_L, plain_Build_l7_T]
    have hp := pcb_le (wds l) (64 * j)
    have key : ∀ (t : Bool), t = takes l.length j → plain_Build_j10 ((pcb (wds l) (64 * j) : Nat) : Int) (j : Int) (((l.length + 63) / 64 : Nat) + 1 : Int) (j : Int) t (l.length : Int) (ci (wds l)) f g ys ((j + 7) / 8) j (supP (wds l) ((j + 7) / 8)) (subP (wds l) j)
        (fun a b c d e xs f g ys l1 l2 us vs => plain_Build_j11 a b c d e xs f g ys l1 l2 us vs fun a b c d xs e f ys l1 l2 us vs => plain_Build_l7_L K N a b (addW .i64 c 1) d xs e f ys l1 l2 us vs) = K f g ys (l.length / 512 + 1) ((l.length + 63) / 64) (supF l) (subF l) := by
      intro t ht
      rw [pb_j10 _ _ _ _ _ _ _ _ _ _ _ _ _ _ (by rw [supP_length]) (by rw [supP_length]; omega)]
      have hsup : (if t = true then (fun (l1 : Nat) (us : List Int) => plain_Build_j11 ((pcb (wds l) (64 * j) : Nat) : Int) (j : Int) (((l.length + 63) / 64 : Nat) + 1 : Int) (j : Int) (l.length : Int) (ci (wds l)) f g ys l1 j us (subP (wds l) j) fun a b c d xs e f ys l1 l2 us vs => plain_Build_l7_L K N a b (addW .i64 c 1) d xs e f ys l1 l2 us vs) ((j + 7) / 8 + 1) (supP (wds l) ((j + 7) / 8) ++ [((pcb (wds l) (64 * j) : Nat) : Int)]) else (fun (l1 : Nat) (us : List Int) => plain_Build_j11 ((pcb (wds l) (64 * j) : Nat) : Int) (j : Int) (((l.length + 63) / 64 : Nat) + 1 : Int) (j : Int) (l.length : Int) (ci (wds l)) f g ys l1 j us (subP (wds l) j) fun a b c d xs e f ys l1 l2 us vs => plain_Build_l7_L K N a b (addW .i64 c 1) d xs e f ys l1 l2 us vs) ((j + 7) / 8) (supP (wds l) ((j + 7) / 8))) =
          plain_Build_j11 ((pcb (wds l) (64 * j) : Nat) : Int) (j : Int) (((l.length + 63) / 64 : Nat) + 1 : Int) (j : Int) (l.length : Int) (ci (wds l)) f g ys ((j + 7) / 8 + t.toNat) j (supP (wds l) ((j + 7) / 8 + t.toNat)) (subP (wds l) j) fun a b c d xs e f ys l1 l2 us vs => plain_Build_l7_L K N a b (addW .i64 c 1) d xs e f ys l1 l2 us vs := by
        cases t with
        | false => rfl
        | true =>
          have h8 : j % 8 = 0 := (of_decide_eq_true ht.symm).1
          rw [if_pos rfl]
          have e : supP (wds l) ((j + 7) / 8) ++ [((pcb (wds l) (64 * j) : Nat) : Int)] = supP (wds l) ((j + 7) / 8 + 1) := by
            rw [← supP_succ, show 512 * ((j + 7) / 8) = 64 * j by omega]
          rw [e]; rfl
      refine hsup.trans ?_
      rw [plain_Build_j11_unf]; unfold plain_Build_j11_B
      rw [ci_length, wds_length]
      by_cases hj : j < (l.length + 63) / 64
      · have ht8 : (j + 7) / 8 + t.toNat = (j + 8) / 8 := by
          by_cases h8 : j % 8 = 0
          · have : t = true := by rw [ht]; exact decide_eq_true ⟨h8, by omega⟩
            rw [this]; simp; omega
          · have : t = false := by rw [ht]; exact decide_eq_false fun h => h8 h.1
            rw [this]; simp; omega
        have hq := quo8 j (by omega)
        have hm := pcb_mono (wds l) (show 512 * (j / 8) ≤ 64 * j by omega)
        have hw := getD_lt (ws := wds l) (fun w hw => wds_lt hw) j
        have hp2 := pcb_le (wds l) (64 * (j + 1))
        have hp3 := pcb_words (wds l) j
        rw [ht8, sel_pos (by omega), hq, sel_pos (by omega), sel_pos (by omega), Int.toNat_natCast, sel_pos (by rw [supP_length]; omega), supP_get _ (show j / 8 < (j + 8) / 8 by omega), subW_i64 (by omega) (by omega), sel_pos (subP_length _ _), sel_pos (by omega), letV_eq, subP_succ, sel_pos (by omega), sel_pos (by omega), Int.toNat_natCast, ci_getD, word_Pop_spec _ hw, addW_i64 (by omega) (by omega), ← Int.natCast_add, ← hp3]
        dsimp only
        rw [addW_i64 (by omega) (by omega), show (j : Int) + 1 = ((j + 1 : Nat) : Int) by omega]
        exact plain_Build_loop l hl K f g ys N (j + 1) (by omega) (by omega)
      · have hje : j = (l.length + 63) / 64 := by omega
        have ht8 : (j + 7) / 8 + t.toNat = l.length / 512 + 1 := by
          by_cases h8 : j % 8 = 0 ∧ 64 * j ≤ l.length
          · have : t = true := by rw [ht]; exact decide_eq_true h8
            rw [this]; simp; omega
          · have : t = false := by rw [ht]; exact decide_eq_false h8
            rw [this]; simp; omega
        rw [ht8, sel_neg (by omega)]
        dsimp only
        rw [addW_i64 (by omega) (by omega)]
        obtain ⟨M, rfl⟩ : ∃ M, N = M + 1 := ⟨N - 1, by omega⟩
        simp only [plain_Build_l7_L, plain_Build_l7_T]
        rw [sel_neg (by omega), hje]
        rfl
    rw [sel_pos (by omega), rem8 j]
    by_cases h8 : j % 8 = 0
    · rw [sel_pos (by omega), mulW_i64 (by omega) (by omega)]
      refine key _ ?_
      unfold takes
      rw [decide_eq_decide]; omega
    · rw [sel_neg (by omega)]
      refine key _ ?_
      unfold takes
      exact (decide_eq_false fun h => h8 h.1).symm
theorem plain_Build_spec (n : Int) (ws : List Nat) (hw : Ws ws) (K : Int → List Int → List Int → List Int → Int → Option R) :
    plain_Build n (ci ws) K = if okRow n ws = true then K n (ci ws) (supF (rowB n ws)) (subF (rowB n ws)) 0 else K 0 [] [] [] 2 := by
  rw [plain_Build_unf]; unfold plain_Build_B
  rw [bits_Check_spec n ws hw]
  cases hok : okRow n ws with
  | false => rfl
  | true =>
    obtain ⟨l, rfl, rfl, hl⟩ := okRow_wds hok hw.1
    rw [Bool.not_true, Ev.sel_false, if_pos rfl, rowB_wds, ci_length, wds_length, addW_i64 (by omega) (by omega), plain_Build_l7_unf]
    unfold plain_Build_l7_B
    refine (show _ = _ from plain_Build_loop (R := R) l hl _ 0 (l.length : Int) (ci (wds l)) NR 0 (by omega) (by have := NR_lt; omega)).trans ?_
    rw [sel_pos (supF_length l).symm, sel_pos (subF_length l).symm]
end
end Go.Proofs.YtofblchonjfdbaaGreatDoor
