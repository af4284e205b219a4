/- Rows of bits in blocks of fifteen, each by its class and its offset (no program). -/
import Derived.Test.YtofblchonjfdbaaGreatDoorW12
import Derived.Test.YtofblchonjfdbaaGreatDoorW13
import Derived.Test.YtofblchonjfdbaaGreatDoorWA
namespace Go.Ev
open Go
/-- how many blocks -/
def NB (l : List Bool) : Nat := (l.length + 14) / 15
/-- a block's word, class, offset -/
def bw (l : List Bool) (i : Nat) : Nat := sliceN (wds l) (15 * i) 15
def cls (l : List Bool) (i : Nat) : Nat := pc (bw l i) 15
def ofs (l : List Bool) (i : Nat) : Nat := offN (bw l i) 15
/-- how many bits an offset of a class has -/
def wid15 (k : Nat) : Nat := bitLen (ch 15 k - 1)
/-- offsets of the first blocks -/
def offs (l : List Bool) : Nat → List Bool
  | 0 => []
  | i + 1 => offs l i ++ lowB (ofs l i) (wid15 (cls l i))
def clsL (l : List Bool) (n : Nat) : List Nat := (List.range n).map (cls l)
/-- how many groups are begun before a block -/
def grp (i : Nat) : Nat := (i + 7) / 8
def onesL (l : List Bool) (n : Nat) : List Int := (List.range n).map fun g => ((cntOf l true (120 * g) : Nat) : Int)
def ptsL (l : List Bool) (n : Nat) : List Int := (List.range n).map fun g => (((offs l (8 * g)).length : Nat) : Int)
def NG (l : List Bool) : Nat := max 1 (grp (NB l))

theorem bw_bit (l : List Bool) (i j : Nat) : (bw l i).testBit j = (decide (j < 15) && l.getD (15 * i + j) false) := by
  unfold bw; rw [sliceN_bit, bitAt_wds]
theorem bw_lt (l : List Bool) (i : Nat) : bw l i < 32768 := sliceN_lt _ _ _
theorem bw_short (l : List Bool) (i : Nat) : sliceN (wds l) (15 * i) (min 15 (l.length - 15 * i)) = bw l i := by
  apply Nat.eq_of_testBit_eq
  intro j
  rw [bw_bit, sliceN_bit, bitAt_wds]
  by_cases h1 : j < 15
  · by_cases h2 : 15 * i + j < l.length
    · rw [decide_eq_true (by omega), decide_eq_true h1]
    · rw [getD_ge (by omega), Bool.and_false, Bool.and_false]
  · rw [decide_eq_false (by omega), decide_eq_false h1]
theorem bw_len (l : List Bool) (i : Nat) : bw l i < 2 ^ min 15 (l.length - 15 * i) := by rw [← bw_short]; exact sliceN_lt _ _ _
theorem cls_le (l : List Bool) (i : Nat) : cls l i ≤ 15 := pc_le _ _
theorem cnt_blk (l : List Bool) (i : Nat) : ∀ r, r ≤ 15 → cntOf l true (15 * i + r) = cntOf l true (15 * i) + pc (bw l i) r
  | 0, _ => rfl
  | r + 1, h => by
    have ih := cnt_blk l i r (by omega)
    rw [pc_succ, bw_bit, decide_eq_true (by omega), Bool.true_and]
    show cntOf l true (15 * i + r) + (l.getD (15 * i + r) false == true).toNat = _
    rw [ih]
    cases l.getD (15 * i + r) false <;> simp <;> omega
theorem cnt_next (l : List Bool) (i : Nat) : cntOf l true (15 * (i + 1)) = cntOf l true (15 * i) + cls l i := cnt_blk l i 15 (Nat.le_refl _)
theorem ofs_lt (l : List Bool) (i : Nat) : ofs l i < ch 15 (cls l i) := offN_lt _ _
theorem blk_of (l : List Bool) (i : Nat) : blkN 15 (cls l i) (ofs l i) = bw l i := by
  unfold cls ofs; rw [blkN_off]; exact Nat.mod_eq_of_lt (bw_lt l i)
theorem ofs_wid (l : List Bool) (i : Nat) : ofs l i < 2 ^ wid15 (cls l i) := by
  have h := ofs_lt l i
  exact lt_two_iff.2 (Nat.le_trans (bitLen_le_of (by omega)) (Nat.le_refl _))
where bitLen_le_of {a b : Nat} (h : a ≤ b) : bitLen a ≤ bitLen b := lt_two_iff.1 (Nat.lt_of_le_of_lt h (bitLen_spec b).1)
theorem wid15_le (k : Nat) : wid15 k ≤ 13 := by
  unfold wid15
  by_cases h : k ≤ 15
  · have : ∀ j, j < 16 → bitLen (ch 15 j - 1) ≤ 13 := by decide +kernel
    exact this k (by omega)
  · rw [ch_more 15 k (by omega)]; decide
theorem wid15_zero : wid15 0 = 0 := by decide
theorem ofs_zero {l : List Bool} {i : Nat} (h : cls l i = 0) : ofs l i = 0 := by
  have := ofs_lt l i
  rw [h, ch_zero] at this; omega
theorem offs_le (l : List Bool) : ∀ i, (offs l i).length ≤ 13 * i
  | 0 => by simp [offs]
  | i + 1 => by
    have := offs_le l i
    have := wid15_le (cls l i)
    simp only [offs, List.length_append, lowB_length]; omega
theorem offs_mono (l : List Bool) {i j : Nat} (h : i ≤ j) : (offs l i).length ≤ (offs l j).length := by
  induction h with
  | refl => exact Nat.le_refl _
  | step _ ih => simp only [offs, List.length_append]; omega
theorem offs_get (l : List Bool) (q : Nat) : ∀ {i j : Nat}, i ≤ j → q < (offs l i).length → (offs l j).getD q false = (offs l i).getD q false := by
  intro i j h hq
  induction h with
  | refl => rfl
  | step h ih =>
    have := offs_mono l h
    simp only [offs]
    rw [getD_append, if_pos (by omega), ih]
theorem offs_slice (l : List Bool) {i j : Nat} (h : i < j) : sliceN (wds (offs l j)) (offs l i).length (wid15 (cls l i)) = ofs l i := by
  apply Nat.eq_of_testBit_eq
  intro q
  rw [sliceN_bit, bitAt_wds]
  by_cases hq : q < wid15 (cls l i)
  · rw [decide_eq_true hq, Bool.true_and, offs_get l _ (show i + 1 ≤ j from h) (by simp only [offs, List.length_append, lowB_length]; omega)]
    simp only [offs]
    rw [getD_append, if_neg (by omega), show (offs l i).length + q - (offs l i).length = q by omega, lowB_getD, decide_eq_true hq, Bool.true_and]
  · rw [decide_eq_false hq, Bool.false_and, testBit_ge (ofs_wid l i) (by omega)]
theorem clsL_length (l : List Bool) (n : Nat) : (clsL l n).length = n := by simp [clsL]
theorem clsL_get (l : List Bool) {n i : Nat} (h : i < n) : (clsL l n).getD i 0 = cls l i := by
  unfold clsL
  rw [List.getD_eq_getElem?_getD, List.getElem?_map, List.getElem?_range h]; rfl
theorem clsL_succ (l : List Bool) (n : Nat) : clsL l (n + 1) = clsL l n ++ [cls l n] := by simp [clsL, List.range_succ]
theorem clsL_lt (l : List Bool) (n : Nat) : ∀ u ∈ clsL l n, u < 16 := fun u h => by
  obtain ⟨i, _, rfl⟩ := List.mem_map.1 h
  have := cls_le l i; omega
theorem onesL_length (l : List Bool) (n : Nat) : (onesL l n).length = n := by simp [onesL]
theorem ptsL_length (l : List Bool) (n : Nat) : (ptsL l n).length = n := by simp [ptsL]
theorem onesL_get (l : List Bool) {n g : Nat} (h : g < n) : (onesL l n).getD g 0 = ((cntOf l true (120 * g) : Nat) : Int) := by
  unfold onesL
  rw [List.getD_eq_getElem?_getD, List.getElem?_map, List.getElem?_range h]; rfl
theorem ptsL_get (l : List Bool) {n g : Nat} (h : g < n) : (ptsL l n).getD g 0 = (((offs l (8 * g)).length : Nat) : Int) := by
  unfold ptsL
  rw [List.getD_eq_getElem?_getD, List.getElem?_map, List.getElem?_range h]; rfl
theorem onesL_succ (l : List Bool) (n : Nat) : onesL l (n + 1) = onesL l n ++ [((cntOf l true (120 * n) : Nat) : Int)] := by simp [onesL, List.range_succ]
theorem ptsL_succ (l : List Bool) (n : Nat) : ptsL l (n + 1) = ptsL l n ++ [(((offs l (8 * n)).length : Nat) : Int)] := by simp [ptsL, List.range_succ]
theorem NB_le {l : List Bool} {n : Nat} (h : l.length ≤ n) : NB l ≤ (n + 14) / 15 := Nat.div_le_div_right (by omega)
theorem NB_lt {l : List Bool} {i : Nat} : i < NB l ↔ 15 * i < l.length := by unfold NB; omega
theorem grp_succ (i : Nat) : grp (i + 1) = grp i + (if i % 8 = 0 then 1 else 0) := by unfold grp; split <;> omega
theorem grp_at {i : Nat} (h : i % 8 = 0) : 8 * grp i = i := by unfold grp; omega
/-! ### bits read out of blocks -/
theorem lowB_bw (l : List Bool) (i : Nat) : l.take (15 * i) ++ lowB (bw l i) (min 15 (l.length - 15 * i)) = l.take (15 * (i + 1)) := by
  apply bools_ext
  · simp only [List.length_append, List.length_take, lowB_length]; omega
  · intro q hq
    rw [getD_append, List.length_take]
    have ht : ∀ n, (l.take n).getD q false = (decide (q < n) && l.getD q false) := fun n => by
      rw [List.getD_eq_getElem?_getD, List.getElem?_take, List.getD_eq_getElem?_getD]
      by_cases h : q < n
      · rw [if_pos h, decide_eq_true h, Bool.true_and]
      · rw [if_neg h, decide_eq_false h, Bool.false_and]; rfl
    simp only [List.length_append, List.length_take, lowB_length] at hq
    by_cases h1 : q < min (15 * i) l.length
    · rw [if_pos h1, ht, ht, decide_eq_true (by omega), decide_eq_true (by omega)]
    · rw [if_neg h1, lowB_getD, bw_bit, ht, decide_eq_true (by omega), decide_eq_true (by omega), decide_eq_true (by omega), show 15 * i + (q - min (15 * i) l.length) = q by omega, Bool.true_and, Bool.true_and]
/-- one that is read: blocks by classes; 'tight': no bit behind the end -/
def rowR (tight : Bool) (N : Nat) (off : List Bool) : List Nat → Nat → List Bool → Option (List Bool)
  | [], _, out => some out
  | c :: cs, at_, out =>
    if 15 < c then none else if off.length < at_ + wid15 c then none else if ch 15 c ≤ sliceN (wds off) at_ (wid15 c) then none
    else if tight = true ∧ min 15 (N - out.length) < bitLen (blkN 15 c (sliceN (wds off) at_ (wid15 c))) then none
    else rowR tight N off cs (at_ + wid15 c) (out ++ lowB (blkN 15 c (sliceN (wds off) at_ (wid15 c))) (min 15 (N - out.length)))
theorem rowR_length {tight : Bool} {N : Nat} {off : List Bool} : ∀ {cs : List Nat} {at_ : Nat} {out r : List Bool}, rowR tight N off cs at_ out = some r → out.length ≤ N → r.length ≤ N
  | [], _, _, _, h, hN => by cases h; exact hN
  | c :: cs, at_, out, r, h, hN => by
    simp only [rowR] at h
    split at h
    · cases h
    · split at h
      · cases h
      · split at h
        · cases h
        · split at h
          · cases h
          · exact rowR_length h (by rw [List.length_append, lowB_length]; omega)
theorem rowR_built (tight : Bool) (l : List Bool) : ∀ (f i : Nat), i + f = NB l → rowR tight l.length (offs l (NB l)) ((List.range' i f).map (cls l)) (offs l i).length (l.take (15 * i)) = some l
  | 0, i, h => by
    simp only [List.range'_zero, List.map_nil, rowR]
    rw [List.take_of_length_le (by unfold NB at h; omega)]
  | f + 1, i, h => by
    have hi : i < NB l := by omega
    have hl := NB_lt.1 hi
    have hs := offs_slice l hi
    have hm := offs_mono l (show i + 1 ≤ NB l by omega)
    have hlen : (offs l (i + 1)).length = (offs l i).length + wid15 (cls l i) := by simp [offs, lowB_length]
    have ht : (l.take (15 * i)).length = 15 * i := by rw [List.length_take]; omega
    rw [List.range'_succ, List.map_cons]
    simp only [rowR]
    rw [if_neg (by have := cls_le l i; omega), if_neg (by omega), hs, if_neg (by have := ofs_lt l i; omega), blk_of, ht, if_neg (by rintro ⟨_, h3⟩; have := bitLen_le (bw_len l i); omega),
      lowB_bw, ← hlen]
    exact rowR_built tight l f (i + 1) (by omega)
theorem rowR_all (tight : Bool) (l : List Bool) : rowR tight l.length (offs l (NB l)) (clsL l (NB l)) 0 [] = some l := by
  have := rowR_built tight l (NB l) 0 (by omega)
  rw [Nat.mul_zero, List.take_zero, ← List.range_eq_range'] at this
  exact this
/-! ### places -/
/-- a block's word, the bits sought being 1 -/
def bwB (l : List Bool) (bit : Bool) (i : Nat) : Nat := if bit = true then bw l i else 32767 - bw l i
theorem bwB_lt (l : List Bool) (bit : Bool) (i : Nat) : bwB l bit i < 32768 := by
  have := bw_lt l i
  unfold bwB; split <;> omega
theorem bwB_cnt (l : List Bool) (bit : Bool) (i r : Nat) (h : r ≤ 15) : cntOf l bit (15 * i + r) = cntOf l bit (15 * i) + pc (bwB l bit i) r := by
  have h1 := cnt_blk l i r h
  cases bit with
  | true => exact h1
  | false =>
    have h2 := cntOf_add l (15 * i + r)
    have h3 := cntOf_add l (15 * i)
    have h4 := pc_not (x := bw l i) (n := 15) (bw_lt l i) r h
    show _ = _ + pc (32767 - bw l i) r
    have h4 : pc (32767 - bw l i) r + pc (bw l i) r = r := h4
    omega
theorem pc_15 {x : Nat} (h : x < 32768) : pc x 64 = pc x 15 := pc_of_lt (n := 15) h (by decide)
theorem bwB_pop (l : List Bool) (bit : Bool) (i : Nat) : cntOf l bit (15 * (i + 1)) = cntOf l bit (15 * i) + pc (bwB l bit i) 64 := by
  rw [pc_15 (bwB_lt l bit i), ← bwB_cnt l bit i 15 (Nat.le_refl _)]; rfl
/-- the place of a bit in its block -/
theorem bwB_sel {l : List Bool} {bit : Bool} {k p : Nat} (h : IsAt l bit k p) : selN (bwB l bit (p / 15)) ((k - cntOf l bit (15 * (p / 15)) : Nat) : Int) = p % 15 ∧ cntOf l bit (15 * (p / 15)) ≤ k ∧ k < cntOf l bit (15 * (p / 15 + 1)) := by
  have e : 15 * (p / 15) + p % 15 = p := by omega
  have h1 := bwB_cnt l bit (p / 15) (p % 15) (by omega)
  have h2 := bwB_cnt l bit (p / 15) (p % 15 + 1) (by omega)
  rw [e, h.cnt] at h1
  have h3 : cntOf l bit (15 * (p / 15) + (p % 15 + 1)) = k + 1 := by
    rw [show 15 * (p / 15) + (p % 15 + 1) = p + 1 by omega]
    show cntOf l bit p + (l.getD p false == bit).toNat = k + 1
    rw [h.cnt, h.is]; simp
  rw [h3] at h2
  have hb : (bwB l bit (p / 15)).testBit (p % 15) = true := by
    have := pc_succ (bwB l bit (p / 15)) (p % 15)
    cases hx : (bwB l bit (p / 15)).testBit (p % 15) with
    | true => rfl
    | false => rw [hx] at this; simp at this; omega
  have hm := cntOf_mono l bit (show 15 * (p / 15) + (p % 15 + 1) ≤ 15 * (p / 15 + 1) by omega)
  refine ⟨selN_eq ?_, by omega, by omega⟩
  exact .inl ⟨by omega, hb, by omega⟩
def accB (l : List Bool) (i : Int) : Bool × Int := if i < 0 ∨ (l.length : Int) ≤ i then (false, 3) else (l.getD i.toNat false, 0)
def rnkB (l : List Bool) (bit : Bool) (i : Int) : Int × Int := if i < 0 ∨ (l.length : Int) < i then (0, 3) else (((cntOf l bit i.toNat : Nat) : Int), 0)
def selB (l : List Bool) (bit : Bool) (k : Int) : Int × Int := if k < 0 then (0, 3) else match placeB l bit k.toNat with | some i => ((i : Int), 0) | none => (0, 3)
end Go.Ev
