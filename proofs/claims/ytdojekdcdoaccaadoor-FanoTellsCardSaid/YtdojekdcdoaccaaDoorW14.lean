/- Rows of bits by the places of those that are 1 (no program). -/
import Derived.Test.YtdojekdcdoaccaaDoorW13
namespace Go.Ev
open Go
/-! ### whole numbers with a sign, not below 0 -/
theorem shlW_i64 (a b : Nat) (hb : b ≤ 63) (h : a * 2 ^ b < 2 ^ 63) : shlW .i64 (a : Int) (b : Int) = ((a * 2 ^ b : Nat) : Int) := by
  rw [shlW_eq]
  have hb2 : (IntKind.i64.bits) = 64 := rfl
  rw [hb2, Int.toNat_natCast, wrap_i64, show min b 64 = b by omega]
  have e : (2 : Int) ^ b = ((2 ^ b : Nat) : Int) := by simp
  rw [e, ← Int.natCast_mul]
  omega
theorem shrW_i64 (a b : Nat) (ha : a < 2 ^ 63) : shrW .i64 (a : Int) (b : Int) = ((a / 2 ^ b : Nat) : Int) := by
  rw [shrW_eq]
  have hb : (IntKind.i64.bits) = 64 := rfl
  rw [hb, Int.toNat_natCast]
  have e : (2 : Int) ^ min b 64 = ((2 ^ min b 64 : Nat) : Int) := by simp
  rw [e, Int.fdiv_eq_ediv_of_nonneg _ (Int.natCast_nonneg _), ← Int.natCast_ediv]
  congr 1
  by_cases h : b ≤ 64
  · rw [show min b 64 = b by omega]
  · rw [show min b 64 = 64 by omega, Nat.div_eq_of_lt (by omega), Nat.div_eq_of_lt (Nat.lt_of_lt_of_le ha (Nat.pow_le_pow_right (by decide) (by omega)))]
theorem orW_i64 (a b : Nat) (ha : a < 2 ^ 63) (hb : b < 2 ^ 63) : orW .i64 (a : Int) (b : Int) = ((a ||| b : Nat) : Int) := by
  rw [orW_eq]
  have hx : a ||| b < 2 ^ 63 := Nat.or_lt_two_pow ha hb
  show IntKind.i64.wrap ((BitVec.ofInt 64 (a : Int) ||| BitVec.ofInt 64 (b : Int)).toNat : Int) = _
  rw [BitVec.toNat_or, ofInt_nat a (by omega), ofInt_nat b (by omega), wrap_i64]
  omega
/-- two rising rows with the same members are the same -/
theorem rise_ext : ∀ {a b : List Nat}, a.Pairwise (· < ·) → b.Pairwise (· < ·) → (∀ x, x ∈ a ↔ x ∈ b) → a = b
  | [], [], _, _, _ => rfl
  | [], y :: b, _, _, h => by have := (h y).2 (by simp); simp at this
  | x :: a, [], _, _, h => by have := (h x).1 (by simp); simp at this
  | x :: a, y :: b, ha, hb, h => by
    obtain ⟨a1, a2⟩ := List.pairwise_cons.1 ha
    obtain ⟨b1, b2⟩ := List.pairwise_cons.1 hb
    have e : x = y := by
      have h1 := (h x).1 (by simp)
      have h2 := (h y).2 (by simp)
      rcases List.mem_cons.1 h1 with e | e
      · exact e
      · rcases List.mem_cons.1 h2 with e2 | e2
        · exact e2.symm
        · have := b1 x e; have := a1 y e2; omega
    subst e
    rw [rise_ext a2 b2 (fun z => ?_)]
    constructor
    · intro hz
      rcases List.mem_cons.1 ((h z).1 (List.mem_cons_of_mem _ hz)) with e | e
      · have := a1 z hz; omega
      · exact e
    · intro hz
      rcases List.mem_cons.1 ((h z).2 (List.mem_cons_of_mem _ hz)) with e | e
      · have := b1 z hz; omega
      · exact e
/-- the places of the bits that are 1, of the first n -/
def plN (l : List Bool) (n : Nat) : List Nat := (List.range n).filter fun i => l.getD i false
def pl (l : List Bool) : List Nat := plN l l.length
theorem pl_rise (l : List Bool) : (pl l).Pairwise (· < ·) := List.Pairwise.filter _ List.pairwise_lt_range
theorem mem_pl {l : List Bool} {x : Nat} : x ∈ pl l ↔ l.getD x false = true := by
  unfold pl plN
  rw [List.mem_filter, List.mem_range]
  constructor
  · exact fun h => h.2
  · intro h
    refine ⟨?_, h⟩
    by_cases h2 : x < l.length
    · exact h2
    · rw [getD_ge (by omega)] at h; cases h
theorem pl_lt {l : List Bool} {x : Nat} (h : x ∈ pl l) : x < l.length := by
  unfold pl plN at h
  rw [List.mem_filter, List.mem_range] at h
  exact h.1
theorem plN_succ (l : List Bool) (n : Nat) : plN l (n + 1) = plN l n ++ (if l.getD n false = true then [n] else []) := by
  unfold plN
  rw [List.range_succ, List.filter_append]
  congr 1
  simp only [List.filter_cons, List.filter_nil]
theorem plN_length (l : List Bool) : ∀ n, (plN l n).length = cntOf l true n
  | 0 => rfl
  | n + 1 => by
    rw [plN_succ, List.length_append, plN_length l n]
    simp only [cntOf]
    cases l.getD n false <;> simp
theorem pl_length (l : List Bool) : (pl l).length = cntOf l true l.length := plN_length l _
theorem plN_get {l : List Bool} {k i : Nat} (h : IsAt l true k i) : ∀ n, i < n → (plN l n).getD k 0 = i
  | 0, hn => by omega
  | n + 1, hn => by
    rw [plN_succ]
    by_cases e : i = n
    · subst e
      rw [if_pos h.is, List.getD_eq_getElem?_getD, List.getElem?_append_right (by rw [plN_length, h.cnt]; exact Nat.le_refl _), plN_length, h.cnt]
      simp
    · have h1 : k < (plN l n).length := by
        rw [plN_length, ← h.cnt]
        exact cntOf_lt l true (by omega) h.is
      rw [List.getD_eq_getElem?_getD, List.getElem?_append_left h1, ← List.getD_eq_getElem?_getD]
      exact plN_get h n (by omega)
theorem pl_get {l : List Bool} {k i : Nat} (h : IsAt l true k i) : (pl l).getD k 0 = i := plN_get h _ h.lt
theorem pl_isAt {l : List Bool} {k : Nat} (h : k < (pl l).length) : IsAt l true k ((pl l).getD k 0) := by
  rw [pl_length] at h
  obtain ⟨i, h1, _⟩ := isAt_ex l true k l.length (Nat.le_refl _) h
  rw [pl_get h1]; exact h1
/-! ### words -/
def pw (x : Nat) : List Nat := (List.range 64).filter fun i => x.testBit i
theorem pw_rise (x : Nat) : (pw x).Pairwise (· < ·) := List.Pairwise.filter _ List.pairwise_lt_range
theorem mem_pw {x i : Nat} : i ∈ pw x ↔ i < 64 ∧ x.testBit i = true := by
  unfold pw; rw [List.mem_filter, List.mem_range]
theorem pw_zero : pw 0 = [] := by
  unfold pw; rw [List.filter_eq_nil_iff]; simp
theorem odd_bit (m j : Nat) : (2 * m + 1).testBit (j + 1) = (2 * m).testBit (j + 1) := by
  rw [Nat.testBit_succ, Nat.testBit_succ, show (2 * m + 1) / 2 = 2 * m / 2 by omega]
theorem pw_step {x : Nat} (h0 : x ≠ 0) (hx : x < 2 ^ 64) : pw x = selN x 0 :: pw (x &&& (x - 1)) := by
  rw [sel_zero h0 hx]
  obtain ⟨m, e, hc⟩ := low_one h0 hx
  generalize Lib.ctz 64 x = c at e hc
  subst e
  rw [and_pred]
  have z : ∀ i, i < 64 → ((2 ^ c * (2 * m + 1)).testBit i = true ↔ i = c ∨ (2 ^ c * (2 * m)).testBit i = true) := fun i hi => by
    rw [bit_mul, bit_mul]
    by_cases h1 : i < c
    · simp [show ¬ c ≤ i by omega]; omega
    by_cases h2 : i = c
    · subst h2; simp
    · obtain ⟨j, hj⟩ : ∃ j, i - c = j + 1 := ⟨i - c - 1, by omega⟩
      rw [hj, odd_bit]; simp [h2]
  have hz : (2 ^ c * (2 * m)).testBit c = false := by rw [bit_mul]; simp
  refine rise_ext (pw_rise _) ?_ fun i => ?_
  · refine List.pairwise_cons.2 ⟨fun i hi => ?_, pw_rise _⟩
    have := (mem_pw.1 hi).2
    rw [bit_mul] at this
    simp at this
    rcases Nat.lt_or_ge c i with h | h
    · exact h
    · have : i = c := by omega
      subst this
      have := (mem_pw.1 hi).2
      rw [hz] at this; cases this
  · rw [List.mem_cons, mem_pw, mem_pw]
    constructor
    · rintro ⟨h1, h2⟩
      rcases (z i h1).1 h2 with h | h
      · exact .inl h
      · exact .inr ⟨h1, h⟩
    · rintro (h | ⟨h1, h2⟩)
      · subst h; exact ⟨hc, (z _ hc).2 (.inl rfl)⟩
      · exact ⟨h1, (z _ h1).2 (.inr h2)⟩
theorem pw_lengthN (x : Nat) : ∀ n, ((List.range n).filter fun i => x.testBit i).length = pc x n
  | 0 => rfl
  | n + 1 => by
    rw [List.range_succ, List.filter_append, List.length_append, pw_lengthN x n]
    simp only [pc]
    cases h : x.testBit n <;> simp [List.filter, h]
theorem pw_length (x : Nat) : (pw x).length = pc x 64 := pw_lengthN x 64
theorem clear_lt {x : Nat} (hx : x < 2 ^ 64) : x &&& (x - 1) < 2 ^ 64 := Nat.lt_of_le_of_lt Nat.and_le_left hx
theorem pw_get : ∀ (k x : Nat), x < 2 ^ 64 → k < pc x 64 → (pw x).getD k 0 = selN x (k : Int)
  | 0, x, hx, hk => by
    have h0 : x ≠ 0 := fun e => by subst e; rw [pc_zero] at hk; omega
    rw [pw_step h0 hx]; rfl
  | k + 1, x, hx, hk => by
    have h0 : x ≠ 0 := fun e => by subst e; rw [pc_zero] at hk; omega
    have := pc_clear h0 hx
    rw [pw_step h0 hx, List.getD_cons_succ, pw_get k _ (clear_lt hx) (by omega), ← sel_step h0 hx (by omega)]
    rfl
/-- the places in words, from word j on -/
def plw : Nat → List Nat → List Nat
  | _, [] => []
  | j, w :: ws => (pw w).map (fun i => 64 * j + i) ++ plw (j + 1) ws
theorem bitAt_cons (w : Nat) (ws : List Nat) (i : Nat) : bitAt (w :: ws) i = if i < 64 then w.testBit i else bitAt ws (i - 64) := by
  unfold bitAt
  by_cases h : i < 64
  · rw [if_pos h, show i / 64 = 0 by omega, show i % 64 = i by omega]; rfl
  · rw [if_neg h, show i / 64 = (i - 64) / 64 + 1 by omega, List.getD_cons_succ, show (i - 64) % 64 = i % 64 by omega]
theorem mem_plw : ∀ (ws : List Nat) (j x : Nat), x ∈ plw j ws ↔ 64 * j ≤ x ∧ bitAt ws (x - 64 * j) = true
  | [], j, x => by simp [plw, bitAt]
  | w :: ws, j, x => by
    unfold plw
    rw [List.mem_append, List.mem_map, mem_plw ws (j + 1) x, bitAt_cons]
    constructor
    · rintro (⟨i, h, rfl⟩ | ⟨h1, h2⟩)
      · obtain ⟨h1, h2⟩ := mem_pw.1 h
        exact ⟨by omega, by rw [show 64 * j + i - 64 * j = i by omega, if_pos h1]; exact h2⟩
      · refine ⟨by omega, ?_⟩
        rw [if_neg (by omega), show x - 64 * j - 64 = x - 64 * (j + 1) by omega]; exact h2
    · rintro ⟨h1, h2⟩
      by_cases h : x - 64 * j < 64
      · rw [if_pos h] at h2
        exact .inl ⟨x - 64 * j, mem_pw.2 ⟨h, h2⟩, by omega⟩
      · rw [if_neg h, show x - 64 * j - 64 = x - 64 * (j + 1) by omega] at h2
        exact .inr ⟨by omega, h2⟩
theorem plw_rise : ∀ (ws : List Nat) (j : Nat), (plw j ws).Pairwise (· < ·)
  | [], _ => by simp [plw]
  | w :: ws, j => by
    unfold plw
    refine List.pairwise_append.2 ⟨?_, plw_rise ws (j + 1), ?_⟩
    · rw [List.pairwise_map]
      exact (pw_rise w).imp (by intro a b h; omega)
    · intro a ha b hb
      obtain ⟨i, hi, rfl⟩ := List.mem_map.1 ha
      have := (mem_pw.1 hi).1
      have := ((mem_plw ws (j + 1) b).1 hb).1
      omega
theorem plw_wds (l : List Bool) : plw 0 (wds l) = pl l := by
  refine rise_ext (plw_rise _ _) (pl_rise l) fun x => ?_
  rw [mem_plw, mem_pl, Nat.mul_zero, Nat.sub_zero, bitAt_wds]
  simp
theorem plw_drop (ws : List Nat) (j : Nat) (h : j < ws.length) (q : Nat) : plw q (ws.drop j) = (pw (ws.getD j 0)).map (fun i => 64 * q + i) ++ plw (q + 1) (ws.drop (j + 1)) := by
  rw [List.drop_eq_getElem_cons h]
  simp only [plw]
  rw [List.getD_eq_getElem?_getD, List.getElem?_eq_getElem h]; rfl
theorem plw_end (ws : List Nat) (j q : Nat) (h : ws.length ≤ j) : plw q (ws.drop j) = [] := by
  rw [List.drop_of_length_le h]; rfl
/-! ### bits set in a row -/
def setA (qs : List Nat) (b : List Bool) : List Bool := qs.foldl (fun b q => b.set q true) b
theorem setA_length : ∀ (qs : List Nat) (b : List Bool), (setA qs b).length = b.length
  | [], _ => rfl
  | q :: qs, b => by show (setA qs (b.set q true)).length = _; rw [setA_length qs]; simp
theorem setA_getD : ∀ (qs : List Nat) (b : List Bool), (∀ q ∈ qs, q < b.length) → ∀ i, (setA qs b).getD i false = (decide (i ∈ qs) || b.getD i false)
  | [], b, _, i => by simp [setA]
  | q :: qs, b, h, i => by
    have hq := h q (by simp)
    show (setA qs (b.set q true)).getD i false = _
    rw [setA_getD qs _ (fun q' h' => by rw [List.length_set]; exact h q' (List.mem_cons_of_mem _ h'))]
    by_cases e : i = q
    · subst e
      rw [List.getD_eq_getElem?_getD, List.getElem?_set_self hq]; simp
    · rw [List.getD_eq_getElem?_getD, List.getElem?_set_ne (by omega), ← List.getD_eq_getElem?_getD]; simp [e]
theorem getD_repl (L i : Nat) : (List.replicate L false).getD i false = false := by
  rw [List.getD_eq_getElem?_getD]
  by_cases h : i < L
  · rw [List.getElem?_replicate_of_lt h]; rfl
  · rw [List.getElem?_eq_none (by simp; omega)]; rfl
theorem pl_setA {qs : List Nat} {L : Nat} (hr : qs.Pairwise (· < ·)) (hl : ∀ q ∈ qs, q < L) : pl (setA qs (List.replicate L false)) = qs := by
  refine rise_ext (pl_rise _) hr fun x => ?_
  rw [mem_pl, setA_getD qs _ (by simpa using hl), getD_repl]; simp
theorem setA_pl (l : List Bool) : setA (pl l) (List.replicate l.length false) = l := by
  refine bools_ext (by rw [setA_length]; simp) fun i _ => ?_
  rw [setA_getD _ _ (fun q hq => by rw [List.length_replicate]; exact pl_lt hq), getD_repl, Bool.or_false]
  have := @mem_pl l i
  cases h : l.getD i false
  · rw [h] at this; simp at this; simp [this]
  · simp [this.2 h]
/-! ### high and low parts of places -/
def hq (w : Nat) : Nat → List Nat → List Nat
  | _, [] => []
  | i, p :: ps => (p / 2 ^ w + i) :: hq w (i + 1) ps
theorem hq_length (w : Nat) : ∀ (ps : List Nat) (i : Nat), (hq w i ps).length = ps.length
  | [], _ => rfl
  | p :: ps, i => by simp [hq, hq_length w ps]
theorem hq_get (w : Nat) : ∀ (ps : List Nat) (i k : Nat), k < ps.length → (hq w i ps).getD k 0 = ps.getD k 0 / 2 ^ w + (i + k)
  | [], _, _, h => by simp at h
  | p :: ps, i, 0, _ => rfl
  | p :: ps, i, k + 1, h => by
    simp only [hq, List.getD_cons_succ]
    rw [hq_get w ps (i + 1) k (by simpa using h)]; omega
theorem hq_ge (w : Nat) : ∀ (ps : List Nat) (i a : Nat), (∀ p ∈ ps, a ≤ p) → ∀ q ∈ hq w i ps, a / 2 ^ w + i ≤ q
  | [], _, _, _, q, h => by simp [hq] at h
  | p :: ps, i, a, ha, q, h => by
    rcases List.mem_cons.1 h with rfl | h
    · have := Nat.div_le_div_right (c := 2 ^ w) (ha p (by simp)); omega
    · have := hq_ge w ps (i + 1) a (fun p' h' => ha p' (List.mem_cons_of_mem _ h')) q h; omega
theorem hq_rise (w : Nat) : ∀ (ps : List Nat) (i : Nat), ps.Pairwise (· < ·) → (hq w i ps).Pairwise (· < ·)
  | [], _, _ => by simp [hq]
  | p :: ps, i, h => by
    obtain ⟨h1, h2⟩ := List.pairwise_cons.1 h
    refine List.pairwise_cons.2 ⟨fun q hq' => ?_, hq_rise w ps (i + 1) h2⟩
    have := hq_ge w ps (i + 1) p (fun p' h' => Nat.le_of_lt (h1 p' h')) q hq'
    omega
theorem hq_lt (w n : Nat) : ∀ (ps : List Nat) (i : Nat), (∀ p ∈ ps, p ≤ n) → ∀ q ∈ hq w i ps, q < n / 2 ^ w + i + ps.length
  | [], _, _, q, h => by simp [hq] at h
  | p :: ps, i, ha, q, h => by
    rcases List.mem_cons.1 h with rfl | h
    · have := Nat.div_le_div_right (c := 2 ^ w) (ha p (by simp)); simp only [List.length_cons]; omega
    · have := hq_lt w n ps (i + 1) (fun p' h' => ha p' (List.mem_cons_of_mem _ h')) q h; simp only [List.length_cons]; omega
/-- how many of a place's bits are the lowest ones -/
def widF (n m : Nat) : Nat := if m = 0 then 0 else bitLen (n / m) - 1
theorem widF_le {n m : Nat} (h : n < 2 ^ 21) : widF n m ≤ 20 := by
  unfold widF
  split
  · omega
  · have : bitLen (n / m) ≤ 21 := bitLen_le (Nat.lt_of_le_of_lt (Nat.div_le_self _ _) h)
    omega
def lowL (w : Nat) (ps : List Nat) : List Nat := if w = 0 then [] else ps.map (· % 2 ^ w)
def highL (w n : Nat) (ps : List Nat) : List Bool := setA (hq w 0 ps) (List.replicate (ps.length + n / 2 ^ w + 1) false)
theorem highL_length (w n : Nat) (ps : List Nat) : (highL w n ps).length = ps.length + n / 2 ^ w + 1 := by
  unfold highL; rw [setA_length, List.length_replicate]
theorem hq_in {w n : Nat} {ps : List Nat} (h : ∀ p ∈ ps, p ≤ n) : ∀ q ∈ hq w 0 ps, q < ps.length + n / 2 ^ w + 1 := fun q hq' => by
  have := hq_lt w n ps 0 h q hq'; omega
theorem pl_high {w n : Nat} {ps : List Nat} (hr : ps.Pairwise (· < ·)) (h : ∀ p ∈ ps, p ≤ n) : pl (highL w n ps) = hq w 0 ps := pl_setA (hq_rise w ps 0 hr) (hq_in h)
theorem lowL_lt (w : Nat) (ps : List Nat) : ∀ u ∈ lowL w ps, u < 2 ^ w := fun u h => by
  unfold lowL at h
  split at h
  · simp at h
  · obtain ⟨p, _, rfl⟩ := List.mem_map.1 h
    exact Nat.mod_lt _ (Nat.two_pow_pos _)
theorem lowL_length (w : Nat) (ps : List Nat) : (lowL w ps).length = if w = 0 then 0 else ps.length := by
  unfold lowL; split <;> simp
theorem lowL_get {w : Nat} (h : w ≠ 0) {ps : List Nat} {i : Nat} (hi : i < ps.length) : (lowL w ps).getD i 0 = ps.getD i 0 % 2 ^ w := by
  unfold lowL
  rw [if_neg h, List.getD_eq_getElem?_getD, List.getElem?_map, List.getElem?_eq_getElem hi, List.getD_eq_getElem?_getD, List.getElem?_eq_getElem hi]; rfl
/-! ### places told by their parts -/
def pF (w : Nat) (low : List Nat) (i q : Nat) : Nat := if 0 < w ∧ i < low.length then ((q - i) * 2 ^ w) ||| (low.getD i 0 % 2 ^ w) else (q - i) * 2 ^ w
/-- bits set by their parts, as far as they may be -/
def rowF (w : Nat) (low : List Nat) (M N : Nat) : List Nat → Nat → List Bool → Bool × List Bool
  | [], _, out => (true, out)
  | q :: qs, i, out => if i < M ∧ pF w low i q < N then rowF w low M N qs (i + 1) (out.set (pF w low i q) true) else (false, out)
theorem rowF_length (w : Nat) (low : List Nat) (M N : Nat) : ∀ (qs : List Nat) (i : Nat) (out : List Bool), (rowF w low M N qs i out).2.length = out.length
  | [], _, _ => rfl
  | q :: qs, i, out => by
    unfold rowF
    split
    · rw [rowF_length w low M N qs]; simp
    · rfl
theorem or_add {a b w : Nat} (h : b < 2 ^ w) : (a * 2 ^ w) ||| b = a * 2 ^ w + b := by
  rw [Nat.mul_comm, ← Nat.two_pow_add_eq_or_of_lt h]
theorem pF_at {w n : Nat} {ps : List Nat} {i : Nat} (hi : i < ps.length) (hn : ∀ p ∈ ps, p ≤ n) : pF w (lowL w ps) i ((hq w 0 ps).getD i 0) = ps.getD i 0 := by
  unfold pF
  rw [hq_get w ps 0 i hi, show ps.getD i 0 / 2 ^ w + (0 + i) - i = ps.getD i 0 / 2 ^ w by rw [Nat.zero_add, Nat.add_sub_cancel], lowL_length]
  by_cases h : w = 0
  · subst h; simp
  · rw [if_pos ⟨by omega, by rw [if_neg h]; exact hi⟩, lowL_get h hi, Nat.mod_mod, or_add (Nat.mod_lt _ (Nat.two_pow_pos _))]
    exact Nat.div_add_mod' _ _
theorem rowF_all {w n : Nat} {ps : List Nat} (hn : ∀ p ∈ ps, p < n) : ∀ (f i : Nat) (out : List Bool), i + f = ps.length →
    rowF w (lowL w ps) ps.length n ((hq w 0 ps).drop i) i out = (true, setA (ps.drop i) out)
  | 0, i, out, h => by
    rw [List.drop_of_length_le (by rw [hq_length]; omega), List.drop_of_length_le (by omega)]; rfl
  | f + 1, i, out, h => by
    have hi : i < ps.length := by omega
    have hi2 : i < (hq w 0 ps).length := by rw [hq_length]; exact hi
    have e := pF_at (w := w) (n := n) hi (fun p h => Nat.le_of_lt (hn p h))
    rw [List.drop_eq_getElem_cons hi2, List.drop_eq_getElem_cons hi]
    have e1 : (hq w 0 ps)[i] = (hq w 0 ps).getD i 0 := by rw [List.getD_eq_getElem?_getD, List.getElem?_eq_getElem hi2]; rfl
    have e2 : ps[i] = ps.getD i 0 := by rw [List.getD_eq_getElem?_getD, List.getElem?_eq_getElem hi]; rfl
    unfold rowF
    rw [e1, e, if_pos ⟨hi, by rw [← e2]; exact hn _ (List.getElem_mem hi)⟩, rowF_all hn f (i + 1) _ (by omega), e2]
    rfl
end Go.Ev
