/- Layer 19: the law of what texts need by the one ahead is true, whatever the input. -/
import Derived.Test.YtblpggndekhebaaStatsK
import Derived.Test.YtblpggndekhebaaW11
namespace Go.Proofs.Ytblpggndekhebaa
open Go Go.Ev
section
variable {R : Type}
theorem accG_sN (f : Int → Int) (g : Nat → Int) : ∀ n, accG f g n = sN (fun i => f (g i)) n
  | 0 => rfl
  | n + 1 => by simp only [accG, sN, accG_sN f g n]
/-- a logarithm, as a whole number -/
def lgI (n : Nat) : Int := ((lgN n : Nat) : Int)
/-- what a text needs -/
def needL (l : List Nat) : Int := sm (fun x => lgI l.length - lgI (l.count x)) l
theorem count_sum (l : List Nat) (hb : ∀ b ∈ l, b < 256) : sN (fun i => ((l.count i : Nat) : Int)) 256 = (l.length : Int) := by
  have h := sm_count (fun _ => 1) 256 l hb
  rw [sm_const] at h
  simp only [Int.mul_one, Int.one_mul] at h
  exact h.symm
theorem need_cnts (l : List Nat) (hb : ∀ b ∈ l, b < 256) (hl : l.length ≤ 2000) : accG (needI (allG fun i => (cnts l).getD i 0)) (fun i => (cnts l).getD i 0) 256 = needL l := by
  have ea : allG (fun i => (cnts l).getD i 0) = (l.length : Int) := by
    unfold allG
    rw [accG_sN, ← count_sum l hb]
    exact sN_congr fun i hi => cnts_get l hi
  unfold needL
  rw [ea, accG_sN, sm_count _ 256 l hb]
  refine sN_congr fun i hi => ?_
  rw [cnts_get l hi]
  have hc : l.count i ≤ l.length := List.count_le_length
  unfold needI
  by_cases h0 : l.count i = 0
  · rw [h0]; simp
  · rw [logS_nat (by omega) (by omega), logS_nat (by omega) (by omega)]
    have := lgN_mono (x := l.count i) (y := l.length) (by omega) hc (by omega)
    have e : max2 0 (((lgN l.length : Nat) : Int) - ((lgN (l.count i) : Nat) : Int)) = lgI l.length - lgI (l.count i) := by
      unfold lgI max2
      generalize lgN l.length = a at *
      generalize lgN (l.count i) = b at *
      split <;> omega
    rw [e]
theorem ok_cnts (l : List Nat) (hl : l.length ≤ 2000) : OkG (fun i => (cnts l).getD i 0) 256 := fun i hi => by
  have hc : l.count i ≤ l.length := List.count_le_length
  show 0 ≤ (cnts l).getD i 0 ∧ (cnts l).getD i 0 ≤ 65536
  rw [cnts_get l hi]; omega
theorem ent_cnts (l : List Nat) (hb : ∀ b ∈ l, b < 256) (hl : l.length ≤ 2000) : entS (cnts l) = (65535 + needL l) / 65536 ∧ 0 ≤ needL l := by
  have hk := ok_cnts l hl
  have hn := (accG_need_bound (allG fun i => (cnts l).getD i 0) hk).1
  rw [need_cnts l hb hl] at hn
  refine ⟨?_, hn⟩
  rw [entS_cnts]
  unfold entG
  rw [if_pos hk, need_cnts l hb hl]
/-! ### pairs -/
def prs (t : List Nat) : Nat → List Nat
  | 0 => []
  | i + 1 => prs t i ++ [256 * t.getD i 0 + t.getD (i + 1) 0]
theorem prs_lt {t : List Nat} (hb : ∀ b ∈ t, b < 256) : ∀ i, ∀ x ∈ prs t i, x < 65536
  | 0, x, h => by cases h
  | i + 1, x, h => by
    simp only [prs, List.mem_append, List.mem_singleton] at h
    have h1 := byte_at hb i
    have h2 := byte_at hb (i + 1)
    rcases h with h | h
    · exact prs_lt hb i x h
    · omega
theorem prs_length (t : List Nat) : ∀ i, (prs t i).length = i
  | 0 => rfl
  | i + 1 => by simp [prs, prs_length t i]
theorem nxt_prs {t : List Nat} (hb : ∀ b ∈ t, b < 256) (c s : Nat) (hs : s < 256) : ∀ i, (nxt t c i).count s = (prs t i).count (c * 256 + s)
  | 0 => rfl
  | i + 1 => by
    have h2 := byte_at hb (i + 1)
    simp only [nxt, prs, List.count_append, nxt_prs hb c s hs i, List.count_singleton]
    by_cases h : t.getD i 0 = c
    · rw [if_pos h]
      simp only [List.count_singleton]
      by_cases h3 : t.getD (i + 1) 0 = s
      · rw [if_pos (beq_iff_eq.2 h3), if_pos (beq_iff_eq.2 (by omega))]
      · rw [if_neg (fun e => h3 (beq_iff_eq.1 e)), if_neg (fun e => by have e := beq_iff_eq.1 e; omega)]
    · rw [if_neg h, if_neg (fun e => by have e := beq_iff_eq.1 e; omega)]; simp
theorem nxt_prs_len {t : List Nat} (hb : ∀ b ∈ t, b < 256) (c : Nat) : ∀ i, (nxt t c i).length = ((prs t i).map (· / 256)).count c
  | 0 => rfl
  | i + 1 => by
    have h2 := byte_at hb (i + 1)
    simp only [nxt, prs, List.length_append, List.map_append, List.count_append, nxt_prs_len hb c i, List.map_cons, List.map_nil, List.count_singleton]
    rw [show (256 * t.getD i 0 + t.getD (i + 1) 0) / 256 = t.getD i 0 by omega]
    by_cases h : t.getD i 0 = c
    · rw [if_pos h, if_pos (by simpa using h)]; rfl
    · rw [if_neg h, if_neg (by simpa using h)]; rfl
theorem prs_second {t : List Nat} (hb : ∀ b ∈ t, b < 256) : ∀ i, i + 1 ≤ t.length → (prs t i).map (· % 256) = (t.drop 1).take i
  | 0, _ => by simp [prs]
  | i + 1, h => by
    have h2 := byte_at hb (i + 1)
    simp only [prs, List.map_append, prs_second hb i (by omega), List.map_cons, List.map_nil]
    rw [show (256 * t.getD i 0 + t.getD (i + 1) 0) % 256 = t.getD (i + 1) 0 by omega]
    have := take_next (t.drop 1) (i := i) (by rw [List.length_drop]; omega)
    rw [← this]
    congr 2
    rw [List.getD_eq_getElem?_getD, List.getD_eq_getElem?_getD, List.getElem?_drop, Nat.add_comm]
theorem sN_split (F : Nat → Int) (n : Nat) : ∀ c : Nat, sN F (c * n) = sN (fun a => sN (fun s => F (a * n + s)) n) c
  | 0 => by simp [sN]
  | c + 1 => by
    have key : ∀ d, sN F (c * n + d) = sN F (c * n) + sN (fun s => F (c * n + s)) d := fun d => by
      induction d with
      | zero => simp [sN]
      | succ d ih => rw [← Nat.add_assoc]; simp only [sN]; rw [ih]; omega
    rw [Nat.succ_mul, key n, sN_split F n c]
    rfl
/-- by the one ahead, all in all -/
theorem second_sum (t : List Nat) (hb : ∀ b ∈ t, b < 256) (m : Nat) : sN (fun c => needL (nxt t c m)) 256 = sm (fun x => lgI (cA (prs t m) x) - lgI ((prs t m).count x)) (prs t m) := by
  rw [sm_count _ 65536 _ (prs_lt hb m), show 65536 = 256 * 256 from rfl, sN_split]
  refine sN_congr fun c _ => ?_
  unfold needL
  rw [sm_count _ 256 _ (nxt_byte hb c m)]
  refine sN_congr fun s hs => ?_
  rw [nxt_prs hb c s hs, nxt_prs_len hb c m]
  unfold cA
  rw [show (c * 256 + s) / 256 = c by omega]
theorem sm_len {α : Type} (f : α → Int) (c : Int) (l : List α) : sm (fun x => f x + c) l = sm f l + c * l.length := by rw [sm_add, sm_const]
theorem pairs_need (t : List Nat) (hb : ∀ b ∈ t, b < 256) (hl : t.length ≤ 2000) (h0 : t ≠ []) : sN (fun c => needL (nxt t c (t.length - 1))) 256 ≤ needL (t.drop 1) + 8000 := by
  have hp : 0 < t.length := List.length_pos_iff.2 h0
  generalize hm : t.length - 1 = m
  rw [second_sum t hb m]
  have hpl := prs_length t m
  have hlt := prs_lt hb m
  have e2 := prs_second hb m (by omega)
  rw [List.take_of_length_le (by rw [List.length_drop]; omega)] at e2
  generalize prs t m = l at *
  have hin : ∀ x ∈ l, 0 < l.count x ∧ l.count x ≤ 1073741824 := fun x hx => ⟨List.count_pos_iff.2 hx, Nat.le_trans List.count_le_length (by omega)⟩
  have hA : ∀ x ∈ l, 0 < cA l x ∧ cA l x ≤ 1073741824 := fun x hx => ⟨List.count_pos_iff.2 (List.mem_map.2 ⟨x, hx, rfl⟩), Nat.le_trans List.count_le_length (by rw [List.length_map]; omega)⟩
  have hB : ∀ x ∈ l, 0 < cB l x ∧ cB l x ≤ 1073741824 := fun x hx => ⟨List.count_pos_iff.2 (List.mem_map.2 ⟨x, hx, rfl⟩), Nat.le_trans List.count_le_length (by rw [List.length_map]; omega)⟩
  have hN : ∀ x ∈ l, 0 < l.length ∧ l.length ≤ 1073741824 := fun x hx => ⟨List.length_pos_of_mem hx, by omega⟩
  have key := lg_prod (f := cA l) (f' := cB l) (g := fun _ => l.length) (g' := fun x => l.count x) hA hN hB hin (pairs_prod l hlt)
  have key2 : sm (fun x => lgI (cA l x) + lgI (cB l x)) l ≤ sm (fun x => (lgI l.length + 2) + (lgI (l.count x) + 2)) l := by
    have a := sm_nat (fun x => lgN (cA l x) + lgN (cB l x)) l
    have b := sm_nat (fun x => (lgN l.length + 2) + (lgN (l.count x) + 2)) l
    have a' : sm (fun x => lgI (cA l x) + lgI (cB l x)) l = sm (fun x => ((lgN (cA l x) + lgN (cB l x) : Nat) : Int)) l := sm_congr fun x _ => by unfold lgI; omega
    have b' : sm (fun x => (lgI l.length + 2) + (lgI (l.count x) + 2)) l = sm (fun x => (((lgN l.length + 2) + (lgN (l.count x) + 2) : Nat) : Int)) l := sm_congr fun x _ => by unfold lgI; omega
    rw [a', b', a, b]
    exact Int.ofNat_le.2 key
  have eu : needL (t.drop 1) = sm (fun x => lgI l.length - lgI (cB l x)) l := by
    unfold needL
    rw [← e2, sm_map, List.length_map]
    rfl
  rw [eu]
  have c1 := sm_add (fun x => lgI (cA l x)) (fun x => lgI (cB l x)) l
  have c2 := sm_sub (fun x => lgI (cA l x)) (fun x => lgI (l.count x)) l
  have c3 := sm_sub (fun _ => lgI l.length) (fun x => lgI (cB l x)) l
  have c4 : sm (fun x => (lgI l.length + 2) + (lgI (l.count x) + 2)) l = sm (fun _ => lgI l.length) l + sm (fun x => lgI (l.count x)) l + 4 * l.length := by
    rw [sm_congr (g := fun x => (lgI l.length + lgI (l.count x)) + 4) fun x _ => by omega, sm_len, sm_add]
  omega
/-! ### a text, and the same without its first one -/
theorem next_pow : ∀ k, k < 2001 → (k + 1) ^ k ≤ 4 * k ^ k := by decide +kernel
theorem lg_next {k : Nat} (h0 : 0 < k) (h1 : k ≤ 2000) : lgN (k + 1) * k ≤ 2 * M16 + (lgN k + 2) * k := by
  refine (Nat.pow_le_pow_iff_right (a := 2) (by decide)).1 ?_
  have l1 := lgN_low (x := k + 1) (by omega) (by omega)
  have l2 := lgN_up (x := k) h0 (by omega)
  generalize M16 = M at *
  rw [Nat.pow_mul, Nat.pow_add, Nat.pow_mul 2 2 M, Nat.pow_mul 2 (lgN k + 2) k]
  calc (2 ^ lgN (k + 1)) ^ k ≤ ((k + 1) ^ M) ^ k := Nat.pow_le_pow_left l1 k
    _ = ((k + 1) ^ k) ^ M := by rw [← Nat.pow_mul, Nat.mul_comm, Nat.pow_mul]
    _ ≤ (4 * k ^ k) ^ M := Nat.pow_le_pow_left (next_pow k (by omega)) M
    _ = 4 ^ M * (k ^ M) ^ k := by rw [Nat.mul_pow, ← Nat.pow_mul, Nat.mul_comm k M, Nat.pow_mul]
    _ ≤ 4 ^ M * (2 ^ (lgN k + 2)) ^ k := Nat.mul_le_mul_left _ (Nat.pow_le_pow_left (Nat.le_of_lt l2) k)
theorem sm_one (a : Nat) (d : Int) : ∀ l : List Nat, sm (fun x => if x = a then d else 0) l = d * (l.count a : Int)
  | [] => by simp [sm]
  | x :: l => by
    simp only [sm, sm_one a d l, List.count_cons]
    by_cases h : x = a
    · subst h; simp [Int.mul_add]; omega
    · rw [if_neg h, if_neg (by simpa using h)]; simp
theorem need_first (a : Nat) (u : List Nat) (hl : u.length ≤ 2000) : needL u ≤ needL (a :: u) + 135072 := by
  have h1 : needL (a :: u) = (lgI (u.length + 1) - lgI ((a :: u).count a)) + sm (fun x => lgI (u.length + 1) - lgI ((a :: u).count x)) u := by
    unfold needL; simp only [sm, List.length_cons]
  have hc : (a :: u).count a = u.count a + 1 := List.count_cons_self
  have hcl : u.count a ≤ u.length := List.count_le_length
  have m1 := lgN_mono (x := u.count a + 1) (y := u.length + 1) (by omega) (by omega) (by omega)
  have h2 : sm (fun x => (lgI u.length - lgI (u.count x)) - (if x = a then lgI (u.count a + 1) - lgI (u.count a) else 0)) u ≤ sm (fun x => lgI (u.length + 1) - lgI ((a :: u).count x)) u := by
    refine sm_le fun x hx => ?_
    have hp := List.length_pos_of_mem hx
    have m2 := lgN_mono (x := u.length) (y := u.length + 1) hp (by omega) (by omega)
    by_cases h : x = a
    · subst h
      rw [if_pos rfl, hc]
      unfold lgI; omega
    · have e : (a :: u).count x = u.count x := by rw [List.count_cons, if_neg (by simpa using fun e => h e.symm), Nat.add_zero]
      rw [if_neg h, e]
      unfold lgI; omega
  rw [sm_sub, sm_one] at h2
  have h3 : (lgI (u.count a + 1) - lgI (u.count a)) * (u.count a : Int) ≤ 135072 := by
    by_cases h0 : u.count a = 0
    · rw [h0]; simp
    · have := lg_next (k := u.count a) (by omega) (by omega)
      generalize u.count a = k at *
      unfold lgI
      rw [Int.sub_mul, ← Int.natCast_mul, ← Int.natCast_mul]
      rw [Nat.add_mul, M16_eq] at this
      generalize lgN (k + 1) * k = p at *
      generalize lgN k * k = q at *
      omega
  rw [h1, hc]
  have e : sm (fun x => lgI u.length - lgI (u.count x)) u = needL u := rfl
  rw [e] at h2
  unfold lgI at *
  omega
/-! ### the law -/
theorem secG_sN (t : List Nat) (m : Nat) : ∀ c, secG t m c = sN (fun a => entS (cnts (nxt t a m))) c
  | 0 => rfl
  | c + 1 => by simp only [secG, sN, secG_sN t m c]
theorem nxt_none {t : List Nat} {c : Nat} : ∀ i, i ≤ t.length → t.count c = 0 → nxt t c i = []
  | 0, _, _ => rfl
  | i + 1, h, h0 => by
    have : t.getD i 0 ≠ c := fun e => by
      have hm : c ∈ t := by rw [← e, List.getD_eq_getElem?_getD, List.getElem?_eq_getElem (by omega)]; exact List.getElem_mem _
      have := List.count_pos_iff.2 hm
      omega
    simp only [nxt, nxt_none i (by omega) h0, if_neg this, List.append_nil]
theorem context (t : List Nat) (hb : ∀ b ∈ t, b < 256) (hl : t.length ≤ 2000) : secS t ≤ entS (cnts t) + distS (cnts t) + 2 := by
  obtain ⟨e1, e2⟩ := ent_cnts t hb hl
  have hd : distS (cnts t) = sN (fun i => posI ((t.count i : Nat) : Int)) 256 := by
    unfold distS
    rw [if_pos (cnts_length t), accG_sN]
    exact sN_congr fun i hi => by rw [cnts_get t hi]
  have hd0 : 0 ≤ distS (cnts t) := by
    rw [hd, ← sN_zero 256]
    exact sN_le fun i _ => (posI_le _).1
  have hs : 65536 * secS t ≤ sN (fun c => needL (nxt t c (t.length - 1))) 256 + 65535 * distS (cnts t) := by
    unfold secS
    rw [if_neg (by omega), secG_sN, hd, ← sN_mul, ← sN_mul, ← sN_add]
    refine sN_le fun c _ => ?_
    have hlen := nxt_len t c (t.length - 1)
    obtain ⟨a1, a2⟩ := ent_cnts (nxt t c (t.length - 1)) (nxt_byte hb c _) (by omega)
    by_cases h0 : t.count c = 0
    · rw [nxt_none _ (by omega) h0, entS_none, h0]
      have : needL [] = 0 := rfl
      have := posI_le ((0 : Nat) : Int)
      omega
    · have : posI ((t.count c : Nat) : Int) = 1 := by unfold posI; rw [if_pos (by omega)]
      rw [this, a1]; omega
  cases t with
  | nil =>
    have : secS [] = 0 := by
      unfold secS
      rw [if_neg (by decide), secG_sN, show ([] : List Nat).length - 1 = 0 from rfl, sN_congr (f := fun a => entS (cnts (nxt [] a 0))) (g := fun _ => 0) (fun _ _ => entS_none), sN_zero]
    rw [this, e1]; omega
  | cons a u =>
    have h1 := pairs_need (a :: u) hb hl (by simp)
    have h2 := need_first a u (by simp only [List.length_cons] at hl; omega)
    rw [show List.drop 1 (a :: u) = u from rfl] at h1
    omega
theorem StatsContext_true (t : List Nat) (hb : ∀ b ∈ t, b < 256) (K : Bool → Option R) : haystacklaw19_StatsContext (ci t) K = K true := by
  rw [haystacklaw19_StatsContext_unf]; unfold haystacklaw19_StatsContext_B
  rw [ci_length]
  by_cases h1 : 2000 < t.length
  · rw [sel_pos (by omega), heads19_spec]
  have hc := context t hb (by omega)
  have hs : 0 ≤ secS t := by
    unfold secS
    split
    · omega
    · exact (secG_bound _ _ _).1
  have he : 0 ≤ entS (cnts t) ∧ entS (cnts t) ≤ 1073741824 := by rw [entS_cnts]; exact entG_bound _
  have hd : 0 ≤ distS (cnts t) ∧ distS (cnts t) ≤ 256 := by
    unfold distS
    rw [if_pos (cnts_length t)]
    have := accG_bound (f := posI) (g := fun i => (cnts t).getD i 0) (B := 1) 256 fun i _ => posI_le _
    omega
  rw [sel_neg (by omega), stats_Counts_spec t hb (by omega), stats_Second_spec t hb (by omega), stats_Entropy_spec, stats_Distinct_spec _ (by rw [cnts_length]; decide), addW_i64 (a := entS (cnts t)) (by omega) (by omega), addW_i64 (by omega) (by omega), sel_pos (by omega), stats_Second_spec t hb (by omega), sel_pos (by omega), heads19_spec]
abbrev StatsContext_pas : List Pa := [.one (.ints .u8)]
theorem StatsContext_law : ∀ vs, pasHas StatsContext_pas vs → sp3 vs AV some = some (.bool true) := by
  rintro vs ⟨_, _, rfl, ⟨xs, rfl, _, hx⟩, rfl⟩
  obtain ⟨t, rfl, hb⟩ := ci_u8 hx
  exact StatsContext_true t hb _
end
end Go.Proofs.Ytblpggndekhebaa
