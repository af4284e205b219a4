/- Means of numbers; what texts need by the one ahead, against what they need without (no program). -/
import Derived.Test.YtblpggndekhebaaW10
namespace Go.Ev
open Go
/-! ### sums and products -/
def sm {α : Type} (f : α → Int) : List α → Int
  | [] => 0
  | x :: l => f x + sm f l
def sN (f : Nat → Int) : Nat → Int
  | 0 => 0
  | n + 1 => sN f n + f n
def pd {α : Type} (f : α → Nat) : List α → Nat
  | [] => 1
  | x :: l => f x * pd f l
def sq {α : Type} (f : α → Nat) : List α → Nat
  | [] => 0
  | x :: l => f x + sq f l
theorem sm_congr {α : Type} {f g : α → Int} : ∀ {l : List α}, (∀ x ∈ l, f x = g x) → sm f l = sm g l
  | [], _ => rfl
  | x :: l, h => by simp only [sm, h x List.mem_cons_self, sm_congr fun y hy => h y (List.mem_cons_of_mem _ hy)]
theorem sm_le {α : Type} {f g : α → Int} : ∀ {l : List α}, (∀ x ∈ l, f x ≤ g x) → sm f l ≤ sm g l
  | [], _ => Int.le_refl _
  | x :: l, h => by
    have h1 := h x List.mem_cons_self
    have h2 := sm_le (l := l) fun y hy => h y (List.mem_cons_of_mem _ hy)
    simp only [sm]; omega
theorem sm_add {α : Type} (f g : α → Int) : ∀ l : List α, sm (fun x => f x + g x) l = sm f l + sm g l
  | [] => rfl
  | x :: l => by simp only [sm, sm_add f g l]; omega
theorem sm_sub {α : Type} (f g : α → Int) : ∀ l : List α, sm (fun x => f x - g x) l = sm f l - sm g l
  | [] => rfl
  | x :: l => by simp only [sm, sm_sub f g l]; omega
theorem sm_const {α : Type} (c : Int) : ∀ l : List α, sm (fun _ => c) l = c * l.length
  | [] => by simp [sm]
  | x :: l => by simp only [sm, sm_const c l, List.length_cons]; rw [Int.natCast_add, Int.mul_add]; omega
theorem sm_nat {α : Type} (f : α → Nat) : ∀ l : List α, sm (fun x => (f x : Int)) l = (sq f l : Int)
  | [] => rfl
  | x :: l => by simp only [sm, sq, sm_nat f l]; omega
theorem sm_map {α β : Type} (f : β → Int) (g : α → β) : ∀ l : List α, sm f (l.map g) = sm (fun x => f (g x)) l
  | [] => rfl
  | x :: l => by simp only [List.map_cons, sm, sm_map f g l]
theorem sN_congr {f g : Nat → Int} : ∀ {n : Nat}, (∀ i, i < n → f i = g i) → sN f n = sN g n
  | 0, _ => rfl
  | n + 1, h => by
    have h1 := sN_congr (n := n) fun i hi => h i (by omega)
    simp only [sN, h n (by omega), h1]
theorem sN_le {f g : Nat → Int} : ∀ {n : Nat}, (∀ i, i < n → f i ≤ g i) → sN f n ≤ sN g n
  | 0, _ => Int.le_refl _
  | n + 1, h => by
    have h1 := sN_le (n := n) fun i hi => h i (by omega)
    have h2 := h n (by omega)
    simp only [sN]; omega
theorem sN_add (f g : Nat → Int) : ∀ n : Nat, sN (fun x => f x + g x) n = sN f n + sN g n
  | 0 => rfl
  | n + 1 => by simp only [sN, sN_add f g n]; omega
theorem sN_mul (c : Int) (f : Nat → Int) : ∀ n : Nat, sN (fun x => c * f x) n = c * sN f n
  | 0 => by simp [sN]
  | n + 1 => by simp only [sN, sN_mul c f n]; rw [Int.mul_add]
theorem sN_zero : ∀ n : Nat, sN (fun _ => 0) n = 0
  | 0 => rfl
  | n + 1 => by simp only [sN, sN_zero n]; rfl
theorem sN_one (f : Nat → Int) (x : Nat) : ∀ n : Nat, sN (fun k => (if x = k then 1 else 0) * f k) n = if x < n then f x else 0
  | 0 => rfl
  | n + 1 => by
    simp only [sN, sN_one f x n]
    by_cases h : x = n
    · subst h; simp
    · by_cases h2 : x < n
      · rw [if_pos h2, if_neg h, if_pos (by omega)]; omega
      · rw [if_neg h2, if_neg h, if_neg (by omega)]; omega
/-- one behind the other, or by how often each stands -/
theorem sm_count (f : Nat → Int) (n : Nat) : ∀ l : List Nat, (∀ x ∈ l, x < n) → sm f l = sN (fun k => ((l.count k : Nat) : Int) * f k) n
  | [], _ => by
    simp only [sm, List.count_nil]
    rw [sN_congr (g := fun _ => 0) (fun i _ => by simp), sN_zero]
  | x :: l, h => by
    have h1 := sm_count f n l fun y hy => h y (List.mem_cons_of_mem _ hy)
    have h2 := sN_one f x n
    rw [if_pos (h x List.mem_cons_self)] at h2
    simp only [sm, h1, ← h2]
    rw [← sN_add]
    refine sN_congr fun k _ => ?_
    rw [List.count_cons, Int.natCast_add, Int.add_mul]
    by_cases e : x = k
    · subst e; simp; omega
    · have e2 : (x == k) = false := by simpa using e
      rw [e2, if_neg e]; simp
theorem sN_rect (A B : Nat → Int) (n : Nat) : ∀ c : Nat, sN (fun k => A (k / n) * B (k % n)) (c * n) = sN A c * sN B n
  | 0 => by simp [sN]
  | c + 1 => by
    have key : ∀ d, d ≤ n → sN (fun k => A (k / n) * B (k % n)) (c * n + d) = sN A c * sN B n + A c * sN B d := fun d => by
      induction d with
      | zero => intro _; rw [Nat.add_zero, sN_rect A B n c]; simp [sN]
      | succ d ih =>
        intro hd
        have e1 : (c * n + d) / n = c := by rw [Nat.mul_comm, Nat.mul_add_div (by omega), Nat.div_eq_of_lt (by omega), Nat.add_zero]
        have e2 : (c * n + d) % n = d := by rw [Nat.mul_comm, Nat.mul_add_mod, Nat.mod_eq_of_lt (by omega)]
        rw [← Nat.add_assoc]
        simp only [sN]
        rw [ih (by omega), e1, e2, Int.mul_add]; omega
    rw [Nat.succ_mul, key n (Nat.le_refl _)]
    simp only [sN]
    rw [Int.add_mul]
/-! ### the mean by sums is no less than that by products -/
theorem bern2 (x y : Nat) : ∀ k : Nat, (k + 1) * (y ^ k * x) ≤ x ^ (k + 1) + k * y ^ (k + 1)
  | 0 => by simp
  | k + 1 => by
    have h := Nat.mul_le_mul_left x (bern2 x y k)
    have h2 : 2 * (x * y) ≤ x * x + y * y := by
      rcases Nat.le_total x y with h | h
      · obtain ⟨d, rfl⟩ := Nat.exists_eq_add_of_le h
        simp only [Nat.mul_add, Nat.add_mul, Nat.mul_comm d x]; omega
      · obtain ⟨d, rfl⟩ := Nat.exists_eq_add_of_le h
        simp only [Nat.mul_add, Nat.add_mul, Nat.mul_comm d y]; omega
    have h3 := Nat.mul_le_mul_left ((k + 1) * y ^ k) h2
    have e1 : x * ((k + 1) * (y ^ k * x)) = (k + 1) * y ^ k * (x * x) := by ac_rfl
    have e2 : x * (x ^ (k + 1) + k * y ^ (k + 1)) = x ^ (k + 1 + 1) + k * (y ^ k * y * x) := by rw [Nat.mul_add, Nat.pow_succ x (k + 1), Nat.pow_succ y k]; congr 1 <;> ac_rfl
    have e3 : (k + 1) * y ^ k * (2 * (x * y)) = 2 * (k * (y ^ k * y * x) + (y ^ k * y * x)) := by rw [Nat.add_mul k 1, Nat.one_mul, Nat.add_mul]; rw [Nat.mul_add]; congr 1 <;> ac_rfl
    have e4 : (k + 1) * y ^ k * (x * x + y * y) = (k + 1) * y ^ k * (x * x) + (k + 1) * (y ^ k * y * y) := by rw [Nat.mul_add]; congr 1; ac_rfl
    have e5 : (k + 1 + 1) * (y ^ (k + 1) * x) = k * (y ^ k * y * x) + 2 * (y ^ k * y * x) := by rw [Nat.pow_succ, show k + 1 + 1 = k + 2 from rfl, Nat.add_mul]
    have e6 : (k + 1) * y ^ (k + 1 + 1) = (k + 1) * (y ^ k * y * y) := by rw [Nat.pow_succ, Nat.pow_succ]
    rw [e1, e2] at h
    rw [e3, e4] at h3
    rw [e5, e6]
    omega
theorem amgm {α : Type} (f : α → Nat) : ∀ l : List α, l.length ^ l.length * pd f l ≤ sq f l ^ l.length
  | [] => by simp [pd]
  | x :: l => by
    have ih := amgm f l
    simp only [pd, sq, List.length_cons]
    generalize hk : l.length = k at *
    generalize sq f l = S at *
    generalize pd f l = p at *
    generalize f x = a
    by_cases k0 : k = 0
    · subst k0
      have hl : l = [] := List.eq_nil_of_length_eq_zero hk
      simp only [Nat.pow_zero, Nat.one_mul] at ih
      simp only [Nat.zero_add, Nat.pow_one, Nat.one_mul]
      have := Nat.mul_le_mul_left a ih
      omega
    -- (k+1)(S + ..): with X = k (S + a), Y = (k + 1) S
    have hb := bern2 (k * (S + a)) ((k + 1) * S) k
    -- it gives (k (S+a))^(k+1) >= ((k+1) S)^k ((k+1) k (S + a) - k (k+1) S) = ((k+1) S)^k (k+1) k a
    have e1 : (k + 1) * (((k + 1) * S) ^ k * (k * (S + a))) = k * ((k + 1) * S) ^ (k + 1) + ((k + 1) * S) ^ k * ((k + 1) * (k * a)) := by
      rw [Nat.pow_succ, Nat.mul_add k S a]
      have : (k + 1) * (((k + 1) * S) ^ k * (k * S + k * a)) = (k + 1) * ((k + 1) * S) ^ k * (k * S) + (k + 1) * ((k + 1) * S) ^ k * (k * a) := by rw [← Nat.mul_add ((k + 1) * ((k + 1) * S) ^ k), Nat.mul_assoc]
      rw [this]
      congr 1 <;> ac_rfl
    rw [e1] at hb
    have hb2 : ((k + 1) * S) ^ k * ((k + 1) * (k * a)) ≤ (k * (S + a)) ^ (k + 1) := by omega
    -- k^(k+1) * goal
    have hkp : 0 < k ^ (k + 1) := Nat.pow_pos (by omega)
    refine Nat.le_of_mul_le_mul_left (c := k ^ (k + 1)) ?_ hkp
    have e2 : k ^ (k + 1) * (a + S) ^ (k + 1) = (k * (S + a)) ^ (k + 1) := by rw [Nat.add_comm a S, ← Nat.mul_pow]
    rw [e2]
    refine Nat.le_trans ?_ hb2
    have e3 : k ^ (k + 1) * ((k + 1) ^ (k + 1) * (a * p)) = (k + 1) ^ k * ((k + 1) * (k * a)) * (k ^ k * p) := by rw [Nat.pow_succ k, Nat.pow_succ (k + 1)]; ac_rfl
    have e4 : ((k + 1) * S) ^ k * ((k + 1) * (k * a)) = (k + 1) ^ k * ((k + 1) * (k * a)) * S ^ k := by rw [Nat.mul_pow]; ac_rfl
    rw [e3, e4]
    exact Nat.mul_le_mul_left _ ih
/-- the mean at most D: the product at most D for each -/
theorem amgm_le {α : Type} (f : α → Nat) (l : List α) (D : Nat) (h : sq f l ≤ l.length * D) : pd f l ≤ D ^ l.length := by
  by_cases h0 : l.length = 0
  · have hl : l = [] := List.eq_nil_of_length_eq_zero h0
    subst hl; simp [pd]
  have h1 := amgm f l
  have h2 := Nat.pow_le_pow_left h l.length
  rw [Nat.mul_pow] at h2
  exact Nat.le_of_mul_le_mul_left (Nat.le_trans h1 h2) (Nat.pow_pos (by omega))
theorem pd_mul {α : Type} (f g : α → Nat) : ∀ l : List α, pd (fun x => f x * g x) l = pd f l * pd g l
  | [] => rfl
  | x :: l => by simp only [pd, pd_mul f g l]; ac_rfl
theorem pd_const {α : Type} (c : Nat) : ∀ l : List α, pd (fun _ => c) l = c ^ l.length
  | [] => rfl
  | x :: l => by simp only [pd, pd_const c l, List.length_cons]; rw [Nat.pow_succ, Nat.mul_comm]
theorem pd_pow {α : Type} (f : α → Nat) (M : Nat) : ∀ l : List α, pd (fun x => f x ^ M) l = pd f l ^ M
  | [] => by simp [pd]
  | x :: l => by simp only [pd, pd_pow f M l, Nat.mul_pow]
theorem pd_two {α : Type} (f : α → Nat) : ∀ l : List α, pd (fun x => 2 ^ f x) l = 2 ^ sq f l
  | [] => rfl
  | x :: l => by simp only [pd, sq, pd_two f l, Nat.pow_add]
theorem pd_le {α : Type} {f g : α → Nat} : ∀ {l : List α}, (∀ x ∈ l, f x ≤ g x) → pd f l ≤ pd g l
  | [], _ => Nat.le_refl _
  | x :: l, h => Nat.mul_le_mul (h x List.mem_cons_self) (pd_le fun y hy => h y (List.mem_cons_of_mem _ hy))
theorem pd_congr {α : Type} {f g : α → Nat} : ∀ {l : List α}, (∀ x ∈ l, f x = g x) → pd f l = pd g l
  | [], _ => rfl
  | x :: l, h => by simp only [pd, h x List.mem_cons_self, pd_congr fun y hy => h y (List.mem_cons_of_mem _ hy)]
theorem pd_pos {α : Type} {f : α → Nat} : ∀ {l : List α}, (∀ x ∈ l, 0 < f x) → 0 < pd f l
  | [], _ => Nat.one_pos
  | x :: l, h => Nat.mul_pos (h x List.mem_cons_self) (pd_pos fun y hy => h y (List.mem_cons_of_mem _ hy))
theorem sq_congr {α : Type} {f g : α → Nat} : ∀ {l : List α}, (∀ x ∈ l, f x = g x) → sq f l = sq g l
  | [], _ => rfl
  | x :: l, h => by simp only [sq, h x List.mem_cons_self, sq_congr fun y hy => h y (List.mem_cons_of_mem _ hy)]
/-- logarithms of two products -/
theorem lg_prod {α : Type} {f g : α → Nat} {l : List α} (hf : ∀ x ∈ l, 0 < f x ∧ f x ≤ 1073741824) (hg : ∀ x ∈ l, 0 < g x ∧ g x ≤ 1073741824) (f' g' : α → Nat) (hf' : ∀ x ∈ l, 0 < f' x ∧ f' x ≤ 1073741824) (hg' : ∀ x ∈ l, 0 < g' x ∧ g' x ≤ 1073741824)
    (h : pd (fun x => f x * f' x) l ≤ pd (fun x => g x * g' x) l) : sq (fun x => lgN (f x) + lgN (f' x)) l ≤ sq (fun x => (lgN (g x) + 2) + (lgN (g' x) + 2)) l := by
  have h1 : 2 ^ sq (fun x => lgN (f x) + lgN (f' x)) l ≤ 2 ^ sq (fun x => (lgN (g x) + 2) + (lgN (g' x) + 2)) l := by
    rw [← pd_two, ← pd_two]
    refine Nat.le_trans (pd_le (g := fun x => (f x * f' x) ^ M16) fun x hx => ?_) (Nat.le_trans ?_ (pd_le (f := fun x => (g x * g' x) ^ M16) fun x hx => ?_))
    · rw [Nat.pow_add, Nat.mul_pow]
      exact Nat.mul_le_mul (lgN_low (hf x hx).1 (hf x hx).2) (lgN_low (hf' x hx).1 (hf' x hx).2)
    · rw [pd_pow, pd_pow]
      exact Nat.pow_le_pow_left h _
    · rw [Nat.pow_add _ (lgN (g x) + 2), Nat.mul_pow]
      exact Nat.mul_le_mul (Nat.le_of_lt (lgN_up (hg x hx).1 (hg x hx).2)) (Nat.le_of_lt (lgN_up (hg' x hx).1 (hg' x hx).2))
  exact (Nat.pow_le_pow_iff_right (by decide)).1 h1
/-! ### pairs -/
theorem fact_dvd : ∀ {n k : Nat}, 0 < k → k ≤ n → ∃ d, d * k = (List.range n).foldl (fun p i => p * (i + 1)) 1
  | 0, k, h, h2 => by omega
  | n + 1, k, h, h2 => by
    rw [List.range_succ, List.foldl_append]
    simp only [List.foldl_cons, List.foldl_nil]
    by_cases e : k = n + 1
    · subst e; exact ⟨_, rfl⟩
    · obtain ⟨d, hd⟩ := fact_dvd (n := n) h (by omega)
      exact ⟨d * (n + 1), by rw [← hd]; ac_rfl⟩
theorem fact_pos : ∀ n : Nat, 0 < (List.range n).foldl (fun p i => p * (i + 1)) 1
  | 0 => Nat.one_pos
  | n + 1 => by
    rw [List.range_succ, List.foldl_append]
    exact Nat.mul_pos (fact_pos n) (by omega)
/-- how often the first, the second, both -/
def cA (l : List Nat) (x : Nat) : Nat := (l.map (· / 256)).count (x / 256)
def cB (l : List Nat) (x : Nat) : Nat := (l.map (· % 256)).count (x % 256)
theorem pairs_prod (l : List Nat) (h : ∀ x ∈ l, x < 65536) : pd (fun x => cA l x * cB l x) l ≤ pd (fun x => l.length * l.count x) l := by
  obtain ⟨D, hD⟩ : ∃ D, D = (List.range l.length).foldl (fun p i => p * (i + 1)) 1 := ⟨_, rfl⟩
  have hD0 : 0 < D := by rw [hD]; exact fact_pos _
  have hdv : ∀ x ∈ l, D / l.count x * l.count x = D := fun x hx => by
    obtain ⟨d, hd⟩ := fact_dvd (n := l.length) (List.count_pos_iff.2 hx) List.count_le_length
    rw [hD, ← hd, Nat.mul_div_cancel _ (List.count_pos_iff.2 hx)]
  -- the sum of all (count of first) (count of second) D / (count of both)
  have hsum : sq (fun x => cA l x * cB l x * (D / l.count x)) l ≤ l.length * (l.length * D) := by
    have e1 : ((sq (fun x => cA l x * cB l x * (D / l.count x)) l : Nat) : Int) = sN (fun k => ((l.count k : Nat) : Int) * ((cA l k * cB l k * (D / l.count k) : Nat) : Int)) 65536 := by
      rw [← sm_nat, sm_count _ 65536 l h]
    have e2 : sN (fun k => ((l.count k : Nat) : Int) * ((cA l k * cB l k * (D / l.count k) : Nat) : Int)) 65536 ≤ sN (fun k => (D : Int) * ((((l.map (· / 256)).count (k / 256) : Nat) : Int) * (((l.map (· % 256)).count (k % 256) : Nat) : Int))) 65536 := by
      refine sN_le fun k _ => ?_
      rw [← Int.natCast_mul, ← Int.natCast_mul, ← Int.natCast_mul]
      refine Int.ofNat_le.2 ?_
      have e : l.count k * (cA l k * cB l k * (D / l.count k)) = cA l k * cB l k * (D / l.count k * l.count k) := by ac_rfl
      have e' : D * ((l.map (· / 256)).count (k / 256) * (l.map (· % 256)).count (k % 256)) = cA l k * cB l k * D := by unfold cA cB; ac_rfl
      rw [e, e']
      exact Nat.mul_le_mul_left _ (Nat.div_mul_le_self _ _)
    have e3 : sN (fun k => (D : Int) * ((((l.map (· / 256)).count (k / 256) : Nat) : Int) * (((l.map (· % 256)).count (k % 256) : Nat) : Int))) 65536 = (D : Int) * ((l.length : Int) * (l.length : Int)) := by
      rw [sN_mul, show 65536 = 256 * 256 from rfl, sN_rect (fun a => (((l.map (· / 256)).count a : Nat) : Int)) (fun a => (((l.map (· % 256)).count a : Nat) : Int))]
      have a1 := sm_count (fun _ => 1) 256 (l.map (· / 256)) (fun x hx => by
        obtain ⟨y, hy, rfl⟩ := List.mem_map.1 hx
        have := h y hy; omega)
      have a2 := sm_count (fun _ => 1) 256 (l.map (· % 256)) (fun x hx => by
        obtain ⟨y, hy, rfl⟩ := List.mem_map.1 hx
        omega)
      rw [sm_const, List.length_map] at a1 a2
      simp only [Int.mul_one, Int.one_mul] at a1 a2
      rw [← a1, ← a2]
    have := Int.le_trans (Int.le_of_eq e1) (Int.le_trans e2 (Int.le_of_eq e3))
    rw [← Int.natCast_mul, ← Int.natCast_mul] at this
    have := Int.ofNat_le.1 this
    have e : l.length * (l.length * D) = D * (l.length * l.length) := by ac_rfl
    omega
  have hm := amgm_le _ l _ hsum
  -- times all counts of both
  have h2 := Nat.mul_le_mul_right (pd (fun x => l.count x) l) hm
  rw [← pd_mul] at h2
  have e1 : pd (fun x => cA l x * cB l x * (D / l.count x) * l.count x) l = pd (fun x => cA l x * cB l x) l * D ^ l.length := by
    rw [pd_congr (g := fun x => cA l x * cB l x * D) fun x hx => by rw [Nat.mul_assoc, hdv x hx], pd_mul, pd_const]
  have e2 : (l.length * D) ^ l.length * pd (fun x => l.count x) l = pd (fun x => l.length * l.count x) l * D ^ l.length := by
    rw [pd_mul, pd_const, Nat.mul_pow]; ac_rfl
  rw [e1, e2] at h2
  exact Nat.le_of_mul_le_mul_right h2 (Nat.pow_pos hD0)
end Go.Ev
