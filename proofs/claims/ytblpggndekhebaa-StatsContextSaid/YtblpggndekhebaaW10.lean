/- What logarithms by squaring are: 2 to the power of one is at most the number to the power of 65536, and not much below it (no program). -/
import Derived.Test.YtblpggndekhebaaWA
namespace Go.Ev
open Go
theorem lg_sq_lo {m : Nat} (h : LgIn m) : 2147483648 * (2 ^ lgB m * lgM m) ≤ m * m := by
  have h1 := lg_q h
  have h2 : 2147483648 * (m * m / 2147483648) ≤ m * m := Nat.mul_div_le _ _
  unfold lgB lgM
  split <;> omega
theorem lg_sq_hi {m : Nat} (h : LgIn m) : m * m * 2147483648 ≤ 2147483648 * (2 ^ lgB m * lgM m) * 2147483649 := by
  have h1 := lg_q h
  have h2 := Nat.div_add_mod (m * m) 2147483648
  have h3 := Nat.mod_lt (m * m) (show 2147483648 > 0 by decide)
  unfold lgB lgM
  generalize m * m = z at *
  split <;> omega
theorem lgGo_low : ∀ (k n m X : Nat), LgIn m → 2 ^ n * m ≤ X * 2147483648 → 2 ^ lgGo k n m ≤ X ^ (2 ^ k)
  | 0, n, m, X, hm, h => by
    have h1 : 2 ^ n * 2147483648 ≤ X * 2147483648 := Nat.le_trans (Nat.mul_le_mul_left _ hm.1) h
    simp only [lgGo, Nat.pow_zero, Nat.pow_one]
    exact Nat.le_of_mul_le_mul_right h1 (by decide)
  | k + 1, n, m, X, hm, h => by
    simp only [lgGo]
    have e : X ^ (2 ^ (k + 1)) = (X * X) ^ (2 ^ k) := by rw [Nat.pow_succ 2 k, Nat.mul_comm, Nat.pow_mul]; congr 1; exact Nat.pow_two X
    rw [e]
    refine lgGo_low k _ _ _ (lgM_in hm) ?_
    have h2 := Nat.mul_le_mul h h
    have h3 := Nat.mul_le_mul_left (2 ^ n * 2 ^ n) (lg_sq_lo hm)
    have e1 : 2 ^ n * m * (2 ^ n * m) = 2 ^ n * 2 ^ n * (m * m) := by ac_rfl
    have e2 : X * 2147483648 * (X * 2147483648) = 2147483648 * (X * X * 2147483648) := by ac_rfl
    have e3 : 2 ^ n * 2 ^ n * (2147483648 * (2 ^ lgB m * lgM m)) = 2147483648 * (2 ^ (2 * n + lgB m) * lgM m) := by rw [Nat.pow_add, Nat.two_mul, Nat.pow_add]; ac_rfl
    rw [e1, e2] at h2
    rw [e3] at h3
    exact Nat.le_of_mul_le_mul_left (Nat.le_trans h3 h2) (by decide)
def lgE : Nat → Nat → Nat
  | 0, e => e
  | k + 1, e => lgE k (2 * e + 1)
theorem lgE_eq : ∀ k e, lgE k e + 1 = 2 ^ k * (e + 1)
  | 0, e => by simp [lgE]
  | k + 1, e => by
    simp only [lgE, lgE_eq k]; rw [Nat.pow_succ, Nat.mul_assoc, show 2 * e + 1 + 1 = 2 * (e + 1) by omega]
theorem lgGo_up_ (D G : Nat) (hD : 0 < D) (hG : 0 < G) (lo : ∀ m, LgIn m → m < 2 * D) (hi : ∀ m, LgIn m → m * m * D ≤ D * (2 ^ lgB m * lgM m) * G) : ∀ (k n m X e : Nat), LgIn m → X * D * D ^ e ≤ 2 ^ n * m * G ^ e → X ^ (2 ^ k) * D ^ lgE k e < 2 ^ (lgGo k n m + 1) * G ^ lgE k e
  | 0, n, m, X, e, hm, h => by
    simp only [lgGo, lgE, Nat.pow_zero, Nat.pow_one]
    have hp : 0 < 2 ^ n * G ^ e := Nat.mul_pos (Nat.two_pow_pos n) (Nat.pow_pos hG)
    have h1 : 2 ^ n * m * G ^ e < 2 ^ (n + 1) * G ^ e * D := by
      have := Nat.mul_lt_mul_of_pos_left (lo m hm) hp
      rw [Nat.pow_succ]
      have e1 : 2 ^ n * m * G ^ e = 2 ^ n * G ^ e * m := by ac_rfl
      have e2 : 2 ^ n * 2 * G ^ e * D = 2 ^ n * G ^ e * (2 * D) := by ac_rfl
      rw [e1, e2]; exact this
    have h2 := Nat.lt_of_le_of_lt h h1
    have e1 : X * D * D ^ e = X * D ^ e * D := by ac_rfl
    rw [e1] at h2
    exact Nat.lt_of_mul_lt_mul_right h2
  | k + 1, n, m, X, e, hm, h => by
    simp only [lgGo, lgE]
    have e0 : X ^ (2 ^ (k + 1)) = (X * X) ^ (2 ^ k) := by rw [Nat.pow_succ 2 k, Nat.mul_comm, Nat.pow_mul]; congr 1; exact Nat.pow_two X
    rw [e0]
    refine lgGo_up_ D G hD hG lo hi k _ _ _ _ (lgM_in hm) ?_
    have h2 := Nat.mul_le_mul h h
    have h3 := Nat.mul_le_mul_left (2 ^ n * 2 ^ n * (G ^ e * G ^ e)) (hi m hm)
    have e1 : X * D * D ^ e * (X * D * D ^ e) * D = D * (X * X * D * D ^ (2 * e + 1)) := by
      rw [Nat.pow_succ, Nat.two_mul, Nat.pow_add]; ac_rfl
    have e2 : 2 ^ n * m * G ^ e * (2 ^ n * m * G ^ e) * D = 2 ^ n * 2 ^ n * (G ^ e * G ^ e) * (m * m * D) := by ac_rfl
    have e3 : 2 ^ n * 2 ^ n * (G ^ e * G ^ e) * (D * (2 ^ lgB m * lgM m) * G) = D * (2 ^ (2 * n + lgB m) * lgM m * G ^ (2 * e + 1)) := by
      rw [Nat.pow_add, Nat.pow_succ, Nat.two_mul, Nat.two_mul, Nat.pow_add, Nat.pow_add]; ac_rfl
    have h4 := Nat.mul_le_mul_right D h2
    rw [e1, e2] at h4
    rw [e3] at h3
    exact Nat.le_of_mul_le_mul_left (Nat.le_trans h4 h3) hD
theorem lgGo_up (k n m X e : Nat) (hm : LgIn m) (h : X * 2147483648 * 2147483648 ^ e ≤ 2 ^ n * m * 2147483649 ^ e) : X ^ (2 ^ k) * 2147483648 ^ lgE k e < 2 ^ (lgGo k n m + 1) * 2147483649 ^ lgE k e :=
  lgGo_up_ 2147483648 2147483649 (by decide) (by decide) (fun m h => h.2) (fun m h => lg_sq_hi h) k n m X e hm h
/-- Bernoulli -/
theorem bern (y d : Nat) : ∀ k : Nat, (y + d) ^ k * (y + d) ≤ (y ^ k + 0) * (y + d) + k * d * (y + d) ^ k
  | 0 => by simp
  | k + 1 => by
    have h := bern y d k
    have h2 := Nat.mul_le_mul_left y h
    rw [Nat.pow_succ, Nat.pow_succ]
    have e1 : (y + d) ^ k * (y + d) * (y + d) = y * ((y + d) ^ k * (y + d)) + d * (y + d) ^ k * (y + d) := by rw [Nat.mul_comm _ (y + d), Nat.add_mul]; ac_rfl
    have e2 : y * ((y ^ k + 0) * (y + d) + k * d * (y + d) ^ k) = (y ^ k * y + 0) * (y + d) + k * d * (y + d) ^ k * y := by rw [Nat.mul_add]; simp only [Nat.add_zero]; ac_rfl
    have e3 : (k + 1) * d * ((y + d) ^ k * (y + d)) = k * d * (y + d) ^ k * y + k * d * (y + d) ^ k * d + d * (y + d) ^ k * (y + d) := by rw [Nat.add_mul, Nat.add_mul, Nat.one_mul, ← Nat.mul_assoc (k * d), Nat.mul_add, Nat.mul_assoc d]
    rw [e1, e3]
    rw [e2] at h2
    omega
theorem lg_err (e : Nat) (h : e ≤ 65536) : 2147483649 ^ e ≤ 2 * 2147483648 ^ e := by
  have hb := bern 2147483648 1 e
  simp only [Nat.add_zero, Nat.mul_one] at hb
  rw [show 2147483648 + 1 = 2147483649 from rfl] at hb
  have h2 : e * 2147483649 ^ e ≤ 65536 * 2147483649 ^ e := Nat.mul_le_mul_right _ h
  generalize 2147483649 ^ e = A at *
  generalize 2147483648 ^ e = B at *
  omega
theorem lgGo_hi (k n m X : Nat) (hk : k ≤ 16) (hm : LgIn m) (h : X * 2147483648 ≤ 2 ^ n * m) : X ^ (2 ^ k) < 2 ^ (lgGo k n m + 2) := by
  have h1 := lgGo_up k n m X 0 hm (by simpa using h)
  have e1 := lgE_eq k 0
  have hk2 : 2 ^ k ≤ 2 ^ 16 := Nat.pow_le_pow_right (by decide) hk
  have h2 := lg_err (lgE k 0) (by omega)
  have h3 : X ^ (2 ^ k) * 2147483648 ^ lgE k 0 < 2 ^ (lgGo k n m + 2) * 2147483648 ^ lgE k 0 := by
    refine Nat.lt_of_lt_of_le h1 ?_
    rw [show lgGo k n m + 2 = lgGo k n m + 1 + 1 from rfl, Nat.pow_succ 2 (lgGo k n m + 1), Nat.mul_assoc]
    exact Nat.mul_le_mul_left _ h2
  exact Nat.lt_of_mul_lt_mul_right h3
theorem lg_in0 {x : Nat} (h0 : 0 < x) (h1 : x ≤ 1073741824) : LgIn (x * 2 ^ (31 - (bitLen x - 1))) ∧ 2 ^ (bitLen x - 1) * (x * 2 ^ (31 - (bitLen x - 1))) = x * 2147483648 := by
  have a1 := bitLen_pos (x := x) (by omega)
  have a2 : bitLen x ≤ 31 := bitLen_le (by omega)
  have a3 := top_add (x := x) (by omega)
  have a4 : 2 ^ (bitLen x - 1) ≤ x := by omega
  have a5 := (bitLen_spec x).1
  have e : 2 ^ (bitLen x - 1) * 2 ^ (31 - (bitLen x - 1)) = 2147483648 := by rw [← Nat.pow_add, show bitLen x - 1 + (31 - (bitLen x - 1)) = 31 by omega]
  refine ⟨⟨?_, ?_⟩, ?_⟩
  · calc 2147483648 = 2 ^ (bitLen x - 1) * 2 ^ (31 - (bitLen x - 1)) := e.symm
      _ ≤ _ := Nat.mul_le_mul_right _ a4
  · calc x * 2 ^ (31 - (bitLen x - 1)) < 2 ^ bitLen x * 2 ^ (31 - (bitLen x - 1)) := Nat.mul_lt_mul_of_pos_right a5 (Nat.two_pow_pos _)
      _ = 4294967296 := by rw [← Nat.pow_add, show bitLen x + (31 - (bitLen x - 1)) = 32 by omega]
  · rw [Nat.mul_left_comm, e]
/-- 65536, not to be counted out -/
noncomputable def M16 : Nat := shut 65536
theorem M16_eq : M16 = 65536 := shut_eq _
theorem lgGo_low' (k n m X M : Nat) (hM : M = 2 ^ k) (hm : LgIn m) (h : 2 ^ n * m ≤ X * 2147483648) : 2 ^ lgGo k n m ≤ X ^ M := hM ▸ lgGo_low k n m X hm h
theorem lgGo_hi' (k n m X M : Nat) (hM : M = 2 ^ k) (hk : k ≤ 16) (hm : LgIn m) (h : X * 2147483648 ≤ 2 ^ n * m) : X ^ M < 2 ^ (lgGo k n m + 2) := hM ▸ lgGo_hi k n m X hk hm h
theorem lgN_low {x : Nat} (h0 : 0 < x) (h1 : x ≤ 1073741824) : 2 ^ lgN x ≤ x ^ M16 := by
  obtain ⟨a, b⟩ := lg_in0 h0 h1
  exact lgGo_low' 16 _ _ _ M16 M16_eq a (Nat.le_of_eq b)
theorem lgN_up {x : Nat} (h0 : 0 < x) (h1 : x ≤ 1073741824) : x ^ M16 < 2 ^ (lgN x + 2) := by
  obtain ⟨a, b⟩ := lg_in0 h0 h1
  exact lgGo_hi' 16 _ _ _ M16 M16_eq (by decide) a (Nat.le_of_eq b.symm)
end Go.Ev
