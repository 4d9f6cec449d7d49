/- The sequence of chapter 12, its sums, its greatest numbers, how often a value is among the first: plain facts. -/
import Derived.WalkKit
namespace Go.Proofs.Ytanejldglbkacaa
set_option linter.unusedVariables false
set_option linter.unusedSimpArgs false
/-- The half of the greatest block that is not longer than n. -/
def hf (n : Nat) : Nat := 2 ^ (Nat.log2 (n + 1) - 1)
theorem hf_pos (n : Nat) : 0 < hf n := Nat.pow_pos (by omega)
theorem hf_le (n : Nat) (h : 1 ≤ n) : 2 * hf n ≤ n + 1 := by
  have h1 : 1 ≤ Nat.log2 (n + 1) := (Nat.le_log2 (by omega)).2 (by omega)
  have h2 : 2 ^ Nat.log2 (n + 1) ≤ n + 1 := Nat.log2_self_le (by omega)
  unfold hf
  have e : Nat.log2 (n + 1) = (Nat.log2 (n + 1) - 1) + 1 := by omega
  rw [e, Nat.pow_succ] at h2
  omega
theorem hf_lt (n : Nat) (h : 1 ≤ n) : n + 1 < 4 * hf n := by
  have h1 : 1 ≤ Nat.log2 (n + 1) := (Nat.le_log2 (by omega)).2 (by omega)
  have h2 : n + 1 < 2 ^ (Nat.log2 (n + 1) + 1) := Nat.lt_log2_self
  unfold hf
  have e : Nat.log2 (n + 1) + 1 = (Nat.log2 (n + 1) - 1) + 2 := by omega
  rw [e, Nat.pow_add] at h2
  omega
theorem pow_lt_inj (a b : Nat) (h1 : 2 ^ a < 2 * 2 ^ b) (h2 : 2 ^ b < 2 * 2 ^ a) : a = b := by
  have p1 : a < b + 1 := (Nat.pow_lt_pow_iff_right (a := 2) (by omega)).1 (by rw [Nat.pow_succ]; omega)
  have p2 : b < a + 1 := (Nat.pow_lt_pow_iff_right (a := 2) (by omega)).1 (by rw [Nat.pow_succ]; omega)
  omega
theorem hf_unique (n k : Nat) (h : 1 ≤ n) (h1 : 2 * 2 ^ k ≤ n + 1) (h2 : n + 1 < 4 * 2 ^ k) : hf n = 2 ^ k := by
  have a := hf_le n h
  have b := hf_lt n h
  unfold hf at a b ⊢
  rw [pow_lt_inj (Nat.log2 (n + 1) - 1) k (by omega) (by omega)]
/-- The numbers. -/
def lubyF : Nat → Nat → Nat
  | 0, _ => 0
  | f + 1, n => if n = 0 then 0 else if 2 * hf n - 1 = n then hf n else lubyF f (n - (2 * hf n - 1))
def L (n : Nat) : Nat := lubyF n n
theorem lubyF_more (f : Nat) : ∀ g n, n ≤ f → n ≤ g → lubyF f n = lubyF g n := by
  induction f with
  | zero =>
    intro g n h1 h2
    obtain rfl : n = 0 := by omega
    cases g <;> simp [lubyF]
  | succ f ih =>
    intro g n h1 h2
    cases g with
    | zero => obtain rfl : n = 0 := by omega
              simp [lubyF]
    | succ g =>
      show (if n = 0 then 0 else if 2 * hf n - 1 = n then hf n else lubyF f (n - (2 * hf n - 1))) = (if n = 0 then 0 else if 2 * hf n - 1 = n then hf n else lubyF g (n - (2 * hf n - 1)))
      by_cases hz : n = 0
      · simp [hz]
      · have hp := hf_pos n
        rw [ih g _ (by omega) (by omega)]
theorem L_full (n : Nat) (h : 1 ≤ n) (e : 2 * hf n - 1 = n) : L n = hf n := by
  unfold L
  obtain ⟨m, rfl⟩ : ∃ m, n = m + 1 := ⟨n - 1, by omega⟩
  show (if m + 1 = 0 then 0 else if 2 * hf (m + 1) - 1 = m + 1 then hf (m + 1) else _) = _
  rw [if_neg (by omega), if_pos e]
theorem L_rest (n : Nat) (h : 1 ≤ n) (e : 2 * hf n - 1 ≠ n) : L n = L (n - (2 * hf n - 1)) := by
  have hp := hf_pos n
  have hl := hf_le n h
  unfold L
  obtain ⟨m, rfl⟩ : ∃ m, n = m + 1 := ⟨n - 1, by omega⟩
  show (if m + 1 = 0 then 0 else if 2 * hf (m + 1) - 1 = m + 1 then hf (m + 1) else lubyF m _) = _
  rw [if_neg (by omega), if_neg e]
  exact lubyF_more _ _ _ (by omega) (by omega)
theorem pow_pos2 (k : Nat) : 0 < 2 ^ k := Nat.pow_pos (by omega)
/-- Behind a block the block comes again. -/
theorem L_again (k j : Nat) (h1 : 1 ≤ j) (h2 : j ≤ 2 * 2 ^ k - 1) : L (2 * 2 ^ k - 1 + j) = L j := by
  have hp := pow_pos2 k
  have e : hf (2 * 2 ^ k - 1 + j) = 2 ^ k := hf_unique _ k (by omega) (by omega) (by omega)
  rw [L_rest _ (by omega) (by rw [e]; omega), e]
  congr 1
  omega
theorem L_block (k : Nat) : L (2 * 2 ^ k - 1) = 2 ^ k := by
  have hp := pow_pos2 k
  have e : hf (2 * 2 ^ k - 1) = 2 ^ k := hf_unique _ k (by omega) (by omega) (by omega)
  rw [L_full _ (by omega) (by rw [e]), e]
/-- Each number is a power of 2. -/
theorem L_pow (n : Nat) (h : 1 ≤ n) : ∃ k, L n = 2 ^ k ∧ 2 ^ k ≤ n := by
  induction n using Nat.strongRecOn with
  | ind n ih =>
    have hp := hf_pos n
    have hl := hf_le n h
    by_cases e : 2 * hf n - 1 = n
    · exact ⟨_, L_full n h e, by show hf n ≤ n; omega⟩
    · obtain ⟨k, hk, hk2⟩ := ih (n - (2 * hf n - 1)) (by omega) (by omega)
      exact ⟨k, by rw [L_rest n h e, hk], by omega⟩
/-- The sum of the first numbers. -/
def S : Nat → Nat
  | 0 => 0
  | n + 1 => S n + L (n + 1)
/-- How often a value is among the first numbers. -/
def T (v : Int) : Nat → Nat
  | 0 => 0
  | n + 1 => T v n + (if (L (n + 1) : Int) = v then 1 else 0)
/-- The greatest of the first numbers. -/
def G : Nat → Nat
  | 0 => 0
  | n + 1 => max (G n) (L (n + 1))
theorem S_again (k j : Nat) (h : j ≤ 2 * 2 ^ k - 1) : S (2 * 2 ^ k - 1 + j) = S (2 * 2 ^ k - 1) + S j := by
  induction j with
  | zero => rfl
  | succ j ih =>
    show S (2 * 2 ^ k - 1 + j) + L (2 * 2 ^ k - 1 + (j + 1)) = S (2 * 2 ^ k - 1) + (S j + L (j + 1))
    rw [ih (by omega), L_again k (j + 1) (by omega) h]; omega
theorem T_again (v : Int) (k j : Nat) (h : j ≤ 2 * 2 ^ k - 1) : T v (2 * 2 ^ k - 1 + j) = T v (2 * 2 ^ k - 1) + T v j := by
  induction j with
  | zero => rfl
  | succ j ih =>
    show T v (2 * 2 ^ k - 1 + j) + (if (L (2 * 2 ^ k - 1 + (j + 1)) : Int) = v then 1 else 0) = T v (2 * 2 ^ k - 1) + (T v j + (if (L (j + 1) : Int) = v then 1 else 0))
    rw [ih (by omega), L_again k (j + 1) (by omega) h]; omega
theorem G_again (k j : Nat) (h : j ≤ 2 * 2 ^ k - 1) : G (2 * 2 ^ k - 1 + j) = max (G (2 * 2 ^ k - 1)) (G j) := by
  induction j with
  | zero => show _ = max _ 0; simp
  | succ j ih =>
    show max (G (2 * 2 ^ k - 1 + j)) (L (2 * 2 ^ k - 1 + (j + 1))) = max (G (2 * 2 ^ k - 1)) (max (G j) (L (j + 1)))
    rw [ih (by omega), L_again k (j + 1) (by omega) h]; omega
theorem two_block (k : Nat) : 2 * 2 ^ (k + 1) - 1 = (2 * 2 ^ k - 1 + (2 * 2 ^ k - 1)) + 1 := by
  have hp := pow_pos2 k
  rw [Nat.pow_succ]; omega
theorem S_block (k : Nat) : S (2 * 2 ^ k - 1) = (k + 1) * 2 ^ k := by
  induction k with
  | zero => decide
  | succ k ih =>
    have e := two_block k
    have hL : L (2 * 2 ^ k - 1 + (2 * 2 ^ k - 1) + 1) = 2 ^ (k + 1) := by rw [← e]; exact L_block (k + 1)
    rw [e]
    show S (2 * 2 ^ k - 1 + (2 * 2 ^ k - 1)) + L (2 * 2 ^ k - 1 + (2 * 2 ^ k - 1) + 1) = _
    rw [S_again k _ (Nat.le_refl _), ih, hL, Nat.pow_succ, Nat.add_mul, Nat.add_mul, Nat.add_mul]
    have e2 : k * (2 ^ k * 2) = 2 * (k * 2 ^ k) := by rw [Nat.mul_comm (2 ^ k) 2, Nat.mul_left_comm]
    rw [e2]; omega
theorem G_block (k : Nat) : G (2 * 2 ^ k - 1) = 2 ^ k := by
  induction k with
  | zero => decide
  | succ k ih =>
    have e := two_block k
    have hL : L (2 * 2 ^ k - 1 + (2 * 2 ^ k - 1) + 1) = 2 ^ (k + 1) := by rw [← e]; exact L_block (k + 1)
    rw [e]
    show max (G (2 * 2 ^ k - 1 + (2 * 2 ^ k - 1))) (L (2 * 2 ^ k - 1 + (2 * 2 ^ k - 1) + 1)) = _
    rw [G_again k _ (Nat.le_refl _), ih, hL, Nat.pow_succ]; omega
/-- How often a value is in a block: 'for times, h := 1, half; h > 0; times, h = 2*times, h/2'. -/
def tb (v : Int) : Nat → Nat → Nat
  | 0, t => if (1 : Int) = v then t else 0
  | k + 1, t => (if ((2 ^ (k + 1) : Nat) : Int) = v then t else 0) + tb v k (2 * t)
theorem tb_two (v : Int) (k t : Nat) : tb v k (2 * t) = 2 * tb v k t := by
  induction k generalizing t with
  | zero => simp only [tb]; split <;> omega
  | succ k ih =>
    simp only [tb]
    rw [ih (2 * t)]
    split <;> omega
theorem T_block (v : Int) (k : Nat) : T v (2 * 2 ^ k - 1) = tb v k 1 := by
  induction k with
  | zero =>
    have h1 : L 1 = 1 := by decide
    show 0 + (if (L 1 : Int) = v then 1 else 0) = (if (1 : Int) = v then 1 else 0)
    rw [h1, Nat.zero_add]; rfl
  | succ k ih =>
    have e := two_block k
    have hL : L (2 * 2 ^ k - 1 + (2 * 2 ^ k - 1) + 1) = 2 ^ (k + 1) := by rw [← e]; exact L_block (k + 1)
    rw [e]
    show T v (2 * 2 ^ k - 1 + (2 * 2 ^ k - 1)) + (if (L (2 * 2 ^ k - 1 + (2 * 2 ^ k - 1) + 1) : Int) = v then 1 else 0) = (if ((2 ^ (k + 1) : Nat) : Int) = v then 1 else 0) + tb v k (2 * 1)
    rw [T_again v k _ (Nat.le_refl _), ih, hL, tb_two]; omega
/-- The step of 'blocks'. -/
theorem hf_is (n : Nat) : ∃ k, hf n = 2 ^ k := ⟨_, rfl⟩
theorem S_step (n k : Nat) (h : 1 ≤ n) (e : hf n = 2 ^ k) : S n = (k + 1) * 2 ^ k + S (n - (2 * 2 ^ k - 1)) := by
  have a := hf_le n h
  have b := hf_lt n h
  rw [e] at a b
  have hp := pow_pos2 k
  have := S_again k (n - (2 * 2 ^ k - 1)) (by omega)
  rw [show 2 * 2 ^ k - 1 + (n - (2 * 2 ^ k - 1)) = n by omega, S_block] at this
  exact this
theorem T_step (v : Int) (n k : Nat) (h : 1 ≤ n) (e : hf n = 2 ^ k) : T v n = tb v k 1 + T v (n - (2 * 2 ^ k - 1)) := by
  have a := hf_le n h
  have b := hf_lt n h
  rw [e] at a b
  have hp := pow_pos2 k
  have := T_again v k (n - (2 * 2 ^ k - 1)) (by omega)
  rw [show 2 * 2 ^ k - 1 + (n - (2 * 2 ^ k - 1)) = n by omega, T_block] at this
  exact this
theorem G_step (n k : Nat) (h : 1 ≤ n) (e : hf n = 2 ^ k) : G n = max (2 ^ k) (G (n - (2 * 2 ^ k - 1))) := by
  have a := hf_le n h
  have b := hf_lt n h
  rw [e] at a b
  have hp := pow_pos2 k
  have := G_again k (n - (2 * 2 ^ k - 1)) (by omega)
  rw [show 2 * 2 ^ k - 1 + (n - (2 * 2 ^ k - 1)) = n by omega, G_block] at this
  exact this
theorem L_pos (n : Nat) (h : 1 ≤ n) : 1 ≤ L n ∧ L n ≤ n := by
  obtain ⟨k, h1, h2⟩ := L_pow n h
  have := pow_pos2 k
  omega
theorem S_ge (n : Nat) : n ≤ S n := by
  induction n with
  | zero => exact Nat.le_refl _
  | succ n ih => have := L_pos (n + 1) (by omega); show n + 1 ≤ S n + L (n + 1); omega
theorem S_mono (a b : Nat) (h : a ≤ b) : S a ≤ S b := by
  induction b with
  | zero => obtain rfl : a = 0 := by omega
            exact Nat.le_refl _
  | succ b ih =>
    by_cases e : a = b + 1
    · rw [e]; exact Nat.le_refl _
    · have := ih (by omega); show S a ≤ S b + L (b + 1); omega
theorem S_strict (a b : Nat) (h : S a < S b) : a < b := by
  apply Nat.lt_of_not_le
  intro h'
  have := S_mono b a h'
  omega
theorem S_top (n : Nat) (h : n ≤ 1099511627776) : S n ≤ 45079976738816 := by
  have e := S_block 40
  have := S_mono n (2 * 2 ^ 40 - 1) (by omega)
  omega
theorem T_le (v : Int) (n : Nat) : T v n ≤ n := by
  induction n with
  | zero => exact Nat.le_refl _
  | succ n ih => simp only [T]; split <;> omega
theorem G_le (n : Nat) : G n ≤ n := by
  induction n with
  | zero => exact Nat.le_refl _
  | succ n ih => have := L_pos (n + 1) (by omega); simp only [G]; omega
end Go.Proofs.Ytanejldglbkacaa
