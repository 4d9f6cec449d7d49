/- Words of a width are a ring: plain arithmetic. -/
import Derived.Test.YtfgmcinegogdkaaPlain
namespace Go.Proofs.Ytfgmcinegogdkaa
set_option linter.unusedVariables false
theorem pw_dvd (n : Int) (h1 : 1 ≤ n) (h2 : n ≤ 16) : pw n ∣ 4294967296 := by
  unfold pw
  have e : (4294967296 : Int) = 2 ^ n.toNat * 2 ^ (32 - n.toNat) := by
    rw [← Int.pow_add, show n.toNat + (32 - n.toNat) = 32 by omega]; rfl
  exact ⟨_, e⟩
theorem mod_mul (x y m : Int) : x % m * y % m = x * y % m := by rw [Int.mul_emod, Int.emod_emod, ← Int.mul_emod]
theorem mul_mod (x y m : Int) : x * (y % m) % m = x * y % m := by rw [Int.mul_emod, Int.emod_emod, ← Int.mul_emod]
set_option linter.unusedSectionVars false
section
variable (n : Int) (h1 : 1 ≤ n) (h2 : n ≤ 16)
include h1 h2
theorem appW_add (x y : Int) : appW 3 n x y = (x + y) % pw n := by
  show (x % pw n + y % pw n) % pw n = _
  rw [← Int.add_emod]
theorem appW_sub (x y : Int) : appW 4 n x y = (x - y) % pw n := by
  show (x % pw n - y % pw n) % 4294967296 % pw n = _
  rw [Int.emod_emod_of_dvd _ (pw_dvd n h1 h2), ← Int.sub_emod]
theorem appW_neg (x y : Int) : appW 2 n x y = (-x) % pw n := by
  show (-(x % pw n)) % 4294967296 % pw n = _
  rw [Int.emod_emod_of_dvd _ (pw_dvd n h1 h2)]
  have : (-(x % pw n)) % pw n = (0 - x % pw n) % pw n := by rw [Int.zero_sub]
  rw [this, Int.sub_emod, Int.emod_emod, ← Int.sub_emod, Int.zero_sub]
theorem appW_mul (x y : Int) : appW 5 n x y = (x * y) % pw n := by
  show (x % pw n * (y % pw n)) % 4294967296 % pw n = _
  rw [Int.emod_emod_of_dvd _ (pw_dvd n h1 h2), ← Int.mul_emod]
theorem ring_facts (a b c : Int) :
    let X := cutW a n; let Y := cutW b n; let Z := cutW c n
    appW 3 n X Y = appW 3 n Y X ∧ appW 3 n (appW 3 n X Y) Z = appW 3 n X (appW 3 n Y Z) ∧ appW 3 n X 0 = X ∧ appW 3 n X (appW 2 n X 0) = 0 ∧
    appW 4 n X Y = appW 3 n X (appW 2 n Y 0) ∧ appW 4 n (appW 3 n X Y) Y = X ∧ appW 5 n X Y = appW 5 n Y X ∧ appW 5 n (appW 5 n X Y) Z = appW 5 n X (appW 5 n Y Z) ∧
    appW 5 n X 1 = X ∧ appW 5 n X (appW 3 n Y Z) = appW 3 n (appW 5 n X Y) (appW 5 n X Z) ∧ appW 5 n X (mostW n) = appW 2 n X 0 := by
  simp only [appW_add n h1 h2, appW_sub n h1 h2, appW_neg n h1 h2, appW_mul n h1 h2]
  have hX : cutW a n % pw n = cutW a n := Int.emod_emod _ _
  generalize cutW a n = X at hX
  generalize cutW b n = Y
  generalize cutW c n = Z
  refine ⟨by rw [Int.add_comm], ?_, by rw [Int.add_zero, hX], ?_, ?_, ?_, by rw [Int.mul_comm], ?_, by rw [Int.mul_one, hX], ?_, ?_⟩
  · rw [Int.emod_add_emod, Int.add_emod_emod, Int.add_assoc]
  · rw [Int.add_emod_emod, Int.add_right_neg]; rfl
  · rw [Int.add_emod_emod]; rfl
  · rw [Int.emod_sub_emod, Int.add_sub_cancel, hX]
  · rw [mod_mul, mul_mod, Int.mul_assoc]
  · rw [mul_mod, Int.emod_add_emod, Int.add_emod_emod, Int.mul_add]
  · unfold mostW
    rw [Int.mul_sub, Int.mul_one, Int.mul_comm, Int.sub_eq_add_neg, Int.add_comm, Int.add_mul_emod_self_left]
end
end Go.Proofs.Ytfgmcinegogdkaa
