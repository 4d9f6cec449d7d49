/- Quotients and rests of words; the order of words; cutting: plain arithmetic. -/
import Derived.Test.YtfgmcinegogdkaaRing
namespace Go.Proofs.Ytfgmcinegogdkaa
set_option linter.unusedVariables false
set_option linter.unusedSectionVars false
theorem cutW_of_lt (x n : Int) (h : 0 ≤ x) (h2 : x ≤ mostW n) : cutW x n = x := by
  unfold mostW at h2
  exact Int.emod_eq_of_lt h (by omega)
theorem cutW_cut (x n : Int) : cutW (cutW x n) n = cutW x n := Int.emod_emod _ _
section
variable (n : Int) (h1 : 1 ≤ n) (h2 : n ≤ 16)
include h1 h2
theorem mod_of_bd (x : Int) (h : 0 ≤ x) (hx : x ≤ mostW n) : x % pw n = x := cutW_of_lt x n h hx
theorem div_zero (a b : Int) (h : cutW b n = 0) : appW 6 n (cutW a n) (cutW b n) = mostW n ∧ appW 7 n (cutW a n) (cutW b n) = cutW a n := by
  have hm := mostW_bd n h1 h2
  have hx := cutW_bd a n h1 h2
  unfold appW
  simp only [cutW_cut, h, cutW_of_lt 0 n (by omega) (by omega)]
  show mostW n % pw n = _ ∧ cutW a n % pw n = _
  exact ⟨mod_of_bd n h1 h2 _ (by omega) (by omega), mod_of_bd n h1 h2 _ hx.1 hx.2⟩
theorem div_some (a b : Int) (h : cutW b n ≠ 0) :
    appW 6 n (cutW a n) (cutW b n) * cutW b n + appW 7 n (cutW a n) (cutW b n) = cutW a n ∧ appW 7 n (cutW a n) (cutW b n) < cutW b n ∧
    0 ≤ appW 6 n (cutW a n) (cutW b n) * cutW b n ∧ appW 6 n (cutW a n) (cutW b n) * cutW b n ≤ 65535 := by
  have hm := mostW_bd n h1 h2
  have hx := cutW_bd a n h1 h2
  have hy := cutW_bd b n h1 h2
  have e6 : appW 6 n (cutW a n) (cutW b n) = cutW a n / cutW b n := by
    unfold appW
    simp only [cutW_cut]
    show (if cutW b n = 0 then mostW n else cutW a n / cutW b n) % pw n = _
    rw [if_neg h]
    have h1' : cutW a n / cutW b n ≤ cutW a n := Int.ediv_le_self _ hx.1
    have h2' : 0 ≤ cutW a n / cutW b n := Int.ediv_nonneg hx.1 hy.1
    exact mod_of_bd n h1 h2 _ h2' (by omega)
  have e7 : appW 7 n (cutW a n) (cutW b n) = cutW a n % cutW b n := by
    unfold appW
    simp only [cutW_cut]
    show (if cutW b n = 0 then cutW a n else cutW a n % cutW b n) % pw n = _
    rw [if_neg h]
    have h1' : cutW a n % cutW b n < cutW b n := Int.emod_lt_of_pos _ (by omega)
    have h2' : 0 ≤ cutW a n % cutW b n := Int.emod_nonneg _ h
    exact mod_of_bd n h1 h2 _ h2' (by omega)
  rw [e6, e7]
  have hlt : cutW a n % cutW b n < cutW b n := Int.emod_lt_of_pos _ (by omega)
  have hge : 0 ≤ cutW a n % cutW b n := Int.emod_nonneg _ h
  have he := Int.mul_ediv_add_emod (cutW a n) (cutW b n)
  have hc : cutW a n / cutW b n * cutW b n = cutW b n * (cutW a n / cutW b n) := Int.mul_comm _ _
  have hp : 0 ≤ cutW b n * (cutW a n / cutW b n) := Int.mul_nonneg hy.1 (Int.ediv_nonneg hx.1 hy.1)
  rw [hc]
  refine ⟨he, hlt, hp, by omega⟩
/-- The comparisons. -/
theorem cmp_one (t : Prop) [Decidable t] : (if t then (1 : Int) else 0) % pw n = if t then 1 else 0 := by
  have hm := mostW_bd n h1 h2
  split
  · exact mod_of_bd n h1 h2 1 (by omega) (by omega)
  · exact mod_of_bd n h1 h2 0 (by omega) (by omega)
theorem app_eq (a b : Int) : appW 13 n (cutW a n) (cutW b n) = if cutW a n = cutW b n then 1 else 0 := by
  unfold appW; simp only [cutW_cut]; exact cmp_one n h1 h2 _
theorem app_ne (a b : Int) : appW 14 n (cutW a n) (cutW b n) = if cutW a n = cutW b n then 0 else 1 := by
  unfold appW; simp only [cutW_cut]
  show (if cutW a n = cutW b n then (0 : Int) else 1) % pw n = _
  have hm := mostW_bd n h1 h2
  split
  · exact mod_of_bd n h1 h2 0 (by omega) (by omega)
  · exact mod_of_bd n h1 h2 1 (by omega) (by omega)
theorem app_lt (a b : Int) : appW 15 n (cutW a n) (cutW b n) = if cutW a n < cutW b n then 1 else 0 := by
  unfold appW; simp only [cutW_cut]; exact cmp_one n h1 h2 _
theorem app_le (a b : Int) : appW 16 n (cutW a n) (cutW b n) = if cutW a n ≤ cutW b n then 1 else 0 := by
  unfold appW; simp only [cutW_cut]; exact cmp_one n h1 h2 _
end
/-- Cut first: the same. -/
theorem app_cut (k : Nat) (n x y : Int) : appW k n (cutW x n) (cutW y n) = appW k n x y := by
  unfold appW
  simp only [cutW_cut]
theorem cut_less (x n m : Int) (h : m ≤ n) (h0 : 0 ≤ m) : cutW (cutW x n) m = cutW x m := by
  unfold cutW
  refine Int.emod_emod_of_dvd x ?_
  unfold pw
  have e : n.toNat = m.toNat + (n.toNat - m.toNat) := by omega
  rw [e, Int.pow_add]
  exact ⟨_, rfl⟩
end Go.Proofs.Ytfgmcinegogdkaa
