/- Words of a few bits as whole numbers: the plain functions that the Go text computes, and their bounds. -/
import Derived.Laws.BitsAllLaws
namespace Go.Proofs.Ytfgmcinegogdkaa
set_option linter.unusedVariables false

def pw (n : Int) : Int := 2 ^ n.toNat
def mostW (n : Int) : Int := pw n - 1
def cutW (x n : Int) : Int := x % pw n
/-- The operation number k of two words X, Y whose greatest word is m, as the table's functions compute it (below 2^32). -/
def opW (k : Nat) (X Y m : Int) : Int :=
  match k with
  | 1 => (m - X) % 4294967296
  | 2 => (-X) % 4294967296
  | 3 => X + Y
  | 4 => (X - Y) % 4294967296
  | 5 => X * Y % 4294967296
  | 6 => if Y = 0 then m else X / Y
  | 7 => if Y = 0 then X else X % Y
  | 8 => ((X.toNat &&& Y.toNat : Nat) : Int)
  | 9 => ((X.toNat ||| Y.toNat : Nat) : Int)
  | 10 => ((X.toNat ^^^ Y.toNat : Nat) : Int)
  | 11 => X * 2 ^ (min Y 31).toNat % 4294967296
  | 12 => X / 2 ^ (min Y 31).toNat
  | 13 => if X = Y then 1 else 0
  | 14 => if X = Y then 0 else 1
  | 15 => if X < Y then 1 else 0
  | 16 => if X ≤ Y then 1 else 0
  | _ => 0
def appW (k : Nat) (n x y : Int) : Int := opW k (cutW x n) (cutW y n) (mostW n) % pw n

theorem pw_cases {P : Int → Prop} (n : Int) (h1 : 1 ≤ n) (h2 : n ≤ 16) (h : ∀ k : Nat, 1 ≤ k → k ≤ 16 → P (2 ^ k)) : P (pw n) := by
  have := h n.toNat (by omega) (by omega)
  exact this
theorem pw_bd (n : Int) (h1 : 1 ≤ n) (h2 : n ≤ 16) : 2 ≤ pw n ∧ pw n ≤ 65536 := by
  unfold pw
  have ha : (2 : Nat) ^ 1 ≤ 2 ^ n.toNat := Nat.pow_le_pow_right (by omega) (by omega)
  have hb : (2 : Nat) ^ n.toNat ≤ 2 ^ 16 := Nat.pow_le_pow_right (by omega) (by omega)
  have hc : ((2 : Int) ^ n.toNat) = (((2 : Nat) ^ n.toNat : Nat) : Int) := by simp
  rw [hc]
  omega
theorem pw_pos (n : Int) : 0 < pw n := by
  unfold pw
  exact Int.pow_pos (by omega)
theorem cutW_bd (x n : Int) (h1 : 1 ≤ n) (h2 : n ≤ 16) : 0 ≤ cutW x n ∧ cutW x n ≤ mostW n := by
  have := pw_pos n
  unfold cutW mostW
  have h3 := Int.emod_nonneg x (show pw n ≠ 0 by omega)
  have h4 := Int.emod_lt_of_pos x this
  omega
theorem mostW_bd (n : Int) (h1 : 1 ≤ n) (h2 : n ≤ 16) : 1 ≤ mostW n ∧ mostW n ≤ 65535 := by
  have := pw_bd n h1 h2
  unfold mostW
  omega
theorem opW_bd (k : Nat) (X Y m : Int) (hX : 0 ≤ X) (hX' : X ≤ 65535) (hY : 0 ≤ Y) (hY' : Y ≤ 65535) (hm : 0 ≤ m) (hm' : m ≤ 65535) : 0 ≤ opW k X Y m ∧ opW k X Y m ≤ 4294967295 := by
  unfold opW
  have hp : (0 : Int) < 2 ^ (min Y 31).toNat := Int.pow_pos (by omega)
  have a1 : X.toNat < 2 ^ 16 := by omega
  have a2 : Y.toNat < 2 ^ 16 := by omega
  have b1 := Nat.and_lt_two_pow X.toNat a2
  have b2 := Nat.or_lt_two_pow a1 a2
  have b3 := Nat.xor_lt_two_pow a1 a2
  split
  any_goals omega
  · split
    · omega
    · have h1 : X / Y ≤ X := Int.ediv_le_self _ hX
      have h2 : 0 ≤ X / Y := Int.ediv_nonneg hX hY
      omega
  · split
    · omega
    · have h1 : X % Y < Y := Int.emod_lt_of_pos _ (by omega)
      have h2 : 0 ≤ X % Y := Int.emod_nonneg _ (by omega)
      omega
  · have h1 : X / 2 ^ (min Y 31).toNat ≤ X := Int.ediv_le_self _ hX
    have h2 : 0 ≤ X / 2 ^ (min Y 31).toNat := Int.ediv_nonneg hX (by omega)
    omega
theorem appW_bd (k : Nat) (n x y : Int) (h1 : 1 ≤ n) (h2 : n ≤ 16) : 0 ≤ appW k n x y ∧ appW k n x y ≤ mostW n := by
  have := pw_pos n
  unfold appW mostW
  have h3 := Int.emod_nonneg (opW k (cutW x n) (cutW y n) (pw n - 1)) (show pw n ≠ 0 by omega)
  have h4 := Int.emod_lt_of_pos (opW k (cutW x n) (cutW y n) (pw n - 1)) this
  omega
/-- A number below 2^32 and the greatest word of a width: its rest. -/
theorem and_most (r n : Int) (h1 : 1 ≤ n) (h2 : n ≤ 16) (hr : 0 ≤ r) (hr' : r ≤ 4294967295) : bits .and .u32 r (mostW n) = r % pw n := by
  have hb := pw_bd n h1 h2
  rw [u32_and r (mostW n) hr (by omega) (by unfold mostW; omega) (by unfold mostW; omega)]
  have e1 : (mostW n).toNat = 2 ^ n.toNat - 1 := by
    have hc : ((2 : Int) ^ n.toNat) = (((2 : Nat) ^ n.toNat : Nat) : Int) := by simp
    unfold mostW pw; rw [hc]; omega
  rw [e1, Nat.and_two_pow_sub_one_eq_mod]
  unfold pw
  have hc : ((2 : Int) ^ n.toNat) = (((2 : Nat) ^ n.toNat : Nat) : Int) := by simp
  rw [hc, Int.natCast_emod, Int.toNat_of_nonneg hr]
end Go.Proofs.Ytfgmcinegogdkaa
