/- Words: the greatest one of a width, cutting; and the reference's. -/
import Derived.Laws.BitsAllLaws
import Derived.Test.YthhchccjpgpibaaProg
import Derived.Test.YthhchccjpgpibaaRange
import Derived.BigQuiet
import Derived.Deep.RegionHeld3
import Derived.Deep.DeepCutAuto
namespace Go.Proofs.Ythhchccjpgpibaa
open Go Go.RowKit
set_option linter.unusedVariables false
set_option linter.unusedSimpArgs false
set_option maxHeartbeats 4000000
def pw (n : Int) : Int := 2 ^ n.toNat
def mostW (n : Int) : Int := pw n - 1
def cutW (x n : Int) : Int := x % pw n
theorem pw_bd (n : Int) (h1 : 1 ≤ n) (h2 : n ≤ 16) : 2 ≤ pw n ∧ pw n ≤ 65536 := by
  unfold pw
  have ha : (2 : Nat) ^ 1 ≤ 2 ^ n.toNat := Nat.pow_le_pow_right (by omega) (by omega)
  have hb : (2 : Nat) ^ n.toNat ≤ 2 ^ 16 := Nat.pow_le_pow_right (by omega) (by omega)
  have hc : ((2 : Int) ^ n.toNat) = (((2 : Nat) ^ n.toNat : Nat) : Int) := by simp
  rw [hc]
  omega
theorem pw_pos (n : Int) : 0 < pw n := by
  unfold pw
  exact Int.pow_pos (by omega)
theorem cutW_bd (x n : Int) (h1 : 1 ≤ n) (h2 : n ≤ 16) : 0 ≤ cutW x n ∧ cutW x n ≤ mostW n := by
  have := pw_pos n
  unfold cutW mostW
  have h3 := Int.emod_nonneg x (show pw n ≠ 0 by omega)
  have h4 := Int.emod_lt_of_pos x this
  omega
theorem mostW_bd (n : Int) (h1 : 1 ≤ n) (h2 : n ≤ 16) : 1 ≤ mostW n ∧ mostW n ≤ 65535 := by
  have := pw_bd n h1 h2
  unfold mostW
  omega
theorem and_most (r n : Int) (h1 : 1 ≤ n) (h2 : n ≤ 16) (hr : 0 ≤ r) (hr' : r ≤ 4294967295) : bits .and .u32 r (mostW n) = r % pw n := by
  have hb := pw_bd n h1 h2
  rw [u32_and r (mostW n) hr (by omega) (by unfold mostW; omega) (by unfold mostW; omega)]
  have e1 : (mostW n).toNat = 2 ^ n.toNat - 1 := by
    have hc : ((2 : Int) ^ n.toNat) = (((2 : Nat) ^ n.toNat : Nat) : Int) := by simp
    unfold mostW pw; rw [hc]; omega
  rw [e1, Nat.and_two_pow_sub_one_eq_mod]
  unfold pw
  have hc : ((2 : Int) ^ n.toNat) = (((2 : Nat) ^ n.toNat : Nat) : Int) := by simp
  rw [hc, Int.natCast_emod, Int.toNat_of_nonneg hr]
theorem cutW_of_lt (x n : Int) (h : 0 ≤ x) (h2 : x ≤ mostW n) : cutW x n = x := by
  unfold mostW at h2
  exact Int.emod_eq_of_lt h (by omega)
theorem most_bad (n : Int) (w : World) (h : n < 1 ∨ 16 < n) (h1 : -9223372036854775808 ≤ n) (h2 : n ≤ 9223372036854775807) :
    Calls Try.prog 35 #[.int .i64 n] w fun e w' => e = .returned (.tuple #[.int .u32 0, .int .i64 220]) ∧ w = w' := by
  rcases h with h | h
  · go_enter Try.func35, Try.ntmps35
    go_wp2
    go_ret2
    exact ⟨rfl, rfl⟩
  · have h' : ¬ n < 1 := by omega
    go_enter Try.func35, Try.ntmps35
    go_wp2
    go_ret2
    exact ⟨rfl, rfl⟩
theorem ret_tup {k k' : IntKind} {a b c d : Int} (h : a = b) (h' : c = d) : Ending.returned (.tuple #[.int k a, .int k' c]) = .returned (.tuple #[.int k b, .int k' d]) := by rw [h, h']
theorem most_ok (n : Int) (w : World) (h1 : 1 ≤ n) (h2 : n ≤ 16) :
    Calls Try.prog 35 #[.int .i64 n] w fun e w' => e = .returned (.tuple #[.int .u32 (mostW n), .int .i64 0]) ∧ w = w' := by
  go_enter Try.func35, Try.ntmps35
  go_wp2
  go_ret2
  refine ⟨ret_tup ?_ rfl, rfl⟩
  have := pw_bd n h1 h2
  unfold mostW
  show (pw n % 4294967296 - 1) % 4294967296 = _
  omega
theorem cut_ok (x n : Int) (w : World) (h1 : 1 ≤ n) (h2 : n ≤ 16) (hx : 0 ≤ x) (hx' : x ≤ 4294967295) :
    Calls Try.prog 36 #[.int .u32 x, .int .i64 n] w fun e w' => e = .returned (.tuple #[.int .u32 (cutW x n), .int .i64 0]) ∧ w = w' := by
  have hb := mostW_bd n h1 h2
  have ha := Lib.hid (and_most x n h1 h2 hx hx')
  go_enter Try.func36, Try.ntmps36
  go_wp2_with (go_at_call 35; refine (most_ok _ _ (by omega) (by omega)).mono ?_; rintro e w' ⟨rfl, rfl⟩)
  go_ret2
  exact ⟨ret_tup ha.out rfl, rfl⟩
theorem cut_bad (x n : Int) (w : World) (h : n < 1 ∨ 16 < n) (h1 : -9223372036854775808 ≤ n) (h2 : n ≤ 9223372036854775807) (hx : 0 ≤ x) (hx' : x ≤ 4294967295) :
    Calls Try.prog 36 #[.int .u32 x, .int .i64 n] w fun e w' => e = .returned (.tuple #[.int .u32 0, .int .i64 220]) ∧ w = w' := by
  have ha : bits .and .u32 x 0 = 0 := by rw [u32_and x 0 hx (by omega) (by omega) (by omega)]; simp
  go_enter Try.func36, Try.ntmps36
  go_wp2_with (go_at_call 35; refine (most_bad _ _ h (by omega) (by omega)).mono ?_; rintro e w' ⟨rfl, rfl⟩)
  go_ret2
  exact ⟨rfl, rfl⟩
theorem power_ok (n : Int) (h1 : 0 ≤ n) (h2 : n ≤ 60) (w : World) : Calls Try.prog 56 #[.int .i64 n] w fun e w' => e = .returned (.int .i64 (pw n)) ∧ w = w' := by
  obtain ⟨m, rfl⟩ := Int.eq_ofNat_of_zero_le h1
  go_enter Try.func56, Try.ntmps56
  go_wp2
  go_loop [3, 4] (fun x i => ∃ k : Nat, k ≤ m ∧ i = .int .i64 k ∧ x = .int .i64 (2 ^ k)) (fun _ i => m - (intOf i).toNat)
  case atStart => exact ⟨0, by omega, rfl, rfl⟩
  case round =>
    obtain ⟨k, hk, rfl, rfl⟩ := hrel
    by_cases hlt : k < m
    · have hp : (0 : Int) < 2 ^ k := Int.pow_pos (by omega)
      have hp2 : (2 : Int) ^ k ≤ 1152921504606846976 := by
        have : (2 : Nat) ^ k ≤ 2 ^ 60 := Nat.pow_le_pow_right (by omega) (by omega)
        have e : ((2 : Int) ^ k) = ((2 ^ k : Nat) : Int) := by simp
        rw [e]; omega
      go_wp2
      go_round
      case rel => exact ⟨k + 1, by omega, by go_num, by rw [Int.pow_succ]⟩
      case measure => simp [intOf]; omega
    · obtain rfl : k = m := by omega
      go_wp2
      go_ret
      exact ⟨rfl, rfl⟩
theorem rwidth_any (n : Int) (h1 : -9223372036854775808 ≤ n) (h2 : n ≤ 9223372036854775807) (w : World) : Calls Try.prog 49 #[.int .i64 n] w fun e w' => e = .returned (.bool (decide (0 < n) && decide (n < 17))) ∧ w = w' := by
  by_cases h : 0 < n
  · go_enter Try.func49, Try.ntmps49
    go_wp2
    go_ret
    exact ⟨by simp [h], rfl⟩
  · go_enter Try.func49, Try.ntmps49
    go_wp2
    go_ret
    exact ⟨by simp; omega, rfl⟩
theorem rwidth_yes (n : Int) (h1 : 1 ≤ n) (h2 : n ≤ 16) (w : World) : Calls Try.prog 49 #[.int .i64 n] w fun e w' => e = .returned (.bool true) ∧ w = w' :=
  (rwidth_any n (by omega) (by omega) w).mono fun e w' h => ⟨by rw [h.1, show (decide (0 < n) && decide (n < 17)) = true by simp; omega], h.2⟩
theorem rwidth_no (n : Int) (h : n < 1 ∨ 16 < n) (h1 : -9223372036854775808 ≤ n) (h2 : n ≤ 9223372036854775807) (w : World) : Calls Try.prog 49 #[.int .i64 n] w fun e w' => e = .returned (.bool false) ∧ w = w' :=
  (rwidth_any n h1 h2 w).mono fun e w' h' => ⟨by rw [h'.1, show (decide (0 < n) && decide (n < 17)) = false by simp; omega], h'.2⟩
theorem rcut_ok (x n : Int) (h1 : 1 ≤ n) (h2 : n ≤ 16) (hx : 0 ≤ x) (hx' : x ≤ 1152921504606846976) (w : World) : Calls Try.prog 50 #[.int .i64 x, .int .i64 n] w fun e w' => e = .returned (.int .i64 (cutW x n)) ∧ w = w' := by
  have hb := pw_bd n h1 h2
  have hc := cutW_bd x n h1 h2
  have hm := mostW_bd n h1 h2
  have E : x % pw n = cutW x n := rfl
  go_enter Try.func50, Try.ntmps50
  go_wp2_with (go_at_call 56; refine (power_ok _ (by omega) (by omega) _).mono ?_; rintro e w' ⟨rfl, rfl⟩)
  go_ret
  exact ⟨rfl, rfl⟩
end Go.Proofs.Ythhchccjpgpibaa
