/- FromBits; and the reference's Power, Width, Cut, truth, Wide, Join, Rank. -/
import Derived.Test.YtfgmcinegogdkaaAwake
import Derived.Test.YtfgmcinegogdkaaWords
namespace Go.Proofs.Ytfgmcinegogdkaa
open Go.RowKit
set_option linter.unusedVariables false
set_option maxHeartbeats 1000000
/-- The number with some bits. -/
def numB (f : Nat → Bool) : Nat → Nat
  | 0 => 0
  | k + 1 => numB f k + if f k then 2 ^ k else 0
theorem numB_lt (f : Nat → Bool) (k : Nat) : numB f k < 2 ^ k := by
  induction k with
  | zero => exact Nat.one_pos
  | succ k ih =>
    show numB f k + (if f k then 2 ^ k else 0) < 2 ^ (k + 1)
    rw [Nat.pow_succ]
    split <;> omega
theorem pow_le_16 (k : Nat) (h : k ≤ 16) : (2 : Nat) ^ k ≤ 65536 := Nat.pow_le_pow_right (n := 2) (by omega) h
theorem or_step (f : Nat → Bool) (k : Nat) (h : k < 16) (hf : f k = true) : bits .or .u32 ((numB f k : Nat) : Int) ((2 ^ k : Nat) : Int) = ((numB f (k + 1) : Nat) : Int) := by
  have h1 := numB_lt f k
  have h2 := pow_le_16 k (by omega)
  rw [u32_or_nat _ _ (by omega) (by omega)]
  show _ = ((numB f k + (if f k then 2 ^ k else 0) : Nat) : Int)
  rw [if_pos hf, Nat.or_comm, nat_join k (2 ^ k) (numB f k) (by simp) h1, Nat.add_comm]
theorem or_zero (x : Nat) (h : x < 4294967296) : bits .or .u32 (x : Int) 0 = x := by
  have := u32_or_nat x 0 h (by omega)
  simpa using this
theorem fromBits_ok (b off len cap : Nat) (f : Nat → Bool) (h1 : 1 ≤ len) (h2 : len ≤ 16) (w : World) (hc : ∀ j, j < len → w.cell? ⟨b, off + j, none⟩ = some (.bool (f j))) :
    Calls Try.prog 27 #[.slice (some ⟨b, off, none⟩) len cap] w fun e w' => e = .returned (.tuple #[.int .u32 (numB f len), .int .i64 0]) ∧ w = w' := by
  have HC := Lib.hid hc
  clear hc
  go_enter Try.func27, Try.ntmps27
  go_wp2_with (go_at_call 13; refine (most_ok _ _ (by omega) (by omega)).mono ?_; rintro e w' ⟨rfl, rfl⟩)
  go_loop [6, 20] (fun x i => ∃ k : Nat, k ≤ len ∧ i = .int .i64 k ∧ x = .int .u32 (numB f k)) (fun _ i => len - (intOf i).toNat)
  case atStart => exact ⟨0, by omega, rfl, rfl⟩
  case round =>
    obtain ⟨k, hk, rfl, rfl⟩ := hrel
    by_cases hlt : k < len
    · have hcell := HC.out k hlt
      have hb := numB_lt f k
      have hp := pow_le_16 k (by omega)
      cases hf : f k
      · rw [hf] at hcell
        have hz := or_zero (numB f k) (by omega)
        have HF := Lib.hid hf
        clear hf hb hp
        go_wp2_with (go_at_call 41; refine (truth_any _ _).mono ?_; rintro e w' ⟨rfl, rfl⟩)
        go_round
        case rel => exact ⟨k + 1, by omega, by go_num, by show _ = Value.int .u32 ((numB f k + (if f k then 2 ^ k else 0) : Nat) : Int); rw [HF.out]; rfl⟩
        case measure => simp [intOf]; omega
      · rw [hf] at hcell
        have hz := Lib.hid (or_step f k (by omega) hf)
        have hpi : (0 : Int) ≤ 2 ^ k ∧ (2 : Int) ^ k ≤ 65536 := by
          have e : ((2 : Int) ^ k) = ((2 ^ k : Nat) : Int) := by simp
          rw [e]; omega
        clear hf hb hp
        go_wp2_with (go_at_call 41; refine (truth_any _ _).mono ?_; rintro e w' ⟨rfl, rfl⟩)
        go_round
        case rel => exact ⟨k + 1, by omega, by go_num, by rw [← hz.out]; simp⟩
        case measure => simp [intOf]; omega
    · obtain rfl : k = len := by omega
      go_wp2
      go_ret2
      exact ⟨rfl, rfl⟩
theorem fromBits_bad (v : Option Addr) (len cap : Nat) (h : len < 1 ∨ 16 < len) (hl : len ≤ 9223372036854775807) (w : World) :
    Calls Try.prog 27 #[.slice v len cap] w fun e w' => e = .returned (.tuple #[.int .u32 0, .int .i64 220]) ∧ w = w' := by
  have H : Hid ((len : Int) < 1 ∨ 16 < (len : Int)) := by show _ ∨ _; omega
  clear h
  go_enter Try.func27, Try.ntmps27
  go_wp2_with (go_at_call 13; refine (most_bad _ _ H.out (by omega) (by omega)).mono ?_; rintro e w' ⟨rfl, rfl⟩)
  go_ret2
  exact ⟨rfl, rfl⟩
/-! ### The reference -/
theorem power_ok (n : Int) (h1 : 0 ≤ n) (h2 : n ≤ 60) (w : World) : Calls Try.prog 35 #[.int .i64 n] w fun e w' => e = .returned (.int .i64 (pw n)) ∧ w = w' := by
  obtain ⟨m, rfl⟩ := Int.eq_ofNat_of_zero_le h1
  go_enter Try.func35, Try.ntmps35
  go_wp2
  go_loop [3, 4] (fun x i => ∃ k : Nat, k ≤ m ∧ i = .int .i64 k ∧ x = .int .i64 (2 ^ k)) (fun _ i => m - (intOf i).toNat)
  case atStart => exact ⟨0, by omega, rfl, rfl⟩
  case round =>
    obtain ⟨k, hk, rfl, rfl⟩ := hrel
    by_cases hlt : k < m
    · have hp : (0 : Int) < 2 ^ k := Int.pow_pos (by omega)
      have hp2 : (2 : Int) ^ k ≤ 1152921504606846976 := by
        have : (2 : Nat) ^ k ≤ 2 ^ 60 := Nat.pow_le_pow_right (by omega) (by omega)
        have e : ((2 : Int) ^ k) = ((2 ^ k : Nat) : Int) := by simp
        rw [e]; omega
      go_wp2
      go_round
      case rel => exact ⟨k + 1, by omega, by go_num, by rw [Int.pow_succ]⟩
      case measure => simp [intOf]; omega
    · obtain rfl : k = m := by omega
      go_wp2
      go_ret
      exact ⟨rfl, rfl⟩
theorem rwidth_any (n : Int) (h1 : -9223372036854775808 ≤ n) (h2 : n ≤ 9223372036854775807) (w : World) : Calls Try.prog 31 #[.int .i64 n] w fun e w' => e = .returned (.bool (decide (0 < n) && decide (n < 17))) ∧ w = w' := by
  by_cases h : 0 < n
  · go_enter Try.func31, Try.ntmps31
    go_wp2
    go_ret
    exact ⟨by simp [h], rfl⟩
  · go_enter Try.func31, Try.ntmps31
    go_wp2
    go_ret
    exact ⟨by simp; omega, rfl⟩
theorem rwidth_yes (n : Int) (h1 : 1 ≤ n) (h2 : n ≤ 16) (w : World) : Calls Try.prog 31 #[.int .i64 n] w fun e w' => e = .returned (.bool true) ∧ w = w' :=
  (rwidth_any n (by omega) (by omega) w).mono fun e w' h => ⟨by rw [h.1, show (decide (0 < n) && decide (n < 17)) = true by simp; omega], h.2⟩
theorem rwidth_no (n : Int) (h : n < 1 ∨ 16 < n) (h1 : -9223372036854775808 ≤ n) (h2 : n ≤ 9223372036854775807) (w : World) : Calls Try.prog 31 #[.int .i64 n] w fun e w' => e = .returned (.bool false) ∧ w = w' :=
  (rwidth_any n h1 h2 w).mono fun e w' h' => ⟨by rw [h'.1, show (decide (0 < n) && decide (n < 17)) = false by simp; omega], h'.2⟩
theorem rcut_ok (x n : Int) (h1 : 1 ≤ n) (h2 : n ≤ 16) (hx : 0 ≤ x) (hx' : x ≤ 1152921504606846976) (w : World) : Calls Try.prog 38 #[.int .i64 x, .int .i64 n] w fun e w' => e = .returned (.int .i64 (cutW x n)) ∧ w = w' := by
  have hb := pw_bd n h1 h2
  have hc := cutW_bd x n h1 h2
  have hm := mostW_bd n h1 h2
  have E : x % pw n = cutW x n := rfl
  go_enter Try.func38, Try.ntmps38
  go_wp2_with (go_at_call 35; refine (power_ok _ (by omega) (by omega) _).mono ?_; rintro e w' ⟨rfl, rfl⟩)
  go_ret
  exact ⟨rfl, rfl⟩
theorem rtruth_any (b : Bool) (w : World) : Calls Try.prog 42 #[.bool b] w fun e w' => e = .returned (.int .i64 (if b then 1 else 0)) ∧ w = w' := by
  cases b
  all_goals
    go_enter Try.func42, Try.ntmps42
    go_wp2
    go_ret
    exact ⟨rfl, rfl⟩
end Go.Proofs.Ytfgmcinegogdkaa
