/- block, At, right: what they return. -/
import Derived.Test.YtanejldglbkacaaPlain
import Derived.Test.YtanejldglbkacaaProg
import Derived.WalkLawsBesides
import Derived.WalkSpells
import Derived.Handy
import Derived.Lib.Hide
import Derived.BigQuiet
import Derived.WalkMore
import Derived.Laws.BitsAllLaws
namespace Go.Proofs.Ytanejldglbkacaa
open Go Go.RowKit
set_option linter.unusedVariables false
set_option linter.unusedSimpArgs false
set_option maxHeartbeats 2000000
theorem hf_bd (n : Nat) (h1 : 1 ≤ n) (h2 : n ≤ 1099511627776) : 1 ≤ (hf n : Int) ∧ (hf n : Int) ≤ 549755813888 ∧ 2 * (hf n : Int) ≤ n + 1 := by
  have := hf_pos n
  have := hf_le n h1
  omega
theorem block_ok (n : Nat) (h1 : 1 ≤ n) (h2 : n ≤ 1099511627776) (w : World) :
    Calls Try.prog 31 #[.int .i64 n] w fun e w' => e = .returned (.tuple #[.int .i64 (2 * (hf n : Int) - 1), .int .i64 (hf n : Int)]) ∧ w = w' := by
  go_enter Try.func31, Try.ntmps31
  go_wp2
  go_loop [4] (fun i => ∃ h k : Nat, 1 ≤ h ∧ h ≤ 1099511627776 ∧ h = 2 ^ k ∧ i = .int .i64 h ∧ 2 * h ≤ n + 1) (fun i => n + 1 - (intOf i).toNat)
  case atStart => exact ⟨1, 0, by omega, by omega, rfl, rfl, by omega⟩
  case round =>
    obtain ⟨h, k, a1, a2, hk0, rfl, a3⟩ := hrel
    have hk := Lib.hid hk0
    clear hk0
    by_cases hlt : 4 * h ≤ n + 1
    · go_wp2
      go_round
      case rel => exact ⟨h * 2, k + 1, by omega, by omega, by rw [hk.out, Nat.pow_succ], by go_num, by omega⟩
      case measure => simp [intOf]; omega
    · have e : hf n = h := by rw [hk.out]; exact hf_unique n k h1 (by rw [← hk.out]; omega) (by rw [← hk.out]; omega)
      rw [← e] at a1 a2 a3 hlt ⊢
      clear hk
      replace e := Lib.hid e
      go_wp2
      go_ret2
      exact ⟨rfl, rfl⟩
theorem at_ok (n : Nat) (h1 : 1 ≤ n) (h2 : n ≤ 1099511627776) (w : World) :
    Calls Try.prog 13 #[.int .i64 n] w fun e w' => e = .returned (.tuple #[.int .i64 (L n : Int), .int .i64 0]) ∧ w = w' := by
  go_enter Try.func13, Try.ntmps13
  go_wp2; go_step3; go_wp2; go_step3; go_wp2
  go_loop [0] (fun i => ∃ m : Nat, 1 ≤ m ∧ m ≤ n ∧ i = .int .i64 m ∧ Hid (L n = L m)) (fun i => (intOf i).toNat)
  case atStart => exact ⟨n, h1, by omega, rfl, rfl⟩
  case round =>
    obtain ⟨m, m1, m2, rfl, hL⟩ := hrel
    have hb := hf_bd m m1 (by omega)
    by_cases he : 2 * (hf m : Int) - 1 = m
    · have hv : Hid (hf m = L n) := by show _ = _; rw [hL.out, L_full m m1 (by omega)]
      go_wp2_with (go_at_call 31; refine (block_ok _ m1 (by omega) _).mono ?_; rintro e w' ⟨rfl, rfl⟩)
      rw [Exit.noGoto_ret]
      go_ret2
      exact ⟨by rw [hv.out]; rfl, rfl⟩
    · have hv : Hid (L n = L (m - (2 * hf m - 1))) := by show _ = _; rw [hL.out, L_rest m m1 (by omega)]
      go_wp2_with (go_at_call 31; refine (block_ok _ m1 (by omega) _).mono ?_; rintro e w' ⟨rfl, rfl⟩)
      go_round
      case rel => exact ⟨m - (2 * hf m - 1), by omega, by omega, by congr 1; omega, hv⟩
      case measure => simp [intOf]; omega
theorem at_bad (n : Int) (h : n < 1 ∨ 1099511627776 < n) (w : World) :
    Calls Try.prog 13 #[.int .i64 n] w fun e w' => e = .returned (.tuple #[.int .i64 0, .int .i64 120]) ∧ w = w' := by
  rcases h with h | h
  · go_enter Try.func13, Try.ntmps13
    go_wp2; go_step3; go_wp2
    rw [Exit.noGoto_ret]
    go_ret2
    exact ⟨rfl, rfl⟩
  · have h' : ¬ n < 1 := by omega
    go_enter Try.func13, Try.ntmps13
    go_wp2; go_step3; go_wp2
    rw [Exit.noGoto_ret]
    go_ret2
    exact ⟨rfl, rfl⟩
theorem right_yes (n : Int) (h1 : 0 ≤ n) (h2 : n ≤ 1099511627776) (w : World) : Calls Try.prog 32 #[.int .i64 n] w fun e w' => e = .returned (.bool true) ∧ w = w' := by
  go_enter Try.func32, Try.ntmps32
  go_wp2
  go_ret
  exact ⟨rfl, rfl⟩
theorem right_no (n : Int) (h : n < 0 ∨ 1099511627776 < n) (w : World) : Calls Try.prog 32 #[.int .i64 n] w fun e w' => e = .returned (.bool false) ∧ w = w' := by
  rcases h with h | h
  · go_enter Try.func32, Try.ntmps32
    go_wp2
    go_ret
    exact ⟨rfl, rfl⟩
  · have h' : 0 ≤ n := by omega
    have h3 : decide (n ≤ 1099511627776) = false := by simp; omega
    go_enter Try.func32, Try.ntmps32
    go_wp2
    go_ret
    exact ⟨rfl, rfl⟩
end Go.Proofs.Ytanejldglbkacaa
