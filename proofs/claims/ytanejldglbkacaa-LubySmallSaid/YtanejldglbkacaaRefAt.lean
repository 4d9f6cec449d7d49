/- The reference's At: it returns the same numbers. -/
import Derived.Test.YtanejldglbkacaaDoubles
namespace Go.Proofs.Ytanejldglbkacaa
open Go Go.RowKit
set_option linter.unusedVariables false
set_option linter.unusedSimpArgs false
set_option maxHeartbeats 4000000
theorem rat_ok (n : Nat) : n ≤ 1099511627776 → ∀ w : World, Calls Try.prog 29 #[.int .i64 n] w fun e w' => e = .returned (.int .i64 (L n : Int)) ∧ w = w' := by
  induction n using Nat.strongRecOn with
  | ind n ih =>
    intro hn w
    by_cases hz : n = 0
    · subst hz
      have h0 : L 0 = 0 := rfl
      rw [h0]
      simp only [show ((0 : Nat) : Int) = 0 from rfl]
      go_enter Try.func29, Try.ntmps29
      go_wp2
      go_ret
      exact ⟨rfl, rfl⟩
    · have h1 : 1 ≤ n := by omega
      clear hz
      replace ih := Lib.hid ih
      go_enter Try.func29, Try.ntmps29
      go_wp2
      go_loop [3, 4] (fun a b => ∃ h k : Nat, 1 ≤ h ∧ h ≤ 1099511627776 ∧ Hid (h = 2 ^ k) ∧ a = .int .i64 (2 * (h : Int) - 1) ∧ b = .int .i64 h ∧ 2 * h ≤ n + 1) (fun a _ => n - (intOf a).toNat)
      case atStart => exact ⟨1, 0, by omega, by omega, rfl, rfl, rfl, by omega⟩
      case round =>
        obtain ⟨h, k, a1, a2, hk, rfl, rfl, a3⟩ := hrel
        by_cases hlt : 2 * h < n + 1
        · by_cases h4 : n + 1 < 4 * h
          · have e : hf n = h := by rw [hk.out]; exact hf_unique n k h1 (by rw [← hk.out]; omega) (by rw [← hk.out]; omega)
            have hL : Hid (L n = L (n - (2 * h - 1))) := by show _ = _; rw [L_rest n h1 (by rw [e]; omega), e]
            have hi := ih.out (n - (2 * h - 1)) (by omega) (by omega)
            have hc : Hid ((n : Int) - (2 * (h : Int) - 1) = ((n - (2 * h - 1) : Nat) : Int)) := by show _ = _; omega
            clear e hk
            go_wp2_with (go_at_call 29; rw [hc.out]; refine (hi _).mono ?_; rintro e w' ⟨rfl, rfl⟩)
            go_ret
            exact ⟨by rw [hL.out]; rfl, rfl⟩
          · have e : Hid (h * 2 = 2 ^ (k + 1)) := by show _ = _; rw [hk.out, Nat.pow_succ]
            clear hk
            go_wp2
            go_round
            case rel => exact ⟨h * 2, k + 1, by omega, by omega, e, by congr 1; omega, by congr 1; omega, by omega⟩
            case measure => simp [intOf]; omega
        · have hL : Hid (L n = h) := by
            show _ = _
            have e : hf n = h := by rw [hk.out]; exact hf_unique n k h1 (by rw [← hk.out]; omega) (by rw [← hk.out]; omega)
            rw [L_full n h1 (by rw [e]; omega), e]
          clear hk
          go_wp2
          go_ret
          exact ⟨by rw [hL.out]; rfl, rfl⟩
end Go.Proofs.Ytanejldglbkacaa
