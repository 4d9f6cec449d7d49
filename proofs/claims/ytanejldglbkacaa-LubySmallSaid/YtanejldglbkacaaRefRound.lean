/- The reference's Round. -/
import Derived.Test.YtanejldglbkacaaRefAt
import Derived.Test.YtanejldglbkacaaRestarts
namespace Go.Proofs.Ytanejldglbkacaa
open Go Go.RowKit
set_option linter.unusedVariables false
set_option linter.unusedSimpArgs false
set_option maxHeartbeats 4000000
theorem rat_at (x : Int) (n : Nat) (hx : x = n) (h : n ≤ 1099511627776) (w : World) : Calls Try.prog 29 #[.int .i64 x] w fun e w' => e = .returned (.int .i64 (L n : Int)) ∧ w = w' := by
  subst hx; exact rat_ok n h w
theorem rround_ok (u c : Int) (r : Nat) (u1 : 1 ≤ u) (u2 : u ≤ 65536) (c1 : 0 ≤ c) (c2 : c ≤ 255) (hr : r ≤ 255) (h1 : u * (S r : Int) ≤ c) (h2 : c < u * (S (r + 1) : Int)) (w : World) :
    Calls Try.prog 30 #[.int .i64 u, .int .i64 c] w fun e w' => e = .returned (.tuple #[.int .i64 ((r : Int) + 1), .int .i64 (u * (S (r + 1) : Int) - c)]) ∧ w = w' := by
  have H1 := Lib.hid h1
  have H2 := Lib.hid h2
  clear h1 h2
  go_enter Try.func30, Try.ntmps30
  go_wp2
  go_loop [1, 6] (fun a b => ∃ i : Nat, i ≤ r ∧ a = .int .i64 (c - u * (S i : Int)) ∧ b = .int .i64 ((i : Int) + 1)) (fun _ b => r + 2 - (intOf b).toNat)
  case atStart => exact ⟨0, by omega, by simp [S], rfl⟩
  case round =>
    obtain ⟨i, hi, rfl, rfl⟩ := hrel
    have b1 := S_small i (by omega)
    have b2 := S_small (i + 1) (by omega)
    have e : S (i + 1) = S i + L (i + 1) := rfl
    have m1 := mul_bd u (S i) u1 u2 (by omega)
    have m2 := mul_bd u (L (i + 1)) u1 u2 (by omega)
    have es : u * (S (i + 1) : Int) = u * (S i : Int) + u * (L (i + 1) : Int) := by rw [e, Int.natCast_add, Int.mul_add]
    by_cases hlt : i < r
    · have hm : S (i + 1) ≤ S r := S_mono _ _ (by omega)
      have hge : u * (L (i + 1) : Int) ≤ c - u * (S i : Int) := by
        have h3 : u * (S (i + 1) : Int) ≤ u * (S r : Int) := Int.mul_le_mul_of_nonneg_left (by omega) (by omega)
        have := H1.out
        omega
      have hes : Hid (c - u * (S i : Int) - u * (L (i + 1) : Int) = c - u * (S (i + 1) : Int)) := by show _ = _; omega
      clear es e hm
      go_wp2_with (go_at_call 29; refine (rat_at _ (i + 1) (by omega) (by omega) _).mono ?_; rintro e w' ⟨rfl, rfl⟩)
      go_round
      case rel => exact ⟨i + 1, by omega, by rw [hes.out], by go_num⟩
      case measure => simp [intOf]; omega
    · obtain rfl : i = r := by omega
      have hlt2 : c - u * (S i : Int) < u * (L (i + 1) : Int) := by have := H2.out; omega
      have hes : Hid (u * (L (i + 1) : Int) - (c - u * (S i : Int)) = u * (S (i + 1) : Int) - c) := by show _ = _; omega
      have hlo := H1.out
      clear es e hlt
      go_wp2_with (go_at_call 29; refine (rat_at _ (i + 1) (by omega) (by omega) _).mono ?_; rintro e w' ⟨rfl, rfl⟩)
      go_ret2
      exact ⟨by rw [hes.out]; rfl, rfl⟩
end Go.Proofs.Ytanejldglbkacaa
