/- LubyConflicts: the walk. -/
import Derived.Test.YtanejldglbkacaaRefRound
namespace Go.Proofs.Ytanejldglbkacaa
open Go Go.RowKit
set_option linter.unusedVariables false
set_option linter.unusedSimpArgs false
set_option maxHeartbeats 4000000
theorem rround_at (u c : Int) (r : Nat) (lf : Int) (u1 : 1 ≤ u) (u2 : u ≤ 65536) (c1 : 0 ≤ c) (c2 : c ≤ 255) (hr : r ≤ 255) (h1 : u * (S r : Int) ≤ c) (h2 : c < u * (S (r + 1) : Int)) (hl : Hid (u * (S (r + 1) : Int) - c = lf)) (w : World) :
    Calls Try.prog 30 #[.int .i64 u, .int .i64 c] w fun e w' => e = .returned (.tuple #[.int .i64 ((r : Int) + 1), .int .i64 lf]) ∧ w = w' := by
  rw [← hl.out]; exact rround_ok u c r u1 u2 c1 c2 hr h1 h2 w
set_option maxRecDepth 100000 in
theorem conflicts_ok (u : Int) (N : Nat) (u1 : 1 ≤ u) (u2 : u ≤ 65536) (hN : N ≤ 255) (w : World) :
    Calls Try.prog 11 #[.int .i64 u, .int .i64 N] w fun e w' => e = .returned (.bool true) ∧ Below w.heap.size w w' := by
  have hS1 : S (0 + 1) = 1 := by decide
  have h0 : Hid (u * (S (0 + 1) : Int) - 0 = u) := by show _ = _; rw [hS1]; simp
  have z1 : u * (S 0 : Int) ≤ 0 := by simp [S]
  have z2 : (0 : Int) < u * (S (0 + 1) : Int) := by rw [hS1]; simp; omega
  clear hS1
  go_enter Try.func11, Try.ntmps11
  go_wp2_with (first | (go_at_call 18; refine (new_ok _ u1 u2 _).mono ?_; rintro e w1 ⟨rfl, hR⟩) | (go_at_call 30; refine (rround_at _ 0 0 u u1 u2 (by omega) (by omega) (by omega) z1 z2 h0 _).mono ?_; rintro e w' ⟨rfl, rfl⟩))
  have hR0 : Rst w w.heap.size w.heap.size u (((0 : Nat) : Int) + 1) (u * (S (0 + 1) : Int) - ((0 : Nat) : Int)) ((0 : Nat) : Int) w1 := by
    have e : u * (S (0 + 1) : Int) - ((0 : Nat) : Int) = u := h0.out
    rw [e]; exact hR
  clear hR
  generalize hbz : w.heap.size = bz at hR0 ⊢
  go_loopw [7, 8, 42] (fun a b i wr => ∃ k r : Nat, k ≤ N ∧ r ≤ k ∧ i = .int .i64 k ∧ a = .int .i64 ((r : Int) + 1) ∧ b = .int .i64 (u * (S (r + 1) : Int) - k) ∧ Hid (u * (S r : Int) ≤ k) ∧ (k : Int) + 1 ≤ u * (S (r + 1) : Int) ∧ Rst w bz bz u ((r : Int) + 1) (u * (S (r + 1) : Int) - k) k wr) (fun _ _ i _ => N - (intOf i).toNat)
  case atStart => exact ⟨0, 0, by omega, by omega, rfl, rfl, by rw [show u * (S (0 + 1) : Int) - ((0 : Nat) : Int) = u from h0.out], Lib.hid z1, by omega, hR0⟩
  case round =>
    clear hR0 h0 z1 z2
    obtain ⟨k, r, hk, hrk, rfl, rfl, rfl, hlo, hhi, hR⟩ := hrel
    have b2 := S_small (r + 1) (by omega)
    have m2 := mul_bd u (S (r + 1)) u1 u2 (by omega)
    by_cases hlt : k < N
    · by_cases hl : (k : Int) + 2 ≤ u * (S (r + 1) : Int)
      · have hx : Hid (u * (S (r + 1) : Int) - ((k : Int) + 1) = u * (S (r + 1) : Int) - k - 1) := by show _ = _; omega
        go_wp2_with (first | (go_at_call 19; refine (conflict_no hR (by omega) (by omega) (by omega) (by omega)).mono ?_; rintro e w2 ⟨rfl, hR2⟩) | (go_at_call 20; refine (count_ok hR).mono ?_; rintro e w' ⟨rfl, rfl⟩) | (go_at_call 21; refine (round_ok hR).mono ?_; rintro e w' ⟨rfl, rfl⟩) | (go_at_call 22; refine (left_ok hR).mono ?_; rintro e w' ⟨rfl, rfl⟩) | (go_at_call 30; refine (rround_at _ _ r _ u1 u2 (by omega) (by omega) (by omega) (by have := hlo.out; omega) (by omega) hx _).mono ?_; rintro e w' ⟨rfl, rfl⟩))
        go_roundw
        case rel =>
          have e1 : u * (S (r + 1) : Int) - ((k + 1 : Nat) : Int) = u * (S (r + 1) : Int) - k - 1 := by omega
          exact ⟨k + 1, r, by omega, by omega, by go_num, rfl, by rw [e1], Lib.hid (by have := hlo.out; omega), by omega, by rw [e1]; exact hR2⟩
        case measure => simp [intOf]; omega
      · have hq : u * (S (r + 1) : Int) = (k : Int) + 1 := by omega
        have hR1 : Rst w bz bz u ((r : Int) + 1) 1 k wr := by
          have e : u * (S (r + 1) : Int) - (k : Int) = 1 := by omega
          rw [e] at hR; exact hR
        have e1 : u * (S (r + 1) : Int) - (k : Int) = 1 := by omega
        rw [e1]
        have b3 := S_small (r + 1 + 1) (by omega)
        have m3 := mul_bd u (S (r + 1 + 1)) u1 u2 (by omega)
        have hL1 := L_pos (r + 1 + 1) (by omega)
        have es : u * (S (r + 1 + 1) : Int) = u * (S (r + 1) : Int) + u * (L (r + 1 + 1) : Int) := by
          have : S (r + 1 + 1) = S (r + 1) + L (r + 1 + 1) := rfl
          rw [this, Int.natCast_add, Int.mul_add]
        have hp : 1 * 1 ≤ u * (L (r + 1 + 1) : Int) := Int.mul_le_mul u1 (by omega) (by omega) (by omega)
        have hx : Hid (u * (S (r + 1 + 1) : Int) - ((k : Int) + 1) = u * (L (r + 1 + 1) : Int)) := by show _ = _; omega
        have hlo2 : Hid (u * (S (r + 1) : Int) ≤ (k : Int) + 1) := by show _ ≤ _; omega
        have hhi2 : (k : Int) + 1 < u * (S (r + 1 + 1) : Int) := by omega
        have m4 : 0 ≤ u * (L (r + 1 + 1) : Int) ∧ u * (L (r + 1 + 1) : Int) ≤ 301989888 := by omega
        have hc2 : Hid ((r : Int) + 1 = ((r + 1 : Nat) : Int)) := by show _ = _; omega
        have hc3 : Hid (((r + 1 : Nat) : Int) + 1 = (r : Int) + 1 + 1) := by show _ = _; omega
        clear hq e1 es hlo hhi hl hR
        go_wp2_with (first | (go_at_call 19; refine (conflict_yes (r + 1) hR1 hc2.out (by omega) (by omega) (by omega) (by omega) (by omega) (by omega)).mono ?_; rintro e w2 ⟨rfl, hR2⟩) | (go_at_call 20; refine (count_ok hR1).mono ?_; rintro e w' ⟨rfl, rfl⟩) | (go_at_call 21; refine (round_ok hR1).mono ?_; rintro e w' ⟨rfl, rfl⟩) | (go_at_call 22; refine (left_ok hR1).mono ?_; rintro e w' ⟨rfl, rfl⟩) | (go_at_call 30; refine (rround_at _ _ (r + 1) _ u1 u2 (by omega) (by omega) (by omega) hlo2.out hhi2 hx _).mono ?_; rw [hc3.out]; rintro e w' ⟨rfl, rfl⟩))
        go_roundw
        case rel =>
          have e1 : u * (S (r + 1 + 1) : Int) - ((k + 1 : Nat) : Int) = u * (L (r + 1 + 1) : Int) := by have := hx.out; omega
          exact ⟨k + 1, r + 1, by omega, by omega, by go_num, by rw [hc3.out], by rw [e1], Lib.hid (by have := hlo2.out; omega), by omega, by rw [e1, hc3.out]; exact hR2⟩
        case measure => simp [intOf]; omega
    · obtain rfl : k = N := by omega
      go_wp2_with (first | (go_at_call 20; refine (count_ok hR).mono ?_; rintro e w' ⟨rfl, rfl⟩) | (go_at_call 21; refine (round_ok hR).mono ?_; rintro e w' ⟨rfl, rfl⟩) | (go_at_call 22; refine (left_ok hR).mono ?_; rintro e w' ⟨rfl, rfl⟩))
      go_ret
      exact ⟨rfl, by rw [hbz]; exact hR.2.2⟩
theorem conflicts_bad (u n : Int) (h : u < 1 ∨ 65536 < u) (w : World) :
    Calls Try.prog 11 #[.int .i64 u, .int .i64 n] w fun e w' => e = .returned (.bool true) ∧ Below w.heap.size w w' := by
  rcases h with h | h
  · go_enter Try.func11, Try.ntmps11
    go_wp2_with (go_at_call 18; refine (new_bad _ (.inl h) _).mono ?_; rintro e w' ⟨rfl, rfl⟩)
    go_ret
    exact ⟨rfl, Below.refl _ _⟩
  · have h' : ¬ u < 1 := by omega
    go_enter Try.func11, Try.ntmps11
    go_wp2_with (go_at_call 18; refine (new_bad _ (.inr h) _).mono ?_; rintro e w' ⟨rfl, rfl⟩)
    go_ret
    exact ⟨rfl, Below.refl _ _⟩
theorem conflicts_any (u n : Int) (n1 : 0 ≤ n) (n2 : n ≤ 255) (w : World) :
    Calls Try.prog 11 #[.int .i64 u, .int .i64 n] w fun e w' => e = .returned (.bool true) ∧ Below w.heap.size w w' := by
  obtain ⟨N, rfl⟩ := Int.eq_ofNat_of_zero_le n1
  by_cases h : 1 ≤ u ∧ u ≤ 65536
  · exact conflicts_ok u N h.1 h.2 (by omega) w
  · exact conflicts_bad u N (by omega) w
theorem law_conflicts (u n : Int) (n1 : 0 ≤ n) (n2 : n ≤ 255) (w : World) :
    Calls Try.prog 3 #[.int .i64 u, .int .u8 n] w fun e w' => e = .returned (.bool true) ∧ Below w.heap.size w w' := by
  go_enter Try.func3, Try.ntmps3
  go_wp2_with (first | (go_at_call 11; refine (conflicts_any _ _ n1 n2 _).mono ?_; rintro e w1 ⟨rfl, hB⟩) | (go_at_call 12; refine (awake_ok _).mono ?_; rintro e w2 ⟨rfl, hB2⟩))
  go_ret
  exact ⟨rfl, hB.trans (hB2.mono hB.size)⟩
end Go.Proofs.Ytanejldglbkacaa
