/- LubyRestarts: the walk. -/
import Derived.Test.YtanejldglbkacaaAwake
namespace Go.Proofs.Ytanejldglbkacaa
open Go Go.RowKit
set_option linter.unusedVariables false
set_option linter.unusedSimpArgs false
set_option maxHeartbeats 4000000
theorem S_small (r : Nat) (h : r ≤ 260) : S r ≤ 2304 := by
  have h1 := S_mono r (2 * 2 ^ 8 - 1) (by omega)
  rw [S_block 8] at h1
  omega
/-- What is left in round r + 1 behind k conflicts. -/
theorem mul_bd (u : Int) (m : Nat) (h1 : 1 ≤ u) (h2 : u ≤ 65536) (hm : m ≤ 4608) : 0 ≤ u * (m : Int) ∧ u * (m : Int) ≤ 301989888 := by
  refine ⟨Int.mul_nonneg (by omega) (by omega), ?_⟩
  have : u * (m : Int) ≤ 65536 * 4608 := Int.mul_le_mul h2 (by omega) (by omega) (by omega)
  omega
set_option maxRecDepth 100000 in
theorem law_restarts (a n : Int) (a1 : 0 ≤ a) (a2 : a ≤ 65535) (n1 : 0 ≤ n) (n2 : n ≤ 255) (w : World) :
    Calls Try.prog 6 #[.int .u16 a, .int .u8 n] w fun e w' => e = .returned (.bool true) ∧ Below w.heap.size w w' := by
  obtain ⟨N, rfl⟩ := Int.eq_ofNat_of_zero_le n1
  go_enter Try.func6, Try.ntmps6
  go_wp2_with (go_at_call 18; refine (new_ok _ (by omega) (by omega) _).mono ?_; rintro e w1 ⟨rfl, hR⟩)
  have u1 : 1 ≤ 1 + a := by omega
  have u2 : 1 + a ≤ 65536 := by omega
  have hR0 : Rst w w.heap.size w.heap.size (1 + a) ((0 : Nat) + 1 : Int) ((1 + a) * ((S 0 : Int) + (L (0 + 1) : Int)) - (0 : Nat)) (0 : Nat) w1 := by
    have e : (1 + a) * ((S 0 : Int) + (L (0 + 1) : Int)) - ((0 : Nat) : Int) = 1 + a := by
      have h1 : L (0 + 1) = 1 := by decide
      have h2 : S 0 = 0 := rfl
      rw [h1, h2]; simp
    rw [e]; exact hR
  clear hR
  generalize hbz : w.heap.size = bz at hR0 ⊢
  go_loopw [8, 32] (fun e i wr => ∃ k r : Nat, k ≤ N ∧ r ≤ k ∧ i = .int .i64 k ∧ e = .int .i64 r ∧ (1 + a) * (S r : Int) ≤ k ∧ (k : Int) + 1 ≤ (1 + a) * ((S r : Int) + (L (r + 1) : Int)) ∧ Rst w bz bz (1 + a) ((r : Int) + 1) ((1 + a) * ((S r : Int) + (L (r + 1) : Int)) - k) k wr) (fun _ i _ => N - (intOf i).toNat)
  case atStart =>
    refine ⟨0, 0, by omega, by omega, rfl, rfl, ?_, ?_, hR0⟩
    · have h2 : S 0 = 0 := rfl
      rw [h2]; simp
    · have h1 : L (0 + 1) = 1 := by decide
      have h2 : S 0 = 0 := rfl
      rw [h1, h2]; simp; omega
  case round =>
    clear hR0
    obtain ⟨k, r, hk, hrk, rfl, rfl, hlo, hhi, hR⟩ := hrel
    by_cases hlt : k < N
    · have hS := S_small r (by omega)
      have hS1 : S (r + 1) = S r + L (r + 1) := rfl
      have hS1' := S_small (r + 1) (by omega)
      have hQ := mul_bd (1 + a) (S r + L (r + 1)) u1 u2 (by omega)
      have hP := mul_bd (1 + a) (S r) u1 u2 (by omega)
      rw [Int.natCast_add] at hQ
      by_cases hl : (k : Int) + 2 ≤ (1 + a) * ((S r : Int) + (L (r + 1) : Int))
      · have t2 : ((1 + a) * (S r : Int) == (k : Int) + 1) = false := beq_eq_false_iff_ne.2 (by omega)
        have hSL : (S r : Int) + (L (r + 1) : Int) ≤ 2304 := by omega
        clear hS1 hS1'
        go_wp2_with (first | (go_at_call 19; refine (conflict_no hR (by omega) (by omega) (by omega) (by omega)).mono ?_; rintro e w2 ⟨rfl, hR2⟩) | (go_at_call 20; refine (count_ok hR2).mono ?_; rintro e w' ⟨rfl, rfl⟩) | (go_at_call 14; refine (sum_at _ r rfl (by omega) _).mono ?_; rintro e w3 ⟨rfl, hb3⟩; replace hR2 := hR2.keep hb3) | (go_at_call 13; refine (at_at _ (r + 1) (by omega) (by omega) (by omega) _).mono ?_; rintro e w' ⟨rfl, rfl⟩) | (go_at_call 21; refine (round_ok hR2).mono ?_; rintro e w' ⟨rfl, rfl⟩) | (go_at_call 22; refine (left_ok hR2).mono ?_; rintro e w' ⟨rfl, rfl⟩))
        go_roundw
        case rel => exact ⟨k + 1, r, by omega, by omega, by go_num, rfl, by omega, by omega, by
          have e1 : ((k + 1 : Nat) : Int) = k + 1 := by omega
          rw [e1, ← Int.sub_sub]; exact hR2⟩
        case measure => simp [intOf]; omega
      · have hq : (1 + a) * ((S r : Int) + (L (r + 1) : Int)) = (k : Int) + 1 := by omega
        have hR1 : Rst w bz bz (1 + a) ((r : Int) + 1) 1 k wr := by
          have e : (1 + a) * ((S r : Int) + (L (r + 1) : Int)) - (k : Int) = 1 := by omega
          rw [e] at hR; exact hR
        have hS2 : S (r + 1 + 1) = S (r + 1) + L (r + 1 + 1) := rfl
        have hS2' := S_small (r + 1 + 1) (by omega)
        have hP' := mul_bd (1 + a) (S (r + 1)) u1 u2 (by omega)
        have hL' := mul_bd (1 + a) (L (r + 1 + 1)) u1 u2 (by omega)
        have hQ' := mul_bd (1 + a) (S (r + 1) + L (r + 1 + 1)) u1 u2 (by omega)
        have hSL : (S (r + 1) : Int) + (L (r + 1 + 1) : Int) ≤ 2304 := by omega
        have hp : (1 + a) * (S (r + 1) : Int) = (k : Int) + 1 := by rw [hS1, Int.natCast_add]; exact hq
        have hx : Hid ((1 + a) * (L (r + 1 + 1) : Int) = (1 + a) * ((S (r + 1) : Int) + (L (r + 1 + 1) : Int)) - k - 1) := by
          show _ = _
          rw [Int.mul_add]; omega
        have hL1 := L_pos (r + 1 + 1) (by omega)
        have hnew : (k : Int) + 1 + 1 ≤ (1 + a) * ((S (r + 1) : Int) + (L (r + 1 + 1) : Int)) := by
          have h9 : 1 * 1 ≤ (1 + a) * (L (r + 1 + 1) : Int) := Int.mul_le_mul u1 (by omega) (by omega) (by omega)
          rw [Int.mul_add]; omega
        have t1 : ((1 + a) * (S (r + 1) : Int) == (k : Int) + 1) = true := beq_iff_eq.2 hp
        have t4 : (1 + a) * (S (r + 1) : Int) ≤ (k : Int) + 1 := by omega
        have hcast : Hid ((((r + 1 : Nat) : Int)) + 1 = (r : Int) + 1 + 1) := by show _ = _; omega
        have hcast2 : Hid ((r : Int) + 1 = ((r + 1 : Nat) : Int)) := by show _ = _; omega
        rw [Int.natCast_add] at hQ'
        clear hS2 hS2' hS1 hR hq hp hl hQ hP hlo hhi
        go_wp2_with (first | (go_at_call 19; refine (conflict_yes (r + 1) hR1 hcast2.out (by omega) (by omega) (by omega) (by omega) (by omega) (by omega)).mono ?_; rw [hx.out]; rintro e w2 ⟨rfl, hR2⟩) | (go_at_call 20; refine (count_ok hR2).mono ?_; rintro e w' ⟨rfl, rfl⟩) | (go_at_call 14; refine (sum_at _ (r + 1) hcast2.out (by omega) _).mono ?_; rintro e w3 ⟨rfl, hb3⟩; replace hR2 := hR2.keep hb3) | (go_at_call 13; refine (at_at _ (r + 1 + 1) (by omega) (by omega) (by omega) _).mono ?_; rintro e w' ⟨rfl, rfl⟩) | (go_at_call 21; refine (round_ok hR2).mono ?_; rintro e w' ⟨rfl, rfl⟩) | (go_at_call 22; refine (left_ok hR2).mono ?_; rintro e w' ⟨rfl, rfl⟩))
        go_roundw
        case rel => exact ⟨k + 1, r + 1, by omega, by omega, by go_num, by go_num, by omega, by omega, by
          have e1 : ((k + 1 : Nat) : Int) = k + 1 := by omega
          rw [hcast.out, e1, ← Int.sub_sub]; exact hR2⟩
        case measure => simp [intOf]; omega
    · obtain rfl : k = N := by omega
      clear hlt hlo hhi
      go_wp2_with (go_at_call 12; refine (awake_ok _).mono ?_; rintro e w4 ⟨rfl, hb3⟩)
      go_ret
      exact ⟨rfl, by rw [hbz]; exact (hR.keep hb3).2.2⟩
end Go.Proofs.Ytanejldglbkacaa
