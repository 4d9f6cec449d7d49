/- blocks: what it does with each of the closures. -/
import Derived.Test.YtanejldglbkacaaB
namespace Go.Proofs.Ytanejldglbkacaa
open Go Go.RowKit
set_option linter.unusedVariables false
set_option linter.unusedSimpArgs false
set_option maxHeartbeats 4000000
theorem blocks_sum (w0 w : World) (base b : Nat) (n : Nat) (hn : n ≤ 1099511627776) (h : Acc w0 base b 0 w) :
    Calls Try.prog 33 #[.int .i64 n, .func (.func 34) #[] #[.pointer (some ⟨b, 0, none⟩)]] w fun e w' => e = .returned (.tuple #[]) ∧ Acc w0 base b (S n : Int) w' := by
  go_enter Try.func33, Try.ntmps33
  go_wp2
  go_loopw [0] (fun i wr => ∃ m : Nat, ∃ c : Int, m ≤ n ∧ i = .int .i64 m ∧ Hid (c + (S m : Int) = S n) ∧ (0 ≤ c ∧ c ≤ 45079976738816) ∧ Acc w0 base b c wr) (fun i _ => (intOf i).toNat)
  case atStart => exact ⟨n, 0, by omega, rfl, Lib.hid (by omega), ⟨by omega, by omega⟩, h⟩
  case round =>
    clear h
    obtain ⟨m, c, hm, rfl, hc, hb, h⟩ := hrel
    by_cases hz : m = 0
    · subst hz
      simp only [show ((0 : Nat) : Int) = 0 from rfl]
      have hcc : c = (S n : Int) := by have := hc.out; simp only [S] at this; omega
      rw [hcc] at h
      go_wp2
      go_end0
      exact ⟨rfl, h⟩
    · have m1 : 1 ≤ m := by omega
      have hbd := hf_bd m m1 (by omega)
      obtain ⟨k, hk⟩ := hf_is m
      have hk40 : k ≤ 40 := by
        have h9 : (2 : Nat) ^ k ≤ 2 ^ 40 := by omega
        exact (Nat.pow_le_pow_iff_right (by omega)).1 h9
      have hp := p2_le k hk40
      have hst := S_step m k m1 hk
      have hkk : Hid (((hf m : Nat) : Int) = ((2 ^ k : Nat) : Int)) := by show _ = _; rw [hk]
      have hmm : m - (2 * 2 ^ k - 1) = m - (2 * hf m - 1) := by rw [hk]
      rw [hmm] at hst
      have hx : (k : Int) * ((hf m : Nat) : Int) = ((k * 2 ^ k : Nat) : Int) := by rw [hk]; simp
      have hx2 : ((k : Int) + 1) * ((hf m : Nat) : Int) = (k : Int) * ((hf m : Nat) : Int) + ((hf m : Nat) : Int) := by rw [Int.add_mul]; omega
      rw [Nat.add_mul] at hst
      have hSn := S_top n hn
      have hc2 : Hid (c + ((k : Int) + 1) * ((hf m : Nat) : Int) + (S (m - (2 * hf m - 1)) : Int) = S n) := by show _ = _; have := hc.out; have := hkk.out; omega
      have hb2 : 0 ≤ c + ((k : Int) + 1) * ((hf m : Nat) : Int) ∧ c + ((k : Int) + 1) * ((hf m : Nat) : Int) ≤ 45079976738816 := by have := hc.out; have := hkk.out; omega
      have hmi : (m : Int) - (2 * ((hf m : Nat) : Int) - 1) = ((m - (2 * hf m - 1) : Nat) : Int) := by omega
      replace hmi := Lib.hid hmi
      clear hst hmm hk hp hc hz
      go_wp2_with (first | (go_at_call 31; refine (block_ok _ m1 (by omega) _).mono ?_; rintro e w' ⟨rfl, rfl⟩) | (go_at_call 34; refine (sum1_ok _ _ _ _ k _ _ _ hkk hk40 (by omega) (by omega) hb.1 (by omega) h).mono ?_; rintro e w2 ⟨rfl, h2⟩))
      go_roundw
      case rel => exact ⟨m - (2 * hf m - 1), c + ((k : Int) + 1) * ((hf m : Nat) : Int), by omega, by rw [hmi.out], hc2, hb2, h2⟩
      case measure => simp [intOf]; omega
theorem blocks_great (w0 w : World) (base b : Nat) (n : Nat) (hn : n ≤ 1099511627776) (h : Acc w0 base b 0 w) :
    Calls Try.prog 33 #[.int .i64 n, .func (.func 35) #[] #[.pointer (some ⟨b, 0, none⟩)]] w fun e w' => e = .returned (.tuple #[]) ∧ Acc w0 base b (G n : Int) w' := by
  go_enter Try.func33, Try.ntmps33
  go_wp2
  go_loopw [0] (fun i wr => ∃ m : Nat, ∃ c : Int, m ≤ n ∧ i = .int .i64 m ∧ Hid (max c (G m : Int) = G n) ∧ (0 ≤ c) ∧ Acc w0 base b c wr) (fun i _ => (intOf i).toNat)
  case atStart => exact ⟨n, 0, by omega, rfl, Lib.hid (by omega), by omega, h⟩
  case round =>
    clear h
    obtain ⟨m, c, hm, rfl, hc, hb, h⟩ := hrel
    by_cases hz : m = 0
    · subst hz
      simp only [show ((0 : Nat) : Int) = 0 from rfl]
      have hcc : c = (G n : Int) := by have := hc.out; simp only [G] at this; omega
      rw [hcc] at h
      go_wp2
      go_end0
      exact ⟨rfl, h⟩
    · have m1 : 1 ≤ m := by omega
      have hbd := hf_bd m m1 (by omega)
      obtain ⟨k, hk⟩ := hf_is m
      have hk40 : k ≤ 40 := by
        have h9 : (2 : Nat) ^ k ≤ 2 ^ 40 := by omega
        exact (Nat.pow_le_pow_iff_right (by omega)).1 h9
      have hp := p2_le k hk40
      have hst := G_step m k m1 hk
      have hkk : Hid (((hf m : Nat) : Int) = ((2 ^ k : Nat) : Int)) := by show _ = _; rw [hk]
      have hmm : m - (2 * 2 ^ k - 1) = m - (2 * hf m - 1) := by rw [hk]
      rw [hmm] at hst
      have hc2 : Hid (max (max c ((hf m : Nat) : Int)) (G (m - (2 * hf m - 1)) : Int) = G n) := by show _ = _; have := hc.out; have := hkk.out; omega
      have hb2 : 0 ≤ max c ((hf m : Nat) : Int) := by have := hc.out; have := hkk.out; omega
      have hmi : (m : Int) - (2 * ((hf m : Nat) : Int) - 1) = ((m - (2 * hf m - 1) : Nat) : Int) := by omega
      replace hmi := Lib.hid hmi
      clear hst hmm hk hp hc hz
      go_wp2_with (first | (go_at_call 31; refine (block_ok _ m1 (by omega) _).mono ?_; rintro e w' ⟨rfl, rfl⟩) | (go_at_call 35; refine (great1_ok _ _ _ _ _ _ _ h).mono ?_; rintro e w2 ⟨rfl, h2⟩))
      go_roundw
      case rel => exact ⟨m - (2 * hf m - 1), max c ((hf m : Nat) : Int), by omega, by rw [hmi.out], hc2, hb2, h2⟩
      case measure => simp [intOf]; omega
theorem blocks_times (w0 w : World) (base bv b : Nat) (v : Int) (n : Nat) (hn : n ≤ 1099511627776) (h : Acc2 w0 base bv v b 0 w) :
    Calls Try.prog 33 #[.int .i64 n, .func (.func 36) #[] #[.pointer (some ⟨bv, 0, none⟩), .pointer (some ⟨b, 0, none⟩)]] w fun e w' => e = .returned (.tuple #[]) ∧ Acc2 w0 base bv v b (T v n : Int) w' := by
  go_enter Try.func33, Try.ntmps33
  go_wp2
  go_loopw [0] (fun i wr => ∃ m : Nat, ∃ c : Int, m ≤ n ∧ i = .int .i64 m ∧ Hid (c + (T v m : Int) = T v n) ∧ (0 ≤ c ∧ c ≤ 1099511627776) ∧ Acc2 w0 base bv v b c wr) (fun i _ => (intOf i).toNat)
  case atStart => exact ⟨n, 0, by omega, rfl, Lib.hid (by omega), ⟨by omega, by omega⟩, h⟩
  case round =>
    clear h
    obtain ⟨m, c, hm, rfl, hc, hb, h⟩ := hrel
    by_cases hz : m = 0
    · subst hz
      simp only [show ((0 : Nat) : Int) = 0 from rfl]
      have hcc : c = (T v n : Int) := by have := hc.out; simp only [T] at this; omega
      rw [hcc] at h
      go_wp2
      go_end0
      exact ⟨rfl, h⟩
    · have m1 : 1 ≤ m := by omega
      have hbd := hf_bd m m1 (by omega)
      obtain ⟨k, hk⟩ := hf_is m
      have hk40 : k ≤ 40 := by
        have h9 : (2 : Nat) ^ k ≤ 2 ^ 40 := by omega
        exact (Nat.pow_le_pow_iff_right (by omega)).1 h9
      have hp := p2_le k hk40
      have hst := T_step v m k m1 hk
      have hkk : Hid (((hf m : Nat) : Int) = ((2 ^ k : Nat) : Int)) := by show _ = _; rw [hk]
      have hmm : m - (2 * 2 ^ k - 1) = m - (2 * hf m - 1) := by rw [hk]
      rw [hmm] at hst
      have hTn := T_le v n
      have hc2 : Hid (c + (tb v k 1 : Int) + (T v (m - (2 * hf m - 1)) : Int) = T v n) := by show _ = _; have := hc.out; have := hkk.out; omega
      have hb2 : 0 ≤ c + (tb v k 1 : Int) ∧ c + (tb v k 1 : Int) ≤ 1099511627776 := by have := hc.out; have := hkk.out; omega
      have hmi : (m : Int) - (2 * ((hf m : Nat) : Int) - 1) = ((m - (2 * hf m - 1) : Nat) : Int) := by omega
      replace hmi := Lib.hid hmi
      clear hst hmm hk hp hc hz
      go_wp2_with (first | (go_at_call 31; refine (block_ok _ m1 (by omega) _).mono ?_; rintro e w' ⟨rfl, rfl⟩) | (go_at_call 36; refine (times1_ok _ _ _ _ _ k _ _ _ _ hkk hk40 (by omega) (by omega) hb.1 (by omega) h).mono ?_; rintro e w2 ⟨rfl, h2⟩))
      go_roundw
      case rel => exact ⟨m - (2 * hf m - 1), c + (tb v k 1 : Int), by omega, by rw [hmi.out], hc2, hb2, h2⟩
      case measure => simp [intOf]; omega
end Go.Proofs.Ytanejldglbkacaa
