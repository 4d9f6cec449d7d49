/- Sum, Greatest, Times, Within: what they return. -/
import Derived.Test.YtanejldglbkacaaC
namespace Go.Proofs.Ytanejldglbkacaa
open Go Go.RowKit
set_option linter.unusedVariables false
set_option linter.unusedSimpArgs false
set_option maxHeartbeats 4000000
theorem acc_new (w : World) (v : Int) : Acc w w.heap.size w.heap.size v (w.alloc (.cells #[.int .i64 v] 3)) :=
  ⟨heap_new _ _, Nat.le_refl _, (Below.refl _ _).alloc (Nat.le_refl _) _⟩
theorem sum_ok (n : Nat) (h : n ≤ 1099511627776) (w : World) :
    Calls Try.prog 14 #[.int .i64 n] w fun e w' => e = .returned (.tuple #[.int .i64 (S n : Int), .int .i64 0]) ∧ Below w.heap.size w w' := by
  go_enter Try.func14, Try.ntmps14
  go_wp2_with (first | (go_at_call 32; refine (right_yes _ (by omega) (by omega) _).mono ?_; rintro e w' ⟨rfl, rfl⟩) | (go_at_call 33; refine (blocks_sum w _ w.heap.size w.heap.size n h (acc_new w 0)).mono ?_; rintro e w2 ⟨rfl, h2⟩; have hc := h2.cell))
  go_ret2
  exact ⟨rfl, h2.2.2⟩
theorem sum_bad (n : Int) (h : n < 0 ∨ 1099511627776 < n) (w : World) :
    Calls Try.prog 14 #[.int .i64 n] w fun e w' => e = .returned (.tuple #[.int .i64 0, .int .i64 120]) ∧ w = w' := by
  replace h := Lib.hid h
  go_enter Try.func14, Try.ntmps14
  go_wp2_with (go_at_call 32; refine (right_no _ h.out _).mono ?_; rintro e w' ⟨rfl, rfl⟩)
  go_ret2
  exact ⟨rfl, rfl⟩
theorem great_ok (n : Nat) (h : n ≤ 1099511627776) (w : World) :
    Calls Try.prog 15 #[.int .i64 n] w fun e w' => e = .returned (.tuple #[.int .i64 (G n : Int), .int .i64 0]) ∧ Below w.heap.size w w' := by
  go_enter Try.func15, Try.ntmps15
  go_wp2_with (first | (go_at_call 32; refine (right_yes _ (by omega) (by omega) _).mono ?_; rintro e w' ⟨rfl, rfl⟩) | (go_at_call 33; refine (blocks_great w _ w.heap.size w.heap.size n h (acc_new w 0)).mono ?_; rintro e w2 ⟨rfl, h2⟩; have hc := h2.cell))
  go_ret2
  exact ⟨rfl, h2.2.2⟩
theorem great_bad (n : Int) (h : n < 0 ∨ 1099511627776 < n) (w : World) :
    Calls Try.prog 15 #[.int .i64 n] w fun e w' => e = .returned (.tuple #[.int .i64 0, .int .i64 120]) ∧ w = w' := by
  replace h := Lib.hid h
  go_enter Try.func15, Try.ntmps15
  go_wp2_with (go_at_call 32; refine (right_no _ h.out _).mono ?_; rintro e w' ⟨rfl, rfl⟩)
  go_ret2
  exact ⟨rfl, rfl⟩
theorem acc2_new (w : World) (u v : Int) : Acc2 w w.heap.size w.heap.size u (w.heap.size + 1) v ((w.alloc (.cells #[.int .i64 u] 3)).alloc (.cells #[.int .i64 v] 3)) := by
  refine ⟨⟨?_, by omega, ?_⟩, ?_, by omega⟩
  · have := heap_new (w.alloc (.cells #[.int .i64 u] 3)) (.cells #[.int .i64 v] 3)
    simpa using this
  · exact ((Below.refl _ _).alloc (Nat.le_refl _) _).alloc (by simp) _
  · have := heap_new w (.cells #[.int .i64 u] 3)
    have h1 : w.heap.size < (w.alloc (.cells #[.int .i64 u] 3)).heap.size := by simp
    have h2 := ((Below.refl (w.alloc (.cells #[.int .i64 u] 3)).heap.size (w.alloc (.cells #[.int .i64 u] 3))).alloc (Nat.le_refl _) (.cells #[.int .i64 v] 3)).block w.heap.size h1
    rw [h2]; exact this
theorem times_ok (n : Nat) (v : Int) (h : n ≤ 1099511627776) (w : World) :
    Calls Try.prog 16 #[.int .i64 n, .int .i64 v] w fun e w' => e = .returned (.tuple #[.int .i64 (T v n : Int), .int .i64 0]) ∧ Below w.heap.size w w' := by
  go_enter Try.func16, Try.ntmps16
  go_wp2_with (first | (go_at_call 32; refine (right_yes _ (by omega) (by omega) _).mono ?_; rintro e w' ⟨rfl, rfl⟩) | (go_at_call 33; refine (blocks_times w _ w.heap.size w.heap.size (w.heap.size + 1) v n h ?_).mono ?_; (first | exact acc2_new w v 0 | (simpa using acc2_new w v 0)); rintro e w2 ⟨rfl, h2⟩; have hc := h2.1.cell))
  go_ret2
  exact ⟨rfl, h2.1.2.2⟩
theorem times_bad (n v : Int) (h : n < 0 ∨ 1099511627776 < n) (w : World) :
    Calls Try.prog 16 #[.int .i64 n, .int .i64 v] w fun e w' => e = .returned (.tuple #[.int .i64 0, .int .i64 120]) ∧ Below w.heap.size w w' := by
  replace h := Lib.hid h
  go_enter Try.func16, Try.ntmps16
  go_wp2_with (go_at_call 32; refine (right_no _ h.out _).mono ?_; rintro e w' ⟨rfl, rfl⟩)
  go_ret2
  exact ⟨rfl, (Below.refl _ _).alloc (Nat.le_refl _) _⟩
/-- How many numbers are not more than a total together. -/
def isW (t m : Nat) : Prop := S m ≤ t ∧ t < S (m + 1)
theorem isW_unique (t a b : Nat) (h1 : isW t a) (h2 : isW t b) : a = b := by
  have p := S_strict a (b + 1) (by have := h1.1; have := h2.2; omega)
  have q := S_strict b (a + 1) (by have := h2.1; have := h1.2; omega)
  omega
theorem S_over (t : Nat) (h : t ≤ 1099511627776) : t < S (0 + 2 ^ 40) := by
  have h3 := S_block 39
  have h4 := S_mono (2 * 2 ^ 39 - 1) (0 + 2 ^ 40) (by omega)
  rw [h3] at h4
  omega
theorem sum_at (x : Int) (n : Nat) (hx : x = n) (h : n ≤ 1099511627776) (w : World) :
    Calls Try.prog 14 #[.int .i64 x] w fun e w' => e = .returned (.tuple #[.int .i64 (S n : Int), .int .i64 0]) ∧ Below w.heap.size w w' := by
  subst hx; exact sum_ok n h w
theorem within_ok (t : Nat) (h : t ≤ 1099511627776) (w : World) :
    Calls Try.prog 17 #[.int .i64 t] w fun e w' => ∃ m : Nat, m < 1099511627776 ∧ isW t m ∧ e = .returned (.tuple #[.int .i64 m, .int .i64 0]) ∧ Below w.heap.size w w' := by
  go_enter Try.func17, Try.ntmps17
  go_wp2
  go_loopw [4, 5] (fun n s wr => ∃ m q k : Nat, n = .int .i64 m ∧ s = .int .i64 q ∧ Hid (q = 2 ^ k / 2) ∧ k ≤ 40 ∧ m + 2 ^ k ≤ 1099511627776 ∧ S m ≤ t ∧ t < S (m + 2 ^ k) ∧ Below w.heap.size w wr) (fun _ s _ => (intOf s).toNat)
  case atStart =>
    exact ⟨0, 549755813888, 40, rfl, rfl, Lib.hid (by omega), by omega, by omega, Nat.zero_le _, S_over t h, Below.refl _ _⟩
  case round =>
    obtain ⟨m, q, k, rfl, rfl, hq, hk, b1, b2, b3, hB⟩ := hrel
    by_cases hz : k = 0
    · subst hz
      obtain rfl : q = 0 := hq.out
      simp only [show ((0 : Nat) : Int) = 0 from rfl]
      have b4 : m < 1099511627776 := by have : (2 : Nat) ^ 0 = 1 := rfl; omega
      go_wp2
      go_ret2
      exact ⟨m, b4, ⟨b2, b3⟩, rfl, hB⟩
    · obtain ⟨j, rfl⟩ : ∃ j, k = j + 1 := ⟨k - 1, by omega⟩
      have e : q = 2 ^ j := by rw [hq.out, Nat.pow_succ]; omega
      rw [Nat.pow_succ, ← e] at b1 b3
      have e2 : Hid (q / 2 = 2 ^ j / 2) := by show _ = _; rw [e]
      have q1 : 1 ≤ q := by rw [e]; exact pow_pos2 j
      have e3 : Hid (2 ^ j = q) := e.symm
      have hS := S_top (m + q) (by omega)
      replace b3 := Lib.hid b3
      clear hq e hz
      by_cases hle : S (m + q) ≤ t
      · have b2' := Lib.hid b2
        go_wp2_with (go_at_call 14; refine (sum_at _ (m + q) (by omega) (by omega) _).mono ?_; rintro e w3 ⟨rfl, hb3⟩)
        go_roundw
        case rel => exact ⟨m + q, q / 2, j, by go_num, by go_num, e2, by omega, by rw [e3.out]; omega, hle, by rw [e3.out, show m + q + q = m + q * 2 by omega]; exact b3.out, hB.trans (hb3.mono hB.size)⟩
        case measure => simp [intOf]; omega
      · have hle' : ¬ ((S (m + q) : Int) ≤ (t : Int)) := by omega
        go_wp2_with (go_at_call 14; refine (sum_at _ (m + q) (by omega) (by omega) _).mono ?_; rintro e w3 ⟨rfl, hb3⟩)
        go_roundw
        case rel => exact ⟨m, q / 2, j, rfl, by go_num, e2, by omega, by rw [e3.out]; omega, b2, by rw [e3.out]; omega, hB.trans (hb3.mono hB.size)⟩
        case measure => simp [intOf]; omega
theorem within_bad (n : Int) (h : n < 0 ∨ 1099511627776 < n) (w : World) :
    Calls Try.prog 17 #[.int .i64 n] w fun e w' => e = .returned (.tuple #[.int .i64 0, .int .i64 2]) ∧ w = w' := by
  rcases h with h | h
  · go_enter Try.func17, Try.ntmps17
    go_wp2
    go_ret2
    exact ⟨rfl, rfl⟩
  · have h' : ¬ n < 0 := by omega
    go_enter Try.func17, Try.ntmps17
    go_wp2
    go_ret2
    exact ⟨rfl, rfl⟩
end Go.Proofs.Ytanejldglbkacaa
