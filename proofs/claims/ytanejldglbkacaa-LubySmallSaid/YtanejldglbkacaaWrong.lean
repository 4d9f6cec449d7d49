/- LubyWrong: the walk. -/
import Derived.Test.YtanejldglbkacaaAwake
namespace Go.Proofs.Ytanejldglbkacaa
open Go Go.RowKit
set_option linter.unusedVariables false
set_option linter.unusedSimpArgs false
set_option maxHeartbeats 4000000
theorem first_bad (n : Int) (h : n < 0 ∨ 4096 < n) (w : World) :
    Calls Try.prog 23 #[.int .i64 n] w fun e w' => e = .returned (.tuple #[.slice none 0 0, .int .i64 2]) ∧ Below w.heap.size w w' := by
  rcases h with h | h
  · go_enter Try.func23, Try.ntmps23
    go_wp2
    go_ret2
    exact ⟨rfl, (Below.refl _ _).alloc (Nat.le_refl _) _⟩
  · have h' : ¬ n < 0 := by omega
    go_enter Try.func23, Try.ntmps23
    go_wp2
    go_ret2
    exact ⟨rfl, (Below.refl _ _).alloc (Nat.le_refl _) _⟩
def BadRow (W : World) (B : Nat) : Prop := B < W.heap.size ∧ ∀ k, k < 2 → ∃ p, W.cell? ⟨B, k, none⟩ = some (.int .i64 p) ∧ (p < 0 ∨ 1099511627776 < p)
theorem BadRow.keep {W W' : World} {B : Nat} (h : BadRow W B) (hb : Below W.heap.size W W') : BadRow W' B := by
  refine ⟨Nat.lt_of_lt_of_le h.1 hb.size, fun k hk => ?_⟩
  obtain ⟨p, hp, b⟩ := h.2 k hk
  exact ⟨p, (hb.cell (p := ⟨B, k, none⟩) h.1).trans hp, b⟩
theorem badRow_new (w : World) (p q : Int) (t : TypeId) (hp : p < 0 ∨ 1099511627776 < p) (hq : q < 0 ∨ 1099511627776 < q) : BadRow (w.alloc (.cells #[.int .i64 p, .int .i64 q] t)) w.heap.size := by
  refine ⟨by simp, fun k hk => ?_⟩
  rw [World.cell?_alloc_at _ _ _ _ rfl]
  have : k = 0 ∨ k = 1 := by omega
  rcases this with rfl | rfl
  · exact ⟨p, rfl, hp⟩
  · exact ⟨q, rfl, hq⟩
set_option maxRecDepth 100000 in
theorem law_wrong (n : Int) (n1 : -9223372036854775808 ≤ n) (n2 : n ≤ 9223372036854775807) (w : World) :
    Calls Try.prog 7 #[.int .i64 n] w fun e w' => e = .returned (.bool true) ∧ Below w.heap.size w w' := by
  go_enter Try.func7, Try.ntmps7
  go_wp2
  · have hr := badRow_new w (-1) 1099511627777 3 (by omega) (by omega)
    have hB := (Below.refl w.heap.size w).alloc (Nat.le_refl _) (.cells #[.int .i64 (-1), .int .i64 1099511627777] 3)
    generalize w.alloc _ = W2 at hr hB ⊢
    generalize hBB : w.heap.size = B at hr ⊢
    rw [hBB] at hB
    have hs : B ≤ W2.heap.size := Nat.le_of_lt hr.1
    go_loopw [31] (fun i wr => ∃ k : Nat, k ≤ 2 ∧ i = .int .i64 k ∧ BadRow wr B ∧ Below B w wr) (fun i _ => 2 - (intOf i).toNat)
    case atStart => exact ⟨0, by omega, rfl, hr, hB⟩
    case round =>
      clear hr hB hs
      obtain ⟨k, hk, rfl, hr, hB⟩ := hrel
      by_cases hlt : k < 2
      · obtain ⟨p, hc, hp⟩ := hr.2 k hlt
        have hs : B ≤ wr.heap.size := Nat.le_of_lt hr.1
        have hp1 : Hid (p < 1 ∨ 1099511627776 < p) := by show _ ∨ _; omega
        have hp2 : Hid (p < 0 ∨ 4096 < p) := by show _ ∨ _; omega
        have hp3 : Hid (p < 1 ∨ 65536 < p) := by show _ ∨ _; omega
        replace hp := Lib.hid hp
        go_wp2_with (first | (go_at_call 13; refine (at_bad _ hp1.out _).mono ?_; rintro e w' ⟨rfl, rfl⟩) | (go_at_call 14; refine (sum_bad _ hp.out _).mono ?_; rintro e w' ⟨rfl, rfl⟩) | (go_at_call 15; refine (great_bad _ hp.out _).mono ?_; rintro e w' ⟨rfl, rfl⟩) | (go_at_call 16; refine (times_bad _ _ hp.out _).mono ?_; rintro e w3 ⟨rfl, hb3⟩; replace hr := hr.keep hb3; replace hB := hB.trans (hb3.mono hs); replace hs := Nat.le_trans hs hb3.size; clear hb3) | (go_at_call 17; refine (within_bad _ hp.out _).mono ?_; rintro e w' ⟨rfl, rfl⟩) | (go_at_call 23; refine (first_bad _ hp2.out _).mono ?_; rintro e w4 ⟨rfl, hb3⟩; replace hr := hr.keep hb3; replace hB := hB.trans (hb3.mono hs); replace hs := Nat.le_trans hs hb3.size; clear hb3) | (go_at_call 18; refine (new_bad _ hp3.out _).mono ?_; rintro e w' ⟨rfl, rfl⟩))
        go_roundw
        case rel => exact ⟨k + 1, by omega, by go_num, hr, hB⟩
        case measure => simp [intOf]; omega
      · obtain rfl : k = 2 := by omega
        have hs : B ≤ wr.heap.size := Nat.le_of_lt hr.1
        clear hlt hk hr
        simp only [show ((2 : Nat) : Int) = 2 from rfl]
        go_wp2_with (first | (go_at_call 13; refine (at_bad _ (by omega) _).mono ?_; rintro e w' ⟨rfl, rfl⟩) | (go_at_call 23; refine (first_bad _ (by omega) _).mono ?_; rintro e w4 ⟨rfl, hb3⟩; replace hB := hB.trans (hb3.mono hs); replace hs := Nat.le_trans hs hb3.size; clear hb3) | (go_at_call 18; refine (new_bad _ (by omega) _).mono ?_; rintro e w' ⟨rfl, rfl⟩) | (go_at_call 12; refine (awake_ok _).mono ?_; rintro e w4 ⟨rfl, hb3⟩; replace hB := hB.trans (hb3.mono hs); replace hs := Nat.le_trans hs hb3.size; clear hb3))
        all_goals (go_ret; exact ⟨rfl, hB⟩)
  · have hr := badRow_new w (-1) n 3 (by omega) (by omega)
    have hB := (Below.refl w.heap.size w).alloc (Nat.le_refl _) (.cells #[.int .i64 (-1), .int .i64 n] 3)
    generalize w.alloc _ = W2 at hr hB ⊢
    generalize hBB : w.heap.size = B at hr ⊢
    rw [hBB] at hB
    have hs : B ≤ W2.heap.size := Nat.le_of_lt hr.1
    go_loopw [31] (fun i wr => ∃ k : Nat, k ≤ 2 ∧ i = .int .i64 k ∧ BadRow wr B ∧ Below B w wr) (fun i _ => 2 - (intOf i).toNat)
    case atStart => exact ⟨0, by omega, rfl, hr, hB⟩
    case round =>
      clear hr hB hs
      obtain ⟨k, hk, rfl, hr, hB⟩ := hrel
      by_cases hlt : k < 2
      · obtain ⟨p, hc, hp⟩ := hr.2 k hlt
        have hs : B ≤ wr.heap.size := Nat.le_of_lt hr.1
        have hp1 : Hid (p < 1 ∨ 1099511627776 < p) := by show _ ∨ _; omega
        have hp2 : Hid (p < 0 ∨ 4096 < p) := by show _ ∨ _; omega
        have hp3 : Hid (p < 1 ∨ 65536 < p) := by show _ ∨ _; omega
        replace hp := Lib.hid hp
        go_wp2_with (first | (go_at_call 13; refine (at_bad _ hp1.out _).mono ?_; rintro e w' ⟨rfl, rfl⟩) | (go_at_call 14; refine (sum_bad _ hp.out _).mono ?_; rintro e w' ⟨rfl, rfl⟩) | (go_at_call 15; refine (great_bad _ hp.out _).mono ?_; rintro e w' ⟨rfl, rfl⟩) | (go_at_call 16; refine (times_bad _ _ hp.out _).mono ?_; rintro e w3 ⟨rfl, hb3⟩; replace hr := hr.keep hb3; replace hB := hB.trans (hb3.mono hs); replace hs := Nat.le_trans hs hb3.size; clear hb3) | (go_at_call 17; refine (within_bad _ hp.out _).mono ?_; rintro e w' ⟨rfl, rfl⟩) | (go_at_call 23; refine (first_bad _ hp2.out _).mono ?_; rintro e w4 ⟨rfl, hb3⟩; replace hr := hr.keep hb3; replace hB := hB.trans (hb3.mono hs); replace hs := Nat.le_trans hs hb3.size; clear hb3) | (go_at_call 18; refine (new_bad _ hp3.out _).mono ?_; rintro e w' ⟨rfl, rfl⟩))
        go_roundw
        case rel => exact ⟨k + 1, by omega, by go_num, hr, hB⟩
        case measure => simp [intOf]; omega
      · obtain rfl : k = 2 := by omega
        have hs : B ≤ wr.heap.size := Nat.le_of_lt hr.1
        clear hlt hk hr
        simp only [show ((2 : Nat) : Int) = 2 from rfl]
        go_wp2_with (first | (go_at_call 13; refine (at_bad _ (by omega) _).mono ?_; rintro e w' ⟨rfl, rfl⟩) | (go_at_call 23; refine (first_bad _ (by omega) _).mono ?_; rintro e w4 ⟨rfl, hb3⟩; replace hB := hB.trans (hb3.mono hs); replace hs := Nat.le_trans hs hb3.size; clear hb3) | (go_at_call 18; refine (new_bad _ (by omega) _).mono ?_; rintro e w' ⟨rfl, rfl⟩) | (go_at_call 12; refine (awake_ok _).mono ?_; rintro e w4 ⟨rfl, hb3⟩; replace hB := hB.trans (hb3.mono hs); replace hs := Nat.le_trans hs hb3.size; clear hb3))
        all_goals (go_ret; exact ⟨rfl, hB⟩)
  · have hr := badRow_new w (n) 1099511627777 3 (by omega) (by omega)
    have hB := (Below.refl w.heap.size w).alloc (Nat.le_refl _) (.cells #[.int .i64 (n), .int .i64 1099511627777] 3)
    generalize w.alloc _ = W2 at hr hB ⊢
    generalize hBB : w.heap.size = B at hr ⊢
    rw [hBB] at hB
    have hs : B ≤ W2.heap.size := Nat.le_of_lt hr.1
    go_loopw [31] (fun i wr => ∃ k : Nat, k ≤ 2 ∧ i = .int .i64 k ∧ BadRow wr B ∧ Below B w wr) (fun i _ => 2 - (intOf i).toNat)
    case atStart => exact ⟨0, by omega, rfl, hr, hB⟩
    case round =>
      clear hr hB hs
      obtain ⟨k, hk, rfl, hr, hB⟩ := hrel
      by_cases hlt : k < 2
      · obtain ⟨p, hc, hp⟩ := hr.2 k hlt
        have hs : B ≤ wr.heap.size := Nat.le_of_lt hr.1
        have hp1 : Hid (p < 1 ∨ 1099511627776 < p) := by show _ ∨ _; omega
        have hp2 : Hid (p < 0 ∨ 4096 < p) := by show _ ∨ _; omega
        have hp3 : Hid (p < 1 ∨ 65536 < p) := by show _ ∨ _; omega
        replace hp := Lib.hid hp
        go_wp2_with (first | (go_at_call 13; refine (at_bad _ hp1.out _).mono ?_; rintro e w' ⟨rfl, rfl⟩) | (go_at_call 14; refine (sum_bad _ hp.out _).mono ?_; rintro e w' ⟨rfl, rfl⟩) | (go_at_call 15; refine (great_bad _ hp.out _).mono ?_; rintro e w' ⟨rfl, rfl⟩) | (go_at_call 16; refine (times_bad _ _ hp.out _).mono ?_; rintro e w3 ⟨rfl, hb3⟩; replace hr := hr.keep hb3; replace hB := hB.trans (hb3.mono hs); replace hs := Nat.le_trans hs hb3.size; clear hb3) | (go_at_call 17; refine (within_bad _ hp.out _).mono ?_; rintro e w' ⟨rfl, rfl⟩) | (go_at_call 23; refine (first_bad _ hp2.out _).mono ?_; rintro e w4 ⟨rfl, hb3⟩; replace hr := hr.keep hb3; replace hB := hB.trans (hb3.mono hs); replace hs := Nat.le_trans hs hb3.size; clear hb3) | (go_at_call 18; refine (new_bad _ hp3.out _).mono ?_; rintro e w' ⟨rfl, rfl⟩))
        go_roundw
        case rel => exact ⟨k + 1, by omega, by go_num, hr, hB⟩
        case measure => simp [intOf]; omega
      · obtain rfl : k = 2 := by omega
        have hs : B ≤ wr.heap.size := Nat.le_of_lt hr.1
        clear hlt hk hr
        simp only [show ((2 : Nat) : Int) = 2 from rfl]
        go_wp2_with (first | (go_at_call 13; refine (at_bad _ (by omega) _).mono ?_; rintro e w' ⟨rfl, rfl⟩) | (go_at_call 23; refine (first_bad _ (by omega) _).mono ?_; rintro e w4 ⟨rfl, hb3⟩; replace hB := hB.trans (hb3.mono hs); replace hs := Nat.le_trans hs hb3.size; clear hb3) | (go_at_call 18; refine (new_bad _ (by omega) _).mono ?_; rintro e w' ⟨rfl, rfl⟩) | (go_at_call 12; refine (awake_ok _).mono ?_; rintro e w4 ⟨rfl, hb3⟩; replace hB := hB.trans (hb3.mono hs); replace hs := Nat.le_trans hs hb3.size; clear hb3))
        all_goals (go_ret; exact ⟨rfl, hB⟩)
end Go.Proofs.Ytanejldglbkacaa
