/- The walk of BitwordWrong. -/
import Derived.Test.YtfgmcinegogdkaaRefA
namespace Go.Proofs.Ytfgmcinegogdkaa
open Go.RowKit
set_option linter.unusedVariables false
set_option maxHeartbeats 4000000
theorem two_bad (op : Int) (h : op = 0 ∨ 17 ≤ op) (h1 : op ≤ 255) (w : World) : Calls Try.prog 25 #[.int .u8 op] w fun e w' => e = .returned (.bool false) ∧ Below w.heap.size w w' := by
  have := two_any op (by omega) h1 w
  unfold twoT at this
  rw [rankT_bad _ (by omega)] at this
  exact this
theorem find_empty (w : World) : Calls Try.prog 28 #[.string ⟨#[]⟩, .bool true] w fun e w' => e = .returned (.tuple #[.int .u8 0, .bool false]) ∧ Below w.heap.size w w' := by
  have h := find_any ⟨#[]⟩ true w
  have e : findT ⟨#[]⟩ true = 0 := by decide +kernel
  rw [e] at h
  exact h
set_option maxRecDepth 100000 in
theorem wrong_walk (n op a b : Int) (hn : -9223372036854775808 ≤ n) (hn' : n ≤ 9223372036854775807) (hop : 0 ≤ op) (hop' : op ≤ 255) (ha : 0 ≤ a) (ha' : a ≤ 4294967295) (hb : 0 ≤ b) (hb' : b ≤ 4294967295) (w : World) :
    Calls Try.prog 10 #[.int .i64 n, .int .u8 op, .int .u32 a, .int .u32 b] w fun e w' => e = .returned (.bool true) ∧ Below w.heap.size w w' := by
  have hcase : (n ≤ 0 ∨ 0 < n ∧ n < 17 ∨ 17 ≤ n) := by omega
  by_cases c1 : 17 ≤ op
  · rcases hcase with c2 | ⟨c2, c3⟩ | c2
    ·
      go_enter Try.func10, Try.ntmps10
      go_wp2_with (first | (go_at_call 11; refine (awake_ok _).mono ?_; rintro e w1 ⟨rfl, hB1⟩))
      generalize hW2 : w1.alloc _ = W2
      have hc0 : W2.cell? ⟨w1.heap.size, 0, none⟩ = some (.int .u8 0) := by rw [← hW2]; simp [go_sem]
      obtain ⟨q, hq1, hq2, hc1⟩ : ∃ q : Int, 17 ≤ q ∧ q ≤ 255 ∧ W2.cell? ⟨w1.heap.size, 1, none⟩ = some (.int .u8 q) := ⟨op, by omega, by omega, by rw [← hW2]; simp [go_sem]⟩
      have hsz : w1.heap.size < W2.heap.size := by rw [← hW2]; simp
      have hB : Below w.heap.size w W2 := by rw [← hW2]; exact hB1.alloc hB1.size _
      clear hW2 hB1
      generalize w1.heap.size = B at *
      go_loopw [38] (fun i wr => ∃ k : Nat, k ≤ 2 ∧ i = .int .i64 k ∧ wr.cell? ⟨B, 0, none⟩ = some (.int .u8 0) ∧ wr.cell? ⟨B, 1, none⟩ = some (.int .u8 q) ∧ B < wr.heap.size ∧ Below w.heap.size w wr) (fun i _ => 2 - (intOf i).toNat)
      case atStart => exact ⟨0, by omega, rfl, hc0, hc1, hsz, hB⟩
      case round =>
        clear hc0 hc1 hsz hB
        obtain ⟨k, hk, rfl, hc0, hc1, hsz, hB⟩ := hrel
        by_cases hlt : k < 2
        · obtain ⟨p, hp, hp2, hck⟩ : ∃ p : Int, Hid (p = 0 ∨ 17 ≤ p) ∧ p ≤ 255 ∧ wr.cell? ⟨B, k, none⟩ = some (.int .u8 p) := by
            have : k = 0 ∨ k = 1 := by omega
            rcases this with rfl | rfl
            · exact ⟨0, .inl rfl, by omega, hc0⟩
            · exact ⟨q, .inr hq1, hq2, hc1⟩
          go_wp2_with (first | (go_at_call 22; refine (apply_badop _ _ _ _ hp.out hp2 _).mono ?_; rintro e w3 ⟨rfl, hb3⟩; replace hB := hB.trans (hb3.mono hB.size); replace hc0 := (hb3.cell (p := ⟨B, 0, none⟩) hsz).trans hc0; replace hc1 := (hb3.cell (p := ⟨B, 1, none⟩) hsz).trans hc1; replace hck := (hb3.cell (p := ⟨B, k, none⟩) hsz).trans hck; replace hsz := Nat.lt_of_lt_of_le hsz hb3.size; clear hb3) | (go_at_call 20; refine (width_badop _ _ hp.out hp2 _).mono ?_; rintro e w3 ⟨rfl, hb3⟩; replace hB := hB.trans (hb3.mono hB.size); replace hc0 := (hb3.cell (p := ⟨B, 0, none⟩) hsz).trans hc0; replace hc1 := (hb3.cell (p := ⟨B, 1, none⟩) hsz).trans hc1; replace hck := (hb3.cell (p := ⟨B, k, none⟩) hsz).trans hck; replace hsz := Nat.lt_of_lt_of_le hsz hb3.size; clear hb3) | (go_at_call 23; refine (name_none _ hp.out hp2 _).mono ?_; rintro e w3 ⟨rfl, hb3⟩; replace hB := hB.trans (hb3.mono hB.size); replace hc0 := (hb3.cell (p := ⟨B, 0, none⟩) hsz).trans hc0; replace hc1 := (hb3.cell (p := ⟨B, 1, none⟩) hsz).trans hc1; replace hck := (hb3.cell (p := ⟨B, k, none⟩) hsz).trans hck; replace hsz := Nat.lt_of_lt_of_le hsz hb3.size; clear hb3) | (go_at_call 24; refine (rank_bad _ hp.out hp2 _).mono ?_; rintro e w3 ⟨rfl, hb3⟩; replace hB := hB.trans (hb3.mono hB.size); replace hc0 := (hb3.cell (p := ⟨B, 0, none⟩) hsz).trans hc0; replace hc1 := (hb3.cell (p := ⟨B, 1, none⟩) hsz).trans hc1; replace hck := (hb3.cell (p := ⟨B, k, none⟩) hsz).trans hck; replace hsz := Nat.lt_of_lt_of_le hsz hb3.size; clear hb3) | (go_at_call 25; refine (two_bad _ hp.out hp2 _).mono ?_; rintro e w3 ⟨rfl, hb3⟩; replace hB := hB.trans (hb3.mono hB.size); replace hc0 := (hb3.cell (p := ⟨B, 0, none⟩) hsz).trans hc0; replace hc1 := (hb3.cell (p := ⟨B, 1, none⟩) hsz).trans hc1; replace hck := (hb3.cell (p := ⟨B, k, none⟩) hsz).trans hck; replace hsz := Nat.lt_of_lt_of_le hsz hb3.size; clear hb3))
          go_roundw
          case rel => exact ⟨k + 1, by omega, by go_num, hc0, hc1, hsz, hB⟩
          case measure => simp [intOf]; omega
        · obtain rfl : k = 2 := by omega
          clear hc0 hc1 hsz hq1 hq2 hlt
          simp only [show ((2 : Nat) : Int) = 2 from rfl]
          go_wp2
          have hB1 := hB
          clear hB
          generalize hW2 : wr.alloc _ = W2
          obtain ⟨q0, hq0, hq0', hc0⟩ : ∃ q0 : Int, q0 ≤ 0 ∧ -9223372036854775808 ≤ q0 ∧ W2.cell? ⟨wr.heap.size, 0, none⟩ = some (.int .i64 q0) := ⟨n, by omega, by omega, by rw [← hW2]; simp [go_sem]⟩
          obtain ⟨q, hq1, hq2, hc1⟩ : ∃ q : Int, 17 ≤ q ∧ q ≤ 9223372036854775807 ∧ W2.cell? ⟨wr.heap.size, 1, none⟩ = some (.int .i64 q) := ⟨17, by omega, by omega, by rw [← hW2]; simp [go_sem]⟩
          have hsz : wr.heap.size < W2.heap.size := by rw [← hW2]; simp
          have hB : Below w.heap.size w W2 := by rw [← hW2]; exact hB1.alloc hB1.size _
          clear hW2 hB1
          generalize wr.heap.size = B at *
          clear wr
          go_loopw [91] (fun i wr => ∃ k : Nat, k ≤ 2 ∧ i = .int .i64 k ∧ wr.cell? ⟨B, 0, none⟩ = some (.int .i64 q0) ∧ wr.cell? ⟨B, 1, none⟩ = some (.int .i64 q) ∧ B < wr.heap.size ∧ Below w.heap.size w wr) (fun i _ => 2 - (intOf i).toNat)
          case atStart => exact ⟨0, by omega, rfl, hc0, hc1, hsz, hB⟩
          case round =>
            clear hc0 hc1 hsz hB
            obtain ⟨k, hk, rfl, hc0, hc1, hsz, hB⟩ := hrel
            by_cases hlt : k < 2
            · obtain ⟨p, hp, hp1, hp2, hck⟩ : ∃ p : Int, Hid (p < 1 ∨ 16 < p) ∧ -9223372036854775808 ≤ p ∧ p ≤ 9223372036854775807 ∧ wr.cell? ⟨B, k, none⟩ = some (.int .i64 p) := by
                have : k = 0 ∨ k = 1 := by omega
                rcases this with rfl | rfl
                · exact ⟨q0, .inl (by omega), by omega, by omega, hc0⟩
                · exact ⟨q, .inr (by omega), by omega, hq2, hc1⟩
              have hdk : decide ((k : Int) < 2) = true := by simp; omega
              go_wp2
              clear hdk
              obtain ⟨wo, rfl⟩ : ∃ wo : World, wo = wr := ⟨_, rfl⟩
              go_loopw [17] (fun i wr => ∃ o : Nat, 1 ≤ o ∧ o ≤ 17 ∧ i = .int .u8 o ∧ wr.cell? ⟨B, 0, none⟩ = some (.int .i64 q0) ∧ wr.cell? ⟨B, 1, none⟩ = some (.int .i64 q) ∧ B < wr.heap.size ∧ Below w.heap.size w wr) (fun i _ => 17 - (intOf i).toNat)
              case atStart => exact ⟨1, by omega, by omega, rfl, hc0, hc1, hsz, hB⟩
              case round =>
                clear hc0 hc1 hsz hB hck
                obtain ⟨o, ho1, ho2, rfl, hc0, hc1, hsz, hB⟩ := hrel
                have hck : True := trivial
                by_cases hlo : o < 17
                · go_wp2_with (first | (go_at_call 22; refine (apply_badwidth _ _ _ _ (by omega) (by omega) hp.out hp1 hp2 _).mono ?_; rintro e w3 ⟨rfl, hb3⟩; replace hB := hB.trans (hb3.mono hB.size); replace hc0 := (hb3.cell (p := ⟨B, 0, none⟩) hsz).trans hc0; replace hc1 := (hb3.cell (p := ⟨B, 1, none⟩) hsz).trans hc1; replace hsz := Nat.lt_of_lt_of_le hsz hb3.size; clear hb3) | (go_at_call 20; refine (width_badwidth _ _ (by omega) (by omega) hp.out hp1 hp2 _).mono ?_; rintro e w3 ⟨rfl, hb3⟩; replace hB := hB.trans (hb3.mono hB.size); replace hc0 := (hb3.cell (p := ⟨B, 0, none⟩) hsz).trans hc0; replace hc1 := (hb3.cell (p := ⟨B, 1, none⟩) hsz).trans hc1; replace hsz := Nat.lt_of_lt_of_le hsz hb3.size; clear hb3))
                  go_roundw
                  case rel => exact ⟨o + 1, by omega, by omega, by go_num, hc0, hc1, hsz, hB⟩
                  case measure => simp [intOf]; omega
                · obtain rfl : o = 17 := by omega
                  go_wp2_with (first | (go_at_call 12; refine (cut_bad _ _ _ hp.out hp1 hp2 ha ha').mono ?_; rintro e w' ⟨rfl, rfl⟩) | (go_at_call 26; refine (bitsL_bad _ _ hp.out hp1 hp2 _).mono ?_; rintro e w' ⟨rfl, rfl⟩))
                  go_roundw
                  case rel => exact ⟨k + 1, by omega, by go_num, hc0, hc1, hsz, hB⟩
                  case measure => simp [intOf]; omega
            · obtain rfl : k = 2 := by omega
              clear hc0 hc1 hsz hlt
              have hmk := fun w => run_make_row' (P := Try.prog) 35 4 (.bool false) 1 Try.underlying35 Try.info4 rfl .i64 .i64 (17 + op.toNat) (by omega) (by omega) w
              rw [show ((17 + op.toNat : Nat) : Int) = 17 + op by omega] at hmk
              go_wp2_with (first | (go_at_call 27; refine (fromBits_bad _ _ _ (by omega) (by omega) _).mono ?_; rintro e w' ⟨rfl, rfl⟩) | (go_at_call 28; refine (find_empty _).mono ?_; rintro e w3 ⟨rfl, hb3⟩))
              go_ret
              exact ⟨rfl, (hB.alloc hB.size _).trans (hb3.mono (by have := hB.size; simp; omega))⟩
    ·
      go_enter Try.func10, Try.ntmps10
      go_wp2_with (first | (go_at_call 11; refine (awake_ok _).mono ?_; rintro e w1 ⟨rfl, hB1⟩))
      generalize hW2 : w1.alloc _ = W2
      have hc0 : W2.cell? ⟨w1.heap.size, 0, none⟩ = some (.int .u8 0) := by rw [← hW2]; simp [go_sem]
      obtain ⟨q, hq1, hq2, hc1⟩ : ∃ q : Int, 17 ≤ q ∧ q ≤ 255 ∧ W2.cell? ⟨w1.heap.size, 1, none⟩ = some (.int .u8 q) := ⟨op, by omega, by omega, by rw [← hW2]; simp [go_sem]⟩
      have hsz : w1.heap.size < W2.heap.size := by rw [← hW2]; simp
      have hB : Below w.heap.size w W2 := by rw [← hW2]; exact hB1.alloc hB1.size _
      clear hW2 hB1
      generalize w1.heap.size = B at *
      go_loopw [38] (fun i wr => ∃ k : Nat, k ≤ 2 ∧ i = .int .i64 k ∧ wr.cell? ⟨B, 0, none⟩ = some (.int .u8 0) ∧ wr.cell? ⟨B, 1, none⟩ = some (.int .u8 q) ∧ B < wr.heap.size ∧ Below w.heap.size w wr) (fun i _ => 2 - (intOf i).toNat)
      case atStart => exact ⟨0, by omega, rfl, hc0, hc1, hsz, hB⟩
      case round =>
        clear hc0 hc1 hsz hB
        obtain ⟨k, hk, rfl, hc0, hc1, hsz, hB⟩ := hrel
        by_cases hlt : k < 2
        · obtain ⟨p, hp, hp2, hck⟩ : ∃ p : Int, Hid (p = 0 ∨ 17 ≤ p) ∧ p ≤ 255 ∧ wr.cell? ⟨B, k, none⟩ = some (.int .u8 p) := by
            have : k = 0 ∨ k = 1 := by omega
            rcases this with rfl | rfl
            · exact ⟨0, .inl rfl, by omega, hc0⟩
            · exact ⟨q, .inr hq1, hq2, hc1⟩
          go_wp2_with (first | (go_at_call 22; refine (apply_badop _ _ _ _ hp.out hp2 _).mono ?_; rintro e w3 ⟨rfl, hb3⟩; replace hB := hB.trans (hb3.mono hB.size); replace hc0 := (hb3.cell (p := ⟨B, 0, none⟩) hsz).trans hc0; replace hc1 := (hb3.cell (p := ⟨B, 1, none⟩) hsz).trans hc1; replace hck := (hb3.cell (p := ⟨B, k, none⟩) hsz).trans hck; replace hsz := Nat.lt_of_lt_of_le hsz hb3.size; clear hb3) | (go_at_call 20; refine (width_badop _ _ hp.out hp2 _).mono ?_; rintro e w3 ⟨rfl, hb3⟩; replace hB := hB.trans (hb3.mono hB.size); replace hc0 := (hb3.cell (p := ⟨B, 0, none⟩) hsz).trans hc0; replace hc1 := (hb3.cell (p := ⟨B, 1, none⟩) hsz).trans hc1; replace hck := (hb3.cell (p := ⟨B, k, none⟩) hsz).trans hck; replace hsz := Nat.lt_of_lt_of_le hsz hb3.size; clear hb3) | (go_at_call 23; refine (name_none _ hp.out hp2 _).mono ?_; rintro e w3 ⟨rfl, hb3⟩; replace hB := hB.trans (hb3.mono hB.size); replace hc0 := (hb3.cell (p := ⟨B, 0, none⟩) hsz).trans hc0; replace hc1 := (hb3.cell (p := ⟨B, 1, none⟩) hsz).trans hc1; replace hck := (hb3.cell (p := ⟨B, k, none⟩) hsz).trans hck; replace hsz := Nat.lt_of_lt_of_le hsz hb3.size; clear hb3) | (go_at_call 24; refine (rank_bad _ hp.out hp2 _).mono ?_; rintro e w3 ⟨rfl, hb3⟩; replace hB := hB.trans (hb3.mono hB.size); replace hc0 := (hb3.cell (p := ⟨B, 0, none⟩) hsz).trans hc0; replace hc1 := (hb3.cell (p := ⟨B, 1, none⟩) hsz).trans hc1; replace hck := (hb3.cell (p := ⟨B, k, none⟩) hsz).trans hck; replace hsz := Nat.lt_of_lt_of_le hsz hb3.size; clear hb3) | (go_at_call 25; refine (two_bad _ hp.out hp2 _).mono ?_; rintro e w3 ⟨rfl, hb3⟩; replace hB := hB.trans (hb3.mono hB.size); replace hc0 := (hb3.cell (p := ⟨B, 0, none⟩) hsz).trans hc0; replace hc1 := (hb3.cell (p := ⟨B, 1, none⟩) hsz).trans hc1; replace hck := (hb3.cell (p := ⟨B, k, none⟩) hsz).trans hck; replace hsz := Nat.lt_of_lt_of_le hsz hb3.size; clear hb3))
          go_roundw
          case rel => exact ⟨k + 1, by omega, by go_num, hc0, hc1, hsz, hB⟩
          case measure => simp [intOf]; omega
        · obtain rfl : k = 2 := by omega
          clear hc0 hc1 hsz hq1 hq2 hlt
          simp only [show ((2 : Nat) : Int) = 2 from rfl]
          go_wp2
          have hB1 := hB
          clear hB
          generalize hW2 : wr.alloc _ = W2
          obtain ⟨q0, hq0, hq0', hc0⟩ : ∃ q0 : Int, q0 ≤ 0 ∧ -9223372036854775808 ≤ q0 ∧ W2.cell? ⟨wr.heap.size, 0, none⟩ = some (.int .i64 q0) := ⟨0, by omega, by omega, by rw [← hW2]; simp [go_sem]⟩
          obtain ⟨q, hq1, hq2, hc1⟩ : ∃ q : Int, 17 ≤ q ∧ q ≤ 9223372036854775807 ∧ W2.cell? ⟨wr.heap.size, 1, none⟩ = some (.int .i64 q) := ⟨17, by omega, by omega, by rw [← hW2]; simp [go_sem]⟩
          have hsz : wr.heap.size < W2.heap.size := by rw [← hW2]; simp
          have hB : Below w.heap.size w W2 := by rw [← hW2]; exact hB1.alloc hB1.size _
          clear hW2 hB1
          generalize wr.heap.size = B at *
          clear wr
          go_loopw [91] (fun i wr => ∃ k : Nat, k ≤ 2 ∧ i = .int .i64 k ∧ wr.cell? ⟨B, 0, none⟩ = some (.int .i64 q0) ∧ wr.cell? ⟨B, 1, none⟩ = some (.int .i64 q) ∧ B < wr.heap.size ∧ Below w.heap.size w wr) (fun i _ => 2 - (intOf i).toNat)
          case atStart => exact ⟨0, by omega, rfl, hc0, hc1, hsz, hB⟩
          case round =>
            clear hc0 hc1 hsz hB
            obtain ⟨k, hk, rfl, hc0, hc1, hsz, hB⟩ := hrel
            by_cases hlt : k < 2
            · obtain ⟨p, hp, hp1, hp2, hck⟩ : ∃ p : Int, Hid (p < 1 ∨ 16 < p) ∧ -9223372036854775808 ≤ p ∧ p ≤ 9223372036854775807 ∧ wr.cell? ⟨B, k, none⟩ = some (.int .i64 p) := by
                have : k = 0 ∨ k = 1 := by omega
                rcases this with rfl | rfl
                · exact ⟨q0, .inl (by omega), by omega, by omega, hc0⟩
                · exact ⟨q, .inr (by omega), by omega, hq2, hc1⟩
              have hdk : decide ((k : Int) < 2) = true := by simp; omega
              go_wp2
              clear hdk
              obtain ⟨wo, rfl⟩ : ∃ wo : World, wo = wr := ⟨_, rfl⟩
              go_loopw [17] (fun i wr => ∃ o : Nat, 1 ≤ o ∧ o ≤ 17 ∧ i = .int .u8 o ∧ wr.cell? ⟨B, 0, none⟩ = some (.int .i64 q0) ∧ wr.cell? ⟨B, 1, none⟩ = some (.int .i64 q) ∧ B < wr.heap.size ∧ Below w.heap.size w wr) (fun i _ => 17 - (intOf i).toNat)
              case atStart => exact ⟨1, by omega, by omega, rfl, hc0, hc1, hsz, hB⟩
              case round =>
                clear hc0 hc1 hsz hB hck
                obtain ⟨o, ho1, ho2, rfl, hc0, hc1, hsz, hB⟩ := hrel
                have hck : True := trivial
                by_cases hlo : o < 17
                · go_wp2_with (first | (go_at_call 22; refine (apply_badwidth _ _ _ _ (by omega) (by omega) hp.out hp1 hp2 _).mono ?_; rintro e w3 ⟨rfl, hb3⟩; replace hB := hB.trans (hb3.mono hB.size); replace hc0 := (hb3.cell (p := ⟨B, 0, none⟩) hsz).trans hc0; replace hc1 := (hb3.cell (p := ⟨B, 1, none⟩) hsz).trans hc1; replace hsz := Nat.lt_of_lt_of_le hsz hb3.size; clear hb3) | (go_at_call 20; refine (width_badwidth _ _ (by omega) (by omega) hp.out hp1 hp2 _).mono ?_; rintro e w3 ⟨rfl, hb3⟩; replace hB := hB.trans (hb3.mono hB.size); replace hc0 := (hb3.cell (p := ⟨B, 0, none⟩) hsz).trans hc0; replace hc1 := (hb3.cell (p := ⟨B, 1, none⟩) hsz).trans hc1; replace hsz := Nat.lt_of_lt_of_le hsz hb3.size; clear hb3))
                  go_roundw
                  case rel => exact ⟨o + 1, by omega, by omega, by go_num, hc0, hc1, hsz, hB⟩
                  case measure => simp [intOf]; omega
                · obtain rfl : o = 17 := by omega
                  go_wp2_with (first | (go_at_call 12; refine (cut_bad _ _ _ hp.out hp1 hp2 ha ha').mono ?_; rintro e w' ⟨rfl, rfl⟩) | (go_at_call 26; refine (bitsL_bad _ _ hp.out hp1 hp2 _).mono ?_; rintro e w' ⟨rfl, rfl⟩))
                  go_roundw
                  case rel => exact ⟨k + 1, by omega, by go_num, hc0, hc1, hsz, hB⟩
                  case measure => simp [intOf]; omega
            · obtain rfl : k = 2 := by omega
              clear hc0 hc1 hsz hlt
              have hmk := fun w => run_make_row' (P := Try.prog) 35 4 (.bool false) 1 Try.underlying35 Try.info4 rfl .i64 .i64 (17 + op.toNat) (by omega) (by omega) w
              rw [show ((17 + op.toNat : Nat) : Int) = 17 + op by omega] at hmk
              go_wp2_with (first | (go_at_call 27; refine (fromBits_bad _ _ _ (by omega) (by omega) _).mono ?_; rintro e w' ⟨rfl, rfl⟩) | (go_at_call 28; refine (find_empty _).mono ?_; rintro e w3 ⟨rfl, hb3⟩))
              go_ret
              exact ⟨rfl, (hB.alloc hB.size _).trans (hb3.mono (by have := hB.size; simp; omega))⟩
    ·
      go_enter Try.func10, Try.ntmps10
      go_wp2_with (first | (go_at_call 11; refine (awake_ok _).mono ?_; rintro e w1 ⟨rfl, hB1⟩))
      generalize hW2 : w1.alloc _ = W2
      have hc0 : W2.cell? ⟨w1.heap.size, 0, none⟩ = some (.int .u8 0) := by rw [← hW2]; simp [go_sem]
      obtain ⟨q, hq1, hq2, hc1⟩ : ∃ q : Int, 17 ≤ q ∧ q ≤ 255 ∧ W2.cell? ⟨w1.heap.size, 1, none⟩ = some (.int .u8 q) := ⟨op, by omega, by omega, by rw [← hW2]; simp [go_sem]⟩
      have hsz : w1.heap.size < W2.heap.size := by rw [← hW2]; simp
      have hB : Below w.heap.size w W2 := by rw [← hW2]; exact hB1.alloc hB1.size _
      clear hW2 hB1
      generalize w1.heap.size = B at *
      go_loopw [38] (fun i wr => ∃ k : Nat, k ≤ 2 ∧ i = .int .i64 k ∧ wr.cell? ⟨B, 0, none⟩ = some (.int .u8 0) ∧ wr.cell? ⟨B, 1, none⟩ = some (.int .u8 q) ∧ B < wr.heap.size ∧ Below w.heap.size w wr) (fun i _ => 2 - (intOf i).toNat)
      case atStart => exact ⟨0, by omega, rfl, hc0, hc1, hsz, hB⟩
      case round =>
        clear hc0 hc1 hsz hB
        obtain ⟨k, hk, rfl, hc0, hc1, hsz, hB⟩ := hrel
        by_cases hlt : k < 2
        · obtain ⟨p, hp, hp2, hck⟩ : ∃ p : Int, Hid (p = 0 ∨ 17 ≤ p) ∧ p ≤ 255 ∧ wr.cell? ⟨B, k, none⟩ = some (.int .u8 p) := by
            have : k = 0 ∨ k = 1 := by omega
            rcases this with rfl | rfl
            · exact ⟨0, .inl rfl, by omega, hc0⟩
            · exact ⟨q, .inr hq1, hq2, hc1⟩
          go_wp2_with (first | (go_at_call 22; refine (apply_badop _ _ _ _ hp.out hp2 _).mono ?_; rintro e w3 ⟨rfl, hb3⟩; replace hB := hB.trans (hb3.mono hB.size); replace hc0 := (hb3.cell (p := ⟨B, 0, none⟩) hsz).trans hc0; replace hc1 := (hb3.cell (p := ⟨B, 1, none⟩) hsz).trans hc1; replace hck := (hb3.cell (p := ⟨B, k, none⟩) hsz).trans hck; replace hsz := Nat.lt_of_lt_of_le hsz hb3.size; clear hb3) | (go_at_call 20; refine (width_badop _ _ hp.out hp2 _).mono ?_; rintro e w3 ⟨rfl, hb3⟩; replace hB := hB.trans (hb3.mono hB.size); replace hc0 := (hb3.cell (p := ⟨B, 0, none⟩) hsz).trans hc0; replace hc1 := (hb3.cell (p := ⟨B, 1, none⟩) hsz).trans hc1; replace hck := (hb3.cell (p := ⟨B, k, none⟩) hsz).trans hck; replace hsz := Nat.lt_of_lt_of_le hsz hb3.size; clear hb3) | (go_at_call 23; refine (name_none _ hp.out hp2 _).mono ?_; rintro e w3 ⟨rfl, hb3⟩; replace hB := hB.trans (hb3.mono hB.size); replace hc0 := (hb3.cell (p := ⟨B, 0, none⟩) hsz).trans hc0; replace hc1 := (hb3.cell (p := ⟨B, 1, none⟩) hsz).trans hc1; replace hck := (hb3.cell (p := ⟨B, k, none⟩) hsz).trans hck; replace hsz := Nat.lt_of_lt_of_le hsz hb3.size; clear hb3) | (go_at_call 24; refine (rank_bad _ hp.out hp2 _).mono ?_; rintro e w3 ⟨rfl, hb3⟩; replace hB := hB.trans (hb3.mono hB.size); replace hc0 := (hb3.cell (p := ⟨B, 0, none⟩) hsz).trans hc0; replace hc1 := (hb3.cell (p := ⟨B, 1, none⟩) hsz).trans hc1; replace hck := (hb3.cell (p := ⟨B, k, none⟩) hsz).trans hck; replace hsz := Nat.lt_of_lt_of_le hsz hb3.size; clear hb3) | (go_at_call 25; refine (two_bad _ hp.out hp2 _).mono ?_; rintro e w3 ⟨rfl, hb3⟩; replace hB := hB.trans (hb3.mono hB.size); replace hc0 := (hb3.cell (p := ⟨B, 0, none⟩) hsz).trans hc0; replace hc1 := (hb3.cell (p := ⟨B, 1, none⟩) hsz).trans hc1; replace hck := (hb3.cell (p := ⟨B, k, none⟩) hsz).trans hck; replace hsz := Nat.lt_of_lt_of_le hsz hb3.size; clear hb3))
          go_roundw
          case rel => exact ⟨k + 1, by omega, by go_num, hc0, hc1, hsz, hB⟩
          case measure => simp [intOf]; omega
        · obtain rfl : k = 2 := by omega
          clear hc0 hc1 hsz hq1 hq2 hlt
          simp only [show ((2 : Nat) : Int) = 2 from rfl]
          go_wp2
          have hB1 := hB
          clear hB
          generalize hW2 : wr.alloc _ = W2
          obtain ⟨q0, hq0, hq0', hc0⟩ : ∃ q0 : Int, q0 ≤ 0 ∧ -9223372036854775808 ≤ q0 ∧ W2.cell? ⟨wr.heap.size, 0, none⟩ = some (.int .i64 q0) := ⟨0, by omega, by omega, by rw [← hW2]; simp [go_sem]⟩
          obtain ⟨q, hq1, hq2, hc1⟩ : ∃ q : Int, 17 ≤ q ∧ q ≤ 9223372036854775807 ∧ W2.cell? ⟨wr.heap.size, 1, none⟩ = some (.int .i64 q) := ⟨n, by omega, by omega, by rw [← hW2]; simp [go_sem]⟩
          have hsz : wr.heap.size < W2.heap.size := by rw [← hW2]; simp
          have hB : Below w.heap.size w W2 := by rw [← hW2]; exact hB1.alloc hB1.size _
          clear hW2 hB1
          generalize wr.heap.size = B at *
          clear wr
          go_loopw [91] (fun i wr => ∃ k : Nat, k ≤ 2 ∧ i = .int .i64 k ∧ wr.cell? ⟨B, 0, none⟩ = some (.int .i64 q0) ∧ wr.cell? ⟨B, 1, none⟩ = some (.int .i64 q) ∧ B < wr.heap.size ∧ Below w.heap.size w wr) (fun i _ => 2 - (intOf i).toNat)
          case atStart => exact ⟨0, by omega, rfl, hc0, hc1, hsz, hB⟩
          case round =>
            clear hc0 hc1 hsz hB
            obtain ⟨k, hk, rfl, hc0, hc1, hsz, hB⟩ := hrel
            by_cases hlt : k < 2
            · obtain ⟨p, hp, hp1, hp2, hck⟩ : ∃ p : Int, Hid (p < 1 ∨ 16 < p) ∧ -9223372036854775808 ≤ p ∧ p ≤ 9223372036854775807 ∧ wr.cell? ⟨B, k, none⟩ = some (.int .i64 p) := by
                have : k = 0 ∨ k = 1 := by omega
                rcases this with rfl | rfl
                · exact ⟨q0, .inl (by omega), by omega, by omega, hc0⟩
                · exact ⟨q, .inr (by omega), by omega, hq2, hc1⟩
              have hdk : decide ((k : Int) < 2) = true := by simp; omega
              go_wp2
              clear hdk
              obtain ⟨wo, rfl⟩ : ∃ wo : World, wo = wr := ⟨_, rfl⟩
              go_loopw [17] (fun i wr => ∃ o : Nat, 1 ≤ o ∧ o ≤ 17 ∧ i = .int .u8 o ∧ wr.cell? ⟨B, 0, none⟩ = some (.int .i64 q0) ∧ wr.cell? ⟨B, 1, none⟩ = some (.int .i64 q) ∧ B < wr.heap.size ∧ Below w.heap.size w wr) (fun i _ => 17 - (intOf i).toNat)
              case atStart => exact ⟨1, by omega, by omega, rfl, hc0, hc1, hsz, hB⟩
              case round =>
                clear hc0 hc1 hsz hB hck
                obtain ⟨o, ho1, ho2, rfl, hc0, hc1, hsz, hB⟩ := hrel
                have hck : True := trivial
                by_cases hlo : o < 17
                · go_wp2_with (first | (go_at_call 22; refine (apply_badwidth _ _ _ _ (by omega) (by omega) hp.out hp1 hp2 _).mono ?_; rintro e w3 ⟨rfl, hb3⟩; replace hB := hB.trans (hb3.mono hB.size); replace hc0 := (hb3.cell (p := ⟨B, 0, none⟩) hsz).trans hc0; replace hc1 := (hb3.cell (p := ⟨B, 1, none⟩) hsz).trans hc1; replace hsz := Nat.lt_of_lt_of_le hsz hb3.size; clear hb3) | (go_at_call 20; refine (width_badwidth _ _ (by omega) (by omega) hp.out hp1 hp2 _).mono ?_; rintro e w3 ⟨rfl, hb3⟩; replace hB := hB.trans (hb3.mono hB.size); replace hc0 := (hb3.cell (p := ⟨B, 0, none⟩) hsz).trans hc0; replace hc1 := (hb3.cell (p := ⟨B, 1, none⟩) hsz).trans hc1; replace hsz := Nat.lt_of_lt_of_le hsz hb3.size; clear hb3))
                  go_roundw
                  case rel => exact ⟨o + 1, by omega, by omega, by go_num, hc0, hc1, hsz, hB⟩
                  case measure => simp [intOf]; omega
                · obtain rfl : o = 17 := by omega
                  go_wp2_with (first | (go_at_call 12; refine (cut_bad _ _ _ hp.out hp1 hp2 ha ha').mono ?_; rintro e w' ⟨rfl, rfl⟩) | (go_at_call 26; refine (bitsL_bad _ _ hp.out hp1 hp2 _).mono ?_; rintro e w' ⟨rfl, rfl⟩))
                  go_roundw
                  case rel => exact ⟨k + 1, by omega, by go_num, hc0, hc1, hsz, hB⟩
                  case measure => simp [intOf]; omega
            · obtain rfl : k = 2 := by omega
              clear hc0 hc1 hsz hlt
              have hmk := fun w => run_make_row' (P := Try.prog) 35 4 (.bool false) 1 Try.underlying35 Try.info4 rfl .i64 .i64 (17 + op.toNat) (by omega) (by omega) w
              rw [show ((17 + op.toNat : Nat) : Int) = 17 + op by omega] at hmk
              go_wp2_with (first | (go_at_call 27; refine (fromBits_bad _ _ _ (by omega) (by omega) _).mono ?_; rintro e w' ⟨rfl, rfl⟩) | (go_at_call 28; refine (find_empty _).mono ?_; rintro e w3 ⟨rfl, hb3⟩))
              go_ret
              exact ⟨rfl, (hB.alloc hB.size _).trans (hb3.mono (by have := hB.size; simp; omega))⟩
  · have c1' : op < 17 := by omega
    clear c1
    rcases hcase with c2 | ⟨c2, c3⟩ | c2
    ·
      go_enter Try.func10, Try.ntmps10
      go_wp2_with (first | (go_at_call 11; refine (awake_ok _).mono ?_; rintro e w1 ⟨rfl, hB1⟩))
      generalize hW2 : w1.alloc _ = W2
      have hc0 : W2.cell? ⟨w1.heap.size, 0, none⟩ = some (.int .u8 0) := by rw [← hW2]; simp [go_sem]
      obtain ⟨q, hq1, hq2, hc1⟩ : ∃ q : Int, 17 ≤ q ∧ q ≤ 255 ∧ W2.cell? ⟨w1.heap.size, 1, none⟩ = some (.int .u8 q) := ⟨17, by omega, by omega, by rw [← hW2]; simp [go_sem]⟩
      have hsz : w1.heap.size < W2.heap.size := by rw [← hW2]; simp
      have hB : Below w.heap.size w W2 := by rw [← hW2]; exact hB1.alloc hB1.size _
      clear hW2 hB1
      generalize w1.heap.size = B at *
      go_loopw [38] (fun i wr => ∃ k : Nat, k ≤ 2 ∧ i = .int .i64 k ∧ wr.cell? ⟨B, 0, none⟩ = some (.int .u8 0) ∧ wr.cell? ⟨B, 1, none⟩ = some (.int .u8 q) ∧ B < wr.heap.size ∧ Below w.heap.size w wr) (fun i _ => 2 - (intOf i).toNat)
      case atStart => exact ⟨0, by omega, rfl, hc0, hc1, hsz, hB⟩
      case round =>
        clear hc0 hc1 hsz hB
        obtain ⟨k, hk, rfl, hc0, hc1, hsz, hB⟩ := hrel
        by_cases hlt : k < 2
        · obtain ⟨p, hp, hp2, hck⟩ : ∃ p : Int, Hid (p = 0 ∨ 17 ≤ p) ∧ p ≤ 255 ∧ wr.cell? ⟨B, k, none⟩ = some (.int .u8 p) := by
            have : k = 0 ∨ k = 1 := by omega
            rcases this with rfl | rfl
            · exact ⟨0, .inl rfl, by omega, hc0⟩
            · exact ⟨q, .inr hq1, hq2, hc1⟩
          go_wp2_with (first | (go_at_call 22; refine (apply_badop _ _ _ _ hp.out hp2 _).mono ?_; rintro e w3 ⟨rfl, hb3⟩; replace hB := hB.trans (hb3.mono hB.size); replace hc0 := (hb3.cell (p := ⟨B, 0, none⟩) hsz).trans hc0; replace hc1 := (hb3.cell (p := ⟨B, 1, none⟩) hsz).trans hc1; replace hck := (hb3.cell (p := ⟨B, k, none⟩) hsz).trans hck; replace hsz := Nat.lt_of_lt_of_le hsz hb3.size; clear hb3) | (go_at_call 20; refine (width_badop _ _ hp.out hp2 _).mono ?_; rintro e w3 ⟨rfl, hb3⟩; replace hB := hB.trans (hb3.mono hB.size); replace hc0 := (hb3.cell (p := ⟨B, 0, none⟩) hsz).trans hc0; replace hc1 := (hb3.cell (p := ⟨B, 1, none⟩) hsz).trans hc1; replace hck := (hb3.cell (p := ⟨B, k, none⟩) hsz).trans hck; replace hsz := Nat.lt_of_lt_of_le hsz hb3.size; clear hb3) | (go_at_call 23; refine (name_none _ hp.out hp2 _).mono ?_; rintro e w3 ⟨rfl, hb3⟩; replace hB := hB.trans (hb3.mono hB.size); replace hc0 := (hb3.cell (p := ⟨B, 0, none⟩) hsz).trans hc0; replace hc1 := (hb3.cell (p := ⟨B, 1, none⟩) hsz).trans hc1; replace hck := (hb3.cell (p := ⟨B, k, none⟩) hsz).trans hck; replace hsz := Nat.lt_of_lt_of_le hsz hb3.size; clear hb3) | (go_at_call 24; refine (rank_bad _ hp.out hp2 _).mono ?_; rintro e w3 ⟨rfl, hb3⟩; replace hB := hB.trans (hb3.mono hB.size); replace hc0 := (hb3.cell (p := ⟨B, 0, none⟩) hsz).trans hc0; replace hc1 := (hb3.cell (p := ⟨B, 1, none⟩) hsz).trans hc1; replace hck := (hb3.cell (p := ⟨B, k, none⟩) hsz).trans hck; replace hsz := Nat.lt_of_lt_of_le hsz hb3.size; clear hb3) | (go_at_call 25; refine (two_bad _ hp.out hp2 _).mono ?_; rintro e w3 ⟨rfl, hb3⟩; replace hB := hB.trans (hb3.mono hB.size); replace hc0 := (hb3.cell (p := ⟨B, 0, none⟩) hsz).trans hc0; replace hc1 := (hb3.cell (p := ⟨B, 1, none⟩) hsz).trans hc1; replace hck := (hb3.cell (p := ⟨B, k, none⟩) hsz).trans hck; replace hsz := Nat.lt_of_lt_of_le hsz hb3.size; clear hb3))
          go_roundw
          case rel => exact ⟨k + 1, by omega, by go_num, hc0, hc1, hsz, hB⟩
          case measure => simp [intOf]; omega
        · obtain rfl : k = 2 := by omega
          clear hc0 hc1 hsz hq1 hq2 hlt
          simp only [show ((2 : Nat) : Int) = 2 from rfl]
          go_wp2
          have hB1 := hB
          clear hB
          generalize hW2 : wr.alloc _ = W2
          obtain ⟨q0, hq0, hq0', hc0⟩ : ∃ q0 : Int, q0 ≤ 0 ∧ -9223372036854775808 ≤ q0 ∧ W2.cell? ⟨wr.heap.size, 0, none⟩ = some (.int .i64 q0) := ⟨n, by omega, by omega, by rw [← hW2]; simp [go_sem]⟩
          obtain ⟨q, hq1, hq2, hc1⟩ : ∃ q : Int, 17 ≤ q ∧ q ≤ 9223372036854775807 ∧ W2.cell? ⟨wr.heap.size, 1, none⟩ = some (.int .i64 q) := ⟨17, by omega, by omega, by rw [← hW2]; simp [go_sem]⟩
          have hsz : wr.heap.size < W2.heap.size := by rw [← hW2]; simp
          have hB : Below w.heap.size w W2 := by rw [← hW2]; exact hB1.alloc hB1.size _
          clear hW2 hB1
          generalize wr.heap.size = B at *
          clear wr
          go_loopw [91] (fun i wr => ∃ k : Nat, k ≤ 2 ∧ i = .int .i64 k ∧ wr.cell? ⟨B, 0, none⟩ = some (.int .i64 q0) ∧ wr.cell? ⟨B, 1, none⟩ = some (.int .i64 q) ∧ B < wr.heap.size ∧ Below w.heap.size w wr) (fun i _ => 2 - (intOf i).toNat)
          case atStart => exact ⟨0, by omega, rfl, hc0, hc1, hsz, hB⟩
          case round =>
            clear hc0 hc1 hsz hB
            obtain ⟨k, hk, rfl, hc0, hc1, hsz, hB⟩ := hrel
            by_cases hlt : k < 2
            · obtain ⟨p, hp, hp1, hp2, hck⟩ : ∃ p : Int, Hid (p < 1 ∨ 16 < p) ∧ -9223372036854775808 ≤ p ∧ p ≤ 9223372036854775807 ∧ wr.cell? ⟨B, k, none⟩ = some (.int .i64 p) := by
                have : k = 0 ∨ k = 1 := by omega
                rcases this with rfl | rfl
                · exact ⟨q0, .inl (by omega), by omega, by omega, hc0⟩
                · exact ⟨q, .inr (by omega), by omega, hq2, hc1⟩
              have hdk : decide ((k : Int) < 2) = true := by simp; omega
              go_wp2
              clear hdk
              obtain ⟨wo, rfl⟩ : ∃ wo : World, wo = wr := ⟨_, rfl⟩
              go_loopw [17] (fun i wr => ∃ o : Nat, 1 ≤ o ∧ o ≤ 17 ∧ i = .int .u8 o ∧ wr.cell? ⟨B, 0, none⟩ = some (.int .i64 q0) ∧ wr.cell? ⟨B, 1, none⟩ = some (.int .i64 q) ∧ B < wr.heap.size ∧ Below w.heap.size w wr) (fun i _ => 17 - (intOf i).toNat)
              case atStart => exact ⟨1, by omega, by omega, rfl, hc0, hc1, hsz, hB⟩
              case round =>
                clear hc0 hc1 hsz hB hck
                obtain ⟨o, ho1, ho2, rfl, hc0, hc1, hsz, hB⟩ := hrel
                have hck : True := trivial
                by_cases hlo : o < 17
                · go_wp2_with (first | (go_at_call 22; refine (apply_badwidth _ _ _ _ (by omega) (by omega) hp.out hp1 hp2 _).mono ?_; rintro e w3 ⟨rfl, hb3⟩; replace hB := hB.trans (hb3.mono hB.size); replace hc0 := (hb3.cell (p := ⟨B, 0, none⟩) hsz).trans hc0; replace hc1 := (hb3.cell (p := ⟨B, 1, none⟩) hsz).trans hc1; replace hsz := Nat.lt_of_lt_of_le hsz hb3.size; clear hb3) | (go_at_call 20; refine (width_badwidth _ _ (by omega) (by omega) hp.out hp1 hp2 _).mono ?_; rintro e w3 ⟨rfl, hb3⟩; replace hB := hB.trans (hb3.mono hB.size); replace hc0 := (hb3.cell (p := ⟨B, 0, none⟩) hsz).trans hc0; replace hc1 := (hb3.cell (p := ⟨B, 1, none⟩) hsz).trans hc1; replace hsz := Nat.lt_of_lt_of_le hsz hb3.size; clear hb3))
                  go_roundw
                  case rel => exact ⟨o + 1, by omega, by omega, by go_num, hc0, hc1, hsz, hB⟩
                  case measure => simp [intOf]; omega
                · obtain rfl : o = 17 := by omega
                  go_wp2_with (first | (go_at_call 12; refine (cut_bad _ _ _ hp.out hp1 hp2 ha ha').mono ?_; rintro e w' ⟨rfl, rfl⟩) | (go_at_call 26; refine (bitsL_bad _ _ hp.out hp1 hp2 _).mono ?_; rintro e w' ⟨rfl, rfl⟩))
                  go_roundw
                  case rel => exact ⟨k + 1, by omega, by go_num, hc0, hc1, hsz, hB⟩
                  case measure => simp [intOf]; omega
            · obtain rfl : k = 2 := by omega
              clear hc0 hc1 hsz hlt
              have hmk := fun w => run_make_row' (P := Try.prog) 35 4 (.bool false) 1 Try.underlying35 Try.info4 rfl .i64 .i64 (17 + op.toNat) (by omega) (by omega) w
              rw [show ((17 + op.toNat : Nat) : Int) = 17 + op by omega] at hmk
              go_wp2_with (first | (go_at_call 27; refine (fromBits_bad _ _ _ (by omega) (by omega) _).mono ?_; rintro e w' ⟨rfl, rfl⟩) | (go_at_call 28; refine (find_empty _).mono ?_; rintro e w3 ⟨rfl, hb3⟩))
              go_ret
              exact ⟨rfl, (hB.alloc hB.size _).trans (hb3.mono (by have := hB.size; simp; omega))⟩
    ·
      go_enter Try.func10, Try.ntmps10
      go_wp2_with (first | (go_at_call 11; refine (awake_ok _).mono ?_; rintro e w1 ⟨rfl, hB1⟩))
      generalize hW2 : w1.alloc _ = W2
      have hc0 : W2.cell? ⟨w1.heap.size, 0, none⟩ = some (.int .u8 0) := by rw [← hW2]; simp [go_sem]
      obtain ⟨q, hq1, hq2, hc1⟩ : ∃ q : Int, 17 ≤ q ∧ q ≤ 255 ∧ W2.cell? ⟨w1.heap.size, 1, none⟩ = some (.int .u8 q) := ⟨17, by omega, by omega, by rw [← hW2]; simp [go_sem]⟩
      have hsz : w1.heap.size < W2.heap.size := by rw [← hW2]; simp
      have hB : Below w.heap.size w W2 := by rw [← hW2]; exact hB1.alloc hB1.size _
      clear hW2 hB1
      generalize w1.heap.size = B at *
      go_loopw [38] (fun i wr => ∃ k : Nat, k ≤ 2 ∧ i = .int .i64 k ∧ wr.cell? ⟨B, 0, none⟩ = some (.int .u8 0) ∧ wr.cell? ⟨B, 1, none⟩ = some (.int .u8 q) ∧ B < wr.heap.size ∧ Below w.heap.size w wr) (fun i _ => 2 - (intOf i).toNat)
      case atStart => exact ⟨0, by omega, rfl, hc0, hc1, hsz, hB⟩
      case round =>
        clear hc0 hc1 hsz hB
        obtain ⟨k, hk, rfl, hc0, hc1, hsz, hB⟩ := hrel
        by_cases hlt : k < 2
        · obtain ⟨p, hp, hp2, hck⟩ : ∃ p : Int, Hid (p = 0 ∨ 17 ≤ p) ∧ p ≤ 255 ∧ wr.cell? ⟨B, k, none⟩ = some (.int .u8 p) := by
            have : k = 0 ∨ k = 1 := by omega
            rcases this with rfl | rfl
            · exact ⟨0, .inl rfl, by omega, hc0⟩
            · exact ⟨q, .inr hq1, hq2, hc1⟩
          go_wp2_with (first | (go_at_call 22; refine (apply_badop _ _ _ _ hp.out hp2 _).mono ?_; rintro e w3 ⟨rfl, hb3⟩; replace hB := hB.trans (hb3.mono hB.size); replace hc0 := (hb3.cell (p := ⟨B, 0, none⟩) hsz).trans hc0; replace hc1 := (hb3.cell (p := ⟨B, 1, none⟩) hsz).trans hc1; replace hck := (hb3.cell (p := ⟨B, k, none⟩) hsz).trans hck; replace hsz := Nat.lt_of_lt_of_le hsz hb3.size; clear hb3) | (go_at_call 20; refine (width_badop _ _ hp.out hp2 _).mono ?_; rintro e w3 ⟨rfl, hb3⟩; replace hB := hB.trans (hb3.mono hB.size); replace hc0 := (hb3.cell (p := ⟨B, 0, none⟩) hsz).trans hc0; replace hc1 := (hb3.cell (p := ⟨B, 1, none⟩) hsz).trans hc1; replace hck := (hb3.cell (p := ⟨B, k, none⟩) hsz).trans hck; replace hsz := Nat.lt_of_lt_of_le hsz hb3.size; clear hb3) | (go_at_call 23; refine (name_none _ hp.out hp2 _).mono ?_; rintro e w3 ⟨rfl, hb3⟩; replace hB := hB.trans (hb3.mono hB.size); replace hc0 := (hb3.cell (p := ⟨B, 0, none⟩) hsz).trans hc0; replace hc1 := (hb3.cell (p := ⟨B, 1, none⟩) hsz).trans hc1; replace hck := (hb3.cell (p := ⟨B, k, none⟩) hsz).trans hck; replace hsz := Nat.lt_of_lt_of_le hsz hb3.size; clear hb3) | (go_at_call 24; refine (rank_bad _ hp.out hp2 _).mono ?_; rintro e w3 ⟨rfl, hb3⟩; replace hB := hB.trans (hb3.mono hB.size); replace hc0 := (hb3.cell (p := ⟨B, 0, none⟩) hsz).trans hc0; replace hc1 := (hb3.cell (p := ⟨B, 1, none⟩) hsz).trans hc1; replace hck := (hb3.cell (p := ⟨B, k, none⟩) hsz).trans hck; replace hsz := Nat.lt_of_lt_of_le hsz hb3.size; clear hb3) | (go_at_call 25; refine (two_bad _ hp.out hp2 _).mono ?_; rintro e w3 ⟨rfl, hb3⟩; replace hB := hB.trans (hb3.mono hB.size); replace hc0 := (hb3.cell (p := ⟨B, 0, none⟩) hsz).trans hc0; replace hc1 := (hb3.cell (p := ⟨B, 1, none⟩) hsz).trans hc1; replace hck := (hb3.cell (p := ⟨B, k, none⟩) hsz).trans hck; replace hsz := Nat.lt_of_lt_of_le hsz hb3.size; clear hb3))
          go_roundw
          case rel => exact ⟨k + 1, by omega, by go_num, hc0, hc1, hsz, hB⟩
          case measure => simp [intOf]; omega
        · obtain rfl : k = 2 := by omega
          clear hc0 hc1 hsz hq1 hq2 hlt
          simp only [show ((2 : Nat) : Int) = 2 from rfl]
          go_wp2
          have hB1 := hB
          clear hB
          generalize hW2 : wr.alloc _ = W2
          obtain ⟨q0, hq0, hq0', hc0⟩ : ∃ q0 : Int, q0 ≤ 0 ∧ -9223372036854775808 ≤ q0 ∧ W2.cell? ⟨wr.heap.size, 0, none⟩ = some (.int .i64 q0) := ⟨0, by omega, by omega, by rw [← hW2]; simp [go_sem]⟩
          obtain ⟨q, hq1, hq2, hc1⟩ : ∃ q : Int, 17 ≤ q ∧ q ≤ 9223372036854775807 ∧ W2.cell? ⟨wr.heap.size, 1, none⟩ = some (.int .i64 q) := ⟨17, by omega, by omega, by rw [← hW2]; simp [go_sem]⟩
          have hsz : wr.heap.size < W2.heap.size := by rw [← hW2]; simp
          have hB : Below w.heap.size w W2 := by rw [← hW2]; exact hB1.alloc hB1.size _
          clear hW2 hB1
          generalize wr.heap.size = B at *
          clear wr
          go_loopw [91] (fun i wr => ∃ k : Nat, k ≤ 2 ∧ i = .int .i64 k ∧ wr.cell? ⟨B, 0, none⟩ = some (.int .i64 q0) ∧ wr.cell? ⟨B, 1, none⟩ = some (.int .i64 q) ∧ B < wr.heap.size ∧ Below w.heap.size w wr) (fun i _ => 2 - (intOf i).toNat)
          case atStart => exact ⟨0, by omega, rfl, hc0, hc1, hsz, hB⟩
          case round =>
            clear hc0 hc1 hsz hB
            obtain ⟨k, hk, rfl, hc0, hc1, hsz, hB⟩ := hrel
            by_cases hlt : k < 2
            · obtain ⟨p, hp, hp1, hp2, hck⟩ : ∃ p : Int, Hid (p < 1 ∨ 16 < p) ∧ -9223372036854775808 ≤ p ∧ p ≤ 9223372036854775807 ∧ wr.cell? ⟨B, k, none⟩ = some (.int .i64 p) := by
                have : k = 0 ∨ k = 1 := by omega
                rcases this with rfl | rfl
                · exact ⟨q0, .inl (by omega), by omega, by omega, hc0⟩
                · exact ⟨q, .inr (by omega), by omega, hq2, hc1⟩
              have hdk : decide ((k : Int) < 2) = true := by simp; omega
              go_wp2
              clear hdk
              obtain ⟨wo, rfl⟩ : ∃ wo : World, wo = wr := ⟨_, rfl⟩
              go_loopw [17] (fun i wr => ∃ o : Nat, 1 ≤ o ∧ o ≤ 17 ∧ i = .int .u8 o ∧ wr.cell? ⟨B, 0, none⟩ = some (.int .i64 q0) ∧ wr.cell? ⟨B, 1, none⟩ = some (.int .i64 q) ∧ B < wr.heap.size ∧ Below w.heap.size w wr) (fun i _ => 17 - (intOf i).toNat)
              case atStart => exact ⟨1, by omega, by omega, rfl, hc0, hc1, hsz, hB⟩
              case round =>
                clear hc0 hc1 hsz hB hck
                obtain ⟨o, ho1, ho2, rfl, hc0, hc1, hsz, hB⟩ := hrel
                have hck : True := trivial
                by_cases hlo : o < 17
                · go_wp2_with (first | (go_at_call 22; refine (apply_badwidth _ _ _ _ (by omega) (by omega) hp.out hp1 hp2 _).mono ?_; rintro e w3 ⟨rfl, hb3⟩; replace hB := hB.trans (hb3.mono hB.size); replace hc0 := (hb3.cell (p := ⟨B, 0, none⟩) hsz).trans hc0; replace hc1 := (hb3.cell (p := ⟨B, 1, none⟩) hsz).trans hc1; replace hsz := Nat.lt_of_lt_of_le hsz hb3.size; clear hb3) | (go_at_call 20; refine (width_badwidth _ _ (by omega) (by omega) hp.out hp1 hp2 _).mono ?_; rintro e w3 ⟨rfl, hb3⟩; replace hB := hB.trans (hb3.mono hB.size); replace hc0 := (hb3.cell (p := ⟨B, 0, none⟩) hsz).trans hc0; replace hc1 := (hb3.cell (p := ⟨B, 1, none⟩) hsz).trans hc1; replace hsz := Nat.lt_of_lt_of_le hsz hb3.size; clear hb3))
                  go_roundw
                  case rel => exact ⟨o + 1, by omega, by omega, by go_num, hc0, hc1, hsz, hB⟩
                  case measure => simp [intOf]; omega
                · obtain rfl : o = 17 := by omega
                  go_wp2_with (first | (go_at_call 12; refine (cut_bad _ _ _ hp.out hp1 hp2 ha ha').mono ?_; rintro e w' ⟨rfl, rfl⟩) | (go_at_call 26; refine (bitsL_bad _ _ hp.out hp1 hp2 _).mono ?_; rintro e w' ⟨rfl, rfl⟩))
                  go_roundw
                  case rel => exact ⟨k + 1, by omega, by go_num, hc0, hc1, hsz, hB⟩
                  case measure => simp [intOf]; omega
            · obtain rfl : k = 2 := by omega
              clear hc0 hc1 hsz hlt
              have hmk := fun w => run_make_row' (P := Try.prog) 35 4 (.bool false) 1 Try.underlying35 Try.info4 rfl .i64 .i64 (17 + op.toNat) (by omega) (by omega) w
              rw [show ((17 + op.toNat : Nat) : Int) = 17 + op by omega] at hmk
              go_wp2_with (first | (go_at_call 27; refine (fromBits_bad _ _ _ (by omega) (by omega) _).mono ?_; rintro e w' ⟨rfl, rfl⟩) | (go_at_call 28; refine (find_empty _).mono ?_; rintro e w3 ⟨rfl, hb3⟩))
              go_ret
              exact ⟨rfl, (hB.alloc hB.size _).trans (hb3.mono (by have := hB.size; simp; omega))⟩
    ·
      go_enter Try.func10, Try.ntmps10
      go_wp2_with (first | (go_at_call 11; refine (awake_ok _).mono ?_; rintro e w1 ⟨rfl, hB1⟩))
      generalize hW2 : w1.alloc _ = W2
      have hc0 : W2.cell? ⟨w1.heap.size, 0, none⟩ = some (.int .u8 0) := by rw [← hW2]; simp [go_sem]
      obtain ⟨q, hq1, hq2, hc1⟩ : ∃ q : Int, 17 ≤ q ∧ q ≤ 255 ∧ W2.cell? ⟨w1.heap.size, 1, none⟩ = some (.int .u8 q) := ⟨17, by omega, by omega, by rw [← hW2]; simp [go_sem]⟩
      have hsz : w1.heap.size < W2.heap.size := by rw [← hW2]; simp
      have hB : Below w.heap.size w W2 := by rw [← hW2]; exact hB1.alloc hB1.size _
      clear hW2 hB1
      generalize w1.heap.size = B at *
      go_loopw [38] (fun i wr => ∃ k : Nat, k ≤ 2 ∧ i = .int .i64 k ∧ wr.cell? ⟨B, 0, none⟩ = some (.int .u8 0) ∧ wr.cell? ⟨B, 1, none⟩ = some (.int .u8 q) ∧ B < wr.heap.size ∧ Below w.heap.size w wr) (fun i _ => 2 - (intOf i).toNat)
      case atStart => exact ⟨0, by omega, rfl, hc0, hc1, hsz, hB⟩
      case round =>
        clear hc0 hc1 hsz hB
        obtain ⟨k, hk, rfl, hc0, hc1, hsz, hB⟩ := hrel
        by_cases hlt : k < 2
        · obtain ⟨p, hp, hp2, hck⟩ : ∃ p : Int, Hid (p = 0 ∨ 17 ≤ p) ∧ p ≤ 255 ∧ wr.cell? ⟨B, k, none⟩ = some (.int .u8 p) := by
            have : k = 0 ∨ k = 1 := by omega
            rcases this with rfl | rfl
            · exact ⟨0, .inl rfl, by omega, hc0⟩
            · exact ⟨q, .inr hq1, hq2, hc1⟩
          go_wp2_with (first | (go_at_call 22; refine (apply_badop _ _ _ _ hp.out hp2 _).mono ?_; rintro e w3 ⟨rfl, hb3⟩; replace hB := hB.trans (hb3.mono hB.size); replace hc0 := (hb3.cell (p := ⟨B, 0, none⟩) hsz).trans hc0; replace hc1 := (hb3.cell (p := ⟨B, 1, none⟩) hsz).trans hc1; replace hck := (hb3.cell (p := ⟨B, k, none⟩) hsz).trans hck; replace hsz := Nat.lt_of_lt_of_le hsz hb3.size; clear hb3) | (go_at_call 20; refine (width_badop _ _ hp.out hp2 _).mono ?_; rintro e w3 ⟨rfl, hb3⟩; replace hB := hB.trans (hb3.mono hB.size); replace hc0 := (hb3.cell (p := ⟨B, 0, none⟩) hsz).trans hc0; replace hc1 := (hb3.cell (p := ⟨B, 1, none⟩) hsz).trans hc1; replace hck := (hb3.cell (p := ⟨B, k, none⟩) hsz).trans hck; replace hsz := Nat.lt_of_lt_of_le hsz hb3.size; clear hb3) | (go_at_call 23; refine (name_none _ hp.out hp2 _).mono ?_; rintro e w3 ⟨rfl, hb3⟩; replace hB := hB.trans (hb3.mono hB.size); replace hc0 := (hb3.cell (p := ⟨B, 0, none⟩) hsz).trans hc0; replace hc1 := (hb3.cell (p := ⟨B, 1, none⟩) hsz).trans hc1; replace hck := (hb3.cell (p := ⟨B, k, none⟩) hsz).trans hck; replace hsz := Nat.lt_of_lt_of_le hsz hb3.size; clear hb3) | (go_at_call 24; refine (rank_bad _ hp.out hp2 _).mono ?_; rintro e w3 ⟨rfl, hb3⟩; replace hB := hB.trans (hb3.mono hB.size); replace hc0 := (hb3.cell (p := ⟨B, 0, none⟩) hsz).trans hc0; replace hc1 := (hb3.cell (p := ⟨B, 1, none⟩) hsz).trans hc1; replace hck := (hb3.cell (p := ⟨B, k, none⟩) hsz).trans hck; replace hsz := Nat.lt_of_lt_of_le hsz hb3.size; clear hb3) | (go_at_call 25; refine (two_bad _ hp.out hp2 _).mono ?_; rintro e w3 ⟨rfl, hb3⟩; replace hB := hB.trans (hb3.mono hB.size); replace hc0 := (hb3.cell (p := ⟨B, 0, none⟩) hsz).trans hc0; replace hc1 := (hb3.cell (p := ⟨B, 1, none⟩) hsz).trans hc1; replace hck := (hb3.cell (p := ⟨B, k, none⟩) hsz).trans hck; replace hsz := Nat.lt_of_lt_of_le hsz hb3.size; clear hb3))
          go_roundw
          case rel => exact ⟨k + 1, by omega, by go_num, hc0, hc1, hsz, hB⟩
          case measure => simp [intOf]; omega
        · obtain rfl : k = 2 := by omega
          clear hc0 hc1 hsz hq1 hq2 hlt
          simp only [show ((2 : Nat) : Int) = 2 from rfl]
          go_wp2
          have hB1 := hB
          clear hB
          generalize hW2 : wr.alloc _ = W2
          obtain ⟨q0, hq0, hq0', hc0⟩ : ∃ q0 : Int, q0 ≤ 0 ∧ -9223372036854775808 ≤ q0 ∧ W2.cell? ⟨wr.heap.size, 0, none⟩ = some (.int .i64 q0) := ⟨0, by omega, by omega, by rw [← hW2]; simp [go_sem]⟩
          obtain ⟨q, hq1, hq2, hc1⟩ : ∃ q : Int, 17 ≤ q ∧ q ≤ 9223372036854775807 ∧ W2.cell? ⟨wr.heap.size, 1, none⟩ = some (.int .i64 q) := ⟨n, by omega, by omega, by rw [← hW2]; simp [go_sem]⟩
          have hsz : wr.heap.size < W2.heap.size := by rw [← hW2]; simp
          have hB : Below w.heap.size w W2 := by rw [← hW2]; exact hB1.alloc hB1.size _
          clear hW2 hB1
          generalize wr.heap.size = B at *
          clear wr
          go_loopw [91] (fun i wr => ∃ k : Nat, k ≤ 2 ∧ i = .int .i64 k ∧ wr.cell? ⟨B, 0, none⟩ = some (.int .i64 q0) ∧ wr.cell? ⟨B, 1, none⟩ = some (.int .i64 q) ∧ B < wr.heap.size ∧ Below w.heap.size w wr) (fun i _ => 2 - (intOf i).toNat)
          case atStart => exact ⟨0, by omega, rfl, hc0, hc1, hsz, hB⟩
          case round =>
            clear hc0 hc1 hsz hB
            obtain ⟨k, hk, rfl, hc0, hc1, hsz, hB⟩ := hrel
            by_cases hlt : k < 2
            · obtain ⟨p, hp, hp1, hp2, hck⟩ : ∃ p : Int, Hid (p < 1 ∨ 16 < p) ∧ -9223372036854775808 ≤ p ∧ p ≤ 9223372036854775807 ∧ wr.cell? ⟨B, k, none⟩ = some (.int .i64 p) := by
                have : k = 0 ∨ k = 1 := by omega
                rcases this with rfl | rfl
                · exact ⟨q0, .inl (by omega), by omega, by omega, hc0⟩
                · exact ⟨q, .inr (by omega), by omega, hq2, hc1⟩
              have hdk : decide ((k : Int) < 2) = true := by simp; omega
              go_wp2
              clear hdk
              obtain ⟨wo, rfl⟩ : ∃ wo : World, wo = wr := ⟨_, rfl⟩
              go_loopw [17] (fun i wr => ∃ o : Nat, 1 ≤ o ∧ o ≤ 17 ∧ i = .int .u8 o ∧ wr.cell? ⟨B, 0, none⟩ = some (.int .i64 q0) ∧ wr.cell? ⟨B, 1, none⟩ = some (.int .i64 q) ∧ B < wr.heap.size ∧ Below w.heap.size w wr) (fun i _ => 17 - (intOf i).toNat)
              case atStart => exact ⟨1, by omega, by omega, rfl, hc0, hc1, hsz, hB⟩
              case round =>
                clear hc0 hc1 hsz hB hck
                obtain ⟨o, ho1, ho2, rfl, hc0, hc1, hsz, hB⟩ := hrel
                have hck : True := trivial
                by_cases hlo : o < 17
                · go_wp2_with (first | (go_at_call 22; refine (apply_badwidth _ _ _ _ (by omega) (by omega) hp.out hp1 hp2 _).mono ?_; rintro e w3 ⟨rfl, hb3⟩; replace hB := hB.trans (hb3.mono hB.size); replace hc0 := (hb3.cell (p := ⟨B, 0, none⟩) hsz).trans hc0; replace hc1 := (hb3.cell (p := ⟨B, 1, none⟩) hsz).trans hc1; replace hsz := Nat.lt_of_lt_of_le hsz hb3.size; clear hb3) | (go_at_call 20; refine (width_badwidth _ _ (by omega) (by omega) hp.out hp1 hp2 _).mono ?_; rintro e w3 ⟨rfl, hb3⟩; replace hB := hB.trans (hb3.mono hB.size); replace hc0 := (hb3.cell (p := ⟨B, 0, none⟩) hsz).trans hc0; replace hc1 := (hb3.cell (p := ⟨B, 1, none⟩) hsz).trans hc1; replace hsz := Nat.lt_of_lt_of_le hsz hb3.size; clear hb3))
                  go_roundw
                  case rel => exact ⟨o + 1, by omega, by omega, by go_num, hc0, hc1, hsz, hB⟩
                  case measure => simp [intOf]; omega
                · obtain rfl : o = 17 := by omega
                  go_wp2_with (first | (go_at_call 12; refine (cut_bad _ _ _ hp.out hp1 hp2 ha ha').mono ?_; rintro e w' ⟨rfl, rfl⟩) | (go_at_call 26; refine (bitsL_bad _ _ hp.out hp1 hp2 _).mono ?_; rintro e w' ⟨rfl, rfl⟩))
                  go_roundw
                  case rel => exact ⟨k + 1, by omega, by go_num, hc0, hc1, hsz, hB⟩
                  case measure => simp [intOf]; omega
            · obtain rfl : k = 2 := by omega
              clear hc0 hc1 hsz hlt
              have hmk := fun w => run_make_row' (P := Try.prog) 35 4 (.bool false) 1 Try.underlying35 Try.info4 rfl .i64 .i64 (17 + op.toNat) (by omega) (by omega) w
              rw [show ((17 + op.toNat : Nat) : Int) = 17 + op by omega] at hmk
              go_wp2_with (first | (go_at_call 27; refine (fromBits_bad _ _ _ (by omega) (by omega) _).mono ?_; rintro e w' ⟨rfl, rfl⟩) | (go_at_call 28; refine (find_empty _).mono ?_; rintro e w3 ⟨rfl, hb3⟩))
              go_ret
              exact ⟨rfl, (hB.alloc hB.size _).trans (hb3.mono (by have := hB.size; simp; omega))⟩
end Go.Proofs.Ytfgmcinegogdkaa
