/- tells: the walk, of a width that there is. -/
import Derived.Test.YtfgmcinegogdkaaTellsBad
import Derived.BigQuiet
namespace Go.Proofs.Ytfgmcinegogdkaa
open Go.RowKit
set_option linter.unusedVariables false
set_option linter.unusedSimpArgs false
set_option maxHeartbeats 4000000
theorem most_pw (n : Int) (h1 : 1 ≤ n) (h2 : n ≤ 16) (w : World) :
    Calls Try.prog 13 #[.int .i64 n] w fun e w' => e = .returned (.tuple #[.int .u32 (pw n - 1), .int .i64 0]) ∧ w = w' := most_ok n w h1 h2
set_option maxRecDepth 100000 in
theorem tells_ok1 (op n x y i : Int) (h0 : 0 ≤ op) (h1 : op ≤ 255) (h1n : 1 ≤ n) (h2n : n ≤ 16) (hx : 0 ≤ x) (hx' : x ≤ 4294967295) (hy : 0 ≤ y) (hy' : y ≤ 4294967295)
    (i1 : -9223372036854775808 ≤ i) (i2 : i ≤ 9223372036854775807) (w : World) (a : 0 ≤ i) (b : i < 32) :
    Calls Try.prog 18 #[.int .u8 op, .int .i64 n, .int .u32 x, .int .u32 y, .int .i64 i] w fun e w' => e = .returned (.bool true) ∧ Below w.heap.size w w' := by
  have n1 : -9223372036854775808 ≤ n := by omega
  have n2 : n ≤ 9223372036854775807 := by omega
  have A := apA_bd op n x y hx hx' hy hy'
  have B := apE_bd op n
  have C := cutW_bd x n h1n h2n
  have M := mostW_bd n h1n h2n
  have PB := pw_bd n h1n h2n
  obtain ⟨m, rfl⟩ := Int.eq_ofNat_of_zero_le (show 0 ≤ n by omega)
  have hm : 0 < m := by omega
  have E := Lib.hid (bitW_in x i a b)
  have D := pw_div_bd x i hx
  have P := pw_bd31 i a b
  go_enter Try.func18, Try.ntmps18
  go_wp2_with (first | (first | (go_at_call 22; refine (ap_all _ _ _ _ h0 h1 n1 n2 hx hx' hy hy' _).mono ?_; rintro e w1 ⟨rfl, hB1⟩) | (go_at_call 33; refine (rap_all _ _ _ _ h0 h1 n1 n2 hx hx' hy hy' _).mono ?_; rintro e w2 ⟨rfl, hB2⟩; replace hB := hB1.trans (hB2.mono hB1.size); clear hB1 hB2) | (go_at_call 20; refine (wi_all _ _ h0 h1 n1 n2 _).mono ?_; rintro e w3 ⟨rfl, hB3⟩; replace hB := hB.trans (hB3.mono hB.size); clear hB3) | (go_at_call 34; refine (rwi_all _ _ h0 h1 n1 n2 _).mono ?_; rintro e w' ⟨rfl, rfl⟩) | (go_at_call 35; refine (power_ok _ (by omega) (by omega) _).mono ?_; rintro e w' ⟨rfl, rfl⟩) | (go_at_call 36; refine (bit_any _ _ hx hx' i1 i2 _).mono ?_; rw [E.out]; rintro e w' ⟨rfl, rfl⟩)) | (go_at_call 12; refine (cut_ok _ _ _ h1n h2n hx hx').mono ?_; rintro e w' ⟨rfl, rfl⟩) | (go_at_call 13; refine (most_pw _ h1n h2n _).mono ?_; rintro e w' ⟨rfl, rfl⟩) | (go_at_call 26; refine (bitsL_ok _ _ hx hx' h1n h2n _).mono ?_; rintro e w4 ⟨g, rfl, hg, hg', hcl, hB4⟩; replace hB := hB.trans (hB4.mono hB.size); clear hB4 hg; replace hcl := Lib.hid hcl) | (go_at_call 31; refine (rwidth_yes _ h1n h2n _).mono ?_; rintro e w' ⟨rfl, rfl⟩) | (go_at_call 38; refine (rcut_ok _ _ h1n h2n hx (by omega) _).mono ?_; rintro e w' ⟨rfl, rfl⟩))
  go_at_call 37
  refine (rbits_ok x _ (by omega) h2n hx hx' _).mono ?_
  rintro e w5 ⟨v, rfl, hr, hB5⟩
  rw [Int.toNat_natCast] at hr hcl
  obtain ⟨gb, capb, cb, rfl, hgb, hhb, hcb⟩ := row_open hm hr
  clear hr
  have QA : Hid (∀ j : Nat, j < m → w5.cell? ⟨g, j, none⟩ = some (.bool (bitI x j))) := fun j hj => by
    rw [hB5.cell (p := ⟨g, j, none⟩) hg', hcl.out j hj, bitW_I x j (by omega)]
  have QB : Hid (∀ j : Nat, j < m → w5.cell? ⟨gb, j, none⟩ = some (.bool (bitI x j))) := fun j hj => by
    rw [cell_block hhb]; exact hcb j hj
  replace hB := hB.trans (hB5.mono hB.size)
  clear hhb hcb hcl hB5 hgb hg'
  go_wp2_with (first | (first | (go_at_call 22; refine (ap_all _ _ _ _ h0 h1 n1 n2 hx hx' hy hy' _).mono ?_; rintro e w1 ⟨rfl, hB1⟩) | (go_at_call 33; refine (rap_all _ _ _ _ h0 h1 n1 n2 hx hx' hy hy' _).mono ?_; rintro e w2 ⟨rfl, hB2⟩; replace hB := hB1.trans (hB2.mono hB1.size); clear hB1 hB2) | (go_at_call 20; refine (wi_all _ _ h0 h1 n1 n2 _).mono ?_; rintro e w3 ⟨rfl, hB3⟩; replace hB := hB.trans (hB3.mono hB.size); clear hB3) | (go_at_call 34; refine (rwi_all _ _ h0 h1 n1 n2 _).mono ?_; rintro e w' ⟨rfl, rfl⟩) | (go_at_call 35; refine (power_ok _ (by omega) (by omega) _).mono ?_; rintro e w' ⟨rfl, rfl⟩) | (go_at_call 36; refine (bit_any _ _ hx hx' i1 i2 _).mono ?_; rw [E.out]; rintro e w' ⟨rfl, rfl⟩)) | (go_at_call 12; refine (cut_ok _ _ _ h1n h2n hx hx').mono ?_; rintro e w' ⟨rfl, rfl⟩) | (go_at_call 13; refine (most_pw _ h1n h2n _).mono ?_; rintro e w' ⟨rfl, rfl⟩) | (go_at_call 26; refine (bitsL_ok _ _ hx hx' h1n h2n _).mono ?_; rintro e w4 ⟨g, rfl, hg, hg', hcl, hB4⟩; replace hB := hB.trans (hB4.mono hB.size); clear hB4 hg; replace hcl := Lib.hid hcl) | (go_at_call 31; refine (rwidth_yes _ h1n h2n _).mono ?_; rintro e w' ⟨rfl, rfl⟩) | (go_at_call 38; refine (rcut_ok _ _ h1n h2n hx (by omega) _).mono ?_; rintro e w' ⟨rfl, rfl⟩))
  go_loopw [178] (fun i wr => ∃ k d : Nat, k ≤ m ∧ i = .int .i64 k ∧ wr = w5.drewN d) (fun i _ => m - (intOf i).toNat)
  case atStart => exact ⟨0, 0, by omega, rfl, rfl⟩
  case round =>
    obtain ⟨k, d, hk, rfl, rfl⟩ := hrel
    by_cases hlt : k < m
    · have q1 := QA.out k hlt
      have q2 := QB.out k hlt
      go_wp2_with fail
      go_quiet (fail)
      go_wp2_with fail
      go_roundw
      case rel => exact ⟨k + 1, _, by omega, by go_num, rfl⟩
      case measure => simp [intOf]; omega
    · obtain rfl : k = m := by omega
      go_wp2_with fail
      go_ret
      exact ⟨rfl, below_drewN hB _⟩
set_option maxRecDepth 100000 in
theorem tells_ok2 (op n x y i : Int) (h0 : 0 ≤ op) (h1 : op ≤ 255) (h1n : 1 ≤ n) (h2n : n ≤ 16) (hx : 0 ≤ x) (hx' : x ≤ 4294967295) (hy : 0 ≤ y) (hy' : y ≤ 4294967295)
    (i1 : -9223372036854775808 ≤ i) (i2 : i ≤ 9223372036854775807) (w : World) (a : 0 ≤ i) (b : ¬ i < 32) :
    Calls Try.prog 18 #[.int .u8 op, .int .i64 n, .int .u32 x, .int .u32 y, .int .i64 i] w fun e w' => e = .returned (.bool true) ∧ Below w.heap.size w w' := by
  have n1 : -9223372036854775808 ≤ n := by omega
  have n2 : n ≤ 9223372036854775807 := by omega
  have A := apA_bd op n x y hx hx' hy hy'
  have B := apE_bd op n
  have C := cutW_bd x n h1n h2n
  have M := mostW_bd n h1n h2n
  have PB := pw_bd n h1n h2n
  obtain ⟨m, rfl⟩ := Int.eq_ofNat_of_zero_le (show 0 ≤ n by omega)
  have hm : 0 < m := by omega
  have E := Lib.hid (bitW_out x i (by omega))
  go_enter Try.func18, Try.ntmps18
  go_wp2_with (first | (first | (go_at_call 22; refine (ap_all _ _ _ _ h0 h1 n1 n2 hx hx' hy hy' _).mono ?_; rintro e w1 ⟨rfl, hB1⟩) | (go_at_call 33; refine (rap_all _ _ _ _ h0 h1 n1 n2 hx hx' hy hy' _).mono ?_; rintro e w2 ⟨rfl, hB2⟩; replace hB := hB1.trans (hB2.mono hB1.size); clear hB1 hB2) | (go_at_call 20; refine (wi_all _ _ h0 h1 n1 n2 _).mono ?_; rintro e w3 ⟨rfl, hB3⟩; replace hB := hB.trans (hB3.mono hB.size); clear hB3) | (go_at_call 34; refine (rwi_all _ _ h0 h1 n1 n2 _).mono ?_; rintro e w' ⟨rfl, rfl⟩) | (go_at_call 35; refine (power_ok _ (by omega) (by omega) _).mono ?_; rintro e w' ⟨rfl, rfl⟩) | (go_at_call 36; refine (bit_any _ _ hx hx' i1 i2 _).mono ?_; rw [E.out]; rintro e w' ⟨rfl, rfl⟩)) | (go_at_call 12; refine (cut_ok _ _ _ h1n h2n hx hx').mono ?_; rintro e w' ⟨rfl, rfl⟩) | (go_at_call 13; refine (most_pw _ h1n h2n _).mono ?_; rintro e w' ⟨rfl, rfl⟩) | (go_at_call 26; refine (bitsL_ok _ _ hx hx' h1n h2n _).mono ?_; rintro e w4 ⟨g, rfl, hg, hg', hcl, hB4⟩; replace hB := hB.trans (hB4.mono hB.size); clear hB4 hg; replace hcl := Lib.hid hcl) | (go_at_call 31; refine (rwidth_yes _ h1n h2n _).mono ?_; rintro e w' ⟨rfl, rfl⟩) | (go_at_call 38; refine (rcut_ok _ _ h1n h2n hx (by omega) _).mono ?_; rintro e w' ⟨rfl, rfl⟩))
  go_at_call 37
  refine (rbits_ok x _ (by omega) h2n hx hx' _).mono ?_
  rintro e w5 ⟨v, rfl, hr, hB5⟩
  rw [Int.toNat_natCast] at hr hcl
  obtain ⟨gb, capb, cb, rfl, hgb, hhb, hcb⟩ := row_open hm hr
  clear hr
  have QA : Hid (∀ j : Nat, j < m → w5.cell? ⟨g, j, none⟩ = some (.bool (bitI x j))) := fun j hj => by
    rw [hB5.cell (p := ⟨g, j, none⟩) hg', hcl.out j hj, bitW_I x j (by omega)]
  have QB : Hid (∀ j : Nat, j < m → w5.cell? ⟨gb, j, none⟩ = some (.bool (bitI x j))) := fun j hj => by
    rw [cell_block hhb]; exact hcb j hj
  replace hB := hB.trans (hB5.mono hB.size)
  clear hhb hcb hcl hB5 hgb hg'
  go_wp2_with (first | (first | (go_at_call 22; refine (ap_all _ _ _ _ h0 h1 n1 n2 hx hx' hy hy' _).mono ?_; rintro e w1 ⟨rfl, hB1⟩) | (go_at_call 33; refine (rap_all _ _ _ _ h0 h1 n1 n2 hx hx' hy hy' _).mono ?_; rintro e w2 ⟨rfl, hB2⟩; replace hB := hB1.trans (hB2.mono hB1.size); clear hB1 hB2) | (go_at_call 20; refine (wi_all _ _ h0 h1 n1 n2 _).mono ?_; rintro e w3 ⟨rfl, hB3⟩; replace hB := hB.trans (hB3.mono hB.size); clear hB3) | (go_at_call 34; refine (rwi_all _ _ h0 h1 n1 n2 _).mono ?_; rintro e w' ⟨rfl, rfl⟩) | (go_at_call 35; refine (power_ok _ (by omega) (by omega) _).mono ?_; rintro e w' ⟨rfl, rfl⟩) | (go_at_call 36; refine (bit_any _ _ hx hx' i1 i2 _).mono ?_; rw [E.out]; rintro e w' ⟨rfl, rfl⟩)) | (go_at_call 12; refine (cut_ok _ _ _ h1n h2n hx hx').mono ?_; rintro e w' ⟨rfl, rfl⟩) | (go_at_call 13; refine (most_pw _ h1n h2n _).mono ?_; rintro e w' ⟨rfl, rfl⟩) | (go_at_call 26; refine (bitsL_ok _ _ hx hx' h1n h2n _).mono ?_; rintro e w4 ⟨g, rfl, hg, hg', hcl, hB4⟩; replace hB := hB.trans (hB4.mono hB.size); clear hB4 hg; replace hcl := Lib.hid hcl) | (go_at_call 31; refine (rwidth_yes _ h1n h2n _).mono ?_; rintro e w' ⟨rfl, rfl⟩) | (go_at_call 38; refine (rcut_ok _ _ h1n h2n hx (by omega) _).mono ?_; rintro e w' ⟨rfl, rfl⟩))
  go_loopw [178] (fun i wr => ∃ k d : Nat, k ≤ m ∧ i = .int .i64 k ∧ wr = w5.drewN d) (fun i _ => m - (intOf i).toNat)
  case atStart => exact ⟨0, 0, by omega, rfl, rfl⟩
  case round =>
    obtain ⟨k, d, hk, rfl, rfl⟩ := hrel
    by_cases hlt : k < m
    · have q1 := QA.out k hlt
      have q2 := QB.out k hlt
      go_wp2_with fail
      go_quiet (fail)
      go_wp2_with fail
      go_roundw
      case rel => exact ⟨k + 1, _, by omega, by go_num, rfl⟩
      case measure => simp [intOf]; omega
    · obtain rfl : k = m := by omega
      go_wp2_with fail
      go_ret
      exact ⟨rfl, below_drewN hB _⟩
set_option maxRecDepth 100000 in
theorem tells_ok3 (op n x y i : Int) (h0 : 0 ≤ op) (h1 : op ≤ 255) (h1n : 1 ≤ n) (h2n : n ≤ 16) (hx : 0 ≤ x) (hx' : x ≤ 4294967295) (hy : 0 ≤ y) (hy' : y ≤ 4294967295)
    (i1 : -9223372036854775808 ≤ i) (i2 : i ≤ 9223372036854775807) (w : World) (a : ¬ 0 ≤ i) :
    Calls Try.prog 18 #[.int .u8 op, .int .i64 n, .int .u32 x, .int .u32 y, .int .i64 i] w fun e w' => e = .returned (.bool true) ∧ Below w.heap.size w w' := by
  have n1 : -9223372036854775808 ≤ n := by omega
  have n2 : n ≤ 9223372036854775807 := by omega
  have A := apA_bd op n x y hx hx' hy hy'
  have B := apE_bd op n
  have C := cutW_bd x n h1n h2n
  have M := mostW_bd n h1n h2n
  have PB := pw_bd n h1n h2n
  obtain ⟨m, rfl⟩ := Int.eq_ofNat_of_zero_le (show 0 ≤ n by omega)
  have hm : 0 < m := by omega
  have E := Lib.hid (bitW_out x i (by omega))
  go_enter Try.func18, Try.ntmps18
  go_wp2_with (first | (first | (go_at_call 22; refine (ap_all _ _ _ _ h0 h1 n1 n2 hx hx' hy hy' _).mono ?_; rintro e w1 ⟨rfl, hB1⟩) | (go_at_call 33; refine (rap_all _ _ _ _ h0 h1 n1 n2 hx hx' hy hy' _).mono ?_; rintro e w2 ⟨rfl, hB2⟩; replace hB := hB1.trans (hB2.mono hB1.size); clear hB1 hB2) | (go_at_call 20; refine (wi_all _ _ h0 h1 n1 n2 _).mono ?_; rintro e w3 ⟨rfl, hB3⟩; replace hB := hB.trans (hB3.mono hB.size); clear hB3) | (go_at_call 34; refine (rwi_all _ _ h0 h1 n1 n2 _).mono ?_; rintro e w' ⟨rfl, rfl⟩) | (go_at_call 35; refine (power_ok _ (by omega) (by omega) _).mono ?_; rintro e w' ⟨rfl, rfl⟩) | (go_at_call 36; refine (bit_any _ _ hx hx' i1 i2 _).mono ?_; rw [E.out]; rintro e w' ⟨rfl, rfl⟩)) | (go_at_call 12; refine (cut_ok _ _ _ h1n h2n hx hx').mono ?_; rintro e w' ⟨rfl, rfl⟩) | (go_at_call 13; refine (most_pw _ h1n h2n _).mono ?_; rintro e w' ⟨rfl, rfl⟩) | (go_at_call 26; refine (bitsL_ok _ _ hx hx' h1n h2n _).mono ?_; rintro e w4 ⟨g, rfl, hg, hg', hcl, hB4⟩; replace hB := hB.trans (hB4.mono hB.size); clear hB4 hg; replace hcl := Lib.hid hcl) | (go_at_call 31; refine (rwidth_yes _ h1n h2n _).mono ?_; rintro e w' ⟨rfl, rfl⟩) | (go_at_call 38; refine (rcut_ok _ _ h1n h2n hx (by omega) _).mono ?_; rintro e w' ⟨rfl, rfl⟩))
  go_at_call 37
  refine (rbits_ok x _ (by omega) h2n hx hx' _).mono ?_
  rintro e w5 ⟨v, rfl, hr, hB5⟩
  rw [Int.toNat_natCast] at hr hcl
  obtain ⟨gb, capb, cb, rfl, hgb, hhb, hcb⟩ := row_open hm hr
  clear hr
  have QA : Hid (∀ j : Nat, j < m → w5.cell? ⟨g, j, none⟩ = some (.bool (bitI x j))) := fun j hj => by
    rw [hB5.cell (p := ⟨g, j, none⟩) hg', hcl.out j hj, bitW_I x j (by omega)]
  have QB : Hid (∀ j : Nat, j < m → w5.cell? ⟨gb, j, none⟩ = some (.bool (bitI x j))) := fun j hj => by
    rw [cell_block hhb]; exact hcb j hj
  replace hB := hB.trans (hB5.mono hB.size)
  clear hhb hcb hcl hB5 hgb hg'
  go_wp2_with (first | (first | (go_at_call 22; refine (ap_all _ _ _ _ h0 h1 n1 n2 hx hx' hy hy' _).mono ?_; rintro e w1 ⟨rfl, hB1⟩) | (go_at_call 33; refine (rap_all _ _ _ _ h0 h1 n1 n2 hx hx' hy hy' _).mono ?_; rintro e w2 ⟨rfl, hB2⟩; replace hB := hB1.trans (hB2.mono hB1.size); clear hB1 hB2) | (go_at_call 20; refine (wi_all _ _ h0 h1 n1 n2 _).mono ?_; rintro e w3 ⟨rfl, hB3⟩; replace hB := hB.trans (hB3.mono hB.size); clear hB3) | (go_at_call 34; refine (rwi_all _ _ h0 h1 n1 n2 _).mono ?_; rintro e w' ⟨rfl, rfl⟩) | (go_at_call 35; refine (power_ok _ (by omega) (by omega) _).mono ?_; rintro e w' ⟨rfl, rfl⟩) | (go_at_call 36; refine (bit_any _ _ hx hx' i1 i2 _).mono ?_; rw [E.out]; rintro e w' ⟨rfl, rfl⟩)) | (go_at_call 12; refine (cut_ok _ _ _ h1n h2n hx hx').mono ?_; rintro e w' ⟨rfl, rfl⟩) | (go_at_call 13; refine (most_pw _ h1n h2n _).mono ?_; rintro e w' ⟨rfl, rfl⟩) | (go_at_call 26; refine (bitsL_ok _ _ hx hx' h1n h2n _).mono ?_; rintro e w4 ⟨g, rfl, hg, hg', hcl, hB4⟩; replace hB := hB.trans (hB4.mono hB.size); clear hB4 hg; replace hcl := Lib.hid hcl) | (go_at_call 31; refine (rwidth_yes _ h1n h2n _).mono ?_; rintro e w' ⟨rfl, rfl⟩) | (go_at_call 38; refine (rcut_ok _ _ h1n h2n hx (by omega) _).mono ?_; rintro e w' ⟨rfl, rfl⟩))
  go_loopw [178] (fun i wr => ∃ k d : Nat, k ≤ m ∧ i = .int .i64 k ∧ wr = w5.drewN d) (fun i _ => m - (intOf i).toNat)
  case atStart => exact ⟨0, 0, by omega, rfl, rfl⟩
  case round =>
    obtain ⟨k, d, hk, rfl, rfl⟩ := hrel
    by_cases hlt : k < m
    · have q1 := QA.out k hlt
      have q2 := QB.out k hlt
      go_wp2_with fail
      go_quiet (fail)
      go_wp2_with fail
      go_roundw
      case rel => exact ⟨k + 1, _, by omega, by go_num, rfl⟩
      case measure => simp [intOf]; omega
    · obtain rfl : k = m := by omega
      go_wp2_with fail
      go_ret
      exact ⟨rfl, below_drewN hB _⟩
theorem tells_any (op n x y i : Int) (h0 : 0 ≤ op) (h1 : op ≤ 255) (n1 : -9223372036854775808 ≤ n) (n2 : n ≤ 9223372036854775807) (hx : 0 ≤ x) (hx' : x ≤ 4294967295) (hy : 0 ≤ y) (hy' : y ≤ 4294967295)
    (i1 : -9223372036854775808 ≤ i) (i2 : i ≤ 9223372036854775807) (w : World) :
    Calls Try.prog 18 #[.int .u8 op, .int .i64 n, .int .u32 x, .int .u32 y, .int .i64 i] w fun e w' => e = .returned (.bool true) ∧ Below w.heap.size w w' := by
  by_cases hn : 1 ≤ n ∧ n ≤ 16
  · by_cases a : 0 ≤ i
    · by_cases b : i < 32
      · exact tells_ok1 op n x y i h0 h1 hn.1 hn.2 hx hx' hy hy' i1 i2 w a b
      · exact tells_ok2 op n x y i h0 h1 hn.1 hn.2 hx hx' hy hy' i1 i2 w a b
    · exact tells_ok3 op n x y i h0 h1 hn.1 hn.2 hx hx' hy hy' i1 i2 w a
  · exact tells_bad op n x y i h0 h1 n1 n2 hx hx' hy hy' i1 i2 (by omega) w
set_option maxRecDepth 100000 in
theorem law_tells (op n x y i : Int) (h0 : 0 ≤ op) (h1 : op ≤ 255) (n1 : -9223372036854775808 ≤ n) (n2 : n ≤ 9223372036854775807) (hx : 0 ≤ x) (hx' : x ≤ 4294967295) (hy : 0 ≤ y) (hy' : y ≤ 4294967295)
    (i1 : -9223372036854775808 ≤ i) (i2 : i ≤ 9223372036854775807) (w : World) :
    Calls Try.prog 6 #[.int .u8 op, .int .i64 n, .int .u32 x, .int .u32 y, .int .i64 i] w fun e w' => e = .returned (.bool true) ∧ Below w.heap.size w w' := by
  go_enter Try.func6, Try.ntmps6
  go_wp2_with (first | (go_at_call 18; refine (tells_any _ _ _ _ _ h0 h1 n1 n2 hx hx' hy hy' i1 i2 _).mono ?_; rintro e w1 ⟨rfl, hB1⟩) | (go_at_call 11; refine (awake_ok _).mono ?_; rintro e w2 ⟨rfl, hB2⟩; replace hB1 := hB1.trans (hB2.mono hB1.size); clear hB2))
  go_ret
  exact ⟨rfl, hB1⟩
end Go.Proofs.Ytfgmcinegogdkaa
