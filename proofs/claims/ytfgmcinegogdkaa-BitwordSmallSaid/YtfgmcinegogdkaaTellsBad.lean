/- tells: the walk. -/
import Derived.Test.YtfgmcinegogdkaaRefE
namespace Go.Proofs.Ytfgmcinegogdkaa
open Go.RowKit
set_option linter.unusedVariables false
set_option linter.unusedSimpArgs false
set_option maxHeartbeats 4000000
theorem pw_div_bd (x i : Int) (hx : 0 ≤ x) : 0 ≤ x / pw i ∧ x / pw i ≤ x :=
  ⟨Int.ediv_nonneg hx (by have := pw_pos i; omega), Int.ediv_le_self _ hx⟩
theorem apE_bd (op n : Int) : 0 ≤ apE op n ∧ apE op n ≤ 221 := by
  unfold apE; split <;> (try split) <;> omega
theorem pw_bd31 (i : Int) (a : 0 ≤ i) (b : i < 32) : 1 ≤ pw i ∧ pw i ≤ 4294967296 := by
  refine ⟨by have := pw_pos i; omega, ?_⟩
  obtain ⟨k, rfl⟩ := Int.eq_ofNat_of_zero_le a
  have h : (2 : Nat) ^ k ≤ 2 ^ 31 := Nat.pow_le_pow_right (by omega) (by omega)
  have : pw (k : Int) = ((2 ^ k : Nat) : Int) := by unfold pw; simp
  rw [this]; omega
set_option maxRecDepth 100000 in
theorem tells_bad (op n x y i : Int) (h0 : 0 ≤ op) (h1 : op ≤ 255) (n1 : -9223372036854775808 ≤ n) (n2 : n ≤ 9223372036854775807) (hx : 0 ≤ x) (hx' : x ≤ 4294967295) (hy : 0 ≤ y) (hy' : y ≤ 4294967295)
    (i1 : -9223372036854775808 ≤ i) (i2 : i ≤ 9223372036854775807) (hn : n < 1 ∨ 16 < n) (w : World) :
    Calls Try.prog 18 #[.int .u8 op, .int .i64 n, .int .u32 x, .int .u32 y, .int .i64 i] w fun e w' => e = .returned (.bool true) ∧ Below w.heap.size w w' := by
  have A := apA_bd op n x y hx hx' hy hy'
  have B := apE_bd op n
  have H := Lib.hid hn
  clear hn
  by_cases a : 0 ≤ i
  · by_cases b : i < 32
    · have E := Lib.hid (bitW_in x i a b)
      have D := pw_div_bd x i hx
      have P := pw_bd31 i a b
      go_enter Try.func18, Try.ntmps18
      go_wp2_with (first | (first | (go_at_call 22; refine (ap_all _ _ _ _ h0 h1 n1 n2 hx hx' hy hy' _).mono ?_; rintro e w1 ⟨rfl, hB1⟩) | (go_at_call 33; refine (rap_all _ _ _ _ h0 h1 n1 n2 hx hx' hy hy' _).mono ?_; rintro e w2 ⟨rfl, hB2⟩; replace hB := hB1.trans (hB2.mono hB1.size); clear hB1 hB2) | (go_at_call 20; refine (wi_all _ _ h0 h1 n1 n2 _).mono ?_; rintro e w3 ⟨rfl, hB3⟩; replace hB := hB.trans (hB3.mono hB.size); clear hB3) | (go_at_call 34; refine (rwi_all _ _ h0 h1 n1 n2 _).mono ?_; rintro e w' ⟨rfl, rfl⟩) | (go_at_call 35; refine (power_ok _ (by omega) (by omega) _).mono ?_; rintro e w' ⟨rfl, rfl⟩) | (go_at_call 36; refine (bit_any _ _ hx hx' i1 i2 _).mono ?_; rw [E.out]; rintro e w' ⟨rfl, rfl⟩)) | (go_at_call 12; refine (cut_bad _ _ _ H.out n1 n2 hx hx').mono ?_; rintro e w' ⟨rfl, rfl⟩) | (go_at_call 13; refine (most_bad _ _ H.out n1 n2).mono ?_; rintro e w' ⟨rfl, rfl⟩) | (go_at_call 26; refine (bitsL_bad _ _ H.out n1 n2 _).mono ?_; rintro e w' ⟨rfl, rfl⟩) | (go_at_call 31; refine (rwidth_no _ H.out n1 n2 _).mono ?_; rintro e w' ⟨rfl, rfl⟩))
      go_ret
      exact ⟨rfl, hB⟩
    · have E := Lib.hid (bitW_out x i (by omega))
      go_enter Try.func18, Try.ntmps18
      go_wp2_with (first | (first | (go_at_call 22; refine (ap_all _ _ _ _ h0 h1 n1 n2 hx hx' hy hy' _).mono ?_; rintro e w1 ⟨rfl, hB1⟩) | (go_at_call 33; refine (rap_all _ _ _ _ h0 h1 n1 n2 hx hx' hy hy' _).mono ?_; rintro e w2 ⟨rfl, hB2⟩; replace hB := hB1.trans (hB2.mono hB1.size); clear hB1 hB2) | (go_at_call 20; refine (wi_all _ _ h0 h1 n1 n2 _).mono ?_; rintro e w3 ⟨rfl, hB3⟩; replace hB := hB.trans (hB3.mono hB.size); clear hB3) | (go_at_call 34; refine (rwi_all _ _ h0 h1 n1 n2 _).mono ?_; rintro e w' ⟨rfl, rfl⟩) | (go_at_call 35; refine (power_ok _ (by omega) (by omega) _).mono ?_; rintro e w' ⟨rfl, rfl⟩) | (go_at_call 36; refine (bit_any _ _ hx hx' i1 i2 _).mono ?_; rw [E.out]; rintro e w' ⟨rfl, rfl⟩)) | (go_at_call 12; refine (cut_bad _ _ _ H.out n1 n2 hx hx').mono ?_; rintro e w' ⟨rfl, rfl⟩) | (go_at_call 13; refine (most_bad _ _ H.out n1 n2).mono ?_; rintro e w' ⟨rfl, rfl⟩) | (go_at_call 26; refine (bitsL_bad _ _ H.out n1 n2 _).mono ?_; rintro e w' ⟨rfl, rfl⟩) | (go_at_call 31; refine (rwidth_no _ H.out n1 n2 _).mono ?_; rintro e w' ⟨rfl, rfl⟩))
      go_ret
      exact ⟨rfl, hB⟩
  · have E := Lib.hid (bitW_out x i (by omega))
    go_enter Try.func18, Try.ntmps18
    go_wp2_with (first | (first | (go_at_call 22; refine (ap_all _ _ _ _ h0 h1 n1 n2 hx hx' hy hy' _).mono ?_; rintro e w1 ⟨rfl, hB1⟩) | (go_at_call 33; refine (rap_all _ _ _ _ h0 h1 n1 n2 hx hx' hy hy' _).mono ?_; rintro e w2 ⟨rfl, hB2⟩; replace hB := hB1.trans (hB2.mono hB1.size); clear hB1 hB2) | (go_at_call 20; refine (wi_all _ _ h0 h1 n1 n2 _).mono ?_; rintro e w3 ⟨rfl, hB3⟩; replace hB := hB.trans (hB3.mono hB.size); clear hB3) | (go_at_call 34; refine (rwi_all _ _ h0 h1 n1 n2 _).mono ?_; rintro e w' ⟨rfl, rfl⟩) | (go_at_call 35; refine (power_ok _ (by omega) (by omega) _).mono ?_; rintro e w' ⟨rfl, rfl⟩) | (go_at_call 36; refine (bit_any _ _ hx hx' i1 i2 _).mono ?_; rw [E.out]; rintro e w' ⟨rfl, rfl⟩)) | (go_at_call 12; refine (cut_bad _ _ _ H.out n1 n2 hx hx').mono ?_; rintro e w' ⟨rfl, rfl⟩) | (go_at_call 13; refine (most_bad _ _ H.out n1 n2).mono ?_; rintro e w' ⟨rfl, rfl⟩) | (go_at_call 26; refine (bitsL_bad _ _ H.out n1 n2 _).mono ?_; rintro e w' ⟨rfl, rfl⟩) | (go_at_call 31; refine (rwidth_no _ H.out n1 n2 _).mono ?_; rintro e w' ⟨rfl, rfl⟩))
    go_ret
    exact ⟨rfl, hB⟩
end Go.Proofs.Ytfgmcinegogdkaa
