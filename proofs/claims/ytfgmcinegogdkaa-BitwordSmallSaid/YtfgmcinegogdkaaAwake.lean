/- awake: the chapter's examples. -/
import Derived.Test.YtfgmcinegogdkaaBits
namespace Go.Proofs.Ytfgmcinegogdkaa
open Go.RowKit Go.Shelf
set_option linter.unusedVariables false
theorem bitsL_ok (x n : Int) (hx : 0 ≤ x) (hx' : x ≤ 4294967295) (h1 : 1 ≤ n) (h2 : n ≤ 16) (w : World) :
    Calls Try.prog 26 #[.int .u32 x, .int .i64 n] w fun e w' => ∃ g, e = .returned (.tuple #[.slice (some ⟨g, 0, none⟩) n.toNat n.toNat, .int .i64 0]) ∧ w.heap.size ≤ g ∧ g < w'.heap.size ∧
      (∀ j : Nat, j < n.toNat → w'.cell? ⟨g, j, none⟩ = some (.bool (bitW x j))) ∧ Below w.heap.size w w' := by
  obtain ⟨m, rfl⟩ := Int.eq_ofNat_of_zero_le (show 0 ≤ n by omega)
  rw [Int.toNat_natCast]
  exact callsIn_wide.1 (bitsL_in 3 (by omega) x m hx hx' (by omega) (by omega) w)
set_option maxHeartbeats 1000000 in
theorem bitsL_bad (x n : Int) (h : n < 1 ∨ 16 < n) (h1 : -9223372036854775808 ≤ n) (h2 : n ≤ 9223372036854775807) (w : World) :
    Calls Try.prog 26 #[.int .u32 x, .int .i64 n] w fun e w' => e = .returned (.tuple #[.slice none 0 0, .int .i64 220]) ∧ w = w' := by
  have H := Lib.hid h
  clear h
  go_enter Try.func26, Try.ntmps26
  go_wp2_with (go_at_call 13; refine (most_bad _ _ H.out h1 h2).mono ?_; rintro e w' ⟨rfl, rfl⟩)
  go_ret2
  exact ⟨rfl, rfl⟩
set_option maxRecDepth 100000 in
set_option maxHeartbeats 1000000 in
theorem awake_ok (w : World) : Calls Try.prog 11 #[] w fun e w' => e = .returned (.bool true) ∧ Below w.heap.size w w' := by
  have c0 : cutW 21 4 = 5 := by decide
  have f1 : findT ⟨#[45]⟩ true = 4 := by decide +kernel
  have f2 : findT ⟨#[45]⟩ false = 2 := by decide +kernel
  have f3 : findT ⟨#[33]⟩ false = 0 := by decide +kernel
  have a1 : appW 3 4 9 8 = 1 := by decide
  have a2 : appW 2 4 1 0 = 15 := by decide
  have a3 : appW 6 4 7 0 = 15 := by decide
  have a4 : appW 7 4 7 0 = 7 := by decide
  have a5 : appW 11 4 5 1 = 10 := by decide
  have a6 : appW 11 4 5 4 = 0 := by decide
  have a7 : appW 15 4 3 9 = 1 := by decide
  have b0 : bitW 5 0 = true := by decide
  have b1 : bitW 5 1 = false := by decide
  have b2 : bitW 5 2 = true := by decide
  have b3 : bitW 5 3 = false := by decide
  go_enter Try.func11, Try.ntmps11
  go_wp2_with (first | (go_at_call 12; refine (cut_ok _ _ _ (by omega) (by omega) (by omega) (by omega)).mono ?_; rintro e w' ⟨rfl, rfl⟩) | (go_at_call 26; refine (bitsL_ok _ _ (by omega) (by omega) (by omega) (by omega) _).mono ?_; rintro e w1 ⟨g, rfl, hg1, hg2, hcl, hB⟩; have q0 := hcl 0 (by decide); have q1 := hcl 1 (by decide); have q2 := hcl 2 (by decide); have q3 := hcl 3 (by decide); clear hcl hg1; replace q0 : w1.cell? ⟨g, 0, none⟩ = some (.bool true) := q0; replace q1 : w1.cell? ⟨g, 1, none⟩ = some (.bool false) := q1; replace q2 : w1.cell? ⟨g, 2, none⟩ = some (.bool true) := q2; replace q3 : w1.cell? ⟨g, 3, none⟩ = some (.bool false) := q3) | (go_at_call 28; refine (find_any _ _ _).mono ?_; rintro e w2 ⟨rfl, hb2⟩; replace q0 := (hb2.cell (p := ⟨g, 0, none⟩) hg2).trans q0; replace q1 := (hb2.cell (p := ⟨g, 1, none⟩) hg2).trans q1; replace q2 := (hb2.cell (p := ⟨g, 2, none⟩) hg2).trans q2; replace q3 := (hb2.cell (p := ⟨g, 3, none⟩) hg2).trans q3; replace hg2 := Nat.lt_of_lt_of_le hg2 hb2.size; replace hB := hB.trans (hb2.mono hB.size); clear hb2) | (go_at_call 29; refine (is_ok _ _ _ _ _ (by omega) (by omega) (by omega) (by omega) (by omega) (by omega) (by omega) (by omega) _).mono ?_; rintro e w2 ⟨rfl, hb2⟩; replace q0 := (hb2.cell (p := ⟨g, 0, none⟩) hg2).trans q0; replace q1 := (hb2.cell (p := ⟨g, 1, none⟩) hg2).trans q1; replace q2 := (hb2.cell (p := ⟨g, 2, none⟩) hg2).trans q2; replace q3 := (hb2.cell (p := ⟨g, 3, none⟩) hg2).trans q3; replace hg2 := Nat.lt_of_lt_of_le hg2 hb2.size; replace hB := hB.trans (hb2.mono hB.size); clear hb2))
  go_ret
  exact ⟨rfl, hB⟩
end Go.Proofs.Ytfgmcinegogdkaa
