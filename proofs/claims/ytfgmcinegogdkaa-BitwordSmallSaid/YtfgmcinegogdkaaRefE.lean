/- tells: what BitwordTells asks, without the examples. -/
import Derived.Test.YtfgmcinegogdkaaRefD
import Derived.Test.YtfgmcinegogdkaaRefB
import Derived.Test.YtfgmcinegogdkaaAwake
namespace Go.Proofs.Ytfgmcinegogdkaa
open Go.RowKit
set_option linter.unusedVariables false
set_option linter.unusedSimpArgs false
set_option maxHeartbeats 2000000
/-- The word, the error of Apply; the width of Width. -/
def apA (op n x y : Int) : Int := if (1 ≤ op ∧ op ≤ 16) ∧ 1 ≤ n ∧ n ≤ 16 then appW op.toNat n x y else 0
def apE (op n : Int) : Int := if 1 ≤ op ∧ op ≤ 16 then (if 1 ≤ n ∧ n ≤ 16 then 0 else 220) else 221
def wiA (op n : Int) : Int := if (1 ≤ op ∧ op ≤ 16) ∧ 1 ≤ n ∧ n ≤ 16 then wideW op.toNat n else 0
theorem ap_all (op n x y : Int) (h0 : 0 ≤ op) (h1 : op ≤ 255) (n1 : -9223372036854775808 ≤ n) (n2 : n ≤ 9223372036854775807) (hx : 0 ≤ x) (hx' : x ≤ 4294967295) (hy : 0 ≤ y) (hy' : y ≤ 4294967295) (w : World) :
    Calls Try.prog 22 #[.int .u8 op, .int .i64 n, .int .u32 x, .int .u32 y] w fun e w' => e = .returned (.tuple #[.int .u32 (apA op n x y), .int .i64 (apE op n)]) ∧ Below w.heap.size w w' := by
  by_cases a : 1 ≤ op ∧ op ≤ 16
  · by_cases b : 1 ≤ n ∧ n ≤ 16
    · refine (apply_any op n x y a.1 a.2 b.1 b.2 hx hx' hy hy' w).mono fun e w' h => ⟨?_, h.2⟩
      rw [h.1]; unfold apA apE; rw [if_pos ⟨a, b⟩, if_pos a, if_pos b]
    · refine (apply_badwidth op n x y a.1 a.2 (by omega) n1 n2 w).mono fun e w' h => ⟨?_, h.2⟩
      rw [h.1]; unfold apA apE; rw [if_neg (fun h => b h.2), if_pos a, if_neg b]
  · refine (apply_badop op n x y (by omega) h1 w).mono fun e w' h => ⟨?_, h.2⟩
    rw [h.1]; unfold apA apE; rw [if_neg (fun h => a h.1), if_neg a]
theorem rap_all (op n x y : Int) (h0 : 0 ≤ op) (h1 : op ≤ 255) (n1 : -9223372036854775808 ≤ n) (n2 : n ≤ 9223372036854775807) (hx : 0 ≤ x) (hx' : x ≤ 4294967295) (hy : 0 ≤ y) (hy' : y ≤ 4294967295) (w : World) :
    Calls Try.prog 33 #[.int .i64 op, .int .i64 n, .int .i64 x, .int .i64 y] w fun e w' => e = .returned (.tuple #[.int .i64 (apA op n x y), .int .i64 (apE op n)]) ∧ Below w.heap.size w w' := by
  by_cases a : 1 ≤ op ∧ op ≤ 16
  · by_cases b : 1 ≤ n ∧ n ≤ 16
    · refine (rapply_ok op n x y a.1 a.2 b.1 b.2 hx hx' hy hy' w).mono fun e w' h => ⟨?_, h.2⟩
      rw [h.1]; unfold apA apE; rw [if_pos ⟨a, b⟩, if_pos a, if_pos b]
    · refine (rapply_badwidth op n x y a.1 a.2 (by omega) n1 n2 w).mono fun e w' h => ⟨?_, h.2 ▸ Below.refl _ _⟩
      rw [h.1]; unfold apA apE; rw [if_neg (fun h => b h.2), if_pos a, if_neg b]
  · refine (rapply_badop op n x y (by omega) w).mono fun e w' h => ⟨?_, h.2 ▸ Below.refl _ _⟩
    rw [h.1]; unfold apA apE; rw [if_neg (fun h => a h.1), if_neg a]
theorem wi_all (op n : Int) (h0 : 0 ≤ op) (h1 : op ≤ 255) (n1 : -9223372036854775808 ≤ n) (n2 : n ≤ 9223372036854775807) (w : World) :
    Calls Try.prog 20 #[.int .u8 op, .int .i64 n] w fun e w' => e = .returned (.tuple #[.int .i64 (wiA op n), .int .i64 (apE op n)]) ∧ Below w.heap.size w w' := by
  by_cases a : 1 ≤ op ∧ op ≤ 16
  · by_cases b : 1 ≤ n ∧ n ≤ 16
    · refine (width_ok op n a.1 a.2 b.1 b.2 w).mono fun e w' h => ⟨?_, h.2⟩
      rw [h.1]; unfold wiA apE; rw [if_pos ⟨a, b⟩, if_pos a, if_pos b]
    · refine (width_badwidth op n a.1 a.2 (by omega) n1 n2 w).mono fun e w' h => ⟨?_, h.2⟩
      rw [h.1]; unfold wiA apE; rw [if_neg (fun h => b h.2), if_pos a, if_neg b]
  · refine (width_badop op n (by omega) h1 w).mono fun e w' h => ⟨?_, h.2⟩
    rw [h.1]; unfold wiA apE; rw [if_neg (fun h => a h.1), if_neg a]
theorem rwi_all (op n : Int) (h0 : 0 ≤ op) (h1 : op ≤ 255) (n1 : -9223372036854775808 ≤ n) (n2 : n ≤ 9223372036854775807) (w : World) :
    Calls Try.prog 34 #[.int .i64 op, .int .i64 n] w fun e w' => e = .returned (.tuple #[.int .i64 (wiA op n), .int .i64 (apE op n)]) ∧ w = w' := by
  by_cases a : 1 ≤ op ∧ op ≤ 16
  · by_cases b : 1 ≤ n ∧ n ≤ 16
    · refine (rwide_ok op n a.1 a.2 b.1 b.2 w).mono fun e w' h => ⟨?_, h.2⟩
      rw [h.1]; unfold wiA apE; rw [if_pos ⟨a, b⟩, if_pos a, if_pos b]
    · refine (rwide_badwidth op n a.1 a.2 (by omega) n1 n2 w).mono fun e w' h => ⟨?_, h.2⟩
      rw [h.1]; unfold wiA apE; rw [if_neg (fun h => b h.2), if_pos a, if_neg b]
  · refine (rwide_badop op n (by omega) w).mono fun e w' h => ⟨?_, h.2⟩
    rw [h.1]; unfold wiA apE; rw [if_neg (fun h => a h.1), if_neg a]
theorem apA_bd (op n x y : Int) (hx : 0 ≤ x) (hx' : x ≤ 4294967295) (hy : 0 ≤ y) (hy' : y ≤ 4294967295) : 0 ≤ apA op n x y ∧ apA op n x y ≤ 65535 := by
  unfold apA
  split
  · rename_i h
    have := appW_bd op.toNat n x y h.2.1 h.2.2
    have := mostW_bd n h.2.1 h.2.2
    omega
  · omega
theorem bitW_in (x i : Int) (a : 0 ≤ i) (b : i < 32) : bitW x i = (x / pw i % 2 == 1) := by
  unfold bitW pw; simp [a, b]
theorem bitW_out (x i : Int) (h : i < 0 ∨ 32 ≤ i) : bitW x i = false := by
  unfold bitW
  rcases h with h | h
  · rw [decide_eq_false (by omega)]; rfl
  · rw [decide_eq_false (p := i < 32) (by omega)]; simp
theorem bitW_I (x : Int) (j : Nat) (h : j < 32) : bitW x j = bitI x j := by
  unfold bitW bitI; simp; omega
end Go.Proofs.Ytfgmcinegogdkaa
