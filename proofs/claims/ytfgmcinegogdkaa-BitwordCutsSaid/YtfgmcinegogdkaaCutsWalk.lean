/- The walk of BitwordCuts. -/
import Derived.Test.YtfgmcinegogdkaaAwake
import Derived.Test.YtfgmcinegogdkaaWords
namespace Go.Proofs.Ytfgmcinegogdkaa
open Go.RowKit
set_option linter.unusedVariables false
set_option maxHeartbeats 2000000
theorem wide_bd (k : Nat) (n x y : Int) (h1 : 1 ≤ n) (h2 : n ≤ 16) (k1 : 1 ≤ k) (k2 : k ≤ 16) : 1 ≤ wideW k n ∧ wideW k n ≤ 16 ∧ appW k n x y ≤ mostW (wideW k n) := by
  unfold wideW
  by_cases h : 13 ≤ k
  · rw [if_pos h]
    have hm : mostW 1 = 1 := by decide
    rw [hm]
    refine ⟨by omega, by omega, ?_⟩
    rw [← app_cut]
    have : k = 13 ∨ k = 14 ∨ k = 15 ∨ k = 16 := by omega
    rcases this with rfl | rfl | rfl | rfl
    · rw [app_eq n h1 h2]; split <;> omega
    · rw [app_ne n h1 h2]; split <;> omega
    · rw [app_lt n h1 h2]; split <;> omega
    · rw [app_le n h1 h2]; split <;> omega
  · rw [if_neg h]
    exact ⟨h1, h2, (appW_bd k n x y h1 h2).2⟩
set_option maxRecDepth 100000 in
theorem cuts_walk (op wd ot a b : Int) (hop : 0 ≤ op) (hop' : op ≤ 255) (hw : 0 ≤ wd) (hw' : wd ≤ 255) (ho : 0 ≤ ot) (ho' : ot ≤ 255) (ha : 0 ≤ a) (ha' : a ≤ 4294967295) (hb : 0 ≤ b) (hb' : b ≤ 4294967295) (w : World) :
    Calls Try.prog 8 #[.int .u8 op, .int .u8 wd, .int .u8 ot, .int .u32 a, .int .u32 b] w fun e w' => e = .returned (.bool true) ∧ Below w.heap.size w w' := by
  have n1 : 1 ≤ 1 + wd % 16 := by omega
  have n2 : 1 + wd % 16 ≤ 16 := by omega
  have cX := cutW_bd a (1 + wd % 16) n1 n2
  have cY := cutW_bd b (1 + wd % 16) n1 n2
  have cM := mostW_bd (1 + wd % 16) n1 n2
  have hwide := wide_bd (1 + op % 16).toNat (1 + wd % 16) a b n1 n2 (by omega) (by omega)
  have f1 : (appW (1 + op % 16).toNat (1 + wd % 16) a b == appW (1 + op % 16).toNat (1 + wd % 16) (cutW a (1 + wd % 16)) (cutW b (1 + wd % 16))) = true := by rw [app_cut]; exact beq_self_eq_true _
  have F1 := Lib.hid f1
  clear f1
  by_cases hm : 1 + ot % 16 ≤ 1 + wd % 16
  · have f2 : (cutW a (1 + ot % 16) == cutW (cutW a (1 + wd % 16)) (1 + ot % 16)) = true := by rw [cut_less _ _ _ hm (by omega)]; exact beq_self_eq_true _
    have F2 := Lib.hid f2
    clear f2
    go_enter Try.func8, Try.ntmps8
    have f1 := F1.out
    have f2 := F2.out
    go_wp2_with (first | (go_at_call 11; refine (awake_ok _).mono ?_; rintro e w1 ⟨rfl, hB⟩) | (go_at_call 12; refine (cut_ok _ _ _ (by omega) (by omega) (by omega) (by omega)).mono ?_; rintro e w' ⟨rfl, rfl⟩) | (go_at_call 13; refine (most_ok _ _ (by omega) (by omega)).mono ?_; rintro e w' ⟨rfl, rfl⟩) | (go_at_call 15; refine (do_ok _ _ _ _ (by omega) (by omega) (by omega) (by omega) (by omega) (by omega) (by omega) (by omega) _).mono ?_; rintro e w2 ⟨rfl, hb2⟩; replace hB := hB.trans (hb2.mono hB.size); clear hb2) | (go_at_call 20; refine (width_ok _ _ (by omega) (by omega) (by omega) (by omega) _).mono ?_; rintro e w2 ⟨rfl, hb2⟩; replace hB := hB.trans (hb2.mono hB.size); clear hb2))
    go_ret
    exact ⟨rfl, hB⟩
  · have f2 : (cutW a (1 + wd % 16) == cutW (cutW a (1 + wd % 16)) (1 + wd % 16)) = true := by rw [cutW_cut]; exact beq_self_eq_true _
    have F2 := Lib.hid f2
    clear f2
    have hm' : wd % 16 < ot % 16 := by omega
    clear hm
    go_enter Try.func8, Try.ntmps8
    have f1 := F1.out
    have f2 := F2.out
    go_wp2_with (first | (go_at_call 11; refine (awake_ok _).mono ?_; rintro e w1 ⟨rfl, hB⟩) | (go_at_call 12; refine (cut_ok _ _ _ (by omega) (by omega) (by omega) (by omega)).mono ?_; rintro e w' ⟨rfl, rfl⟩) | (go_at_call 13; refine (most_ok _ _ (by omega) (by omega)).mono ?_; rintro e w' ⟨rfl, rfl⟩) | (go_at_call 15; refine (do_ok _ _ _ _ (by omega) (by omega) (by omega) (by omega) (by omega) (by omega) (by omega) (by omega) _).mono ?_; rintro e w2 ⟨rfl, hb2⟩; replace hB := hB.trans (hb2.mono hB.size); clear hb2) | (go_at_call 20; refine (width_ok _ _ (by omega) (by omega) (by omega) (by omega) _).mono ?_; rintro e w2 ⟨rfl, hb2⟩; replace hB := hB.trans (hb2.mono hB.size); clear hb2))
    go_ret
    exact ⟨rfl, hB⟩
end Go.Proofs.Ytfgmcinegogdkaa
