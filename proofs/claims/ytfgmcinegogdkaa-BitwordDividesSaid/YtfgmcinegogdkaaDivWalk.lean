/- The walk of BitwordDivides. -/
import Derived.Test.YtfgmcinegogdkaaAwake
import Derived.Test.YtfgmcinegogdkaaWords
namespace Go.Proofs.Ytfgmcinegogdkaa
open Go.RowKit
set_option linter.unusedVariables false
set_option maxHeartbeats 2000000
set_option maxRecDepth 100000 in
theorem divides_walk (wd a b : Int) (hw : 0 ≤ wd) (hw' : wd ≤ 255) (ha : 0 ≤ a) (ha' : a ≤ 4294967295) (hb : 0 ≤ b) (hb' : b ≤ 4294967295) (w : World) :
    Calls Try.prog 4 #[.int .u8 wd, .int .u32 a, .int .u32 b] w fun e w' => e = .returned (.bool true) ∧ Below w.heap.size w w' := by
  have n1 : 1 ≤ 1 + wd % 16 := by omega
  have n2 : 1 + wd % 16 ≤ 16 := by omega
  have cX := cutW_bd a (1 + wd % 16) n1 n2
  have cY := cutW_bd b (1 + wd % 16) n1 n2
  have cM := mostW_bd (1 + wd % 16) n1 n2
  have d6 := appW_bd 6 (1 + wd % 16) (cutW a (1 + wd % 16)) (cutW b (1 + wd % 16)) n1 n2
  have d7 := appW_bd 7 (1 + wd % 16) (cutW a (1 + wd % 16)) (cutW b (1 + wd % 16)) n1 n2
  by_cases hy : cutW b (1 + wd % 16) = 0
  · have hd := div_zero (1 + wd % 16) n1 n2 a b hy
    have f0 : (cutW b (1 + wd % 16) == 0) = true := beq_iff_eq.2 hy
    have f1 : (appW 6 (1 + wd % 16) (cutW a (1 + wd % 16)) (cutW b (1 + wd % 16)) == mostW (1 + wd % 16)) = true := beq_iff_eq.2 hd.1
    have f2 : (appW 7 (1 + wd % 16) (cutW a (1 + wd % 16)) (cutW b (1 + wd % 16)) == cutW a (1 + wd % 16)) = true := beq_iff_eq.2 hd.2
    clear hd hy
    go_enter Try.func4, Try.ntmps4
    go_wp2_with (first | (go_at_call 11; refine (awake_ok _).mono ?_; rintro e w1 ⟨rfl, hB⟩) | (go_at_call 12; refine (cut_ok _ _ _ (by omega) (by omega) (by omega) (by omega)).mono ?_; rintro e w' ⟨rfl, rfl⟩) | (go_at_call 13; refine (most_ok _ _ (by omega) (by omega)).mono ?_; rintro e w' ⟨rfl, rfl⟩) | (go_at_call 15; refine (do_ok _ _ _ _ (by omega) (by omega) (by omega) (by omega) (by omega) (by omega) (by omega) (by omega) _).mono ?_; rintro e w2 ⟨rfl, hb2⟩; replace hB := hB.trans (hb2.mono hB.size); clear hb2))
    go_ret
    exact ⟨rfl, hB⟩
  · have hd := div_some (1 + wd % 16) n1 n2 a b hy
    have f0 : (cutW b (1 + wd % 16) == 0) = false := beq_eq_false_iff_ne.2 hy
    have f1 : (appW 6 (1 + wd % 16) (cutW a (1 + wd % 16)) (cutW b (1 + wd % 16)) * cutW b (1 + wd % 16) + appW 7 (1 + wd % 16) (cutW a (1 + wd % 16)) (cutW b (1 + wd % 16)) == cutW a (1 + wd % 16)) = true := beq_iff_eq.2 hd.1
    have f3 := hd.2
    clear hd hy
    go_enter Try.func4, Try.ntmps4
    go_wp2_with (first | (go_at_call 11; refine (awake_ok _).mono ?_; rintro e w1 ⟨rfl, hB⟩) | (go_at_call 12; refine (cut_ok _ _ _ (by omega) (by omega) (by omega) (by omega)).mono ?_; rintro e w' ⟨rfl, rfl⟩) | (go_at_call 13; refine (most_ok _ _ (by omega) (by omega)).mono ?_; rintro e w' ⟨rfl, rfl⟩) | (go_at_call 15; refine (do_ok _ _ _ _ (by omega) (by omega) (by omega) (by omega) (by omega) (by omega) (by omega) (by omega) _).mono ?_; rintro e w2 ⟨rfl, hb2⟩; replace hB := hB.trans (hb2.mono hB.size); clear hb2))
    go_ret
    exact ⟨rfl, hB⟩
end Go.Proofs.Ytfgmcinegogdkaa
