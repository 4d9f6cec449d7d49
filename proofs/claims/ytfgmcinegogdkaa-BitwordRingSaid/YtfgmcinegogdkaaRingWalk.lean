/- The walk of BitwordRing. -/
import Derived.Test.YtfgmcinegogdkaaAwake
import Derived.Test.YtfgmcinegogdkaaRing
import Derived.Test.YtfgmcinegogdkaaGrown
namespace Go.Proofs.Ytfgmcinegogdkaa
open Go.RowKit
set_option linter.unusedVariables false
set_option maxHeartbeats 4000000
theorem ringAdd (x y n : Int) (B : Nat) (h1 : 1 ≤ n) (h2 : n ≤ 16) (hx : 0 ≤ x) (hx' : x ≤ 4294967295) (hy : 0 ≤ y) (hy' : y ≤ 4294967295) (w : World) (hc : w.cell? ⟨B, 0, none⟩ = some (.int .i64 n)) :
    Calls Try.prog 14 #[.int .u32 x, .int .u32 y, .pointer (some ⟨B, 0, none⟩)] w fun e w' => e = .returned (.int .u32 (appW 3 n x y)) ∧ Below w.heap.size w w' := by
  go_enter Try.func14, Try.ntmps14
  go_wp2_with (go_at_call 15; refine (do_ok _ _ _ _ (by omega) (by omega) h1 h2 hx hx' hy hy' _).mono ?_; rintro e w' ⟨rfl, hb⟩)
  go_ret
  exact ⟨rfl, hb⟩
theorem ringMul (x y n : Int) (B : Nat) (h1 : 1 ≤ n) (h2 : n ≤ 16) (hx : 0 ≤ x) (hx' : x ≤ 4294967295) (hy : 0 ≤ y) (hy' : y ≤ 4294967295) (w : World) (hc : w.cell? ⟨B, 0, none⟩ = some (.int .i64 n)) :
    Calls Try.prog 16 #[.int .u32 x, .int .u32 y, .pointer (some ⟨B, 0, none⟩)] w fun e w' => e = .returned (.int .u32 (appW 5 n x y)) ∧ Below w.heap.size w w' := by
  go_enter Try.func16, Try.ntmps16
  go_wp2_with (go_at_call 15; refine (do_ok _ _ _ _ (by omega) (by omega) h1 h2 hx hx' hy hy' _).mono ?_; rintro e w' ⟨rfl, hb⟩)
  go_ret
  exact ⟨rfl, hb⟩
theorem ringAdd' (x y n : Int) (B : Nat) (hn : 1 ≤ n ∧ n ≤ 16) (hx : 0 ≤ x ∧ x ≤ 4294967295) (hy : 0 ≤ y ∧ y ≤ 4294967295) (w : World) (hc : w.cell? ⟨B, 0, none⟩ = some (.int .i64 n)) :
    Calls Try.prog 14 #[.int .u32 x, .int .u32 y, .pointer (some ⟨B, 0, none⟩)] w fun e w' => e = .returned (.int .u32 (appW 3 n x y)) ∧ Below w.heap.size w w' := ringAdd x y n B hn.1 hn.2 hx.1 hx.2 hy.1 hy.2 w hc
theorem ringMul' (x y n : Int) (B : Nat) (hn : 1 ≤ n ∧ n ≤ 16) (hx : 0 ≤ x ∧ x ≤ 4294967295) (hy : 0 ≤ y ∧ y ≤ 4294967295) (w : World) (hc : w.cell? ⟨B, 0, none⟩ = some (.int .i64 n)) :
    Calls Try.prog 16 #[.int .u32 x, .int .u32 y, .pointer (some ⟨B, 0, none⟩)] w fun e w' => e = .returned (.int .u32 (appW 5 n x y)) ∧ Below w.heap.size w w' := ringMul x y n B hn.1 hn.2 hx.1 hx.2 hy.1 hy.2 w hc
theorem doW (op x y n : Int) (ho : 1 ≤ op ∧ op ≤ 16) (hn : 1 ≤ n ∧ n ≤ 16) (hx : 0 ≤ x ∧ x ≤ 4294967295) (hy : 0 ≤ y ∧ y ≤ 4294967295) (w : World) :
    Calls Try.prog 15 #[.int .u8 op, .int .i64 n, .int .u32 x, .int .u32 y] w fun e w' => e = .returned (.int .u32 (appW op.toNat n x y)) ∧ Below w.heap.size w w' := do_ok op n x y ho.1 ho.2 hn.1 hn.2 hx.1 hx.2 hy.1 hy.2 w
theorem wordB {r n : Int} (h : 0 ≤ r ∧ r ≤ mostW n) (h1 : 1 ≤ n) (h2 : n ≤ 16) : 0 ≤ r ∧ r ≤ 4294967295 := by have := mostW_bd n h1 h2; omega
set_option maxRecDepth 100000 in
theorem ring_walk (wd a b c : Int) (hw : 0 ≤ wd) (hw' : wd ≤ 255) (ha : 0 ≤ a) (ha' : a ≤ 4294967295) (hb : 0 ≤ b) (hb' : b ≤ 4294967295) (hc : 0 ≤ c) (hc' : c ≤ 4294967295) (w : World) :
    Calls Try.prog 3 #[.int .u8 wd, .int .u32 a, .int .u32 b, .int .u32 c] w fun e w' => e = .returned (.bool true) ∧ Below w.heap.size w w' := by
  have n1 : 1 ≤ 1 + wd % 16 := by omega
  have n2 : 1 + wd % 16 ≤ 16 := by omega
  obtain ⟨N, hN⟩ : ∃ N, N = 1 + wd % 16 := ⟨_, rfl⟩
  have rf := ring_facts N (by omega) (by omega) a b c
  dsimp only at rf
  obtain ⟨r1, r2, r3, r4, r5, r6, r7, r8, r9, r10, r11⟩ := rf
  have cX := cutW_bd a N (by omega) (by omega)
  have cY := cutW_bd b N (by omega) (by omega)
  have cZ := cutW_bd c N (by omega) (by omega)
  have cM := mostW_bd N (by omega) (by omega)
  have d1 := appW_bd 3 N (cutW a N) (cutW b N) (by omega) (by omega)
  have d2 := appW_bd 3 N (cutW b N) (cutW c N) (by omega) (by omega)
  have d3 := appW_bd 5 N (cutW a N) (cutW b N) (by omega) (by omega)
  have d4 := appW_bd 5 N (cutW b N) (cutW c N) (by omega) (by omega)
  have d5 := appW_bd 5 N (cutW a N) (cutW c N) (by omega) (by omega)
  have d6 := appW_bd 2 N (cutW a N) 0 (by omega) (by omega)
  have d7 := appW_bd 2 N (cutW b N) 0 (by omega) (by omega)
  rw [hN] at r1 r2 r3 r4 r5 r6 r7 r8 r9 r10 r11 cX cY cZ cM d1 d2 d3 d4 d5 d6 d7
  clear hN N
  replace r1 := Lib.hid (beq_iff_eq.2 r1)
  replace r2 := Lib.hid (beq_iff_eq.2 r2)
  replace r3 := Lib.hid (beq_iff_eq.2 r3)
  replace r4 := Lib.hid (beq_iff_eq.2 r4)
  replace r5 := Lib.hid (beq_iff_eq.2 r5)
  replace r6 := Lib.hid (beq_iff_eq.2 r6)
  replace r7 := Lib.hid (beq_iff_eq.2 r7)
  replace r8 := Lib.hid (beq_iff_eq.2 r8)
  replace r9 := Lib.hid (beq_iff_eq.2 r9)
  replace r10 := Lib.hid (beq_iff_eq.2 r10)
  replace r11 := Lib.hid (beq_iff_eq.2 r11)
  go_enter Try.func3, Try.ntmps3
  go_wp2_with (first | (go_at_call 11; refine (awake_ok _).mono ?_; rintro e w1 ⟨rfl, hB⟩) | (go_at_call 12; refine (cut_ok _ _ _ (by omega) (by omega) (by omega) (by omega)).mono ?_; rintro e w' ⟨rfl, rfl⟩) | (go_at_call 13; refine (most_ok _ _ (by omega) (by omega)).mono ?_; rintro e w' ⟨rfl, rfl⟩) | (go_at_call 15; refine (do_ok _ _ _ _ (by omega) (by omega) (by omega) (by omega) (by omega) (by omega) (by omega) (by omega) _).mono ?_; rintro e w2 ⟨rfl, hb2⟩))
  have hcx := Ext.cell (W := w2) (p := ⟨w1.heap.size, 0, none⟩) (v := .int .i64 (1 + wd % 16)) ((hb2.cell (p := ⟨w1.heap.size, 0, none⟩) (by simp)).trans (by simp [go_sem])) (by have := hb2.size; simp at this; simp; omega)
  have hB2 : Below w.heap.size w w2 := (hB.alloc hB.size _).trans (hb2.mono (by have := hB.size; simp; omega))
  have HB := Lib.hid hB2
  clear hB hb2 hB2
  have bN : 1 ≤ 1 + wd % 16 ∧ 1 + wd % 16 ≤ 16 := ⟨n1, n2⟩
  have bX := wordB cX n1 n2
  have bY := wordB cY n1 n2
  have bZ := wordB cZ n1 n2
  have bM := wordB (n := 1 + wd % 16) (r := mostW (1 + wd % 16)) ⟨by omega, by omega⟩ n1 n2
  have e1 := wordB d1 n1 n2
  have e2 := wordB d2 n1 n2
  have e3 := wordB d3 n1 n2
  have e4 := wordB d4 n1 n2
  have e5 := wordB d5 n1 n2
  have e6 := wordB d6 n1 n2
  have e7 := wordB d7 n1 n2
  have b0 : (0 : Int) ≤ 0 ∧ (0 : Int) ≤ 4294967295 := by decide
  have b1 : (0 : Int) ≤ 1 ∧ (1 : Int) ≤ 4294967295 := by decide
  have o3 : (1 : Int) ≤ 3 ∧ (3 : Int) ≤ 16 := by decide
  have o2 : (1 : Int) ≤ 2 ∧ (2 : Int) ≤ 16 := by decide
  have o4 : (1 : Int) ≤ 4 ∧ (4 : Int) ≤ 16 := by decide
  replace d1 := d1.2
  replace d3 := d3.2
  clear d2 d4 d5 d6 d7 cX cY cZ n1 n2 cM
  replace r1 := r1.out; replace r2 := r2.out; replace r3 := r3.out; replace r4 := r4.out; replace r5 := r5.out; replace r6 := r6.out
  replace r7 := r7.out; replace r8 := r8.out; replace r9 := r9.out; replace r10 := r10.out; replace r11 := r11.out
  generalize 1 + wd % 16 = N at *
  generalize cutW a N = X at *
  generalize cutW b N = Y at *
  generalize cutW c N = Z at *
  generalize mostW N = M at *
  generalize w1.heap.size = B at *
  refine wp_region_grown (by kernel_rfl) (by kernel_rfl) (by kernel_rfl) ?_
  dsimp only [List.append]
  repeat (go_big_quiet_step (first | (go_at_call 14; exact grown_of (ringAdd' _ _ _ _ (by with_reducible assumption) (by with_reducible assumption) (by with_reducible assumption) _ (hcx _))) | (go_at_call 16; exact grown_of (ringMul' _ _ _ _ (by with_reducible assumption) (by with_reducible assumption) (by with_reducible assumption) _ (hcx _))) | (go_at_call 15; exact grown_of (doW _ _ _ _ (by with_reducible assumption) (by with_reducible assumption) (by with_reducible assumption) (by with_reducible assumption) _))))
  refine wpQuiet_nil ?_
  rintro _ ⟨x, rfl⟩
  go_wp2
  go_ret
  exact ⟨rfl, HB.out.trans (x.below.mono HB.out.size)⟩
end Go.Proofs.Ytfgmcinegogdkaa
