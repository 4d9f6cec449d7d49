/- The walk of BitwordOrders. -/
import Derived.Test.YtfgmcinegogdkaaAwake
import Derived.Test.YtfgmcinegogdkaaWords
import Derived.Test.YtfgmcinegogdkaaGrown
namespace Go.Proofs.Ytfgmcinegogdkaa
open Go.RowKit
set_option linter.unusedVariables false
set_option maxHeartbeats 4000000
theorem ordLt (x y n : Int) (B : Nat) (h1 : 1 ≤ n) (h2 : n ≤ 16) (hx : 0 ≤ x) (hx' : x ≤ 4294967295) (hy : 0 ≤ y) (hy' : y ≤ 4294967295) (w : World) (hc : w.cell? ⟨B, 0, none⟩ = some (.int .i64 n)) :
    Calls Try.prog 19 #[.int .u32 x, .int .u32 y, .pointer (some ⟨B, 0, none⟩)] w fun e w' => e = .returned (.bool (appW 15 n x y == 1)) ∧ Below w.heap.size w w' := by
  go_enter Try.func19, Try.ntmps19
  go_wp2_with (go_at_call 15; refine (do_ok _ _ _ _ (by omega) (by omega) h1 h2 hx hx' hy hy' _).mono ?_; rintro e w' ⟨rfl, hb⟩)
  go_ret
  exact ⟨rfl, hb⟩
set_option maxRecDepth 100000 in
theorem orders_A (wd a b c : Int) (hw : 0 ≤ wd) (hw' : wd ≤ 255) (ha : 0 ≤ a) (ha' : a ≤ 4294967295) (hb : 0 ≤ b) (hb' : b ≤ 4294967295) (hc : 0 ≤ c) (hc' : c ≤ 4294967295) (w : World) (p1 : (cutW a (1 + wd % 16) < cutW b (1 + wd % 16))) (p2 : (cutW b (1 + wd % 16) < cutW c (1 + wd % 16))) :
    Calls Try.prog 7 #[.int .u8 wd, .int .u32 a, .int .u32 b, .int .u32 c] w fun e w' => e = .returned (.bool true) ∧ Below w.heap.size w w' := by
  have n1 : 1 ≤ 1 + wd % 16 := by omega
  have n2 : 1 + wd % 16 ≤ 16 := by omega
  have v13 : Hid (appW 13 (1 + wd % 16) (cutW a (1 + wd % 16)) (cutW b (1 + wd % 16)) = 0) := by
    show appW 13 _ _ _ = _
    rw [app_eq _ n1 n2]
    split <;> omega
  have v14 : Hid (appW 14 (1 + wd % 16) (cutW a (1 + wd % 16)) (cutW b (1 + wd % 16)) = 1) := by
    show appW 14 _ _ _ = _
    rw [app_ne _ n1 n2]
    split <;> omega
  have v16 : Hid (appW 16 (1 + wd % 16) (cutW a (1 + wd % 16)) (cutW b (1 + wd % 16)) = 1) := by
    show appW 16 _ _ _ = _
    rw [app_le _ n1 n2]
    split <;> omega
  have v15 : Hid (appW 15 (1 + wd % 16) (cutW a (1 + wd % 16)) (cutW b (1 + wd % 16)) = 1) := by
    show appW 15 _ _ _ = _
    rw [app_lt _ n1 n2]
    split <;> omega
  have v15' : Hid (appW 15 (1 + wd % 16) (cutW b (1 + wd % 16)) (cutW a (1 + wd % 16)) = 0) := by
    show appW 15 _ _ _ = _
    rw [app_lt _ n1 n2]
    split <;> omega
  have vx : Hid (appW 15 (1 + wd % 16) (cutW a (1 + wd % 16)) (cutW a (1 + wd % 16)) = 0) := by
    show appW 15 _ _ _ = _
    rw [app_lt _ n1 n2]
    split <;> omega
  have vyz : Hid (appW 15 (1 + wd % 16) (cutW b (1 + wd % 16)) (cutW c (1 + wd % 16)) = 1) := by
    show appW 15 _ _ _ = _
    rw [app_lt _ n1 n2]
    split <;> omega
  have vxz : Hid (appW 15 (1 + wd % 16) (cutW a (1 + wd % 16)) (cutW c (1 + wd % 16)) = 1) := by
    show appW 15 _ _ _ = _
    rw [app_lt _ n1 n2]
    split <;> omega
  have q1 : Hid ((cutW a (1 + wd % 16) == cutW b (1 + wd % 16)) = false) := by
    show (cutW a (1 + wd % 16) == cutW b (1 + wd % 16)) = _
    exact beq_eq_false_iff_ne.2 (by omega)
  have q2 : cutW a (1 + wd % 16) < cutW b (1 + wd % 16) := p1
  clear p1
  clear p2
  have cX := cutW_bd a (1 + wd % 16) n1 n2
  have cY := cutW_bd b (1 + wd % 16) n1 n2
  have cZ := cutW_bd c (1 + wd % 16) n1 n2
  have cM := mostW_bd (1 + wd % 16) n1 n2
  go_enter Try.func7, Try.ntmps7
  go_wp2_with (first | (go_at_call 11; refine (awake_ok _).mono ?_; rintro e w1 ⟨rfl, hB⟩) | (go_at_call 12; refine (cut_ok _ _ _ (by omega) (by omega) (by omega) (by omega)).mono ?_; rintro e w' ⟨rfl, rfl⟩) | (go_at_call 13; refine (most_ok _ _ (by omega) (by omega)).mono ?_; rintro e w' ⟨rfl, rfl⟩))
  have hcx := Ext.cell (W := w1.alloc (Obj.cells #[Value.int IntKind.i64 (1 + wd % 16)] 3)) (p := ⟨w1.heap.size, 0, none⟩) (v := .int .i64 (1 + wd % 16)) (by simp [go_sem]) (by simp)
  have hB2 : Below w.heap.size w (w1.alloc (Obj.cells #[Value.int IntKind.i64 (1 + wd % 16)] 3)) := hB.alloc hB.size _
  have HB := Lib.hid hB2
  have hsz : w1.heap.size < (w1.alloc (Obj.cells #[Value.int IntKind.i64 (1 + wd % 16)] 3)).heap.size := by simp
  clear hB2 hB
  generalize w1.alloc (Obj.cells #[Value.int IntKind.i64 (1 + wd % 16)] 3) = W2 at *
  generalize w1.heap.size = B at *
  refine wp_region_grown (by kernel_rfl) (by kernel_rfl) (by kernel_rfl) ?_
  repeat (go_big_quiet_step ((go_at_call 15; exact grown_of (do_ok _ _ _ _ (by omega) (by omega) (by omega) (by omega) (by omega) (by omega) (by omega) (by omega) _))))
  refine wpQuiet_nil ?_
  rintro _ ⟨x, rfl⟩
  obtain ⟨wx, hbx⟩ := x
  dsimp only
  have hcell : wx.cell? ⟨B, 0, none⟩ = some (.int .i64 (1 + wd % 16)) := hcx ⟨wx, hbx⟩
  have hB : Below w.heap.size w wx := HB.out.trans (hbx.mono HB.out.size)
  have hsz2 : B < wx.heap.size := Nat.lt_of_lt_of_le hsz hbx.size
  clear hcx HB hbx hsz
  replace v13 := v13.out; replace v14 := v14.out; replace v15 := v15.out; replace v15' := v15'.out; replace v16 := v16.out; replace vx := vx.out; replace q1 := q1.out
  replace vyz := vyz.out
  replace vxz := vxz.out
  go_wp2_with (first | (go_at_call 15; refine (do_ok _ _ _ _ (by omega) (by omega) (by omega) (by omega) (by omega) (by omega) (by omega) (by omega) _).mono ?_; rintro e w3 ⟨rfl, hb3⟩; replace hcell := (hb3.cell (p := ⟨B, 0, none⟩) hsz2).trans hcell; replace hB := hB.trans (hb3.mono hB.size); replace hsz2 := Nat.lt_of_lt_of_le hsz2 hb3.size; clear hb3) | (go_at_call 19; refine (ordLt _ _ _ _ (by omega) (by omega) (by omega) (by omega) (by omega) (by omega) _ hcell).mono ?_; rintro e w3 ⟨rfl, hb3⟩; replace hcell := (hb3.cell (p := ⟨B, 0, none⟩) hsz2).trans hcell; replace hB := hB.trans (hb3.mono hB.size); replace hsz2 := Nat.lt_of_lt_of_le hsz2 hb3.size; clear hb3))
  go_loopw [20] (fun i wr => ∃ k : Nat, 13 ≤ k ∧ k ≤ 17 ∧ i = .int .u8 k ∧ wr.cell? ⟨B, 0, none⟩ = some (.int .i64 (1 + wd % 16)) ∧ Below w.heap.size w wr ∧ B < wr.heap.size) (fun i _ => 17 - (intOf i).toNat)
  case atStart => exact ⟨13, by omega, by omega, rfl, hcell, hB, hsz2⟩
  case round =>
    clear hcell hB hsz2
    obtain ⟨k, hk1, hk2, rfl, hcell, hB, hsz2⟩ := hrel
    by_cases hlt : k < 17
    · have hw1 : Hid (wideW k (1 + wd % 16) = 1) := by show wideW k _ = 1; unfold wideW; rw [if_pos hk1]
      go_wp2_with (go_at_call 20; refine (width_ok _ _ (by omega) (by omega) (by omega) (by omega) _).mono ?_; simp only [Int.toNat_natCast, hw1.out]; rintro e w3 ⟨rfl, hb3⟩; replace hcell := (hb3.cell (p := ⟨B, 0, none⟩) hsz2).trans hcell; replace hB := hB.trans (hb3.mono hB.size); replace hsz2 := Nat.lt_of_lt_of_le hsz2 hb3.size; clear hb3)
      go_roundw
      case rel => exact ⟨k + 1, by omega, by omega, by go_num, hcell, hB, hsz2⟩
      case measure => simp [intOf]; omega
    · obtain rfl : k = 17 := by omega
      go_wp2
      go_ret
      exact ⟨rfl, hB⟩
set_option maxRecDepth 100000 in
theorem orders_B (wd a b c : Int) (hw : 0 ≤ wd) (hw' : wd ≤ 255) (ha : 0 ≤ a) (ha' : a ≤ 4294967295) (hb : 0 ≤ b) (hb' : b ≤ 4294967295) (hc : 0 ≤ c) (hc' : c ≤ 4294967295) (w : World) (p1 : (cutW a (1 + wd % 16) < cutW b (1 + wd % 16))) (p2 : (cutW c (1 + wd % 16) ≤ cutW b (1 + wd % 16))) :
    Calls Try.prog 7 #[.int .u8 wd, .int .u32 a, .int .u32 b, .int .u32 c] w fun e w' => e = .returned (.bool true) ∧ Below w.heap.size w w' := by
  have n1 : 1 ≤ 1 + wd % 16 := by omega
  have n2 : 1 + wd % 16 ≤ 16 := by omega
  have v13 : Hid (appW 13 (1 + wd % 16) (cutW a (1 + wd % 16)) (cutW b (1 + wd % 16)) = 0) := by
    show appW 13 _ _ _ = _
    rw [app_eq _ n1 n2]
    split <;> omega
  have v14 : Hid (appW 14 (1 + wd % 16) (cutW a (1 + wd % 16)) (cutW b (1 + wd % 16)) = 1) := by
    show appW 14 _ _ _ = _
    rw [app_ne _ n1 n2]
    split <;> omega
  have v16 : Hid (appW 16 (1 + wd % 16) (cutW a (1 + wd % 16)) (cutW b (1 + wd % 16)) = 1) := by
    show appW 16 _ _ _ = _
    rw [app_le _ n1 n2]
    split <;> omega
  have v15 : Hid (appW 15 (1 + wd % 16) (cutW a (1 + wd % 16)) (cutW b (1 + wd % 16)) = 1) := by
    show appW 15 _ _ _ = _
    rw [app_lt _ n1 n2]
    split <;> omega
  have v15' : Hid (appW 15 (1 + wd % 16) (cutW b (1 + wd % 16)) (cutW a (1 + wd % 16)) = 0) := by
    show appW 15 _ _ _ = _
    rw [app_lt _ n1 n2]
    split <;> omega
  have vx : Hid (appW 15 (1 + wd % 16) (cutW a (1 + wd % 16)) (cutW a (1 + wd % 16)) = 0) := by
    show appW 15 _ _ _ = _
    rw [app_lt _ n1 n2]
    split <;> omega
  have vyz : Hid (appW 15 (1 + wd % 16) (cutW b (1 + wd % 16)) (cutW c (1 + wd % 16)) = 0) := by
    show appW 15 _ _ _ = _
    rw [app_lt _ n1 n2]
    split <;> omega
  have q1 : Hid ((cutW a (1 + wd % 16) == cutW b (1 + wd % 16)) = false) := by
    show (cutW a (1 + wd % 16) == cutW b (1 + wd % 16)) = _
    exact beq_eq_false_iff_ne.2 (by omega)
  have q2 : cutW a (1 + wd % 16) < cutW b (1 + wd % 16) := p1
  clear p1
  clear p2
  have cX := cutW_bd a (1 + wd % 16) n1 n2
  have cY := cutW_bd b (1 + wd % 16) n1 n2
  have cZ := cutW_bd c (1 + wd % 16) n1 n2
  have cM := mostW_bd (1 + wd % 16) n1 n2
  go_enter Try.func7, Try.ntmps7
  go_wp2_with (first | (go_at_call 11; refine (awake_ok _).mono ?_; rintro e w1 ⟨rfl, hB⟩) | (go_at_call 12; refine (cut_ok _ _ _ (by omega) (by omega) (by omega) (by omega)).mono ?_; rintro e w' ⟨rfl, rfl⟩) | (go_at_call 13; refine (most_ok _ _ (by omega) (by omega)).mono ?_; rintro e w' ⟨rfl, rfl⟩))
  have hcx := Ext.cell (W := w1.alloc (Obj.cells #[Value.int IntKind.i64 (1 + wd % 16)] 3)) (p := ⟨w1.heap.size, 0, none⟩) (v := .int .i64 (1 + wd % 16)) (by simp [go_sem]) (by simp)
  have hB2 : Below w.heap.size w (w1.alloc (Obj.cells #[Value.int IntKind.i64 (1 + wd % 16)] 3)) := hB.alloc hB.size _
  have HB := Lib.hid hB2
  have hsz : w1.heap.size < (w1.alloc (Obj.cells #[Value.int IntKind.i64 (1 + wd % 16)] 3)).heap.size := by simp
  clear hB2 hB
  generalize w1.alloc (Obj.cells #[Value.int IntKind.i64 (1 + wd % 16)] 3) = W2 at *
  generalize w1.heap.size = B at *
  refine wp_region_grown (by kernel_rfl) (by kernel_rfl) (by kernel_rfl) ?_
  repeat (go_big_quiet_step ((go_at_call 15; exact grown_of (do_ok _ _ _ _ (by omega) (by omega) (by omega) (by omega) (by omega) (by omega) (by omega) (by omega) _))))
  refine wpQuiet_nil ?_
  rintro _ ⟨x, rfl⟩
  obtain ⟨wx, hbx⟩ := x
  dsimp only
  have hcell : wx.cell? ⟨B, 0, none⟩ = some (.int .i64 (1 + wd % 16)) := hcx ⟨wx, hbx⟩
  have hB : Below w.heap.size w wx := HB.out.trans (hbx.mono HB.out.size)
  have hsz2 : B < wx.heap.size := Nat.lt_of_lt_of_le hsz hbx.size
  clear hcx HB hbx hsz
  replace v13 := v13.out; replace v14 := v14.out; replace v15 := v15.out; replace v15' := v15'.out; replace v16 := v16.out; replace vx := vx.out; replace q1 := q1.out
  replace vyz := vyz.out
  go_wp2_with (first | (go_at_call 15; refine (do_ok _ _ _ _ (by omega) (by omega) (by omega) (by omega) (by omega) (by omega) (by omega) (by omega) _).mono ?_; rintro e w3 ⟨rfl, hb3⟩; replace hcell := (hb3.cell (p := ⟨B, 0, none⟩) hsz2).trans hcell; replace hB := hB.trans (hb3.mono hB.size); replace hsz2 := Nat.lt_of_lt_of_le hsz2 hb3.size; clear hb3) | (go_at_call 19; refine (ordLt _ _ _ _ (by omega) (by omega) (by omega) (by omega) (by omega) (by omega) _ hcell).mono ?_; rintro e w3 ⟨rfl, hb3⟩; replace hcell := (hb3.cell (p := ⟨B, 0, none⟩) hsz2).trans hcell; replace hB := hB.trans (hb3.mono hB.size); replace hsz2 := Nat.lt_of_lt_of_le hsz2 hb3.size; clear hb3))
  go_loopw [20] (fun i wr => ∃ k : Nat, 13 ≤ k ∧ k ≤ 17 ∧ i = .int .u8 k ∧ wr.cell? ⟨B, 0, none⟩ = some (.int .i64 (1 + wd % 16)) ∧ Below w.heap.size w wr ∧ B < wr.heap.size) (fun i _ => 17 - (intOf i).toNat)
  case atStart => exact ⟨13, by omega, by omega, rfl, hcell, hB, hsz2⟩
  case round =>
    clear hcell hB hsz2
    obtain ⟨k, hk1, hk2, rfl, hcell, hB, hsz2⟩ := hrel
    by_cases hlt : k < 17
    · have hw1 : Hid (wideW k (1 + wd % 16) = 1) := by show wideW k _ = 1; unfold wideW; rw [if_pos hk1]
      go_wp2_with (go_at_call 20; refine (width_ok _ _ (by omega) (by omega) (by omega) (by omega) _).mono ?_; simp only [Int.toNat_natCast, hw1.out]; rintro e w3 ⟨rfl, hb3⟩; replace hcell := (hb3.cell (p := ⟨B, 0, none⟩) hsz2).trans hcell; replace hB := hB.trans (hb3.mono hB.size); replace hsz2 := Nat.lt_of_lt_of_le hsz2 hb3.size; clear hb3)
      go_roundw
      case rel => exact ⟨k + 1, by omega, by omega, by go_num, hcell, hB, hsz2⟩
      case measure => simp [intOf]; omega
    · obtain rfl : k = 17 := by omega
      go_wp2
      go_ret
      exact ⟨rfl, hB⟩
set_option maxRecDepth 100000 in
theorem orders_C (wd a b c : Int) (hw : 0 ≤ wd) (hw' : wd ≤ 255) (ha : 0 ≤ a) (ha' : a ≤ 4294967295) (hb : 0 ≤ b) (hb' : b ≤ 4294967295) (hc : 0 ≤ c) (hc' : c ≤ 4294967295) (w : World) (p1 : (cutW a (1 + wd % 16) = cutW b (1 + wd % 16))) :
    Calls Try.prog 7 #[.int .u8 wd, .int .u32 a, .int .u32 b, .int .u32 c] w fun e w' => e = .returned (.bool true) ∧ Below w.heap.size w w' := by
  have n1 : 1 ≤ 1 + wd % 16 := by omega
  have n2 : 1 + wd % 16 ≤ 16 := by omega
  have v13 : Hid (appW 13 (1 + wd % 16) (cutW a (1 + wd % 16)) (cutW b (1 + wd % 16)) = 1) := by
    show appW 13 _ _ _ = _
    rw [app_eq _ n1 n2]
    split <;> omega
  have v14 : Hid (appW 14 (1 + wd % 16) (cutW a (1 + wd % 16)) (cutW b (1 + wd % 16)) = 0) := by
    show appW 14 _ _ _ = _
    rw [app_ne _ n1 n2]
    split <;> omega
  have v16 : Hid (appW 16 (1 + wd % 16) (cutW a (1 + wd % 16)) (cutW b (1 + wd % 16)) = 1) := by
    show appW 16 _ _ _ = _
    rw [app_le _ n1 n2]
    split <;> omega
  have v15 : Hid (appW 15 (1 + wd % 16) (cutW a (1 + wd % 16)) (cutW b (1 + wd % 16)) = 0) := by
    show appW 15 _ _ _ = _
    rw [app_lt _ n1 n2]
    split <;> omega
  have v15' : Hid (appW 15 (1 + wd % 16) (cutW b (1 + wd % 16)) (cutW a (1 + wd % 16)) = 0) := by
    show appW 15 _ _ _ = _
    rw [app_lt _ n1 n2]
    split <;> omega
  have vx : Hid (appW 15 (1 + wd % 16) (cutW a (1 + wd % 16)) (cutW a (1 + wd % 16)) = 0) := by
    show appW 15 _ _ _ = _
    rw [app_lt _ n1 n2]
    split <;> omega
  have q1 : Hid ((cutW a (1 + wd % 16) == cutW b (1 + wd % 16)) = true) := by
    show (cutW a (1 + wd % 16) == cutW b (1 + wd % 16)) = _
    exact beq_iff_eq.2 p1
  have q2 : cutW b (1 + wd % 16) ≤ cutW a (1 + wd % 16) := by omega
  clear p1
  have cX := cutW_bd a (1 + wd % 16) n1 n2
  have cY := cutW_bd b (1 + wd % 16) n1 n2
  have cZ := cutW_bd c (1 + wd % 16) n1 n2
  have cM := mostW_bd (1 + wd % 16) n1 n2
  go_enter Try.func7, Try.ntmps7
  go_wp2_with (first | (go_at_call 11; refine (awake_ok _).mono ?_; rintro e w1 ⟨rfl, hB⟩) | (go_at_call 12; refine (cut_ok _ _ _ (by omega) (by omega) (by omega) (by omega)).mono ?_; rintro e w' ⟨rfl, rfl⟩) | (go_at_call 13; refine (most_ok _ _ (by omega) (by omega)).mono ?_; rintro e w' ⟨rfl, rfl⟩))
  have hcx := Ext.cell (W := w1.alloc (Obj.cells #[Value.int IntKind.i64 (1 + wd % 16)] 3)) (p := ⟨w1.heap.size, 0, none⟩) (v := .int .i64 (1 + wd % 16)) (by simp [go_sem]) (by simp)
  have hB2 : Below w.heap.size w (w1.alloc (Obj.cells #[Value.int IntKind.i64 (1 + wd % 16)] 3)) := hB.alloc hB.size _
  have HB := Lib.hid hB2
  have hsz : w1.heap.size < (w1.alloc (Obj.cells #[Value.int IntKind.i64 (1 + wd % 16)] 3)).heap.size := by simp
  clear hB2 hB
  generalize w1.alloc (Obj.cells #[Value.int IntKind.i64 (1 + wd % 16)] 3) = W2 at *
  generalize w1.heap.size = B at *
  refine wp_region_grown (by kernel_rfl) (by kernel_rfl) (by kernel_rfl) ?_
  repeat (go_big_quiet_step ((go_at_call 15; exact grown_of (do_ok _ _ _ _ (by omega) (by omega) (by omega) (by omega) (by omega) (by omega) (by omega) (by omega) _))))
  refine wpQuiet_nil ?_
  rintro _ ⟨x, rfl⟩
  obtain ⟨wx, hbx⟩ := x
  dsimp only
  have hcell : wx.cell? ⟨B, 0, none⟩ = some (.int .i64 (1 + wd % 16)) := hcx ⟨wx, hbx⟩
  have hB : Below w.heap.size w wx := HB.out.trans (hbx.mono HB.out.size)
  have hsz2 : B < wx.heap.size := Nat.lt_of_lt_of_le hsz hbx.size
  clear hcx HB hbx hsz
  replace v13 := v13.out; replace v14 := v14.out; replace v15 := v15.out; replace v15' := v15'.out; replace v16 := v16.out; replace vx := vx.out; replace q1 := q1.out
  go_wp2_with (first | (go_at_call 15; refine (do_ok _ _ _ _ (by omega) (by omega) (by omega) (by omega) (by omega) (by omega) (by omega) (by omega) _).mono ?_; rintro e w3 ⟨rfl, hb3⟩; replace hcell := (hb3.cell (p := ⟨B, 0, none⟩) hsz2).trans hcell; replace hB := hB.trans (hb3.mono hB.size); replace hsz2 := Nat.lt_of_lt_of_le hsz2 hb3.size; clear hb3) | (go_at_call 19; refine (ordLt _ _ _ _ (by omega) (by omega) (by omega) (by omega) (by omega) (by omega) _ hcell).mono ?_; rintro e w3 ⟨rfl, hb3⟩; replace hcell := (hb3.cell (p := ⟨B, 0, none⟩) hsz2).trans hcell; replace hB := hB.trans (hb3.mono hB.size); replace hsz2 := Nat.lt_of_lt_of_le hsz2 hb3.size; clear hb3))
  go_loopw [20] (fun i wr => ∃ k : Nat, 13 ≤ k ∧ k ≤ 17 ∧ i = .int .u8 k ∧ wr.cell? ⟨B, 0, none⟩ = some (.int .i64 (1 + wd % 16)) ∧ Below w.heap.size w wr ∧ B < wr.heap.size) (fun i _ => 17 - (intOf i).toNat)
  case atStart => exact ⟨13, by omega, by omega, rfl, hcell, hB, hsz2⟩
  case round =>
    clear hcell hB hsz2
    obtain ⟨k, hk1, hk2, rfl, hcell, hB, hsz2⟩ := hrel
    by_cases hlt : k < 17
    · have hw1 : Hid (wideW k (1 + wd % 16) = 1) := by show wideW k _ = 1; unfold wideW; rw [if_pos hk1]
      go_wp2_with (go_at_call 20; refine (width_ok _ _ (by omega) (by omega) (by omega) (by omega) _).mono ?_; simp only [Int.toNat_natCast, hw1.out]; rintro e w3 ⟨rfl, hb3⟩; replace hcell := (hb3.cell (p := ⟨B, 0, none⟩) hsz2).trans hcell; replace hB := hB.trans (hb3.mono hB.size); replace hsz2 := Nat.lt_of_lt_of_le hsz2 hb3.size; clear hb3)
      go_roundw
      case rel => exact ⟨k + 1, by omega, by omega, by go_num, hcell, hB, hsz2⟩
      case measure => simp [intOf]; omega
    · obtain rfl : k = 17 := by omega
      go_wp2
      go_ret
      exact ⟨rfl, hB⟩
set_option maxRecDepth 100000 in
theorem orders_D (wd a b c : Int) (hw : 0 ≤ wd) (hw' : wd ≤ 255) (ha : 0 ≤ a) (ha' : a ≤ 4294967295) (hb : 0 ≤ b) (hb' : b ≤ 4294967295) (hc : 0 ≤ c) (hc' : c ≤ 4294967295) (w : World) (p1 : (cutW b (1 + wd % 16) < cutW a (1 + wd % 16))) :
    Calls Try.prog 7 #[.int .u8 wd, .int .u32 a, .int .u32 b, .int .u32 c] w fun e w' => e = .returned (.bool true) ∧ Below w.heap.size w w' := by
  have n1 : 1 ≤ 1 + wd % 16 := by omega
  have n2 : 1 + wd % 16 ≤ 16 := by omega
  have v13 : Hid (appW 13 (1 + wd % 16) (cutW a (1 + wd % 16)) (cutW b (1 + wd % 16)) = 0) := by
    show appW 13 _ _ _ = _
    rw [app_eq _ n1 n2]
    split <;> omega
  have v14 : Hid (appW 14 (1 + wd % 16) (cutW a (1 + wd % 16)) (cutW b (1 + wd % 16)) = 1) := by
    show appW 14 _ _ _ = _
    rw [app_ne _ n1 n2]
    split <;> omega
  have v16 : Hid (appW 16 (1 + wd % 16) (cutW a (1 + wd % 16)) (cutW b (1 + wd % 16)) = 0) := by
    show appW 16 _ _ _ = _
    rw [app_le _ n1 n2]
    split <;> omega
  have v15 : Hid (appW 15 (1 + wd % 16) (cutW a (1 + wd % 16)) (cutW b (1 + wd % 16)) = 0) := by
    show appW 15 _ _ _ = _
    rw [app_lt _ n1 n2]
    split <;> omega
  have v15' : Hid (appW 15 (1 + wd % 16) (cutW b (1 + wd % 16)) (cutW a (1 + wd % 16)) = 1) := by
    show appW 15 _ _ _ = _
    rw [app_lt _ n1 n2]
    split <;> omega
  have vx : Hid (appW 15 (1 + wd % 16) (cutW a (1 + wd % 16)) (cutW a (1 + wd % 16)) = 0) := by
    show appW 15 _ _ _ = _
    rw [app_lt _ n1 n2]
    split <;> omega
  have q1 : Hid ((cutW a (1 + wd % 16) == cutW b (1 + wd % 16)) = false) := by
    show (cutW a (1 + wd % 16) == cutW b (1 + wd % 16)) = _
    exact beq_eq_false_iff_ne.2 (by omega)
  have q2 : cutW b (1 + wd % 16) ≤ cutW a (1 + wd % 16) := by omega
  clear p1
  have cX := cutW_bd a (1 + wd % 16) n1 n2
  have cY := cutW_bd b (1 + wd % 16) n1 n2
  have cZ := cutW_bd c (1 + wd % 16) n1 n2
  have cM := mostW_bd (1 + wd % 16) n1 n2
  go_enter Try.func7, Try.ntmps7
  go_wp2_with (first | (go_at_call 11; refine (awake_ok _).mono ?_; rintro e w1 ⟨rfl, hB⟩) | (go_at_call 12; refine (cut_ok _ _ _ (by omega) (by omega) (by omega) (by omega)).mono ?_; rintro e w' ⟨rfl, rfl⟩) | (go_at_call 13; refine (most_ok _ _ (by omega) (by omega)).mono ?_; rintro e w' ⟨rfl, rfl⟩))
  have hcx := Ext.cell (W := w1.alloc (Obj.cells #[Value.int IntKind.i64 (1 + wd % 16)] 3)) (p := ⟨w1.heap.size, 0, none⟩) (v := .int .i64 (1 + wd % 16)) (by simp [go_sem]) (by simp)
  have hB2 : Below w.heap.size w (w1.alloc (Obj.cells #[Value.int IntKind.i64 (1 + wd % 16)] 3)) := hB.alloc hB.size _
  have HB := Lib.hid hB2
  have hsz : w1.heap.size < (w1.alloc (Obj.cells #[Value.int IntKind.i64 (1 + wd % 16)] 3)).heap.size := by simp
  clear hB2 hB
  generalize w1.alloc (Obj.cells #[Value.int IntKind.i64 (1 + wd % 16)] 3) = W2 at *
  generalize w1.heap.size = B at *
  refine wp_region_grown (by kernel_rfl) (by kernel_rfl) (by kernel_rfl) ?_
  repeat (go_big_quiet_step ((go_at_call 15; exact grown_of (do_ok _ _ _ _ (by omega) (by omega) (by omega) (by omega) (by omega) (by omega) (by omega) (by omega) _))))
  refine wpQuiet_nil ?_
  rintro _ ⟨x, rfl⟩
  obtain ⟨wx, hbx⟩ := x
  dsimp only
  have hcell : wx.cell? ⟨B, 0, none⟩ = some (.int .i64 (1 + wd % 16)) := hcx ⟨wx, hbx⟩
  have hB : Below w.heap.size w wx := HB.out.trans (hbx.mono HB.out.size)
  have hsz2 : B < wx.heap.size := Nat.lt_of_lt_of_le hsz hbx.size
  clear hcx HB hbx hsz
  replace v13 := v13.out; replace v14 := v14.out; replace v15 := v15.out; replace v15' := v15'.out; replace v16 := v16.out; replace vx := vx.out; replace q1 := q1.out
  go_wp2_with (first | (go_at_call 15; refine (do_ok _ _ _ _ (by omega) (by omega) (by omega) (by omega) (by omega) (by omega) (by omega) (by omega) _).mono ?_; rintro e w3 ⟨rfl, hb3⟩; replace hcell := (hb3.cell (p := ⟨B, 0, none⟩) hsz2).trans hcell; replace hB := hB.trans (hb3.mono hB.size); replace hsz2 := Nat.lt_of_lt_of_le hsz2 hb3.size; clear hb3) | (go_at_call 19; refine (ordLt _ _ _ _ (by omega) (by omega) (by omega) (by omega) (by omega) (by omega) _ hcell).mono ?_; rintro e w3 ⟨rfl, hb3⟩; replace hcell := (hb3.cell (p := ⟨B, 0, none⟩) hsz2).trans hcell; replace hB := hB.trans (hb3.mono hB.size); replace hsz2 := Nat.lt_of_lt_of_le hsz2 hb3.size; clear hb3))
  go_loopw [20] (fun i wr => ∃ k : Nat, 13 ≤ k ∧ k ≤ 17 ∧ i = .int .u8 k ∧ wr.cell? ⟨B, 0, none⟩ = some (.int .i64 (1 + wd % 16)) ∧ Below w.heap.size w wr ∧ B < wr.heap.size) (fun i _ => 17 - (intOf i).toNat)
  case atStart => exact ⟨13, by omega, by omega, rfl, hcell, hB, hsz2⟩
  case round =>
    clear hcell hB hsz2
    obtain ⟨k, hk1, hk2, rfl, hcell, hB, hsz2⟩ := hrel
    by_cases hlt : k < 17
    · have hw1 : Hid (wideW k (1 + wd % 16) = 1) := by show wideW k _ = 1; unfold wideW; rw [if_pos hk1]
      go_wp2_with (go_at_call 20; refine (width_ok _ _ (by omega) (by omega) (by omega) (by omega) _).mono ?_; simp only [Int.toNat_natCast, hw1.out]; rintro e w3 ⟨rfl, hb3⟩; replace hcell := (hb3.cell (p := ⟨B, 0, none⟩) hsz2).trans hcell; replace hB := hB.trans (hb3.mono hB.size); replace hsz2 := Nat.lt_of_lt_of_le hsz2 hb3.size; clear hb3)
      go_roundw
      case rel => exact ⟨k + 1, by omega, by omega, by go_num, hcell, hB, hsz2⟩
      case measure => simp [intOf]; omega
    · obtain rfl : k = 17 := by omega
      go_wp2
      go_ret
      exact ⟨rfl, hB⟩
theorem orders_walk (wd a b c : Int) (hw : 0 ≤ wd) (hw' : wd ≤ 255) (ha : 0 ≤ a) (ha' : a ≤ 4294967295) (hb : 0 ≤ b) (hb' : b ≤ 4294967295) (hc : 0 ≤ c) (hc' : c ≤ 4294967295) (w : World) :
    Calls Try.prog 7 #[.int .u8 wd, .int .u32 a, .int .u32 b, .int .u32 c] w fun e w' => e = .returned (.bool true) ∧ Below w.heap.size w w' := by
  by_cases h1 : cutW a (1 + wd % 16) < cutW b (1 + wd % 16)
  · by_cases h2 : cutW b (1 + wd % 16) < cutW c (1 + wd % 16)
    · exact orders_A wd a b c hw hw' ha ha' hb hb' hc hc' w h1 h2
    · exact orders_B wd a b c hw hw' ha ha' hb hb' hc hc' w h1 (by omega)
  · by_cases h2 : cutW a (1 + wd % 16) = cutW b (1 + wd % 16)
    · exact orders_C wd a b c hw hw' ha ha' hb hb' hc hc' w h2
    · exact orders_D wd a b c hw hw' ha ha' hb hb' hc hc' w (by omega)
end Go.Proofs.Ytfgmcinegogdkaa
