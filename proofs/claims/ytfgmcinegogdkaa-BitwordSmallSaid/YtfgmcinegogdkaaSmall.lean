/- BitwordSmall: the walk. -/
import Derived.Test.YtfgmcinegogdkaaSmallA
namespace Go.Proofs.Ytfgmcinegogdkaa
open Go.RowKit
set_option linter.unusedVariables false
set_option linter.unusedSimpArgs false
set_option maxHeartbeats 4000000
theorem pw_small (k : Nat) (h : k < 18) : 1 ≤ pw k ∧ pw k ≤ 131072 := by
  refine ⟨by have := pw_pos k; omega, ?_⟩
  have h : (2 : Nat) ^ k ≤ 2 ^ 17 := Nat.pow_le_pow_right (by omega) (by omega)
  have : pw (k : Int) = ((2 ^ k : Nat) : Int) := by unfold pw; simp
  rw [this]; omega
theorem made_false (n k : Nat) (h : k < n) : (madeCells #[Value.bool false] n)[k]? = some (.bool false) := by
  simp [madeCells, h, Nat.mod_one]
set_option maxRecDepth 100000 in
theorem law_small (w : World) : Calls Try.prog 9 #[] w fun e w' => e = .returned (.bool true) ∧ Below w.heap.size w w' := by
  go_enter Try.func9, Try.ntmps9
  go_wp2
  go_loopw [19] (fun i wr => ∃ k : Nat, k ≤ 256 ∧ i = .int .i64 k ∧ Below w.heap.size w wr) (fun i _ => 256 - (intOf i).toNat)
  case atStart => exact ⟨0, by omega, rfl, Below.refl _ _⟩
  case round =>
    obtain ⟨k, hk, rfl, hB⟩ := hrel
    by_cases hlt : k < 256
    · have hdk : decide ((k : Int) < 256) = true := by simp; omega
      go_wp2
      clear hdk
      have hr := rowI_alloc .i64 (-9223372036854775808) 9223372036854775807 wr [-9223372036854775808, -1, 0, 1, 2, 16, 17, 9223372036854775807] 3 (by simp)
      replace hB := hB.alloc hB.size (.cells (List.map (Value.int .i64) [-9223372036854775808, -1, 0, 1, 2, 16, 17, 9223372036854775807]).toArray 3)
      simp only [List.map] at hr hB
      generalize wr.alloc _ = W2 at hr hB ⊢
      generalize wr.heap.size = B at hr ⊢
      go_loopw [24] (fun i wr => ∃ k : Nat, k ≤ 8 ∧ i = .int .i64 k ∧ RowI .i64 (-9223372036854775808) 9223372036854775807 wr B 8 ∧ Below w.heap.size w wr) (fun i _ => 8 - (intOf i).toNat)
      case atStart => exact ⟨0, by omega, rfl, hr, hB⟩
      case round =>
        clear hr hB
        obtain ⟨j, hj, rfl, hr, hB⟩ := hrel
        by_cases hlj : j < 8
        · obtain ⟨v, hv, v1, v2⟩ := hr.2 j hlj
          go_wp2_with (go_at_call 18; refine (tells_any _ _ _ _ _ (by omega) (by omega) v1 v2 (by omega) (by omega) (by omega) (by omega) v1 v2 _).mono ?_; rintro e w3 ⟨rfl, hb3⟩)
          go_roundw
          case rel => exact ⟨j + 1, by omega, by go_num, hr.keep hb3, hB.trans (hb3.mono hB.size)⟩
          case measure => simp [intOf]; omega
        · obtain rfl : j = 8 := by omega
          clear hr hlj hj
          go_wp2_with (go_at_call 17; refine (names_gen _ _ _ _ _ _ (by omega) (by omega) (by omega) _ (.inl (.inl (by omega)))).mono ?_; rintro e w3 ⟨rfl, hb3⟩)
          go_roundw
          case rel => exact ⟨k + 1, by omega, by go_num, hB.trans (hb3.mono hB.size)⟩
          case measure => simp [intOf]; omega
    · obtain rfl : k = 256 := by omega
      clear hlt hk
      simp only [show ((256 : Nat) : Int) = 256 from rfl]
      go_wp2
      go_loopw [40] (fun i wr => ∃ k : Nat, k ≤ 18 ∧ i = .int .u8 k ∧ Below w.heap.size w wr) (fun i _ => 18 - (intOf i).toNat)
      case atStart => exact ⟨0, by omega, rfl, hB⟩
      case round =>
        clear hB
        obtain ⟨o, ho, rfl, hB⟩ := hrel
        by_cases hlt : o < 18
        · have hdk : decide ((o : Int) < 18) = true := by simp; omega
          go_wp2
          clear hdk
          go_loopw [5] (fun i wr => ∃ k : Nat, 1 ≤ k ∧ k ≤ 4 ∧ i = .int .i64 k ∧ Below w.heap.size w wr) (fun i _ => 4 - (intOf i).toNat)
          case atStart => exact ⟨1, by omega, by omega, rfl, hB⟩
          case round =>
            clear hB
            obtain ⟨n, hn1, hn2, rfl, hB⟩ := hrel
            by_cases hln : n < 4
            · have hdk : decide ((n : Int) < 4) = true := by simp; omega
              go_wp2
              clear hdk
              go_loopw [47] (fun i wr => ∃ k : Nat, k ≤ 9 ∧ i = .int .u32 k ∧ Below w.heap.size w wr) (fun i _ => 9 - (intOf i).toNat)
              case atStart => exact ⟨0, by omega, rfl, hB⟩
              case round =>
                clear hB
                obtain ⟨x, hx, rfl, hB⟩ := hrel
                by_cases hlx : x < 9
                · have hdk : decide ((x : Int) < 9) = true := by simp; omega
                  go_wp2
                  clear hdk
                  go_loopw [50] (fun i wr => ∃ k : Nat, k ≤ 9 ∧ i = .int .u32 k ∧ Below w.heap.size w wr) (fun i _ => 9 - (intOf i).toNat)
                  case atStart => exact ⟨0, by omega, rfl, hB⟩
                  case round =>
                    clear hB
                    obtain ⟨y, hy, rfl, hB⟩ := hrel
                    by_cases hly : y < 9
                    · go_wp2_with (go_at_call 18; refine (tells_any _ _ _ _ _ (by omega) (by omega) (by omega) (by omega) (by omega) (by omega) (by omega) (by omega) (by omega) (by omega) _).mono ?_; rintro e w3 ⟨rfl, hb3⟩)
                      go_roundw
                      case rel => exact ⟨y + 1, by omega, by go_num, hB.trans (hb3.mono hB.size)⟩
                      case measure => simp [intOf]; omega
                    · obtain rfl : y = 9 := by omega
                      clear hly hy
                      simp only [show ((9 : Nat) : Int) = 9 from rfl]
                      go_wp2
                      go_roundw
                      case rel => exact ⟨x + 1, by omega, by go_num, hB⟩
                      case measure => simp [intOf]; omega
                · obtain rfl : x = 9 := by omega
                  clear hlx hx
                  simp only [show ((9 : Nat) : Int) = 9 from rfl]
                  go_wp2
                  go_roundw
                  case rel => exact ⟨n + 1, by omega, by omega, by go_num, hB⟩
                  case measure => simp [intOf]; omega
            · obtain rfl : n = 4 := by omega
              clear hln hn1 hn2
              simp only [show ((4 : Nat) : Int) = 4 from rfl]
              go_wp2
              go_loopw [64] (fun i wr => ∃ k : Nat, k ≤ 18 ∧ i = .int .i64 k ∧ Below w.heap.size w wr) (fun i _ => 18 - (intOf i).toNat)
              case atStart => exact ⟨0, by omega, rfl, hB⟩
              case round =>
                clear hB
                obtain ⟨n, hn, rfl, hB⟩ := hrel
                by_cases hln : n < 18
                · have hdk : decide ((n : Int) < 18) = true := by simp; omega
                  have hP : 1 ≤ (2 : Int) ^ n ∧ (2 : Int) ^ n ≤ 131072 := pw_small n hln
                  go_wp2
                  clear hdk
                  generalize (2 : Int) ^ n = q at hP ⊢
                  obtain ⟨q1, q2⟩ := hP
                  have hr := rowI_alloc .u32 0 4294967295 wr [0, 1, (q - 1) / 2, (q - 1) / 2 + 1, (q - 1), q, 4294967295] 24 (by simp; omega)
                  replace hB := hB.alloc hB.size (.cells (List.map (Value.int .u32) [0, 1, (q - 1) / 2, (q - 1) / 2 + 1, (q - 1), q, 4294967295]).toArray 24)
                  simp only [List.map] at hr hB
                  generalize wr.alloc _ = W2 at hr hB ⊢
                  generalize wr.heap.size = B at hr ⊢
                  go_loopw [80] (fun i wr => ∃ k : Nat, k ≤ 7 ∧ i = .int .i64 k ∧ RowI .u32 0 4294967295 wr B 7 ∧ Below w.heap.size w wr) (fun i _ => 7 - (intOf i).toNat)
                  case atStart => exact ⟨0, by omega, rfl, hr, hB⟩
                  case round =>
                    clear hr hB
                    obtain ⟨j, hj, rfl, hr, hB⟩ := hrel
                    by_cases hlj : j < 7
                    · have hdk : decide ((j : Int) < 7) = true := by simp; omega
                      obtain ⟨x, hx, x1, x2⟩ := hr.2 j hlj
                      go_wp2
                      clear hdk hx
                      have hr2 := rowI_alloc .u32 0 4294967295 wr [0, 1, 2, (n : Int), (n : Int) + 1, q - 1, 4294967295] 24 (by simp; omega)
                      replace hr := hr.keep ((Below.refl wr.heap.size wr).alloc (Nat.le_refl _) (.cells (List.map (Value.int .u32) [0, 1, 2, (n : Int), (n : Int) + 1, q - 1, 4294967295]).toArray 24))
                      replace hB := hB.alloc hB.size (.cells (List.map (Value.int .u32) [0, 1, 2, (n : Int), (n : Int) + 1, q - 1, 4294967295]).toArray 24)
                      simp only [List.map] at hr2 hB hr
                      generalize wr.alloc _ = W3 at hr2 hB hr ⊢
                      generalize wr.heap.size = B2 at hr2 ⊢
                      go_loopw [92] (fun i wr => ∃ k : Nat, k ≤ 7 ∧ i = .int .i64 k ∧ RowI .u32 0 4294967295 wr B2 7 ∧ RowI .u32 0 4294967295 wr B 7 ∧ Below w.heap.size w wr) (fun i _ => 7 - (intOf i).toNat)
                      case atStart => exact ⟨0, by omega, rfl, hr2, hr, hB⟩
                      case round =>
                        clear hr2 hr hB
                        obtain ⟨l, hl, rfl, hr2, hr, hB⟩ := hrel
                        by_cases hll : l < 7
                        · obtain ⟨y, hy, y1, y2⟩ := hr2.2 l hll
                          go_wp2_with (go_at_call 18; refine (tells_any _ _ _ _ _ (by omega) (by omega) (by omega) (by omega) x1 x2 y1 y2 (by omega) (by omega) _).mono ?_; rintro e w3 ⟨rfl, hb3⟩)
                          go_roundw
                          case rel => exact ⟨l + 1, by omega, by go_num, hr2.keep hb3, hr.keep hb3, hB.trans (hb3.mono hB.size)⟩
                          case measure => simp [intOf]; omega
                        · obtain rfl : l = 7 := by omega
                          clear hll hl
                          simp only [show ((7 : Nat) : Int) = 7 from rfl]
                          go_wp2
                          go_roundw
                          case rel => exact ⟨j + 1, by omega, by go_num, hr, hB⟩
                          case measure => simp [intOf]; omega
                    · obtain rfl : j = 7 := by omega
                      clear hlj hj
                      simp only [show ((7 : Nat) : Int) = 7 from rfl]
                      go_wp2
                      go_roundw
                      case rel => exact ⟨n + 1, by omega, by go_num, hB⟩
                      case measure => simp [intOf]; omega
                · obtain rfl : n = 18 := by omega
                  clear hln hn
                  simp only [show ((18 : Nat) : Int) = 18 from rfl]
                  go_wp2
                  go_roundw
                  case rel => exact ⟨o + 1, by omega, by go_num, hB⟩
                  case measure => simp [intOf]; omega
        · obtain rfl : o = 18 := by omega
          clear hlt ho
          simp only [show ((18 : Nat) : Int) = 18 from rfl]
          go_wp2
          go_loopw [108] (fun i wr => ∃ k : Nat, k ≤ 19 ∧ i = .int .i64 k ∧ Below w.heap.size w wr) (fun i _ => 19 - (intOf i).toNat)
          case atStart => exact ⟨0, by omega, rfl, hB⟩
          case round =>
            clear hB
            obtain ⟨n, hn, rfl, hB⟩ := hrel
            by_cases hln : n < 19
            · have hdk : decide ((n : Int) < 19) = true := by simp; omega
              have hmk := fun w => run_make_row' (P := Try.prog) 35 4 (.bool false) 1 Try.underlying35 Try.info4 rfl .i64 .i64 n (by omega) (by omega) w
              go_wp2
              clear hdk hmk
              have hr : RowB (wr.alloc (Obj.cells (madeCells #[Value.bool false] n) 4)) wr.heap.size n := ⟨_, World.alloc_heap_new _ _, fun k hk => ⟨false, made_false n k hk⟩⟩
              have hbase : w.heap.size ≤ wr.heap.size := hB.size
              replace hB := hB.alloc hB.size (Obj.cells (madeCells #[Value.bool false] n) 4)
              generalize wr.alloc _ = W2 at hr hB ⊢
              generalize wr.heap.size = B at hr hbase ⊢
              go_loopw [115] (fun i wr => ∃ k : Nat, k ≤ n ∧ i = .int .i64 k ∧ RowB wr B n ∧ Below w.heap.size w wr) (fun i _ => n - (intOf i).toNat)
              case atStart => exact ⟨0, by omega, rfl, hr, hB⟩
              case round =>
                clear hr hB
                obtain ⟨j, hj, rfl, hr, hB⟩ := hrel
                by_cases hlj : j < n
                · obtain ⟨t, ht⟩ := hr.cell hlj
                  have hfz := hr.frozen (k := j)
                  have hset : ∀ b : Bool, RowB (wr.setCell ⟨B, j, none⟩ (.bool b)) B n := fun b => hr.set hlj b
                  have hset2 : ∀ b : Bool, Below w.heap.size w (wr.setCell ⟨B, j, none⟩ (.bool b)) := fun b => hB.setCell (p := ⟨B, j, none⟩) hbase _
                  replace hset := Lib.hid hset
                  replace hset2 := Lib.hid hset2
                  clear hr hB
                  go_wp2
                  go_roundw
                  case rel => exact ⟨j + 1, by omega, by go_num, hset.out _, hset2.out _⟩
                  case measure => simp [intOf]; omega
                · obtain rfl : j = n := by omega
                  clear hlj hj
                  go_wp2_with (go_at_call 21; refine (rnames_ok _).mono ?_; rintro e w' ⟨rfl, rfl⟩)
                  have hs : RowS (wr.alloc (.cells namesL 9)) wr.heap.size 17 := ⟨by simp, fun k hk => ⟨_, by rw [World.cell?_alloc_at _ _ _ _ rfl]; exact namesL_at k (by omega)⟩⟩
                  replace hr := hr.keep ((Below.refl wr.heap.size wr).alloc (Nat.le_refl _) (.cells namesL 9))
                  replace hB := hB.alloc hB.size (.cells namesL 9)
                  generalize wr.alloc _ = W3 at hr hs hB ⊢
                  generalize wr.heap.size = B3 at hs ⊢
                  go_loopw [127] (fun i wr => ∃ k : Nat, k ≤ 17 ∧ i = .int .i64 k ∧ RowS wr B3 17 ∧ RowB wr B j ∧ Below w.heap.size w wr) (fun i _ => 17 - (intOf i).toNat)
                  case atStart => exact ⟨0, by omega, rfl, hs, hr, hB⟩
                  case round =>
                    clear hs hr hB
                    obtain ⟨l, hl, rfl, hs, hr, hB⟩ := hrel
                    by_cases hll : l < 17
                    · obtain ⟨s, hsc⟩ := hs.2 l hll
                      go_wp2_with (go_at_call 17; refine (names_row _ _ _ _ _ (by omega) (by omega) (by omega) _ hr).mono ?_; rintro e w3 ⟨rfl, hb3⟩; replace hs := hs.keep hb3; replace hr := hr.keep hb3; replace hB := hB.trans (hb3.mono hB.size); clear hb3)
                      go_roundw
                      case rel => exact ⟨l + 1, by omega, by go_num, hs, hr, hB⟩
                      case measure => simp [intOf]; omega
                    · obtain rfl : l = 17 := by omega
                      clear hll hl
                      simp only [show ((17 : Nat) : Int) = 17 from rfl]
                      go_wp2
                      go_roundw
                      case rel => exact ⟨j + 1, by omega, by go_num, hB⟩
                      case measure => simp [intOf]; omega
            · obtain rfl : n = 19 := by omega
              clear hln hn
              simp only [show ((19 : Nat) : Int) = 19 from rfl]
              go_wp2_with (go_at_call 11; refine (awake_ok _).mono ?_; rintro e w1 ⟨rfl, hb1⟩)
              go_ret
              exact ⟨rfl, hB.trans (hb1.mono hB.size)⟩
end Go.Proofs.Ytfgmcinegogdkaa
