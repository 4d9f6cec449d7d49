/- Disks: law 4 (sizes, widths and blocks that there are not). -/
import Derived.Test.YthhchccjpgpibaaDiskN
namespace Go.Proofs.Ythhchccjpgpibaa
open Go Go.RowKit Go.Shelf
set_option linter.unusedVariables false
set_option linter.unusedSimpArgs false
set_option maxHeartbeats 4000000
/-- A slice of two numbers, each of which is so. -/
def TwoAt (w0 : World) (Bad : Int → Prop) (s l i : Value) (w : World) : Prop := ∃ S a b, s = .slice (some ⟨S, 0, none⟩) 2 2 ∧ l = .int .i64 2 ∧ i = .int .i64 0 ∧ Blk w S 3 #[.int .i64 a, .int .i64 b] ∧ w0.heap.size ≤ S ∧ Below w0.heap.size w0 w ∧ Bad a ∧ Bad b
theorem two_cell {w : World} {S : Nat} {a b : Int} (h : Blk w S 3 #[.int .i64 a, .int .i64 b]) {Bad : Int → Prop} (ha : Bad a) (hb : Bad b) {k : Nat} (hk : k < 2) : ∃ x, w.cell? ⟨S, k, none⟩ = some (.int .i64 x) ∧ Bad x := by
  have := h.cell k
  have hk2 : k = 0 ∨ k = 1 := by omega
  rcases hk2 with rfl | rfl
  · exact ⟨a, by simpa using this, ha⟩
  · exact ⟨b, by simpa using this, hb⟩
theorem two_mk {w0 w : World} {Bad : Int → Prop} {a b : Int} (hB : Below w0.heap.size w0 w) (ha : Bad a) (hb : Bad b) : TwoAt w0 Bad (.slice (some ⟨w.heap.size, 0, none⟩) 2 2) (.int .i64 2) (.int .i64 0) (w.alloc (.cells #[.int .i64 a, .int .i64 b] 3)) :=
  ⟨_, a, b, rfl, rfl, rfl, Blk.new _ _ _, hB.size, hB.alloc hB.size _, ha, hb⟩
def Bad16 (x : Int) : Prop := (x < 1 ∨ 16 < x) ∧ -9223372036854775808 ≤ x ∧ x ≤ 9223372036854775807
def Bad3 (x : Int) : Prop := (x < 0 ∨ 3 ≤ x) ∧ -9223372036854775808 ≤ x ∧ x ≤ 9223372036854775807
theorem two_step {w w' : World} {S : Nat} {fp fp' : List Nat} {a b : Int} (h : Blk w S 3 #[.int .i64 a, .int .i64 b] ∧ S ∉ fp) (ho : Only fp w w') (hf : ∀ k, k ∈ fp' → k ∈ fp ∨ w.heap.size ≤ k) : Blk w' S 3 #[.int .i64 a, .int .i64 b] ∧ S ∉ fp' :=
  ⟨h.1.only ho h.2, fun hm => by
    rcases hf _ hm with h1 | h1
    · exact h.2 h1
    · have := h.1.lt; omega⟩
theorem two_new {w w' : World} {S : Nat} {fp : List Nat} {a b : Int} (h : Blk w S 3 #[.int .i64 a, .int .i64 b] ∧ S ∉ fp) (hb : Below w.heap.size w w') : Blk w' S 3 #[.int .i64 a, .int .i64 b] ∧ S ∉ fp := ⟨h.1.below hb h.1.lt, h.2⟩
theorem wrong_new (x : Int) {w : World} (c B : Nat) (A : Option Addr) (hrd : Reads w B 1 A 1 ([x].map (Value.int .u32))) (hB : B ≤ w.heap.size) (x1 : 0 ≤ x) (x2 : x ≤ 4294967295) :
    Calls Try.prog 16 #[.int .i64 3, .int .i64 4, .slice A 1 c] w fun e w' => ∃ d fp, e = .returned (.tuple #[.pointer (some ⟨d, 0, none⟩), .int .i64 0]) ∧ Disk w' w.heap.size d fp (mkD 4 3 [x]) ∧ Below w.heap.size w w' :=
  new_disk 3 4 A 1 c B [x] hrd hB (by omega) (by omega) (by omega) (by omega) (by omega) (by simp [x1, x2])
section
variable {w : World} {base d : Nat} {fp : List Nat} {x y : Int}
theorem wrong_write (h : Disk w base d fp (mkD 4 3 [x])) (hy : Bad3 y) (x1 : 0 ≤ x) (x2 : x ≤ 4294967295) : Calls Try.prog 17 #[.pointer (some ⟨d, 0, none⟩), .int .i64 y, .int .u32 x] w fun e w' => e = .returned (.tuple #[.bool false, .int .i64 0]) ∧ ∃ fp', Disk w' base d fp' (mkD 4 3 [x]) ∧ (∀ k, k ∈ fp' → k ∈ fp ∨ w.heap.size ≤ k) ∧ Only fp w w' := by
  have h1 : wOk (mkD 4 3 [x]) y = false := by
    have := hy.1
    rw [← Bool.not_eq_true]
    intro hc
    simp [wOk, mkD] at hc
    omega
  have h2 : wErr (mkD 4 3 [x]) y = 0 := if_neg (by simp [mkD])
  have h3 : wrt (mkD 4 3 [x]) y x = mkD 4 3 [x] := by rw [wrt, h1]; rfl
  have := write_disk h y x x1 x2
  rwa [h1, h2, h3] at this
theorem wrong_read (h : Disk w base d fp (mkD 4 3 [x])) (hy : Bad3 y) : Calls Try.prog 18 #[.pointer (some ⟨d, 0, none⟩), .int .i64 y] w fun e w' => e = .returned (.int .u32 0) ∧ Below w.heap.size w w' := by
  refine read_n h y hy.2 ?_
  have := hy.1
  unfold readD
  rw [if_neg (by simp [mkD]; omega)]
theorem wrong_read0 (h : Disk w base d fp (mkD 4 3 [x])) : Calls Try.prog 18 #[.pointer (some ⟨d, 0, none⟩), .int .i64 0] w fun e w' => e = .returned (.int .u32 (cutW x 4)) ∧ Below w.heap.size w w' :=
  read_n h 0 (by omega) rfl
theorem wrong_read1 (h : Disk w base d fp (mkD 4 3 [x])) : Calls Try.prog 18 #[.pointer (some ⟨d, 0, none⟩), .int .i64 1] w fun e w' => e = .returned (.int .u32 0) ∧ Below w.heap.size w w' :=
  read_n h 1 (by omega) rfl
end
set_option maxRecDepth 100000 in
theorem law_wrong (n b x : Int) (n1 : -9223372036854775808 ≤ n) (n2 : n ≤ 9223372036854775807) (b1 : -9223372036854775808 ≤ b) (b2 : b ≤ 9223372036854775807) (x1 : 0 ≤ x) (x2 : x ≤ 4294967295) (w : World) :
    Calls Try.prog 4 #[.int .i64 n, .int .i64 b, .int .u32 x] w fun e w' => e = .returned (.bool true) ∧ Below w.heap.size w w' := by
  have hmk : ∀ w, Sem.run Try.prog (Instr.makeSlice 26 (.int .i64 4) (.int .i64 4)) w = .ok (.slice (some ⟨w.heap.size, 0, none⟩) 4 4) (w.alloc (.cells #[.int .u32 0, .int .u32 0, .int .u32 0, .int .u32 0] 36)) := fun w => by kernel_rfl
  go_enter Try.func4, Try.ntmps4
  go_upto_region 3 with (go_at_call 10; refine (awake_ok _).mono ?_; rintro e w1 ⟨rfl, hB0⟩)
  go_cut [29, 30, 31] (fun s l i wx => TwoAt w Bad16 s l i wx)
  case first =>
    go_wp2
    all_goals (go_meet; exact two_mk hB0 ⟨by omega, by omega, by omega⟩ ⟨by omega, by omega, by omega⟩)
  case rest =>
    obtain ⟨S, a, c, rfl, rfl, rfl, hS, hSw, hB1, ha, hb⟩ := hcut
    clear hB0
    replace ha := Lib.hid ha
    replace hb := Lib.hid hb
    go_wp2_with fail
    go_loopw [31] (fun i wr => ∃ k : Nat, k ≤ 2 ∧ i = .int .i64 k ∧ Blk wr S 3 #[.int .i64 a, .int .i64 c] ∧ Below w.heap.size w wr) (fun i _ => 2 - (intOf i).toNat)
    case atStart => exact ⟨0, by omega, rfl, hS, hB1⟩
    case round =>
      clear hS hB1
      obtain ⟨k, hk, rfl, hS, hB1⟩ := hrel
      by_cases hlt : k < 2
      · obtain ⟨y, hy, hbad, y1, y2⟩ := two_cell hS ha.out hb.out hlt
        replace hbad := Lib.hid hbad
        have hlt2 : (k : Int) < 2 := by omega
        have hk0 : 0 ≤ (k : Int) := by omega
        go_wp2_with (go_at_call 16; refine (new_blocks y n none 0 0 _ hbad.out).mono ?_; rintro e w' ⟨rfl, rfl⟩)
        go_roundw
        case rel => exact ⟨k + 1, by omega, by go_num, hS, hB1⟩
        case measure => simp [intOf]; omega
      · obtain rfl : k = 2 := by omega
        clear hS hb ha
        go_upto_region 10 with (fail)
        go_cut [52, 53, 54] (fun s l i wx => TwoAt w Bad16 s l i wx)
        case first =>
          go_wp2
          all_goals (go_meet; exact two_mk hB1 ⟨by omega, by omega, by omega⟩ ⟨by omega, by omega, by omega⟩)
        case rest =>
          clear hB1
          obtain ⟨S, a, c, rfl, rfl, rfl, hS, hSw, hB1, ha, hb⟩ := hcut
          replace ha := Lib.hid ha
          replace hb := Lib.hid hb
          go_wp2_with fail
          go_loopw [54] (fun i wr => ∃ k : Nat, k ≤ 2 ∧ i = .int .i64 k ∧ Blk wr S 3 #[.int .i64 a, .int .i64 c] ∧ Below w.heap.size w wr) (fun i _ => 2 - (intOf i).toNat)
          case atStart => exact ⟨0, by omega, rfl, hS, hB1⟩
          case round =>
            clear hS hB1
            obtain ⟨k, hk, rfl, hS, hB1⟩ := hrel
            by_cases hlt : k < 2
            · obtain ⟨y, hy, hbad, y1, y2⟩ := two_cell hS ha.out hb.out hlt
              replace hbad := Lib.hid hbad
              have hlt2 : (k : Int) < 2 := by omega
              have hk0 : 0 ≤ (k : Int) := by omega
              have hS2 := hS.alloc (.cells #[.int .u32 0, .int .u32 0, .int .u32 0, .int .u32 0] 36)
              have hB2 := hB1.alloc hB1.size (.cells #[.int .u32 0, .int .u32 0, .int .u32 0, .int .u32 0] 36)
              go_wp2_with (go_at_call 16; refine (new_width 3 y _ 4 4 _ (by omega) (by omega) hbad.out y1 y2).mono ?_; rintro e w' ⟨rfl, rfl⟩)
              go_roundw
              case rel => (repeat apply Exists.intro); exact ⟨⟨k + 1, by omega, by go_num, hS2, hB2⟩, rfl⟩
              case measure => simp [intOf]; omega
            · obtain rfl : k = 2 := by omega
              clear hS hb ha
              have hB2 := hB1.alloc hB1.size (.cells #[.int .u32 0, .int .u32 0, .int .u32 0, .int .u32 0] 36)
              go_wp2_with fail
              have hc := new_many 3 4 (some ⟨wr.heap.size, 0, none⟩) 4 4 (wr.alloc (.cells #[.int .u32 0, .int .u32 0, .int .u32 0, .int .u32 0] 36)) (by omega) (by omega) (by omega) (by omega) (by omega)
              refine hc.mono ?_
              rintro e w' ⟨rfl, rfl⟩
              clear hc
              generalize wr.alloc (.cells #[.int .u32 0, .int .u32 0, .int .u32 0, .int .u32 0] 36) = W2 at hB2 ⊢
              have hl0 : (W2.alloc (.cells #[.int .u32 x] 36)).ownsRow W2.heap.size 36 1 (.slice (some ⟨W2.heap.size, 0, none⟩) 1 1) 1 ([x].map (Value.int .u32)) := lit_own W2 36 ([x].map (Value.int .u32)) 1 1 (by omega) rfl
              have hB3 := hB2.alloc hB2.size (.cells #[.int .u32 x] 36)
              have hsz : w.heap.size ≤ (W2.alloc (.cells #[.int .u32 x] 36)).heap.size := hB3.size
              have hc := wrong_new x 1 _ _ (Reads.of_own hl0) (Nat.le_refl _) x1 x2
              go_wp2_with fail
              refine hc.mono ?_
              clear hc
              rintro e w1 ⟨d, fp, rfl, hD, hB4⟩
              have hB5 := hB3.trans (hB4.mono hsz)
              replace hD := hD.base_le (base' := w.heap.size) hsz
              clear hl0 hB3 hB2 hB1 hB4 hsz
              go_upto_region 23 with (fail)
              go_cut [98, 99, 100] (fun s l i wx => TwoAt w1 Bad3 s l i wx)
              case first =>
                go_wp2
                all_goals (go_meet; exact two_mk (Below.refl _ _) ⟨by omega, by omega, by omega⟩ ⟨by omega, by omega, by omega⟩)
              case rest =>
                obtain ⟨S, a, c, rfl, rfl, rfl, hS, hSw, hB1, ha, hb⟩ := hcut
                have hSf : S ∉ fp := fun hm => by
                  have := (hD.ge S hm).2
                  omega
                replace hD := hD.new hB1
                replace hB1 := hB5.trans (hB1.mono hB5.size)
                replace ha := Lib.hid ha
                replace hb := Lib.hid hb
                clear hB5
                go_wp2_with fail
                go_loopw [100] (fun i wr => ∃ (k : Nat) (fp : List Nat), k ≤ 2 ∧ i = .int .i64 k ∧ (Blk wr S 3 #[.int .i64 a, .int .i64 c] ∧ S ∉ fp) ∧ Disk wr w.heap.size d fp (mkD 4 3 [x]) ∧ Below w.heap.size w wr) (fun i _ => 2 - (intOf i).toNat)
                case atStart => exact ⟨0, fp, by omega, rfl, ⟨hS, hSf⟩, hD, hB1⟩
                case round =>
                  clear hS hB1 hD hSf
                  obtain ⟨k, fp, hk, rfl, hS, hD, hB1⟩ := hrel
                  by_cases hlt : k < 2
                  · obtain ⟨y, hy, hbad⟩ := two_cell hS.1 ha.out hb.out hlt
                    have y1 := hbad.2.1
                    have y2 := hbad.2.2
                    replace hbad := Lib.hid hbad
                    have hlt2 : (k : Int) < 2 := by omega
                    have hk0 : 0 ≤ (k : Int) := by omega
                    go_wp2_with (first
                      | (go_at_call 17; refine (wrong_write hD hbad.out x1 x2).mono ?_; rintro e w3 ⟨rfl, fp3, hD3, hf3, hO3⟩; have hS3 := two_step hS hO3 hf3; have hB3 := hD.below hO3 hB1 (Nat.le_refl _); clear hD hS hB1 hO3 hf3)
                      | (go_at_call 18; refine (wrong_read hD3 hbad.out).mono ?_; rintro e w4 ⟨rfl, hB4⟩; have hD4 := hD3.new hB4; have hS4 := two_new hS3 hB4; have hB5 := below_and hB3 hB4; clear hD3 hS3 hB3 hB4)
                      | (go_at_call 13; refine (cache_n (k := 0) (es := []) hD4 rfl rfl).mono ?_; rintro e w5 ⟨A5, cap5, rfl, _, hB6⟩; have hD6 := hD4.new hB6; have hS6 := two_new hS4 hB6; have hB7 := below_and hB5 hB6; clear hD4 hS4 hB5 hB6))
                    go_roundw
                    case rel => exact ⟨k + 1, fp3, by omega, by go_num, hS6, hD6, hB7⟩
                    case measure => simp [intOf]; omega
                  · obtain rfl : k = 2 := by omega
                    clear hS hb ha
                    have hw15 := u32_and15 x x1 x2
                    go_wp2_with (first
                      | (go_at_call 18; refine (wrong_read0 hD).mono ?_; rintro e w4 ⟨rfl, hB4⟩; have hD4 := hD.new hB4; have hB5 := below_and hB1 hB4; clear hD hB1 hB4)
                      | (go_at_call 18; refine (wrong_read1 hD4).mono ?_; rintro e w5 ⟨rfl, hB6⟩; have hB7 := below_and hB5 hB6))
                    go_ret
                    exact ⟨rfl, hB7⟩
end Go.Proofs.Ythhchccjpgpibaa
