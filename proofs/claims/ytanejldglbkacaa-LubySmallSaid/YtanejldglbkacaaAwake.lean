/- awake: the chapter's examples. -/
import Derived.Test.YtanejldglbkacaaE
namespace Go.Proofs.Ytanejldglbkacaa
open Go Go.RowKit
set_option linter.unusedVariables false
set_option linter.unusedSimpArgs false
set_option maxHeartbeats 4000000
theorem at_val (x : Int) (n v : Nat) (hx : x = n) (h1 : 1 ≤ n) (h2 : n ≤ 1099511627776) (hv : L n = v) (w : World) :
    Calls Try.prog 13 #[.int .i64 x] w fun e w' => e = .returned (.tuple #[.int .i64 (v : Int), .int .i64 0]) ∧ w = w' := by
  subst hv; exact at_at x n hx h1 h2 w
theorem sum_val (x : Int) (n v : Nat) (hx : x = n) (h2 : n ≤ 1099511627776) (hv : S n = v) (w : World) :
    Calls Try.prog 14 #[.int .i64 x] w fun e w' => e = .returned (.tuple #[.int .i64 (v : Int), .int .i64 0]) ∧ Below w.heap.size w w' := by
  subst hv; exact sum_at x n hx h2 w
theorem great_val (x : Int) (n v : Nat) (hx : x = n) (h2 : n ≤ 1099511627776) (hv : G n = v) (w : World) :
    Calls Try.prog 15 #[.int .i64 x] w fun e w' => e = .returned (.tuple #[.int .i64 (v : Int), .int .i64 0]) ∧ Below w.heap.size w w' := by
  subst hv; subst hx; exact great_ok n h2 w
theorem times_val (x y : Int) (n v : Nat) (hx : x = n) (h2 : n ≤ 1099511627776) (hv : T y n = v) (w : World) :
    Calls Try.prog 16 #[.int .i64 x, .int .i64 y] w fun e w' => e = .returned (.tuple #[.int .i64 (v : Int), .int .i64 0]) ∧ Below w.heap.size w w' := by
  subst hv; subst hx; exact times_ok n y h2 w
theorem within_val (x : Int) (t m : Nat) (hx : x = t) (h2 : t ≤ 1099511627776) (hv : isW t m) (w : World) :
    Calls Try.prog 17 #[.int .i64 x] w fun e w' => e = .returned (.tuple #[.int .i64 (m : Int), .int .i64 0]) ∧ Below w.heap.size w w' := by
  subst hx
  refine (within_ok t h2 w).mono ?_
  rintro e w' ⟨m', _, hm, he, hb⟩
  rw [isW_unique t m m' hv hm]
  exact ⟨he, hb⟩
/-- A row of numbers. -/
def Nums (W : World) (B : Nat) (l : List Int) : Prop := B < W.heap.size ∧ ∀ k, W.cell? ⟨B, k, none⟩ = (l.map (Value.int .i64)).toArray[k]?
theorem Nums.keep {W W' : World} {B : Nat} {l : List Int} (h : Nums W B l) (hb : Below W.heap.size W W') : Nums W' B l :=
  ⟨Nat.lt_of_lt_of_le h.1 hb.size, fun k => (hb.cell (p := ⟨B, k, none⟩) h.1).trans (h.2 k)⟩
theorem nums_new (w : World) (l : List Int) (t : TypeId) : Nums (w.alloc (.cells (l.map (Value.int .i64)).toArray t)) w.heap.size l :=
  ⟨by simp, fun k => by rw [World.cell?_alloc_at _ _ _ _ rfl]⟩
def stR (k : Nat) : Int := [1, 1, 2, 2, 3, 3, 3, 3, 4].getD k 0
def stL (k : Nat) : Int := [2, 1, 2, 1, 4, 3, 2, 1, 2].getD k 0
set_option maxRecDepth 100000 in
theorem awake_ok (w : World) : Calls Try.prog 12 #[] w fun e w' => e = .returned (.bool true) ∧ Below w.heap.size w w' := by
  go_enter Try.func12, Try.ntmps12
  go_wp2
  have hr := nums_new w [1, 2, 3, 7, 12] 3
  have hB := (Below.refl w.heap.size w).alloc (Nat.le_refl _) (.cells (List.map (Value.int .i64) [1, 2, 3, 7, 12]).toArray 3)
  simp only [List.map] at hr hB
  generalize w.alloc _ = W2 at hr hB ⊢
  generalize hBB : w.heap.size = B at hr ⊢
  rw [hBB] at hB
  go_loopw [24] (fun i wr => ∃ k : Nat, k ≤ 5 ∧ i = .int .i64 k ∧ Nums wr B [1, 2, 3, 7, 12] ∧ Below B w wr) (fun i _ => 5 - (intOf i).toNat)
  case atStart => exact ⟨0, by omega, rfl, hr, hB⟩
  case round =>
    clear hr hB
    obtain ⟨k, hk, rfl, hr, hB⟩ := hrel
    have hs : B ≤ wr.heap.size := Nat.le_of_lt hr.1
    by_cases hlt : k < 5
    · have h3 : k = 0 ∨ k = 1 ∨ k = 2 ∨ k = 3 ∨ k = 4 := by omega
      have hkeep : ∀ (o : Obj), Nums (wr.alloc o) B [1, 2, 3, 7, 12] := fun o => hr.keep ((Below.refl _ _).alloc (Nat.le_refl _) o)
      have hkB : ∀ (o : Obj), Below B w (wr.alloc o) := fun o => hB.alloc hs o
      replace hkeep := Lib.hid hkeep
      replace hkB := Lib.hid hkB
      rcases h3 with rfl | rfl | rfl | rfl | rfl
      · have hc := hr.2 0
        simp at hc
        simp only [show ((0 : Nat) : Int) = 0 from rfl]
        go_wp2_with (go_at_call 13; refine (at_val _ 1 1 rfl (by omega) (by omega) (by decide) _).mono ?_; rintro e w' ⟨rfl, rfl⟩)
        go_roundw
        case rel => exact ⟨1, by omega, rfl, hkeep.out _, hkB.out _⟩
        case measure => simp [intOf]
      · have hc := hr.2 1
        simp at hc
        simp only [show ((1 : Nat) : Int) = 1 from rfl]
        go_wp2_with (go_at_call 13; refine (at_val _ 2 1 rfl (by omega) (by omega) (by decide) _).mono ?_; rintro e w' ⟨rfl, rfl⟩)
        go_roundw
        case rel => exact ⟨2, by omega, rfl, hkeep.out _, hkB.out _⟩
        case measure => simp [intOf]
      · have hc := hr.2 2
        simp at hc
        simp only [show ((2 : Nat) : Int) = 2 from rfl]
        go_wp2_with (go_at_call 13; refine (at_val _ 3 2 rfl (by omega) (by omega) (by decide) _).mono ?_; rintro e w' ⟨rfl, rfl⟩)
        go_roundw
        case rel => exact ⟨3, by omega, rfl, hkeep.out _, hkB.out _⟩
        case measure => simp [intOf]
      · have hc := hr.2 3
        simp at hc
        simp only [show ((3 : Nat) : Int) = 3 from rfl]
        go_wp2_with (go_at_call 13; refine (at_val _ 7 4 rfl (by omega) (by omega) (by decide) _).mono ?_; rintro e w' ⟨rfl, rfl⟩)
        go_roundw
        case rel => exact ⟨4, by omega, rfl, hkeep.out _, hkB.out _⟩
        case measure => simp [intOf]
      · have hc := hr.2 4
        simp at hc
        simp only [show ((4 : Nat) : Int) = 4 from rfl]
        go_wp2_with (go_at_call 13; refine (at_val _ 12 1 rfl (by omega) (by omega) (by decide) _).mono ?_; rintro e w' ⟨rfl, rfl⟩)
        go_roundw
        case rel => exact ⟨5, by omega, rfl, hkeep.out _, hkB.out _⟩
        case measure => simp [intOf]
    · obtain rfl : k = 5 := by omega
      clear hlt hk hr
      simp only [show ((5 : Nat) : Int) = 5 from rfl]
      go_wp2_with fail
      go_at_call 14
      refine (sum_val 7 7 12 rfl (by omega) (by decide) _).mono ?_
      rintro e w3 ⟨rfl, hb3⟩
      replace hB := hB.trans (hb3.mono hs)
      replace hs := Nat.le_trans hs hb3.size
      clear hb3
      go_wp2_with fail
      go_at_call 14
      refine (sum_val 5 5 6 rfl (by omega) (by decide) _).mono ?_
      rintro e w3 ⟨rfl, hb3⟩
      replace hB := hB.trans (hb3.mono hs)
      replace hs := Nat.le_trans hs hb3.size
      clear hb3
      go_wp2_with fail
      go_at_call 17
      refine (within_val 12 12 7 rfl (by omega) ⟨by decide, by decide⟩ _).mono ?_
      rintro e w3 ⟨rfl, hb3⟩
      replace hB := hB.trans (hb3.mono hs)
      replace hs := Nat.le_trans hs hb3.size
      clear hb3
      go_wp2_with fail
      go_at_call 17
      refine (within_val 11 11 6 rfl (by omega) ⟨by decide, by decide⟩ _).mono ?_
      rintro e w3 ⟨rfl, hb3⟩
      replace hB := hB.trans (hb3.mono hs)
      replace hs := Nat.le_trans hs hb3.size
      clear hb3
      go_wp2_with fail
      go_at_call 15
      refine (great_val 6 6 2 rfl (by omega) (by decide) _).mono ?_
      rintro e w3 ⟨rfl, hb3⟩
      replace hB := hB.trans (hb3.mono hs)
      replace hs := Nat.le_trans hs hb3.size
      clear hb3
      go_wp2_with fail
      go_at_call 16
      refine (times_val 7 1 7 4 rfl (by omega) (by decide) _).mono ?_
      rintro e w3 ⟨rfl, hb3⟩
      replace hB := hB.trans (hb3.mono hs)
      replace hs := Nat.le_trans hs hb3.size
      clear hb3
      go_wp2_with fail
      go_at_call 18
      refine (new_ok 2 (by omega) (by omega) _).mono ?_
      rintro e w4 ⟨rfl, hR⟩
      generalize w3.heap.size = bz at hR hs ⊢
      rw [← hBB] at hB
      have hBw : w.heap.size ≤ bz := by omega
      clear hBB hs
      go_wp2_with fail
      go_loopw [115] (fun i wr => ∃ k : Nat, k ≤ 8 ∧ i = .int .i64 k ∧ Rst w3 bz bz 2 (stR k) (stL k) k wr) (fun i _ => 8 - (intOf i).toNat)
      case atStart => exact ⟨0, by omega, rfl, hR⟩
      case round =>
        clear hR
        obtain ⟨k, hk, rfl, hR⟩ := hrel
        by_cases hlt : k < 8
        · have h3 : k = 0 ∨ k = 1 ∨ k = 2 ∨ k = 3 ∨ k = 4 ∨ k = 5 ∨ k = 6 ∨ k = 7 := by omega
          clear hlt hk
          rcases h3 with rfl | rfl | rfl | rfl | rfl | rfl | rfl | rfl
          · replace hR : Rst w3 bz bz 2 1 2 0 wr := hR
            simp only [show ((0 : Nat) : Int) = 0 from rfl]
            go_wp2_with (go_at_call 19; refine (conflict_no hR (by omega) (by omega) (by omega) (by omega)).mono ?_; rintro e w5 ⟨rfl, hR2⟩)
            go_roundw
            case rel => exact ⟨1, by omega, rfl, hR2⟩
            case measure => simp [intOf]
          · replace hR : Rst w3 bz bz 2 1 1 1 wr := hR
            simp only [show ((1 : Nat) : Int) = 1 from rfl]
            go_wp2_with (go_at_call 19; refine (conflict_yes 1 hR rfl (by omega) (by omega) (by omega) (by omega) (by omega) (by omega)).mono ?_; rintro e w5 ⟨rfl, hR2⟩)
            go_roundw
            case rel => exact ⟨2, by omega, rfl, hR2⟩
            case measure => simp [intOf]
          · replace hR : Rst w3 bz bz 2 2 2 2 wr := hR
            simp only [show ((2 : Nat) : Int) = 2 from rfl]
            go_wp2_with (go_at_call 19; refine (conflict_no hR (by omega) (by omega) (by omega) (by omega)).mono ?_; rintro e w5 ⟨rfl, hR2⟩)
            go_roundw
            case rel => exact ⟨3, by omega, rfl, hR2⟩
            case measure => simp [intOf]
          · replace hR : Rst w3 bz bz 2 2 1 3 wr := hR
            simp only [show ((3 : Nat) : Int) = 3 from rfl]
            go_wp2_with (go_at_call 19; refine (conflict_yes 2 hR rfl (by omega) (by omega) (by omega) (by omega) (by omega) (by omega)).mono ?_; rintro e w5 ⟨rfl, hR2⟩)
            go_roundw
            case rel => exact ⟨4, by omega, rfl, hR2⟩
            case measure => simp [intOf]
          · replace hR : Rst w3 bz bz 2 3 4 4 wr := hR
            simp only [show ((4 : Nat) : Int) = 4 from rfl]
            go_wp2_with (go_at_call 19; refine (conflict_no hR (by omega) (by omega) (by omega) (by omega)).mono ?_; rintro e w5 ⟨rfl, hR2⟩)
            go_roundw
            case rel => exact ⟨5, by omega, rfl, hR2⟩
            case measure => simp [intOf]
          · replace hR : Rst w3 bz bz 2 3 3 5 wr := hR
            simp only [show ((5 : Nat) : Int) = 5 from rfl]
            go_wp2_with (go_at_call 19; refine (conflict_no hR (by omega) (by omega) (by omega) (by omega)).mono ?_; rintro e w5 ⟨rfl, hR2⟩)
            go_roundw
            case rel => exact ⟨6, by omega, rfl, hR2⟩
            case measure => simp [intOf]
          · replace hR : Rst w3 bz bz 2 3 2 6 wr := hR
            simp only [show ((6 : Nat) : Int) = 6 from rfl]
            go_wp2_with (go_at_call 19; refine (conflict_no hR (by omega) (by omega) (by omega) (by omega)).mono ?_; rintro e w5 ⟨rfl, hR2⟩)
            go_roundw
            case rel => exact ⟨7, by omega, rfl, hR2⟩
            case measure => simp [intOf]
          · replace hR : Rst w3 bz bz 2 3 1 7 wr := hR
            simp only [show ((7 : Nat) : Int) = 7 from rfl]
            go_wp2_with (go_at_call 19; refine (conflict_yes 3 hR rfl (by omega) (by omega) (by omega) (by omega) (by omega) (by omega)).mono ?_; rintro e w5 ⟨rfl, hR2⟩)
            go_roundw
            case rel => exact ⟨8, by omega, rfl, hR2⟩
            case measure => simp [intOf]
        · obtain rfl : k = 8 := by omega
          clear hlt hk
          replace hR : Rst w3 bz bz 2 4 2 8 wr := hR
          simp only [show ((8 : Nat) : Int) = 8 from rfl]
          go_wp2_with (first | (go_at_call 21; refine (round_ok hR).mono ?_; rintro e w' ⟨rfl, rfl⟩) | (go_at_call 22; refine (left_ok hR).mono ?_; rintro e w' ⟨rfl, rfl⟩) | (go_at_call 20; refine (count_ok hR).mono ?_; rintro e w' ⟨rfl, rfl⟩))
          go_ret
          exact ⟨rfl, hB.trans (hR.2.2.mono hBw)⟩
end Go.Proofs.Ytanejldglbkacaa
