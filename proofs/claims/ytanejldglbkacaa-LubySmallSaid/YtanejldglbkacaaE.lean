/- Restarts: what their methods return, and make of them. -/
import Derived.Test.YtanejldglbkacaaD
namespace Go.Proofs.Ytanejldglbkacaa
open Go Go.RowKit
set_option linter.unusedVariables false
set_option linter.unusedSimpArgs false
set_option maxHeartbeats 4000000
/-- Restarts in a block of their own, at or above a base; below the base nothing has turned. -/
def Rst (w0 : World) (base b : Nat) (u rd lf ct : Int) (w : World) : Prop :=
  w.heap[b]? = some (.cells #[.int .i64 u, .int .i64 rd, .int .i64 lf, .int .i64 ct, .bool true] 53 (0, 0)) ∧ base ≤ b ∧ Below base w0 w
section
variable {w0 w : World} {base b : Nat} {u rd lf ct : Int}
theorem Rst.cell (h : Rst w0 base b u rd lf ct w) (j : Nat) : w.cell? ⟨b, j, none⟩ = (#[.int .i64 u, .int .i64 rd, .int .i64 lf, .int .i64 ct, .bool true] : Array Value)[j]? := by
  simp [World.cell?, h.1]
theorem Rst.frozen (h : Rst w0 base b u rd lf ct w) (j : Nat) : w.frozen? ⟨b, j, none⟩ = false := by
  simp [World.frozen?, h.1]
theorem Rst.set1 (h : Rst w0 base b u rd lf ct w) (x : Int) : Rst w0 base b u x lf ct (w.setCell ⟨b, 1, none⟩ (.int .i64 x)) := by
  refine ⟨?_, h.2.1, h.2.2.setCell (p := ⟨b, 1, none⟩) h.2.1 _⟩
  rw [heap_setCell_same w b 1 _ 53 (.int .i64 x) h.1]; rfl
theorem Rst.set2 (h : Rst w0 base b u rd lf ct w) (x : Int) : Rst w0 base b u rd x ct (w.setCell ⟨b, 2, none⟩ (.int .i64 x)) := by
  refine ⟨?_, h.2.1, h.2.2.setCell (p := ⟨b, 2, none⟩) h.2.1 _⟩
  rw [heap_setCell_same w b 2 _ 53 (.int .i64 x) h.1]; rfl
theorem Rst.set3 (h : Rst w0 base b u rd lf ct w) (x : Int) : Rst w0 base b u rd lf x (w.setCell ⟨b, 3, none⟩ (.int .i64 x)) := by
  refine ⟨?_, h.2.1, h.2.2.setCell (p := ⟨b, 3, none⟩) h.2.1 _⟩
  rw [heap_setCell_same w b 3 _ 53 (.int .i64 x) h.1]; rfl
theorem Rst.keep (h : Rst w0 base b u rd lf ct w) {w' : World} (hb : Below w.heap.size w w') : Rst w0 base b u rd lf ct w' := by
  have hl : b < w.heap.size := (Array.getElem?_eq_some_iff.1 h.1).1
  exact ⟨(hb.block b hl).trans h.1, h.2.1, h.2.2.trans (hb.mono (Nat.le_of_lt (Nat.lt_of_le_of_lt h.2.1 hl)))⟩
theorem rst_new (w : World) (u : Int) : Rst w w.heap.size w.heap.size u 1 u 0 (w.alloc (.cells #[.int .i64 u, .int .i64 1, .int .i64 u, .int .i64 0, .bool true] 53)) :=
  ⟨heap_new _ _, Nat.le_refl _, (Below.refl _ _).alloc (Nat.le_refl _) _⟩
theorem new_ok (u : Int) (h1 : 1 ≤ u) (h2 : u ≤ 65536) (w : World) :
    Calls Try.prog 18 #[.int .i64 u] w fun e w' => e = .returned (.tuple #[.pointer (some ⟨w.heap.size, 0, none⟩), .int .i64 0]) ∧ Rst w w.heap.size w.heap.size u 1 u 0 w' := by
  have hn := rst_new w u
  go_enter Try.func18, Try.ntmps18
  go_wp2_with (refine wpList_build rfl 53 _ rfl #[.int .i64 u, .int .i64 1, .int .i64 u, .int .i64 0, .bool true] rfl ?_)
  go_ret2
  exact ⟨rfl, hn⟩
theorem new_bad (u : Int) (h : u < 1 ∨ 65536 < u) (w : World) :
    Calls Try.prog 18 #[.int .i64 u] w fun e w' => e = .returned (.tuple #[.pointer none, .int .i64 2]) ∧ w = w' := by
  rcases h with h | h
  · go_enter Try.func18, Try.ntmps18
    go_wp2
    go_ret2
    exact ⟨rfl, rfl⟩
  · have h' : ¬ u < 1 := by omega
    go_enter Try.func18, Try.ntmps18
    go_wp2
    go_ret2
    exact ⟨rfl, rfl⟩
theorem is_ok (h : Rst w0 base b u rd lf ct w) : Calls Try.prog 37 #[.pointer (some ⟨b, 0, none⟩)] w fun e w' => e = .returned (.bool true) ∧ w = w' := by
  have hc := h.cell 4
  simp at hc
  go_enter Try.func37, Try.ntmps37
  go_wp2
  go_ret
  exact ⟨rfl, rfl⟩
theorem round_ok (h : Rst w0 base b u rd lf ct w) : Calls Try.prog 21 #[.pointer (some ⟨b, 0, none⟩)] w fun e w' => e = .returned (.int .i64 rd) ∧ w = w' := by
  have hc := h.cell 1
  simp at hc
  go_enter Try.func21, Try.ntmps21
  go_wp2_with (go_at_call 37; refine (is_ok h).mono ?_; rintro e w' ⟨rfl, rfl⟩)
  go_ret
  exact ⟨rfl, rfl⟩
theorem left_ok (h : Rst w0 base b u rd lf ct w) : Calls Try.prog 22 #[.pointer (some ⟨b, 0, none⟩)] w fun e w' => e = .returned (.int .i64 lf) ∧ w = w' := by
  have hc := h.cell 2
  simp at hc
  go_enter Try.func22, Try.ntmps22
  go_wp2_with (go_at_call 37; refine (is_ok h).mono ?_; rintro e w' ⟨rfl, rfl⟩)
  go_ret
  exact ⟨rfl, rfl⟩
theorem count_ok (h : Rst w0 base b u rd lf ct w) : Calls Try.prog 20 #[.pointer (some ⟨b, 0, none⟩)] w fun e w' => e = .returned (.int .i64 ct) ∧ w = w' := by
  have hc := h.cell 3
  simp at hc
  go_enter Try.func20, Try.ntmps20
  go_wp2_with (go_at_call 37; refine (is_ok h).mono ?_; rintro e w' ⟨rfl, rfl⟩)
  go_ret
  exact ⟨rfl, rfl⟩
theorem conflict_no (h : Rst w0 base b u rd lf ct w) (c0 : 0 ≤ ct) (c1 : ct < 1099511627776) (l0 : 2 ≤ lf) (l1 : lf ≤ 9223372036854775807) :
    Calls Try.prog 19 #[.pointer (some ⟨b, 0, none⟩)] w fun e w' => e = .returned (.tuple #[.bool false, .int .i64 0]) ∧ Rst w0 base b u rd (lf - 1) (ct + 1) w' := by
  have hc3 := h.cell 3
  have hf3 := h.frozen 3
  have h3 := h.set3 (ct + 1)
  have hc2 := h3.cell 2
  have hf2 := h3.frozen 2
  have h2 := h3.set2 (lf - 1)
  have hc2' := h2.cell 2
  simp at hc3 hc2 hc2'
  go_enter Try.func19, Try.ntmps19
  go_wp2_with (go_at_call 37; refine (is_ok h).mono ?_; rintro e w' ⟨rfl, rfl⟩)
  go_ret2
  exact ⟨rfl, h2⟩
theorem at_at (x : Int) (n : Nat) (hx : x = n) (h1 : 1 ≤ n) (h2 : n ≤ 1099511627776) (w : World) :
    Calls Try.prog 13 #[.int .i64 x] w fun e w' => e = .returned (.tuple #[.int .i64 (L n : Int), .int .i64 0]) ∧ w = w' := by
  subst hx; exact at_ok n h1 h2 w
theorem conflict_yes (r : Nat) (h : Rst w0 base b u rd 1 ct w) (hr : rd = r) (r1 : 1 ≤ r) (r2 : r ≤ 1099511627) (c0 : 0 ≤ ct) (c1 : ct < 1099511627776) (u1 : 1 ≤ u) (u2 : u ≤ 65536) :
    Calls Try.prog 19 #[.pointer (some ⟨b, 0, none⟩)] w fun e w' => e = .returned (.tuple #[.bool true, .int .i64 0]) ∧ Rst w0 base b u (rd + 1) (u * (L (r + 1) : Int)) (ct + 1) w' := by
  subst hr
  have hc3 := h.cell 3
  have hf3 := h.frozen 3
  have h3 := h.set3 (ct + 1)
  have hc2 := h3.cell 2
  have hf2 := h3.frozen 2
  have h2 := h3.set2 0
  have hc2' := h2.cell 2
  have hc1 := h2.cell 1
  have hf1 := h2.frozen 1
  have h1 := h2.set1 ((r : Int) + 1)
  have hc1' := h1.cell 1
  have hc0 := h1.cell 0
  have hf2' := h1.frozen 2
  have h0 := h1.set2 (u * (L (r + 1) : Int))
  simp at hc3 hc2 hc2' hc1 hc1' hc0
  have hL := L_pos (r + 1) (by omega)
  have hm : 0 ≤ u * (L (r + 1) : Int) ∧ u * (L (r + 1) : Int) ≤ 65536 * 1099511628 := ⟨Int.mul_nonneg (by omega) (by omega), Int.mul_le_mul (by omega) (by omega) (by omega) (by omega)⟩
  go_enter Try.func19, Try.ntmps19
  go_wp2_with (first | (go_at_call 37; refine (is_ok h).mono ?_; rintro e w' ⟨rfl, rfl⟩) | (go_at_call 13; refine (at_at _ (r + 1) (by omega) (by omega) (by omega) _).mono ?_; rintro e w' ⟨rfl, rfl⟩))
  go_ret2
  exact ⟨rfl, h0⟩
end
end Go.Proofs.Ytanejldglbkacaa
