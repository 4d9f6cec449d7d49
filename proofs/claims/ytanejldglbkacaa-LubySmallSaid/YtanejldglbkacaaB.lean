/- The closures of Sum, Greatest, Times, and 'blocks' over each. -/
import Derived.Test.YtanejldglbkacaaA
import Derived.Test.YtanejldglbkacaaBase
namespace Go.Proofs.Ytanejldglbkacaa
open Go Go.RowKit
set_option linter.unusedVariables false
set_option linter.unusedSimpArgs false
set_option maxHeartbeats 4000000
/-- A variable of its own, in a block of its own, at or above a base; below the base nothing has turned. -/
def Acc (w0 : World) (base b : Nat) (v : Int) (w : World) : Prop := w.heap[b]? = some (.cells #[.int .i64 v] 3 (0, 0)) ∧ base ≤ b ∧ Below base w0 w
theorem Acc.cell {w0 w : World} {base b : Nat} {v : Int} (h : Acc w0 base b v w) : w.cell? ⟨b, 0, none⟩ = some (.int .i64 v) := by
  simp [World.cell?, h.1]
theorem Acc.frozen {w0 w : World} {base b : Nat} {v : Int} (h : Acc w0 base b v w) : w.frozen? ⟨b, 0, none⟩ = false := by
  simp [World.frozen?, h.1]
theorem Acc.set {w0 w : World} {base b : Nat} {v : Int} (h : Acc w0 base b v w) (u : Int) : Acc w0 base b u (w.setCell ⟨b, 0, none⟩ (.int .i64 u)) := by
  refine ⟨?_, h.2.1, h.2.2.setCell (p := ⟨b, 0, none⟩) h.2.1 _⟩
  have := heap_setCell_same w b 0 #[.int .i64 v] 3 (.int .i64 u) h.1
  rw [this]; rfl
/-- The half, halved i times. -/
def hs (k i : Nat) : Int := ((2 ^ k / 2 ^ i : Nat) : Int)
theorem hs_step (k i : Nat) : hs k i / 2 = hs k (i + 1) := by
  unfold hs
  rw [Nat.pow_succ, ← Nat.div_div_eq_div_mul]; omega
theorem hs_zero (k : Nat) : hs k 0 = ((2 ^ k : Nat) : Int) := by unfold hs; simp
theorem hs_pos (k i : Nat) (h : i ≤ k) : 0 < hs k i := by
  unfold hs
  have : 0 < 2 ^ k / 2 ^ i := Nat.div_pos (Nat.pow_le_pow_right (by omega) h) (Nat.pow_pos (by omega))
  omega
theorem hs_end (k : Nat) : hs k (k + 1) = 0 := by
  unfold hs
  rw [Nat.div_eq_of_lt (Nat.pow_lt_pow_right (by omega) (by omega))]; rfl
theorem hs_le (k i : Nat) (h : k ≤ 40) : hs k i ≤ 1099511627776 := by
  unfold hs
  have h1 : 2 ^ k / 2 ^ i ≤ 2 ^ k := Nat.div_le_self _ _
  have h2 : (2 : Nat) ^ k ≤ 2 ^ 40 := Nat.pow_le_pow_right (by omega) h
  omega
theorem p2_le (k : Nat) (h : k ≤ 40) : 1 ≤ 2 ^ k ∧ 2 ^ k ≤ 1099511627776 := by
  have h2 : (2 : Nat) ^ k ≤ 2 ^ 40 := Nat.pow_le_pow_right (by omega) h
  have h3 := pow_pos2 k
  omega
theorem sum1_ok (w0 w : World) (base b k : Nat) (acc size half : Int) (hh : Hid (half = ((2 ^ k : Nat) : Int))) (hk : k ≤ 40) (b1 : 0 ≤ half) (b2 : half ≤ 1099511627776) (a1 : 0 ≤ acc) (a2 : acc ≤ 70368744177664) (h : Acc w0 base b acc w) :
    Calls Try.prog 34 #[.int .i64 size, .int .i64 half, .pointer (some ⟨b, 0, none⟩)] w fun e w' => e = .returned (.tuple #[]) ∧ Acc w0 base b (acc + (k + 1) * half) w' := by
  go_enter Try.func34, Try.ntmps34
  go_wp2
  go_loopw [5] (fun i wr => ∃ j : Nat, j ≤ k + 1 ∧ i = .int .i64 (hs k j) ∧ Acc w0 base b (acc + j * half) wr) (fun i _ => (intOf i).toNat)
  case atStart => exact ⟨0, by omega, by rw [hs_zero, ← hh.out], by simpa using h⟩
  case round =>
    clear h
    obtain ⟨j, hj, rfl, h⟩ := hrel
    by_cases hlt : j ≤ k
    · have e1 := hs_pos k j hlt
      have e2 := hs_le k j hk
      have e3 := Lib.hid (hs_step k j)
      have hc := h.cell
      have hf := h.frozen
      have hm : 0 ≤ j * half ∧ (j : Int) * half ≤ 40 * 1099511627776 := ⟨Int.mul_nonneg (by omega) b1, Int.mul_le_mul (by omega) b2 b1 (by omega)⟩
      have hset := h.set (acc + j * half + half)
      go_wp2
      go_roundw
      case rel => exact ⟨j + 1, by omega, by rw [e3.out], by
        have : acc + ((j + 1 : Nat) : Int) * half = acc + j * half + half := by rw [Int.natCast_add, Int.add_mul]; omega
        rw [this]; exact hset⟩
      case measure => simp [intOf]; omega
    · obtain rfl : j = k + 1 := by omega
      have e1 := hs_end k
      rw [e1]
      go_wp2
      go_end0
      exact ⟨rfl, by simpa using h⟩

theorem great1_ok (w0 w : World) (base b : Nat) (acc size half : Int) (h : Acc w0 base b acc w) :
    Calls Try.prog 35 #[.int .i64 size, .int .i64 half, .pointer (some ⟨b, 0, none⟩)] w fun e w' => e = .returned (.tuple #[]) ∧ Acc w0 base b (max acc half) w' := by
  have hc := h.cell
  have hf := h.frozen
  have hset := h.set (max acc half)
  by_cases hle : acc ≤ half
  · rw [show max acc half = half by omega] at hset ⊢
    go_enter Try.func35, Try.ntmps35
    go_wp2
    all_goals (first | (go_end0; exact ⟨rfl, hset⟩) | ((have he : acc = half := by omega); subst he; go_end0; exact ⟨rfl, hset⟩) | (exfalso; omega))
  · rw [show max acc half = acc by omega] at hset ⊢
    go_enter Try.func35, Try.ntmps35
    go_wp2
    all_goals (first | (go_end0; exact ⟨rfl, hset⟩) | ((have he : acc = half := by omega); subst he; go_end0; exact ⟨rfl, hset⟩) | (exfalso; omega))
/-- What of a block is still to be counted behind j steps. -/
def rem (v : Int) (k j : Nat) : Int := if j ≤ k then (tb v (k - j) (2 ^ j) : Int) else 0
theorem rem_zero (v : Int) (k : Nat) : rem v k 0 = (tb v k 1 : Int) := by unfold rem; rw [if_pos (by omega)]; rfl
theorem rem_end (v : Int) (k : Nat) : rem v k (k + 1) = 0 := by unfold rem; rw [if_neg (by omega)]
theorem hs_pow (k j : Nat) (h : j ≤ k) : hs k j = ((2 ^ (k - j) : Nat) : Int) := by
  unfold hs
  rw [Nat.pow_div h (by omega)]
theorem rem_step (v : Int) (k j : Nat) (h : j ≤ k) : rem v k j = (if hs k j = v then ((2 ^ j : Nat) : Int) else 0) + rem v k (j + 1) := by
  have r0 : rem v k j = (tb v (k - j) (2 ^ j) : Int) := if_pos h
  rw [hs_pow k j h, r0]
  by_cases e : j = k
  · subst e
    have r1 : rem v j (j + 1) = 0 := if_neg (by omega)
    rw [r1, Nat.sub_self]
    show ((if (1 : Int) = v then 2 ^ j else 0 : Nat) : Int) = (if (1 : Int) = v then ((2 ^ j : Nat) : Int) else 0) + 0
    split <;> omega
  · have r1 : rem v k (j + 1) = (tb v (k - (j + 1)) (2 ^ (j + 1)) : Int) := if_pos (by omega)
    obtain ⟨m, hm⟩ : ∃ m, k - j = m + 1 := ⟨k - j - 1, by omega⟩
    rw [r1, hm, show k - (j + 1) = m by omega]
    show (((if ((2 ^ (m + 1) : Nat) : Int) = v then 2 ^ j else 0) + tb v m (2 * 2 ^ j) : Nat) : Int) = _
    rw [Nat.pow_succ 2 j, Nat.mul_comm (2 ^ j) 2]
    split <;> omega
theorem tb_le (v : Int) (k t : Nat) : tb v k t ≤ 2 ^ k * t := by
  induction k generalizing t with
  | zero => simp only [tb]; split <;> omega
  | succ k ih =>
    simp only [tb]
    by_cases e : ((2 ^ (k + 1) : Nat) : Int) = v
    · rw [if_pos e]
      have z : tb v k (2 * t) = 0 := by
        clear ih
        have : ∀ m t, m ≤ k → tb v m t = 0 := by
          intro m
          induction m with
          | zero => intro t hm; simp only [tb]; rw [if_neg]; have : (2:Nat) ≤ 2 ^ (k + 1) := by rw [Nat.pow_succ]; have := pow_pos2 k; omega
                    omega
          | succ m ihm =>
            intro t hm
            simp only [tb]
            have : (2:Nat) ^ (m + 1) < 2 ^ (k + 1) := Nat.pow_lt_pow_right (by omega) (by omega)
            rw [if_neg (by omega), ihm _ (by omega)]
        exact this k _ (Nat.le_refl _)
      rw [z]
      have := pow_pos2 (k + 1)
      have h2 : 1 * t ≤ 2 ^ (k + 1) * t := Nat.mul_le_mul_right _ this
      omega
    · rw [if_neg e]
      have := ih (2 * t)
      rw [Nat.pow_succ, Nat.mul_assoc]
      omega
theorem rem_bd (v : Int) (k j : Nat) (hk : k ≤ 40) : 0 ≤ rem v k j ∧ rem v k j ≤ 1099511627776 := by
  unfold rem
  split
  · rename_i h
    have h1 := tb_le v (k - j) (2 ^ j)
    rw [← Nat.pow_add, show k - j + j = k by omega] at h1
    have := p2_le k hk
    omega
  · omega
def Acc2 (w0 : World) (base bv : Nat) (v : Int) (b : Nat) (c : Int) (w : World) : Prop := Acc w0 base b c w ∧ w.heap[bv]? = some (.cells #[.int .i64 v] 3 (0, 0)) ∧ bv ≠ b
theorem Acc2.set {w0 w : World} {base bv b : Nat} {v c : Int} (h : Acc2 w0 base bv v b c w) (u : Int) : Acc2 w0 base bv v b u (w.setCell ⟨b, 0, none⟩ (.int .i64 u)) :=
  ⟨h.1.set u, by rw [heap_setCell_other _ _ _ _ h.2.2]; exact h.2.1, h.2.2⟩
theorem Acc2.cell {w0 w : World} {base bv b : Nat} {v c : Int} (h : Acc2 w0 base bv v b c w) : w.cell? ⟨bv, 0, none⟩ = some (.int .i64 v) := by
  simp [World.cell?, h.2.1]
theorem times1_ok (w0 w : World) (base bv b k : Nat) (v acc size half : Int) (hh : Hid (half = ((2 ^ k : Nat) : Int))) (hk : k ≤ 40) (b1 : 0 ≤ half) (b2 : half ≤ 1099511627776) (a1 : 0 ≤ acc) (a2 : acc ≤ 1099511627776) (h : Acc2 w0 base bv v b acc w) :
    Calls Try.prog 36 #[.int .i64 size, .int .i64 half, .pointer (some ⟨bv, 0, none⟩), .pointer (some ⟨b, 0, none⟩)] w fun e w' => e = .returned (.tuple #[]) ∧ Acc2 w0 base bv v b (acc + tb v k 1) w' := by
  go_enter Try.func36, Try.ntmps36
  go_wp2
  go_loopw [6, 7] (fun t i wr => ∃ j : Nat, ∃ c : Int, j ≤ k + 1 ∧ i = .int .i64 (hs k j) ∧ t = .int .i64 ((2 ^ j : Nat) : Int) ∧ Hid (c + rem v k j = acc + tb v k 1) ∧ acc ≤ c ∧ c ≤ acc + 1099511627776 ∧ Acc2 w0 base bv v b c wr) (fun _ i _ => (intOf i).toNat)
  case atStart => exact ⟨0, acc, by omega, by rw [hs_zero, ← hh.out], rfl, by rw [rem_zero]; exact Lib.hid rfl, by omega, by omega, h⟩
  case round =>
    clear h
    obtain ⟨j, c, hj, rfl, rfl, hc, c1, c2, h⟩ := hrel
    by_cases hlt : j ≤ k
    · have e1 := hs_pos k j hlt
      have e2 := hs_le k j hk
      have e3 := Lib.hid (hs_step k j)
      have ec := h.1.cell
      have ef := h.1.frozen
      have ev := h.cell
      have hp := p2_le j (by omega)
      have hr := rem_step v k j hlt
      have hb1 := rem_bd v k (j + 1) hk
      have hb2 := rem_bd v k 0 hk
      rw [rem_zero] at hb2
      have hpp : Hid (2 * ((2 ^ j : Nat) : Int) = ((2 ^ (j + 1) : Nat) : Int)) := by show _ = _; rw [Nat.pow_succ]; omega
      have hset := h.set (c + ((2 ^ j : Nat) : Int))
      generalize hq : ((2 ^ j : Nat) : Int) = q at hset hr hpp ⊢
      have q1 : 1 ≤ q ∧ q ≤ 1099511627776 := by omega
      clear hq hp
      by_cases he : hs k j = v
      · rw [if_pos he] at hr
        have hc2 : Hid (c + q + rem v k (j + 1) = acc + tb v k 1) := by show _ = _; have := hc.out; omega
        have hc3 : acc ≤ c + q ∧ c + q ≤ acc + 1099511627776 := by have := hc.out; omega
        clear hr hb1 hb2
        rw [he] at e1 e2 e3 ⊢
        go_wp2
        go_roundw
        case rel => exact ⟨j + 1, c + q, by omega, by rw [e3.out], by rw [hpp.out], hc2, hc3.1, hc3.2, hset⟩
        case measure => simp [intOf]; omega
      · rw [if_neg he] at hr
        have hc2 : Hid (c + rem v k (j + 1) = acc + tb v k 1) := by show _ = _; have := hc.out; omega
        have he2 : (hs k j == v) = false := beq_eq_false_iff_ne.2 he
        clear hr hb1 hb2 hset
        go_wp2
        go_roundw
        case rel => exact ⟨j + 1, c, by omega, by rw [e3.out], by rw [hpp.out], hc2, c1, c2, h⟩
        case measure => simp [intOf]; omega
    · obtain rfl : j = k + 1 := by omega
      have e1 := hs_end k
      rw [e1]
      have hcc : c = acc + tb v k 1 := by have := hc.out; rw [rem_end] at this; omega
      rw [hcc] at h
      generalize ((2 ^ (k + 1) : Nat) : Int) = q
      go_wp2
      go_end0
      exact ⟨rfl, h⟩
end Go.Proofs.Ytanejldglbkacaa
