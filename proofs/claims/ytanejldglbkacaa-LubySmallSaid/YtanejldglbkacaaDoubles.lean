/- LubyDoubles: the walk. -/
import Derived.Test.YtanejldglbkacaaAwake
import Derived.Deep.DeepCutAuto
namespace Go.Proofs.Ytanejldglbkacaa
open Go Go.RowKit
set_option linter.unusedVariables false
set_option linter.unusedSimpArgs false
set_option maxHeartbeats 4000000
theorem tb_pow (j k : Nat) (h : j ≤ k) : ∀ t, tb (((2 ^ j : Nat)) : Int) k t = 2 ^ (k - j) * t := by
  induction k with
  | zero =>
    intro t
    obtain rfl : j = 0 := by omega
    simp [tb]
  | succ k ih =>
    intro t
    simp only [tb]
    by_cases e : j = k + 1
    · subst e
      have z : ∀ m t, m ≤ k → tb (((2 ^ (k + 1) : Nat)) : Int) m t = 0 := by
        intro m
        induction m with
        | zero =>
          intro t hm
          simp only [tb]
          have := pow_pos2 k
          rw [if_neg (by rw [Nat.pow_succ]; omega)]
        | succ m ihm =>
          intro t hm
          simp only [tb]
          have : (2 : Nat) ^ (m + 1) < 2 ^ (k + 1) := Nat.pow_lt_pow_right (by omega) (by omega)
          rw [if_neg (by omega), ihm _ (by omega)]
      rw [if_pos rfl, z k _ (Nat.le_refl _)]
      simp
    · have : (2 : Nat) ^ j < 2 ^ (k + 1) := Nat.pow_lt_pow_right (by omega) (by omega)
      rw [if_neg (by omega), ih (by omega), show k + 1 - j = (k - j) + 1 by omega, Nat.pow_succ, Nat.mul_assoc]
      omega
theorem T_pow (j k : Nat) (h : j ≤ k) : T (((2 ^ j : Nat)) : Int) (2 * 2 ^ k - 1) = 2 ^ (k - j) := by
  rw [T_block, tb_pow j k h, Nat.mul_one]
theorem S_half (e : Nat) : S (2 * 2 ^ e - 1) = 2 * S (2 ^ e - 1) + 2 ^ e := by
  cases e with
  | zero => decide
  | succ k =>
    have h := S_block k
    have h2 := S_block (k + 1)
    have e2 : 2 ^ (k + 1) - 1 = 2 * 2 ^ k - 1 := by rw [Nat.pow_succ]; omega
    rw [e2, h2, h, Nat.pow_succ, Nat.add_mul, Nat.add_mul, Nat.add_mul]
    have e3 : k * (2 ^ k * 2) = 2 * (k * 2 ^ k) := by rw [Nat.mul_comm (2 ^ k) 2, Nat.mul_left_comm]
    omega
theorem at_eq (x : Int) (n : Nat) (v : Int) (hx : x = n) (h1 : 1 ≤ n) (h2 : n ≤ 1099511627776) (hv : Hid ((L n : Int) = v)) (w : World) :
    Calls Try.prog 13 #[.int .i64 x] w fun e w' => e = .returned (.tuple #[.int .i64 v, .int .i64 0]) ∧ w = w' := by
  rw [← hv.out]; exact at_at x n hx h1 h2 w
theorem sum_eq (x : Int) (n : Nat) (v : Int) (hx : x = n) (h2 : n ≤ 1099511627776) (hv : Hid ((S n : Int) = v)) (w : World) :
    Calls Try.prog 14 #[.int .i64 x] w fun e w' => e = .returned (.tuple #[.int .i64 v, .int .i64 0]) ∧ Below w.heap.size w w' := by
  rw [← hv.out]; exact sum_at x n hx h2 w
theorem great_eq (x : Int) (n : Nat) (v : Int) (hx : x = n) (h2 : n ≤ 1099511627776) (hv : Hid ((G n : Int) = v)) (w : World) :
    Calls Try.prog 15 #[.int .i64 x] w fun e w' => e = .returned (.tuple #[.int .i64 v, .int .i64 0]) ∧ Below w.heap.size w w' := by
  rw [← hv.out]; subst hx; exact great_ok n h2 w
theorem times_eq (x y : Int) (n : Nat) (v : Int) (hx : x = n) (h2 : n ≤ 1099511627776) (hv : Hid ((T y n : Int) = v)) (w : World) :
    Calls Try.prog 16 #[.int .i64 x, .int .i64 y] w fun e w' => e = .returned (.tuple #[.int .i64 v, .int .i64 0]) ∧ Below w.heap.size w w' := by
  rw [← hv.out]; subst hx; exact times_ok n y h2 w
theorem ip_bd (j : Nat) (h : j ≤ 39) : 1 ≤ (2 : Int) ^ j ∧ (2 : Int) ^ j ≤ 549755813888 := by
  have h1 := pow_pos2 j
  have h2 : (2 : Nat) ^ j ≤ 2 ^ 39 := Nat.pow_le_pow_right (by omega) h
  have h3 : (2 : Int) ^ j = ((2 ^ j : Nat) : Int) := by simp
  omega
set_option maxRecDepth 100000 in
theorem law_doubles (n k : Int) (a1 : 0 ≤ n) (a2 : n ≤ 18446744073709551615) (n1 : 0 ≤ k) (n2 : k ≤ 255) (w : World) :
    Calls Try.prog 4 #[.int .u64 n, .int .u8 k] w fun e w' => e = .returned (.bool true) ∧ Below w.heap.size w w' := by
  obtain ⟨N, rfl⟩ := Int.eq_ofNat_of_zero_le a1
  obtain ⟨K, rfl⟩ := Int.eq_ofNat_of_zero_le n1
  go_enter Try.func4, Try.ntmps4
  go_upto_region 2 with (fail)
  have he : 1 + (K : Int) % 40 = ((K % 40 : Nat) : Int) + 1 := by omega
  rw [he]
  clear he
  have he2 : K % 40 ≤ 39 := by omega
  generalize K % 40 = e at he2 ⊢
  have hP := ip_bd e he2
  have hP1 := hP.1
  have hP2 := hP.2
  go_upto_region 4 with (fail)
  obtain ⟨h, hh, hhi⟩ : ∃ h : Nat, Hid (h = 2 ^ e) ∧ (2 : Int) ^ e = (h : Int) := ⟨2 ^ e, rfl, by simp⟩
  rw [hhi] at hP1 hP2 ⊢
  clear hP hhi
  have fL : Hid ((L (2 * h - 1) : Int) = h) := by show _ = _; rw [hh.out, L_block]
  have fS : Hid ((S (2 * h - 1) : Int) = 2 * (S (h - 1) : Int) + h) := by show _ = _; have := S_half e; rw [← hh.out] at this; omega
  have fG : Hid ((G (2 * h - 1) : Int) = h) := by show _ = _; rw [hh.out, G_block]
  have fE : (2 * (S (h - 1) : Int) + h == ((e : Int) + 1) * h) = true := by
    have h1 := S_block e
    rw [← hh.out] at h1
    have h2 := fS.out
    rw [h1, Int.natCast_mul, Int.natCast_add] at h2
    exact beq_iff_eq.2 h2.symm
  have fE2 : (2 * (S (h - 1) : Int) + h != ((e : Int) + 1) * h) = false := by rw [bne, fE]; rfl
  have fB : 0 ≤ ((e : Int) + 1) * h ∧ ((e : Int) + 1) * h ≤ 40 * 549755813888 := ⟨Int.mul_nonneg (by omega) (by omega), Int.mul_le_mul (by omega) (by omega) (by omega) (by omega)⟩
  have fT := S_top (h - 1) (by omega)
  have hB := Below.refl w.heap.size w
  go_wp2_with fail
  go_at_call 13
  refine (at_eq _ (2 * h - 1) _ (by omega) (by omega) (by omega) fL _).mono ?_
  rintro e' w' ⟨rfl, rfl⟩
  go_wp2_with fail
  go_at_call 14
  refine (sum_eq _ (2 * h - 1) _ (by omega) (by omega) fS _).mono ?_
  rintro e' w3 ⟨rfl, hb3⟩
  replace hB := hB.trans (hb3.mono hB.size)
  clear hb3
  go_wp2_with fail
  go_at_call 14
  refine (sum_at _ (h - 1) (by omega) (by omega) _).mono ?_
  rintro e' w3 ⟨rfl, hb3⟩
  replace hB := hB.trans (hb3.mono hB.size)
  clear hb3
  go_wp2_with fail
  go_at_call 15
  refine (great_eq _ (2 * h - 1) _ (by omega) (by omega) fG _).mono ?_
  rintro e' w3 ⟨rfl, hb3⟩
  replace hB := hB.trans (hb3.mono hB.size)
  clear hb3
  by_cases hz : h = 1
  · have hz1 : (h : Int) ≤ 1 := by omega
    have hz3 : decide ((1 : Int) < (h : Int)) = false := by simp; omega
    clear hz
    go_wp2_with fail
    go_loopw [147] (fun i wr => ∃ j : Nat, j ≤ e + 1 ∧ i = .int .i64 j ∧ Below w.heap.size w wr) (fun i _ => e + 1 - (intOf i).toNat)
    case atStart => exact ⟨0, by omega, rfl, hB⟩
    case round =>
      clear hB
      obtain ⟨j, hj, rfl, hB⟩ := hrel
      by_cases hlt : j < e + 1
      · have q1 := ip_bd j (by omega)
        have q2 := ip_bd (e - j) (by omega)
        have q3 := q1.1
        have q4 := q1.2
        have q5 := q2.1
        have q6 := q2.2
        have hT : Hid ((T ((2 : Int) ^ j) (2 * h - 1) : Int) = (2 : Int) ^ (e - j)) := by
          have e1 : (2 : Int) ^ j = ((2 ^ j : Nat) : Int) := by simp
          show _ = _
          rw [e1, hh.out, T_pow j e (by omega)]; simp
        have hje : j ≤ e := by omega
        have hej : Hid (((e : Int) - (j : Int)).toNat = e - j) := by show _ = _; omega
        go_wp2_with (go_at_call 16; refine (times_eq _ _ (2 * h - 1) _ (by omega) (by omega) hT _).mono ?_; rintro e' w3 ⟨rfl, hb3⟩)
        go_roundw
        case rel => exact ⟨j + 1, by omega, by go_num, hB.trans (hb3.mono hB.size)⟩
        case measure => simp [intOf]; omega
      · obtain rfl : j = e + 1 := by omega
        clear hlt hj
        go_wp2_with (go_at_call 12; refine (awake_ok _).mono ?_; rintro e' w4 ⟨rfl, hb3⟩)
        go_ret
        exact ⟨rfl, hB.trans (hb3.mono hB.size)⟩
  · have hz2 : 1 < (h : Int) := by omega
    have hm1 : 0 ≤ (N : Int) % ((h : Int) - 1) := Int.emod_nonneg _ (by omega)
    have hm2 : (N : Int) % ((h : Int) - 1) ≤ (h : Int) - 2 := by have := Int.emod_lt_of_pos (N : Int) (show 0 < (h : Int) - 1 by omega); omega
    go_upto_region 12 with (fail)
    obtain ⟨J, hJ, hJ1, hJ2⟩ : ∃ J : Nat, 1 + (N : Int) % ((h : Int) - 1) = (J : Int) ∧ 1 ≤ J ∧ J ≤ h - 1 := ⟨(1 + (N : Int) % ((h : Int) - 1)).toNat, by omega, by omega, by omega⟩
    rw [hJ]
    clear hJ
    generalize (N : Int) % ((h : Int) - 1) = nm at hm1 hm2 ⊢
    obtain ⟨d, hd⟩ : ∃ d, e = d + 1 := ⟨e - 1, by
      have : e ≠ 0 := fun h0 => hz (by rw [hh.out, h0])
      omega⟩
    have hd2 : h - 1 = 2 * 2 ^ d - 1 := by rw [hh.out, hd, Nat.pow_succ]; omega
    have gL : Hid ((L (h - 1 + J) : Int) = (L J : Int)) := by show _ = _; rw [hd2, L_again d J (by omega) (by omega)]
    have gS : Hid ((S (h - 1 + J) : Int) = (S (h - 1) : Int) + (S J : Int)) := by show _ = _; rw [hd2, S_again d J (by omega)]; omega
    have gB := S_top J (by omega)
    clear hd hd2 hz
    go_wp2_with fail
    go_at_call 13
    refine (at_ok J (by omega) (by omega) _).mono ?_
    rintro e' w' ⟨rfl, rfl⟩
    go_wp2_with fail
    go_at_call 13
    refine (at_eq _ (h - 1 + J) _ (by omega) (by omega) (by omega) gL _).mono ?_
    rintro e' w' ⟨rfl, rfl⟩
    go_wp2_with fail
    go_at_call 14
    refine (sum_ok J (by omega) _).mono ?_
    rintro e' w3 ⟨rfl, hb3⟩
    replace hB := hB.trans (hb3.mono hB.size)
    clear hb3
    go_wp2_with fail
    go_at_call 14
    refine (sum_eq _ (h - 1 + J) _ (by omega) (by omega) gS _).mono ?_
    rintro e' w3 ⟨rfl, hb3⟩
    replace hB := hB.trans (hb3.mono hB.size)
    clear hb3
    go_wp2_with fail
    go_loopw [147] (fun i wr => ∃ j : Nat, j ≤ e + 1 ∧ i = .int .i64 j ∧ Below w.heap.size w wr) (fun i _ => e + 1 - (intOf i).toNat)
    case atStart => exact ⟨0, by omega, rfl, hB⟩
    case round =>
      clear hB
      obtain ⟨j, hj, rfl, hB⟩ := hrel
      by_cases hlt : j < e + 1
      · have q1 := ip_bd j (by omega)
        have q2 := ip_bd (e - j) (by omega)
        have q3 := q1.1
        have q4 := q1.2
        have q5 := q2.1
        have q6 := q2.2
        have hT : Hid ((T ((2 : Int) ^ j) (2 * h - 1) : Int) = (2 : Int) ^ (e - j)) := by
          have e1 : (2 : Int) ^ j = ((2 ^ j : Nat) : Int) := by simp
          show _ = _
          rw [e1, hh.out, T_pow j e (by omega)]; simp
        have hje : j ≤ e := by omega
        have hej : Hid (((e : Int) - (j : Int)).toNat = e - j) := by show _ = _; omega
        go_wp2_with (go_at_call 16; refine (times_eq _ _ (2 * h - 1) _ (by omega) (by omega) hT _).mono ?_; rintro e' w3 ⟨rfl, hb3⟩)
        go_roundw
        case rel => exact ⟨j + 1, by omega, by go_num, hB.trans (hb3.mono hB.size)⟩
        case measure => simp [intOf]; omega
      · obtain rfl : j = e + 1 := by omega
        clear hlt hj
        go_wp2_with (go_at_call 12; refine (awake_ok _).mono ?_; rintro e' w4 ⟨rfl, hb3⟩)
        go_ret
        exact ⟨rfl, hB.trans (hb3.mono hB.size)⟩
end Go.Proofs.Ytanejldglbkacaa
