/- LubySums: the walk. -/
import Derived.Test.YtanejldglbkacaaDoubles
import Derived.Deep.DeepCutAuto
namespace Go.Proofs.Ytanejldglbkacaa
open Go Go.RowKit
set_option linter.unusedVariables false
set_option linter.unusedSimpArgs false
set_option maxHeartbeats 4000000
theorem i64_and_nat (a b : Nat) (ha : a < 9223372036854775808) (hb : b < 9223372036854775808) : bits .and .i64 (a : Int) (b : Int) = ((a &&& b : Nat) : Int) := by
  have key : (BitVec.ofInt 64 (a : Int) &&& BitVec.ofInt 64 (b : Int)).toNat = a &&& b := by
    rw [BitVec.toNat_and, BitVec.toNat_ofInt, BitVec.toNat_ofInt]
    congr 1 <;> omega
  show IntKind.i64.wrap ((BitVec.ofInt 64 (a : Int) &&& BitVec.ofInt 64 (b : Int)).toNat : Nat) = _
  have hle : a &&& b ≤ a := Nat.and_le_left
  rw [key, IntKind.wrap_i64]
  omega
theorem pow_and (k : Nat) (h : k ≤ 60) : bits .and .i64 (((2 ^ k : Nat)) : Int) (((2 ^ k : Nat) : Int) - 1) = 0 := by
  have h1 := pow_pos2 k
  have h2 : (2 : Nat) ^ k ≤ 2 ^ 60 := Nat.pow_le_pow_right (by omega) h
  have e : (((2 ^ k : Nat)) : Int) - 1 = ((2 ^ k - 1 : Nat) : Int) := by omega
  rw [e, i64_and_nat _ _ (by omega) (by omega), Nat.and_two_pow_sub_one_eq_mod, Nat.mod_self]; rfl
theorem L_and (n : Nat) (h : 1 ≤ n) (h2 : n ≤ 1099511627776) : bits .and .i64 (L n : Int) ((L n : Int) - 1) = 0 := by
  obtain ⟨k, e, hk⟩ := L_pow n h
  have h60 : k ≤ 60 := by
    have h9 : (2 : Nat) ^ k ≤ 2 ^ 60 := by omega
    exact (Nat.pow_le_pow_iff_right (by omega)).1 h9
  rw [e]; exact pow_and k h60
theorem T_some (v : Int) (n : Nat) (h : T v n ≠ 0) : ∃ j, 1 ≤ j ∧ j ≤ n ∧ (L j : Int) = v ∧ v ≤ (G n : Int) := by
  induction n with
  | zero => exact absurd rfl h
  | succ n ih =>
    by_cases e : (L (n + 1) : Int) = v
    · exact ⟨n + 1, by omega, by omega, e, by simp only [G]; omega⟩
    · have : T v n ≠ 0 := by
        intro h0
        apply h
        simp only [T]
        rw [if_neg e, h0]
      obtain ⟨j, h1, h2, h3, h4⟩ := ih this
      exact ⟨j, h1, by omega, h3, by simp only [G]; omega⟩
theorem within_at (x : Int) (t : Nat) (hx : x = t) (h : t ≤ 1099511627776) (w : World) :
    Calls Try.prog 17 #[.int .i64 x] w fun e w' => ∃ m : Nat, m < 1099511627776 ∧ isW t m ∧ e = .returned (.tuple #[.int .i64 m, .int .i64 0]) ∧ Below w.heap.size w w' := by
  subst hx; exact within_ok t h w
set_option maxRecDepth 100000 in
theorem law_sums (n v : Int) (a1 : 0 ≤ n) (a2 : n ≤ 18446744073709551615) (n1 : -9223372036854775808 ≤ v) (n2 : v ≤ 9223372036854775807) (w : World) :
    Calls Try.prog 5 #[.int .u64 n, .int .i64 v] w fun e w' => e = .returned (.bool true) ∧ Below w.heap.size w w' := by
  go_enter Try.func5, Try.ntmps5
  have hm1 : 0 ≤ n % 1099511627776 := Int.emod_nonneg _ (by omega)
  have hm2 : n % 1099511627776 ≤ 1099511627775 := by omega
  go_upto_region 2 with (fail)
  obtain ⟨m, hm, hmb⟩ : ∃ m : Nat, n % 1099511627776 = (m : Int) ∧ m ≤ 1099511627775 := ⟨(n % 1099511627776).toNat, by omega, by omega⟩
  rw [show 1 + n % 1099511627776 = (m : Int) + 1 by omega]
  generalize n % 1099511627776 = nm at hm1 hm2 ⊢
  have bL := L_pos (m + 1) (by omega)
  have bS := S_top m (by omega)
  have bT := T_le v m
  have bG := G_le m
  have hA := L_and (m + 1) (by omega) (by omega)
  have hS : Hid ((S (m + 1) : Int) = (S m : Int) + (L (m + 1) : Int)) := by show _ = _; have : S (m + 1) = S m + L (m + 1) := rfl; omega
  have hG : G (m + 1) = max (G m) (L (m + 1)) := rfl
  have hT : T v (m + 1) = T v m + (if (L (m + 1) : Int) = v then 1 else 0) := rfl
  have hsome := T_some v (m + 1)
  have hB := Below.refl w.heap.size w
  go_wp2_with fail
  go_at_call 13
  refine (at_at _ (m + 1) (by omega) (by omega) (by omega) _).mono ?_
  rintro e w' ⟨rfl, rfl⟩
  go_wp2_with fail
  go_at_call 14
  refine (sum_at _ m (by omega) (by omega) _).mono ?_
  rintro e w3 ⟨rfl, hb3⟩
  replace hB := hB.trans (hb3.mono hB.size)
  clear hb3
  go_wp2_with fail
  go_at_call 14
  refine (sum_eq _ (m + 1) _ (by omega) (by omega) hS _).mono ?_
  rintro e w3 ⟨rfl, hb3⟩
  replace hB := hB.trans (hb3.mono hB.size)
  clear hb3
  by_cases g : G m < L (m + 1)
  · have hg : Hid ((G (m + 1) : Int) = (L (m + 1) : Int)) := by show _ = _; rw [hG, Nat.max_eq_right (Nat.le_of_lt g)]
    have hg2 : (G m : Int) < (L (m + 1) : Int) := by omega
    by_cases c : (L (m + 1) : Int) = v
    · have ht : Hid ((T v (m + 1) : Int) = (T v m : Int) + 1) := by show _ = _; rw [hT, if_pos c]; omega
      have hvb : (v == v) = true := beq_self_eq_true v
      have hgv : v ≤ (L (m + 1) : Int) := by omega
      have hcb : ((L (m + 1) : Int) == v) = true := beq_iff_eq.2 c
      have hv1 : 1 ≤ v := by omega
      have hA2 : bits .and .i64 v (v - 1) = 0 := by rw [← c]; exact hA
      have hz : ((T v m : Int) + 1 == 0) = false := beq_eq_false_iff_ne.2 (by omega)
      clear hT hsome hG c hvb
      go_wp2_with fail
      go_at_call 15
      refine (great_eq _ (m + 1) _ (by omega) (by omega) hg _).mono ?_
      rintro e w3 ⟨rfl, hb3⟩
      replace hB := hB.trans (hb3.mono hB.size)
      clear hb3
      go_wp2_with fail
      go_at_call 15
      refine (great_eq _ m _ (by omega) (by omega) (Lib.hid rfl) _).mono ?_
      rintro e w3 ⟨rfl, hb3⟩
      replace hB := hB.trans (hb3.mono hB.size)
      clear hb3
      go_wp2_with fail
      go_at_call 17
      refine (within_at _ (m + 1) (by omega) (by omega) _).mono ?_
      rintro e w3 ⟨W, hW, hW2, rfl, hb3⟩
      replace hB := hB.trans (hb3.mono hB.size)
      clear hb3
      have hW3 : (S W : Int) ≤ (m : Int) + 1 := by have := hW2.1; omega
      have hW4 : (m : Int) + 1 < (S (W + 1) : Int) := by have := hW2.2; omega
      have bW := S_top (W + 1) (by omega)
      clear hW2
      go_wp2_with fail
      all_goals first | (exfalso; omega) | (
        go_at_call 14
        refine (sum_at _ W (by omega) (by omega) _).mono ?_
        rintro e w3 ⟨rfl, hb3⟩
        replace hB := hB.trans (hb3.mono hB.size)
        clear hb3
        go_wp2_with fail
        go_at_call 14
        refine (sum_at _ (W + 1) (by omega) (by omega) _).mono ?_
        rintro e w3 ⟨rfl, hb3⟩
        replace hB := hB.trans (hb3.mono hB.size)
        clear hb3
        go_wp2_with fail
        go_at_call 16
        refine (times_eq _ _ (m + 1) _ (by omega) (by omega) ht _).mono ?_
        rintro e w3 ⟨rfl, hb3⟩
        replace hB := hB.trans (hb3.mono hB.size)
        clear hb3
        go_wp2_with fail
        go_at_call 16
        refine (times_eq _ _ m _ (by omega) (by omega) (Lib.hid rfl) _).mono ?_
        rintro e w3 ⟨rfl, hb3⟩
        replace hB := hB.trans (hb3.mono hB.size)
        clear hb3
        go_wp2_with (go_at_call 12; refine (awake_ok _).mono ?_; rintro e w4 ⟨rfl, hb3⟩)
        go_ret
        exact ⟨rfl, hB.trans (hb3.mono hB.size)⟩)
    · have ht : Hid ((T v (m + 1) : Int) = (T v m : Int)) := by show _ = _; rw [hT, if_neg c]; omega
      have hcb : ((L (m + 1) : Int) == v) = false := beq_eq_false_iff_ne.2 c
      by_cases z : T v m = 0
      · have hz : (T v m : Int) = 0 := by omega
        clear hT hsome hG c
        rw [hz] at ht
        go_wp2_with fail
        go_at_call 15
        refine (great_eq _ (m + 1) _ (by omega) (by omega) hg _).mono ?_
        rintro e w3 ⟨rfl, hb3⟩
        replace hB := hB.trans (hb3.mono hB.size)
        clear hb3
        go_wp2_with fail
        go_at_call 15
        refine (great_eq _ m _ (by omega) (by omega) (Lib.hid rfl) _).mono ?_
        rintro e w3 ⟨rfl, hb3⟩
        replace hB := hB.trans (hb3.mono hB.size)
        clear hb3
        go_wp2_with fail
        go_at_call 17
        refine (within_at _ (m + 1) (by omega) (by omega) _).mono ?_
        rintro e w3 ⟨W, hW, hW2, rfl, hb3⟩
        replace hB := hB.trans (hb3.mono hB.size)
        clear hb3
        have hW3 : (S W : Int) ≤ (m : Int) + 1 := by have := hW2.1; omega
        have hW4 : (m : Int) + 1 < (S (W + 1) : Int) := by have := hW2.2; omega
        have bW := S_top (W + 1) (by omega)
        clear hW2
        go_wp2_with fail
        all_goals first | (exfalso; omega) | (
          go_at_call 14
          refine (sum_at _ W (by omega) (by omega) _).mono ?_
          rintro e w3 ⟨rfl, hb3⟩
          replace hB := hB.trans (hb3.mono hB.size)
          clear hb3
          go_wp2_with fail
          go_at_call 14
          refine (sum_at _ (W + 1) (by omega) (by omega) _).mono ?_
          rintro e w3 ⟨rfl, hb3⟩
          replace hB := hB.trans (hb3.mono hB.size)
          clear hb3
          go_wp2_with fail
          go_at_call 16
          refine (times_eq _ _ (m + 1) _ (by omega) (by omega) ht _).mono ?_
          rintro e w3 ⟨rfl, hb3⟩
          replace hB := hB.trans (hb3.mono hB.size)
          clear hb3
          go_wp2_with fail
          go_at_call 16
          refine (times_eq _ _ m _ (by omega) (by omega) (Lib.hid hz) _).mono ?_
          rintro e w3 ⟨rfl, hb3⟩
          replace hB := hB.trans (hb3.mono hB.size)
          clear hb3
          go_wp2_with (go_at_call 12; refine (awake_ok _).mono ?_; rintro e w4 ⟨rfl, hb3⟩)
          go_ret
          exact ⟨rfl, hB.trans (hb3.mono hB.size)⟩)
      · obtain ⟨j, j1, j2, j3, j4⟩ := hsome (by rw [hT]; omega)
        have hAj := L_and j j1 (by omega)
        have bj := L_pos j j1
        have hv1 : 1 ≤ v := by omega
        have hv2 : v ≤ (L (m + 1) : Int) := by omega
        rw [j3] at hAj
        have hz : ((T v m : Int) == 0) = false := beq_eq_false_iff_ne.2 (by omega)
        clear hT hsome hG c j1 j2 j3 j4 bj
        go_wp2_with fail
        go_at_call 15
        refine (great_eq _ (m + 1) _ (by omega) (by omega) hg _).mono ?_
        rintro e w3 ⟨rfl, hb3⟩
        replace hB := hB.trans (hb3.mono hB.size)
        clear hb3
        go_wp2_with fail
        go_at_call 15
        refine (great_eq _ m _ (by omega) (by omega) (Lib.hid rfl) _).mono ?_
        rintro e w3 ⟨rfl, hb3⟩
        replace hB := hB.trans (hb3.mono hB.size)
        clear hb3
        go_wp2_with fail
        go_at_call 17
        refine (within_at _ (m + 1) (by omega) (by omega) _).mono ?_
        rintro e w3 ⟨W, hW, hW2, rfl, hb3⟩
        replace hB := hB.trans (hb3.mono hB.size)
        clear hb3
        have hW3 : (S W : Int) ≤ (m : Int) + 1 := by have := hW2.1; omega
        have hW4 : (m : Int) + 1 < (S (W + 1) : Int) := by have := hW2.2; omega
        have bW := S_top (W + 1) (by omega)
        clear hW2
        go_wp2_with fail
        all_goals first | (exfalso; omega) | (
          go_at_call 14
          refine (sum_at _ W (by omega) (by omega) _).mono ?_
          rintro e w3 ⟨rfl, hb3⟩
          replace hB := hB.trans (hb3.mono hB.size)
          clear hb3
          go_wp2_with fail
          go_at_call 14
          refine (sum_at _ (W + 1) (by omega) (by omega) _).mono ?_
          rintro e w3 ⟨rfl, hb3⟩
          replace hB := hB.trans (hb3.mono hB.size)
          clear hb3
          go_wp2_with fail
          go_at_call 16
          refine (times_eq _ _ (m + 1) _ (by omega) (by omega) ht _).mono ?_
          rintro e w3 ⟨rfl, hb3⟩
          replace hB := hB.trans (hb3.mono hB.size)
          clear hb3
          go_wp2_with fail
          go_at_call 16
          refine (times_eq _ _ m _ (by omega) (by omega) (Lib.hid rfl) _).mono ?_
          rintro e w3 ⟨rfl, hb3⟩
          replace hB := hB.trans (hb3.mono hB.size)
          clear hb3
          go_wp2_with (go_at_call 12; refine (awake_ok _).mono ?_; rintro e w4 ⟨rfl, hb3⟩)
          go_ret
          exact ⟨rfl, hB.trans (hb3.mono hB.size)⟩)
  · have hg : Hid ((G (m + 1) : Int) = (G m : Int)) := by show _ = _; rw [hG, Nat.max_eq_left (by omega)]
    have hg2 : (L (m + 1) : Int) ≤ (G m : Int) := by omega
    by_cases c : (L (m + 1) : Int) = v
    · have ht : Hid ((T v (m + 1) : Int) = (T v m : Int) + 1) := by show _ = _; rw [hT, if_pos c]; omega
      have hvb : (v == v) = true := beq_self_eq_true v
      have hgv : v ≤ (G m : Int) := by omega
      have hcb : ((L (m + 1) : Int) == v) = true := beq_iff_eq.2 c
      have hv1 : 1 ≤ v := by omega
      have hA2 : bits .and .i64 v (v - 1) = 0 := by rw [← c]; exact hA
      have hz : ((T v m : Int) + 1 == 0) = false := beq_eq_false_iff_ne.2 (by omega)
      clear hT hsome hG c hvb
      go_wp2_with fail
      go_at_call 15
      refine (great_eq _ (m + 1) _ (by omega) (by omega) hg _).mono ?_
      rintro e w3 ⟨rfl, hb3⟩
      replace hB := hB.trans (hb3.mono hB.size)
      clear hb3
      go_wp2_with fail
      go_at_call 15
      refine (great_eq _ m _ (by omega) (by omega) (Lib.hid rfl) _).mono ?_
      rintro e w3 ⟨rfl, hb3⟩
      replace hB := hB.trans (hb3.mono hB.size)
      clear hb3
      go_wp2_with fail
      go_at_call 17
      refine (within_at _ (m + 1) (by omega) (by omega) _).mono ?_
      rintro e w3 ⟨W, hW, hW2, rfl, hb3⟩
      replace hB := hB.trans (hb3.mono hB.size)
      clear hb3
      have hW3 : (S W : Int) ≤ (m : Int) + 1 := by have := hW2.1; omega
      have hW4 : (m : Int) + 1 < (S (W + 1) : Int) := by have := hW2.2; omega
      have bW := S_top (W + 1) (by omega)
      clear hW2
      go_wp2_with fail
      all_goals first | (exfalso; omega) | (
        go_at_call 14
        refine (sum_at _ W (by omega) (by omega) _).mono ?_
        rintro e w3 ⟨rfl, hb3⟩
        replace hB := hB.trans (hb3.mono hB.size)
        clear hb3
        go_wp2_with fail
        go_at_call 14
        refine (sum_at _ (W + 1) (by omega) (by omega) _).mono ?_
        rintro e w3 ⟨rfl, hb3⟩
        replace hB := hB.trans (hb3.mono hB.size)
        clear hb3
        go_wp2_with fail
        go_at_call 16
        refine (times_eq _ _ (m + 1) _ (by omega) (by omega) ht _).mono ?_
        rintro e w3 ⟨rfl, hb3⟩
        replace hB := hB.trans (hb3.mono hB.size)
        clear hb3
        go_wp2_with fail
        go_at_call 16
        refine (times_eq _ _ m _ (by omega) (by omega) (Lib.hid rfl) _).mono ?_
        rintro e w3 ⟨rfl, hb3⟩
        replace hB := hB.trans (hb3.mono hB.size)
        clear hb3
        go_wp2_with (go_at_call 12; refine (awake_ok _).mono ?_; rintro e w4 ⟨rfl, hb3⟩)
        go_ret
        exact ⟨rfl, hB.trans (hb3.mono hB.size)⟩)
    · have ht : Hid ((T v (m + 1) : Int) = (T v m : Int)) := by show _ = _; rw [hT, if_neg c]; omega
      have hcb : ((L (m + 1) : Int) == v) = false := beq_eq_false_iff_ne.2 c
      by_cases z : T v m = 0
      · have hz : (T v m : Int) = 0 := by omega
        clear hT hsome hG c
        rw [hz] at ht
        go_wp2_with fail
        go_at_call 15
        refine (great_eq _ (m + 1) _ (by omega) (by omega) hg _).mono ?_
        rintro e w3 ⟨rfl, hb3⟩
        replace hB := hB.trans (hb3.mono hB.size)
        clear hb3
        go_wp2_with fail
        go_at_call 15
        refine (great_eq _ m _ (by omega) (by omega) (Lib.hid rfl) _).mono ?_
        rintro e w3 ⟨rfl, hb3⟩
        replace hB := hB.trans (hb3.mono hB.size)
        clear hb3
        go_wp2_with fail
        go_at_call 17
        refine (within_at _ (m + 1) (by omega) (by omega) _).mono ?_
        rintro e w3 ⟨W, hW, hW2, rfl, hb3⟩
        replace hB := hB.trans (hb3.mono hB.size)
        clear hb3
        have hW3 : (S W : Int) ≤ (m : Int) + 1 := by have := hW2.1; omega
        have hW4 : (m : Int) + 1 < (S (W + 1) : Int) := by have := hW2.2; omega
        have bW := S_top (W + 1) (by omega)
        clear hW2
        go_wp2_with fail
        all_goals first | (exfalso; omega) | (
          go_at_call 14
          refine (sum_at _ W (by omega) (by omega) _).mono ?_
          rintro e w3 ⟨rfl, hb3⟩
          replace hB := hB.trans (hb3.mono hB.size)
          clear hb3
          go_wp2_with fail
          go_at_call 14
          refine (sum_at _ (W + 1) (by omega) (by omega) _).mono ?_
          rintro e w3 ⟨rfl, hb3⟩
          replace hB := hB.trans (hb3.mono hB.size)
          clear hb3
          go_wp2_with fail
          go_at_call 16
          refine (times_eq _ _ (m + 1) _ (by omega) (by omega) ht _).mono ?_
          rintro e w3 ⟨rfl, hb3⟩
          replace hB := hB.trans (hb3.mono hB.size)
          clear hb3
          go_wp2_with fail
          go_at_call 16
          refine (times_eq _ _ m _ (by omega) (by omega) (Lib.hid hz) _).mono ?_
          rintro e w3 ⟨rfl, hb3⟩
          replace hB := hB.trans (hb3.mono hB.size)
          clear hb3
          go_wp2_with (go_at_call 12; refine (awake_ok _).mono ?_; rintro e w4 ⟨rfl, hb3⟩)
          go_ret
          exact ⟨rfl, hB.trans (hb3.mono hB.size)⟩)
      · obtain ⟨j, j1, j2, j3, j4⟩ := hsome (by rw [hT]; omega)
        have hAj := L_and j j1 (by omega)
        have bj := L_pos j j1
        have hv1 : 1 ≤ v := by omega
        have hv2 : v ≤ (G m : Int) := by omega
        rw [j3] at hAj
        have hz : ((T v m : Int) == 0) = false := beq_eq_false_iff_ne.2 (by omega)
        clear hT hsome hG c j1 j2 j3 j4 bj
        go_wp2_with fail
        go_at_call 15
        refine (great_eq _ (m + 1) _ (by omega) (by omega) hg _).mono ?_
        rintro e w3 ⟨rfl, hb3⟩
        replace hB := hB.trans (hb3.mono hB.size)
        clear hb3
        go_wp2_with fail
        go_at_call 15
        refine (great_eq _ m _ (by omega) (by omega) (Lib.hid rfl) _).mono ?_
        rintro e w3 ⟨rfl, hb3⟩
        replace hB := hB.trans (hb3.mono hB.size)
        clear hb3
        go_wp2_with fail
        go_at_call 17
        refine (within_at _ (m + 1) (by omega) (by omega) _).mono ?_
        rintro e w3 ⟨W, hW, hW2, rfl, hb3⟩
        replace hB := hB.trans (hb3.mono hB.size)
        clear hb3
        have hW3 : (S W : Int) ≤ (m : Int) + 1 := by have := hW2.1; omega
        have hW4 : (m : Int) + 1 < (S (W + 1) : Int) := by have := hW2.2; omega
        have bW := S_top (W + 1) (by omega)
        clear hW2
        go_wp2_with fail
        all_goals first | (exfalso; omega) | (
          go_at_call 14
          refine (sum_at _ W (by omega) (by omega) _).mono ?_
          rintro e w3 ⟨rfl, hb3⟩
          replace hB := hB.trans (hb3.mono hB.size)
          clear hb3
          go_wp2_with fail
          go_at_call 14
          refine (sum_at _ (W + 1) (by omega) (by omega) _).mono ?_
          rintro e w3 ⟨rfl, hb3⟩
          replace hB := hB.trans (hb3.mono hB.size)
          clear hb3
          go_wp2_with fail
          go_at_call 16
          refine (times_eq _ _ (m + 1) _ (by omega) (by omega) ht _).mono ?_
          rintro e w3 ⟨rfl, hb3⟩
          replace hB := hB.trans (hb3.mono hB.size)
          clear hb3
          go_wp2_with fail
          go_at_call 16
          refine (times_eq _ _ m _ (by omega) (by omega) (Lib.hid rfl) _).mono ?_
          rintro e w3 ⟨rfl, hb3⟩
          replace hB := hB.trans (hb3.mono hB.size)
          clear hb3
          go_wp2_with (go_at_call 12; refine (awake_ok _).mono ?_; rintro e w4 ⟨rfl, hb3⟩)
          go_ret
          exact ⟨rfl, hB.trans (hb3.mono hB.size)⟩)
end Go.Proofs.Ytanejldglbkacaa
