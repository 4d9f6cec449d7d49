/- tells: the walk; LubyTells. -/
import Derived.Test.YtanejldglbkacaaRefLists
import Derived.Test.YtanejldglbkacaaWrong
namespace Go.Proofs.Ytanejldglbkacaa
open Go Go.RowKit
set_option linter.unusedVariables false
set_option linter.unusedSimpArgs false
set_option maxHeartbeats 8000000
theorem rat_bad (n : Int) (h : n < 1 ∨ 1099511627776 < n) (w : World) : Calls Try.prog 29 #[.int .i64 n] w fun e w' => e = .returned (.int .i64 0) ∧ w = w' := by
  rcases h with h | h
  · go_enter Try.func29, Try.ntmps29
    go_wp2
    go_ret
    exact ⟨rfl, rfl⟩
  · have h' : ¬ n < 1 := by omega
    go_enter Try.func29, Try.ntmps29
    go_wp2
    go_ret
    exact ⟨rfl, rfl⟩
set_option maxRecDepth 100000 in
theorem tells_bad (n v : Int) (h : n < 0 ∨ 1099511627776 < n) (w : World) :
    Calls Try.prog 26 #[.int .i64 n, .int .i64 v] w fun e w' => e = .returned (.bool true) ∧ Below w.heap.size w w' := by
  have h2 : Hid (n < 1 ∨ 1099511627776 < n) := by show _ ∨ _; omega
  have h3 : Hid (n < 0 ∨ 4096 < n) := by show _ ∨ _; omega
  have h4 : Hid (n < 0 ∨ 1099511627776 < n) := h
  have hB := Below.refl w.heap.size w
  rcases h with h | h
  · go_enter Try.func26, Try.ntmps26
    go_wp2_with (first | (go_at_call 13; refine (at_bad _ h2.out _).mono ?_; rintro e w' ⟨rfl, rfl⟩) | (go_at_call 29; refine (rat_bad _ h2.out _).mono ?_; rintro e w' ⟨rfl, rfl⟩) | (go_at_call 23; refine (first_bad _ h3.out _).mono ?_; rintro e w3 ⟨rfl, hb3⟩; replace hB := hB.trans (hb3.mono hB.size); clear hb3) | (go_at_call 14; refine (sum_bad _ h4.out _).mono ?_; rintro e w' ⟨rfl, rfl⟩) | (go_at_call 15; refine (great_bad _ h4.out _).mono ?_; rintro e w' ⟨rfl, rfl⟩) | (go_at_call 16; refine (times_bad _ _ h4.out _).mono ?_; rintro e w4 ⟨rfl, hb3⟩; replace hB := hB.trans (hb3.mono hB.size); clear hb3) | (go_at_call 17; refine (within_bad _ h4.out _).mono ?_; rintro e w' ⟨rfl, rfl⟩))
    go_ret
    exact ⟨rfl, hB⟩
  · have h' : ¬ n < 0 := by omega
    go_enter Try.func26, Try.ntmps26
    go_wp2_with (first | (go_at_call 13; refine (at_bad _ h2.out _).mono ?_; rintro e w' ⟨rfl, rfl⟩) | (go_at_call 29; refine (rat_bad _ h2.out _).mono ?_; rintro e w' ⟨rfl, rfl⟩) | (go_at_call 23; refine (first_bad _ h3.out _).mono ?_; rintro e w3 ⟨rfl, hb3⟩; replace hB := hB.trans (hb3.mono hB.size); clear hb3) | (go_at_call 14; refine (sum_bad _ h4.out _).mono ?_; rintro e w' ⟨rfl, rfl⟩) | (go_at_call 15; refine (great_bad _ h4.out _).mono ?_; rintro e w' ⟨rfl, rfl⟩) | (go_at_call 16; refine (times_bad _ _ h4.out _).mono ?_; rintro e w4 ⟨rfl, hb3⟩; replace hB := hB.trans (hb3.mono hB.size); clear hb3) | (go_at_call 17; refine (within_bad _ h4.out _).mono ?_; rintro e w' ⟨rfl, rfl⟩))
    go_ret
    exact ⟨rfl, hB⟩
set_option maxRecDepth 100000 in
theorem tells_big (n : Nat) (v : Int) (h1 : 4096 < n) (h2 : n ≤ 1099511627776) (w : World) :
    Calls Try.prog 26 #[.int .i64 n, .int .i64 v] w fun e w' => e = .returned (.bool true) ∧ Below w.heap.size w w' := by
  have h3 : Hid ((n : Int) < 0 ∨ 4096 < (n : Int)) := by show _ ∨ _; omega
  have i1 : (4096 : Int) < n := by omega
  have i2 : (n : Int) ≤ 1099511627776 := by omega
  have hL := L_pos n (by omega)
  have hL2 : 0 < (L n : Int) := by omega
  have hL3 : ((L n : Int) == 0) = false := beq_eq_false_iff_ne.2 (by omega)
  have hB := Below.refl w.heap.size w
  go_enter Try.func26, Try.ntmps26
  go_wp2_with (first | (go_at_call 13; refine (at_ok n (by omega) h2 _).mono ?_; rintro e w' ⟨rfl, rfl⟩) | (go_at_call 29; refine (rat_ok n h2 _).mono ?_; rintro e w' ⟨rfl, rfl⟩) | (go_at_call 23; refine (first_bad _ h3.out _).mono ?_; rintro e w3 ⟨rfl, hb3⟩; replace hB := hB.trans (hb3.mono hB.size); clear hb3) | (go_at_call 14; refine (sum_ok n h2 _).mono ?_; rintro e w5 ⟨rfl, hb3⟩; replace hB := hB.trans (hb3.mono hB.size); clear hb3) | (go_at_call 15; refine (great_ok n h2 _).mono ?_; rintro e w6 ⟨rfl, hb3⟩; replace hB := hB.trans (hb3.mono hB.size); clear hb3) | (go_at_call 16; refine (times_ok n v h2 _).mono ?_; rintro e w4 ⟨rfl, hb3⟩; replace hB := hB.trans (hb3.mono hB.size); clear hb3) | (go_at_call 17; refine (within_ok n h2 _).mono ?_; rintro e w7 ⟨m, hm1, hm2, rfl, hb3⟩; replace hB := hB.trans (hb3.mono hB.size); clear hb3))
  go_ret
  exact ⟨rfl, hB⟩
theorem reads_ints {w : World} {B m : Nat} {A : Option Addr} (h : Reads w B 1 A m (firsts m)) : Reads w B 1 A m (((List.range m).map fun j => (L (j + 1) : Int)).map (Value.int .i64)) := reads_nums h
set_option maxRecDepth 100000 in
theorem tells_one (n : Nat) (v : Int) (h1 : 1 ≤ n) (h2 : n ≤ 4096) (w : World) :
    Calls Try.prog 26 #[.int .i64 n, .int .i64 v] w fun e w' => e = .returned (.bool true) ∧ Below w.heap.size w w' := by
  have i1 : (1 : Int) ≤ n := by omega
  have i2 : (n : Int) ≤ 4096 := by omega
  have hL := L_pos n (by omega)
  have hL2 : 0 < (L n : Int) := by omega
  have hL3 : ((L n : Int) == 0) = false := beq_eq_false_iff_ne.2 (by omega)
  have hB := Below.refl w.heap.size w
  go_enter Try.func26, Try.ntmps26
  go_wp2_with (first | (go_at_call 13; refine (at_ok n (by omega) (by omega) _).mono ?_; rintro e w' ⟨rfl, rfl⟩) | (go_at_call 29; refine (rat_ok n (by omega) _).mono ?_; rintro e w' ⟨rfl, rfl⟩) | (go_at_call 23; refine (first_ok _ n rfl h2 _).mono ?_; rintro e w3 ⟨v3, rfl, hrow, hb3⟩; obtain ⟨A3, c3, rfl⟩ := own_form hrow; have hr3 := reads_nums (Reads.of_own hrow); replace hB := hB.trans (hb3.mono hB.size); clear hb3 hrow) | (go_at_call 14; refine (sum_ok n (by omega) _).mono ?_; rintro e w5 ⟨rfl, hb3⟩; replace hB := hB.trans (hb3.mono hB.size); replace hr3 := (hr3.below hb3).more hb3.size; clear hb3) | (go_at_call 15; refine (great_ok n (by omega) _).mono ?_; rintro e w6 ⟨rfl, hb3⟩; replace hB := hB.trans (hb3.mono hB.size); replace hr3 := (hr3.below hb3).more hb3.size; clear hb3) | (go_at_call 16; refine (times_ok n v (by omega) _).mono ?_; rintro e w4 ⟨rfl, hb3⟩; replace hB := hB.trans (hb3.mono hB.size); replace hr3 := (hr3.below hb3).more hb3.size; clear hb3) | (go_at_call 17; refine (within_ok n (by omega) _).mono ?_; rintro e w7 ⟨m, hm1, hm2, rfl, hb3⟩; replace hB := hB.trans (hb3.mono hB.size); replace hr3 := (hr3.below hb3).more hb3.size; clear hb3; replace hm2 := Lib.hid hm2) | (go_at_call 28; refine (rfirst_ok n h2 _).mono ?_; rintro e w8 ⟨A8, c8, rfl, hr8, hb3⟩; replace hB := hB.trans (hb3.mono hB.size); replace hr3 := (hr3.below hb3).more hb3.size; clear hb3) | (go_at_call 40; refine (max_ok A8 n c8 _ _ hr8 h1 h2).mono ?_; rintro e w' ⟨rfl, rfl⟩))
  go_wp2_with (first | (go_at_call 27; refine (equal_true A3 A8 n c3 c8 _ _ _ _ hr3 (reads_nums hr8) (by omega)).mono ?_; rintro e w9 ⟨rfl, d, rfl⟩; replace hr8 := hr8.drewN d; replace hB := below_drewN hB d) | (go_at_call 41; refine (rsum_ok A8 n c8 _ _ hr8 h2).mono ?_; rintro e w' ⟨rfl, rfl⟩) | (go_at_call 42; refine (rtimes_ok A8 n c8 _ v _ hr8 h2).mono ?_; rintro e w' ⟨rfl, rfl⟩) | (go_at_call 43; refine (rwithin_ok n h2 _).mono ?_; rintro e w' ⟨m', hm', rfl, rfl⟩; have hmm := isW_unique n m m' hm2.out hm'; subst hmm; replace hm' := Lib.hid hm'))
  go_ret
  exact ⟨rfl, hB⟩
set_option maxRecDepth 100000 in
theorem tells_zero (n : Nat) (v : Int) (h1 : n = 0) (w : World) :
    Calls Try.prog 26 #[.int .i64 n, .int .i64 v] w fun e w' => e = .returned (.bool true) ∧ Below w.heap.size w w' := by
  have h2 : n ≤ 4096 := by omega
  have i1 : (n : Int) < 1 := by omega
  have i3 : 0 ≤ (n : Int) := by omega
  have i2 : Hid ((n : Int) < 1 ∨ 1099511627776 < (n : Int)) := by show _ ∨ _; omega
  have hG : ((G n : Int) == 0) = true := by rw [h1]; rfl
  replace h1 := Lib.hid h1
  have hB := Below.refl w.heap.size w
  go_enter Try.func26, Try.ntmps26
  go_wp2_with (first | (go_at_call 13; refine (at_bad _ i2.out _).mono ?_; rintro e w' ⟨rfl, rfl⟩) | (go_at_call 29; refine (rat_bad _ i2.out _).mono ?_; rintro e w' ⟨rfl, rfl⟩) | (go_at_call 23; refine (first_ok _ n rfl h2 _).mono ?_; rintro e w3 ⟨v3, rfl, hrow, hb3⟩; obtain ⟨A3, c3, rfl⟩ := own_form hrow; have hr3 := reads_nums (Reads.of_own hrow); replace hB := hB.trans (hb3.mono hB.size); clear hb3 hrow) | (go_at_call 14; refine (sum_ok n (by omega) _).mono ?_; rintro e w5 ⟨rfl, hb3⟩; replace hB := hB.trans (hb3.mono hB.size); replace hr3 := (hr3.below hb3).more hb3.size; clear hb3) | (go_at_call 15; refine (great_ok n (by omega) _).mono ?_; rintro e w6 ⟨rfl, hb3⟩; replace hB := hB.trans (hb3.mono hB.size); replace hr3 := (hr3.below hb3).more hb3.size; clear hb3) | (go_at_call 16; refine (times_ok n v (by omega) _).mono ?_; rintro e w4 ⟨rfl, hb3⟩; replace hB := hB.trans (hb3.mono hB.size); replace hr3 := (hr3.below hb3).more hb3.size; clear hb3) | (go_at_call 17; refine (within_ok n (by omega) _).mono ?_; rintro e w7 ⟨m, hm1, hm2, rfl, hb3⟩; replace hB := hB.trans (hb3.mono hB.size); replace hr3 := (hr3.below hb3).more hb3.size; clear hb3; replace hm2 := Lib.hid hm2) | (go_at_call 28; refine (rfirst_ok n h2 _).mono ?_; rintro e w8 ⟨A8, c8, rfl, hr8, hb3⟩; replace hB := hB.trans (hb3.mono hB.size); replace hr3 := (hr3.below hb3).more hb3.size; clear hb3))
  go_wp2_with (first | (go_at_call 27; refine (equal_true A3 A8 n c3 c8 _ _ _ _ hr3 (reads_nums hr8) (by omega)).mono ?_; rintro e w9 ⟨rfl, d, rfl⟩; replace hr8 := hr8.drewN d; replace hB := below_drewN hB d) | (go_at_call 41; refine (rsum_ok A8 n c8 _ _ hr8 h2).mono ?_; rintro e w' ⟨rfl, rfl⟩) | (go_at_call 42; refine (rtimes_ok A8 n c8 _ v _ hr8 h2).mono ?_; rintro e w' ⟨rfl, rfl⟩) | (go_at_call 43; refine (rwithin_ok n h2 _).mono ?_; rintro e w' ⟨m', hm', rfl, rfl⟩; have hmm := isW_unique n m m' hm2.out hm'; subst hmm; replace hm' := Lib.hid hm'))
  go_ret
  exact ⟨rfl, hB⟩
theorem tells_any (n v : Int) (w : World) :
    Calls Try.prog 26 #[.int .i64 n, .int .i64 v] w fun e w' => e = .returned (.bool true) ∧ Below w.heap.size w w' := by
  by_cases h0 : n < 0 ∨ 1099511627776 < n
  · exact tells_bad n v h0 w
  · obtain ⟨k, rfl⟩ := Int.eq_ofNat_of_zero_le (show 0 ≤ n by omega)
    by_cases hz : k = 0
    · exact tells_zero k v hz w
    · by_cases hb : 4096 < k
      · exact tells_big k v hb (by omega) w
      · exact tells_one k v (by omega) (by omega) w
theorem law_tells (n v : Int) (n1 : -9223372036854775808 ≤ n) (n2 : n ≤ 9223372036854775807) (w : World) :
    Calls Try.prog 9 #[.int .i64 n, .int .i64 v] w fun e w' => e = .returned (.bool true) ∧ Below w.heap.size w w' := by
  have hB := Below.refl w.heap.size w
  by_cases a : 2000 < n
  · by_cases b : n ≤ 4096
    · go_enter Try.func9, Try.ntmps9
      go_wp2_with (first | (go_at_call 26; refine (tells_any _ _ _).mono ?_; rintro e w2 ⟨rfl, hb3⟩; replace hB := hB.trans (hb3.mono hB.size); clear hb3) | (go_at_call 12; refine (awake_ok _).mono ?_; rintro e w3 ⟨rfl, hb3⟩; replace hB := hB.trans (hb3.mono hB.size); clear hb3))
      go_ret
      exact ⟨rfl, hB⟩
    · go_enter Try.func9, Try.ntmps9
      go_wp2_with (first | (go_at_call 26; refine (tells_any _ _ _).mono ?_; rintro e w2 ⟨rfl, hb3⟩; replace hB := hB.trans (hb3.mono hB.size); clear hb3) | (go_at_call 12; refine (awake_ok _).mono ?_; rintro e w3 ⟨rfl, hb3⟩; replace hB := hB.trans (hb3.mono hB.size); clear hb3))
      go_ret
      exact ⟨rfl, hB⟩
  · go_enter Try.func9, Try.ntmps9
    go_wp2_with (first | (go_at_call 26; refine (tells_any _ _ _).mono ?_; rintro e w2 ⟨rfl, hb3⟩; replace hB := hB.trans (hb3.mono hB.size); clear hb3) | (go_at_call 12; refine (awake_ok _).mono ?_; rintro e w3 ⟨rfl, hb3⟩; replace hB := hB.trans (hb3.mono hB.size); clear hb3))
    go_ret
    exact ⟨rfl, hB⟩
end Go.Proofs.Ytanejldglbkacaa
