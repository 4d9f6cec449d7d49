/- The reference's Sum, Times, Within and First, and slices.Max, at the first numbers. -/
import Derived.Test.YtanejldglbkacaaYields
import Derived.Test.YtanejldglbkacaaRefRound
namespace Go.Proofs.Ytanejldglbkacaa
open Go Go.RowKit
set_option linter.unusedVariables false
set_option linter.unusedSimpArgs false
set_option maxHeartbeats 4000000
theorem reads_first {w : World} {B m : Nat} {A : Option Addr} (h : Reads w B 1 A m (firsts m)) {k : Nat} (hk : k < m) : ∃ ad, A = some ad ∧ w.cell? (ad.add k) = some (.int .i64 (L (k + 1) : Int)) := by
  obtain ⟨ad, u, e, hb, hx, hc⟩ := h.at_ hk
  simp [firsts, hk] at hx
  subst hx
  exact ⟨ad, e, hc⟩
theorem rsum_ok (A : Option Addr) (n c B : Nat) (w : World) (h : Reads w B 1 A n (firsts n)) (hn : n ≤ 4096) :
    Calls Try.prog 41 #[.slice A n c] w fun e w' => e = .returned (.int .i64 (S n : Int)) ∧ w = w' := by
  go_enter Try.func41, Try.ntmps41
  go_wp2
  go_loop [3, 4] (fun s i => ∃ k : Nat, k ≤ n ∧ i = .int .i64 k ∧ s = .int .i64 (S k : Int)) (fun _ i => n - (intOf i).toNat)
  case atStart => exact ⟨0, by omega, rfl, rfl⟩
  case round =>
    obtain ⟨k, hk, rfl, rfl⟩ := hrel
    have b1 := S_top k (by omega)
    by_cases hlt : k < n
    · obtain ⟨ad, rfl, q1⟩ := reads_first h hlt
      have b2 := L_pos (k + 1) (by omega)
      have hlt2 : (k : Int) < (n : Int) := by omega
      have hk0 : 0 ≤ (k : Int) := by omega
      have e : Hid ((S k : Int) + (L (k + 1) : Int) = (S (k + 1) : Int)) := by show _ = _; have : S (k + 1) = S k + L (k + 1) := rfl; omega
      clear h
      go_wp2
      go_round
      case rel => exact ⟨k + 1, by omega, by go_num, by rw [e.out]⟩
      case measure => simp [intOf]; omega
    · obtain rfl : k = n := by omega
      go_wp2
      go_ret
      exact ⟨rfl, rfl⟩
theorem rtimes_ok (A : Option Addr) (n c B : Nat) (v : Int) (w : World) (h : Reads w B 1 A n (firsts n)) (hn : n ≤ 4096) :
    Calls Try.prog 42 #[.slice A n c, .int .i64 v] w fun e w' => e = .returned (.int .i64 (T v n : Int)) ∧ w = w' := by
  go_enter Try.func42, Try.ntmps42
  go_wp2
  go_loop [5, 6] (fun s i => ∃ k : Nat, k ≤ n ∧ i = .int .i64 k ∧ s = .int .i64 (T v k : Int)) (fun _ i => n - (intOf i).toNat)
  case atStart => exact ⟨0, by omega, rfl, rfl⟩
  case round =>
    obtain ⟨k, hk, rfl, rfl⟩ := hrel
    have b1 := T_le v k
    by_cases hlt : k < n
    · obtain ⟨ad, rfl, q1⟩ := reads_first h hlt
      have hlt2 : (k : Int) < (n : Int) := by omega
      have hk0 : 0 ≤ (k : Int) := by omega
      have e : T v (k + 1) = T v k + (if (L (k + 1) : Int) = v then 1 else 0) := rfl
      clear h
      by_cases hv : (L (k + 1) : Int) = v
      · have hv2 : ((L (k + 1) : Int) == v) = true := beq_iff_eq.2 hv
        rw [if_pos hv] at e
        have e2 : Hid ((T v k : Int) + 1 = (T v (k + 1) : Int)) := by show _ = _; omega
        clear e hv
        go_wp2
        go_round
        case rel => exact ⟨k + 1, by omega, by go_num, by rw [e2.out]⟩
        case measure => simp [intOf]; omega
      · have hv2 : ((L (k + 1) : Int) == v) = false := beq_eq_false_iff_ne.2 hv
        rw [if_neg hv] at e
        have e2 : Hid ((T v k : Int) = (T v (k + 1) : Int)) := by show _ = _; omega
        clear e hv
        go_wp2
        go_round
        case rel => exact ⟨k + 1, by omega, by go_num, by rw [e2.out]⟩
        case measure => simp [intOf]; omega
    · obtain rfl : k = n := by omega
      go_wp2
      go_ret
      exact ⟨rfl, rfl⟩
theorem max_ok (A : Option Addr) (n c B : Nat) (w : World) (h : Reads w B 1 A n (firsts n)) (h1 : 1 ≤ n) (hn : n ≤ 4096) :
    Calls Try.prog 40 #[.slice A n c] w fun e w' => e = .returned (.int .i64 (G n : Int)) ∧ w = w' := by
  obtain ⟨ad, rfl, q0⟩ := reads_first h (show 0 < n by omega)
  have h1' : (1 : Int) ≤ (n : Int) := by omega
  have h0' : (0 : Int) < (n : Int) := by omega
  have q0' : w.cell? ad = some (.int .i64 1) := by simpa [Addr.add, show L (0 + 1) = 1 from by decide] using q0
  go_enter Try.func40, Try.ntmps40
  go_wp2
  clear q0 q0'
  go_loop [3, 4] (fun s i => ∃ k : Nat, 1 ≤ k ∧ k ≤ n ∧ i = .int .i64 k ∧ s = .int .i64 (G k : Int)) (fun _ i => n - (intOf i).toNat)
  case atStart => exact ⟨1, by omega, by omega, rfl, by congr 1⟩
  case round =>
    obtain ⟨k, hk1, hk, rfl, rfl⟩ := hrel
    by_cases hlt : k < n
    · obtain ⟨ad', e', q1⟩ := reads_first h hlt
      cases e'
      have hlt2 : (k : Int) < (n : Int) := by omega
      have hk0 : 0 ≤ (k : Int) := by omega
      have e : Hid (max (G k : Int) (L (k + 1) : Int) = (G (k + 1) : Int)) := by show _ = _; have : G (k + 1) = max (G k) (L (k + 1)) := rfl; omega
      clear h
      by_cases hle : (G k : Int) ≤ (L (k + 1) : Int)
      · have e2 : Hid ((L (k + 1) : Int) = (G (k + 1) : Int)) := by show _ = _; have := e.out; omega
        clear e
        go_wp2
        go_round
        case rel => exact ⟨k + 1, by omega, by omega, by go_num, by have h9 := e2.out; congr 1; first | omega | (split <;> omega)⟩
        case measure => simp [intOf]; omega
      · have e2 : Hid ((G k : Int) = (G (k + 1) : Int)) := by show _ = _; have := e.out; omega
        clear e
        go_wp2
        go_round
        case rel => exact ⟨k + 1, by omega, by omega, by go_num, by have h9 := e2.out; congr 1; first | omega | (split <;> omega)⟩
        case measure => simp [intOf]; omega
    · obtain rfl : k = n := by omega
      clear h
      go_wp2
      go_ret
      exact ⟨rfl, rfl⟩
theorem rwithin_ok (t : Nat) (ht : t ≤ 4096) (w : World) :
    Calls Try.prog 43 #[.int .i64 t] w fun e w' => ∃ m : Nat, isW t m ∧ e = .returned (.int .i64 (m : Int)) ∧ w = w' := by
  go_enter Try.func43, Try.ntmps43
  go_wp2
  go_loop [3, 4] (fun a b => ∃ k : Nat, S k ≤ t ∧ a = .int .i64 k ∧ b = .int .i64 (S k : Int)) (fun a _ => t + 1 - (intOf a).toNat)
  case atStart => exact ⟨0, by simp [S], rfl, rfl⟩
  case round =>
    obtain ⟨k, hk, rfl, rfl⟩ := hrel
    have b0 := S_ge k
    have b2 := L_pos (k + 1) (by omega)
    have e : S (k + 1) = S k + L (k + 1) := rfl
    by_cases hlt : S (k + 1) ≤ t
    · have b3 := S_ge (k + 1)
      have hle : (S k : Int) + (L (k + 1) : Int) ≤ (t : Int) := by omega
      have e2 : Hid ((S k : Int) + (L (k + 1) : Int) = (S (k + 1) : Int)) := by show _ = _; omega
      replace hlt := Lib.hid hlt
      clear e
      go_wp2_with (go_at_call 29; refine (rat_at _ (k + 1) (by omega) (by omega) _).mono ?_; rintro e w' ⟨rfl, rfl⟩)
      go_round
      case rel => exact ⟨k + 1, hlt.out, by go_num, by rw [e2.out]⟩
      case measure => simp [intOf]; omega
    · have hw : isW t k := ⟨hk, by omega⟩
      have hle : ¬ (S k : Int) + (L (k + 1) : Int) ≤ (t : Int) := by omega
      clear e hlt
      go_wp2_with (go_at_call 29; refine (rat_at _ (k + 1) (by omega) (by omega) _).mono ?_; rintro e w' ⟨rfl, rfl⟩)
      go_ret
      exact ⟨k, hw, rfl, rfl⟩
theorem firsts_two (k : Nat) : firsts (2 * 2 ^ k - 1) = firsts (2 ^ k - 1) ++ firsts (2 ^ k - 1) ++ [.int .i64 ((2 ^ k : Nat) : Int)] := by
  have hb := L_block k
  have hp := pow_pos2 k
  cases k with
  | zero => rfl
  | succ k =>
    have hp2 := pow_pos2 k
    have e1 : 2 ^ (k + 1) - 1 = 2 * 2 ^ k - 1 := by rw [Nat.pow_succ]; omega
    have e2 : 2 * 2 ^ (k + 1) - 1 = (2 ^ (k + 1) - 1) + (2 ^ (k + 1) - 1) + 1 := by omega
    unfold firsts
    rw [e2] at hb ⊢
    rw [List.range_succ, List.range_add, List.map_append, List.map_append, List.map_map, List.map_singleton, hb]
    congr 2
    apply List.map_congr_left
    intro j hj
    have hj := List.mem_range.1 hj
    show Value.int .i64 ((L (2 ^ (k + 1) - 1 + j + 1) : Nat) : Int) = _
    rw [show 2 ^ (k + 1) - 1 + j + 1 = 2 * 2 ^ k - 1 + (j + 1) by rw [e1]; omega, L_again k (j + 1) (by omega) (by omega)]
theorem firsts_one (n : Nat) : ∀ u ∈ firsts n, u.oneCell' = true := by
  intro u hu
  obtain ⟨j, _, rfl⟩ := List.mem_map.1 hu
  rfl
theorem own_cast {w : World} {base n n' : Nat} {e : TypeId} {size : Nat} {v : Value} {xs xs' : List Value} (h : w.ownsRow base e size v n xs) (hn : n = n') (hx : xs = xs') : w.ownsRow base e size v n' xs' := by
  subst hn; subst hx; exact h
theorem own_below {B : Nat} {a w w' : World} {e : TypeId} {size n : Nat} {v : Value} {xs : List Value} (h : Below B a w) (hB : B ≤ w.heap.size) (ho : w.ownsRow B e size v n xs) (hg : w.grownBy w' v.ownBlock) : Below B a w' :=
  h.grown hg hB (fun k hk => (ho.lt k hk).1)
theorem own_cap {w : World} {base n c : Nat} {e : TypeId} {size : Nat} {A : Option Addr} {xs : List Value} (h : w.ownsRow base e size (.slice A n c) n xs) : n ≤ c := by
  rcases h.2 with ⟨e, rfl⟩ | ⟨g, cap, cur, e, hb, hg, h1, _⟩
  · omega
  · have : c = cap := by injection e
    omega
theorem reads_take {w : World} {B n k : Nat} {A : Option Addr} (h : Reads w B 1 A n (firsts n)) (hk : k ≤ n) : Reads w B 1 A k (firsts k) := by
  refine ⟨by simp [firsts], fun h0 => ?_⟩
  obtain ⟨ad, e, hb, hc⟩ := h.2 (by omega)
  refine ⟨ad, e, hb, fun j u hu => hc j u ?_⟩
  rw [← hu]
  have hj : j < k := by
    have := (List.getElem?_eq_some_iff.1 hu).1
    simpa [firsts] using this
  simp [firsts, hj, show j < n by omega]
set_option maxRecDepth 100000 in
theorem rfirst_ok (n : Nat) (hn : n ≤ 4096) (w : World) :
    Calls Try.prog 28 #[.int .i64 n] w fun e w' => ∃ A c, e = .returned (.slice A n c) ∧ Reads w' w'.heap.size 1 A n (firsts n) ∧ Below w.heap.size w w' := by
  obtain ⟨i0, hi, hz0, hz1, hz2⟩ := info_parts Try.info3
  go_enter Try.func28, Try.ntmps28
  go_wp2
  go_loopw [3, 4] (fun v x wr => ∃ k m : Nat, Hid (m = 2 ^ k) ∧ 1 ≤ m ∧ m ≤ 8192 ∧ x = .int .i64 m ∧ wr.ownsRow w.heap.size 3 1 v (m - 1) (firsts (m - 1)) ∧ Below w.heap.size w wr) (fun _ x _ => 8192 - (intOf x).toNat)
  case atStart => exact ⟨0, 1, rfl, by omega, by omega, rfl, World.ownsRow_nil _ _ _ _, Below.refl _ _⟩
  case round =>
    obtain ⟨k, m, hm, h1, h2, rfl, hrow, hB⟩ := hrel
    obtain ⟨A, c, rfl⟩ := own_form hrow
    have hBs := hB.size
    by_cases hlt : m - 1 < n
    · have hlt2 : decide (m - 1 < n) = true := by simpa using hlt
      have hr0 : (wr.alloc (.cells #[] 3)).ownsRow w.heap.size 3 1 (.slice (some ⟨wr.heap.size, 0, none⟩) 0 0) 0 [] := World.ownsRow_made wr #[] 0 hBs (by unfold maxLen; omega) rfl
      have hrd0 : Reads (wr.alloc (.cells #[] 3)) wr.heap.size 1 A (m - 1) (firsts (m - 1)) := (Reads.of_own hrow).alloc (Nat.le_refl _) _
      have hB0 := hB.alloc hBs (.cells #[] 3)
      have hm2 : (m : Int) ≤ 8192 := by omega
      have hm1 : 1 ≤ (m : Int) := by omega
      go_wp2_with (first | (at_builtin; refine wpList_append_any _ rfl (.tmp 9) (.tmp 10) 40 rfl w.heap.size 3 i0 _ 1 8 Try.underlying40 hi hz0 hz1 hz2 rfl (by omega) (.slice (some ⟨wr.heap.size, 0, none⟩) 0 0) 0 [] rfl hr0 wr.heap.size A (m - 1) c (firsts (m - 1)) rfl hrd0 (firsts_one _) (by simp only [maxLen]; omega) (by omega) hB0.size ?_; intro v1 w1 hown1 hg1 _; have hrd1 := hrd0.grown hg1 (by simp) (fun g hg => by cases hg; exact Nat.le_refl _); have hB1 := own_below hB0 hB0.size hr0 hg1) | (at_builtin; refine wpList_append_any _ rfl (.tmp 11) (.tmp 12) 40 rfl w.heap.size 3 i0 _ 1 8 Try.underlying40 hi hz0 hz1 hz2 rfl (by omega) v1 (0 + (m - 1)) ([] ++ firsts (m - 1)) rfl hown1 wr.heap.size A (m - 1) c (firsts (m - 1)) rfl hrd1 (firsts_one _) (by simp only [maxLen]; omega) (by omega) hB1.size ?_; intro v2 w2 hown2 hg2 _; have hB2 := own_below hB1 hB1.size hown1 hg2; have hs2 := hB2.size) | (at_builtin; refine wpList_append_own _ rfl (.tmp 13) (.tmp 15) 40 rfl w.heap.size 3 i0 _ 1 8 Try.underlying40 hi hz0 hz1 hz2 rfl (by omega) v2 (0 + (m - 1) + (m - 1)) ([] ++ firsts (m - 1) ++ firsts (m - 1)) rfl (hown2.alloc _) ⟨w2.heap.size, 0, none⟩ 1 1 [.int .i64 m] rfl rfl (cell_one_new _ _ _) (by simp [Value.oneCell']) (by simp only [maxLen]; omega) (by omega) (by simp; omega) ?_; intro v3 w3 hown3 hg3 _; have hB3 := own_below (hB2.alloc hs2 _) (by simp; omega) (hown2.alloc _) hg3; replace hown3 := own_cast hown3 (n' := 2 * m - 1) (xs' := firsts (2 * m - 1)) (by omega) (by rw [hm.out]; exact (firsts_two k).symm)))
      go_roundw
      case rel => exact ⟨k + 1, 2 * m, by show _ = _; rw [hm.out, Nat.pow_succ]; omega, by omega, by omega, by go_num, hown3, hB3⟩
      case measure => simp [intOf]; omega
    · have hlt2 : decide (m - 1 < n) = false := by simpa using hlt
      have hnc : n ≤ c := by have := own_cap hrow; omega
      have hrd := reads_take (Reads.of_own hrow) (show n ≤ m - 1 by omega)
      go_wp2_with fail
      go_ret
      exact ⟨_, _, rfl, hrd, hB⟩
end Go.Proofs.Ytanejldglbkacaa
