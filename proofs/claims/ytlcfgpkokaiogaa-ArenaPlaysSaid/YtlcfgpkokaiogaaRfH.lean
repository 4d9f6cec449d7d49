/- Arenas: law 3 (plays). -/
import Derived.Test.YtlcfgpkokaiogaaRfG
namespace Go.Proofs.Ytlcfgpkokaiogaa
open Go Go.RowKit Go.Shelf
set_option linter.unusedVariables false
set_option linter.unusedSimpArgs false
set_option maxHeartbeats 4000000
/-- A call of any size. -/
structure PAW (w : World) (B : Nat) (x : PA) : Prop where
  rd : Reads w B 1 x.A x.ls.length (lits x.ls)
  cap : x.ls.length ≤ x.c ∧ x.c ≤ 9223372036854775807
  kd : 0 ≤ x.kd ∧ x.kd ≤ 255
  id : -9223372036854775808 ≤ x.id ∧ x.id ≤ 9223372036854775807
  size : x.ls.length ≤ 17592186044416
def sumL (l : List PA) : Nat := (l.map fun x => x.ls.length).sum
theorem sumL_snoc {l : List PA} {k : Nat} {x : PA} (h : l[k]? = some x) : sumL (l.take (k + 1)) = sumL (l.take k) + x.ls.length := by
  rw [take_snoc h]
  simp [sumL]
theorem sumL_bd {l : List PA} (h : ∀ x ∈ l, x.ls.length ≤ 17592186044416) : ∀ k, k ≤ l.length → sumL (l.take k) ≤ k * 17592186044416
  | 0, _ => by simp [sumL]
  | k + 1, hk => by
    have h1 := sumL_bd h k (by omega)
    have hx := List.getElem?_eq_getElem (show k < l.length by omega)
    rw [sumL_snoc hx]
    have := h _ (List.mem_of_getElem? hx)
    omega
theorem sumL_mem : ∀ {l : List PA} {x : PA}, x ∈ l → x.ls.length ≤ sumL l
  | y :: l, x, h => by
    simp only [sumL, List.map_cons, List.sum_cons]
    rcases List.mem_cons.1 h with rfl | h
    · omega
    · have := sumL_mem h
      unfold sumL at this
      omega
def fewP (n0 : Nat) (ps : List PA) : Bool := decide (n0 ≤ 200) && decide (sumL ps ≤ 3000)
set_option maxRecDepth 100000 in
theorem few_ok {w : World} {A0 : Option Addr} {n0 c0 B : Nat} {ps : List PA} (hrd : Reads w B 3 A0 n0 (encPs ps)) (hok : ∀ x ∈ ps, x.ls.length ≤ 17592186044416) (hB : B ≤ w.heap.size) (hm : n0 ≤ 9223372036854775807) (hc0 : n0 ≤ c0) :
    Calls Try.prog 10 #[.slice A0 n0 c0] w fun e w' => e = .returned (.bool (fewP n0 ps)) ∧ Below w.heap.size w w' := by
  have hl : ps.length = n0 := by have := hrd.1; rw [encPs_len] at this; omega
  have hbd := sumL_bd hok
  replace hbd := Lib.hid hbd
  have hl' := Lib.hid hl
  obtain ⟨fb, hfb⟩ : ∃ fb, fb = fewP n0 ps := ⟨_, rfl⟩
  rw [← hfb]
  replace hfb := Lib.hid hfb
  clear hok hl
  go_enter Try.func10, Try.ntmps10
  go_upto_region 2 with fail
  go_cut [10, 11, 12] (fun s l i wx => ∃ M c3 : Nat, s = .slice A0 M c3 ∧ l = .int .i64 M ∧ i = .int .i64 0 ∧ M ≤ n0 ∧ M ≤ 201 ∧ (n0 ≤ 200 → M = n0) ∧ w = wx)
  case first =>
    go_wp2
    all_goals (go_meet; exact ⟨_, _, rfl, rfl, rfl, by omega, by omega, by omega, rfl⟩)
  case rest =>
    obtain ⟨M, c3, rfl, rfl, rfl, hM1, hM2, hM3, rfl⟩ := hcut
    replace hM3 := Lib.hid hM3
    go_wp2_with fail
    go_loopw [3, 12] (fun u i wr => ∃ k : Nat, k ≤ M ∧ u = .int .i64 (sumL (ps.take k) : Int) ∧ i = .int .i64 k ∧ Below w.heap.size w wr) (fun _ i _ => M - (intOf i).toNat)
    case atStart => exact ⟨0, by omega, rfl, rfl, Below.refl _ _⟩
    case round =>
      obtain ⟨k, hk, rfl, rfl, hBr⟩ := hrel
      have hb := hbd.out k (by rw [hl'.out]; omega)
      by_cases hlt : k < M
      · obtain ⟨ad, x, rfl, hab, hx, q0, q1, q2⟩ := reads_pa (hrd.below (hBr.mono hB)) (show k < n0 by omega)
        have hsn := sumL_snoc hx
        have hb2 := hbd.out (k + 1) (by rw [hl'.out]; omega)
        rw [hsn] at hb2
        obtain ⟨u, hu⟩ : ∃ u, u = sumL (ps.take k) := ⟨_, rfl⟩
        rw [← hu] at hsn hb hb2 ⊢
        have t1 : (k : Int) < (M : Int) := by omega
        have t2 : 0 ≤ (k : Int) := by omega
        have hB2 := hBr.alloc hBr.size (.cells #[.int .u8 x.kd, .int .i64 x.id, .slice x.A x.ls.length x.c] 27)
        replace hsn := Lib.hid hsn
        clear hu hx
        have hu9 : (u : Int) + (x.ls.length : Int) ≤ 9223372036854775807 := by omega
        go_wp2_with fail
        go_roundw
        case rel => exact ⟨k + 1, by omega, by rw [hsn.out]; simp, by go_num, hB2⟩
        case measure => simp [intOf]; omega
      · obtain rfl : M = k := by omega
        by_cases h200 : n0 ≤ 200
        · have hMn := hM3.out h200
          rw [List.take_of_length_le (by rw [hl'.out]; omega)] at hb ⊢
          have h2 : (n0 : Int) ≤ 200 := by omega
          have hf : fb = decide (sumL ps ≤ 3000) := by rw [hfb.out]; unfold fewP; simp [h200]
          obtain ⟨u, hu⟩ : ∃ u, u = sumL ps := ⟨_, rfl⟩
          rw [← hu] at hb hf ⊢
          clear hM3 hfb hu hMn
          by_cases h3 : u ≤ 3000
          · have h4 : (u : Int) ≤ 3000 := by omega
            rw [decide_eq_true h3] at hf
            subst hf
            clear h3 h200
            go_wp2
            go_ret
            exact ⟨rfl, hBr⟩
          · have h4 : ¬ (u : Int) ≤ 3000 := by omega
            rw [decide_eq_false h3] at hf
            subst hf
            clear h3 h200
            go_wp2
            go_ret
            exact ⟨rfl, hBr⟩
        · have h2 : ¬ (n0 : Int) ≤ 200 := by omega
          have h5 : decide ((n0 : Int) ≤ 200) = false := by simp; omega
          have hf : fb = false := by rw [hfb.out]; unfold fewP; simp [h200]
          subst hf
          clear hM3 hfb h200
          go_wp2
          go_ret
          exact ⟨rfl, hBr⟩
set_option maxRecDepth 100000 in
theorem law_plays {w : World} {A0 : Option Addr} {n0 c0 B : Nat} {ps : List PA} (hrd : Reads w B 3 A0 n0 (encPs ps)) (hok : ∀ x ∈ ps, PAW w B x) (hB : B ≤ w.heap.size) (hm : n0 ≤ 9223372036854775807) (hc0 : n0 ≤ c0) :
    Calls Try.prog 3 #[.slice A0 n0 c0] w fun e w' => e = .returned (.bool true) ∧ Below w.heap.size w w' := by
  have hfew := few_ok hrd (fun x hx => (hok x hx).size) hB hm hc0
  have hplay : fewP n0 ps = true → ∀ W, Below w.heap.size w W → Calls Try.prog 11 #[.slice A0 n0 c0] W fun e w' => e = .returned (.bool true) ∧ Below W.heap.size W w' := fun hf W hW => by
    unfold fewP at hf
    simp only [Bool.and_eq_true, decide_eq_true_eq] at hf
    exact plays_ok (hrd.below (hW.mono hB)) (fun x hx => ⟨(hok x hx).rd.below (hW.mono hB), (hok x hx).cap, (hok x hx).kd, (hok x hx).id, by have := sumL_mem hx; omega⟩) (Nat.le_trans hB hW.size) hf.1
  clear hrd hok
  cases hf : fewP n0 ps with
  | true =>
    rw [hf] at hfew
    have hp := hplay hf
    replace hfew := Lib.hid hfew
    replace hp := Lib.hid hp
    clear hplay hf
    go_enter Try.func3, Try.ntmps3
    go_wp2_with (first
      | (go_at_call 10; refine hfew.out.mono ?_; rintro e W2 ⟨rfl, hB2⟩)
      | (go_at_call 11; refine (hp.out _ hB2).mono ?_; rintro e W3 ⟨rfl, hB3⟩)
      | (go_at_call 12; refine (awake_ok _).mono ?_; rintro e W4 ⟨rfl, hB4⟩))
    go_ret
    exact ⟨rfl, (hB2.trans (hB3.mono hB2.size)).trans (hB4.mono (Nat.le_trans hB2.size hB3.size))⟩
  | false =>
    rw [hf] at hfew
    replace hfew := Lib.hid hfew
    clear hplay hf
    go_enter Try.func3, Try.ntmps3
    go_wp2_with (first
      | (go_at_call 10; refine hfew.out.mono ?_; rintro e W2 ⟨rfl, hB2⟩)
      | (go_at_call 12; refine (awake_ok _).mono ?_; rintro e W4 ⟨rfl, hB4⟩))
    go_ret
    exact ⟨rfl, hB2.trans (hB4.mono hB2.size)⟩
end Go.Proofs.Ytlcfgpkokaiogaa
