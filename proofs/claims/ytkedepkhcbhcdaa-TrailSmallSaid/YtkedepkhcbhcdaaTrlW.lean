/- Trails: the reference: Value, Push, Assign, Back. -/
import Derived.Test.YtkedepkhcbhcdaaTrlV
namespace Go.Proofs.Ytkedepkhcbhcdaa
open Go Go.RowKit Go.Shelf
set_option linter.unusedVariables false
set_option linter.unusedSimpArgs false
set_option maxHeartbeats 4000000
theorem valD_some {D : Trl} (h : D.Ok) {k : Nat} {y : Itm} {l : Int} (hy : D.its[k]? = some y) (hl : y.lit = l ∨ y.lit = -l) : valD D l = if y.lit = l then 1 else -1 := by
  have h1 := h.lits y (List.mem_of_getElem? hy)
  have hv : isV D l = true := by simp [isV]; omega
  have hr := row_at h hy (if l < 0 then -l else l) (by split <;> omega)
  unfold valD
  rw [if_pos hv, hr]
  show sgn y.lit * sgn l = _
  by_cases he : y.lit = l
  · rw [if_pos he, he, sgn_sq]
  · rw [if_neg he, show y.lit = -l by omega, sgn_neg (by omega), Int.neg_mul, sgn_sq]
theorem valD_none {D : Trl} {l : Int} (h : ∀ y ∈ D.its, y.lit ≠ l ∧ y.lit ≠ -l) : valD D l = 0 := by
  unfold valD
  split
  · unfold row
    rw [pos_none.2 (fun y hy => by have := h y hy; split <;> omega)]
    simp
  · rfl
theorem valD_wrong {D : Trl} (h : D.Ok) {l : Int} (hl : rightL l = false) : valD D l = 0 := by
  have hn := h.n0
  have hv : isV D l = false := by
    rw [← Bool.not_eq_true]
    intro hc
    simp [isV] at hc
    simp [rightL] at hl
    omega
  unfold valD
  rw [if_neg (by rw [hv]; decide)]
set_option maxRecDepth 100000 in
theorem rvalue {w : World} {v : Value} {D : Trl} (h : Ref w v D) (hok : D.Ok) (l : Int) : Calls Try.prog 49 #[v, .int .i64 l] w fun e w' => e = .returned (.int .i64 (valD D l)) ∧ Below w.heap.size w w' := by
  obtain ⟨Ai, ci, As, cs, rfl, hI, hS, k1, k2, k3, k4⟩ := h
  have hB : Below w.heap.size w (w.alloc (.cells #[.int .i64 D.n, .int .i64 ((D.st.length : Int) - 1), .slice Ai D.its.length ci, .slice As D.st.length cs] 82)) := (Below.refl _ _).alloc (Nat.le_refl _) _
  have hb := Blk.new w 82 #[.int .i64 D.n, .int .i64 ((D.st.length : Int) - 1), .slice Ai D.its.length ci, .slice As D.st.length cs]
  replace hI := hI.below hB
  have hfew : D.its.length ≤ 1048576 := by have := hok.few; have := hok.n0; omega
  replace hok := Lib.hid hok
  clear hS k1 k2 k3 k4
  go_enter Try.func49, Try.ntmps49
  go_wp2_with fail
  generalize w.alloc (.cells #[.int .i64 D.n, .int .i64 ((D.st.length : Int) - 1), .slice Ai D.its.length ci, .slice As D.st.length cs] 82) = W1 at *
  have b2 := hb.cell 2
  simp only [List.getElem?_toArray, List.getElem?_cons_succ, List.getElem?_cons_zero] at b2
  obtain ⟨rb, hrb⟩ : ∃ b, rightL l = b := ⟨_, rfl⟩
  go_loopw [5] (fun i wr => ∃ k : Nat, k ≤ D.its.length ∧ i = .int .i64 k ∧ wr = W1 ∧ (rightL l = true → ∀ (j : Nat) (y : Itm), j < k → D.its[j]? = some y → y.lit ≠ l ∧ y.lit ≠ -l)) (fun i _ => D.its.length - (intOf i).toNat)
  case atStart => exact ⟨0, by omega, rfl, rfl, fun _ j y hj => by omega⟩
  case round =>
    obtain ⟨k, hk, rfl, rfl, hno⟩ := hrel
    have hj0 : 0 ≤ (k : Int) := by omega
    have hjs : (k : Int) ≤ 1048576 := by omega
    have hrc := rright (w := wr) l
    rw [hrb] at hrc hno
    replace hrc := Lib.hid hrc
    by_cases hlt : k < D.its.length
    · obtain ⟨y, hy⟩ : ∃ y, D.its[k]? = some y := ⟨_, List.getElem?_eq_getElem hlt⟩
      obtain ⟨ad, hA, _, q0, _, _⟩ := Ref.row hI hy
      subst hA
      have t1 : (k : Int) < (D.its.length : Int) := by omega
      cases rb with
      | false =>
        clear hy
        generalize y.lit = yl at *
        replace hrb := Lib.hid hrb
        go_wp2_with (go_at_call 31; with_reducible refine hrc.out.mono ?_; rintro e w' ⟨rfl, rfl⟩)
        go_roundw
        case rel => exact ⟨k + 1, by omega, by go_num, trivial, fun h => by rw [hrb.out] at h; cases h⟩
        case measure => simp [intOf]; omega
      | true =>
        have hl : -1048576 ≤ l ∧ l ≤ 1048576 := by simp [rightL] at hrb; omega
        obtain ⟨l1, l2⟩ := hl
        by_cases he : y.lit = l
        · have hfin := valD_some hok.out hy (.inl he)
          rw [if_pos he] at hfin
          have hb1 : (y.lit == l) = true := by simp [he]
          clear hy he
          replace hfin := Lib.hid hfin
          generalize y.lit = yl at *
          go_wp2_with (go_at_call 31; with_reducible refine hrc.out.mono ?_; rintro e w' ⟨rfl, rfl⟩)
          go_ret
          exact ⟨ret_int hfin.out.symm, hB⟩
        · have hb1 : (y.lit == l) = false := by simpa using he
          by_cases he2 : y.lit = -l
          · have hfin := valD_some hok.out hy (.inr he2)
            rw [if_neg he] at hfin
            have hb2 : (y.lit == -l) = true := by simp [he2]
            clear hy he he2
            replace hfin := Lib.hid hfin
            generalize y.lit = yl at *
            go_wp2_with (go_at_call 31; with_reducible refine hrc.out.mono ?_; rintro e w' ⟨rfl, rfl⟩)
            go_ret
            exact ⟨ret_int hfin.out.symm, hB⟩
          · have hb2 : (y.lit == -l) = false := by simpa using he2
            have hnext : ∀ (j : Nat) (z : Itm), j < k + 1 → D.its[j]? = some z → z.lit ≠ l ∧ z.lit ≠ -l := by
              intro j z hj hz
              by_cases hjk : j < k
              · exact hno rfl j z hjk hz
              · obtain rfl : j = k := by omega
                rw [hy] at hz
                injection hz with hz
                subst hz
                exact ⟨he, he2⟩
            clear hy he he2 hno
            replace hnext := Lib.hid hnext
            generalize y.lit = yl at *
            go_wp2_with (go_at_call 31; with_reducible refine hrc.out.mono ?_; rintro e w' ⟨rfl, rfl⟩)
            go_roundw
            case rel => exact ⟨k + 1, by omega, by go_num, trivial, fun _ => hnext.out⟩
            case measure => simp [intOf]; omega
    · obtain rfl : k = D.its.length := by omega
      have hfin : valD D l = 0 := by
        cases rb with
        | false => exact valD_wrong hok.out hrb
        | true =>
          refine valD_none fun y hy => ?_
          obtain ⟨j, hj⟩ := List.mem_iff_getElem?.1 hy
          exact hno rfl j y (List.getElem?_eq_some_iff.1 hj).1 hj
      replace hfin := Lib.hid hfin
      clear hno
      go_wp2
      go_ret
      exact ⟨ret_int hfin.out.symm, hB⟩
end Go.Proofs.Ytkedepkhcbhcdaa
