/- Trails, plain: what is left behind a call of Back, and what is assigned then. -/
import Derived.Test.YtkedepkhcbhcdaaTrlM
namespace Go.Proofs.Ytkedepkhcbhcdaa
open Go Go.RowKit Go.Shelf
set_option linter.unusedVariables false
set_option linter.unusedSimpArgs false
theorem bck_its {D : Trl} (h : D.Ok) (k : Nat) (hk : k < D.st.length) : ∃ m, m ≤ D.its.length ∧ (bck D k).its = D.its.take m ∧ (bck D k).st.length = k + 1 ∧ (bck D k).n = D.n ∧ ∀ (i : Nat) (x : Itm), D.its[i]? = some x → (i < m ↔ x.lvl ≤ k) := by
  unfold bck
  split
  · rename_i h1
    obtain ⟨e, he⟩ : ∃ e, D.st[k + 1]? = some e := ⟨_, List.getElem?_eq_getElem h1⟩
    have hel := h.sts e (List.mem_of_getElem? he)
    refine ⟨e, hel, by rw [he]; rfl, by simp; omega, rfl, fun i x hx => ?_⟩
    have := h.lvs i x hx (k + 1) e he
    omega
  · refine ⟨D.its.length, Nat.le_refl _, (List.take_of_length_le (Nat.le_refl _)).symm, by omega, rfl, fun i x hx => ?_⟩
    have h1 := (h.lits x (List.mem_of_getElem? hx)).2.2.2.2.2
    have h2 := (List.getElem?_eq_some_iff.1 hx).1
    omega
/-- A literal of eight variables. -/
theorem lit8 {x : Int} (h : x ≠ 0 ∧ -8 ≤ x ∧ x ≤ 8) : varL x = (if x < 0 then -x else x) ∧ 1 ≤ varL x ∧ varL x ≤ 8 ∧ (x = varL x ∨ x = -varL x) := by
  have hr : rightL x = true := by simp [rightL]; omega
  have : varL x = (if x < 0 then -x else x) := by rw [varL, hr]; rfl
  rw [this]
  refine ⟨rfl, ?_⟩
  split <;> omega
theorem sgn_neg {x : Int} (h : x ≠ 0) : sgn (-x) = -sgn x := by
  unfold sgn
  split <;> split <;> omega
theorem sgn_sq (x : Int) : sgn x * sgn x = 1 := by
  unfold sgn; split <;> rfl
theorem valD_of {D : Trl} (h8 : D.n = 8) {x : Int} (h : x ≠ 0 ∧ -8 ≤ x ∧ x ≤ 8) : valD D x = (rowD D (varL x)).2.2.2 * sgn x := by
  have hv := lit8 h
  have hi : isV D x = true := by simp [isV, h8]; omega
  unfold valD rowD
  rw [if_pos hi, ← hv.1, if_pos (by rw [h8]; exact ⟨hv.2.1, hv.2.2.1⟩)]
theorem varL_neg {x : Int} (h : x ≠ 0 ∧ -8 ≤ x ∧ x ≤ 8) : varL (-x) = varL x := by
  rw [(lit8 h).1, (lit8 (x := -x) (by omega)).1]
  split <;> split <;> omega
/-- The rows of literals of a trail of which the first ones are left. -/
theorem left_yes {D D' : Trl} {m i : Nat} {x : Itm} (h : D'.Ok) (h8 : D'.n = 8) (hm : D'.its = D.its.take m) (hx : D.its[i]? = some x) (hi : i < m) (hb : x.lit ≠ 0 ∧ -8 ≤ x.lit ∧ x.lit ≤ 8) :
    rowD D' (varL x.lit) = ((x.lvl : Int), x.rsn, (i : Int), sgn x.lit) ∧ isSet D' (varL x.lit) = true ∧ valD D' x.lit = 1 ∧ valD D' (-x.lit) = -1 := by
  have hv := lit8 hb
  have hx' : D'.its[i]? = some x := by rw [hm, List.getElem?_take, if_pos hi]; exact hx
  have hr : rowD D' (varL x.lit) = ((x.lvl : Int), x.rsn, (i : Int), sgn x.lit) := by
    unfold rowD
    rw [if_pos (by rw [h8]; omega)]
    exact row_at h hx' _ hv.2.2.2
  refine ⟨hr, ?_, ?_, ?_⟩
  · unfold isSet
    rw [hr]
    have : sgn x.lit ≠ 0 := by unfold sgn; split <;> decide
    simpa using this
  · rw [valD_of h8 hb, hr]
    exact sgn_sq _
  · rw [valD_of h8 (by omega), varL_neg hb, hr, sgn_neg hb.1]
    show sgn x.lit * -sgn x.lit = -1
    rw [Int.mul_neg, sgn_sq]
theorem row_free {D : Trl} {v : Int} (h : ∀ x ∈ D.its, x.lit ≠ v ∧ x.lit ≠ -v) : rowD D v = (0, 0, 0, 0) := by
  unfold rowD
  split
  · unfold row
    rw [pos_none.2 h]
  · rfl
theorem left_no {D D' : Trl} {m i : Nat} {x : Itm} (h : D.Ok) (h8 : D'.n = 8) (hm : D'.its = D.its.take m) (hx : D.its[i]? = some x) (hi : m ≤ i) (hb : x.lit ≠ 0 ∧ -8 ≤ x.lit ∧ x.lit ≤ 8) :
    rowD D' (varL x.lit) = (0, 0, 0, 0) ∧ isSet D' (varL x.lit) = false ∧ valD D' x.lit = 0 ∧ valD D' (-x.lit) = 0 := by
  have hv := lit8 hb
  have hr : rowD D' (varL x.lit) = (0, 0, 0, 0) := by
    refine row_free fun y hy => ?_
    rw [hm] at hy
    obtain ⟨j, hj⟩ := List.mem_iff_getElem?.1 hy
    have hlt := (List.getElem?_eq_some_iff.1 hj).1
    rw [List.length_take] at hlt
    rw [List.getElem?_take, if_pos (by omega)] at hj
    obtain ⟨g1, g2⟩ := List.getElem?_eq_some_iff.1 hj
    obtain ⟨e1, e2⟩ := List.getElem?_eq_some_iff.1 hx
    have := (List.pairwise_iff_getElem.1 h.one) j i g1 e1 (by omega)
    rw [g2, e2] at this
    omega
  refine ⟨hr, ?_, ?_, ?_⟩
  · unfold isSet; rw [hr]; rfl
  · rw [valD_of h8 hb, hr]; simp
  · rw [valD_of h8 (by omega), varL_neg hb, hr]; simp
/-- The negations of literals, assigned one behind the other. -/
def asgN (D : Trl) (xs : List Int) : Trl := xs.foldl (fun D x => asg D (-x) 1) D
theorem asgN_snoc (D : Trl) (xs : List Int) (x : Int) : asgN D (xs ++ [x]) = asg (asgN D xs) (-x) 1 := by simp [asgN]
theorem asgN_is : ∀ (xs : List Int) (D : Trl), (asgN D xs).n = D.n ∧ (asgN D xs).st = D.st ∧ (asgN D xs).its = D.its ++ xs.map fun x => ⟨-x, 1, D.st.length - 1⟩
  | [], D => by simp [asgN]
  | x :: xs, D => by
    have := asgN_is xs (asg D (-x) 1)
    refine ⟨this.1, this.2.1, ?_⟩
    show (asgN (asg D (-x) 1) xs).its = _
    rw [this.2.2]
    simp [asg]
theorem asgN_free {D D' : Trl} {m j : Nat} {x : Int} (h : D.Ok) (h8 : D.n = 8) (h8' : D'.n = 8) (hm : D'.its = D.its.take m) (hx : ((lits D).drop m)[j]? = some x) :
    asgE (asgN D' (((lits D).drop m).take j)) (-x) 1 = 0 ∧ asgD (asgN D' (((lits D).drop m).take j)) (-x) 1 = asgN D' (((lits D).drop m).take (j + 1)) := by
  obtain ⟨q1, q2, q3⟩ := asgN_is (((lits D).drop m).take j) D'
  have hx0 := hx
  rw [List.getElem?_drop, lits, List.getElem?_map] at hx
  cases hy : D.its[m + j]? with
  | none => rw [hy] at hx; cases hx
  | some y =>
    rw [hy] at hx
    simp at hx
    subst hx
    have hb := h.lits y (List.mem_of_getElem? hy)
    rw [h8] at hb
    have hb' : y.lit ≠ 0 ∧ -8 ≤ y.lit ∧ y.lit ≤ 8 := ⟨hb.1, by have := hb.2.1; omega, by have := hb.2.2.1; omega⟩
    have hv := lit8 hb'
    have hfar : ∀ (k : Nat) (z : Itm), D.its[k]? = some z → k < m + j → z.lit ≠ y.lit ∧ z.lit ≠ -y.lit := by
      intro k z hz hk
      obtain ⟨g1, g2⟩ := List.getElem?_eq_some_iff.1 hz
      obtain ⟨e1, e2⟩ := List.getElem?_eq_some_iff.1 hy
      have := (List.pairwise_iff_getElem.1 h.one) k (m + j) g1 e1 (by omega)
      rw [g2, e2] at this
      exact this
    have hr : row (asgN D' (((lits D).drop m).take j)).its (varL (-y.lit)) = (0, 0, 0, 0) := by
      unfold row
      rw [varL_neg hb', pos_none.2]
      intro z hz
      rw [q3, hm] at hz
      rcases List.mem_append.1 hz with hz | hz
      · obtain ⟨k, hk⟩ := List.mem_iff_getElem?.1 hz
        have hlt := (List.getElem?_eq_some_iff.1 hk).1
        rw [List.length_take] at hlt
        rw [List.getElem?_take, if_pos (by omega)] at hk
        have := hfar k z hk (by omega)
        omega
      · obtain ⟨u, hu, rfl⟩ := List.mem_map.1 hz
        obtain ⟨k, hk⟩ := List.mem_iff_getElem?.1 hu
        have hlt := (List.getElem?_eq_some_iff.1 hk).1
        rw [List.length_take] at hlt
        rw [List.getElem?_take, if_pos (by omega), List.getElem?_drop, lits, List.getElem?_map] at hk
        cases hz2 : D.its[m + k]? with
        | none => rw [hz2] at hk; cases hk
        | some z =>
          rw [hz2] at hk
          simp at hk
          subst hk
          have := hfar (m + k) z hz2 (by omega)
          show -z.lit ≠ _ ∧ -z.lit ≠ _
          omega
    have he : asgE (asgN D' (((lits D).drop m).take j)) (-y.lit) 1 = 0 := by
      unfold asgE
      rw [if_neg (by simp [isV, q1, h8']; omega), if_neg (by omega), hr]
      rfl
    exact ⟨he, by rw [asgD, if_pos he, take_snoc hx0, asgN_snoc]⟩
theorem reads_of_row {w : World} {base : Nat} {e : TypeId} {c n : Nat} {A : Option Addr} {l : List Int} (h : w.ownsRow base e 1 (.slice A n c) n (litV l)) : Reads w w.heap.size 1 A n (litV l) := Reads.of_own h
theorem Reads.take {w : World} {B size n : Nat} {A : Option Addr} {xs : List Value} (h : Reads w B size A n xs) (m : Nat) (hm : m ≤ n) : Reads w B size A m (xs.take (m * size)) := by
  refine ⟨by rw [List.length_take, h.1]; exact Nat.min_eq_left (Nat.mul_le_mul_right _ hm), fun h0 => ?_⟩
  obtain ⟨ad, e, hb, hc⟩ := h.2 (by omega)
  refine ⟨ad, e, hb, fun j u hu => hc j u ?_⟩
  rw [List.getElem?_take] at hu
  split at hu
  · exact hu
  · cases hu
end Go.Proofs.Ytkedepkhcbhcdaa
