/- Disks: law 3 (the cache), plain. -/
import Derived.Test.YthhchccjpgpibaaDiskN
namespace Go.Proofs.Ythhchccjpgpibaa
open Go Go.RowKit Go.Shelf
set_option linter.unusedVariables false
set_option linter.unusedSimpArgs false
set_option maxHeartbeats 4000000
/-- What a run's cache is like. -/
structure Tidy (D : Dst) : Prop where
  each : ∀ x ∈ D.es, (0 ≤ x.1 ∧ x.1 ≤ 2) ∧ (0 ≤ x.2.1 ∧ x.2.1 ≤ 15) ∧ 0 ≤ x.2.2 ∧ x.2.2 ≤ D.ep
  sorted : D.es.Pairwise (fun x y => x.2.2 ≤ y.2.2)
theorem Tidy.step {D : Dst} {n : Nat} (h : Tidy D) (hf : Few D n) (hn : n < 4096) (a : ActV) : Tidy (stepD D a) := by
  have h4 := hf.p0
  have h5 := hf.ep
  unfold stepD
  split
  · unfold bar
    rw [if_neg (by omega)]
    exact ⟨fun x hx => by
      obtain ⟨h1, h2, h3, h6⟩ := h.each x hx
      exact ⟨h1, h2, h3, by show x.2.2 ≤ D.ep + 1; omega⟩, h.sorted⟩
  split
  · exact ⟨by simp [flu], by simp [flu]⟩
  split
  · exact h
  · unfold wrt
    split
    · rename_i hw
      simp only [wOk, Bool.and_eq_true, decide_eq_true_eq] at hw
      have hws := hf.ws
      refine ⟨fun x hx => ?_, ?_⟩
      · rcases List.mem_append.1 hx with hx | hx
        · exact h.each x hx
        · rw [List.mem_singleton] at hx
          subst hx
          rw [hf.wd]
          have hc := cut4 a.2.2
          exact ⟨⟨hw.1.1, by show a.2.1 % 4 ≤ 2; omega⟩, ⟨by show 0 ≤ cutW a.2.2 4; omega, by show cutW a.2.2 4 ≤ 15; omega⟩, h4, Int.le_refl _⟩
      · refine List.pairwise_append.2 ⟨h.sorted, by simp, fun x hx y hy => ?_⟩
        rw [List.mem_singleton] at hy
        subst hy
        exact (h.each x hx).2.2.2
    · exact h
theorem Tidy.run {D : Dst} {n : Nat} (h : Tidy D) (hf : Few D n) (l : List ActV) (hl : n + l.length ≤ 4096) : Tidy (runD D l) := by
  induction l generalizing D n with
  | nil => exact h
  | cons a l ih =>
    rw [List.length_cons] at hl
    exact ih (h.step hf (by omega) a) (hf.step (by omega) a) (by omega)
theorem tidy_zero (l : List Int) : Tidy (mkD 4 3 l) := ⟨by simp [mkD], by simp [mkD]⟩
section
variable {D : Dst} {n : Nat}
theorem step_bar (h : Few D n) (hn : n < 4096) (a : ActV) (ha : a.1 % 8 = 4) : (stepD D a).es.length = D.es.length ∧ (stepD D a).ep = D.ep + 1 := by
  have h5 := h.ep
  unfold stepD bar
  rw [if_pos ha, if_neg (by omega)]
  exact ⟨rfl, rfl⟩
theorem step_flu (a : ActV) (ha : a.1 % 8 = 5) : (stepD D a).es.length = 0 ∧ (stepD D a).ep = 0 := by
  unfold stepD flu
  rw [if_neg (by omega), if_pos ha]
  exact ⟨rfl, rfl⟩
theorem step_wrt (h : Few D n) (hn : n < 4096) (a : ActV) (ha : a.1 % 8 < 4) (hb : a.2.1 % 4 < 3) : (stepD D a).es.length = D.es.length + 1 ∧ (stepD D a).ep = D.ep := by
  have h1 : wOk D (a.2.1 % 4) = true := by
    simp only [wOk, Bool.and_eq_true, decide_eq_true_eq]
    have := h.ws
    have := h.es
    omega
  unfold stepD wrt
  rw [if_neg (by omega), if_neg (by omega), if_neg (by omega), if_pos h1]
  simp
theorem step_rest (h : Few D n) (a : ActV) (h0 : 0 ≤ a.1) (ha : a.1 % 8 ≠ 4) (hc : a.1 % 8 ≠ 5) (hb : ¬ (a.1 % 8 < 4 ∧ a.2.1 % 4 < 3)) : (stepD D a).es.length = D.es.length ∧ (stepD D a).ep = D.ep := by
  unfold stepD
  rw [if_neg ha, if_neg hc]
  split
  · exact ⟨rfl, rfl⟩
  · have h1 : ¬ wOk D (a.2.1 % 4) = true := by
      simp only [wOk, Bool.and_eq_true, decide_eq_true_eq]
      have := h.ws
      omega
    unfold wrt
    rw [if_neg h1]
    exact ⟨rfl, rfl⟩
end
end Go.Proofs.Ythhchccjpgpibaa
