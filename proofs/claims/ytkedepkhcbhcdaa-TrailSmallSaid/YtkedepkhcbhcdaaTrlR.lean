/- Trails: law 9 (levels). -/
import Derived.Test.YtkedepkhcbhcdaaTrlQ
namespace Go.Proofs.Ytkedepkhcbhcdaa
open Go Go.RowKit Go.Shelf
set_option linter.unusedVariables false
set_option linter.unusedSimpArgs false
set_option maxHeartbeats 4000000
theorem index_no (A : Option Addr) (n c B : Nat) (l : List Int) (x : Int) (w : World) (h : Reads w B 1 A n (litV l)) (hn : n ≤ 1099511627776) (hx : ∀ y ∈ l, y ≠ x) :
    Calls Try.prog 47 #[.slice A n c, .int .i64 x] w fun e w' => e = .returned (.int .i64 (-1)) ∧ w = w' := by
  replace hx := Lib.hid hx
  go_enter Try.func47, Try.ntmps47
  go_wp2
  go_loopw [8] (fun i wr => ∃ k : Nat, k ≤ n ∧ i = .int .i64 k ∧ wr = w) (fun i _ => n - (intOf i).toNat)
  case atStart => exact ⟨0, by omega, rfl, rfl⟩
  case round =>
    obtain ⟨k, hk, rfl, rfl⟩ := hrel
    by_cases hlt : k < n
    · obtain ⟨ad, y, rfl, _, hy, q0⟩ := reads_num h hlt
      have hne := hx.out y (List.mem_of_getElem? hy)
      have hlt2 : (k : Int) < (n : Int) := by omega
      have hk0 : 0 ≤ (k : Int) := by omega
      have hb : (x == y) = false := by simp; omega
      clear hy hne
      go_wp2
      go_roundw
      case rel => exact ⟨k + 1, by omega, by go_num, trivial⟩
      case measure => simp [intOf]; omega
    · obtain rfl : k = n := by omega
      go_wp2
      go_ret
      exact ⟨rfl, rfl⟩
theorem contains_no (A : Option Addr) (n c B : Nat) (l : List Int) (x : Int) (w : World) (h : Reads w B 1 A n (litV l)) (hn : n ≤ 1099511627776) (hx : ∀ y ∈ l, y ≠ x) :
    Calls Try.prog 33 #[.slice A n c, .int .i64 x] w fun e w' => e = .returned (.bool false) ∧ w = w' := by
  have h47 := index_no A n c B l x w h hn hx
  replace h47 := Lib.hid h47
  go_enter Try.func33, Try.ntmps33
  go_wp2_with (go_at_call 47; refine h47.out.mono ?_; rintro e w' ⟨rfl, rfl⟩)
  go_ret
  exact ⟨rfl, rfl⟩
/-- How many variables up to one have values. -/
def cntV (D : Trl) : Nat → Nat
  | 0 => 0
  | j + 1 => cntV D j + (if valD D ((j : Int) + 1) = 0 then 0 else 1)
def cntI (its : List Itm) (j : Nat) : Nat := (its.filter fun x => decide (x.lit.natAbs ≤ j)).length
theorem cntI_step (j : Nat) : ∀ its : List Itm, its.Pairwise (fun (x y : Itm) => x.lit ≠ y.lit ∧ x.lit ≠ -y.lit) → cntI its (j + 1) = cntI its j + (if its.any (Itm.is ((j : Int) + 1)) = true then 1 else 0)
  | [], _ => by simp [cntI]
  | x :: its, h => by
    obtain ⟨h1, h2⟩ := List.pairwise_cons.1 h
    have ih := cntI_step j its h2
    by_cases hx : Itm.is ((j : Int) + 1) x = true
    · have hxe := (Itm.is_iff _ _).1 hx
      have hno : its.any (Itm.is ((j : Int) + 1)) = false := by
        rw [← Bool.not_eq_true]
        intro hc
        obtain ⟨y, hy, hyi⟩ := List.any_eq_true.1 hc
        have := h1 y hy
        have := (Itm.is_iff _ _).1 hyi
        omega
      rw [hno] at ih
      simp only [Bool.false_eq_true, if_false, Nat.add_zero] at ih
      have e1 : cntI (x :: its) (j + 1) = cntI its (j + 1) + 1 := by
        unfold cntI
        rw [List.filter_cons_of_pos (by simp; omega)]
        rfl
      have e2 : cntI (x :: its) j = cntI its j := by
        unfold cntI
        rw [List.filter_cons_of_neg (by simp; omega)]
      rw [e1, e2, ih, if_pos (by simp [hx])]
    · have hxe : ¬ (x.lit = (j : Int) + 1 ∨ x.lit = -((j : Int) + 1)) := fun hc => hx ((Itm.is_iff _ _).2 hc)
      rw [List.any_cons, show Itm.is ((j : Int) + 1) x = false by simpa using hx, Bool.false_or]
      by_cases hj : x.lit.natAbs ≤ j
      · have e1 : cntI (x :: its) (j + 1) = cntI its (j + 1) + 1 := by
          unfold cntI
          rw [List.filter_cons_of_pos (by simp; omega)]
          rfl
        have e2 : cntI (x :: its) j = cntI its j + 1 := by
          unfold cntI
          rw [List.filter_cons_of_pos (by simp; omega)]
          rfl
        omega
      · have e1 : cntI (x :: its) (j + 1) = cntI its (j + 1) := by
          unfold cntI
          rw [List.filter_cons_of_neg (by simp; omega)]
        have e2 : cntI (x :: its) j = cntI its j := by
          unfold cntI
          rw [List.filter_cons_of_neg (by simp; omega)]
        omega
theorem pos_any (its : List Itm) (v : Int) : pos its v = none ↔ its.any (Itm.is v) = false := by
  unfold pos
  rw [List.findIdx?_eq_none_iff, List.any_eq_false]
  constructor
  · intro h x hx
    simpa using h x hx
  · intro h x hx
    simpa using h x hx
theorem val_any {D : Trl} (h8 : D.n = 8) (v : Int) (h1 : 1 ≤ v) (h2 : v ≤ 8) : (valD D v = 0 ↔ D.its.any (Itm.is v) = false) ∧ (valD D v = 0 ∨ valD D v = 1 ∨ valD D v = -1) ∧ valD D (-v) = -valD D v := by
  have hv : varL v = v := by rw [(lit8 (by omega)).1, if_neg (by omega)]
  have e1 : valD D v = (row D.its v).2.2.2 := by
    rw [valD_of h8 (by omega), hv, rowD, if_pos (by rw [h8]; omega), show sgn v = 1 from if_neg (by omega), Int.mul_one]
  have e2 : valD D (-v) = -(row D.its v).2.2.2 := by
    rw [valD_of h8 (by omega), varL_neg (by omega), hv, rowD, if_pos (by rw [h8]; omega), show sgn (-v) = -1 from if_pos (by omega), Int.mul_neg, Int.mul_one]
  rw [e1, e2, ← pos_any]
  cases hp : pos D.its v with
  | none => simp [row, hp]
  | some i =>
    obtain ⟨x, hx, _⟩ := pos_some hp
    have : (row D.its v).2.2.2 = sgn x.lit := by simp [row, hp, hx]
    rw [this]
    have hs : sgn x.lit = 1 ∨ sgn x.lit = -1 := by unfold sgn; split <;> simp
    rcases hs with e | e <;> simp [e]
theorem cnt_eq {D : Trl} (h : D.Ok) (h8 : D.n = 8) : ∀ j : Nat, j ≤ 8 → cntV D j = cntI D.its j
  | 0, _ => by
    have : cntI D.its 0 = 0 := by
      unfold cntI
      rw [List.length_eq_zero_iff, List.filter_eq_nil_iff]
      intro x hx
      have := (h.lits x hx).1
      simp; omega
    rw [this]; rfl
  | j + 1, hj => by
    have hv := (val_any h8 ((j : Int) + 1) (by omega) (by omega)).1
    rw [cntI_step j _ h.one, ← cnt_eq h h8 j (by omega)]
    show cntV D j + _ = _
    by_cases h0 : valD D ((j : Int) + 1) = 0
    · rw [if_pos h0, hv.1 h0]; rfl
    · rw [if_neg h0]
      have : D.its.any (Itm.is ((j : Int) + 1)) = true := by
        rw [← Bool.not_eq_false]
        exact fun hc => h0 (hv.2 hc)
      rw [this]; rfl
theorem cnt_all {D : Trl} (h : D.Ok) (h8 : D.n = 8) : cntV D 8 = D.its.length := by
  rw [cnt_eq h h8 8 (Nat.le_refl _)]
  unfold cntI
  rw [List.filter_eq_self.2]
  intro x hx
  have h1 := h.lits x hx
  rw [h8] at h1
  simp; omega
theorem cntV_le (D : Trl) : ∀ j, cntV D j ≤ j
  | 0 => Nat.le_refl _
  | j + 1 => by
    have := cntV_le D j
    show cntV D j + _ ≤ _
    split <;> omega
theorem lvl_grow {D : Trl} (h : D.Ok) {i : Nat} {x y : Itm} (hx : D.its[i]? = some x) (hy : D.its[i + 1]? = some y) : x.lvl ≤ y.lvl := by
  have h1 := (h.lits x (List.mem_of_getElem? hx)).2.2.2.2.2
  have h2 : D.st[x.lvl]? = some D.st[x.lvl] := List.getElem?_eq_getElem h1
  have h3 := (h.lvs i x hx _ _ h2).2 (Nat.le_refl _)
  exact (h.lvs (i + 1) y hy _ _ h2).1 (by omega)
theorem lit_apart {D : Trl} (h : D.Ok) {i : Nat} {x : Itm} (hx : D.its[i]? = some x) : ∀ y ∈ (lits D).take i, y ≠ x.lit ∧ y ≠ -x.lit := by
  intro y hy
  obtain ⟨j, hj⟩ := List.mem_iff_getElem?.1 hy
  have hlt := (List.getElem?_eq_some_iff.1 hj).1
  rw [List.length_take] at hlt
  rw [List.getElem?_take, if_pos (by omega), lits, List.getElem?_map] at hj
  cases hz : D.its[j]? with
  | none => rw [hz] at hj; cases hj
  | some z =>
    rw [hz] at hj
    simp at hj
    subst hj
    obtain ⟨g1, g2⟩ := List.getElem?_eq_some_iff.1 hz
    obtain ⟨e1, e2⟩ := List.getElem?_eq_some_iff.1 hx
    have := (List.pairwise_iff_getElem.1 h.one) j i g1 e1 (by omega)
    rw [g2, e2] at this
    exact this
end Go.Proofs.Ytkedepkhcbhcdaa
