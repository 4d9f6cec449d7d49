/- Trails: all calls, in one form. -/
import Derived.Test.YtkedepkhcbhcdaaTrlF
namespace Go.Proofs.Ytkedepkhcbhcdaa
open Go Go.RowKit Go.Shelf
set_option linter.unusedVariables false
set_option linter.unusedSimpArgs false
set_option maxHeartbeats 4000000
/-- What Assign answers, and the trail behind it. -/
def asgE (D : Trl) (l r : Int) : Int := if isV D l = false then 40 else if r < 0 ∨ 1073741824 < r then 2 else if (row D.its (varL l)).2.2.2 ≠ 0 then 41 else 0
def asgD (D : Trl) (l r : Int) : Trl := if asgE D l r = 0 then asg D l r else D
def pshE (D : Trl) : Int := if D.st.length = 1048576 then 5 else 0
def pshD (D : Trl) : Trl := if D.st.length = 1048576 then D else psh D
def bckE (D : Trl) (k : Int) : Int := if 0 ≤ k ∧ k < D.st.length then 0 else 42
def bckD (D : Trl) (k : Int) : Trl := if 0 ≤ k ∧ k < D.st.length then bck D k.toNat else D
section
variable {w : World} {base d : Nat} {fp : List Nat} {D : Trl}
theorem wrote_same (h : Trail w base d fp D) {r : Value} {e : Ending} {w' : World} (he : e = .returned r) (hb : Below w.heap.size w w') : Wrote w base d fp D r e w' :=
  ⟨he, fp, h.new hb, fun k hk => .inl hk, only_of_below fp hb⟩
theorem assign_trail (h : Trail w base d fp D) (l r : Int) : Calls Try.prog 13 #[.pointer (some ⟨d, 0, none⟩), .int .i64 l, .int .i64 r] w (Wrote w base d fp (asgD D l r) (.int .i64 (asgE D l r))) := by
  have h0 := h
  obtain ⟨vs, vo, vt, h, rfl⟩ := h
  cases hv : isV D l with
  | false =>
    have he : asgE D l r = 40 := if_pos hv
    have hd : asgD D l r = D := if_neg (by rw [he]; decide)
    rw [he, hd]
    exact (assign_novar h l r hv).mono fun e w' h => wrote_same h0 h.1 (by rw [← h.2]; exact Below.refl _ _)
  | true =>
    by_cases hr : r < 0 ∨ 1073741824 < r
    · have he : asgE D l r = 2 := by unfold asgE; rw [if_neg (by rw [hv]; decide), if_pos hr]
      have hd : asgD D l r = D := if_neg (by rw [he]; decide)
      rw [he, hd]
      exact (assign_reason h l r hv hr).mono fun e w' h => wrote_same h0 h.1 (by rw [← h.2]; exact Below.refl _ _)
    · by_cases hs : (row D.its (varL l)).2.2.2 = 0
      · have he : asgE D l r = 0 := by unfold asgE; rw [if_neg (by rw [hv]; decide), if_neg hr, if_neg (by simpa using hs)]
        have hd : asgD D l r = asg D l r := if_pos he
        rw [he, hd]
        exact assign_ok h l r hv (by omega) (by omega) hs
      · have he : asgE D l r = 41 := by unfold asgE; rw [if_neg (by rw [hv]; decide), if_neg hr, if_pos hs]
        have hd : asgD D l r = D := if_neg (by rw [he]; decide)
        rw [he, hd]
        exact (assign_set h l r hv (by omega) (by omega) hs).mono fun e w' h => wrote_same h0 h.1 (by rw [← h.2]; exact Below.refl _ _)
theorem push_trail (h : Trail w base d fp D) : Calls Try.prog 12 #[.pointer (some ⟨d, 0, none⟩)] w (Wrote w base d fp (pshD D) (.int .i64 (pshE D))) := by
  have h0 := h
  obtain ⟨vs, vo, vt, h, rfl⟩ := h
  have hst := h.ok.st1
  by_cases hs : D.st.length = 1048576
  · rw [show pshE D = 5 from if_pos hs, show pshD D = D from if_pos hs]
    exact (push_full h hs).mono fun e w' h => wrote_same h0 h.1 (by rw [← h.2]; exact Below.refl _ _)
  · rw [show pshE D = 0 from if_neg hs, show pshD D = psh D from if_neg hs]
    exact push_ok h (Nat.lt_of_le_of_ne hst hs)
theorem back_trail (h : Trail w base d fp D) (k : Int) : Calls Try.prog 15 #[.pointer (some ⟨d, 0, none⟩), .int .i64 k] w (Wrote w base d fp (bckD D k) (.int .i64 (bckE D k))) := by
  have h0 := h
  obtain ⟨vs, vo, vt, h, rfl⟩ := h
  have hs2 := h.ok.st2
  by_cases hk : 0 ≤ k ∧ k < D.st.length
  · rw [show bckE D k = 0 from if_pos hk, show bckD D k = bck D k.toNat from if_pos hk]
    obtain ⟨n, rfl⟩ := Int.eq_ofNat_of_zero_le hk.1
    rw [Int.toNat_natCast]
    by_cases hn : n + 1 < D.st.length
    · exact back_ok h n hn
    · have he : (n : Int) = (D.st.length : Int) - 1 := by omega
      rw [show bck D n = D from if_neg hn, he]
      exact (back_same h).mono fun e w' h => wrote_same h0 h.1 h.2
  · rw [show bckE D k = 42 from if_neg hk, show bckD D k = D from if_neg hk]
    exact (back_bad h k (by omega)).mono fun e w' h => wrote_same h0 h.1 h.2
theorem level_trail (h : Trail w base d fp D) (v : Int) (hb : -9223372036854775808 ≤ v ∧ v ≤ 9223372036854775807) : Calls Try.prog 16 #[.pointer (some ⟨d, 0, none⟩), .int .i64 v] w fun e w' => e = .returned (.tuple #[.int .i64 (rowD D v).1, .bool (isSet D v)]) ∧ Below w.heap.size w w' := by
  obtain ⟨vs, vo, vt, h, rfl⟩ := h
  exact level_any h v hb
theorem reason_trail (h : Trail w base d fp D) (v : Int) (hb : -9223372036854775808 ≤ v ∧ v ≤ 9223372036854775807) : Calls Try.prog 14 #[.pointer (some ⟨d, 0, none⟩), .int .i64 v] w fun e w' => e = .returned (.tuple #[.int .i64 (rowD D v).2.1, .bool (isSet D v)]) ∧ Below w.heap.size w w' := by
  obtain ⟨vs, vo, vt, h, rfl⟩ := h
  exact reason_any h v hb
theorem place_trail (h : Trail w base d fp D) (v : Int) (hb : -9223372036854775808 ≤ v ∧ v ≤ 9223372036854775807) : Calls Try.prog 24 #[.pointer (some ⟨d, 0, none⟩), .int .i64 v] w fun e w' => e = .returned (.tuple #[.int .i64 (rowD D v).2.2.1, .bool (isSet D v)]) ∧ Below w.heap.size w w' := by
  obtain ⟨vs, vo, vt, h, rfl⟩ := h
  exact place_any h v hb
theorem now_trail (h : Trail w base d fp D) : Calls Try.prog 20 #[.pointer (some ⟨d, 0, none⟩)] w fun e w' => e = .returned (.int .i64 ((D.st.length : Int) - 1)) ∧ w = w' := by
  obtain ⟨vs, vo, vt, h, rfl⟩ := h
  exact now_ok h
theorem len_trail (h : Trail w base d fp D) : Calls Try.prog 23 #[.pointer (some ⟨d, 0, none⟩)] w fun e w' => e = .returned (.int .i64 (D.its.length : Int)) ∧ w = w' := by
  obtain ⟨vs, vo, vt, h, rfl⟩ := h
  exact len_ok h
theorem vars_trail (h : Trail w base d fp D) : Calls Try.prog 32 #[.pointer (some ⟨d, 0, none⟩)] w fun e w' => e = .returned (.int .i64 (D.n : Int)) ∧ w = w' := by
  obtain ⟨vs, vo, vt, h, rfl⟩ := h
  exact vars_ok h
/-- What At and Start answer. -/
def atD (D : Trl) (i : Int) : Int := if 0 ≤ i then ((lits D)[i.toNat]?).getD 0 else 0
def atE (D : Trl) (i : Int) : Int := if 0 ≤ i ∧ i < D.its.length then 0 else 2
def startD (D : Trl) (i : Int) : Int := if 0 ≤ i then ((sts D)[i.toNat]?).getD 0 else 0
def startE (D : Trl) (i : Int) : Int := if 0 ≤ i ∧ i < D.st.length then 0 else 42
theorem at_trail (h : Trail w base d fp D) (i : Int) : Calls Try.prog 26 #[.pointer (some ⟨d, 0, none⟩), .int .i64 i] w fun e w' => e = .returned (.tuple #[.int .i64 (atD D i), .int .i64 (atE D i)]) ∧ w = w' := by
  obtain ⟨vs, vo, vt, h, rfl⟩ := h
  by_cases hi : 0 ≤ i ∧ i < D.its.length
  · obtain ⟨x, hx⟩ : ∃ x, D.its[i.toNat]? = some x := ⟨_, List.getElem?_eq_getElem (by omega)⟩
    rw [show atE D i = 0 from if_pos hi, show atD D i = x.lit by unfold atD; rw [if_pos hi.1, lits, List.getElem?_map, hx]; rfl]
    exact at_yes h i hi.1 hx
  · rw [show atE D i = 2 from if_neg hi, show atD D i = 0 by
      unfold atD
      split
      · rw [List.getElem?_eq_none (by simp [lits]; omega)]; rfl
      · rfl]
    exact at_no h i (by omega)
theorem start_trail (h : Trail w base d fp D) (i : Int) : Calls Try.prog 27 #[.pointer (some ⟨d, 0, none⟩), .int .i64 i] w fun e w' => e = .returned (.tuple #[.int .i64 (startD D i), .int .i64 (startE D i)]) ∧ w = w' := by
  obtain ⟨vs, vo, vt, h, rfl⟩ := h
  by_cases hi : 0 ≤ i ∧ i < D.st.length
  · obtain ⟨x, hx⟩ : ∃ x, D.st[i.toNat]? = some x := ⟨_, List.getElem?_eq_getElem (by omega)⟩
    rw [show startE D i = 0 from if_pos hi, show startD D i = (x : Int) by unfold startD; rw [if_pos hi.1, sts, List.getElem?_map, hx]; rfl]
    exact start_yes h i hi.1 hx
  · rw [show startE D i = 42 from if_neg hi, show startD D i = 0 by
      unfold startD
      split
      · rw [List.getElem?_eq_none (by simp [sts]; omega)]; rfl
      · rfl]
    exact start_no h i (by omega)
theorem value_trail (h : Trail w base d fp D) (l : Int) : Calls Try.prog 17 #[.pointer (some ⟨d, 0, none⟩), .int .i64 l] w fun e w' => e = .returned (.int .i64 (valD D l)) ∧ Below w.heap.size w w' := by
  obtain ⟨vs, vo, vt, h, rfl⟩ := h
  exact value_any h l
end
end Go.Proofs.Ytkedepkhcbhcdaa
