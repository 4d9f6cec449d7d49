/- Trails: what only asks, further. -/
import Derived.Test.YtkedepkhcbhcdaaTrlA
namespace Go.Proofs.Ytkedepkhcbhcdaa
open Go Go.RowKit
set_option linter.unusedVariables false
set_option linter.unusedSimpArgs false
set_option maxHeartbeats 4000000
/-- A variable's row; nothing, of what is none. -/
def rowD (D : Trl) (v : Int) : Sta := if 1 ≤ v ∧ v ≤ D.n then row D.its v else (0, 0, 0, 0)
def isSet (D : Trl) (v : Int) : Bool := (rowD D v).2.2.2 != 0
theorem row_zero (its : List Itm) (v : Int) (h : (row its v).2.2.2 = 0) : row its v = (0, 0, 0, 0) := by
  unfold row at h ⊢
  cases hp : pos its v with
  | none => rfl
  | some i =>
    rw [hp] at h
    obtain ⟨x, hx, _⟩ := pos_some hp
    simp only [hx] at h ⊢
    unfold sgn at h
    split at h <;> simp at h
theorem row_bd {D : Trl} (h : D.Ok) (v : Int) : (0 ≤ (row D.its v).1 ∧ (row D.its v).1 ≤ 1048576) ∧ (0 ≤ (row D.its v).2.1 ∧ (row D.its v).2.1 ≤ 1073741824) ∧ (0 ≤ (row D.its v).2.2.1 ∧ (row D.its v).2.2.1 ≤ 1048576) ∧ (-1 ≤ (row D.its v).2.2.2 ∧ (row D.its v).2.2.2 ≤ 1) := by
  unfold row
  cases hp : pos D.its v with
  | none => simp
  | some i =>
    obtain ⟨x, hx, _⟩ := pos_some hp
    simp only [hx]
    have h1 := h.lits x (List.mem_of_getElem? hx)
    have h2 := (List.getElem?_eq_some_iff.1 hx).1
    have h3 := h.few
    have h4 := h.n0
    have h5 := h.st1
    have h6 : sgn x.lit = -1 ∨ sgn x.lit = 1 := by unfold sgn; split <;> simp
    omega
theorem below_drewN' (w : World) (n : Nat) : Below w.heap.size w (w.drewN n) := ⟨rfl, rfl, rfl, Nat.le_refl _, fun _ _ => rfl⟩
section
variable {w : World} {base d : Nat} {vs vo vt : Value} {D : Trl}
theorem why_any (h : Trm w base d vs vo vt D) (v : Int) (hb : -9223372036854775808 ≤ v ∧ v ≤ 9223372036854775807) :
    Calls Try.prog 37 #[.pointer (some ⟨d, 0, none⟩), .int .i64 v] w fun e w' => e = .returned (.tuple #[.agg #[.int .i64 (rowD D v).1, .int .i64 (rowD D v).2.1, .int .i64 (rowD D v).2.2.1], .bool (isSet D v)]) ∧ Below w.heap.size w w' := by
  have hA := (Below.refl _ w).alloc (Nat.le_refl _) (.cells #[.int .i64 0, .int .i64 0, .int .i64 0] 71)
  have h2 := h.new hA
  by_cases hv : 1 ≤ v ∧ v ≤ D.n
  · have hr : rowD D v = row D.its v := if_pos hv
    have hs : isSet D v = ((row D.its v).2.2.2 != 0) := by unfold isSet; rw [hr]
    rw [hr, hs]
    obtain ⟨g, c, rfl, hc⟩ := h.tabl
    obtain ⟨q0, q1, q2, q3⟩ := h2.rowAt v.toNat (by omega)
    rw [Int.toNat_of_nonneg (by omega)] at q0 q1 q2 q3
    have hz := row_zero D.its v
    have hg := (h2.hv.lt g rfl).2
    generalize row D.its v = r at q0 q1 q2 q3 hz ⊢
    obtain ⟨r0, r1, r2, r3⟩ := r
    dsimp only at q0 q1 q2 q3 hz ⊢
    replace h2 := Lib.hid h2
    clear h hr hs
    by_cases h3 : r3 = 0
    · obtain ⟨rfl, rfl, rfl, _⟩ : r0 = 0 ∧ r1 = 0 ∧ r2 = 0 ∧ r3 = 0 := by have := hz h3; simp at this; exact this
      subst h3
      clear hz
      go_enter Try.func37, Try.ntmps37
      go_wp2_with (go_at_call 35; refine (state_yes h2.out v hv.1 hv.2).mono ?_; rintro e w' ⟨rfl, rfl⟩)
      exact bodyPost_ret (v := .tuple #[.agg #[.int .i64 0, .int .i64 0, .int .i64 0], .bool false]) (by simp [results, Try.results37, go_sem]) rfl ⟨rfl, hA⟩
    · have e3 : (r3 == 0) = false := by simpa using h3
      have e4 : (r3 != 0) = true := by simpa using h3
      clear hz h3
      rw [e4]
      have hA2 := (Below.refl _ w).alloc (Nat.le_refl _) (.cells #[.int .i64 r0, .int .i64 r1, .int .i64 r2] 71)
      go_enter Try.func37, Try.ntmps37
      go_wp2_with (go_at_call 35; refine (state_yes h2.out v hv.1 hv.2).mono ?_; rintro e w' ⟨rfl, rfl⟩)
      exact bodyPost_ret (v := .tuple #[.agg #[.int .i64 r0, .int .i64 r1, .int .i64 r2], .bool true]) (by simp [results, Try.results37, go_sem]) rfl ⟨rfl, hA2⟩
  · have hr : rowD D v = (0, 0, 0, 0) := if_neg hv
    have hs : isSet D v = false := by unfold isSet; rw [hr]; rfl
    rw [hr, hs]
    have hv2 : v < 1 ∨ (D.n : Int) < v := by omega
    replace hv2 := Lib.hid hv2
    clear hv hr hs h
    replace h2 := Lib.hid h2
    go_enter Try.func37, Try.ntmps37
    go_wp2_with (go_at_call 35; refine (state_no h2.out v hv2.out hb).mono ?_; rintro e w' ⟨rfl, rfl⟩)
    exact bodyPost_ret (v := .tuple #[.agg #[.int .i64 0, .int .i64 0, .int .i64 0], .bool false]) (by simp [results, Try.results37, go_sem]) rfl ⟨rfl, hA⟩
end
section
variable {w : World} {base d : Nat} {vs vo vt : Value} {D : Trl}
theorem level_any (h : Trm w base d vs vo vt D) (v : Int) (hb : -9223372036854775808 ≤ v ∧ v ≤ 9223372036854775807) :
    Calls Try.prog 16 #[.pointer (some ⟨d, 0, none⟩), .int .i64 v] w fun e w' => e = .returned (.tuple #[.int .i64 (rowD D v).1, .bool (isSet D v)]) ∧ Below w.heap.size w w' := by
  go_enter Try.func16, Try.ntmps16
  go_wp2_with (go_at_call 37; refine (why_any h v hb).mono ?_; rintro e w' ⟨rfl, hB⟩)
  go_ret2
  exact ⟨rfl, hB.alloc hB.size _⟩
theorem reason_any (h : Trm w base d vs vo vt D) (v : Int) (hb : -9223372036854775808 ≤ v ∧ v ≤ 9223372036854775807) :
    Calls Try.prog 14 #[.pointer (some ⟨d, 0, none⟩), .int .i64 v] w fun e w' => e = .returned (.tuple #[.int .i64 (rowD D v).2.1, .bool (isSet D v)]) ∧ Below w.heap.size w w' := by
  go_enter Try.func14, Try.ntmps14
  go_wp2_with (go_at_call 37; refine (why_any h v hb).mono ?_; rintro e w' ⟨rfl, hB⟩)
  go_ret2
  exact ⟨rfl, hB.alloc hB.size _⟩
theorem place_any (h : Trm w base d vs vo vt D) (v : Int) (hb : -9223372036854775808 ≤ v ∧ v ≤ 9223372036854775807) :
    Calls Try.prog 24 #[.pointer (some ⟨d, 0, none⟩), .int .i64 v] w fun e w' => e = .returned (.tuple #[.int .i64 (rowD D v).2.2.1, .bool (isSet D v)]) ∧ Below w.heap.size w w' := by
  go_enter Try.func24, Try.ntmps24
  go_wp2_with (go_at_call 37; refine (why_any h v hb).mono ?_; rintro e w' ⟨rfl, hB⟩)
  go_ret2
  exact ⟨rfl, hB.alloc hB.size _⟩
theorem now_ok (h : Trm w base d vs vo vt D) : Calls Try.prog 20 #[.pointer (some ⟨d, 0, none⟩)] w fun e w' => e = .returned (.int .i64 ((D.st.length : Int) - 1)) ∧ w = w' := by
  have c2 := h.c2
  have h1 := h.ok.st1
  have h2 := h.ok.st2
  obtain ⟨A, c, rfl⟩ := own_form h.ht
  replace h := Lib.hid h
  go_enter Try.func20, Try.ntmps20
  go_wp2_with (go_at_call 34; refine (is_ok h.out).mono ?_; rintro e w' ⟨rfl, rfl⟩)
  go_ret
  exact ⟨rfl, rfl⟩
theorem len_ok (h : Trm w base d vs vo vt D) : Calls Try.prog 23 #[.pointer (some ⟨d, 0, none⟩)] w fun e w' => e = .returned (.int .i64 (D.its.length : Int)) ∧ w = w' := by
  have c1 := h.c1
  obtain ⟨A, c, rfl⟩ := own_form h.ho
  replace h := Lib.hid h
  go_enter Try.func23, Try.ntmps23
  go_wp2_with (go_at_call 34; refine (is_ok h.out).mono ?_; rintro e w' ⟨rfl, rfl⟩)
  go_ret
  exact ⟨rfl, rfl⟩
theorem vars_ok (h : Trm w base d vs vo vt D) : Calls Try.prog 32 #[.pointer (some ⟨d, 0, none⟩)] w fun e w' => e = .returned (.int .i64 (D.n : Int)) ∧ w = w' := by
  have c0 := h.c0
  have h1 := h.ok.n0
  obtain ⟨g, c, rfl, _⟩ := h.tabl
  replace h := Lib.hid h
  go_enter Try.func32, Try.ntmps32
  go_wp2_with (go_at_call 34; refine (is_ok h.out).mono ?_; rintro e w' ⟨rfl, rfl⟩)
  go_ret
  exact ⟨ret_int (by omega), rfl⟩
theorem at_yes (h : Trm w base d vs vo vt D) (i : Int) {x : Itm} (h0 : 0 ≤ i) (hx : D.its[i.toNat]? = some x) : Calls Try.prog 26 #[.pointer (some ⟨d, 0, none⟩), .int .i64 i] w fun e w' => e = .returned (.tuple #[.int .i64 x.lit, .int .i64 0]) ∧ w = w' := by
  have c1 := h.c1
  obtain ⟨k, rfl⟩ := Int.eq_ofNat_of_zero_le h0
  rw [Int.toNat_natCast] at hx
  have hlt := (List.getElem?_eq_some_iff.1 hx).1
  have hfew := h.ok.few
  have hn0 := h.ok.n0
  obtain ⟨g, c, hv, _, _⟩ := h.ho.form (by omega)
  subst hv
  have hc := h.ho.cellAt k (by omega)
  rw [litV, lits, List.getElem?_map, List.getElem?_map, hx] at hc
  simp only [Option.map_some] at hc
  have e2 : (k : Int) < (D.its.length : Int) := by omega
  have e3 : ¬ (D.its.length : Int) ≤ (k : Int) := by omega
  replace h := Lib.hid h
  replace hx := Lib.hid hx
  go_enter Try.func26, Try.ntmps26
  go_wp2_with (go_at_call 34; refine (is_ok h.out).mono ?_; rintro e w' ⟨rfl, rfl⟩)
  go_ret2
  exact ⟨rfl, rfl⟩
theorem at_no (h : Trm w base d vs vo vt D) (i : Int) (hi : i < 0 ∨ (D.its.length : Int) ≤ i) : Calls Try.prog 26 #[.pointer (some ⟨d, 0, none⟩), .int .i64 i] w fun e w' => e = .returned (.tuple #[.int .i64 0, .int .i64 2]) ∧ w = w' := by
  have c1 := h.c1
  obtain ⟨A, c, rfl⟩ := own_form h.ho
  replace h := Lib.hid h
  rcases hi with hi | hi
  · go_enter Try.func26, Try.ntmps26
    go_wp2_with (go_at_call 34; refine (is_ok h.out).mono ?_; rintro e w' ⟨rfl, rfl⟩)
    go_ret2
    exact ⟨rfl, rfl⟩
  · have e1 : ¬ i < 0 := by omega
    go_enter Try.func26, Try.ntmps26
    go_wp2_with (go_at_call 34; refine (is_ok h.out).mono ?_; rintro e w' ⟨rfl, rfl⟩)
    go_ret2
    exact ⟨rfl, rfl⟩
theorem start_yes (h : Trm w base d vs vo vt D) (i : Int) {s : Nat} (h0 : 0 ≤ i) (hx : D.st[i.toNat]? = some s) : Calls Try.prog 27 #[.pointer (some ⟨d, 0, none⟩), .int .i64 i] w fun e w' => e = .returned (.tuple #[.int .i64 (s : Int), .int .i64 0]) ∧ w = w' := by
  have c2 := h.c2
  obtain ⟨k, rfl⟩ := Int.eq_ofNat_of_zero_le h0
  rw [Int.toNat_natCast] at hx
  have hlt := (List.getElem?_eq_some_iff.1 hx).1
  have hst1 := h.ok.st1
  obtain ⟨g, c, hv, _, _⟩ := h.ht.form (by omega)
  subst hv
  have hc := h.ht.cellAt k (by omega)
  rw [litV, sts, List.getElem?_map, List.getElem?_map, hx] at hc
  simp only [Option.map_some] at hc
  have e2 : (k : Int) < (D.st.length : Int) := by omega
  have e3 : ¬ (D.st.length : Int) ≤ (k : Int) := by omega
  replace h := Lib.hid h
  replace hx := Lib.hid hx
  go_enter Try.func27, Try.ntmps27
  go_wp2_with (go_at_call 34; refine (is_ok h.out).mono ?_; rintro e w' ⟨rfl, rfl⟩)
  go_ret2
  exact ⟨rfl, rfl⟩
theorem start_no (h : Trm w base d vs vo vt D) (i : Int) (hi : i < 0 ∨ (D.st.length : Int) ≤ i) : Calls Try.prog 27 #[.pointer (some ⟨d, 0, none⟩), .int .i64 i] w fun e w' => e = .returned (.tuple #[.int .i64 0, .int .i64 42]) ∧ w = w' := by
  have c2 := h.c2
  obtain ⟨A, c, rfl⟩ := own_form h.ht
  replace h := Lib.hid h
  rcases hi with hi | hi
  · go_enter Try.func27, Try.ntmps27
    go_wp2_with (go_at_call 34; refine (is_ok h.out).mono ?_; rintro e w' ⟨rfl, rfl⟩)
    go_ret2
    exact ⟨rfl, rfl⟩
  · have e1 : ¬ i < 0 := by omega
    go_enter Try.func27, Try.ntmps27
    go_wp2_with (go_at_call 34; refine (is_ok h.out).mono ?_; rintro e w' ⟨rfl, rfl⟩)
    go_ret2
    exact ⟨rfl, rfl⟩
theorem value_any (h : Trm w base d vs vo vt D) (l : Int) : Calls Try.prog 17 #[.pointer (some ⟨d, 0, none⟩), .int .i64 l] w fun e w' => e = .returned (.int .i64 (valD D l)) ∧ Below w.heap.size w w' := by
  have hn := h.ok.n0
  have hvb : -1048576 ≤ varL l ∧ varL l ≤ 1048576 := by
    unfold varL rightL
    split
    · rename_i hr
      simp at hr
      split <;> omega
    · omega
  by_cases hv : l ≠ 0 ∧ -(D.n : Int) ≤ l ∧ l ≤ D.n
  · have hr : rightL l = true := by simp [rightL]; omega
    have hvl : varL l = if l < 0 then -l else l := by rw [varL, hr]; rfl
    have hval : valD D l = (row D.its (varL l)).2.2.2 * sgn l := by unfold valD isV; rw [if_pos (by simpa using hv), hvl]
    have hs : sgn l = -1 ∨ sgn l = 1 := by unfold sgn; split <;> simp
    have h1 : 1 ≤ varL l := by rw [hvl]; split <;> omega
    have h2 : varL l ≤ D.n := by rw [hvl]; split <;> omega
    rw [hval]
    obtain ⟨g, c, rfl, hc⟩ := h.tabl
    obtain ⟨_, _, _, q3⟩ := h.rowAt (varL l).toNat (by omega)
    rw [Int.toNat_of_nonneg (by omega)] at q3
    have hrb := (row_bd h.ok (varL l)).2.2.2
    have hst := state_yes h (varL l) h1 h2
    have hsg : ∀ w, Calls Try.prog 36 #[.int .i64 l] w fun e w' => e = .returned (.int .i64 (sgn l)) ∧ w = w' := fun w => sign_any l
    have hva : ∀ w, Calls Try.prog 25 #[.int .i64 l] w fun e w' => e = .returned (.int .i64 (varL l)) ∧ w = w' := fun w => var_any l
    clear h hval hvl hr hv
    generalize (row D.its (varL l)).2.2.2 = r at q3 hrb ⊢
    generalize varL l = v at *
    generalize sgn l = s at *
    have hm : -1 ≤ r * s ∧ r * s ≤ 1 := by rcases hs with rfl | rfl <;> omega
    replace hst := Lib.hid hst
    replace hsg := Lib.hid hsg
    replace hva := Lib.hid hva
    replace hs := Lib.hid hs
    go_enter Try.func17, Try.ntmps17
    go_wp2_with (first
      | (go_at_call 25; refine (hva.out _).mono ?_; rintro e w' ⟨rfl, rfl⟩)
      | (go_at_call 35; refine hst.out.mono ?_; rintro e w' ⟨rfl, rfl⟩))
    go_quiet ((go_at_call 36; exact Calls.quiet_of_same ((hsg.out _).mono fun e w' h => ⟨h.1, h.2.symm⟩)))
    go_wp2
    go_ret
    exact ⟨rfl, below_drewN' _ _⟩
  · have hval : valD D l = 0 := by unfold valD isV; rw [if_neg (by simpa using hv)]
    have h1 : varL l < 1 ∨ (D.n : Int) < varL l := by
      by_cases hr : rightL l = true
      · have hvl : varL l = if l < 0 then -l else l := by rw [varL, hr]; rfl
        simp [rightL] at hr
        rw [hvl]
        split <;> omega
      · have hvl : varL l = 0 := by rw [varL]; simp [hr]
        omega
    have hst := state_no h (varL l) h1 (by omega)
    rw [hval]
    replace hst := Lib.hid hst
    clear h hval hv h1
    go_enter Try.func17, Try.ntmps17
    go_wp2_with (first
      | (go_at_call 25; refine (var_any l).mono ?_; rintro e w' ⟨rfl, rfl⟩)
      | (go_at_call 35; refine hst.out.mono ?_; rintro e w' ⟨rfl, rfl⟩))
    go_ret
    exact ⟨rfl, Below.refl _ _⟩
end
end Go.Proofs.Ytkedepkhcbhcdaa
