/- Trails: the reference. -/
import Derived.Test.YtkedepkhcbhcdaaTrlR
namespace Go.Proofs.Ytkedepkhcbhcdaa
open Go Go.RowKit Go.Shelf
set_option linter.unusedVariables false
set_option linter.unusedSimpArgs false
set_option maxHeartbeats 4000000
def encI (x : Itm) : List Value := [.int .i64 x.lit, .int .i64 x.rsn, .int .i64 x.lvl]
def encIs (l : List Itm) : List Value := l.flatMap encI
theorem encIs_snoc (l : List Itm) (x : Itm) : encIs (l ++ [x]) = encIs l ++ encI x := by simp [encIs]
theorem encIs_len (l : List Itm) : (encIs l).length = l.length * 3 := by
  induction l with
  | nil => rfl
  | cons x es ih => show (encI x ++ encIs es).length = _; rw [List.length_append, ih]; simp [encI]; omega
theorem encIs_at (es : List Itm) : ∀ (k j : Nat) (x : Itm), es[k]? = some x → j < 3 → (encIs es)[k * 3 + j]? = (encI x)[j]? := by
  induction es with
  | nil => intro k j x h; cases h
  | cons y es ih =>
    intro k j x h hj
    cases k with
    | zero =>
      simp at h
      subst h
      show (encI y ++ encIs es)[0 * 3 + j]? = _
      rw [List.getElem?_append_left (by simp [encI]; omega)]
      simp
    | succ k =>
      show (encI y ++ encIs es)[_]? = _
      rw [List.getElem?_append_right (by simp [encI]; omega)]
      have := ih k j x (by simpa using h) hj
      rw [← this]
      congr 1
      simp [encI]; omega
/-- A trail of the reference: a value with two rows. -/
def Ref (W : World) (v : Value) (D : Trl) : Prop := ∃ Ai ci As cs, v = .agg #[.int .i64 D.n, .int .i64 ((D.st.length : Int) - 1), .slice Ai D.its.length ci, .slice As D.st.length cs] ∧
  Reads W W.heap.size 3 Ai D.its.length (encIs D.its) ∧ Reads W W.heap.size 1 As D.st.length (litV (sts D)) ∧ D.its.length ≤ ci ∧ ci ≤ 9223372036854775807 ∧ D.st.length ≤ cs ∧ cs ≤ 9223372036854775807
theorem Ref.new {W W' : World} {v : Value} {D : Trl} (h : Ref W v D) (hb : Below W.heap.size W W') : Ref W' v D := by
  obtain ⟨Ai, ci, As, cs, e, h1, h2, h3⟩ := h
  exact ⟨Ai, ci, As, cs, e, (h1.below hb).more hb.size, (h2.below hb).more hb.size, h3⟩
section
variable {w : World}
theorem rright (l : Int) : Calls Try.prog 31 #[.int .i64 l] w fun e w' => e = .returned (.bool (rightL l)) ∧ w = w' := by
  by_cases h1 : 1 ≤ l
  · by_cases h2 : l ≤ 1048576
    · have hr : rightL l = true := by simp [rightL]; omega
      replace hr := Lib.hid hr
      go_enter Try.func31, Try.ntmps31
      go_wp2
      go_ret
      exact ⟨by rw [hr.out]; rfl, rfl⟩
    · have hr : rightL l = false := by simp [rightL]; omega
      replace hr := Lib.hid hr
      have h3 : ¬ l ≤ -1 := by omega
      have h4 : -1048576 ≤ l := by omega
      go_enter Try.func31, Try.ntmps31
      go_wp2
      go_ret
      exact ⟨by rw [hr.out]; rfl, rfl⟩
  · by_cases h2 : -1048576 ≤ l
    · by_cases h3 : l ≤ -1
      · have hr : rightL l = true := by simp [rightL]; omega
        replace hr := Lib.hid hr
        go_enter Try.func31, Try.ntmps31
        go_wp2
        go_ret
        exact ⟨by rw [hr.out]; rfl, rfl⟩
      · have hr : rightL l = false := by simp [rightL]; omega
        replace hr := Lib.hid hr
        go_enter Try.func31, Try.ntmps31
        go_wp2
        go_ret
        exact ⟨by rw [hr.out]; rfl, rfl⟩
    · have hr : rightL l = false := by simp [rightL]; omega
      replace hr := Lib.hid hr
      go_enter Try.func31, Try.ntmps31
      go_wp2
      go_ret
      exact ⟨by rw [hr.out]; rfl, rfl⟩
theorem rvar (l : Int) : Calls Try.prog 48 #[.int .i64 l] w fun e w' => e = .returned (.int .i64 (varL l)) ∧ w = w' := by
  obtain ⟨b, hb⟩ : ∃ b, rightL l = b := ⟨_, rfl⟩
  have hr := rright (w := w) l
  rw [hb] at hr
  replace hr := Lib.hid hr
  cases b with
  | false =>
    have hv : varL l = 0 := by rw [varL, hb]; rfl
    replace hv := Lib.hid hv
    clear hb
    go_enter Try.func48, Try.ntmps48
    go_wp2_with (go_at_call 31; with_reducible refine hr.out.mono ?_; rintro e w' ⟨rfl, rfl⟩)
    go_ret
    exact ⟨ret_int hv.out.symm, rfl⟩
  | true =>
    have hv : varL l = if l < 0 then -l else l := by rw [varL, hb]; rfl
    have hl : -1048576 ≤ l ∧ l ≤ 1048576 := by simp [rightL] at hb; omega
    obtain ⟨l1, l2⟩ := hl
    replace hv := Lib.hid hv
    clear hb
    go_enter Try.func48, Try.ntmps48
    go_wp2_with (go_at_call 31; with_reducible refine hr.out.mono ?_; rintro e w' ⟨rfl, rfl⟩)
    all_goals
      go_ret
      refine ⟨ret_int ?_, rfl⟩
      rw [hv.out]
      first | rfl | (split <;> omega)
end
theorem caps_ok {W : World} {v : Value} {D : Trl} (h : Ref W v D) (hD : D.its.length ≤ 1048576 ∧ D.st.length ≤ 1048576) : True := trivial
theorem rnew (n : Nat) (w : World) : Calls Try.prog 42 #[.int .i64 (n : Int)] w fun e w' => ∃ v, e = .returned v ∧ Ref w' v (newT n) ∧ Below w.heap.size w w' := by
  go_enter Try.func42, Try.ntmps42
  go_wp2
  refine bodyPost_ret (results_cell_row rfl _ _ w.heap.size 82 _ (0, 0) _ rfl ((heap_alloc_old _ _ _ (by simp)).trans (heap_new _ _)) Try.underlying82 rfl (by kernel_rfl)) rfl ?_
  refine ⟨_, rfl, ⟨none, 0, some ⟨w.heap.size + 1, 0, none⟩, 1, rfl, Reads.none_, ?_, by simp [newT], by omega, by simp [newT], by omega⟩, ((Below.refl _ _).alloc (Nat.le_refl _) _).alloc (by simp) _⟩
  have h := Blk.new (w.alloc (.cells #[.int .i64 (n : Int), .int .i64 0, .slice none 0 0, .slice (some ⟨w.heap.size + 1, 0, none⟩) 1 1] 82)) 3 #[.int .i64 0]
  rw [World.size_alloc] at h
  exact Reads.of_own (own_all (base := 0) (b := 1) h (by omega) rfl rfl (by omega))
/-- A boxed trail of the reference. -/
theorem Ref.row {W : World} {B k : Nat} {D : Trl} {Ai : Option Addr} {x : Itm} (h : Reads W B 3 Ai D.its.length (encIs D.its)) (hx : D.its[k]? = some x) : ∃ ad, Ai = some ad ∧ ad.block < B ∧
    W.cell? (ad.add (k * 3)) = some (.int .i64 x.lit) ∧ W.cell? (ad.add (k * 3 + 1)) = some (.int .i64 x.rsn) ∧ W.cell? (ad.add (k * 3 + 2)) = some (.int .i64 x.lvl) := by
  have hk := (List.getElem?_eq_some_iff.1 hx).1
  obtain ⟨ad, e, hb, hc⟩ := h.2 (by omega)
  exact ⟨ad, e, hb, hc _ _ (by have := encIs_at D.its k 0 x hx (by omega); simpa [encI] using this), hc _ _ (by have := encIs_at D.its k 1 x hx (by omega); simpa [encI] using this), hc _ _ (by have := encIs_at D.its k 2 x hx (by omega); simpa [encI] using this)⟩
def placeR (D : Trl) (v : Int) : Int := if v ≤ 0 then -1 else match pos D.its v with | some i => (i : Int) | none => -1
theorem placeR_none {D : Trl} {v : Int} (h : v ≤ 0 ∨ ∀ (k : Nat) (x : Itm), D.its[k]? = some x → Itm.is v x = false) : placeR D v = -1 := by
  unfold placeR
  split
  · rfl
  · rename_i hv
    rw [(pos_any _ _).2 (by
      rw [List.any_eq_false]
      intro x hx
      obtain ⟨k, hk⟩ := List.mem_iff_getElem?.1 hx
      rw [h.resolve_left hv k x hk]; simp)]
theorem placeR_some {D : Trl} {v : Int} {i : Nat} {x : Itm} (hv : 0 < v) (hx : D.its[i]? = some x) (hi : Itm.is v x = true) (h : ∀ (k : Nat) (x : Itm), k < i → D.its[k]? = some x → Itm.is v x = false) : placeR D v = i := by
  have : pos D.its v = some i := by
    unfold pos
    rw [List.findIdx?_eq_some_iff_getElem]
    obtain ⟨h1, h2⟩ := List.getElem?_eq_some_iff.1 hx
    refine ⟨h1, by rw [h2]; exact hi, fun j hj => ?_⟩
    rw [h j _ hj (List.getElem?_eq_getElem (by omega))]; simp
  unfold placeR
  rw [if_neg (by omega), this]
theorem varL_item {D : Trl} (h : D.Ok) {x : Itm} (hx : x ∈ D.its) : varL x.lit = (if x.lit < 0 then -x.lit else x.lit) ∧ rightL x.lit = true := by
  have h1 := h.lits x hx
  have h2 := h.n0
  have hr : rightL x.lit = true := by simp [rightL]; omega
  exact ⟨by rw [varL, hr]; rfl, hr⟩
set_option maxRecDepth 100000 in
theorem rplace {w : World} {v : Value} {D : Trl} (h : Ref w v D) (hok : D.Ok) (x : Int) : Calls Try.prog 50 #[v, .int .i64 x] w fun e w' => e = .returned (.int .i64 (placeR D x)) ∧ Below w.heap.size w w' := by
  obtain ⟨Ai, ci, As, cs, rfl, hI, hS, k1, k2, k3, k4⟩ := h
  have hB : Below w.heap.size w (w.alloc (.cells #[.int .i64 D.n, .int .i64 ((D.st.length : Int) - 1), .slice Ai D.its.length ci, .slice As D.st.length cs] 82)) := (Below.refl _ _).alloc (Nat.le_refl _) _
  have hb := Blk.new w 82 #[.int .i64 D.n, .int .i64 ((D.st.length : Int) - 1), .slice Ai D.its.length ci, .slice As D.st.length cs]
  replace hI := hI.below hB
  have hfew : D.its.length ≤ 1048576 := by have := hok.few; have := hok.n0; omega
  replace hok := Lib.hid hok
  clear hS k1 k2 k3 k4
  go_enter Try.func50, Try.ntmps50
  go_wp2_with fail
  generalize w.alloc (.cells #[.int .i64 D.n, .int .i64 ((D.st.length : Int) - 1), .slice Ai D.its.length ci, .slice As D.st.length cs] 82) = W1 at *
  have b2 := hb.cell 2
  simp only [List.getElem?_toArray, List.getElem?_cons_succ, List.getElem?_cons_zero] at b2
  go_loopw [5] (fun i wr => ∃ k : Nat, k ≤ D.its.length ∧ i = .int .i64 k ∧ wr = W1 ∧ (0 < x → ∀ (j : Nat) (y : Itm), j < k → D.its[j]? = some y → Itm.is x y = false)) (fun i _ => D.its.length - (intOf i).toNat)
  case atStart => exact ⟨0, by omega, rfl, rfl, fun _ j y hj => by omega⟩
  case round =>
    obtain ⟨k, hk, rfl, rfl, hno⟩ := hrel
    have hj0 : 0 ≤ (k : Int) := by omega
    have hjs : (k : Int) ≤ 1048576 := by omega
    by_cases hlt : k < D.its.length
    · obtain ⟨y, hy⟩ : ∃ y, D.its[k]? = some y := ⟨_, List.getElem?_eq_getElem hlt⟩
      obtain ⟨ad, hA, _, q0, _, _⟩ := Ref.row hI hy
      subst hA
      have t1 : (k : Int) < (D.its.length : Int) := by omega
      have hvi := varL_item hok.out (List.mem_of_getElem? hy)
      obtain ⟨vv, hvv⟩ : ∃ vv, varL y.lit = vv := ⟨_, rfl⟩
      have hlit := hok.out.lits y (List.mem_of_getElem? hy)
      have hx2 : Itm.is x y = true ↔ y.lit = x ∨ y.lit = -x := Itm.is_iff x y
      replace hno := Lib.hid hno
      have hvc := rvar (w := wr) y.lit
      rw [hvv] at hvc hvi
      replace hvc := Lib.hid hvc
      by_cases hp : 0 < x
      · by_cases he : vv = x
        · have hb1 : (vv == x) = true := by simp [he]
          have hfin : placeR D x = (k : Int) := placeR_some hp hy (hx2.2 (by rw [← he, hvi.1]; split <;> omega)) (hno.out hp)
          clear hy hvi hlit hx2 he
          replace hfin := Lib.hid hfin
          generalize y.lit = yl at *
          go_wp2_with (go_at_call 48; with_reducible refine hvc.out.mono ?_; rintro e w' ⟨rfl, rfl⟩)
          go_ret
          exact ⟨ret_int hfin.out.symm, hB⟩
        · have hb1 : (vv == x) = false := by simpa using he
          have hnext : ∀ (j : Nat) (z : Itm), j < k + 1 → D.its[j]? = some z → Itm.is x z = false := by
            intro j z hj hz
            by_cases hjk : j < k
            · exact hno.out hp j z hjk hz
            · obtain rfl : j = k := by omega
              rw [hy] at hz
              injection hz with hz
              subst hz
              rw [← Bool.not_eq_true, hx2]
              intro hc
              apply he
              rw [hvi.1]
              split <;> omega
          clear hy hvi hlit hx2 he
          replace hnext := Lib.hid hnext
          generalize y.lit = yl at *
          go_wp2_with (go_at_call 48; with_reducible refine hvc.out.mono ?_; rintro e w' ⟨rfl, rfl⟩)
          go_roundw
          case rel => exact ⟨k + 1, by omega, by go_num, trivial, fun _ => hnext.out⟩
          case measure => simp [intOf]; omega
      · clear hy hvi hlit hx2
        generalize y.lit = yl at *
        go_wp2_with (go_at_call 48; with_reducible refine hvc.out.mono ?_; rintro e w' ⟨rfl, rfl⟩)
        go_roundw
        case rel => exact ⟨k + 1, by omega, by go_num, trivial, fun h => absurd h (by omega)⟩
        case measure => simp [intOf]; omega
    · obtain rfl : k = D.its.length := by omega
      have hfin : placeR D x = -1 := by
        apply placeR_none
        by_cases hp : 0 < x
        · exact .inr fun j y hy => hno hp j y (List.getElem?_eq_some_iff.1 hy).1 hy
        · exact .inl (by omega)
      replace hfin := Lib.hid hfin
      clear hno
      go_wp2
      go_ret
      exact ⟨ret_int hfin.out.symm, hB⟩
end Go.Proofs.Ytkedepkhcbhcdaa
