/- Trails, plain: what is assigned, the table of variables, going back. -/
namespace Go.Proofs.Ytkedepkhcbhcdaa
set_option linter.unusedVariables false
set_option linter.unusedSimpArgs false
/-- What was assigned: a literal, its reason, its level. -/
structure Itm where
  lit : Int
  rsn : Int
  lvl : Nat
/-- A trail's state: how many variables, what was assigned, where the levels begin. -/
structure Trl where
  n : Nat
  its : List Itm
  st : List Nat
/-- A variable's row: level, reason, place, value. -/
abbrev Sta := Int × Int × Int × Int
def Itm.is (v : Int) (x : Itm) : Bool := x.lit == v || x.lit == -v
def sgn (l : Int) : Int := if l < 0 then -1 else 1
/-- The place of a variable. -/
def pos (its : List Itm) (v : Int) : Option Nat := its.findIdx? (Itm.is v)
def row (its : List Itm) (v : Int) : Sta :=
  match pos its v with
  | none => (0, 0, 0, 0)
  | some i => match its[i]? with
    | none => (0, 0, 0, 0)
    | some x => (x.lvl, x.rsn, i, sgn x.lit)
def tab (n : Nat) (its : List Itm) : List Sta := (List.range (n + 1)).map fun (v : Nat) => row its v
theorem tab_len (n : Nat) (its : List Itm) : (tab n its).length = n + 1 := by simp [tab]
theorem tab_at (n : Nat) (its : List Itm) (v : Nat) (h : v ≤ n) : (tab n its)[v]? = some (row its v) := by simp [tab, show v < n + 1 by omega]
structure Trl.Ok (D : Trl) : Prop where
  n0 : D.n ≤ 1048576
  lits : ∀ x ∈ D.its, x.lit ≠ 0 ∧ -(D.n : Int) ≤ x.lit ∧ x.lit ≤ D.n ∧ 0 ≤ x.rsn ∧ x.rsn ≤ 1073741824 ∧ x.lvl < D.st.length
  one : D.its.Pairwise (fun (x y : Itm) => x.lit ≠ y.lit ∧ x.lit ≠ -y.lit)
  st0 : D.st[0]? = some 0
  st1 : D.st.length ≤ 1048576
  sts : ∀ s ∈ D.st, s ≤ D.its.length
  stp : D.st.Pairwise (· ≤ ·)
  lvs : ∀ (i : Nat) (x : Itm), D.its[i]? = some x → ∀ (k s : Nat), D.st[k]? = some s → (s ≤ i ↔ k ≤ x.lvl)
theorem Itm.is_iff (v : Int) (x : Itm) : x.is v = true ↔ x.lit = v ∨ x.lit = -v := by simp [Itm.is]
theorem pos_none {its : List Itm} {v : Int} : pos its v = none ↔ ∀ x ∈ its, x.lit ≠ v ∧ x.lit ≠ -v := by
  unfold pos
  rw [List.findIdx?_eq_none_iff]
  constructor
  · intro h x hx
    have := h x hx
    simp [Itm.is] at this
    exact this
  · intro h x hx
    have := h x hx
    simp [Itm.is]
    exact this
theorem pos_some {its : List Itm} {v : Int} {i : Nat} (h : pos its v = some i) : ∃ x, its[i]? = some x ∧ (x.lit = v ∨ x.lit = -v) := by
  unfold pos at h
  obtain ⟨hlt, hp, _⟩ := List.findIdx?_eq_some_iff_getElem.1 h
  exact ⟨its[i], List.getElem?_eq_getElem hlt, (Itm.is_iff v _).1 hp⟩
theorem filter_two (p : Int → Bool) (l : List Int) : (l.filter p).length + (l.filter fun x => !p x).length = l.length := by
  induction l with
  | nil => rfl
  | cons x l ih => cases h : p x <;> simp [List.filter_cons, h] <;> omega
/-- A number of pairwise different variables of n ones: at most n. -/
theorem few_vars (n : Nat) : ∀ l : List Int, (∀ x ∈ l, x ≠ 0 ∧ -(n : Int) ≤ x ∧ x ≤ n) → (l.Pairwise fun x y => x ≠ y ∧ x ≠ -y) → l.length ≤ n := by
  induction n with
  | zero =>
    intro l h _
    cases l with
    | nil => simp
    | cons x l =>
      have := h x (by simp)
      omega
  | succ n ih =>
    intro l h hp
    have hf : (l.filter fun x => !(x == ((n : Int) + 1) || x == -((n : Int) + 1))).length ≤ n := by
      refine ih _ (fun x hx => ?_) (hp.filter _)
      have h1 := h x (List.mem_filter.1 hx).1
      have h2 := (List.mem_filter.1 hx).2
      simp at h2
      omega
    have hc : (l.filter fun x => (x == ((n : Int) + 1) || x == -((n : Int) + 1))).length ≤ 1 := by
      have hp2 := hp.filter (fun x => (x == ((n : Int) + 1) || x == -((n : Int) + 1)))
      have hm : ∀ x ∈ l.filter (fun x => (x == ((n : Int) + 1) || x == -((n : Int) + 1))), x = (n : Int) + 1 ∨ x = -((n : Int) + 1) := by
        intro x hx
        have := (List.mem_filter.1 hx).2
        simpa using this
      generalize l.filter (fun x => (x == ((n : Int) + 1) || x == -((n : Int) + 1))) = m at hp2 hm
      match m, hp2, hm with
      | [], _, _ => simp
      | [x], _, _ => simp
      | x :: y :: m, hp2, hm =>
        exfalso
        have h1 := hm x (by simp)
        have h2 := hm y (by simp)
        have h3 := (List.pairwise_cons.1 hp2).1 y (by simp)
        omega
    have := filter_two (fun x => (x == ((n : Int) + 1) || x == -((n : Int) + 1))) l
    omega
theorem Trl.Ok.few {D : Trl} (h : D.Ok) : D.its.length ≤ D.n := by
  have := few_vars D.n (D.its.map (·.lit)) (fun x hx => by
    obtain ⟨y, hy, rfl⟩ := List.mem_map.1 hx
    have := h.lits y hy
    exact ⟨this.1, this.2.1, this.2.2.1⟩) (by rw [List.pairwise_map]; exact h.one)
  simpa using this
theorem Trl.Ok.st2 {D : Trl} (h : D.Ok) : 1 ≤ D.st.length := (List.getElem?_eq_some_iff.1 h.st0).1
/-- A new item. -/
theorem row_snoc (its : List Itm) (x : Itm) (v : Int) (h : pos its v = none) (hv : x.lit = v ∨ x.lit = -v) : row (its ++ [x]) v = ((x.lvl : Int), x.rsn, (its.length : Int), sgn x.lit) := by
  have hp : pos (its ++ [x]) v = some its.length := by
    unfold pos at h ⊢
    rw [List.findIdx?_append, h]
    have : Itm.is v x = true := (Itm.is_iff v x).2 hv
    simp [List.findIdx?_cons, this]
  unfold row
  rw [hp]
  simp
theorem row_other (its : List Itm) (x : Itm) (v : Int) (hv : x.lit ≠ v ∧ x.lit ≠ -v) : row (its ++ [x]) v = row its v := by
  have hx : Itm.is v x = false := by
    rw [← Bool.not_eq_true, Itm.is_iff]
    omega
  have hp : pos (its ++ [x]) v = pos its v := by
    unfold pos
    rw [List.findIdx?_append]
    simp [List.findIdx?_cons, hx]
  unfold row
  rw [hp]
  cases h : pos its v with
  | none => rfl
  | some i =>
    obtain ⟨y, hy, _⟩ := pos_some h
    simp only
    rw [List.getElem?_append_left (List.getElem?_eq_some_iff.1 hy).1]
theorem tab_snoc (n : Nat) (its : List Itm) (x : Itm) (v : Nat) (hv : x.lit = v ∨ x.lit = -(v : Int)) (h : pos its v = none) : (tab n its).set v ((x.lvl : Int), x.rsn, (its.length : Int), sgn x.lit) = tab n (its ++ [x]) := by
  apply List.ext_getElem?
  intro k
  by_cases hk : k ≤ n
  · rw [tab_at n _ k hk]
    by_cases he : v = k
    · subst he
      rw [List.getElem?_set_self (by rw [tab_len]; omega), row_snoc its x v h hv]
    · rw [List.getElem?_set_ne he, tab_at n its k hk, row_other its x k (by omega)]
  · rw [List.getElem?_eq_none (by rw [List.length_set, tab_len]; omega), List.getElem?_eq_none (by rw [tab_len]; omega)]
/-- Dropping the last items. -/
theorem pos_app (its ts : List Itm) (v : Int) : pos (its ++ ts) v = (pos its v).or ((pos ts v).map (· + its.length)) := by
  unfold pos
  rw [List.findIdx?_append]
theorem tab_drop (n : Nat) (its : List Itm) (x : Itm) (v : Nat) (hv : x.lit = v ∨ x.lit = -(v : Int)) (h : pos its v = none) : (tab n (its ++ [x])).set v (0, 0, 0, 0) = tab n its := by
  rw [← tab_snoc n its x v hv h, List.set_set]
  apply List.ext_getElem?
  intro k
  by_cases he : v = k
  · subst he
    by_cases hk : v ≤ n
    · rw [List.getElem?_set_self (by rw [tab_len]; omega), tab_at n its v hk]
      simp [row, h]
    · rw [List.getElem?_eq_none (by rw [List.length_set, tab_len]; omega), List.getElem?_eq_none (by rw [tab_len]; omega)]
  · rw [List.getElem?_set_ne he]
/-- The table while the items from a place on are taken away: those of the first ones, and of the last ones. -/
def mid (its : List Itm) (e k : Nat) : List Itm := its.take e ++ its.drop k
theorem row_of (its : List Itm) (v : Int) : row its v = match pos its v with | none => (0, 0, 0, 0) | some i => match its[i]? with | none => (0, 0, 0, 0) | some x => (x.lvl, x.rsn, i, sgn x.lit) := rfl
/-- The row of a variable when its item is at a place. -/
theorem row_at {D : Trl} (h : D.Ok) {i : Nat} {x : Itm} (hx : D.its[i]? = some x) (v : Int) (hv : x.lit = v ∨ x.lit = -v) : row D.its v = ((x.lvl : Int), x.rsn, (i : Int), sgn x.lit) := by
  have hp : pos D.its v = some i := by
    unfold pos
    rw [List.findIdx?_eq_some_iff_getElem]
    obtain ⟨hi, hg⟩ := List.getElem?_eq_some_iff.1 hx
    refine ⟨hi, by rw [Itm.is_iff, hg]; exact hv, fun j hj => ?_⟩
    have := (List.pairwise_iff_getElem.1 h.one) j i (by omega) hi hj
    rw [hg] at this
    rw [Itm.is_iff]
    omega
  unfold row
  rw [hp]
  simp only
  rw [hx]
/-- What the rows are while the last items are taken away: some variables are cleared. -/
def cleared (D : Trl) (e k : Nat) : List Sta := (List.range (D.n + 1)).map fun (v : Nat) => if ((D.its.drop e).take (k - e)).any (Itm.is v) then (0, 0, 0, 0) else row D.its v
theorem cleared_zero (D : Trl) (e : Nat) : cleared D e e = tab D.n D.its := by simp [cleared, tab]
theorem cleared_len (D : Trl) (e k : Nat) : (cleared D e k).length = D.n + 1 := by simp [cleared]
theorem cleared_at (D : Trl) (e k v : Nat) (h : v ≤ D.n) : (cleared D e k)[v]? = some (if ((D.its.drop e).take (k - e)).any (Itm.is v) then (0, 0, 0, 0) else row D.its v) := by
  simp [cleared, show v < D.n + 1 by omega]
theorem cleared_step (D : Trl) (e k v : Nat) (x : Itm) (hk : e ≤ k) (hx : D.its[k]? = some x) (hv : x.lit = v ∨ x.lit = -(v : Int)) : (cleared D e k).set v (0, 0, 0, 0) = cleared D e (k + 1) := by
  have ht : (D.its.drop e).take (k + 1 - e) = (D.its.drop e).take (k - e) ++ [x] := by
    rw [show k + 1 - e = (k - e) + 1 by omega, List.take_add_one, List.getElem?_drop, show e + (k - e) = k by omega, hx]
    rfl
  apply List.ext_getElem?
  intro j
  by_cases hj : j ≤ D.n
  · rw [cleared_at D e (k + 1) j hj, ht, List.any_append]
    by_cases he : v = j
    · subst he
      rw [List.getElem?_set_self (by rw [cleared_len]; omega), if_pos]
      simp [(Itm.is_iff v x).2 hv]
    · rw [List.getElem?_set_ne he, cleared_at D e k j hj]
      have : Itm.is j x = false := by
        rw [← Bool.not_eq_true, Itm.is_iff]
        omega
      simp [this]
  · rw [List.getElem?_eq_none (by rw [List.length_set, cleared_len]; omega), List.getElem?_eq_none (by rw [cleared_len]; omega)]
theorem cleared_all {D : Trl} (h : D.Ok) (e : Nat) : cleared D e D.its.length = tab D.n (D.its.take e) := by
  apply List.ext_getElem?
  intro j
  by_cases hj : j ≤ D.n
  · rw [cleared_at D e _ j hj, tab_at _ _ j hj, List.take_of_length_le (by rw [List.length_drop]; omega)]
    congr 1
    have hsp := pos_app (D.its.take e) (D.its.drop e) j
    rw [List.take_append_drop] at hsp
    by_cases ha : (D.its.drop e).any (Itm.is j) = true
    · rw [if_pos ha]
      obtain ⟨x, hx, hix⟩ := List.any_eq_true.1 ha
      have hn : pos (D.its.take e) j = none := by
        rw [pos_none]
        intro y hy
        have hp := h.one
        rw [← List.take_append_drop e D.its] at hp
        have := (List.pairwise_append.1 hp).2.2 y hy x hx
        rw [Itm.is_iff] at hix
        omega
      simp [row, hn]
    · rw [if_neg ha]
      have hn : pos (D.its.drop e) j = none := by
        rw [pos_none]
        intro y hy
        have h2 : ¬ Itm.is j y = true := fun hc => ha (List.any_eq_true.2 ⟨y, hy, hc⟩)
        rw [Itm.is_iff] at h2
        omega
      rw [hn, Option.map_none, Option.or_none] at hsp
      rw [row_of, row_of, hsp]
      cases hp : pos (D.its.take e) j with
      | none => rfl
      | some i =>
        obtain ⟨x, hx, _⟩ := pos_some hp
        simp only [hx]
        have hi := (List.getElem?_eq_some_iff.1 hx).1
        rw [List.getElem?_take, if_pos (by rw [List.length_take] at hi; omega)] at hx
        rw [hx]
  · rw [List.getElem?_eq_none (by rw [cleared_len]; omega), List.getElem?_eq_none (by rw [tab_len]; omega)]
/-- What a call makes of a state. -/
def asg (D : Trl) (l r : Int) : Trl := { D with its := D.its ++ [⟨l, r, D.st.length - 1⟩] }
def psh (D : Trl) : Trl := { D with st := D.st ++ [D.its.length] }
def bck (D : Trl) (k : Nat) : Trl := if k + 1 < D.st.length then { D with its := D.its.take ((D.st[k + 1]?).getD 0), st := D.st.take (k + 1) } else D
/-- Whether a literal is one of a trail. -/
def isV (D : Trl) (l : Int) : Bool := decide (l ≠ 0 ∧ -(D.n : Int) ≤ l ∧ l ≤ D.n)
/-- The value of a literal. -/
def valD (D : Trl) (l : Int) : Int := if isV D l then (row D.its (if l < 0 then -l else l)).2.2.2 * sgn l else 0
theorem asg_ok {D : Trl} (h : D.Ok) (l r : Int) (h0 : l ≠ 0) (h1 : -(D.n : Int) ≤ l) (h2 : l ≤ D.n) (r0 : 0 ≤ r) (r1 : r ≤ 1073741824) (hp : pos D.its l = none) : (asg D l r).Ok := by
  have hs := h.st2
  refine { n0 := h.n0, lits := fun x hx => ?_, one := ?_, st0 := h.st0, st1 := h.st1, sts := fun s hs => ?_, stp := h.stp, lvs := fun i x hx k s hk => ?_ }
  · rcases List.mem_append.1 hx with hx | hx
    · exact h.lits x hx
    · rw [List.mem_singleton] at hx
      subst hx
      exact ⟨h0, h1, h2, r0, r1, by show D.st.length - 1 < D.st.length; omega⟩
  · refine List.pairwise_append.2 ⟨h.one, by simp, fun x hx y hy => ?_⟩
    rw [List.mem_singleton] at hy
    subst hy
    exact pos_none.1 hp x hx
  · have := h.sts s hs
    simp [asg]; omega
  · simp only [asg] at hx hk
    by_cases hi : i < D.its.length
    · rw [List.getElem?_append_left hi] at hx
      exact h.lvs i x hx k s hk
    · rw [List.getElem?_append_right (by omega)] at hx
      have hi2 : i - D.its.length = 0 := by
        have := (List.getElem?_eq_some_iff.1 hx).1
        simp at this; omega
      rw [hi2] at hx
      simp at hx
      subst hx
      have h3 := h.sts s (List.mem_of_getElem? hk)
      have h4 := (List.getElem?_eq_some_iff.1 hk).1
      show s ≤ i ↔ k ≤ D.st.length - 1
      omega
theorem psh_ok {D : Trl} (h : D.Ok) (hs : D.st.length < 1048576) : (psh D).Ok := by
  refine { n0 := h.n0, lits := fun x hx => ?_, one := h.one, st0 := ?_, st1 := by simp [psh]; omega, sts := fun s hs => ?_, stp := ?_, lvs := fun i x hx k s hk => ?_ }
  · have := h.lits x hx
    refine ⟨this.1, this.2.1, this.2.2.1, this.2.2.2.1, this.2.2.2.2.1, ?_⟩
    have := this.2.2.2.2.2
    simp [psh]; omega
  · show (D.st ++ [D.its.length])[0]? = _
    rw [List.getElem?_append_left (by have := h.st2; omega)]
    exact h.st0
  · rcases List.mem_append.1 hs with hs | hs
    · exact h.sts s hs
    · rw [List.mem_singleton] at hs
      subst hs
      exact Nat.le_refl _
  · refine List.pairwise_append.2 ⟨h.stp, by simp, fun x hx y hy => ?_⟩
    rw [List.mem_singleton] at hy
    subst hy
    exact h.sts x hx
  · simp only [psh] at hx hk
    by_cases hi : k < D.st.length
    · rw [List.getElem?_append_left hi] at hk
      exact h.lvs i x hx k s hk
    · rw [List.getElem?_append_right (by omega)] at hk
      have hi2 : k - D.st.length = 0 := by
        have := (List.getElem?_eq_some_iff.1 hk).1
        simp at this; omega
      rw [hi2] at hk
      simp at hk
      have := (List.getElem?_eq_some_iff.1 hx).1
      have := (h.lits x (List.mem_of_getElem? hx)).2.2.2.2.2
      omega
theorem bck_ok {D : Trl} (h : D.Ok) (k : Nat) : (bck D k).Ok := by
  unfold bck
  split
  · rename_i hk
    obtain ⟨e, he⟩ : ∃ e, D.st[k + 1]? = some e := ⟨_, List.getElem?_eq_getElem hk⟩
    rw [he, Option.getD_some]
    have hel := h.sts e (List.mem_of_getElem? he)
    refine { n0 := h.n0, lits := fun x hx => ?_, one := h.one.sublist (List.take_sublist _ _), st0 := ?_, st1 := ?_, sts := fun s hs => ?_, stp := h.stp.sublist (List.take_sublist _ _), lvs := fun i x hx j s hj => ?_ }
    · obtain ⟨i, hi⟩ := List.mem_iff_getElem?.1 hx
      simp only at hi
      have hlt := (List.getElem?_eq_some_iff.1 hi).1
      rw [List.length_take] at hlt
      rw [List.getElem?_take, if_pos (by omega)] at hi
      have h1 := h.lits x (List.mem_of_getElem? hi)
      have h2 := h.lvs i x hi (k + 1) e he
      refine ⟨h1.1, h1.2.1, h1.2.2.1, h1.2.2.2.1, h1.2.2.2.2.1, ?_⟩
      show x.lvl < (D.st.take (k + 1)).length
      rw [List.length_take]
      omega
    · show (D.st.take (k + 1))[0]? = _
      rw [List.getElem?_take, if_pos (by omega)]
      exact h.st0
    · show (D.st.take (k + 1)).length ≤ _
      have := h.st1
      rw [List.length_take]
      omega
    · show s ≤ (D.its.take e).length
      simp only at hs
      obtain ⟨j, hj⟩ := List.mem_iff_getElem?.1 hs
      have hlt := (List.getElem?_eq_some_iff.1 hj).1
      rw [List.length_take] at hlt
      rw [List.getElem?_take, if_pos (by omega)] at hj
      obtain ⟨g1, g2⟩ := List.getElem?_eq_some_iff.1 hj
      obtain ⟨e1, e2⟩ := List.getElem?_eq_some_iff.1 he
      have := (List.pairwise_iff_getElem.1 h.stp) j (k + 1) g1 e1 (by omega)
      rw [List.length_take]
      omega
    · simp only at hx hj
      have h1 := (List.getElem?_eq_some_iff.1 hx).1
      have h2 := (List.getElem?_eq_some_iff.1 hj).1
      rw [List.length_take] at h1 h2
      rw [List.getElem?_take, if_pos (by omega)] at hx hj
      exact h.lvs i x hx j s hj
  · exact h
end Go.Proofs.Ytkedepkhcbhcdaa
