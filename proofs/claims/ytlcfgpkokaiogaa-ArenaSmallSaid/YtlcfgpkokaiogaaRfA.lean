/- Arenas: the reference. -/
import Derived.Test.YtlcfgpkokaiogaaArQ
namespace Go.Proofs.Ytlcfgpkokaiogaa
open Go Go.RowKit Go.Shelf
set_option linter.unusedVariables false
set_option linter.unusedSimpArgs false
set_option maxHeartbeats 4000000
/-- An entry of the reference. -/
structure REn where
  id : Nat
  A : Option Addr
  c : Nat
  ls : List Int
def encX (e : REn) : List Value := [.int .i64 (e.id : Int), .slice e.A e.ls.length e.c]
def encR (es : List REn) : List Value := es.flatMap encX
theorem encR_snoc (l : List REn) (x : REn) : encR (l ++ [x]) = encR l ++ encX x := by simp [encR]
theorem encR_len (l : List REn) : (encR l).length = l.length * 2 := by
  induction l with
  | nil => rfl
  | cons x es ih => show (encX x ++ encR es).length = _; rw [List.length_append, ih]; simp [encX]; omega
theorem encR_at (es : List REn) : ∀ (k j : Nat) (x : REn), es[k]? = some x → j < 2 → (encR es)[k * 2 + j]? = (encX x)[j]? := by
  induction es with
  | nil => intro k j x h; cases h
  | cons y es ih =>
    intro k j x h hj
    cases k with
    | zero =>
      simp at h
      subst h
      show (encX y ++ encR es)[0 * 2 + j]? = _
      rw [List.getElem?_append_left (by simp [encX]; omega)]
      simp
    | succ k =>
      show (encX y ++ encR es)[_]? = _
      rw [List.getElem?_append_right (by simp [encX]; omega)]
      have := ih k j x (by simpa using h) hj
      rw [← this]
      congr 1
      simp [encX]; omega
theorem encR_one (es : List REn) : ∀ u ∈ encR es, u.oneCell' = true := by
  intro u hu
  obtain ⟨e, _, h⟩ := List.mem_flatMap.1 hu
  simp only [encX, List.mem_cons, List.not_mem_nil, or_false] at h
  rcases h with rfl | rfl <;> rfl
def alR (es : List REn) : List (Nat × List Int) := es.map fun e => (e.id, e.ls)
theorem alR_len (es : List REn) : (alR es).length = es.length := by simp [alR]
/-- What the entries of the reference read. -/
def RLits (W : World) (B : Nat) (es : List REn) : Prop := ∀ e ∈ es, Reads W B 1 e.A e.ls.length (lits e.ls) ∧ e.ls.length ≤ e.c ∧ e.c ≤ 9223372036854775807
theorem RLits.below {W W' : World} {B : Nat} {es : List REn} (h : RLits W B es) (hb : Below B W W') : RLits W' B es := fun e he => ⟨(h e he).1.below hb, (h e he).2⟩
/-- An arena of the reference: its row. -/
structure RefR (W : World) (B : Nat) (A : Option Addr) (n c : Nat) (es : List REn) : Prop where
  row : W.ownsRow 0 85 2 (.slice A n c) n (encR es)
  len : es.length = n
  ls : RLits W B es
  bd : n ≤ 1048576
theorem RefR.below {W W' : World} {B : Nat} {A : Option Addr} {n c : Nat} {es : List REn} (h : RefR W B A n c es) (hB : B ≤ W.heap.size) (hb : Below W.heap.size W W') : RefR W' B A n c es :=
  ⟨own_only h.row (only_of_below [] hb) (by simp), h.len, h.ls.below (hb.mono hB), h.bd⟩
theorem RefR.at_ {W : World} {B : Nat} {A : Option Addr} {n c k : Nat} {es : List REn} (h : RefR W B A n c es) (hk : k < n) : ∃ (ad : Addr) (x : REn), A = some ad ∧ ad.block < W.heap.size ∧ es[k]? = some x ∧ W.cell? (ad.add (k * 2)) = some (.int .i64 (x.id : Int)) ∧ W.cell? ⟨(ad.add (k * 2)).block, (ad.add (k * 2)).off + 1, none⟩ = some (.slice x.A x.ls.length x.c) := by
  have hkl : k < es.length := by rw [h.len]; exact hk
  have hx : es[k]? = some es[k] := List.getElem?_eq_getElem hkl
  obtain ⟨g, cap, hv, _, hgl⟩ := h.row.form (by omega)
  have hA : A = some ⟨g, 0, none⟩ := by injection hv
  subst hA
  have h0 := h.row.cellAt (g := g) (k * 2 + 0) (by omega)
  have h1 := h.row.cellAt (g := g) (k * 2 + 1) (by omega)
  rw [encR_at es k _ _ hx (by omega)] at h0 h1
  refine ⟨_, es[k], rfl, hgl, hx, ?_, ?_⟩
  · rw [Addr.add_lit, Nat.zero_add]; exact h0
  · rw [Addr.add_lit, Nat.zero_add]; exact h1
section
variable {w : World}
theorem rlit_any (l : Int) : Calls Try.prog 52 #[.int .i64 l] w fun e w' => e = .returned (.bool (decide (LitOk l))) ∧ w = w' := by
  by_cases h1 : 1 ≤ l
  · by_cases h2 : l ≤ 1048576
    · have hr : decide (LitOk l) = true := decide_eq_true (by unfold LitOk; omega)
      replace hr := Lib.hid hr
      go_enter Try.func52, Try.ntmps52
      go_wp2
      go_ret
      exact ⟨by rw [hr.out]; rfl, rfl⟩
    · have hr : decide (LitOk l) = false := decide_eq_false (by unfold LitOk; omega)
      replace hr := Lib.hid hr
      have h3 : ¬ l ≤ -1 := by omega
      have h4 : -1048576 ≤ l := by omega
      go_enter Try.func52, Try.ntmps52
      go_wp2
      go_ret
      exact ⟨by rw [hr.out]; rfl, rfl⟩
  · by_cases h2 : -1048576 ≤ l
    · by_cases h3 : l ≤ -1
      · have hr : decide (LitOk l) = true := decide_eq_true (by unfold LitOk; omega)
        replace hr := Lib.hid hr
        go_enter Try.func52, Try.ntmps52
        go_wp2
        go_ret
        exact ⟨by rw [hr.out]; rfl, rfl⟩
      · have hr : decide (LitOk l) = false := decide_eq_false (by unfold LitOk; omega)
        replace hr := Lib.hid hr
        go_enter Try.func52, Try.ntmps52
        go_wp2
        go_ret
        exact ⟨by rw [hr.out]; rfl, rfl⟩
    · have hr : decide (LitOk l) = false := decide_eq_false (by unfold LitOk; omega)
      replace hr := Lib.hid hr
      go_enter Try.func52, Try.ntmps52
      go_wp2
      go_ret
      exact ⟨by rw [hr.out]; rfl, rfl⟩
theorem rright_ok (A : Option Addr) (n c B : Nat) (l : List Int) (hrd : Reads w B 1 A n (lits l)) (hn : n ≤ 9223372036854775807) :
    Calls Try.prog 44 #[.slice A n c] w fun e w' => e = .returned (.bool (decide (ClOk l))) ∧ w = w' := by
  have hll : l.length = n := by have := hrd.1; simpa [lits] using this
  by_cases h1 : n ≤ 4096
  · have t1 : ¬ 4096 < (n : Int) := by omega
    have hll' := Lib.hid hll
    clear hll
    go_enter Try.func44, Try.ntmps44
    go_wp2
    go_loopw [3] (fun i wr => ∃ k : Nat, k ≤ n ∧ i = .int .i64 k ∧ (∀ x ∈ l.take k, LitOk x) ∧ w = wr) (fun i _ => n - (intOf i).toNat)
    case atStart => exact ⟨0, by omega, rfl, by simp, rfl⟩
    case round =>
      obtain ⟨k, hk, rfl, hok, rfl⟩ := hrel
      by_cases hlt : k < n
      · obtain ⟨ad, x, rfl, hab, hx, q0⟩ := reads_num hrd hlt
        have hsn := take_snoc hx
        have u1 : (k : Int) < (n : Int) := by omega
        have u2 : 0 ≤ (k : Int) := by omega
        have hlit := rlit_any (w := w) x
        by_cases hb : LitOk x
        · rw [decide_eq_true hb] at hlit
          replace hlit := Lib.hid hlit
          have hok2 : ∀ y ∈ l.take (k + 1), LitOk y := by
            rw [hsn]
            intro y hy
            rcases List.mem_append.1 hy with hy | hy
            · exact hok y hy
            · rw [List.mem_singleton] at hy; subst hy; exact hb
          replace hok2 := Lib.hid hok2
          clear hok hsn hx hb hrd
          go_wp2_with (go_at_call 52; refine hlit.out.mono ?_; rintro e w' ⟨rfl, rfl⟩)
          go_roundw
          case rel => exact ⟨k + 1, by omega, by go_num, hok2.out, by trivial⟩
          case measure => simp [intOf]; omega
        · rw [decide_eq_false hb] at hlit
          replace hlit := Lib.hid hlit
          have hc : ¬ ClOk l := fun h => hb (h.2 x (List.mem_of_getElem? hx))
          replace hc := Lib.hid hc
          clear hok hsn hx hb hrd
          go_wp2_with (go_at_call 52; refine hlit.out.mono ?_; rintro e w' ⟨rfl, rfl⟩)
          go_ret
          exact ⟨by rw [decide_eq_false hc.out]; rfl, rfl⟩
      · obtain rfl : k = n := by omega
        rw [List.take_of_length_le (by rw [hll'.out]; exact Nat.le_refl _)] at hok
        have hc : ClOk l := ⟨by rw [hll'.out]; exact h1, hok⟩
        replace hc := Lib.hid hc
        clear hok hrd
        go_wp2
        go_ret
        exact ⟨by rw [decide_eq_true hc.out]; rfl, rfl⟩
  · have t1 : 4096 < (n : Int) := by omega
    have hc : ¬ ClOk l := fun h => by have := h.1; omega
    rw [decide_eq_false hc]
    clear hc hll hrd
    go_enter Try.func44, Try.ntmps44
    go_wp2
    go_ret
    exact ⟨rfl, rfl⟩
theorem used_snoc {es : List REn} {k : Nat} {x : REn} (h : es[k]? = some x) : usedL (alR (es.take (k + 1))) = usedL (alR (es.take k)) + x.ls.length := by
  rw [take_snoc h]
  simp [alR, usedL]
theorem used_mono (es : List REn) (k : Nat) : usedL (alR (es.take k)) ≤ usedL (alR es) := by
  have : usedL (alR es) = usedL (alR (es.take k)) + usedL (alR (es.drop k)) := by
    conv => lhs; rw [← List.take_append_drop k es]
    unfold alR
    rw [List.map_append, usedL_append]
  omega
theorem rused_ok {A : Option Addr} {n c B : Nat} {es : List REn} {last : Int} (h : RefR w B A n c es) (hB : B ≤ w.heap.size) (hu : usedL (alR es) ≤ 1048576) :
    Calls Try.prog 45 #[.agg #[.slice A n c, .int .i64 last]] w fun e w' => e = .returned (.int .i64 (usedL (alR es) : Int)) ∧ Below w.heap.size w w' := by
  have hbd := h.bd
  have hh := Lib.hid h
  go_enter Try.func45, Try.ntmps45
  go_wp2
  have hB1 := (Below.refl _ w).alloc (Nat.le_refl _) (.cells #[.slice A n c, .int .i64 last] 64)
  have h1 := hh.out.below hB hB1
  have hb := Blk.new w 64 #[.slice A n c, .int .i64 last]
  have b0 := hb.cell 0
  simp only [List.getElem?_toArray, List.getElem?_cons_zero] at b0
  generalize w.alloc (.cells #[.slice A n c, .int .i64 last] 64) = W at *
  clear hh h
  have h1' := Lib.hid h1
  clear h1
  go_loopw [3, 4] (fun u i wr => ∃ k : Nat, k ≤ n ∧ u = .int .i64 (usedL (alR (es.take k)) : Int) ∧ i = .int .i64 k ∧ W = wr) (fun _ i _ => n - (intOf i).toNat)
  case atStart => exact ⟨0, by omega, rfl, rfl, rfl⟩
  case round =>
    obtain ⟨k, hk, rfl, rfl, rfl⟩ := hrel
    have hm := used_mono es k
    by_cases hlt : k < n
    · obtain ⟨ad, x, rfl, hab, hx, q0, q1⟩ := h1'.out.at_ hlt
      have hsn := used_snoc hx
      have hm2 := used_mono es (k + 1)
      rw [hsn] at hm2
      obtain ⟨u, hu'⟩ : ∃ u, u = usedL (alR (es.take k)) := ⟨_, rfl⟩
      rw [← hu'] at hsn hm hm2 ⊢
      have t1 : (k : Int) < (n : Int) := by omega
      have t2 : 0 ≤ (k : Int) := by omega
      replace hsn := Lib.hid hsn
      clear hu' hx
      go_wp2
      go_roundw
      case rel => exact ⟨k + 1, by omega, by rw [hsn.out]; simp, by go_num, by trivial⟩
      case measure => simp [intOf]; omega
    · obtain rfl : k = n := by omega
      rw [List.take_of_length_le (by rw [h1'.out.len]; exact Nat.le_refl _)]
      go_wp2
      go_ret
      exact ⟨rfl, hB1⟩
/-- The index of a number. -/
def fndI (es : List REn) (id : Int) : Int := match es.findIdx? fun e => (e.id : Int) == id with | none => -1 | some i => i
theorem fndI_at {es : List REn} {id : Int} {k : Nat} {x : REn} (hx : es[k]? = some x) (he : (x.id : Int) = id) (hb : ∀ (j : Nat) (y : REn), es[j]? = some y → j < k → (y.id : Int) ≠ id) : fndI es id = k := by
  have hlt := (List.getElem?_eq_some_iff.1 hx).1
  have h1 : es.findIdx? (fun e => (e.id : Int) == id) = some k := by
    rw [List.findIdx?_eq_some_iff_getElem]
    refine ⟨hlt, ?_, fun j hj => ?_⟩
    · rw [(List.getElem?_eq_some_iff.1 hx).2]; simpa using he
    · have := hb j _ (List.getElem?_eq_getElem (by omega)) hj
      simpa using this
  unfold fndI
  rw [h1]
theorem fndI_no {es : List REn} {id : Int} (hb : ∀ (j : Nat) (y : REn), es[j]? = some y → (y.id : Int) ≠ id) : fndI es id = -1 := by
  have h1 : es.findIdx? (fun e => (e.id : Int) == id) = none := by
    rw [List.findIdx?_eq_none_iff]
    intro x hx
    obtain ⟨j, hj⟩ := List.mem_iff_getElem?.1 hx
    simpa using hb j x hj
  unfold fndI
  rw [h1]
theorem rfind_ok {A : Option Addr} {n c B : Nat} {es : List REn} {last : Int} (h : RefR w B A n c es) (hB : B ≤ w.heap.size) (id : Int) :
    Calls Try.prog 46 #[.agg #[.slice A n c, .int .i64 last], .int .i64 id] w fun e w' => e = .returned (.int .i64 (fndI es id)) ∧ Below w.heap.size w w' := by
  have hbd := h.bd
  have hh := Lib.hid h
  go_enter Try.func46, Try.ntmps46
  go_wp2
  have hB1 := (Below.refl _ w).alloc (Nat.le_refl _) (.cells #[.slice A n c, .int .i64 last] 64)
  have h1 := hh.out.below hB hB1
  have hb := Blk.new w 64 #[.slice A n c, .int .i64 last]
  have b0 := hb.cell 0
  simp only [List.getElem?_toArray, List.getElem?_cons_zero] at b0
  generalize w.alloc (.cells #[.slice A n c, .int .i64 last] 64) = W at *
  clear hh h
  have h1' := Lib.hid h1
  clear h1
  go_loopw [5] (fun i wr => ∃ k : Nat, k ≤ n ∧ i = .int .i64 k ∧ (∀ (j : Nat) (y : REn), es[j]? = some y → j < k → (y.id : Int) ≠ id) ∧ W = wr) (fun i _ => n - (intOf i).toNat)
  case atStart => exact ⟨0, by omega, rfl, fun _ _ _ h => by omega, rfl⟩
  case round =>
    obtain ⟨k, hk, rfl, hb4, rfl⟩ := hrel
    by_cases hlt : k < n
    · obtain ⟨ad, x, rfl, hab, hx, q0, q1⟩ := h1'.out.at_ hlt
      have t1 : (k : Int) < (n : Int) := by omega
      have t2 : 0 ≤ (k : Int) := by omega
      by_cases he : (x.id : Int) = id
      · have hr := fndI_at hx he hb4
        have heb : ((x.id : Int) == id) = true := by simpa using he
        replace hr := Lib.hid hr
        clear hb4 hx he
        go_wp2
        go_ret
        exact ⟨by rw [hr.out]; rfl, hB1⟩
      · have hb5 : ∀ (j : Nat) (y : REn), es[j]? = some y → j < k + 1 → (y.id : Int) ≠ id := fun j y hj hl => by
          by_cases e : j = k
          · subst e
            rw [hx] at hj
            cases hj
            exact he
          · exact hb4 j y hj (by omega)
        have heb : ((x.id : Int) == id) = false := by simpa using he
        replace hb5 := Lib.hid hb5
        clear hb4 hx he
        go_wp2
        go_roundw
        case rel => exact ⟨k + 1, by omega, by go_num, hb5.out, by trivial⟩
        case measure => simp [intOf]; omega
    · obtain rfl : k = n := by omega
      have hr : fndI es id = -1 := fndI_no fun j y hj => hb4 j y hj (by have := (List.getElem?_eq_some_iff.1 hj).1; have := h1'.out.len; omega)
      replace hr := Lib.hid hr
      clear hb4
      go_wp2
      go_ret
      exact ⟨by rw [hr.out]; rfl, hB1⟩
/-- What Ints and Clause answer. -/
def CopyP (e : TypeId) (w : World) (n : Nat) (l : List Int) (r : Ending) (w' : World) : Prop := ∃ A' c', r = .returned (.slice A' n c') ∧ w'.ownsRow w.heap.size e 1 (.slice A' n c') n (lits l) ∧ Below w.heap.size w w'
set_option maxRecDepth 100000 in
theorem ints_ok (A : Option Addr) (n c B : Nat) (l : List Int) (hrd : Reads w B 1 A n (lits l)) (hB : B ≤ w.heap.size) (hn : n ≤ 1048576) : Calls Try.prog 32 #[.slice A n c] w (CopyP 3 w n l) := by
  obtain ⟨i0, hi, hz0, hz1, hz2⟩ := info_parts info3
  have hll : l.length = n := by have := hrd.1; simpa [lits] using this
  replace hll := Lib.hid hll
  go_enter Try.func32, Try.ntmps32
  go_wp2
  go_loopw [3, 8] (fun v i wr => ∃ (k : Nat), k ≤ n ∧ i = .int .i64 k ∧ wr.ownsRow w.heap.size 3 1 v k (lits (l.take k)) ∧ Below w.heap.size w wr) (fun _ i _ => n - (intOf i).toNat)
  case atStart => exact ⟨0, by omega, rfl, by simpa [lits] using World.ownsRow_nil w w.heap.size 3 1, Below.refl _ _⟩
  case round =>
    obtain ⟨k, hk, rfl, hv, hB1⟩ := hrel
    obtain ⟨A3, c3, rfl⟩ := own_form hv
    by_cases hlt : k < n
    · obtain ⟨ad, x, rfl, hab, hx, q0⟩ := reads_num (hrd.below (hB1.mono hB)) hlt
      have hsn : lits (l.take (k + 1)) = lits (l.take k) ++ [.int .i64 x] := by rw [take_snoc hx]; simp [lits]
      have t1 : (k : Int) < (n : Int) := by omega
      have t3 : 0 ≤ (k : Int) := by omega
      have h0 := hB1.size
      replace hsn := Lib.hid hsn
      clear hx
      go_wp2_with (at_builtin; refine wpList_append_any _ rfl _ _ 25 rfl w.heap.size 3 i0 _ 1 8 Try.underlying25 hi hz0 hz1 hz2 rfl (by omega) (.slice A3 k c3) k (lits (l.take k)) rfl (row_new hv ((Below.refl _ _).alloc (Nat.le_refl _) _)) (wr.heap.size + 1) (some ⟨wr.heap.size, 0, none⟩) 1 1 [.int .i64 x] rfl (lit_readsN wr 3 _ 1 rfl) (by simp [Value.oneCell']) (by simp only [maxLen]; omega) (by omega) (by simp; omega) ?_; intro v' w3 hown hgrow hat; have hB3 := own_below (hB1.alloc hB1.size _) (by simp; omega) (row_new hv ((Below.refl _ _).alloc (Nat.le_refl _) _)) hgrow)
      go_roundw
      case rel => exact ⟨k + 1, by omega, by go_num, by rw [hsn.out]; exact hown, hB3⟩
      case measure => simp [intOf]; omega
    · obtain rfl : k = n := by omega
      rw [List.take_of_length_le (by rw [hll.out]; exact Nat.le_refl _)] at hv
      go_wp2
      go_ret
      exact ⟨A3, c3, rfl, hv, hB1⟩
set_option maxRecDepth 100000 in
theorem clause_ok (A : Option Addr) (n c B : Nat) (l : List Int) (hrd : Reads w B 1 A n (lits l)) (hB : B ≤ w.heap.size) (hn : n ≤ 1048576) : Calls Try.prog 29 #[.slice A n c] w (CopyP 30 w n l) := by
  obtain ⟨i0, hi, hz0, hz1, hz2⟩ := info_parts info30
  have hll : l.length = n := by have := hrd.1; simpa [lits] using this
  replace hll := Lib.hid hll
  go_enter Try.func29, Try.ntmps29
  go_wp2
  go_loopw [3, 8] (fun v i wr => ∃ (k : Nat), k ≤ n ∧ i = .int .i64 k ∧ wr.ownsRow w.heap.size 30 1 v k (lits (l.take k)) ∧ Below w.heap.size w wr) (fun _ i _ => n - (intOf i).toNat)
  case atStart => exact ⟨0, by omega, rfl, by simpa [lits] using World.ownsRow_nil w w.heap.size 30 1, Below.refl _ _⟩
  case round =>
    obtain ⟨k, hk, rfl, hv, hB1⟩ := hrel
    obtain ⟨A3, c3, rfl⟩ := own_form hv
    by_cases hlt : k < n
    · obtain ⟨ad, x, rfl, hab, hx, q0⟩ := reads_num (hrd.below (hB1.mono hB)) hlt
      have hsn : lits (l.take (k + 1)) = lits (l.take k) ++ [.int .i64 x] := by rw [take_snoc hx]; simp [lits]
      have t1 : (k : Int) < (n : Int) := by omega
      have t3 : 0 ≤ (k : Int) := by omega
      have h0 := hB1.size
      replace hsn := Lib.hid hsn
      clear hx
      go_wp2_with (at_builtin; refine wpList_append_any _ rfl _ _ 29 rfl w.heap.size 30 i0 _ 1 8 Try.underlying29 hi hz0 hz1 hz2 rfl (by omega) (.slice A3 k c3) k (lits (l.take k)) rfl (row_new hv ((Below.refl _ _).alloc (Nat.le_refl _) _)) (wr.heap.size + 1) (some ⟨wr.heap.size, 0, none⟩) 1 1 [.int .i64 x] rfl (lit_readsN wr 30 _ 1 rfl) (by simp [Value.oneCell']) (by simp only [maxLen]; omega) (by omega) (by simp; omega) ?_; intro v' w3 hown hgrow hat; have hB3 := own_below (hB1.alloc hB1.size _) (by simp; omega) (row_new hv ((Below.refl _ _).alloc (Nat.le_refl _) _)) hgrow)
      go_roundw
      case rel => exact ⟨k + 1, by omega, by go_num, by rw [hsn.out]; exact hown, hB3⟩
      case measure => simp [intOf]; omega
    · obtain rfl : k = n := by omega
      rw [List.take_of_length_le (by rw [hll.out]; exact Nat.le_refl _)] at hv
      go_wp2
      go_ret
      exact ⟨A3, c3, rfl, hv, hB1⟩
theorem equal_ints (A A' : Option Addr) (n c c' : Nat) (l : List Int) (B B' : Nat) (h : Reads w B 1 A n (lits l)) (h' : Reads w B' 1 A' n (lits l)) (hn : n ≤ 1099511627776) :
    Calls Try.prog 28 #[.slice A n c, .slice A' n c'] w fun e w' => e = .returned (.bool true) ∧ Below w.heap.size w w' := by
  refine Calls.mono (R := fun e w' => e = .returned (.bool true) ∧ ∃ d, w' = w.drewN d) ?_ (fun e w' h => ⟨h.1, by obtain ⟨d, rfl⟩ := h.2; exact below_drewN_ (Below.refl _ _) d⟩)
  go_enter Try.func28, Try.ntmps28
  go_wp2
  go_loopw [13] (fun i wr => ∃ k d : Nat, k ≤ n ∧ i = .int .i64 k ∧ wr = w.drewN d) (fun i _ => n - (intOf i).toNat)
  case atStart => exact ⟨0, 0, by omega, rfl, rfl⟩
  case round =>
    obtain ⟨k, d, hk, rfl, rfl⟩ := hrel
    by_cases hlt : k < n
    · obtain ⟨ad, x, rfl, _, hx, q1⟩ := reads_num h hlt
      obtain ⟨ad', x', rfl, _, hx', q2⟩ := reads_num h' hlt
      obtain rfl : x = x' := by rw [hx] at hx'; injection hx'
      have hlt2 : (k : Int) < (n : Int) := by omega
      have hk0 : 0 ≤ (k : Int) := by omega
      clear hx hx'
      go_wp2_with fail
      go_quiet (fail)
      go_wp2_with fail
      go_roundw
      case rel => exact ⟨k + 1, _, by omega, by go_num, rfl⟩
      case measure => simp [intOf]; omega
    · obtain rfl : k = n := by omega
      go_wp2_with fail
      go_ret
      exact ⟨rfl, d, rfl⟩
end
end Go.Proofs.Ytlcfgpkokaiogaa
