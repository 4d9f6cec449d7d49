/- Trails: what lies in memory; what only asks. -/
import Derived.Test.YtkedepkhcbhcdaaProg
import Derived.Test.YtkedepkhcbhcdaaRange
import Derived.Test.YtkedepkhcbhcdaaTPlain
import Derived.BigQuiet
import Derived.Deep.RegionHeld3
import Derived.Deep.DeepCutAuto
import Derived.Lib.OwnKind
namespace Go.Proofs.Ytkedepkhcbhcdaa
open Go Go.RowKit
set_option linter.unusedVariables false
set_option linter.unusedSimpArgs false
set_option maxHeartbeats 4000000
def encS (x : Sta) : List Value := [.int .i64 x.1, .int .i64 x.2.1, .int .i64 x.2.2.1, .int .i64 x.2.2.2]
def encSs (l : List Sta) : List Value := l.flatMap encS
theorem encSs_cons (x : Sta) (l : List Sta) : encSs (x :: l) = encS x ++ encSs l := by simp [encSs]
theorem encSs_len (l : List Sta) : (encSs l).length = l.length * 4 := by
  induction l with
  | nil => rfl
  | cons x es ih => rw [encSs_cons, List.length_append, ih]; simp [encS]; omega
theorem encSs_at (es : List Sta) : ∀ (k j : Nat) (x : Sta), es[k]? = some x → j < 4 → (encSs es)[k * 4 + j]? = (encS x)[j]? := by
  induction es with
  | nil => intro k j x h; cases h
  | cons y es ih =>
    intro k j x h hj
    cases k with
    | zero =>
      simp at h
      subst h
      rw [encSs_cons, List.getElem?_append_left (by simp [encS]; omega)]
      simp
    | succ k =>
      rw [encSs_cons, List.getElem?_append_right (by simp [encS]; omega)]
      have := ih k j x (by simpa using h) hj
      rw [← this]
      congr 1
      simp [encS]; omega
theorem encSs_set (l : List Sta) : ∀ (k : Nat) (x : Sta), k < l.length → encSs (l.set k x) = ((((encSs l).set (k * 4) (.int .i64 x.1)).set (k * 4 + 1) (.int .i64 x.2.1)).set (k * 4 + 2) (.int .i64 x.2.2.1)).set (k * 4 + 3) (.int .i64 x.2.2.2) := by
  induction l with
  | nil => intro k x h; simp at h
  | cons y l ih =>
    intro k x h
    cases k with
    | zero => simp [encSs, encS]
    | succ k =>
      have := ih k x (by simpa using h)
      rw [show (y :: l).set (k + 1) x = y :: l.set k x from rfl, encSs_cons, encSs_cons, this]
      rw [show (k + 1) * 4 = k * 4 + 4 by omega, show k * 4 + 4 + 1 = (k * 4 + 1) + 4 by omega, show k * 4 + 4 + 2 = (k * 4 + 2) + 4 by omega, show k * 4 + 4 + 3 = (k * 4 + 3) + 4 by omega]
      simp [encS]
def litV (l : List Int) : List Value := l.map (Value.int .i64)
def lits (D : Trl) : List Int := D.its.map (·.lit)
def sts (D : Trl) : List Int := D.st.map (fun (s : Nat) => (s : Int))
/-- A trail in memory. -/
structure Trm (W : World) (base d : Nat) (vs vo vt : Value) (D : Trl) : Prop where
  hd : Blk W d 63 #[vs, vo, vt, .bool true]
  hv : W.ownsRow base 73 4 vs (D.n + 1) (encSs (tab D.n D.its))
  ho : W.ownsRow base 27 1 vo D.its.length (litV (lits D))
  ht : W.ownsRow base 3 1 vt D.st.length (litV (sts D))
  bd : base ≤ d
  ok : D.Ok
def fpOf (d : Nat) (vs vo vt : Value) : List Nat := d :: (vs.ownBlock.toList ++ (vo.ownBlock.toList ++ vt.ownBlock.toList))
def Trail (W : World) (base d : Nat) (fp : List Nat) (D : Trl) : Prop := ∃ vs vo vt, Trm W base d vs vo vt D ∧ fp = fpOf d vs vo vt
theorem mem_fp {k d : Nat} {vs vo vt : Value} : k ∈ fpOf d vs vo vt ↔ k = d ∨ vs.ownBlock = some k ∨ vo.ownBlock = some k ∨ vt.ownBlock = some k := by simp [fpOf]
section
variable {W W' : World} {base d : Nat} {vs vo vt : Value} {D : Trl} {fp fq : List Nat}
theorem Trm.keep (h : Trm W base d vs vo vt D) (ho : Only fq W W') (hn : ∀ k, k ∈ fpOf d vs vo vt → k ∉ fq) : Trm W' base d vs vo vt D :=
  ⟨h.hd.only ho (hn d (mem_fp.2 (.inl rfl))), own_only h.hv ho (fun k hk => hn k (mem_fp.2 (.inr (.inl hk)))), own_only h.ho ho (fun k hk => hn k (mem_fp.2 (.inr (.inr (.inl hk))))), own_only h.ht ho (fun k hk => hn k (mem_fp.2 (.inr (.inr (.inr hk))))), h.bd, h.ok⟩
theorem Trail.keep (h : Trail W base d fp D) (ho : Only fq W W') (hn : ∀ k, k ∈ fp → k ∉ fq) : Trail W' base d fp D := by
  obtain ⟨vs, vo, vt, h, rfl⟩ := h
  exact ⟨vs, vo, vt, h.keep ho hn, rfl⟩
theorem Trm.new (h : Trm W base d vs vo vt D) (hb : Below W.heap.size W W') : Trm W' base d vs vo vt D := h.keep (only_of_below [] hb) (by simp)
theorem Trail.new (h : Trail W base d fp D) (hb : Below W.heap.size W W') : Trail W' base d fp D := h.keep (only_of_below [] hb) (by simp)
theorem Trail.ck {B : Nat} (h : Trail W base d fp D) (k : CellsKept B W W') : Trail W' base d fp D := by
  obtain ⟨vs, vo, vt, h, rfl⟩ := h
  exact ⟨vs, vo, vt, ⟨h.hd.ck k, own_ck h.hv k, own_ck h.ho k, own_ck h.ht k, h.bd, h.ok⟩, rfl⟩
theorem Trm.ge (h : Trm W base d vs vo vt D) : ∀ k, k ∈ fpOf d vs vo vt → base ≤ k ∧ k < W.heap.size := by
  intro k hk
  rcases mem_fp.1 hk with rfl | hk | hk | hk
  · exact ⟨h.bd, h.hd.lt⟩
  · exact h.hv.lt k hk
  · exact h.ho.lt k hk
  · exact h.ht.lt k hk
theorem Trail.ge (h : Trail W base d fp D) : ∀ k, k ∈ fp → base ≤ k ∧ k < W.heap.size := by
  obtain ⟨vs, vo, vt, h, rfl⟩ := h
  exact h.ge
theorem Trail.ok (h : Trail W base d fp D) : D.Ok := by
  obtain ⟨vs, vo, vt, h, rfl⟩ := h
  exact h.ok
theorem Trm.cells (h : Trm W base d vs vo vt D) : ∀ k o, k ∈ fpOf d vs vo vt → W.heap[k]? = some o → o.isCells = true := by
  intro k o hk ho
  rcases mem_fp.1 hk with rfl | hk | hk | hk
  · exact blk_cells h.hd ho
  · exact own_cells h.hv hk ho
  · exact own_cells h.ho hk ho
  · exact own_cells h.ht hk ho
theorem Trail.cells (h : Trail W base d fp D) : ∀ k o, k ∈ fp → W.heap[k]? = some o → o.isCells = true := by
  obtain ⟨vs, vo, vt, h, rfl⟩ := h
  exact h.cells
theorem Trail.base_le (h : Trail W base d fp D) {base' : Nat} (hb : base' ≤ base) : Trail W base' d fp D := by
  obtain ⟨vs, vo, vt, h, rfl⟩ := h
  exact ⟨vs, vo, vt, ⟨h.hd, own_base h.hv hb, own_base h.ho hb, own_base h.ht hb, by have := h.bd; omega, h.ok⟩, rfl⟩
theorem Trm.drew (h : Trm W base d vs vo vt D) : Trm W.drew base d vs vo vt D := ⟨h.hd.drew, h.hv, h.ho, h.ht, h.bd, h.ok⟩
theorem Trm.c0 (h : Trm W base d vs vo vt D) : W.cell? ⟨d, 0, none⟩ = some vs := by simpa using h.hd.cell 0
theorem Trm.c1 (h : Trm W base d vs vo vt D) : W.cell? ⟨d, 1, none⟩ = some vo := by simpa using h.hd.cell 1
theorem Trm.c2 (h : Trm W base d vs vo vt D) : W.cell? ⟨d, 2, none⟩ = some vt := by simpa using h.hd.cell 2
theorem Trm.c3 (h : Trm W base d vs vo vt D) : W.cell? ⟨d, 3, none⟩ = some (.bool true) := by simpa using h.hd.cell 3
end
theorem info73 : (Try.prog.info? 73).map (fun i => (i.zero, i.size, i.bytes)) = some (some (.agg #[.int .i64 0, .int .i64 0, .int .i64 0, .int .i64 0]), 4, 32) := by kernel_rfl
theorem info27 : (Try.prog.info? 27).map (fun i => (i.zero, i.size, i.bytes)) = some (some (.int .i64 0), 1, 8) := by kernel_rfl
theorem info3 : (Try.prog.info? 3).map (fun i => (i.zero, i.size, i.bytes)) = some (some (.int .i64 0), 1, 8) := by kernel_rfl
theorem ret_tup {k k' : IntKind} {a b c d : Int} (h : a = b) (h' : c = d) : Ending.returned (.tuple #[.int k a, .int k' c]) = .returned (.tuple #[.int k b, .int k' d]) := by rw [h, h']
theorem ret_int {k : IntKind} {a b : Int} (h : a = b) : Ending.returned (.int k a) = .returned (.int k b) := by rw [h]
theorem own_cast {w : World} {base n n' : Nat} {e : TypeId} {size : Nat} {v : Value} {xs xs' : List Value} (h : w.ownsRow base e size v n xs) (hn : n = n') (hx : xs = xs') : w.ownsRow base e size v n' xs' := by
  subst hn; subst hx; exact h
theorem own_cap {w : World} {base n m c : Nat} {e : TypeId} {size : Nat} {A : Option Addr} {xs : List Value} (h : w.ownsRow base e size (.slice A n c) m xs) : n ≤ c ∧ c ≤ 9223372036854775807 := by
  have hml : maxLen ≤ 9223372036854775807 := by decide
  rcases h.2 with ⟨hv, _⟩ | ⟨g, cap, cur, hv, _, _, h1, h2, _⟩
  · injection hv with _ a b
    omega
  · injection hv with _ a b
    omega
/-- The variable of a literal. -/
def rightL (l : Int) : Bool := decide (l ≠ 0 ∧ -1048576 ≤ l ∧ l ≤ 1048576)
def varL (l : Int) : Int := if rightL l then (if l < 0 then -l else l) else 0
section
variable {w : World}
theorem right_yes (l : Int) (h0 : l ≠ 0) (h1 : -1048576 ≤ l) (h2 : l ≤ 1048576) : Calls Try.prog 39 #[.int .i64 l] w fun e w' => e = .returned (.bool true) ∧ w = w' := by
  have e0 : (l != 0) = true := by simpa using h0
  go_enter Try.func39, Try.ntmps39
  go_wp2
  go_ret
  exact ⟨rfl, rfl⟩
theorem right_no (l : Int) (h : l = 0 ∨ l < -1048576 ∨ 1048576 < l) : Calls Try.prog 39 #[.int .i64 l] w fun e w' => e = .returned (.bool false) ∧ w = w' := by
  rcases h with rfl | h | h
  · go_enter Try.func39, Try.ntmps39
    go_wp2
    go_ret
    exact ⟨rfl, rfl⟩
  · have e0 : (l != 0) = true := by simp; omega
    go_enter Try.func39, Try.ntmps39
    go_wp2
    go_ret
    exact ⟨rfl, rfl⟩
  · have e0 : (l != 0) = true := by simp; omega
    have e1 : -1048576 ≤ l := by omega
    have e2 : ¬ l ≤ 1048576 := by omega
    have e3 : decide (l ≤ 1048576) = false := by simp; omega
    go_enter Try.func39, Try.ntmps39
    go_wp2
    go_ret
    exact ⟨rfl, rfl⟩
theorem var_any (l : Int) : Calls Try.prog 25 #[.int .i64 l] w fun e w' => e = .returned (.int .i64 (varL l)) ∧ w = w' := by
  by_cases h : l ≠ 0 ∧ -1048576 ≤ l ∧ l ≤ 1048576
  · obtain ⟨h0, h1, h2⟩ := h
    have hr : rightL l = true := by simp [rightL]; omega
    have hr2 : varL l = if l < 0 then -l else l := by rw [varL, hr]; rfl
    replace hr2 := Lib.hid hr2
    clear hr
    by_cases hn : l < 0
    · have e1 : ¬ -l ≤ l := by omega
      go_enter Try.func25, Try.ntmps25
      go_wp2_with (go_at_call 39; refine (right_yes l h0 h1 h2).mono ?_; rintro e w' ⟨rfl, rfl⟩)
      all_goals
        go_ret
        refine ⟨ret_int ?_, rfl⟩
        rw [hr2.out]
        first | rfl | (split <;> omega)
    · have hn2 : 0 < l := by omega
      go_enter Try.func25, Try.ntmps25
      go_wp2_with (go_at_call 39; refine (right_yes l h0 h1 h2).mono ?_; rintro e w' ⟨rfl, rfl⟩)
      all_goals
        go_ret
        refine ⟨ret_int ?_, rfl⟩
        rw [hr2.out]
        first | rfl | (split <;> omega)
  · have hr : varL l = 0 := by
      have : rightL l = false := by simp [rightL]; omega
      rw [varL, this]; rfl
    have h2 : l = 0 ∨ l < -1048576 ∨ 1048576 < l := by omega
    replace hr := Lib.hid hr
    replace h2 := Lib.hid h2
    clear h
    go_enter Try.func25, Try.ntmps25
    go_wp2_with (go_at_call 39; refine (right_no l h2.out).mono ?_; rintro e w' ⟨rfl, rfl⟩)
    go_ret
    exact ⟨ret_int hr.out.symm, rfl⟩
theorem sign_any (l : Int) : Calls Try.prog 36 #[.int .i64 l] w fun e w' => e = .returned (.int .i64 (sgn l)) ∧ w = w' := by
  by_cases hn : l < 0
  · have hs : sgn l = -1 := if_pos hn
    replace hs := Lib.hid hs
    go_enter Try.func36, Try.ntmps36
    go_wp2
    go_ret
    exact ⟨ret_int hs.out.symm, rfl⟩
  · have hs : sgn l = 1 := if_neg hn
    replace hs := Lib.hid hs
    go_enter Try.func36, Try.ntmps36
    go_wp2
    go_ret
    exact ⟨ret_int hs.out.symm, rfl⟩
end
section
variable {w : World} {base d : Nat} {vs vo vt : Value} {D : Trl}
theorem is_ok (h : Trm w base d vs vo vt D) : Calls Try.prog 34 #[.pointer (some ⟨d, 0, none⟩)] w fun e w' => e = .returned (.bool true) ∧ w = w' := by
  have h3 := h.c3
  clear h
  go_enter Try.func34, Try.ntmps34
  go_wp2
  go_ret
  exact ⟨rfl, rfl⟩
theorem Trm.tabl (h : Trm w base d vs vo vt D) : ∃ g c, vs = .slice (some ⟨g, 0, none⟩) (D.n + 1) c ∧ D.n + 1 ≤ c := by
  obtain ⟨g, cap, hv, _, _⟩ := h.hv.form (by omega)
  subst hv
  exact ⟨g, cap, rfl, (own_cap h.hv).1⟩
theorem Trm.rowAt {g c : Nat} (h : Trm w base d (.slice (some ⟨g, 0, none⟩) (D.n + 1) c) vo vt D) (v : Nat) (hv : v ≤ D.n) :
    w.cell? ⟨g, v * 4, none⟩ = some (.int .i64 (row D.its v).1) ∧ w.cell? ⟨g, v * 4 + 1, none⟩ = some (.int .i64 (row D.its v).2.1) ∧ w.cell? ⟨g, v * 4 + 2, none⟩ = some (.int .i64 (row D.its v).2.2.1) ∧ w.cell? ⟨g, v * 4 + 3, none⟩ = some (.int .i64 (row D.its v).2.2.2) := by
  have hx := tab_at D.n D.its v hv
  have e := fun j hj => (h.hv.cellAt (v * 4 + j) (by omega)).trans (encSs_at _ v j _ hx hj)
  exact ⟨by simpa [encS] using e 0 (by omega), by simpa [encS] using e 1 (by omega), by simpa [encS] using e 2 (by omega), by simpa [encS] using e 3 (by omega)⟩
theorem state_yes {g c : Nat} (h : Trm w base d (.slice (some ⟨g, 0, none⟩) (D.n + 1) c) vo vt D) (v : Int) (h0 : 1 ≤ v) (h1 : v ≤ D.n) :
    Calls Try.prog 35 #[.pointer (some ⟨d, 0, none⟩), .int .i64 v] w fun e w' => e = .returned (.tuple #[.pointer (some ⟨g, v.toNat * 4, none⟩), .bool true]) ∧ w = w' := by
  have hn := h.ok.n0
  have c0 := h.c0
  have e1 : ¬ v < 1 := by omega
  have e2 : v < (D.n : Int) + 1 := by omega
  have e3 : 0 ≤ v := by omega
  replace h := Lib.hid h
  go_enter Try.func35, Try.ntmps35
  go_wp2_with (go_at_call 34; refine (is_ok h.out).mono ?_; rintro e w' ⟨rfl, rfl⟩)
  go_ret2
  exact ⟨rfl, rfl⟩
theorem state_no (h : Trm w base d vs vo vt D) (v : Int) (h1 : v < 1 ∨ (D.n : Int) < v) (hb : -9223372036854775808 ≤ v ∧ v ≤ 9223372036854775807) :
    Calls Try.prog 35 #[.pointer (some ⟨d, 0, none⟩), .int .i64 v] w fun e w' => e = .returned (.tuple #[.pointer none, .bool false]) ∧ w = w' := by
  have hn := h.ok.n0
  have c0 := h.c0
  obtain ⟨g, c, rfl, _⟩ := h.tabl
  replace h := Lib.hid h
  rcases h1 with h1 | h1
  · go_enter Try.func35, Try.ntmps35
    go_wp2_with (go_at_call 34; refine (is_ok h.out).mono ?_; rintro e w' ⟨rfl, rfl⟩)
    go_ret2
    exact ⟨rfl, rfl⟩
  · have e1 : ¬ v < 1 := by omega
    have e2 : (D.n : Int) + 1 ≤ v := by omega
    go_enter Try.func35, Try.ntmps35
    go_wp2_with (go_at_call 34; refine (is_ok h.out).mono ?_; rintro e w' ⟨rfl, rfl⟩)
    go_ret2
    exact ⟨rfl, rfl⟩
end
end Go.Proofs.Ytkedepkhcbhcdaa
