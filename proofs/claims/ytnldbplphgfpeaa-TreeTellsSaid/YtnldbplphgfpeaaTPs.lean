/- Programs: when two are the same. -/
import Derived.Test.YtnldbplphgfpeaaTCp
import Derived.Laws.StructEq
namespace Go.Proofs.Ytnldbplphgfpeaa
open Go Go.RowKit Go.Shelf
set_option linter.unusedVariables false
set_option linter.unusedSimpArgs false
set_option maxHeartbeats 4000000
theorem sameD_at : ∀ (a b : List Dc), a.length = b.length → ((sameD a b = true) ↔ ∀ (i : Nat) x y, a[i]? = some x → b[i]? = some y → x.eq y = true)
  | [], [], _ => by simp [sameD]
  | x :: r, y :: r', h => by
    simp only [sameD, Bool.and_eq_true]
    rw [sameD_at r r' (by simpa using h)]
    constructor
    · rintro ⟨h1, h2⟩ i u v hu hv
      cases i with
      | zero => simp at hu hv; subst hu; subst hv; exact h1
      | succ i => exact h2 i u v (by simpa using hu) (by simpa using hv)
    · intro h
      exact ⟨h 0 x y rfl rfl, fun i u v hu hv => h (i + 1) u v (by simpa using hu) (by simpa using hv)⟩
theorem sameD_len : ∀ {a b : List Dc}, sameD a b = true → a.length = b.length
  | [], [], _ => rfl
  | x :: r, y :: r', h => by
    simp only [sameD, Bool.and_eq_true] at h
    simp [sameD_len h.2]
theorem sameI_at {α β : Type} : ∀ (a : List (In α)) (b : List (In β)), a.length = b.length → ((sameI a b = true) ↔ ∀ (i : Nat) x y, a[i]? = some x → b[i]? = some y → x.same y = true)
  | [], [], _ => by simp [sameI]
  | x :: r, y :: r', h => by
    simp only [sameI, Bool.and_eq_true]
    rw [sameI_at r r' (by simpa using h)]
    constructor
    · rintro ⟨h1, h2⟩ i u v hu hv
      cases i with
      | zero => simp at hu hv; subst hu; subst hv; exact h1
      | succ i => exact h2 i u v (by simpa using hu) (by simpa using hv)
    · intro h
      exact ⟨h 0 x y rfl rfl, fun i u v hu hv => h (i + 1) u v (by simpa using hu) (by simpa using hv)⟩
theorem sameI_len {α β : Type} : ∀ {a : List (In α)} {b : List (In β)}, sameI a b = true → a.length = b.length
  | [], [], _ => rfl
  | x :: r, y :: r', h => by
    simp only [sameI, Bool.and_eq_true] at h
    simp [sameI_len h.2]
theorem samePr_at {α β : Type} : ∀ (a : List (Pr α)) (b : List (Pr β)), a.length = b.length → ((samePr a b = true) ↔ ∀ (i : Nat) x y, a[i]? = some x → b[i]? = some y → x.same y = true)
  | [], [], _ => by simp [samePr]
  | x :: r, y :: r', h => by
    simp only [samePr, Bool.and_eq_true]
    rw [samePr_at r r' (by simpa using h)]
    constructor
    · rintro ⟨h1, h2⟩ i u v hu hv
      cases i with
      | zero => simp at hu hv; subst hu; subst hv; exact h1
      | succ i => exact h2 i u v (by simpa using hu) (by simpa using hv)
    · intro h
      exact ⟨h 0 x y rfl rfl, fun i u v hu hv => h (i + 1) u v (by simpa using hu) (by simpa using hv)⟩
theorem samePr_len {α β : Type} : ∀ {a : List (Pr α)} {b : List (Pr β)}, samePr a b = true → a.length = b.length
  | [], [], _ => rfl
  | x :: r, y :: r', h => by
    simp only [samePr, Bool.and_eq_true] at h
    simp [samePr_len h.2]
theorem dc_neq (x y : Dc) (w : World) : Sem.run Try.prog (binOp .neq 60 (.agg #[.string x.nm, .int .i64 x.wd, .int .i64 x.sz]) (.agg #[.string y.nm, .int .i64 y.wd, .int .i64 y.sz])) w = .ok (.bool (!(x.eq y))) w := by
  have u3 := Try.underlying3
  have u9 := Try.underlying9
  have a3 : ∀ w, (isAgg 3).run Try.prog w = .ok false w := fun w => by kernel_rfl
  have a9 : ∀ w, (isAgg 9).run Try.prog w = .ok false w := fun w => by kernel_rfl
  have hS : Try.prog.underlying 60 = some (.struct (Try.prog.fieldsOf 60)) := by kernel_rfl
  have hp : Try.prog.stoodInHeld 60 = false := by kernel_rfl
  rw [run_neq_struct, show (10000 : Nat) = 9999 + 1 from rfl, run_equalIn_agg w 9999 60 _ _ hS hp]
  simp only [Program.fieldsOf, Try.underlying60]
  go_simp
  obtain ⟨xn, xw, xs⟩ := x
  obtain ⟨yn, yw, ys⟩ := y
  simp only [Dc.eq]
  cases h1 : (xn.toList == yn.toList) <;> cases h2 : (xw == yw) <;> cases h3 : (xs == ys) <;> simp_all
theorem RowIn.dc {w : World} {l : Loc} {xs : List Dc} (h : RowIn w 3 l xs.length (cellsD xs)) {k : Nat} {x : Dc} (hx : xs[k]? = some x) : ∃ ad, l.A = some ad ∧ k < xs.length ∧ CellsAt w (ad.add (k * 3)) x.cells := by
  obtain ⟨ad, h1, h2, h3, h4⟩ := RowIn.at Dc.cells_len h hx
  exact ⟨ad, h1, h3, h4⟩
set_option maxRecDepth 100000 in
theorem equalD (la lb : Loc) (a b : List Dc) (w : World) (ha : RowIn w 3 la a.length (cellsD a)) (hb : RowIn w 3 lb b.length (cellsD b)) :
    Calls Try.prog 42 #[.slice la.A a.length la.c, .slice lb.A b.length lb.c] w fun e w' => e = .returned (.bool (sameD a b)) ∧ Below w.heap.size w w' := by
  have ha63 : (a.length : Int) ≤ 9223372036854775807 := by have h1 := ha.2.1; have h2 := ha.2.2.1; omega
  obtain ⟨n, hn⟩ : ∃ n, n = a.length := ⟨_, rfl⟩
  obtain ⟨n', hn'⟩ : ∃ n, n = b.length := ⟨_, rfl⟩
  rw [← hn] at ha63 ⊢
  rw [← hn']
  by_cases hl : n = n'
  · subst hl
    replace hn := Lib.hid hn
    replace hn' := Lib.hid hn'
    obtain ⟨R, hR⟩ : ∃ R, R = sameD a b := ⟨_, rfl⟩
    rw [← hR]
    replace hR := Lib.hid hR
    go_enter Try.func42, Try.ntmps42
    go_wp2
    go_loopw [13] (fun i wr => ∃ k : Nat, i = .int .i64 k ∧ k ≤ n ∧ Below w.heap.size w wr ∧ ∀ (i : Nat) x y, i < k → a[i]? = some x → b[i]? = some y → x.eq y = true) (fun i _ => n - (intOf i).toNat)
    case atStart => exact ⟨0, rfl, Nat.zero_le _, Below.refl _ _, fun i x y h => absurd h (by omega)⟩
    case round =>
      obtain ⟨k, rfl, hk, hB, hsm⟩ := hrel
      have k0 : 0 ≤ (k : Int) := by omega
      by_cases hlt : k < n
      · have hx : a[k]? = some (a[k]'(by have := hn.out; omega)) := List.getElem?_eq_getElem (by have := hn.out; omega)
        generalize a[k]'(by have := hn.out; omega) = x at hx
        have hy : b[k]? = some (b[k]'(by have := hn'.out; omega)) := List.getElem?_eq_getElem (by have := hn'.out; omega)
        generalize b[k]'(by have := hn'.out; omega) = y at hy
        obtain ⟨ad, hA, _, hcx⟩ := RowIn.dc (ha.all (keeps_below hB)) hx
        obtain ⟨bd, hA', _, hcy⟩ := RowIn.dc (hb.all (keeps_below hB)) hy
        obtain ⟨xn, xw, xs⟩ := x
        obtain ⟨yn, yw, ys⟩ := y
        obtain ⟨c0, c1, c2⟩ := CellsAt.c3 hcx
        obtain ⟨d0, d1, d2⟩ := CellsAt.c3 hcy
        obtain ⟨lA, lc⟩ := la
        obtain ⟨lB, lc'⟩ := lb
        dsimp only at hA hA'
        subst hA
        subst hA'
        have k1 : (k : Int) < (n : Int) := by omega
        have hab := cell_lt c0
        have hbb := cell_lt d0
        obtain ⟨r, hr⟩ : ∃ r, r = (Dc.mk xn xw xs).eq ⟨yn, yw, ys⟩ := ⟨_, rfl⟩
        have hres : r = false → R = false := fun h => by
          rw [hR.out]
          cases hs : sameD a b with
          | false => rfl
          | true =>
            have := (sameD_at a b (sameD_len hs)).1 hs k _ _ hx hy
            rw [← hr, h] at this
            cases this
        have hcmp : (xn.toList == yn.toList && (xw == yw && xs == ys)) = r := hr.symm
        replace hr := Lib.hid hr
        replace hx := Lib.hid hx
        replace hy := Lib.hid hy
        replace hsm := Lib.hid hsm
        replace hres := Lib.hid hres
        clear hcmp
        have hm : Try.prog.eqGuardType Try.prog.depth 60 = false := by kernel_rfl
        have hneq := fun wx => dc_neq ⟨xn, xw, xs⟩ ⟨yn, yw, ys⟩ wx
        dsimp only at hneq
        rw [← hr.out] at hneq
        go_wp2_with fail
        go_quiet (fail)
        have hBq : Below wr.heap.size wr (wr.drewN nq) := ⟨rfl, rfl, rfl, Nat.le_refl _, fun _ _ => rfl⟩
        generalize wr.drewN nq = W1 at *
        cases r
        · go_wp2
          go_ret
          refine ⟨ret_b (hres.out (by simp)).symm, below_and hB hBq⟩
        · go_wp2_with fail
          go_roundw
          case rel =>
            refine ⟨k + 1, by go_num, by omega, below_and hB hBq, fun i x y hi hx' hy' => ?_⟩
            by_cases hik : i = k
            · subst hik
              rw [hx.out] at hx'
              rw [hy.out] at hy'
              cases hx'
              cases hy'
              exact hr.out.symm
            · exact hsm.out i x y (by omega) hx' hy'
          case measure => simp [intOf]; omega
      · obtain rfl : k = n := by omega
        have hRt : R = true := by
          rw [hR.out]
          refine (sameD_at a b (by rw [← hn.out, ← hn'.out])).2 fun i x y hx hy => hsm i x y ?_ hx hy
          have := (List.getElem?_eq_some_iff.1 hx).1
          have := hn.out
          omega
        replace hRt := Lib.hid hRt
        replace hsm := Lib.hid hsm
        go_wp2
        go_ret
        exact ⟨ret_b hRt.out.symm, hB⟩
  · have hRf : sameD a b = false := by
      cases hs : sameD a b with
      | false => rfl
      | true => exact absurd (by rw [hn, hn']; exact sameD_len hs) hl
    rw [hRf]
    have h1 : ((n : Int) == (n' : Int)) = false := by simp; omega
    have h2 : ((n : Int) != (n' : Int)) = true := by simp; omega
    have hl' := Lib.hid hl
    clear hl
    replace hn := Lib.hid hn
    replace hn' := Lib.hid hn'
    replace hRf := Lib.hid hRf
    go_enter Try.func42, Try.ntmps42
    go_wp2
    go_ret
    exact ⟨rfl, Below.refl _ _⟩

def aggI (x : In Loc) : Value := .agg (x.cells eT).toArray
def aggR (x : Pr Loc) : Value := .agg x.cells.toArray
set_option maxRecDepth 100000 in
theorem sameI_ok (a b : In Loc) (w : World) (ha : a.val.ok eT w) (hb : b.val.ok eT w) : Calls Try.prog 43 #[aggI a, aggI b] w fun e w' => e = .returned (.bool (a.same b)) ∧ Below w.heap.size w w' := by
  have hB : Below w.heap.size w ((w.alloc (.cells (a.cells eT).toArray 44)).alloc (.cells (b.cells eT).toArray 44)) := ((Below.refl _ _).alloc (Nat.le_refl _) _).alloc (by simp) _
  have hcall := sameE a.val b.val _ (ha.below hB) (hb.below hB)
  have hsame : a.same b = (a.bk == b.bk && a.val.same b.val) := rfl
  rw [hsame]
  obtain ⟨R, hR⟩ : ∃ R, R = a.val.same b.val := ⟨_, rfl⟩
  rw [← hR] at hcall ⊢
  clear hR hsame ha hb
  obtain ⟨xb, ⟨⟨xk, xo, xv, xw, xn⟩, ⟨xA, xc⟩, xs⟩⟩ := a
  obtain ⟨yb, ⟨⟨yk, yo, yv, yw, yn⟩, ⟨yA, yc⟩, ys⟩⟩ := b
  simp only [aggI, In.cells, aggX, Ex.cells, eT] at hcall hB ⊢
  replace hcall := Lib.hid hcall
  obtain ⟨b1, e1⟩ : ∃ b1, (xb == yb) = b1 := ⟨_, rfl⟩
  rw [e1]
  cases b1
  · simp only [Bool.false_and, Bool.and_false]
    go_enter Try.func43, Try.ntmps43
    go_wp2
    go_ret
    exact ⟨rfl, hB⟩
  simp only [Bool.true_and]
  go_enter Try.func43, Try.ntmps43
  go_wp2_with (go_at_call 44; with_reducible refine hcall.out.mono ?_; rintro e w5 ⟨rfl, hB5⟩)
  go_ret
  exact ⟨rfl, hB.trans (hB5.mono hB.size)⟩
set_option maxRecDepth 100000 in
theorem samePr_ok (a b : Pr Loc) (w : World) (ha : a.ok eT w) (hb : b.ok eT w) : Calls Try.prog 45 #[aggR a, aggR b] w fun e w' => e = .returned (.bool (a.same b)) ∧ Below w.heap.size w w' := by
  have hB : Below w.heap.size w ((w.alloc (.cells a.cells.toArray 46)).alloc (.cells b.cells.toArray 46)) := ((Below.refl _ _).alloc (Nat.le_refl _) _).alloc (by simp) _
  have hc1 := fun w2 (hB2 : Below w.heap.size w w2) => equalD a.lp b.lp a.ps b.ps w2 (ha.1.all (keeps_below hB2)) (hb.1.all (keeps_below hB2))
  have hc2 := fun w2 (hB2 : Below w.heap.size w w2) => equalS a.lb b.lb a.body b.body (fun x _ => sameS_ok x) w2 (ha.2.all (keeps_below hB2)) (hb.2.all (keeps_below hB2))
  have hsame : a.same b = (a.nm.toList == b.nm.toList && (sameD a.ps b.ps && sameS a.body b.body)) := rfl
  rw [hsame]
  obtain ⟨R1, hR1⟩ : ∃ R, R = sameD a.ps b.ps := ⟨_, rfl⟩
  obtain ⟨R2, hR2⟩ : ∃ R, R = sameS a.body b.body := ⟨_, rfl⟩
  rw [← hR1] at hc1 ⊢
  rw [← hR2] at hc2 ⊢
  clear hR1 hR2 hsame ha hb
  obtain ⟨xn, ⟨xA, xc⟩, xp, ⟨xB, xd⟩, xs⟩ := a
  obtain ⟨yn, ⟨yA, yc⟩, yp, ⟨yB, yd⟩, ys⟩ := b
  simp only [aggR, Pr.cells] at hc1 hc2 hB ⊢
  replace hc1 := Lib.hid hc1
  replace hc2 := Lib.hid hc2
  have hs0 := (Blk.new w 46 #[.string xn, .slice xA xp.length xc, .slice xB xs.length xd]).alloc (.cells #[.string yn, .slice yA yp.length yc, .slice yB ys.length yd] 46)
  have hs1 := Blk.new (w.alloc (.cells #[.string xn, .slice xA xp.length xc, .slice xB xs.length xd] 46)) 46 #[.string yn, .slice yA yp.length yc, .slice yB ys.length yd]
  rw [World.size_alloc] at hs1
  obtain ⟨q1, e1⟩ : ∃ q, (xn.toList == yn.toList) = q := ⟨_, rfl⟩
  rw [e1]
  cases q1
  · simp only [Bool.false_and, Bool.and_false]
    go_enter Try.func45, Try.ntmps45
    go_wp2
    go_ret
    exact ⟨rfl, hB⟩
  simp only [Bool.true_and]
  go_enter Try.func45, Try.ntmps45
  go_wp2_with fail
  have hl0 := hs0.lt
  have hl1 := hs1.lt
  generalize (w.alloc (.cells #[.string xn, .slice xA xp.length xc, .slice xB xs.length xd] 46)).alloc (.cells #[.string yn, .slice yA yp.length yc, .slice yB ys.length yd] 46) = W0 at *
  refine (hc1.out _ hB).mono ?_
  rintro e w1 ⟨rfl, hB1⟩
  cases R1
  · go_wp2
    go_ret
    exact ⟨rfl, hB.trans (hB1.mono hB.size)⟩
  · have r4 := (hs0.below hB1 hl0).cell 2
    have s4 := (hs1.below hB1 hl1).cell 2
    simp only [List.getElem?_toArray, List.getElem?_cons_zero, List.getElem?_cons_succ] at r4 s4
    have hl2 : w.heap.size < w1.heap.size := Nat.lt_of_lt_of_le hl0 hB1.size
    have hl3 : w.heap.size + 1 < w1.heap.size := Nat.lt_of_lt_of_le hl1 hB1.size
    go_wp2_with fail
    have hB01 := hB.trans (hB1.mono hB.size)
    refine (hc2.out _ hB01).mono ?_
    rintro e w2 ⟨rfl, hB2⟩
    go_wp2
    go_ret
    exact ⟨rfl, hB01.trans (hB2.mono hB01.size)⟩

theorem sameI_false {α β : Type} {a : List (In α)} {b : List (In β)} {k : Nat} {x : In α} {y : In β} (hx : a[k]? = some x) (hy : b[k]? = some y) (h : x.same y = false) : sameI a b = false := by
  cases hs : sameI a b with
  | false => rfl
  | true => rw [(sameI_at a b (sameI_len hs)).1 hs k x y hx hy] at h; cases h
set_option maxRecDepth 100000 in
theorem equalI (la lb : Loc) (a b : List (In Loc)) (w : World) (ha : Lin.ok eT w la a) (hb : Lin.ok eT w lb b) :
    Calls Try.prog 48 #[.slice la.A a.length la.c, .slice lb.A b.length lb.c, .func (.func 43) #[] #[]] w fun e w' => e = .returned (.bool (sameI a b)) ∧ Below w.heap.size w w' := by
  have ha63 : (a.length : Int) ≤ 9223372036854775807 := by have h1 := ha.1.2.1; have h2 := ha.1.2.2.1; omega
  obtain ⟨n, hn⟩ : ∃ n, n = a.length := ⟨_, rfl⟩
  obtain ⟨n', hn'⟩ : ∃ n, n = b.length := ⟨_, rfl⟩
  rw [← hn] at ha63 ⊢
  rw [← hn']
  by_cases hl : n = n'
  · subst hl
    replace hn := Lib.hid hn
    replace hn' := Lib.hid hn'
    obtain ⟨R, hR⟩ : ∃ R, R = sameI a b := ⟨_, rfl⟩
    rw [← hR]
    replace hR := Lib.hid hR
    go_enter Try.func48, Try.ntmps48
    go_wp2
    go_loopw [17] (fun i wr => ∃ k : Nat, i = .int .i64 k ∧ k ≤ n ∧ Below w.heap.size w wr ∧ ∀ (i : Nat) x y, i < k → a[i]? = some x → b[i]? = some y → x.same y = true) (fun i _ => n - (intOf i).toNat)
    case atStart => exact ⟨0, rfl, Nat.zero_le _, Below.refl _ _, fun i x y h => absurd h (by omega)⟩
    case round =>
      obtain ⟨k, rfl, hk, hB, hsm⟩ := hrel
      have k0 : 0 ≤ (k : Int) := by omega
      by_cases hlt : k < n
      · have hx : a[k]? = some (a[k]'(by have := hn.out; omega)) := List.getElem?_eq_getElem (by have := hn.out; omega)
        generalize a[k]'(by have := hn.out; omega) = x at hx
        have hy : b[k]? = some (b[k]'(by have := hn'.out; omega)) := List.getElem?_eq_getElem (by have := hn'.out; omega)
        generalize b[k]'(by have := hn'.out; omega) = y at hy
        obtain ⟨ad, hA, _, hxok, hcx⟩ := Lin.ok.at (Lin.ok.keep (keeps_below hB) ha (fun _ _ => trivial)) hx
        obtain ⟨bd, hA', _, hyok, hcy⟩ := Lin.ok.at (Lin.ok.keep (keeps_below hB) hb (fun _ _ => trivial)) hy
        have hcall := fun w2 (hB2 : Below wr.heap.size wr w2) => sameI_ok x y w2 (hxok.below hB2) (hyok.below hB2)
        have hres := sameI_false hx hy
        obtain ⟨r, hr⟩ : ∃ r, r = x.same y := ⟨_, rfl⟩
        rw [← hr] at hcall hres
        replace hr := Lib.hid hr
        replace hx := Lib.hid hx
        replace hy := Lib.hid hy
        replace hsm := Lib.hid hsm
        replace hres := Lib.hid hres
        obtain ⟨xb, ⟨⟨xk, xo, xv, xw, xn⟩, ⟨xA, xc⟩, xs⟩⟩ := x
        obtain ⟨yb, ⟨⟨yk, yo, yv, yw, yn⟩, ⟨yA, yc⟩, ys⟩⟩ := y
        obtain ⟨c0, c1, c2, c3, c4, c5, c6⟩ := CellsAt.c7 hcx
        obtain ⟨d0, d1, d2, d3, d4, d5, d6⟩ := CellsAt.c7 hcy
        simp only [aggI, In.cells, Pr.cells, Ex.cells, eT] at c0 c1 c2 c3 c4 c5 c6 d0 d1 d2 d3 d4 d5 d6 hcall
        obtain ⟨lA, lc⟩ := la
        obtain ⟨lB, lc'⟩ := lb
        dsimp only at hA hA'
        subst hA
        subst hA'
        have k1 : (k : Int) < (n : Int) := by omega
        have hab := cell_lt c0
        have hbb := cell_lt d0
        have hB4 : Below wr.heap.size wr ((wr.alloc (.cells #[.int .i64 xb, .int .u8 xk, .int .u8 xo, .int .u32 xv, .int .i64 xw, .string xn, .slice xA xs.length xc] 44)).alloc (.cells #[.int .i64 yb, .int .u8 yk, .int .u8 yo, .int .u32 yv, .int .i64 yw, .string yn, .slice yA ys.length yc] 44)) := ((Below.refl _ _).alloc (Nat.le_refl _) _).alloc (by simp) _
        have hcall := Lib.hid (hcall _ hB4)
        go_wp2_with (go_at_call 43; with_reducible refine hcall.out.mono ?_; rintro e w5 ⟨rfl, hB5⟩; cases r)
        · go_ret
          refine ⟨ret_b ((hR.out.trans (hres.out (by simp))).symm), hB.trans ((hB4.trans (hB5.mono hB4.size)).mono hB.size)⟩
        · go_roundw
          case rel =>
            refine ⟨k + 1, by go_num, by omega, hB.trans ((hB4.trans (hB5.mono hB4.size)).mono hB.size), fun i x y hi hx' hy' => ?_⟩
            by_cases hik : i = k
            · subst hik
              rw [hx.out] at hx'
              rw [hy.out] at hy'
              cases hx'
              cases hy'
              exact hr.out.symm
            · exact hsm.out i x y (by omega) hx' hy'
          case measure => simp [intOf]; omega
      · obtain rfl : k = n := by omega
        have hRt : R = true := by
          rw [hR.out]
          refine (sameI_at a b (by rw [← hn.out, ← hn'.out])).2 fun i x y hx hy => hsm i x y ?_ hx hy
          have := (List.getElem?_eq_some_iff.1 hx).1
          have := hn.out
          omega
        replace hRt := Lib.hid hRt
        replace hsm := Lib.hid hsm
        go_wp2
        go_ret
        exact ⟨ret_b hRt.out.symm, hB⟩
  · have hRf : sameI a b = false := by
      cases hs : sameI a b with
      | false => rfl
      | true => exact absurd (by rw [hn, hn']; exact sameI_len hs) hl
    rw [hRf]
    have h1 : ((n : Int) == (n' : Int)) = false := by simp; omega
    have h2 : ((n : Int) != (n' : Int)) = true := by simp; omega
    have hl' := Lib.hid hl
    clear hl
    replace hn := Lib.hid hn
    replace hn' := Lib.hid hn'
    replace hRf := Lib.hid hRf
    go_enter Try.func48, Try.ntmps48
    go_wp2
    go_ret
    exact ⟨rfl, Below.refl _ _⟩

theorem samePr_false {α β : Type} {a : List (Pr α)} {b : List (Pr β)} {k : Nat} {x : Pr α} {y : Pr β} (hx : a[k]? = some x) (hy : b[k]? = some y) (h : x.same y = false) : samePr a b = false := by
  cases hs : samePr a b with
  | false => rfl
  | true => rw [(samePr_at a b (samePr_len hs)).1 hs k x y hx hy] at h; cases h
set_option maxRecDepth 100000 in
theorem equalPr (la lb : Loc) (a b : List (Pr Loc)) (w : World) (ha : Lpr.ok eT w la a) (hb : Lpr.ok eT w lb b) :
    Calls Try.prog 49 #[.slice la.A a.length la.c, .slice lb.A b.length lb.c, .func (.func 45) #[] #[]] w fun e w' => e = .returned (.bool (samePr a b)) ∧ Below w.heap.size w w' := by
  have ha63 : (a.length : Int) ≤ 9223372036854775807 := by have h1 := ha.1.2.1; have h2 := ha.1.2.2.1; omega
  obtain ⟨n, hn⟩ : ∃ n, n = a.length := ⟨_, rfl⟩
  obtain ⟨n', hn'⟩ : ∃ n, n = b.length := ⟨_, rfl⟩
  rw [← hn] at ha63 ⊢
  rw [← hn']
  by_cases hl : n = n'
  · subst hl
    replace hn := Lib.hid hn
    replace hn' := Lib.hid hn'
    obtain ⟨R, hR⟩ : ∃ R, R = samePr a b := ⟨_, rfl⟩
    rw [← hR]
    replace hR := Lib.hid hR
    go_enter Try.func49, Try.ntmps49
    go_wp2
    go_loopw [17] (fun i wr => ∃ k : Nat, i = .int .i64 k ∧ k ≤ n ∧ Below w.heap.size w wr ∧ ∀ (i : Nat) x y, i < k → a[i]? = some x → b[i]? = some y → x.same y = true) (fun i _ => n - (intOf i).toNat)
    case atStart => exact ⟨0, rfl, Nat.zero_le _, Below.refl _ _, fun i x y h => absurd h (by omega)⟩
    case round =>
      obtain ⟨k, rfl, hk, hB, hsm⟩ := hrel
      have k0 : 0 ≤ (k : Int) := by omega
      by_cases hlt : k < n
      · have hx : a[k]? = some (a[k]'(by have := hn.out; omega)) := List.getElem?_eq_getElem (by have := hn.out; omega)
        generalize a[k]'(by have := hn.out; omega) = x at hx
        have hy : b[k]? = some (b[k]'(by have := hn'.out; omega)) := List.getElem?_eq_getElem (by have := hn'.out; omega)
        generalize b[k]'(by have := hn'.out; omega) = y at hy
        obtain ⟨ad, hA, _, hxok, hcx⟩ := Lpr.ok.at (Lpr.ok.keep (keeps_below hB) ha (fun _ _ => trivial)) hx
        obtain ⟨bd, hA', _, hyok, hcy⟩ := Lpr.ok.at (Lpr.ok.keep (keeps_below hB) hb (fun _ _ => trivial)) hy
        have hcall := fun w2 (hB2 : Below wr.heap.size wr w2) => samePr_ok x y w2 (Pr.ok.keep (keeps_below hB2) hxok (fun _ _ => trivial)) (Pr.ok.keep (keeps_below hB2) hyok (fun _ _ => trivial))
        have hres := samePr_false hx hy
        obtain ⟨r, hr⟩ : ∃ r, r = x.same y := ⟨_, rfl⟩
        rw [← hr] at hcall hres
        replace hr := Lib.hid hr
        replace hx := Lib.hid hx
        replace hy := Lib.hid hy
        replace hsm := Lib.hid hsm
        replace hres := Lib.hid hres
        obtain ⟨xn, ⟨xA, xc⟩, xp, ⟨xB, xd⟩, xs⟩ := x
        obtain ⟨yn, ⟨yA, yc⟩, yp, ⟨yB, yd⟩, ys⟩ := y
        obtain ⟨c0, c1, c2⟩ := CellsAt.c3 hcx
        obtain ⟨d0, d1, d2⟩ := CellsAt.c3 hcy
        simp only [aggR, In.cells, Pr.cells, Ex.cells, eT] at c0 c1 c2 d0 d1 d2 hcall
        obtain ⟨lA, lc⟩ := la
        obtain ⟨lB, lc'⟩ := lb
        dsimp only at hA hA'
        subst hA
        subst hA'
        have k1 : (k : Int) < (n : Int) := by omega
        have hab := cell_lt c0
        have hbb := cell_lt d0
        have hB4 : Below wr.heap.size wr ((wr.alloc (.cells #[.string xn, .slice xA xp.length xc, .slice xB xs.length xd] 46)).alloc (.cells #[.string yn, .slice yA yp.length yc, .slice yB ys.length yd] 46)) := ((Below.refl _ _).alloc (Nat.le_refl _) _).alloc (by simp) _
        have hcall := Lib.hid (hcall _ hB4)
        go_wp2_with (go_at_call 45; with_reducible refine hcall.out.mono ?_; rintro e w5 ⟨rfl, hB5⟩; cases r)
        · go_ret
          refine ⟨ret_b ((hR.out.trans (hres.out (by simp))).symm), hB.trans ((hB4.trans (hB5.mono hB4.size)).mono hB.size)⟩
        · go_roundw
          case rel =>
            refine ⟨k + 1, by go_num, by omega, hB.trans ((hB4.trans (hB5.mono hB4.size)).mono hB.size), fun i x y hi hx' hy' => ?_⟩
            by_cases hik : i = k
            · subst hik
              rw [hx.out] at hx'
              rw [hy.out] at hy'
              cases hx'
              cases hy'
              exact hr.out.symm
            · exact hsm.out i x y (by omega) hx' hy'
          case measure => simp [intOf]; omega
      · obtain rfl : k = n := by omega
        have hRt : R = true := by
          rw [hR.out]
          refine (samePr_at a b (by rw [← hn.out, ← hn'.out])).2 fun i x y hx hy => hsm i x y ?_ hx hy
          have := (List.getElem?_eq_some_iff.1 hx).1
          have := hn.out
          omega
        replace hRt := Lib.hid hRt
        replace hsm := Lib.hid hsm
        go_wp2
        go_ret
        exact ⟨ret_b hRt.out.symm, hB⟩
  · have hRf : samePr a b = false := by
      cases hs : samePr a b with
      | false => rfl
      | true => exact absurd (by rw [hn, hn']; exact samePr_len hs) hl
    rw [hRf]
    have h1 : ((n : Int) == (n' : Int)) = false := by simp; omega
    have h2 : ((n : Int) != (n' : Int)) = true := by simp; omega
    have hl' := Lib.hid hl
    clear hl
    replace hn := Lib.hid hn
    replace hn' := Lib.hid hn'
    replace hRf := Lib.hid hRf
    go_enter Try.func49, Try.ntmps49
    go_wp2
    go_ret
    exact ⟨rfl, Below.refl _ _⟩

end Go.Proofs.Ytnldbplphgfpeaa
