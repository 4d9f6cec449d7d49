/- Lemmas for salvor/salvorlaw29.TreeSmall (part 9); no condition. -/
import Derived.Laws.StructEq
import Derived.Test.YtnldbplphgfpeaaGreatP08
import Derived.Test.YtnldbplphgfpeaaGreatP05
namespace Go.Proofs.YtnldbplphgfpeaaGreat
open Go Go.RowKit Go.Shelf
set_option linter.unusedVariables false
set_option linter.unusedSimpArgs false
set_option maxHeartbeats 4000000
theorem sameD_at : ∀ (a b : List Dc), a.length = b.length → ((sameD a b = true) ↔ ∀ (i : Nat) x y, a[i]? = some x → b[i]? = some y → x.eq y = true)
 | [], [], _ => by simp [sameD]
 | x :: r, y :: r', h => by
  simp only [sameD, Bool.and_eq_true]
  rw [sameD_at r r' (by simpa using h)]
  constructor
  ·rintro ⟨h1, h2⟩ i u v hu hv
   cases i with
   | zero => simp at hu hv; subst hu; subst hv; exact h1
   | succ i => exact h2 i u v (by simpa using hu) (by simpa using hv)
  ·intro h
   exact ⟨h 0 x y rfl rfl, fun i u v hu hv => h (i + 1) u v (by simpa using hu) (by simpa using hv)⟩
theorem sameD_len : ∀ {a b : List Dc}, sameD a b = true → a.length = b.length
 | [], [], _ => rfl
 | x :: r, y :: r', h => by
  simp only [sameD, Bool.and_eq_true] at h
  simp [sameD_len h.2]
theorem sameI_at {α β : Type} : ∀ (a : List (In α)) (b : List (In β)), a.length = b.length → ((sameI a b = true) ↔ ∀ (i : Nat) x y, a[i]? = some x → b[i]? = some y → x.same y = true)
 | [], [], _ => by simp [sameI]
 | x :: r, y :: r', h => by
  simp only [sameI, Bool.and_eq_true]
  rw [sameI_at r r' (by simpa using h)]
  constructor
  ·rintro ⟨h1, h2⟩ i u v hu hv
   cases i with
   | zero => simp at hu hv; subst hu; subst hv; exact h1
   | succ i => exact h2 i u v (by simpa using hu) (by simpa using hv)
  ·intro h
   exact ⟨h 0 x y rfl rfl, fun i u v hu hv => h (i + 1) u v (by simpa using hu) (by simpa using hv)⟩
theorem sameI_len {α β : Type} : ∀ {a : List (In α)} {b : List (In β)}, sameI a b = true → a.length = b.length
 | [], [], _ => rfl
 | x :: r, y :: r', h => by
  simp only [sameI, Bool.and_eq_true] at h
  simp [sameI_len h.2]
theorem samePr_at {α β : Type} : ∀ (a : List (Pr α)) (b : List (Pr β)), a.length = b.length → ((samePr a b = true) ↔ ∀ (i : Nat) x y, a[i]? = some x → b[i]? = some y → x.same y = true)
 | [], [], _ => by simp [samePr]
 | x :: r, y :: r', h => by
  simp only [samePr, Bool.and_eq_true]
  rw [samePr_at r r' (by simpa using h)]
  constructor
  ·rintro ⟨h1, h2⟩ i u v hu hv
   cases i with
   | zero => simp at hu hv; subst hu; subst hv; exact h1
   | succ i => exact h2 i u v (by simpa using hu) (by simpa using hv)
  ·intro h
   exact ⟨h 0 x y rfl rfl, fun i u v hu hv => h (i + 1) u v (by simpa using hu) (by simpa using hv)⟩
theorem samePr_len {α β : Type} : ∀ {a : List (Pr α)} {b : List (Pr β)}, samePr a b = true → a.length = b.length
 | [], [], _ => rfl
 | x :: r, y :: r', h => by
  simp only [samePr, Bool.and_eq_true] at h
  simp [samePr_len h.2]
theorem dc_neq (x y : Dc) (w : World) : Sem.run Tryz.prog (binOp .neq 60 (.agg #[.string x.nm, .int .i64 x.wd, .int .i64 x.sz]) (.agg #[.string y.nm, .int .i64 y.wd, .int .i64 y.sz])) w = .ok (.bool (!(x.eq y))) w := by
 have u3 := Tryz.underlying3
 have u9 := Tryz.underlying9
 have a3 : ∀ w, (isAgg 3).run Tryz.prog w = .ok false w := fun w => by kernel_rfl
 have a9 : ∀ w, (isAgg 9).run Tryz.prog w = .ok false w := fun w => by kernel_rfl
 have hS : Tryz.prog.underlying 60 = some (.struct (Tryz.prog.fieldsOf 60)) := by kernel_rfl
 have hp : Tryz.prog.stoodInHeld 60 = false := by kernel_rfl
 rw [run_neq_struct, show (10000 : Nat) = 9999 + 1 from rfl, run_equalIn_agg w 9999 60 _ _ hS hp]
 simp only [Program.fieldsOf, Tryz.underlying60]
 go_simp
 obtain ⟨xn, xw, xs⟩ := x
 obtain ⟨yn, yw, ys⟩ := y
 simp only [Dc.eq]
 cases h1 : (xn.toList == yn.toList) <;> cases h2 : (xw == yw) <;> cases h3 : (xs == ys) <;> simp_all
theorem RowIn.dc {w : World} {l : Loc} {xs : List Dc} (h : RowIn w 3 l xs.length (cellsD xs)) {k : Nat} {x : Dc} (hx : xs[k]? = some x) : ∃ ad, l.A = some ad ∧ k < xs.length ∧ CellsAt w (ad.add (k * 3)) x.cells := by
 obtain ⟨ad, h1, h2, h3, h4⟩ := RowIn.at Dc.cells_len h hx
 exact ⟨ad, h1, h3, h4⟩
set_option maxRecDepth 100000 in
theorem equalD (la lb : Loc) (a b : List Dc) (w : World) (ha : RowIn w 3 la a.length (cellsD a)) (hb : RowIn w 3 lb b.length (cellsD b)) :
  Calls Tryz.prog 92 #[.slice la.A a.length la.c, .slice lb.A b.length lb.c] w fun e w' => e = .returned (.bool (sameD a b)) ∧ Below w.heap.size w w' := by
 have ha63 : (a.length : Int) ≤ 9223372036854775807 := by have h1 := ha.2.1; have h2 := ha.2.2.1; omega
 obtain ⟨n, hn⟩ : ∃ n, n = a.length := ⟨_, rfl⟩
 obtain ⟨n', hn'⟩ : ∃ n, n = b.length := ⟨_, rfl⟩
 rw [← hn] at ha63 ⊢
 rw [← hn']
 by_cases hl : n = n'
 ·subst hl
  replace hn := Lib.hid hn
  replace hn' := Lib.hid hn'
  obtain ⟨R, hR⟩ : ∃ R, R = sameD a b := ⟨_, rfl⟩
  rw [← hR]
  replace hR := Lib.hid hR
  go_enter Tryz.func92, Tryz.ntmps92
  go_wp2
  go_loopw [13] (fun i wr => ∃ k : Nat, i = .int .i64 k ∧ k ≤ n ∧ Below w.heap.size w wr ∧ ∀ (i : Nat) x y, i < k → a[i]? = some x → b[i]? = some y → x.eq y = true) (fun i _ => n - (intOf i).toNat)
  case atStart => exact ⟨0, rfl, Nat.zero_le _, Below.refl _ _, fun i x y h => absurd h (by omega)⟩
  case round =>
   obtain ⟨k, rfl, hk, hB, hsm⟩ := hrel
   have k0 : 0 ≤ (k : Int) := by omega
   by_cases hlt : k < n
   ·have hx : a[k]? = some (a[k]'(by have := hn.out; omega)) := List.getElem?_eq_getElem (by have := hn.out; omega)
    generalize a[k]'(by have := hn.out; omega) = x at hx
    have hy : b[k]? = some (b[k]'(by have := hn'.out; omega)) := List.getElem?_eq_getElem (by have := hn'.out; omega)
    generalize b[k]'(by have := hn'.out; omega) = y at hy
    obtain ⟨ad, hA, _, hcx⟩ := RowIn.dc (ha.all (keeps_below hB)) hx
    obtain ⟨bd, hA', _, hcy⟩ := RowIn.dc (hb.all (keeps_below hB)) hy
    obtain ⟨xn, xw, xs⟩ := x
    obtain ⟨yn, yw, ys⟩ := y
    obtain ⟨c0, c1, c2⟩ := CellsAt.c3 hcx
    obtain ⟨d0, d1, d2⟩ := CellsAt.c3 hcy
    obtain ⟨lA, lc⟩ := la
    obtain ⟨lB, lc'⟩ := lb
    dsimp only at hA hA'
    subst hA
    subst hA'
    have k1 : (k : Int) < (n : Int) := by omega
    have hab := cell_lt c0
    have hbb := cell_lt d0
    obtain ⟨r, hr⟩ : ∃ r, r = (Dc.mk xn xw xs).eq ⟨yn, yw, ys⟩ := ⟨_, rfl⟩
    have hres : r = false → R = false := fun h => by
     rw [hR.out]
     cases hs : sameD a b with
     | false => rfl
     | true =>
      have := (sameD_at a b (sameD_len hs)).1 hs k _ _ hx hy
      rw [← hr, h] at this
      cases this
    have hcmp : (xn.toList == yn.toList && (xw == yw && xs == ys)) = r := hr.symm
    replace hr := Lib.hid hr
    replace hx := Lib.hid hx
    replace hy := Lib.hid hy
    replace hsm := Lib.hid hsm
    replace hres := Lib.hid hres
    clear hcmp
    have hm : Tryz.prog.eqGuardType Tryz.prog.depth 60 = false := by kernel_rfl
    have hneq := fun wx => dc_neq ⟨xn, xw, xs⟩ ⟨yn, yw, ys⟩ wx
    dsimp only at hneq
    rw [← hr.out] at hneq
    go_wp2_with fail
    go_quiet (fail)
    have hBq : Below wr.heap.size wr (wr.drewN nq) := ⟨rfl, rfl, rfl, Nat.le_refl _, fun _ _ => rfl⟩
    generalize wr.drewN nq = W1 at *
    cases r
    ·go_wp2
     go_ret
     refine ⟨ret_b (hres.out (by simp)).symm, below_and hB hBq⟩
    ·go_wp2_with fail
     go_roundw
     case rel =>
      refine ⟨k + 1, by go_num, by omega, below_and hB hBq, fun i x y hi hx' hy' => ?_⟩
      by_cases hik : i = k
      ·subst hik
       rw [hx.out] at hx'
       rw [hy.out] at hy'
       cases hx'
       cases hy'
       exact hr.out.symm
      ·exact hsm.out i x y (by omega) hx' hy'
     case measure => simp [intOf]; omega
   ·obtain rfl : k = n := by omega
    have hRt : R = true := by
     rw [hR.out]
     refine (sameD_at a b (by rw [← hn.out, ← hn'.out])).2 fun i x y hx hy => hsm i x y ?_ hx hy
     have := (List.getElem?_eq_some_iff.1 hx).1
     have := hn.out
     omega
    replace hRt := Lib.hid hRt
    replace hsm := Lib.hid hsm
    go_wp2
    go_ret
    exact ⟨ret_b hRt.out.symm, hB⟩
 ·have hRf : sameD a b = false := by
   cases hs : sameD a b with
   | false => rfl
   | true => exact absurd (by rw [hn, hn']; exact sameD_len hs) hl
  rw [hRf]
  have h1 : ((n : Int) == (n' : Int)) = false := by simp; omega
  have h2 : ((n : Int) != (n' : Int)) = true := by simp; omega
  have hl' := Lib.hid hl
  clear hl
  replace hn := Lib.hid hn
  replace hn' := Lib.hid hn'
  replace hRf := Lib.hid hRf
  go_enter Tryz.func92, Tryz.ntmps92
  go_wp2
  go_ret
  exact ⟨rfl, Below.refl _ _⟩
def aggI (x : In Loc) : Value := .agg (x.cells eT).toArray
def aggR (x : Pr Loc) : Value := .agg x.cells.toArray
set_option maxRecDepth 100000 in
theorem sameI_ok (a b : In Loc) (w : World) (ha : a.val.ok eT w) (hb : b.val.ok eT w) : Calls Tryz.prog 93 #[aggI a, aggI b] w fun e w' => e = .returned (.bool (a.same b)) ∧ Below w.heap.size w w' := by
 have hB : Below w.heap.size w ((w.alloc (.cells (a.cells eT).toArray 62)).alloc (.cells (b.cells eT).toArray 62)) := ((Below.refl _ _).alloc (Nat.le_refl _) _).alloc (by simp) _
 have hcall := sameE a.val b.val _ (ha.below hB) (hb.below hB)
 have hsame : a.same b = (a.bk == b.bk && a.val.same b.val) := rfl
 rw [hsame]
 obtain ⟨R, hR⟩ : ∃ R, R = a.val.same b.val := ⟨_, rfl⟩
 rw [← hR] at hcall ⊢
 clear hR hsame ha hb
 obtain ⟨xb, ⟨⟨xk, xo, xv, xw, xn⟩, ⟨xA, xc⟩, xs⟩⟩ := a
 obtain ⟨yb, ⟨⟨yk, yo, yv, yw, yn⟩, ⟨yA, yc⟩, ys⟩⟩ := b
 simp only [aggI, In.cells, aggX, Ex.cells, eT] at hcall hB ⊢
 replace hcall := Lib.hid hcall
 obtain ⟨b1, e1⟩ : ∃ b1, (xb == yb) = b1 := ⟨_, rfl⟩
 rw [e1]
 cases b1
 ·simp only [Bool.false_and, Bool.and_false]
  go_enter Tryz.func93, Tryz.ntmps93
  go_wp2
  go_ret
  exact ⟨rfl, hB⟩
 simp only [Bool.true_and]
 go_enter Tryz.func93, Tryz.ntmps93
 go_wp2_with (go_at_call 79; with_reducible refine hcall.out.mono ?_; rintro e w5 ⟨rfl, hB5⟩)
 go_ret
 exact ⟨rfl, hB.trans (hB5.mono hB.size)⟩
set_option maxRecDepth 100000 in
theorem samePr_ok (a b : Pr Loc) (w : World) (ha : a.ok eT w) (hb : b.ok eT w) : Calls Tryz.prog 94 #[aggR a, aggR b] w fun e w' => e = .returned (.bool (a.same b)) ∧ Below w.heap.size w w' := by
 have hB : Below w.heap.size w ((w.alloc (.cells a.cells.toArray 64)).alloc (.cells b.cells.toArray 64)) := ((Below.refl _ _).alloc (Nat.le_refl _) _).alloc (by simp) _
 have hc1 := fun w2 (hB2 : Below w.heap.size w w2) => equalD a.lp b.lp a.ps b.ps w2 (ha.1.all (keeps_below hB2)) (hb.1.all (keeps_below hB2))
 have hc2 := fun w2 (hB2 : Below w.heap.size w w2) => equalS a.lb b.lb a.body b.body (fun x _ => sameS_ok x) w2 (ha.2.all (keeps_below hB2)) (hb.2.all (keeps_below hB2))
 have hsame : a.same b = (a.nm.toList == b.nm.toList && (sameD a.ps b.ps && sameS a.body b.body)) := rfl
 rw [hsame]
 obtain ⟨R1, hR1⟩ : ∃ R, R = sameD a.ps b.ps := ⟨_, rfl⟩
 obtain ⟨R2, hR2⟩ : ∃ R, R = sameS a.body b.body := ⟨_, rfl⟩
 rw [← hR1] at hc1 ⊢
 rw [← hR2] at hc2 ⊢
 clear hR1 hR2 hsame ha hb
 obtain ⟨xn, ⟨xA, xc⟩, xp, ⟨xB, xd⟩, xs⟩ := a
 obtain ⟨yn, ⟨yA, yc⟩, yp, ⟨yB, yd⟩, ys⟩ := b
 simp only [aggR, Pr.cells] at hc1 hc2 hB ⊢
 replace hc1 := Lib.hid hc1
 replace hc2 := Lib.hid hc2
 have hs0 := (Blk.new w 64 #[.string xn, .slice xA xp.length xc, .slice xB xs.length xd]).alloc (.cells #[.string yn, .slice yA yp.length yc, .slice yB ys.length yd] 64)
 have hs1 := Blk.new (w.alloc (.cells #[.string xn, .slice xA xp.length xc, .slice xB xs.length xd] 64)) 64 #[.string yn, .slice yA yp.length yc, .slice yB ys.length yd]
 rw [World.size_alloc] at hs1
 obtain ⟨q1, e1⟩ : ∃ q, (xn.toList == yn.toList) = q := ⟨_, rfl⟩
 rw [e1]
 cases q1
 ·simp only [Bool.false_and, Bool.and_false]
  go_enter Tryz.func94, Tryz.ntmps94
  go_wp2
  go_ret
  exact ⟨rfl, hB⟩
 simp only [Bool.true_and]
 go_enter Tryz.func94, Tryz.ntmps94
 go_wp2_with fail
 have hl0 := hs0.lt
 have hl1 := hs1.lt
 generalize (w.alloc (.cells #[.string xn, .slice xA xp.length xc, .slice xB xs.length xd] 64)).alloc (.cells #[.string yn, .slice yA yp.length yc, .slice yB ys.length yd] 64) = W0 at *
 refine (hc1.out _ hB).mono ?_
 rintro e w1 ⟨rfl, hB1⟩
 cases R1
 ·go_wp2
  go_ret
  exact ⟨rfl, hB.trans (hB1.mono hB.size)⟩
 ·have r4 := (hs0.below hB1 hl0).cell 2
  have s4 := (hs1.below hB1 hl1).cell 2
  simp only [List.getElem?_toArray, List.getElem?_cons_zero, List.getElem?_cons_succ] at r4 s4
  have hl2 : w.heap.size < w1.heap.size := Nat.lt_of_lt_of_le hl0 hB1.size
  have hl3 : w.heap.size + 1 < w1.heap.size := Nat.lt_of_lt_of_le hl1 hB1.size
  go_wp2_with fail
  have hB01 := hB.trans (hB1.mono hB.size)
  refine (hc2.out _ hB01).mono ?_
  rintro e w2 ⟨rfl, hB2⟩
  go_wp2
  go_ret
  exact ⟨rfl, hB01.trans (hB2.mono hB01.size)⟩
theorem sameI_false {α β : Type} {a : List (In α)} {b : List (In β)} {k : Nat} {x : In α} {y : In β} (hx : a[k]? = some x) (hy : b[k]? = some y) (h : x.same y = false) : sameI a b = false := by
 cases hs : sameI a b with
 | false => rfl
 | true => rw [(sameI_at a b (sameI_len hs)).1 hs k x y hx hy] at h; cases h
set_option maxRecDepth 100000 in
theorem equalI (la lb : Loc) (a b : List (In Loc)) (w : World) (ha : Lin.ok eT w la a) (hb : Lin.ok eT w lb b) :
  Calls Tryz.prog 95 #[.slice la.A a.length la.c, .slice lb.A b.length lb.c, .func (.func 93) #[] #[]] w fun e w' => e = .returned (.bool (sameI a b)) ∧ Below w.heap.size w w' := by
 have ha63 : (a.length : Int) ≤ 9223372036854775807 := by have h1 := ha.1.2.1; have h2 := ha.1.2.2.1; omega
 obtain ⟨n, hn⟩ : ∃ n, n = a.length := ⟨_, rfl⟩
 obtain ⟨n', hn'⟩ : ∃ n, n = b.length := ⟨_, rfl⟩
 rw [← hn] at ha63 ⊢
 rw [← hn']
 by_cases hl : n = n'
 ·subst hl
  replace hn := Lib.hid hn
  replace hn' := Lib.hid hn'
  obtain ⟨R, hR⟩ : ∃ R, R = sameI a b := ⟨_, rfl⟩
  rw [← hR]
  replace hR := Lib.hid hR
  go_enter Tryz.func95, Tryz.ntmps95
  go_wp2
  go_loopw [17] (fun i wr => ∃ k : Nat, i = .int .i64 k ∧ k ≤ n ∧ Below w.heap.size w wr ∧ ∀ (i : Nat) x y, i < k → a[i]? = some x → b[i]? = some y → x.same y = true) (fun i _ => n - (intOf i).toNat)
  case atStart => exact ⟨0, rfl, Nat.zero_le _, Below.refl _ _, fun i x y h => absurd h (by omega)⟩
  case round =>
   obtain ⟨k, rfl, hk, hB, hsm⟩ := hrel
   have k0 : 0 ≤ (k : Int) := by omega
   by_cases hlt : k < n
   ·have hx : a[k]? = some (a[k]'(by have := hn.out; omega)) := List.getElem?_eq_getElem (by have := hn.out; omega)
    generalize a[k]'(by have := hn.out; omega) = x at hx
    have hy : b[k]? = some (b[k]'(by have := hn'.out; omega)) := List.getElem?_eq_getElem (by have := hn'.out; omega)
    generalize b[k]'(by have := hn'.out; omega) = y at hy
    obtain ⟨ad, hA, _, hxok, hcx⟩ := Lin.ok.at (Lin.ok.keep (keeps_below hB) ha (fun _ _ => trivial)) hx
    obtain ⟨bd, hA', _, hyok, hcy⟩ := Lin.ok.at (Lin.ok.keep (keeps_below hB) hb (fun _ _ => trivial)) hy
    have hcall := fun w2 (hB2 : Below wr.heap.size wr w2) => sameI_ok x y w2 (hxok.below hB2) (hyok.below hB2)
    have hres := sameI_false hx hy
    obtain ⟨r, hr⟩ : ∃ r, r = x.same y := ⟨_, rfl⟩
    rw [← hr] at hcall hres
    replace hr := Lib.hid hr
    replace hx := Lib.hid hx
    replace hy := Lib.hid hy
    replace hsm := Lib.hid hsm
    replace hres := Lib.hid hres
    obtain ⟨xb, ⟨⟨xk, xo, xv, xw, xn⟩, ⟨xA, xc⟩, xs⟩⟩ := x
    obtain ⟨yb, ⟨⟨yk, yo, yv, yw, yn⟩, ⟨yA, yc⟩, ys⟩⟩ := y
    obtain ⟨c0, c1, c2, c3, c4, c5, c6⟩ := CellsAt.c7 hcx
    obtain ⟨d0, d1, d2, d3, d4, d5, d6⟩ := CellsAt.c7 hcy
    simp only [aggI, In.cells, Pr.cells, Ex.cells, eT] at c0 c1 c2 c3 c4 c5 c6 d0 d1 d2 d3 d4 d5 d6 hcall
    obtain ⟨lA, lc⟩ := la
    obtain ⟨lB, lc'⟩ := lb
    dsimp only at hA hA'
    subst hA
    subst hA'
    have k1 : (k : Int) < (n : Int) := by omega
    have hab := cell_lt c0
    have hbb := cell_lt d0
    have hB4 : Below wr.heap.size wr ((wr.alloc (.cells #[.int .i64 xb, .int .u8 xk, .int .u8 xo, .int .u32 xv, .int .i64 xw, .string xn, .slice xA xs.length xc] 62)).alloc (.cells #[.int .i64 yb, .int .u8 yk, .int .u8 yo, .int .u32 yv, .int .i64 yw, .string yn, .slice yA ys.length yc] 62)) := ((Below.refl _ _).alloc (Nat.le_refl _) _).alloc (by simp) _
    have hcall := Lib.hid (hcall _ hB4)
    go_wp2_with (go_at_call 93; with_reducible refine hcall.out.mono ?_; rintro e w5 ⟨rfl, hB5⟩; cases r)
    ·go_ret
     refine ⟨ret_b ((hR.out.trans (hres.out (by simp))).symm), hB.trans ((hB4.trans (hB5.mono hB4.size)).mono hB.size)⟩
    ·go_roundw
     case rel =>
      refine ⟨k + 1, by go_num, by omega, hB.trans ((hB4.trans (hB5.mono hB4.size)).mono hB.size), fun i x y hi hx' hy' => ?_⟩
      by_cases hik : i = k
      ·subst hik
       rw [hx.out] at hx'
       rw [hy.out] at hy'
       cases hx'
       cases hy'
       exact hr.out.symm
      ·exact hsm.out i x y (by omega) hx' hy'
     case measure => simp [intOf]; omega
   ·obtain rfl : k = n := by omega
    have hRt : R = true := by
     rw [hR.out]
     refine (sameI_at a b (by rw [← hn.out, ← hn'.out])).2 fun i x y hx hy => hsm i x y ?_ hx hy
     have := (List.getElem?_eq_some_iff.1 hx).1
     have := hn.out
     omega
    replace hRt := Lib.hid hRt
    replace hsm := Lib.hid hsm
    go_wp2
    go_ret
    exact ⟨ret_b hRt.out.symm, hB⟩
 ·have hRf : sameI a b = false := by
   cases hs : sameI a b with
   | false => rfl
   | true => exact absurd (by rw [hn, hn']; exact sameI_len hs) hl
  rw [hRf]
  have h1 : ((n : Int) == (n' : Int)) = false := by simp; omega
  have h2 : ((n : Int) != (n' : Int)) = true := by simp; omega
  have hl' := Lib.hid hl
  clear hl
  replace hn := Lib.hid hn
  replace hn' := Lib.hid hn'
  replace hRf := Lib.hid hRf
  go_enter Tryz.func95, Tryz.ntmps95
  go_wp2
  go_ret
  exact ⟨rfl, Below.refl _ _⟩
theorem samePr_false {α β : Type} {a : List (Pr α)} {b : List (Pr β)} {k : Nat} {x : Pr α} {y : Pr β} (hx : a[k]? = some x) (hy : b[k]? = some y) (h : x.same y = false) : samePr a b = false := by
 cases hs : samePr a b with
 | false => rfl
 | true => rw [(samePr_at a b (samePr_len hs)).1 hs k x y hx hy] at h; cases h
set_option maxRecDepth 100000 in
theorem equalPr (la lb : Loc) (a b : List (Pr Loc)) (w : World) (ha : Lpr.ok eT w la a) (hb : Lpr.ok eT w lb b) :
  Calls Tryz.prog 96 #[.slice la.A a.length la.c, .slice lb.A b.length lb.c, .func (.func 94) #[] #[]] w fun e w' => e = .returned (.bool (samePr a b)) ∧ Below w.heap.size w w' := by
 have ha63 : (a.length : Int) ≤ 9223372036854775807 := by have h1 := ha.1.2.1; have h2 := ha.1.2.2.1; omega
 obtain ⟨n, hn⟩ : ∃ n, n = a.length := ⟨_, rfl⟩
 obtain ⟨n', hn'⟩ : ∃ n, n = b.length := ⟨_, rfl⟩
 rw [← hn] at ha63 ⊢
 rw [← hn']
 by_cases hl : n = n'
 ·subst hl
  replace hn := Lib.hid hn
  replace hn' := Lib.hid hn'
  obtain ⟨R, hR⟩ : ∃ R, R = samePr a b := ⟨_, rfl⟩
  rw [← hR]
  replace hR := Lib.hid hR
  go_enter Tryz.func96, Tryz.ntmps96
  go_wp2
  go_loopw [17] (fun i wr => ∃ k : Nat, i = .int .i64 k ∧ k ≤ n ∧ Below w.heap.size w wr ∧ ∀ (i : Nat) x y, i < k → a[i]? = some x → b[i]? = some y → x.same y = true) (fun i _ => n - (intOf i).toNat)
  case atStart => exact ⟨0, rfl, Nat.zero_le _, Below.refl _ _, fun i x y h => absurd h (by omega)⟩
  case round =>
   obtain ⟨k, rfl, hk, hB, hsm⟩ := hrel
   have k0 : 0 ≤ (k : Int) := by omega
   by_cases hlt : k < n
   ·have hx : a[k]? = some (a[k]'(by have := hn.out; omega)) := List.getElem?_eq_getElem (by have := hn.out; omega)
    generalize a[k]'(by have := hn.out; omega) = x at hx
    have hy : b[k]? = some (b[k]'(by have := hn'.out; omega)) := List.getElem?_eq_getElem (by have := hn'.out; omega)
    generalize b[k]'(by have := hn'.out; omega) = y at hy
    obtain ⟨ad, hA, _, hxok, hcx⟩ := Lpr.ok.at (Lpr.ok.keep (keeps_below hB) ha (fun _ _ => trivial)) hx
    obtain ⟨bd, hA', _, hyok, hcy⟩ := Lpr.ok.at (Lpr.ok.keep (keeps_below hB) hb (fun _ _ => trivial)) hy
    have hcall := fun w2 (hB2 : Below wr.heap.size wr w2) => samePr_ok x y w2 (Pr.ok.keep (keeps_below hB2) hxok (fun _ _ => trivial)) (Pr.ok.keep (keeps_below hB2) hyok (fun _ _ => trivial))
    have hres := samePr_false hx hy
    obtain ⟨r, hr⟩ : ∃ r, r = x.same y := ⟨_, rfl⟩
    rw [← hr] at hcall hres
    replace hr := Lib.hid hr
    replace hx := Lib.hid hx
    replace hy := Lib.hid hy
    replace hsm := Lib.hid hsm
    replace hres := Lib.hid hres
    obtain ⟨xn, ⟨xA, xc⟩, xp, ⟨xB, xd⟩, xs⟩ := x
    obtain ⟨yn, ⟨yA, yc⟩, yp, ⟨yB, yd⟩, ys⟩ := y
    obtain ⟨c0, c1, c2⟩ := CellsAt.c3 hcx
    obtain ⟨d0, d1, d2⟩ := CellsAt.c3 hcy
    simp only [aggR, In.cells, Pr.cells, Ex.cells, eT] at c0 c1 c2 d0 d1 d2 hcall
    obtain ⟨lA, lc⟩ := la
    obtain ⟨lB, lc'⟩ := lb
    dsimp only at hA hA'
    subst hA
    subst hA'
    have k1 : (k : Int) < (n : Int) := by omega
    have hab := cell_lt c0
    have hbb := cell_lt d0
    have hB4 : Below wr.heap.size wr ((wr.alloc (.cells #[.string xn, .slice xA xp.length xc, .slice xB xs.length xd] 64)).alloc (.cells #[.string yn, .slice yA yp.length yc, .slice yB ys.length yd] 64)) := ((Below.refl _ _).alloc (Nat.le_refl _) _).alloc (by simp) _
    have hcall := Lib.hid (hcall _ hB4)
    go_wp2_with (go_at_call 94; with_reducible refine hcall.out.mono ?_; rintro e w5 ⟨rfl, hB5⟩; cases r)
    ·go_ret
     refine ⟨ret_b ((hR.out.trans (hres.out (by simp))).symm), hB.trans ((hB4.trans (hB5.mono hB4.size)).mono hB.size)⟩
    ·go_roundw
     case rel =>
      refine ⟨k + 1, by go_num, by omega, hB.trans ((hB4.trans (hB5.mono hB4.size)).mono hB.size), fun i x y hi hx' hy' => ?_⟩
      by_cases hik : i = k
      ·subst hik
       rw [hx.out] at hx'
       rw [hy.out] at hy'
       cases hx'
       cases hy'
       exact hr.out.symm
      ·exact hsm.out i x y (by omega) hx' hy'
     case measure => simp [intOf]; omega
   ·obtain rfl : k = n := by omega
    have hRt : R = true := by
     rw [hR.out]
     refine (samePr_at a b (by rw [← hn.out, ← hn'.out])).2 fun i x y hx hy => hsm i x y ?_ hx hy
     have := (List.getElem?_eq_some_iff.1 hx).1
     have := hn.out
     omega
    replace hRt := Lib.hid hRt
    replace hsm := Lib.hid hsm
    go_wp2
    go_ret
    exact ⟨ret_b hRt.out.symm, hB⟩
 ·have hRf : samePr a b = false := by
   cases hs : samePr a b with
   | false => rfl
   | true => exact absurd (by rw [hn, hn']; exact samePr_len hs) hl
  rw [hRf]
  have h1 : ((n : Int) == (n' : Int)) = false := by simp; omega
  have h2 : ((n : Int) != (n' : Int)) = true := by simp; omega
  have hl' := Lib.hid hl
  clear hl
  replace hn := Lib.hid hn
  replace hn' := Lib.hid hn'
  replace hRf := Lib.hid hRf
  go_enter Tryz.func96, Tryz.ntmps96
  go_wp2
  go_ret
  exact ⟨rfl, Below.refl _ _⟩
end Go.Proofs.YtnldbplphgfpeaaGreat
namespace Go.Proofs.YtnldbplphgfpeaaGreat
open Go Go.RowKit Go.Shelf
set_option linter.unusedVariables false
set_option linter.unusedSimpArgs false
set_option maxHeartbeats 4000000
theorem wpList_load_rowW {P : Program} {ops : Array Oper} {rest : List Oper} {o : Oper} {a : Act} {w : World} {Q : Exit → Act → World → Prop} (ty : TypeId) (x : Operand) (ho : o.op = .load ty x) (hw : Region.wanted o (yielded ops a.tmps) = true)
  (g : Nat) (hx : a.eval x = .pointer (some ⟨g, 0, none⟩)) (t : TypeId) (cs : Array Value) (fr : Nat × Nat) (d : TypeDesc) (hg : w.heap[g]? = some (.cells cs t fr))
  (hu : P.underlying ty = some d) (hd : (match d with | .struct _ | .array _ _ => true | _ => false) = true) (hi : (P.info? ty).map (·.size) = some cs.size)
  (h : wpList P ops Q rest (a.put o.dst (.agg cs)) w) : wpList P ops Q (o :: rest) a w := by
 unfold wpList
 rw [if_pos hw]
 exact .inl (wp_load_row ty x ho g hx t cs fr d hg hu hd hi h)
theorem list_toArray_get {α : Type} {l : List α} {cs : Array α} (h : cs = l.toArray) (i : Nat) : cs[i]? = l[i]? := by rw [h]; simp
set_option maxRecDepth 100000 in
theorem sameP_yes (a b : Pg Loc) (w : World) (ha : a.ok eT w) (hb : b.ok eT w) (la : a.sz ≤ 20000) (lb : b.sz ≤ 20000) : Calls Tryz.prog 22 #[aggP a, aggP b] w fun e w' => e = .returned (.bool (a.same b)) ∧ Below w.heap.size w w' := by
 have hl1 := fun w2 (h2 : Below w.heap.size w w2) => lightP_ok a w2 (ha.below h2) (slim_of la)
 have hl2 := fun w2 (h2 : Below w.heap.size w w2) => lightP_ok b w2 (hb.below h2) (slim_of lb)
 rw [decide_eq_true la] at hl1
 rw [decide_eq_true lb] at hl2
 have hD1 := fun w2 (h2 : Below w.heap.size w w2) => equalD a.li b.li a.ins b.ins w2 (ha.ins.all (keeps_below h2)) (hb.ins.all (keeps_below h2))
 have hD2 := fun w2 (h2 : Below w.heap.size w w2) => equalD a.lg b.lg a.gh b.gh w2 (ha.gh.all (keeps_below h2)) (hb.gh.all (keeps_below h2))
 have hD3 := fun w2 (h2 : Below w.heap.size w w2) => equalD a.lv b.lv a.va b.va w2 (ha.va.all (keeps_below h2)) (hb.va.all (keeps_below h2))
 have hD4 := fun w2 (h2 : Below w.heap.size w w2) => equalD a.la b.la a.ar b.ar w2 (ha.ar.all (keeps_below h2)) (hb.ar.all (keeps_below h2))
 have hE1 := fun w2 (h2 : Below w.heap.size w w2) => sameE a.req b.req w2 (ha.req.below h2) (hb.req.below h2)
 have hI1 := fun w2 (h2 : Below w.heap.size w w2) => equalI a.ln b.ln a.inits b.inits w2 (Lin.ok.keep (keeps_below h2) ha.inits (fun _ _ => trivial)) (Lin.ok.keep (keeps_below h2) hb.inits (fun _ _ => trivial))
 have hP1 := fun w2 (h2 : Below w.heap.size w w2) => equalPr a.lpr b.lpr a.procs b.procs w2 (Lpr.ok.keep (keeps_below h2) ha.procs (fun _ _ => trivial)) (Lpr.ok.keep (keeps_below h2) hb.procs (fun _ _ => trivial))
 have hS1 := fun w2 (h2 : Below w.heap.size w w2) => equalS a.lw b.lw a.work b.work (fun x _ => sameS_ok x) w2 (ha.work.all (keeps_below h2)) (hb.work.all (keeps_below h2))
 have hS2 := fun w2 (h2 : Below w.heap.size w w2) => equalS a.lr b.lr a.recov b.recov (fun x _ => sameS_ok x) w2 (ha.recov.all (keeps_below h2)) (hb.recov.all (keeps_below h2))
 have hE2 := fun w2 (h2 : Below w.heap.size w w2) => sameE a.inv b.inv w2 (ha.inv.below h2) (hb.inv.below h2)
 have hsame : a.same b = ((a.bl == b.bl && a.wd == b.wd) && ((sameD a.ins b.ins && (sameD a.gh b.gh && (sameD a.va b.va && sameD a.ar b.ar))) && (a.req.same b.req && (sameI a.inits b.inits && (samePr a.procs b.procs && (sameS a.work b.work && (sameS a.recov b.recov && a.inv.same b.inv))))))) := rfl
 rw [hsame]
 clear ha hb la lb hsame
 obtain ⟨R1, hR⟩ : ∃ R, R = sameD a.ins b.ins := ⟨_, rfl⟩
 rw [← hR] at hD1 ⊢
 clear hR
 obtain ⟨R2, hR⟩ : ∃ R, R = sameD a.gh b.gh := ⟨_, rfl⟩
 rw [← hR] at hD2 ⊢
 clear hR
 obtain ⟨R3, hR⟩ : ∃ R, R = sameD a.va b.va := ⟨_, rfl⟩
 rw [← hR] at hD3 ⊢
 clear hR
 obtain ⟨R4, hR⟩ : ∃ R, R = sameD a.ar b.ar := ⟨_, rfl⟩
 rw [← hR] at hD4 ⊢
 clear hR
 obtain ⟨R5, hR⟩ : ∃ R, R = a.req.same b.req := ⟨_, rfl⟩
 rw [← hR] at hE1 ⊢
 clear hR
 obtain ⟨R6, hR⟩ : ∃ R, R = sameI a.inits b.inits := ⟨_, rfl⟩
 rw [← hR] at hI1 ⊢
 clear hR
 obtain ⟨R7, hR⟩ : ∃ R, R = samePr a.procs b.procs := ⟨_, rfl⟩
 rw [← hR] at hP1 ⊢
 clear hR
 obtain ⟨R8, hR⟩ : ∃ R, R = sameS a.work b.work := ⟨_, rfl⟩
 rw [← hR] at hS1 ⊢
 clear hR
 obtain ⟨R9, hR⟩ : ∃ R, R = sameS a.recov b.recov := ⟨_, rfl⟩
 rw [← hR] at hS2 ⊢
 clear hR
 obtain ⟨R10, hR⟩ : ∃ R, R = a.inv.same b.inv := ⟨_, rfl⟩
 rw [← hR] at hE2 ⊢
 clear hR
 obtain ⟨csa, ha⟩ : ∃ cs, cs = (a.cells eT).toArray := ⟨_, rfl⟩
 obtain ⟨csb, hb⟩ : ∃ cs, cs = (b.cells eT).toArray := ⟨_, rfl⟩
 have hsa : csa.size = 22 := by rw [ha]; exact Pg.cells_len eT a
 have hsb : csb.size = 22 := by rw [hb]; exact Pg.cells_len eT b
 unfold aggP at hl1 hl2 ⊢
 rw [← ha] at hl1 ⊢
 rw [← hb] at hl2 ⊢
 replace ha := list_toArray_get ha
 replace hb := list_toArray_get hb
 obtain ⟨bl, wd, ⟨A2, c2⟩, ins, ⟨A3, c3⟩, gh, ⟨A4, c4⟩, va, ⟨A5, c5⟩, ar, ⟨⟨rk, ro, rv, rwd, rn⟩, ⟨rA, rc⟩, rs⟩, ⟨A7, c7⟩, inits, ⟨A8, c8⟩, procs, ⟨A9, c9⟩, work, ⟨A10, c10⟩, recov, ⟨⟨ik, io, iv, iwd, inn⟩, ⟨iA, ic⟩, is⟩⟩ := a
 obtain ⟨bly, wdy, ⟨A2y, c2y⟩, insy, ⟨A3y, c3y⟩, ghy, ⟨A4y, c4y⟩, vay, ⟨A5y, c5y⟩, ary, ⟨⟨rky, roy, rvy, rwdy, rny⟩, ⟨rAy, rcy⟩, rsy⟩, ⟨A7y, c7y⟩, initsy, ⟨A8y, c8y⟩, procsy, ⟨A9y, c9y⟩, worky, ⟨A10y, c10y⟩, recovy, ⟨⟨iky, ioy, ivy, iwdy, inny⟩, ⟨iAy, icy⟩, isy⟩⟩ := b
 simp only [aggX, Ex.cells, eT] at hD1 hD2 hD3 hD4 hE1 hI1 hP1 hS1 hS2 hE2
 have ca0 : csa[0]? = some (.int .i64 bl) := (ha 0).trans rfl
 have ca1 : csa[1]? = some (.int .i64 wd) := (ha 1).trans rfl
 have ca2 : csa[2]? = some (.slice A2 ins.length c2) := (ha 2).trans rfl
 have ca3 : csa[3]? = some (.slice A3 gh.length c3) := (ha 3).trans rfl
 have ca4 : csa[4]? = some (.slice A4 va.length c4) := (ha 4).trans rfl
 have ca5 : csa[5]? = some (.slice A5 ar.length c5) := (ha 5).trans rfl
 have ca6 : csa[6]? = some (.int .u8 rk) := (ha 6).trans rfl
 have ca7 : csa[7]? = some (.int .u8 ro) := (ha 7).trans rfl
 have ca8 : csa[8]? = some (.int .u32 rv) := (ha 8).trans rfl
 have ca9 : csa[9]? = some (.int .i64 rwd) := (ha 9).trans rfl
 have ca10 : csa[10]? = some (.string rn) := (ha 10).trans rfl
 have ca11 : csa[11]? = some (.slice rA rs.length rc) := (ha 11).trans rfl
 have ca12 : csa[12]? = some (.slice A7 inits.length c7) := (ha 12).trans rfl
 have ca13 : csa[13]? = some (.slice A8 procs.length c8) := (ha 13).trans rfl
 have ca14 : csa[14]? = some (.slice A9 work.length c9) := (ha 14).trans rfl
 have ca15 : csa[15]? = some (.slice A10 recov.length c10) := (ha 15).trans rfl
 have ca16 : csa[16]? = some (.int .u8 ik) := (ha 16).trans rfl
 have ca17 : csa[17]? = some (.int .u8 io) := (ha 17).trans rfl
 have ca18 : csa[18]? = some (.int .u32 iv) := (ha 18).trans rfl
 have ca19 : csa[19]? = some (.int .i64 iwd) := (ha 19).trans rfl
 have ca20 : csa[20]? = some (.string inn) := (ha 20).trans rfl
 have ca21 : csa[21]? = some (.slice iA is.length ic) := (ha 21).trans rfl
 have cb0 : csb[0]? = some (.int .i64 bly) := (hb 0).trans rfl
 have cb1 : csb[1]? = some (.int .i64 wdy) := (hb 1).trans rfl
 have cb2 : csb[2]? = some (.slice A2y insy.length c2y) := (hb 2).trans rfl
 have cb3 : csb[3]? = some (.slice A3y ghy.length c3y) := (hb 3).trans rfl
 have cb4 : csb[4]? = some (.slice A4y vay.length c4y) := (hb 4).trans rfl
 have cb5 : csb[5]? = some (.slice A5y ary.length c5y) := (hb 5).trans rfl
 have cb6 : csb[6]? = some (.int .u8 rky) := (hb 6).trans rfl
 have cb7 : csb[7]? = some (.int .u8 roy) := (hb 7).trans rfl
 have cb8 : csb[8]? = some (.int .u32 rvy) := (hb 8).trans rfl
 have cb9 : csb[9]? = some (.int .i64 rwdy) := (hb 9).trans rfl
 have cb10 : csb[10]? = some (.string rny) := (hb 10).trans rfl
 have cb11 : csb[11]? = some (.slice rAy rsy.length rcy) := (hb 11).trans rfl
 have cb12 : csb[12]? = some (.slice A7y initsy.length c7y) := (hb 12).trans rfl
 have cb13 : csb[13]? = some (.slice A8y procsy.length c8y) := (hb 13).trans rfl
 have cb14 : csb[14]? = some (.slice A9y worky.length c9y) := (hb 14).trans rfl
 have cb15 : csb[15]? = some (.slice A10y recovy.length c10y) := (hb 15).trans rfl
 have cb16 : csb[16]? = some (.int .u8 iky) := (hb 16).trans rfl
 have cb17 : csb[17]? = some (.int .u8 ioy) := (hb 17).trans rfl
 have cb18 : csb[18]? = some (.int .u32 ivy) := (hb 18).trans rfl
 have cb19 : csb[19]? = some (.int .i64 iwdy) := (hb 19).trans rfl
 have cb20 : csb[20]? = some (.string inny) := (hb 20).trans rfl
 have cb21 : csb[21]? = some (.slice iAy isy.length icy) := (hb 21).trans rfl
 clear ha hb
 replace hl1 := Lib.hid hl1
 replace hl2 := Lib.hid hl2
 replace hD1 := Lib.hid hD1
 replace hD2 := Lib.hid hD2
 replace hD3 := Lib.hid hD3
 replace hD4 := Lib.hid hD4
 replace hE1 := Lib.hid hE1
 replace hI1 := Lib.hid hI1
 replace hP1 := Lib.hid hP1
 replace hS1 := Lib.hid hS1
 replace hS2 := Lib.hid hS2
 replace hE2 := Lib.hid hE2
 replace ca0 := Lib.hid ca0
 replace ca1 := Lib.hid ca1
 replace ca2 := Lib.hid ca2
 replace ca3 := Lib.hid ca3
 replace ca4 := Lib.hid ca4
 replace ca5 := Lib.hid ca5
 replace ca6 := Lib.hid ca6
 replace ca7 := Lib.hid ca7
 replace ca8 := Lib.hid ca8
 replace ca9 := Lib.hid ca9
 replace ca10 := Lib.hid ca10
 replace ca11 := Lib.hid ca11
 replace ca12 := Lib.hid ca12
 replace ca13 := Lib.hid ca13
 replace ca14 := Lib.hid ca14
 replace ca15 := Lib.hid ca15
 replace ca16 := Lib.hid ca16
 replace ca17 := Lib.hid ca17
 replace ca18 := Lib.hid ca18
 replace ca19 := Lib.hid ca19
 replace ca20 := Lib.hid ca20
 replace ca21 := Lib.hid ca21
 replace cb0 := Lib.hid cb0
 replace cb1 := Lib.hid cb1
 replace cb2 := Lib.hid cb2
 replace cb3 := Lib.hid cb3
 replace cb4 := Lib.hid cb4
 replace cb5 := Lib.hid cb5
 replace cb6 := Lib.hid cb6
 replace cb7 := Lib.hid cb7
 replace cb8 := Lib.hid cb8
 replace cb9 := Lib.hid cb9
 replace cb10 := Lib.hid cb10
 replace cb11 := Lib.hid cb11
 replace cb12 := Lib.hid cb12
 replace cb13 := Lib.hid cb13
 replace cb14 := Lib.hid cb14
 replace cb15 := Lib.hid cb15
 replace cb16 := Lib.hid cb16
 replace cb17 := Lib.hid cb17
 replace cb18 := Lib.hid cb18
 replace cb19 := Lib.hid cb19
 replace cb20 := Lib.hid cb20
 replace cb21 := Lib.hid cb21
 dsimp only
 obtain ⟨q1, e1⟩ : ∃ q, (bl == bly) = q := ⟨_, rfl⟩
 obtain ⟨q2, e2⟩ : ∃ q, (wd == wdy) = q := ⟨_, rfl⟩
 rw [e1, e2]
 have e1' : (bl != bly) = !q1 := by rw [← e1]; rfl
 have e2' : (wd != wdy) = !q2 := by rw [← e2]; rfl
 have hB0 : Below w.heap.size w ((w.alloc (.cells csa 35)).alloc (.cells csb 35)) := ((Below.refl _ _).alloc (Nat.le_refl _) _).alloc (by simp) _
 have hs0 := (Blk.new w 35 csa).alloc (.cells csb 35)
 have hs1 := Blk.new (w.alloc (.cells csa 35)) 35 csb
 rw [World.size_alloc] at hs1
 go_enter Tryz.func22, Tryz.ntmps22
 go_upto_region 1 with (fail)
 generalize (w.alloc (.cells csa 35)).alloc (.cells csb 35) = W0 at *
 refine wp_region_lit ?_
 refine wpList_load_rowW 35 (.tmp 2) rfl (by rfl) w.heap.size rfl 35 csa (0, 0) _ hs0 Tryz.underlying35 rfl (by rw [hsa]; kernel_rfl) ?_
 go_wp2_with fail
 refine (hl1.out _ hB0).mono ?_
 rintro e W1 ⟨rfl, hB1⟩
 have hB01 := below_and hB0 hB1
 replace hs0 := hs0.below hB1 hs0.lt
 replace hs1 := hs1.below hB1 hs1.lt
 go_wp2_with (refine wpList_load_rowW 35 (.tmp 3) rfl (by rfl) (w.heap.size + 1) rfl 35 csb (0, 0) _ hs1 Tryz.underlying35 rfl (by rw [hsb]; kernel_rfl) ?_)
 refine (hl2.out _ hB01).mono ?_
 rintro e W2 ⟨rfl, hB2⟩
 have hB02 := below_and hB01 hB2
 have hl0_2 := hs0.lt
 have hl1_2 := hs1.lt
 replace hs0 := hs0.below hB2 hl0_2
 replace hs1 := hs1.below hB2 hl1_2
 have hg0_2 := hs0.lt
 have hg1_2 := hs1.lt
 have x0_2 := (hs0.cell 0).trans ca0.out
 have y0_2 := (hs1.cell 0).trans cb0.out
 have x1_2 := (hs0.cell 1).trans ca1.out
 have y1_2 := (hs1.cell 1).trans cb1.out
 have x2_2 := (hs0.cell 2).trans ca2.out
 have y2_2 := (hs1.cell 2).trans cb2.out
 cases q1
 ·replace e1' : (bl != bly) = true := e1'
  simp only [Bool.false_and, Bool.and_false]
  go_wp2
  go_ret
  exact ⟨rfl, hB02⟩
 replace e1' : (bl != bly) = false := e1'
 cases q2
 ·replace e2' : (wd != wdy) = true := e2'
  simp only [Bool.false_and, Bool.and_false]
  go_wp2
  go_ret
  exact ⟨rfl, hB02⟩
 replace e2' : (wd != wdy) = false := e2'
 go_wp2_with fail
 refine (hD1.out _ hB02).mono ?_
 clear x0_2 y0_2 x1_2 y1_2 x2_2 y2_2 hg0_2 hg1_2 hl0_2 hl1_2
 rintro e W3 ⟨rfl, hB3⟩
 have hB03 := below_and hB02 hB3
 have hl0_3 := hs0.lt
 have hl1_3 := hs1.lt
 replace hs0 := hs0.below hB3 hl0_3
 replace hs1 := hs1.below hB3 hl1_3
 have hg0_3 := hs0.lt
 have hg1_3 := hs1.lt
 have x3_3 := (hs0.cell 3).trans ca3.out
 have y3_3 := (hs1.cell 3).trans cb3.out
 cases R1
 ·simp only [Bool.false_and, Bool.and_false]
  go_wp2
  go_ret
  exact ⟨rfl, hB03⟩
 go_wp2_with fail
 refine (hD2.out _ hB03).mono ?_
 clear x3_3 y3_3 hg0_3 hg1_3 hl0_3 hl1_3
 rintro e W4 ⟨rfl, hB4⟩
 have hB04 := below_and hB03 hB4
 have hl0_4 := hs0.lt
 have hl1_4 := hs1.lt
 replace hs0 := hs0.below hB4 hl0_4
 replace hs1 := hs1.below hB4 hl1_4
 have hg0_4 := hs0.lt
 have hg1_4 := hs1.lt
 have x4_4 := (hs0.cell 4).trans ca4.out
 have y4_4 := (hs1.cell 4).trans cb4.out
 cases R2
 ·simp only [Bool.false_and, Bool.and_false]
  go_wp2
  go_ret
  exact ⟨rfl, hB04⟩
 go_wp2_with fail
 refine (hD3.out _ hB04).mono ?_
 clear x4_4 y4_4 hg0_4 hg1_4 hl0_4 hl1_4
 rintro e W5 ⟨rfl, hB5⟩
 have hB05 := below_and hB04 hB5
 have hl0_5 := hs0.lt
 have hl1_5 := hs1.lt
 replace hs0 := hs0.below hB5 hl0_5
 replace hs1 := hs1.below hB5 hl1_5
 have hg0_5 := hs0.lt
 have hg1_5 := hs1.lt
 have x5_5 := (hs0.cell 5).trans ca5.out
 have y5_5 := (hs1.cell 5).trans cb5.out
 cases R3
 ·simp only [Bool.false_and, Bool.and_false]
  go_wp2
  go_ret
  exact ⟨rfl, hB05⟩
 go_wp2_with fail
 refine (hD4.out _ hB05).mono ?_
 clear x5_5 y5_5 hg0_5 hg1_5 hl0_5 hl1_5
 rintro e W6 ⟨rfl, hB6⟩
 have hB06 := below_and hB05 hB6
 have hl0_6 := hs0.lt
 have hl1_6 := hs1.lt
 replace hs0 := hs0.below hB6 hl0_6
 replace hs1 := hs1.below hB6 hl1_6
 have hg0_6 := hs0.lt
 have hg1_6 := hs1.lt
 have x6_6 := (hs0.cell 6).trans ca6.out
 have y6_6 := (hs1.cell 6).trans cb6.out
 have x7_6 := (hs0.cell 7).trans ca7.out
 have y7_6 := (hs1.cell 7).trans cb7.out
 have x8_6 := (hs0.cell 8).trans ca8.out
 have y8_6 := (hs1.cell 8).trans cb8.out
 have x9_6 := (hs0.cell 9).trans ca9.out
 have y9_6 := (hs1.cell 9).trans cb9.out
 have x10_6 := (hs0.cell 10).trans ca10.out
 have y10_6 := (hs1.cell 10).trans cb10.out
 have x11_6 := (hs0.cell 11).trans ca11.out
 have y11_6 := (hs1.cell 11).trans cb11.out
 cases R4
 ·simp only [Bool.false_and, Bool.and_false]
  go_wp2
  go_ret
  exact ⟨rfl, hB06⟩
 go_wp2_with fail
 refine (hE1.out _ hB06).mono ?_
 clear x6_6 y6_6 x7_6 y7_6 x8_6 y8_6 x9_6 y9_6 x10_6 y10_6 x11_6 y11_6 hg0_6 hg1_6 hl0_6 hl1_6
 rintro e W7 ⟨rfl, hB7⟩
 have hB07 := below_and hB06 hB7
 have hl0_7 := hs0.lt
 have hl1_7 := hs1.lt
 replace hs0 := hs0.below hB7 hl0_7
 replace hs1 := hs1.below hB7 hl1_7
 have hg0_7 := hs0.lt
 have hg1_7 := hs1.lt
 have x12_7 := (hs0.cell 12).trans ca12.out
 have y12_7 := (hs1.cell 12).trans cb12.out
 cases R5
 ·simp only [Bool.false_and, Bool.and_false]
  go_wp2
  go_ret
  exact ⟨rfl, hB07⟩
 go_wp2_with fail
 refine (hI1.out _ hB07).mono ?_
 clear x12_7 y12_7 hg0_7 hg1_7 hl0_7 hl1_7
 rintro e W8 ⟨rfl, hB8⟩
 have hB08 := below_and hB07 hB8
 have hl0_8 := hs0.lt
 have hl1_8 := hs1.lt
 replace hs0 := hs0.below hB8 hl0_8
 replace hs1 := hs1.below hB8 hl1_8
 have hg0_8 := hs0.lt
 have hg1_8 := hs1.lt
 have x13_8 := (hs0.cell 13).trans ca13.out
 have y13_8 := (hs1.cell 13).trans cb13.out
 cases R6
 ·simp only [Bool.false_and, Bool.and_false]
  go_wp2
  go_ret
  exact ⟨rfl, hB08⟩
 go_wp2_with fail
 refine (hP1.out _ hB08).mono ?_
 clear x13_8 y13_8 hg0_8 hg1_8 hl0_8 hl1_8
 rintro e W9 ⟨rfl, hB9⟩
 have hB09 := below_and hB08 hB9
 have hl0_9 := hs0.lt
 have hl1_9 := hs1.lt
 replace hs0 := hs0.below hB9 hl0_9
 replace hs1 := hs1.below hB9 hl1_9
 have hg0_9 := hs0.lt
 have hg1_9 := hs1.lt
 have x14_9 := (hs0.cell 14).trans ca14.out
 have y14_9 := (hs1.cell 14).trans cb14.out
 cases R7
 ·simp only [Bool.false_and, Bool.and_false]
  go_wp2
  go_ret
  exact ⟨rfl, hB09⟩
 go_wp2_with fail
 refine (hS1.out _ hB09).mono ?_
 clear x14_9 y14_9 hg0_9 hg1_9 hl0_9 hl1_9
 rintro e W10 ⟨rfl, hB10⟩
 have hB010 := below_and hB09 hB10
 have hl0_10 := hs0.lt
 have hl1_10 := hs1.lt
 replace hs0 := hs0.below hB10 hl0_10
 replace hs1 := hs1.below hB10 hl1_10
 have hg0_10 := hs0.lt
 have hg1_10 := hs1.lt
 have x15_10 := (hs0.cell 15).trans ca15.out
 have y15_10 := (hs1.cell 15).trans cb15.out
 cases R8
 ·simp only [Bool.false_and, Bool.and_false]
  go_wp2
  go_ret
  exact ⟨rfl, hB010⟩
 go_wp2_with fail
 refine (hS2.out _ hB010).mono ?_
 clear x15_10 y15_10 hg0_10 hg1_10 hl0_10 hl1_10
 rintro e W11 ⟨rfl, hB11⟩
 have hB011 := below_and hB010 hB11
 have hl0_11 := hs0.lt
 have hl1_11 := hs1.lt
 replace hs0 := hs0.below hB11 hl0_11
 replace hs1 := hs1.below hB11 hl1_11
 have hg0_11 := hs0.lt
 have hg1_11 := hs1.lt
 have x16_11 := (hs0.cell 16).trans ca16.out
 have y16_11 := (hs1.cell 16).trans cb16.out
 have x17_11 := (hs0.cell 17).trans ca17.out
 have y17_11 := (hs1.cell 17).trans cb17.out
 have x18_11 := (hs0.cell 18).trans ca18.out
 have y18_11 := (hs1.cell 18).trans cb18.out
 have x19_11 := (hs0.cell 19).trans ca19.out
 have y19_11 := (hs1.cell 19).trans cb19.out
 have x20_11 := (hs0.cell 20).trans ca20.out
 have y20_11 := (hs1.cell 20).trans cb20.out
 have x21_11 := (hs0.cell 21).trans ca21.out
 have y21_11 := (hs1.cell 21).trans cb21.out
 cases R9
 ·simp only [Bool.false_and, Bool.and_false]
  go_wp2
  go_ret
  exact ⟨rfl, hB011⟩
 go_wp2_with fail
 refine (hE2.out _ hB011).mono ?_
 clear x16_11 y16_11 x17_11 y17_11 x18_11 y18_11 x19_11 y19_11 x20_11 y20_11 x21_11 y21_11 hg0_11 hg1_11 hl0_11 hl1_11
 rintro e W12 ⟨rfl, hB12⟩
 have hB012 := below_and hB011 hB12
 simp only [Bool.true_and]
 go_wp2
 go_ret
 exact ⟨rfl, hB012⟩
set_option maxRecDepth 100000 in
theorem sameP_no (a b : Pg Loc) (w : World) (ha : a.ok eT w) (hs : a.Slim) (la : 20000 < a.sz) : Calls Tryz.prog 22 #[aggP a, aggP b] w fun e w' => e = .returned (.bool false) ∧ Below w.heap.size w w' := by
 have hl1 := fun w2 (h2 : Below w.heap.size w w2) => lightP_ok a w2 (ha.below h2) hs
 rw [decide_eq_false (by omega)] at hl1
 obtain ⟨csa, ha'⟩ : ∃ cs, cs = (a.cells eT).toArray := ⟨_, rfl⟩
 obtain ⟨csb, hb'⟩ : ∃ cs, cs = (b.cells eT).toArray := ⟨_, rfl⟩
 have hsa : csa.size = 22 := by rw [ha']; exact Pg.cells_len eT a
 unfold aggP at hl1 ⊢
 rw [← ha'] at hl1 ⊢
 rw [← hb']
 clear ha' hb' ha hs la
 replace hl1 := Lib.hid hl1
 have hB0 : Below w.heap.size w ((w.alloc (.cells csa 35)).alloc (.cells csb 35)) := ((Below.refl _ _).alloc (Nat.le_refl _) _).alloc (by simp) _
 have hs0 := (Blk.new w 35 csa).alloc (.cells csb 35)
 go_enter Tryz.func22, Tryz.ntmps22
 go_upto_region 1 with (fail)
 generalize (w.alloc (.cells csa 35)).alloc (.cells csb 35) = W0 at *
 refine wp_region_lit ?_
 refine wpList_load_rowW 35 (.tmp 2) rfl (by rfl) w.heap.size rfl 35 csa (0, 0) _ hs0 Tryz.underlying35 rfl (by rw [hsa]; kernel_rfl) ?_
 go_wp2_with fail
 refine (hl1.out _ hB0).mono ?_
 rintro e W1 ⟨rfl, hB1⟩
 have hB01 := below_and hB0 hB1
 go_wp2
 go_ret
 exact ⟨rfl, hB01⟩
end Go.Proofs.YtnldbplphgfpeaaGreat
namespace Go.Proofs.YtnldbplphgfpeaaGreat
open Go Go.RowKit Go.Shelf
set_option linter.unusedVariables false
set_option linter.unusedSimpArgs false
def Ahead (St : List Nat) (listed : Array Bool) : Prop := ∀ s ∈ St, listed.getD s true = false
def wpAnyT (P : Program) (md : Region.Mode) (ops : Array Oper) (Q : Exit → Act → World → Prop) (St : List Nat) (S : World → Prop) : Nat → Array Bool → Act → World → Prop
 | 0, listed, a, w => Region.ready md ops listed = [] ∧ Q .normal a w
 | fuel + 1, listed, a, w => (Region.ready md ops listed = [] → Q .normal a w) ∧
  ∀ i ∈ Region.ready md ops listed, wpOp P ops Q i (fun a' w' => (Ahead St (listed.setIfInBounds i true) → S w') ∧ wpAnyT P md ops Q St S fuel (listed.setIfInBounds i true) a' w') a w
section
variable {P : Program} {ops : Array Oper} {Q : Exit → Act → World → Prop} {md : Region.Mode} {S : World → Prop} {St : List Nat}
theorem wpAny_of_T : ∀ (fuel : Nat) (listed : Array Bool) (a : Act) (w : World), wpAnyT P md ops Q St S fuel listed a w → wpAny P md ops Q fuel listed a w
 | 0, _, _, _, h => h
 | fuel + 1, _, _, _, h => ⟨h.1, fun i hi => wpOp_mono (fun a' w' h' => wpAny_of_T fuel _ a' w' h'.2) (h.2 i hi)⟩
theorem not_ready_of {listed : Array Bool} {s i : Nat} {os : Oper} (hs : ops[s]? = some os) (he : ∃ e ∈ os.after, Region.binds md e = true ∧ e.on = i) (hi : i ∈ Region.ready md ops listed) : s ∉ Region.ready md ops listed := fun hj => by
 obtain ⟨e, he, hb, rfl⟩ := he
 obtain ⟨_, oj, hoj, hall⟩ := mem_ready.1 hj
 rw [hs] at hoj
 cases hoj
 have h1 := hall e he hb
 have h0 := (mem_ready.1 hi).1
 rcases Nat.lt_or_ge e.on listed.size with h' | h'
 ·simp [h'] at h0 h1; rw [h0] at h1; cases h1
 ·simp [Array.getElem?_eq_none h'] at h1
theorem ahead_skip {listed : Array Bool} {i : Nat} (hi : i ∉ St) : Ahead St (listed.setIfInBounds i true) ↔ Ahead St listed :=
 ⟨fun h s hs => by have := h s hs; rwa [getD_set_ne true (fun e => hi (by rw [e]; exact hs))] at this, fun h s hs => by rw [getD_set_ne true (fun e => hi (by rw [e]; exact hs))]; exact h s hs⟩
theorem wpAnyT_first {S' : World → Prop} {St' : List Nat} (hS' : (St' = St ∧ S' = S) ∨ ∀ w, S' w) {i : Nat} {oi : Oper} {v : Value} (hi : ops[i]? = some oi) (hsel : ∀ (j : Nat) (o : Oper) cs b, ops[j]? = some o → o.op ≠ .select cs b)
  (hQ : ∀ c a w, Q (.panic c) (a.put oi.dst v) w → Q (.panic c) a w) (hiS : i ∉ St) (hst : ∀ s ∈ St', ∃ os, ops[s]? = some os ∧ ∃ e ∈ os.after, Region.binds md e = true ∧ e.on = i) :
  ∀ (fuel : Nat) (listed : Array Bool) (a : Act) (w : World),
   (∀ j oj, ops[j]? = some oj → j ≠ i → listed.getD j true = false → (∀ e ∈ oj.after, Region.binds md e = true → e.on ≠ i) → oi.apart ops oj = true) →
   i ∈ Region.ready md ops listed → YieldsIf P ops S' oi v a → S' w → Ahead St' listed → (Ahead St listed → S w) →
   wpAnyT P md ops Q St S fuel (listed.setIfInBounds i true) (a.put oi.dst v) w → wpAnyT P md ops Q St S (fuel + 1) listed a w := by
 intro fuel
 induction fuel with
 | zero =>
  intro listed a w _ hr hy hS hA hT H
  refine ⟨fun h => (by rw [h] at hr; cases hr), fun j hj => ?_⟩
  by_cases hji : j = i
  ·subst hji; exact hy.wpOp hi hS ⟨fun h => hT ((ahead_skip hiS).1 h), H⟩
  ·have := ready_mono hj hji
   rw [H.1] at this
   cases this
 | succ fuel ih =>
  intro listed a w hfree hr hy hS hA hT H
  refine ⟨fun h => (by rw [h] at hr; cases hr), fun j hj => ?_⟩
  by_cases hji : j = i
  ·subst hji; exact hy.wpOp hi hS ⟨fun h => hT ((ahead_skip hiS).1 h), H⟩
  ·have h1 := H.2 j (ready_mono hj hji)
   obtain ⟨hjun, oj, hoj, hall⟩ := mem_ready.1 hj
   have hnot : ∀ e ∈ oj.after, Region.binds md e = true → e.on ≠ i := fun e he hb heq => (not_ready_of hoj ⟨e, he, hb, heq⟩ hr) hj
   have h2 := wpOp_putIf hoj (hfree j oj hoj hji hjun hnot) (fun cs b => hsel i oi cs b hi) (fun cs b => hsel j oj cs b hoj) hQ hy h1
   have hfree' : ∀ k ok, ops[k]? = some ok → k ≠ i → (listed.setIfInBounds j true).getD k true = false →
     (∀ e ∈ ok.after, Region.binds md e = true → e.on ≠ i) → oi.apart ops ok = true := fun k ok hk hki hun hno => by
    refine hfree k ok hk hki ?_ hno
    by_cases hjk : j = k
    ·subst hjk; exact hjun
    ·rw [getD_set_ne true hjk] at hun; exact hun
   have hA' : Ahead St' (listed.setIfInBounds j true) := fun s hs => by
    obtain ⟨os, h4, h5⟩ := hst s hs
    rw [getD_set_ne true (fun e => by subst e; exact not_ready_of h4 h5 hr hj)]
    exact hA s hs
   have hback : Ahead St (listed.setIfInBounds j true) → Ahead St ((listed.setIfInBounds i true).setIfInBounds j true) := fun h => by
    rw [Array.setIfInBounds_comm _ _ (Ne.symm hji)]
    exact (ahead_skip hiS).2 h
   refine wpOp_mono (fun a' w' h3 => ⟨fun hs => h3.2.1 (hback hs), ih (listed.setIfInBounds j true) a' w' hfree' (ready_mono hr (Ne.symm hji)) h3.1 ?_ hA' (fun hs => h3.2.1 (hback hs)) ?_⟩) h2
   ·rcases hS' with ⟨e1, e2⟩ | h
    ·rw [e2]; rw [e1] at hA'; exact h3.2.1 (hback hA')
    ·exact h _
   ·rw [Array.setIfInBounds_comm _ _ hji]
    exact h3.2.2
theorem wpAnyT_done {listed : Array Bool} {a : Act} {w : World} (hr : Region.ready md ops listed = []) (h : Q .normal a w) : ∀ fuel, wpAnyT P md ops Q St S fuel listed a w
 | 0 => ⟨hr, h⟩
 | _ + 1 => ⟨fun _ => h, by rw [hr]; simp⟩
theorem wp_region_T {id : Nat} {a : Act} {w : World} (hm : P.follows .mixedOrders = true) (h : wpAnyT P .any ops Q St S ops.size (Array.replicate ops.size false) a w.drew) : (Code.region id ops true).wp P Q a w :=
 wp_region_any hm (wpAny_of_T _ _ _ _ h)
end
def waits (md : Region.Mode) (L : List Oper) (St : List Nat) (i : Nat) : Bool := St.all fun s => match L[s]? with | some o => o.after.toList.any fun e => Region.binds md e && e.on == i | none => false
theorem waits_spec {md : Region.Mode} {L : List Oper} {St : List Nat} {i : Nat} (h : waits md L St i = true) : ∀ s ∈ St, ∃ os, L.toArray[s]? = some os ∧ ∃ e ∈ os.after, Region.binds md e = true ∧ e.on = i := fun s hs => by
 have h1 := List.all_eq_true.1 h s hs
 cases ho : L[s]? with
 | none => rw [ho] at h1; cases h1
 | some o =>
  rw [ho] at h1
  obtain ⟨e, he, h2⟩ := List.any_eq_true.1 h1
  rw [Bool.and_eq_true, beq_iff_eq] at h2
  exact ⟨o, by simpa using ho, e, by simpa using he, h2.1, h2.2⟩
def aheadB (St : List Nat) (listed : Array Bool) : Bool := St.all fun s => !(listed.getD s true)
theorem ahead_spec {St : List Nat} {listed : Array Bool} (h : aheadB St listed = true) : Ahead St listed := fun s hs => by
 have := List.all_eq_true.1 h s hs
 simpa using this
theorem nomore {St : List Nat} {listed : Array Bool} {S : World → Prop} {w : World} (h : aheadB St listed = false) : Ahead St listed → S w := fun hA =>
 absurd (List.all_eq_true.2 fun s hs => (by rw [hA s hs]; rfl) : aheadB St listed = true) (fun h' => by unfold aheadB at h; rw [h] at h'; cases h')
theorem takeT {P : Program} {md : Region.Mode} {L : List Oper} {Q : Exit → Act → World → Prop} {St : List Nat} {S : World → Prop} (i : Nat) {oi : Oper} {v : Value} {fuel : Nat} {listed : Array Bool} {a : Act} {w : World} (hi : L[i]? = some oi)
  (hs : Region.noSelect L.toArray = true) (hf : Region.free md L.toArray listed i = true) (hr : (Region.ready md L.toArray listed).contains i = true) (hst : (!St.contains i && (waits md L St i && aheadB St listed)) = true)
  (hQ : ∀ c a w, Q (.panic c) (a.put oi.dst v) w → Q (.panic c) a w) (hw : Region.wanted oi (yielded L.toArray a.tmps) = true) (hS : S w) (hv : ∀ w, S w → (execOp a.eval oi).run P w = .ok (.value v) w)
  (h : wpAnyT P md L.toArray Q St S fuel (listed.setIfInBounds i true) (a.put oi.dst v) w) : wpAnyT P md L.toArray Q St S (fuel + 1) listed a w := by
 simp only [Bool.and_eq_true] at hst
 exact wpAnyT_first (.inl ⟨rfl, rfl⟩) (by simpa using hi) (Region.noSelect_spec hs) hQ (by have := hst.1; simpa using this) (waits_spec hst.2.1) fuel listed a w (Region.free_spec (by simpa using hi) hf) (by simpa using hr) (.inl ⟨hw, hv⟩) hS (ahead_spec hst.2.2) (fun _ => hS) h
theorem pureT {P : Program} {md : Region.Mode} {L : List Oper} {Q : Exit → Act → World → Prop} {St : List Nat} {S : World → Prop} (i : Nat) {oi : Oper} {v : Value} {fuel : Nat} {listed : Array Bool} {a : Act} {w : World} (hi : L[i]? = some oi)
  (hs : Region.noSelect L.toArray = true) (hf : Region.free md L.toArray listed i = true) (hr : (Region.ready md L.toArray listed).contains i = true) (hst : (!St.contains i) = true)
  (hQ : ∀ c a w, Q (.panic c) (a.put oi.dst v) w → Q (.panic c) a w) (hw : Region.wanted oi (yielded L.toArray a.tmps) = true) (hS : Ahead St listed → S w) (hv : ∀ w, (execOp a.eval oi).run P w = .ok (.value v) w)
  (h : wpAnyT P md L.toArray Q St S fuel (listed.setIfInBounds i true) (a.put oi.dst v) w) : wpAnyT P md L.toArray Q St S (fuel + 1) listed a w :=
 wpAnyT_first (S' := fun _ => True) (St' := []) (.inr fun _ => trivial) (by simpa using hi) (Region.noSelect_spec hs) hQ (by simpa using hst) (fun _ h => by cases h) fuel listed a w (Region.free_spec (by simpa using hi) hf) (by simpa using hr) (.inl ⟨hw, fun w _ => hv w⟩) trivial (fun _ h => by cases h) hS h
theorem wpAnyT_all {P : Program} {md : Region.Mode} {ops : Array Oper} {Q : Exit → Act → World → Prop} {St : List Nat} {S : World → Prop} {i : Nat} {fuel : Nat} {listed : Array Bool} {a : Act} {w : World} (hr : Region.ready md ops listed = [i])
  (h : wpOp P ops Q i (fun a' w' => (Ahead St (listed.setIfInBounds i true) → S w') ∧ wpAnyT P md ops Q St S fuel (listed.setIfInBounds i true) a' w') a w) : wpAnyT P md ops Q St S (fuel + 1) listed a w :=
 ⟨fun h0 => (by rw [hr] at h0; cases h0), fun j hj => by
  rw [hr, List.mem_singleton] at hj
  subst hj
  exact h⟩
theorem callT {P : Program} {md : Region.Mode} {L : List Oper} {Q : Exit → Act → World → Prop} {St : List Nat} {S : World → Prop} (i : Nat) {oi : Oper} {fuel : Nat} {listed : Array Bool} {a : Act} {w : World} (hi : L[i]? = some oi)
  (hr : Region.ready md L.toArray listed = [i])
  (h : ∀ K' : Act → World → Prop, Shut (∀ a w, S w → (S w → wpAnyT P md L.toArray Q St S fuel (listed.setIfInBounds i true) a w) → K' a w) → if Region.wanted oi (yielded L.toArray a.tmps) = true then Oper.wp P oi a w K' Q else K' (a.put oi.dst undef) w) : wpAnyT P md L.toArray Q St S (fuel + 1) listed a w :=
 wpAnyT_all hr (wpOp_step (by simpa using hi) (fun K' hK => h K' (fun a w hS hW => hK a w ⟨fun _ => hS, hW hS⟩)))
theorem storeT {P : Program} {md : Region.Mode} {L : List Oper} {Q : Exit → Act → World → Prop} {St : List Nat} {S : World → Prop} (i : Nat) {oi : Oper} {fuel : Nat} {listed : Array Bool} {a : Act} {w : World} (hi : L[i]? = some oi)
  (hr : Region.ready md L.toArray listed = [i]) (hn : aheadB St (listed.setIfInBounds i true) = false)
  (h : ∀ K' : Act → World → Prop, Shut (∀ a w, wpAnyT P md L.toArray Q St S fuel (listed.setIfInBounds i true) a w → K' a w) → if Region.wanted oi (yielded L.toArray a.tmps) = true then Oper.wp P oi a w K' Q else K' (a.put oi.dst undef) w) : wpAnyT P md L.toArray Q St S (fuel + 1) listed a w :=
 wpAnyT_all hr (wpOp_step (by simpa using hi) (fun K' hK => h K' (fun a w hW => hK a w ⟨fun hA => absurd (List.all_eq_true.2 fun s hs => (by rw [hA s hs]; rfl) : aheadB St (listed.setIfInBounds i true) = true) (fun h => by unfold aheadB at hn; rw [hn] at h; cases h), hW⟩)))
end Go.Proofs.YtnldbplphgfpeaaGreat
