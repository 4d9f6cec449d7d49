/- The reference: how many nodes an expression has; declarations; statements. -/
import Derived.Test.YtnldbplphgfpeaaTRa
import Derived.Test.YtnldbplphgfpeaaTPs
namespace Go.Proofs.Ytnldbplphgfpeaa
open Go Go.RowKit Go.Shelf
set_option linter.unusedVariables false
set_option linter.unusedSimpArgs false
set_option maxHeartbeats 8000000
def RCnt (e : Ex Loc) : Prop := ∀ (b : Nat) (w : World), b + e.sz ≤ 20000 → e.ok eR w → Calls Try.prog 84 #[aggRX e, .int .i64 b] w fun r w' => r = .returned (.int .i64 (b + e.sz : Nat)) ∧ Below w.heap.size w w'
set_option maxRecDepth 100000 in
theorem rcountE : ∀ e : Ex Loc, RCnt e := by
  intro e
  induction e using Ex.ind with
  | h hd lc ss ih =>
  intro b w hb hok
  have hrow : Lex.ok eR w lc ss := hok
  obtain ⟨n, hn⟩ : ∃ n, n = ss.length := ⟨_, rfl⟩
  have hsz : (Ex.mk hd lc ss).sz = 1 + szs ss := rfl
  rw [hsz] at hb ⊢
  obtain ⟨xk, xo, xv, xw, xn⟩ := hd
  obtain ⟨lA, lcap⟩ := lc
  have hnl := szs_len ss
  have hn63 : (n : Int) ≤ 20000 := by omega
  simp only [aggRX, Ex.cells, eR]
  rw [← hn]
  obtain ⟨T, hT⟩ : ∃ T, T = szs ss := ⟨_, rfl⟩
  rw [← hT] at hb ⊢
  have hBx := (Below.refl _ w).alloc (Nat.le_refl _) (.cells #[.int .i64 xk, .int .i64 xo, .int .i64 xv, .int .i64 xw, .string xn, .slice lA n lcap] 108)
  have hs0 := Blk.new w 108 #[.int .i64 xk, .int .i64 xo, .int .i64 xv, .int .i64 xw, .string xn, .slice lA n lcap]
  have bi : (b : Int) + 1 + T ≤ 20000 := by omega
  have hrow' := Lib.hid hrow
  replace hn := Lib.hid hn
  replace hBx := Lib.hid hBx
  replace hs0 := Lib.hid hs0
  replace ih := Lib.hid ih
  replace hT := Lib.hid hT
  clear hrow hok hsz hnl
  go_enter Try.func84, Try.ntmps84
  go_wp2_with fail
  generalize w.alloc (.cells #[.int .i64 xk, .int .i64 xo, .int .i64 xv, .int .i64 xw, .string xn, .slice lA n lcap] 108) = W0 at *
  go_loopw [5, 6] (fun v5 v6 wr => ∃ (k q : Nat), v6 = .int .i64 k ∧ v5 = .int .i64 q ∧ k ≤ n ∧ q = b + 1 + szs (ss.take k) ∧ Below W0.heap.size W0 wr) (fun _ v6 _ => n - (intOf v6).toNat)
  case atStart => exact ⟨0, b + 1, rfl, by go_num, Nat.zero_le _, by simp [szs], Below.refl _ _⟩
  case round =>
    obtain ⟨k, q, rfl, rfl, hk, hq, hB0⟩ := hrel
    have k0 : 0 ≤ (k : Int) := by omega
    have hle : szs (ss.take k) ≤ szs ss := by
      have h := szs_append (ss.take k) (ss.drop k)
      rw [List.take_append_drop] at h
      omega
    have qi : (q : Int) ≤ 20000 := by have := hT.out; omega
    have hB := below_and hBx.out hB0
    have hs0r := hs0.out.below hB0 hs0.out.lt
    have hl0 := hs0r.lt
    have hc0 := hs0r.cell 5
    simp only [List.getElem?_toArray, List.getElem?_cons_zero, List.getElem?_cons_succ] at hc0
    by_cases hlt : k < n
    · have hx : ss[k]? = some (ss[k]'(by have := hn.out; omega)) := List.getElem?_eq_getElem (by have := hn.out; omega)
      generalize ss[k]'(by have := hn.out; omega) = x at hx
      obtain ⟨ad, hA, _, _, hxok, hcx⟩ := (hrow'.out.all (keeps_below hB)).at hx
      have hnext := szs_take_succ hx
      have hxle : szs (ss.take (k + 1)) ≤ szs ss := by
        have h := szs_append (ss.take (k + 1)) (ss.drop (k + 1))
        rw [List.take_append_drop] at h
        omega
      have hcall := fun w2 (hB2 : Below wr.heap.size wr w2) => ih.out x (List.mem_of_getElem? hx) q w2 (by have := hT.out; omega) (hxok.below hB2)
      obtain ⟨q2, hq2⟩ : ∃ q2, q2 = q + x.sz := ⟨_, rfl⟩
      rw [← hq2] at hcall
      have q2i : (q2 : Int) ≤ 20000 := by have := hT.out; omega
      have hq3 : q2 = b + 1 + szs (ss.take (k + 1)) := by omega
      obtain ⟨⟨pk, po, pv, pw, pn⟩, ⟨xA, xc⟩, xs⟩ := x
      obtain ⟨c0, c1, c2, c3, c4, c5⟩ := CellsAt.c6 hcx
      simp only [aggRX, Ex.cells, eR] at c0 c1 c2 c3 c4 c5 hcall
      dsimp only at hA
      subst hA
      have k1 : (k : Int) < (n : Int) := by omega
      have hab := cell_lt c0
      have hcall2 := hcall wr (Below.refl _ _)
      replace hcall2 := Lib.hid hcall2
      replace hnext := Lib.hid hnext
      replace hx := Lib.hid hx
      replace hle := Lib.hid hle
      replace hq2 := Lib.hid hq2
      replace hq3 := Lib.hid hq3
      replace hxle := Lib.hid hxle
      replace hq := Lib.hid hq
      clear hcall hs0r hxok
      go_wp2_with fail
      refine hcall2.out.mono ?_
      rintro e w2 ⟨rfl, hB2⟩
      have hB3 := below_and hB0 hB2
      clear c0 c1 c2 c3 c4 c5 hc0
      go_wp2_with fail
      go_roundw
      case rel => exact ⟨k + 1, q2, by go_num, rfl, by omega, hq3.out, hB3⟩
      case measure => simp [intOf]; omega
    · obtain rfl : n = k := by omega
      have hkn : ss.take n = ss := List.take_of_length_le (by have := hn.out; omega)
      rw [hkn] at hq
      have hqq : q = b + (1 + T) := by have := hT.out; omega
      replace hqq := Lib.hid hqq
      replace hkn := Lib.hid hkn
      clear hs0r hle hq
      go_wp2_with fail
      go_ret
      rw [hqq.out]
      exact ⟨rfl, hB⟩
theorem dc_neqR (x y : Dc) (w : World) : Sem.run Try.prog (binOp .neq 138 (.agg #[.string x.nm, .int .i64 x.wd, .int .i64 x.sz]) (.agg #[.string y.nm, .int .i64 y.wd, .int .i64 y.sz])) w = .ok (.bool (!(x.eq y))) w := by
  have u3 := Try.underlying3
  have u9 := Try.underlying9
  have a3 : ∀ w, (isAgg 3).run Try.prog w = .ok false w := fun w => by kernel_rfl
  have a9 : ∀ w, (isAgg 9).run Try.prog w = .ok false w := fun w => by kernel_rfl
  have hS : Try.prog.underlying 138 = some (.struct (Try.prog.fieldsOf 138)) := by kernel_rfl
  have hp : Try.prog.stoodInHeld 138 = false := by kernel_rfl
  rw [run_neq_struct, show (10000 : Nat) = 9999 + 1 from rfl, run_equalIn_agg w 9999 138 _ _ hS hp]
  simp only [Program.fieldsOf, Try.underlying138]
  go_simp
  obtain ⟨xn, xw, xs⟩ := x
  obtain ⟨yn, yw, ys⟩ := y
  simp only [Dc.eq]
  cases h1 : (xn.toList == yn.toList) <;> cases h2 : (xw == yw) <;> cases h3 : (xs == ys) <;> simp_all
set_option maxRecDepth 100000 in
theorem rsameD (la lb : Loc) (a b : List Dc) (w : World) (ha : RowIn w 3 la a.length (cellsD a)) (hb : RowIn w 3 lb b.length (cellsD b)) :
    Calls Try.prog 81 #[.slice la.A a.length la.c, .slice lb.A b.length lb.c] w fun e w' => e = .returned (.bool (sameD a b)) ∧ Below w.heap.size w w' := by
  have ha63 : (a.length : Int) ≤ 9223372036854775807 := by have h1 := ha.2.1; have h2 := ha.2.2.1; omega
  obtain ⟨n, hn⟩ : ∃ n, n = a.length := ⟨_, rfl⟩
  obtain ⟨n', hn'⟩ : ∃ n, n = b.length := ⟨_, rfl⟩
  rw [← hn] at ha63 ⊢
  rw [← hn']
  by_cases hl : n = n'
  · subst hl
    replace hn := Lib.hid hn
    replace hn' := Lib.hid hn'
    obtain ⟨R, hR⟩ : ∃ R, R = sameD a b := ⟨_, rfl⟩
    rw [← hR]
    replace hR := Lib.hid hR
    go_enter Try.func81, Try.ntmps81
    go_wp2
    go_loopw [5] (fun i wr => ∃ k : Nat, i = .int .i64 k ∧ k ≤ n ∧ Below w.heap.size w wr ∧ ∀ (i : Nat) x y, i < k → a[i]? = some x → b[i]? = some y → x.eq y = true) (fun i _ => n - (intOf i).toNat)
    case atStart => exact ⟨0, rfl, Nat.zero_le _, Below.refl _ _, fun i x y h => absurd h (by omega)⟩
    case round =>
      obtain ⟨k, rfl, hk, hB, hsm⟩ := hrel
      have k0 : 0 ≤ (k : Int) := by omega
      by_cases hlt : k < n
      · have hx : a[k]? = some (a[k]'(by have := hn.out; omega)) := List.getElem?_eq_getElem (by have := hn.out; omega)
        generalize a[k]'(by have := hn.out; omega) = x at hx
        have hy : b[k]? = some (b[k]'(by have := hn'.out; omega)) := List.getElem?_eq_getElem (by have := hn'.out; omega)
        generalize b[k]'(by have := hn'.out; omega) = y at hy
        obtain ⟨ad, hA, _, hcx⟩ := RowIn.dc (ha.all (keeps_below hB)) hx
        obtain ⟨bd, hA', _, hcy⟩ := RowIn.dc (hb.all (keeps_below hB)) hy
        obtain ⟨xn, xw, xs⟩ := x
        obtain ⟨yn, yw, ys⟩ := y
        obtain ⟨c0, c1, c2⟩ := CellsAt.c3 hcx
        obtain ⟨d0, d1, d2⟩ := CellsAt.c3 hcy
        obtain ⟨lA, lc⟩ := la
        obtain ⟨lB, lc'⟩ := lb
        dsimp only at hA hA'
        subst hA
        subst hA'
        have k1 : (k : Int) < (n : Int) := by omega
        have hab := cell_lt c0
        have hbb := cell_lt d0
        obtain ⟨r, hr⟩ : ∃ r, r = (Dc.mk xn xw xs).eq ⟨yn, yw, ys⟩ := ⟨_, rfl⟩
        have hres : r = false → R = false := fun h => by
          rw [hR.out]
          cases hs : sameD a b with
          | false => rfl
          | true =>
            have := (sameD_at a b (sameD_len hs)).1 hs k _ _ hx hy
            rw [← hr, h] at this
            cases this
        replace hr := Lib.hid hr
        replace hx := Lib.hid hx
        replace hy := Lib.hid hy
        replace hsm := Lib.hid hsm
        replace hres := Lib.hid hres
        have hm : Try.prog.eqGuardType Try.prog.depth 138 = false := by kernel_rfl
        have hneq := fun wx => dc_neqR ⟨xn, xw, xs⟩ ⟨yn, yw, ys⟩ wx
        dsimp only at hneq
        rw [← hr.out] at hneq
        go_wp2_with fail
        go_quiet (fail)
        have hBq : Below wr.heap.size wr (wr.drewN nq) := ⟨rfl, rfl, rfl, Nat.le_refl _, fun _ _ => rfl⟩
        generalize wr.drewN nq = W1 at *
        cases r
        · go_wp2
          go_ret
          refine ⟨ret_b (hres.out (by simp)).symm, below_and hB hBq⟩
        · go_wp2_with fail
          go_roundw
          case rel =>
            refine ⟨k + 1, by go_num, by omega, below_and hB hBq, fun i x y hi hx' hy' => ?_⟩
            by_cases hik : i = k
            · subst hik
              rw [hx.out] at hx'
              rw [hy.out] at hy'
              cases hx'
              cases hy'
              exact hr.out.symm
            · exact hsm.out i x y (by omega) hx' hy'
          case measure => simp [intOf]; omega
      · obtain rfl : k = n := by omega
        have hRt : R = true := by
          rw [hR.out]
          refine (sameD_at a b (by rw [← hn.out, ← hn'.out])).2 fun i x y hx hy => hsm i x y ?_ hx hy
          have := (List.getElem?_eq_some_iff.1 hx).1
          have := hn.out
          omega
        replace hRt := Lib.hid hRt
        replace hsm := Lib.hid hsm
        go_wp2
        go_ret
        exact ⟨ret_b hRt.out.symm, hB⟩
  · have hRf : sameD a b = false := by
      cases hs : sameD a b with
      | false => rfl
      | true => exact absurd (by rw [hn, hn']; exact sameD_len hs) hl
    rw [hRf]
    have h1 : ((n : Int) == (n' : Int)) = false := by simp; omega
    have h2 : ((n : Int) != (n' : Int)) = true := by simp; omega
    have hl' := Lib.hid hl
    clear hl
    replace hn := Lib.hid hn
    replace hn' := Lib.hid hn'
    replace hRf := Lib.hid hRf
    go_enter Try.func81, Try.ntmps81
    go_wp2
    go_ret
    exact ⟨rfl, Below.refl _ _⟩
end Go.Proofs.Ytnldbplphgfpeaa
