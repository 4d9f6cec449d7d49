/- Lemmas for salvor/salvorlaw29.TreeSmall (part 21); no condition. -/
import Derived.Test.YtnldbplphgfpeaaGreatP12
namespace Go.Proofs.YtnldbplphgfpeaaGreat
open Go Go.RowKit Go.Shelf
set_option linter.unusedVariables false
set_option linter.unusedSimpArgs false
set_option maxHeartbeats 4000000
def FewE (e : Ex Loc) : Prop := ∀ (most M : Nat) (w : World), most ≤ 60000 → M ≤ 140737488355327 → e.ok eT w → e.all (Hd.short M) →
 Calls Tryz.prog 100 #[aggX e, .int .i64 most] w fun r w' => (∃ n : Nat, r = .returned (.int .i64 n) ∧ ((n ≤ most ∨ e.wt ≤ most) → n = e.wt) ∧ n ≤ most + 1 + M) ∧ Below w.heap.size w w'
set_option maxRecDepth 100000 in
theorem fewE : ∀ e : Ex Loc, FewE e := by
 intro e
 induction e using Ex.ind with
 | h hd lc ss ih =>
 intro most M w hm hM hok hfit
 have hnm : hd.nm.size ≤ M := hfit.1
 have hsub : ∀ x ∈ ss, x.all (Hd.short M) := allX_iff.1 hfit.2
 obtain ⟨n, hn⟩ : ∃ n, n = ss.length := ⟨_, rfl⟩
 have hrow : Lex.ok eT w lc ss := hok
 obtain ⟨xk, xo, xv, xw, xn⟩ := hd
 obtain ⟨lA, lcap⟩ := lc
 have hn63 : (n : Int) ≤ 9223372036854775807 := by have h1 := hrow.1.2.1; have h2 := hrow.1.2.2.1; dsimp only at h1 h2; omega
 dsimp only at hnm
 have hsz0 : (Ex.mk ⟨xk, xo, xv, xw, xn⟩ (⟨lA, lcap⟩ : Loc) ss).wt = 1 + xn.size + wtX ss := rfl
 rw [hsz0]
 simp only [aggX, Ex.cells, eT]
 rw [← hn]
 have z1 : (xn.size : Int) ≤ 140737488355328 := by omega
 have m1 : (most : Int) ≤ 60000 := by omega
 obtain ⟨s0, hs0⟩ : ∃ s0, s0 = xn.size := ⟨_, rfl⟩
 have hBx := (Below.refl _ w).alloc (Nat.le_refl _) (.cells #[.int .u8 xk, .int .u8 xo, .int .u32 xv, .int .i64 xw, .string xn, .slice lA n lcap] 30)
 have hrow' := hrow
 replace hrow' := Lib.hid hrow'
 replace hsub := Lib.hid hsub
 replace hn := Lib.hid hn
 replace hs0 := Lib.hid hs0
 replace hBx := Lib.hid hBx
 clear hrow hok hfit hsz0
 go_enter Tryz.func100, Tryz.ntmps100
 go_wp2_with fail
 go_loopw [5, 15] (fun v5 v15 wr => ∃ (k q : Nat), v15 = .int .i64 k ∧ v5 = .int .i64 q ∧ k ≤ n ∧ ((q ≤ most ∨ 1 + xn.size + wtX ss ≤ most) → q = 1 + xn.size + wtX (ss.take k)) ∧ q ≤ most + 1 + M ∧ Below w.heap.size w wr) (fun _ v15 _ => n - (intOf v15).toNat)
 case atStart => exact ⟨0, 1 + xn.size, rfl, by go_num, Nat.zero_le _, fun _ => by simp [wtX], by omega, hBx.out⟩
 case round =>
  obtain ⟨k, q, rfl, rfl, hk, hq, hqm, hB⟩ := hrel
  have k0 : 0 ≤ (k : Int) := by omega
  by_cases hlt : k < n
  ·by_cases hgt : most < q
   ·have hx : ss[k]? = some (ss[k]'(by have := hn.out; omega)) := List.getElem?_eq_getElem (by have := hn.out; omega)
    generalize ss[k]'(by have := hn.out; omega) = x at hx
    obtain ⟨ad, hA, _, _, hxok, hcx⟩ := (hrow'.out.all (keeps_below hB)).at hx
    have k1 : (k : Int) < (n : Int) := by omega
    have hg : (most : Int) < (q : Int) := by omega
    obtain ⟨⟨yk, yo, yv, yw, yn⟩, ⟨yA, yc⟩, ys⟩ := x
    dsimp only at hA
    subst hA
    obtain ⟨d0, d1, d2, d3, d4, d5⟩ := CellsAt.c6 hcx
    have hab := cell_lt d0
    have hB2 := hB.alloc hB.size (.cells #[.int .u8 yk, .int .u8 yo, .int .u32 yv, .int .i64 yw, .string yn, .slice yA ys.length yc] 30)
    simp only [eT] at d0 d1 d2
    replace hB2 := Lib.hid hB2
    replace hx := Lib.hid hx
    go_wp2_with fail
    go_ret
    exact ⟨⟨q, rfl, fun h => by have h1 := hq h; have h2 := wtX_take_le ss k; omega, hqm⟩, hB2.out⟩
   ·have hx : ss[k]? = some (ss[k]'(by have := hn.out; omega)) := List.getElem?_eq_getElem (by have := hn.out; omega)
    generalize ss[k]'(by have := hn.out; omega) = x at hx
    obtain ⟨ad, hA, _, _, hxok, hcx⟩ := (hrow'.out.all (keeps_below hB)).at hx
    have k1 : (k : Int) < (n : Int) := by omega
    have hg : ¬ ((most : Int) < (q : Int)) := by omega
    have hmem := List.mem_of_getElem? hx
    obtain ⟨md, hmd⟩ : ∃ md, md = most - q := ⟨_, rfl⟩
    have hmi : (most : Int) - (q : Int) = (md : Int) := by omega
    have hcall := fun w2 (hB2 : Below wr.heap.size wr w2) => ih x hmem md M w2 (by omega) hM (hxok.below hB2) (hsub.out x hmem)
    have hnext := wtX_take hx
    have hle := wtX_take_le ss (k + 1)
    obtain ⟨⟨yk, yo, yv, yw, yn⟩, ⟨yA, yc⟩, ys⟩ := x
    dsimp only at hA
    subst hA
    obtain ⟨d0, d1, d2, d3, d4, d5⟩ := CellsAt.c6 hcx
    have hab := cell_lt d0
    have hB2 := (Below.refl _ wr).alloc (Nat.le_refl _) (.cells #[.int .u8 yk, .int .u8 yo, .int .u32 yv, .int .i64 yw, .string yn, .slice yA ys.length yc] 30)
    simp only [eT, aggX, Ex.cells] at d0 d1 d2 hcall
    have hcall2 := hcall _ hB2
    replace hcall2 := Lib.hid hcall2
    replace hB2 := Lib.hid hB2
    replace hx := Lib.hid hx
    replace hmi := Lib.hid hmi
    replace hmd := Lib.hid hmd
    replace hnext := Lib.hid hnext
    replace hle := Lib.hid hle
    clear hcall
    go_wp2_with fail
    rw [hmi.out]
    refine hcall2.out.mono ?_
    rintro e w2 ⟨⟨q2, rfl, hq2, hqm2⟩, hB3⟩
    have hB4 := below_and hB2.out hB3
    replace hB4 := Lib.hid hB4
    have q2b : (q2 : Int) ≤ 140737488500000 := by have := hmd.out; omega
    go_wp2_with fail
    go_roundw
    case rel => exact ⟨k + 1, q + q2, by go_num, by go_num, by omega, fun h => by have h1 := hnext.out; have h3 := hle.out; have h2 := hmd.out; have h4 := hq (by omega); have h5 := hq2 (by omega); omega, by have := hmd.out; omega, below_and hB hB4.out⟩
    case measure => simp [intOf]; omega
  ·obtain rfl : n = k := by omega
   have hkn : ss.take n = ss := List.take_of_length_le (by have := hn.out; omega)
   rw [hkn] at hq
   replace hkn := Lib.hid hkn
   go_wp2_with fail
   go_ret
   exact ⟨⟨q, rfl, hq, hqm⟩, hB⟩
end Go.Proofs.YtnldbplphgfpeaaGreat
namespace Go.Proofs.YtnldbplphgfpeaaGreat
open Go Go.RowKit Go.Shelf
set_option linter.unusedVariables false
set_option linter.unusedSimpArgs false
set_option maxHeartbeats 8000000
set_option maxRecDepth 100000 in
theorem fewS : ∀ (ls : List (St Loc)) (lc : Loc) (most M : Nat) (w : World), most ≤ 60000 → M ≤ 140737488355327 → (most + 2) * (M + 1) ≤ 288230376151711744 → Lst.ok eT w lc ls → allL (Hd.short M) (SHd.short M) ls →
  Calls Tryz.prog 101 #[.slice lc.A ls.length lc.c, .int .i64 most] w fun r w' => (∃ n : Nat, r = .returned (.int .i64 n) ∧ ((n ≤ most ∨ wtL ls ≤ most) → n = wtL ls) ∧ n ≤ most + (most + 2) * (M + 1)) ∧ Below w.heap.size w w' := by
 intro ls
 induction ls using St.list with
 | h ls ih =>
 intro lc most M w hm hM hMM hok hfit
 obtain ⟨n, hn⟩ : ∃ n, n = ls.length := ⟨_, rfl⟩
 have hn63 : (n : Int) ≤ 9223372036854775807 := by have h1 := hok.1.2.1; have h2 := hok.1.2.2.1; omega
 rw [← hn]
 have m1 : (most : Int) ≤ 60000 := by omega
 have hT1 : 2 * (M + 1) ≤ (most + 2) * (M + 1) := Nat.mul_le_mul_right _ (by omega)
 obtain ⟨t, ht⟩ : ∃ t, t = (most + 2) * (M + 1) := ⟨_, rfl⟩
 obtain ⟨K, hK⟩ : ∃ K, K = M + 1 := ⟨_, rfl⟩
 obtain ⟨W, hW⟩ : ∃ W, W = wtL ls := ⟨_, rfl⟩
 rw [← ht] at hMM hT1
 have hsub : ∀ md, md + 1 ≤ most → (md + 2) * (M + 1) + K ≤ t ∧ (md + 2) * (M + 1) ≤ 288230376151711744 := fun md h => by
  have h1 : (md + 3) * (M + 1) ≤ (most + 2) * (M + 1) := Nat.mul_le_mul_right _ (by omega)
  have h2 : (md + 3) * (M + 1) = (md + 2) * (M + 1) + (M + 1) := Nat.succ_mul _ _
  omega
 have hT2 : 2 * K ≤ t := by omega
 rw [← ht, ← hW]
 have K1 : K ≤ 140737488355328 := by omega
 replace hsub := Lib.hid hsub
 replace hW := Lib.hid hW
 replace ht := Lib.hid ht
 replace hK := Lib.hid hK
 clear hT1
 have hok' := Lib.hid hok
 clear hok
 replace hfit := Lib.hid hfit
 replace hn := Lib.hid hn
 replace ih := Lib.hid ih
 go_enter Tryz.func101, Tryz.ntmps101
 go_wp2_with fail
 go_loopw [5, 12] (fun v5 v12 wr => ∃ (k q : Nat), v12 = .int .i64 k ∧ v5 = .int .i64 q ∧ k ≤ n ∧ ((q ≤ most ∨ W ≤ most) → q = wtL (ls.take k)) ∧ q + K ≤ most + t ∧ Below w.heap.size w wr) (fun _ v12 _ => n - (intOf v12).toNat)
 case atStart => exact ⟨0, 0, rfl, rfl, Nat.zero_le _, fun _ => by simp [wtL], by omega, Below.refl _ _⟩
 case round =>
  obtain ⟨k, q, rfl, rfl, hk, hq, hqm, hB⟩ := hrel
  have k0 : 0 ≤ (k : Int) := by omega
  have qb : (q : Int) ≤ 300000000000000000 := by omega
  have hqm' : q ≤ most + t := by omega
  replace hqm' := Lib.hid hqm'
  by_cases hlt : k < n
  ·have hx : ls[k]? = some (ls[k]'(by have := hn.out; omega)) := List.getElem?_eq_getElem (by have := hn.out; omega)
   generalize ls[k]'(by have := hn.out; omega) = x at hx
   obtain ⟨ad, hA, _, _, hxok, hcx⟩ := (hok'.out.all (keeps_below hB)).at hx
   have hmem := List.mem_of_getElem? hx
   have hxf := allL_iff.1 hfit.out x hmem
   have hnext := wtL_take hx
   have hle := wtL_take_le ls (k + 1)
   have hi1 := (ih.out x hmem).1
   have hi2 := (ih.out x hmem).2
   obtain ⟨⟨xk, xn, xb⟩, ⟨xA, xc⟩, ⟨x1, x2⟩, ⟨x3, x4⟩, xx, xt, xe⟩ := x
   simp only [St.th, St.el, St.wt] at hnext hi1 hi2
   rw [← hW.out] at hle
   obtain ⟨f1, f2, f3, f4⟩ := hxf
   simp only [SHd.short] at f1
   obtain ⟨c0, c1, c2, c3, c4, c5⟩ := CellsAt.c6 hcx
   simp only [eT] at c0 c1 c2 c3 c4 c5
   try dsimp only at hA
   obtain ⟨m, hmx⟩ : ∃ m, m = xx.length := ⟨_, rfl⟩
   rw [← hmx] at c2
   obtain ⟨p1, p2, p3⟩ := hxok.parts
   have hm63 : (m : Int) ≤ 9223372036854775807 := by have h1 := p1.1.2.1; have h2 := p1.1.2.2.1; dsimp only at h1 h2; omega
   have hc1 : ∀ (md : Nat), md + 1 ≤ most → ∀ w2, Below wr.heap.size wr w2 → Calls Tryz.prog 101 #[.slice x1 xt.length x2, .int .i64 md] w2 fun r w' => (∃ n : Nat, r = .returned (.int .i64 n) ∧ ((n ≤ md ∨ wtL xt ≤ md) → n = wtL xt) ∧ n + K ≤ md + t) ∧ Below w2.heap.size w2 w' := fun md hmd w2 hB2 =>
    (hi1 ⟨x1, x2⟩ md M w2 (by omega) hM (hsub.out md hmd).2 (p2.all (keeps_below hB2)) f3).mono fun r w' ⟨⟨n, h1, h2, h3⟩, h4⟩ => ⟨⟨n, h1, h2, by have := (hsub.out md hmd).1; have h5 := hK.out; omega⟩, h4⟩
   have hc2 : ∀ (md : Nat), md + 1 ≤ most → ∀ w2, Below wr.heap.size wr w2 → Calls Tryz.prog 101 #[.slice x3 xe.length x4, .int .i64 md] w2 fun r w' => (∃ n : Nat, r = .returned (.int .i64 n) ∧ ((n ≤ md ∨ wtL xe ≤ md) → n = wtL xe) ∧ n + K ≤ md + t) ∧ Below w2.heap.size w2 w' := fun md hmd w2 hB2 =>
    (hi2 ⟨x3, x4⟩ md M w2 (by omega) hM (hsub.out md hmd).2 (p3.all (keeps_below hB2)) f4).mono fun r w' ⟨⟨n, h1, h2, h3⟩, h4⟩ => ⟨⟨n, h1, h2, by have := (hsub.out md hmd).1; have h5 := hK.out; omega⟩, h4⟩
   have k1 : (k : Int) < (n : Int) := by omega
   have hab := cell_lt c0
   have z1 : (xn.size : Int) ≤ 140737488355327 := by omega
   have z2 : xn.size + 1 ≤ K := by have := hK.out; omega
   obtain ⟨q1, hq1⟩ : ∃ q1, q1 = q + (1 + xn.size) := ⟨_, rfl⟩
   have hBw := (Below.refl _ wr).alloc (Nat.le_refl _) (.cells #[.int .u8 xk, .string xn, .slice xA m xc, .int .i64 xb, .slice x1 xt.length x2, .slice x3 xe.length x4] 40)
   have hbs := Blk.new wr 40 #[.int .u8 xk, .string xn, .slice xA m xc, .int .i64 xb, .slice x1 xt.length x2, .slice x3 xe.length x4]
   clear hi1 hi2 hxok
   replace p1 := Lib.hid p1
   replace p2 := Lib.hid p2
   replace p3 := Lib.hid p3
   replace hc1 := Lib.hid hc1
   replace hc2 := Lib.hid hc2
   replace f1 := Lib.hid f1
   replace f2 := Lib.hid f2
   replace f3 := Lib.hid f3
   replace f4 := Lib.hid f4
   replace hx := Lib.hid hx
   replace hmx := Lib.hid hmx
   replace hnext := Lib.hid hnext
   replace hle := Lib.hid hle
   replace hq1 := Lib.hid hq1
   replace hBw := Lib.hid hBw
   replace hbs := Lib.hid hbs
   obtain ⟨lA, lc'⟩ := lc
   try dsimp only at hA
   subst hA
   have q1b : q1 ≤ most + t := by have := hq1.out; omega
   have hq1i : (q : Int) + (1 + (xn.size : Int)) = (q1 : Int) := by have := hq1.out; omega
   have q10 : 1 ≤ q1 := by have := hq1.out; omega
   replace hq1i := Lib.hid hq1i
   go_wp2_with fail
   try rw [hq1i.out]
   generalize wr.alloc (.cells #[.int .u8 xk, .string xn, .slice xA m xc, .int .i64 xb, .slice x1 xt.length x2, .slice x3 xe.length x4] 40) = Wx at *
   go_loopw [5, 25] (fun v5 v25 wr => ∃ (j p : Nat), v25 = .int .i64 j ∧ v5 = .int .i64 p ∧ j ≤ m ∧ 1 ≤ p ∧ ((p ≤ most ∨ W ≤ most) → p = wtL (ls.take k) + (1 + xn.size) + wtX (xx.take j)) ∧ p ≤ most + t ∧ Below Wx.heap.size Wx wr) (fun _ v25 _ => m - (intOf v25).toNat)
   case atStart => exact ⟨0, q1, rfl, rfl, Nat.zero_le _, q10, fun h => by have h2 := hq1.out; have h3 := hq (by omega); simp [wtX]; omega, q1b, Below.refl _ _⟩
   case round =>
    obtain ⟨j, p, rfl, rfl, hj, hp0, hp, hpm, hB5⟩ := hrel
    have j0 : 0 ≤ (j : Int) := by omega
    have pb : (p : Int) ≤ 300000000000000000 := by omega
    have hbsj := hbs.out.below hB5 hbs.out.lt
    have hBj := below_and hBw.out hB5
    have hBo := below_and hB hBj
    replace hBo := Lib.hid hBo
    by_cases hjl : j < m
    ·have hy : xx[j]? = some (xx[j]'(by have := hmx.out; omega)) := List.getElem?_eq_getElem (by have := hmx.out; omega)
     generalize xx[j]'(by have := hmx.out; omega) = y at hy
     obtain ⟨ad2, hA2, _, _, hyok, hcy⟩ := (Lex.ok.all (keeps_below hBj) p1.out).at hy
     have hymem := List.mem_of_getElem? hy
     have hnexty := wtX_take hy
     have hley := wtX_take_le xx (j + 1)
     have j1 : (j : Int) < (m : Int) := by omega
     obtain ⟨md, hmd⟩ : ∃ md, md = most - p := ⟨_, rfl⟩
     have hcall := fun w2 (hB2 : Below wr.heap.size wr w2) => fewE y md M w2 (by omega) hM (hyok.below hB2) (allX_iff.1 f2.out y hymem)
     obtain ⟨⟨yk, yo, yv, yw, yn⟩, ⟨yA, yc⟩, ys⟩ := y
     try dsimp only at hA2
     subst hA2
     obtain ⟨e0, e1, e2, e3, e4, e5⟩ := CellsAt.c6 hcy
     have hab2 := cell_lt e0
     have hB2 := (Below.refl _ wr).alloc (Nat.le_refl _) (.cells #[.int .u8 yk, .int .u8 yo, .int .u32 yv, .int .i64 yw, .string yn, .slice yA ys.length yc] 30)
     simp only [eT, aggX, Ex.cells] at e0 e1 e2 hcall
     have hcall2 := hcall _ hB2
     replace hcall2 := Lib.hid hcall2
     replace hB2 := Lib.hid hB2
     replace hy := Lib.hid hy
     replace hnexty := Lib.hid hnexty
     replace hley := Lib.hid hley
     replace hbsj := Lib.hid hbsj
     clear hcall hyok
     by_cases hgt : most < p
     ·have hg : (most : Int) < (p : Int) := by omega
      replace hmd := Lib.hid hmd
      go_wp2_with fail
      go_ret
      exact ⟨⟨p, rfl, fun h => by have h1 := hp h; have h2 := hnext.out; have h3 := hle.out; have h4 := hnexty.out; have h5 := hley.out; omega, hpm⟩, below_and hBo.out hB2.out⟩
     ·have hg : ¬ ((most : Int) < (p : Int)) := by omega
      have hmi : (most : Int) - (p : Int) = (md : Int) := by omega
      replace hmi := Lib.hid hmi
      have hmd' : p + md = most := by omega
      replace hmd' := Lib.hid hmd'
      replace hmd := Lib.hid hmd
      go_wp2_with fail
      rw [hmi.out]
      refine hcall2.out.mono ?_
      rintro e w2 ⟨⟨q2, rfl, hq2, hqm2⟩, hB3⟩
      have hB4 := below_and hB2.out hB3
      replace hB4 := Lib.hid hB4
      have q2b : (q2 : Int) ≤ 140737488500000 := by have := hmd'.out; omega
      go_wp2_with fail
      go_roundw
      case rel => exact ⟨j + 1, p + q2, by go_num, by go_num, by omega, by omega, fun h => by have h6 := hmd'.out; have h2 := hnext.out; have h3 := hle.out; have h4 := hnexty.out; have h5 := hley.out; have h1 := hp (by omega); have h7 := hq2 (by omega); omega, by have h6 := hmd'.out; have h8 := hK.out; omega, below_and hB5 hB4.out⟩
      case measure => simp [intOf]; omega
    ·obtain rfl : j = m := by omega
     have hjm : xx.take j = xx := List.take_of_length_le (by have := hmx.out; omega)
     rw [hjm] at hp
     replace hjm := Lib.hid hjm
     by_cases hgt : most < p
     ·have hg : (most : Int) < (p : Int) := by omega
      go_wp2_with fail
      go_ret
      exact ⟨⟨p, rfl, fun h => by have h1 := hp h; have h2 := hnext.out; have h3 := hle.out; omega, hpm⟩, hBo.out⟩
     ·have hg : ¬ ((most : Int) < (p : Int)) := by omega
      obtain ⟨md, hmd⟩ : ∃ md, md = most - p := ⟨_, rfl⟩
      have hmi : (most : Int) - (p : Int) = (md : Int) := by omega
      have hmd' : p + md = most := by omega
      have hcall := hc1.out md (by omega) _ hBj
      replace hmi := Lib.hid hmi
      replace hmd' := Lib.hid hmd'
      replace hmd := Lib.hid hmd
      replace hcall := Lib.hid hcall
      have e4 := hbsj.cell 4
      have e5 := hbsj.cell 5
      simp only [List.getElem?_toArray, List.getElem?_cons_zero, List.getElem?_cons_succ] at e4 e5
      go_wp2_with fail
      rw [hmi.out]
      refine hcall.out.mono ?_
      rintro e w2 ⟨⟨q2, rfl, hq2, hqm2⟩, hB3⟩
      clear e4 e5
      have hb2 := hbsj.below hB3 hbsj.lt
      have e5 := hb2.cell 5
      simp only [List.getElem?_toArray, List.getElem?_cons_zero, List.getElem?_cons_succ] at e5
      have hBj2 := below_and hBj hB3
      replace hBj2 := Lib.hid hBj2
      replace hb2 := Lib.hid hb2
      have q2b : (q2 : Int) ≤ 300000000000000000 := by have := hmd'.out; omega
      have hpm2 : p + q2 ≤ most + t := by have := hmd'.out; omega
      obtain ⟨p2, hp2⟩ : ∃ p2, p2 = p + q2 := ⟨_, rfl⟩
      have hpi : (p : Int) + (q2 : Int) = (p2 : Int) := by omega
      have hpe : (p2 ≤ most ∨ W ≤ most) → p2 = wtL (ls.take k) + (1 + xn.size) + wtX xx + wtL xt := fun h => by
       have h1 := hp (by omega)
       have h2 := hnext.out
       have h3 := hle.out
       have h4 := hmd'.out
       have h5 := hq2 (by omega)
       omega
      have hp22 : p2 ≤ most + t := by omega
      replace hpi := Lib.hid hpi
      replace hp2 := Lib.hid hp2
      replace hpe := Lib.hid hpe
      replace hq2 := Lib.hid hq2
      have hp21 : 1 ≤ p2 := by have := hp2.out; omega
      by_cases hgt2 : most < p2
      ·have hg2 : (most : Int) < (p : Int) + (q2 : Int) := by have := hpi.out; omega
       go_wp2_with fail
       go_ret
       rw [hpi.out]
       exact ⟨⟨p2, rfl, fun h => by have h1 := hpe.out h; have h2 := hnext.out; have h3 := hle.out; omega, hp22⟩, below_and (below_and hB hBj2.out) (Below.refl _ _)⟩
      ·have hg2 : ¬ ((most : Int) < (p : Int) + (q2 : Int)) := by have := hpi.out; omega
       obtain ⟨md2, hmd2⟩ : ∃ md, md = most - p2 := ⟨_, rfl⟩
       have hmi2 : (most : Int) - ((p : Int) + (q2 : Int)) = (md2 : Int) := by have := hpi.out; omega
       have hmd3 : p2 + md2 = most := by omega
       have hcall2 := hc2.out md2 (by omega) _ hBj2.out
       replace hmi2 := Lib.hid hmi2
       replace hmd2 := Lib.hid hmd2
       replace hmd3 := Lib.hid hmd3
       replace hcall2 := Lib.hid hcall2
       go_wp2_with fail
       rw [hmi2.out]
       refine hcall2.out.mono ?_
       rintro e w3 ⟨⟨q3, rfl, hq3, hqm3⟩, hB4⟩
       have hBj3 := below_and hBj2.out hB4
       have q3b : (q3 : Int) ≤ 300000000000000000 := by have := hmd3.out; omega
       replace hBj3 := Lib.hid hBj3
       clear e5
       go_wp2_with fail
       go_roundw
       case rel => exact ⟨k + 1, p2 + q3, by go_num, by (have := hpi.out; go_num), by omega, fun h => by have h1 := hpe.out (by omega); have h2 := hnext.out; have h3 := hle.out; have h4 := hmd3.out; have h5 := hq3 (by omega); omega, by have := hmd3.out; omega, below_and hB hBj3.out⟩
       case measure => simp [intOf]; omega
  ·obtain rfl : n = k := by omega
   have hkn : ls.take n = ls := List.take_of_length_le (by have := hn.out; omega)
   rw [hkn] at hq
   replace hkn := Lib.hid hkn
   go_wp2_with fail
   go_ret
   exact ⟨⟨q, rfl, fun h => (hq h).trans hW.out.symm, hqm'.out⟩, hB⟩
end Go.Proofs.YtnldbplphgfpeaaGreat
