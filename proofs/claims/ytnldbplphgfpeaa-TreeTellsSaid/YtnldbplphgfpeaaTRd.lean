/- The reference: when two lists of statements are the same. -/
import Derived.Test.YtnldbplphgfpeaaTRc
import Derived.Deep.DeepCutAuto
import Derived.Deep.RegionLaw
namespace Go.Proofs.Ytnldbplphgfpeaa
open Go Go.RowKit Go.Shelf
set_option linter.unusedVariables false
set_option linter.unusedSimpArgs false
set_option maxHeartbeats 8000000
theorem two_new (w : World) (t : Nat) (X Y : Array Value) : Blk ((w.alloc (.cells X t)).alloc (.cells Y t)).drew w.heap.size t X ∧ Blk ((w.alloc (.cells X t)).alloc (.cells Y t)).drew (w.heap.size + 1) t Y ∧ Below w.heap.size w ((w.alloc (.cells X t)).alloc (.cells Y t)).drew := by
  have h1 := (Blk.new w t X).alloc (.cells Y t)
  have h2 := Blk.new (w.alloc (.cells X t)) t Y
  rw [World.size_alloc] at h2
  exact ⟨h1, h2, (((Below.refl _ w).alloc (Nat.le_refl _) (.cells X t)).alloc (by simp) (.cells Y t)).drew⟩
set_option maxRecDepth 100000 in
theorem rsameS : ∀ (a : List (St Loc)) (la lb : Loc) (b : List (St Loc)) (w : World), Lst.ok eR w la a → Lst.ok eR w lb b →
    Calls Try.prog 83 #[.slice la.A a.length la.c, .slice lb.A b.length lb.c] w fun e w' => e = .returned (.bool (sameS a b)) ∧ Below w.heap.size w w' := by
  intro a
  induction a using St.list with
  | h a ih =>
  intro la lb b w ha hb
  have ha63 : (a.length : Int) ≤ 9223372036854775807 := by have h1 := ha.1.2.1; have h2 := ha.1.2.2.1; omega
  obtain ⟨n, hn⟩ : ∃ n, n = a.length := ⟨_, rfl⟩
  obtain ⟨n', hn'⟩ : ∃ n, n = b.length := ⟨_, rfl⟩
  rw [← hn] at ha63 ⊢
  rw [← hn']
  by_cases hl : n = n'
  · subst hl
    replace hn := Lib.hid hn
    replace hn' := Lib.hid hn'
    replace ih := Lib.hid ih
    obtain ⟨R, hR⟩ : ∃ R, R = sameS a b := ⟨_, rfl⟩
    rw [← hR]
    replace hR := Lib.hid hR
    have ha' := Lib.hid ha
    have hb' := Lib.hid hb
    clear ha hb
    go_enter Try.func83, Try.ntmps83
    go_wp2
    go_loopw [5] (fun i wr => ∃ k : Nat, i = .int .i64 k ∧ k ≤ n ∧ Below w.heap.size w wr ∧ ∀ (i : Nat) x y, i < k → a[i]? = some x → b[i]? = some y → x.same y = true) (fun i _ => n - (intOf i).toNat)
    case atStart => exact ⟨0, rfl, Nat.zero_le _, Below.refl _ _, fun i x y h => absurd h (by omega)⟩
    case round =>
      obtain ⟨k, rfl, hk, hB, hsm⟩ := hrel
      have k0 : 0 ≤ (k : Int) := by omega
      by_cases hlt : k < n
      · have hx : a[k]? = some (a[k]'(by have := hn.out; omega)) := List.getElem?_eq_getElem (by have := hn.out; omega)
        generalize a[k]'(by have := hn.out; omega) = x at hx
        have hy : b[k]? = some (b[k]'(by have := hn'.out; omega)) := List.getElem?_eq_getElem (by have := hn'.out; omega)
        generalize b[k]'(by have := hn'.out; omega) = y at hy
        obtain ⟨ad, hA, _, _, hxok, hcx⟩ := (ha'.out.all (keeps_below hB)).at hx
        obtain ⟨bd, hA', _, _, hyok, hcy⟩ := (hb'.out.all (keeps_below hB)).at hy
        have hmem := List.mem_of_getElem? hx
        have hi1 := (ih.out x hmem).1
        have hi2 := (ih.out x hmem).2
        have hres := sameS_false hx hy
        have hyes : x.same y = true → ∀ (i : Nat) u v, i < k + 1 → a[i]? = some u → b[i]? = some v → u.same v = true := fun hs i u v hi hu hv => by
          by_cases hik : i = k
          · subst hik
            rw [hx] at hu
            rw [hy] at hv
            cases hu
            cases hv
            exact hs
          · exact hsm i u v (by omega) hu hv
        obtain ⟨⟨xk, xn, xb⟩, ⟨xA, xc⟩, ⟨x1, x2⟩, ⟨x3, x4⟩, xx, xt, xe⟩ := x
        obtain ⟨⟨yk, yn, yb⟩, ⟨yA, yc⟩, ⟨y1, y2⟩, ⟨y3, y4⟩, yx, yt, ye⟩ := y
        have hsame : ∀ (u v : Loc), True := fun _ _ => trivial
        have hse : (St.mk ⟨xk, xn, xb⟩ (⟨xA, xc⟩ : Loc) ⟨x1, x2⟩ ⟨x3, x4⟩ xx xt xe).same (St.mk ⟨yk, yn, yb⟩ (⟨yA, yc⟩ : Loc) ⟨y1, y2⟩ ⟨y3, y4⟩ yx yt ye) = ((xk == yk && xn.toList == yn.toList && xb == yb) && (sames xx yx && (sameS xt yt && sameS xe ye))) := rfl
        rw [hse] at hres hyes
        clear hse hsame
        simp only [St.th, St.el] at hi1 hi2
        obtain ⟨c0, c1, c2, c3, c4, c5⟩ := CellsAt.c6 hcx
        obtain ⟨d0, d1, d2, d3, d4, d5⟩ := CellsAt.c6 hcy
        simp only [eR] at c0 c1 c2 c3 c4 c5 d0 d1 d2 d3 d4 d5
        obtain ⟨m, hmx⟩ : ∃ m, m = xx.length := ⟨_, rfl⟩
        obtain ⟨m', hmy⟩ : ∃ m, m = yx.length := ⟨_, rfl⟩
        rw [← hmx] at c2
        rw [← hmy] at d2
        obtain ⟨p1, p2, p3⟩ := hxok.parts
        obtain ⟨o1, o2, o3⟩ := hyok.parts
        have hm63 : (m : Int) ≤ 9223372036854775807 := by have h1 := p1.1.2.1; have h2 := p1.1.2.2.1; dsimp only at h1 h2; omega
        obtain ⟨lA, lc⟩ := la
        obtain ⟨lB, lc'⟩ := lb
        dsimp only at hA hA'
        subst hA
        subst hA'
        have k1 : (k : Int) < (n : Int) := by omega
        have hab := cell_lt c0
        have hbb := cell_lt d0
        obtain ⟨r1, hr1⟩ : ∃ r, r = sameS xt yt := ⟨_, rfl⟩
        obtain ⟨r2, hr2⟩ : ∃ r, r = sameS xe ye := ⟨_, rfl⟩
        obtain ⟨r3, hr3⟩ : ∃ r, r = sames xx yx := ⟨_, rfl⟩
        have hc1 := fun w2 (hB2 : Below wr.heap.size wr w2) => hi1 ⟨x1, x2⟩ ⟨y1, y2⟩ yt w2 (p2.all (keeps_below hB2)) (o2.all (keeps_below hB2))
        have hc2 := fun w2 (hB2 : Below wr.heap.size wr w2) => hi2 ⟨x3, x4⟩ ⟨y3, y4⟩ ye w2 (p3.all (keeps_below hB2)) (o3.all (keeps_below hB2))
        rw [← hr1] at hc1 hres hyes
        rw [← hr2] at hc2 hres hyes
        rw [← hr3] at hres hyes
        dsimp only at hc1 hc2
        obtain ⟨b1, e1⟩ : ∃ b1, (xk == yk) = b1 := ⟨_, rfl⟩
        obtain ⟨b2, e2⟩ : ∃ b2, (xn.toList == yn.toList) = b2 := ⟨_, rfl⟩
        obtain ⟨b3, e3⟩ : ∃ b3, (xb == yb) = b3 := ⟨_, rfl⟩
        obtain ⟨b4, e4⟩ : ∃ b4, ((m : Int) == (m' : Int)) = b4 := ⟨_, rfl⟩
        have hlen : b4 = false → r3 = false := fun h => by
          rw [h] at e4
          rw [hr3]
          cases hs : sames xx yx with
          | false => rfl
          | true =>
            have := sames_len hs
            simp at e4
            omega
        have hlen' : b4 = true → m = m' := fun h => by
          rw [h] at e4
          simp at e4
          omega
        have f1 := bne_of e1
        have f2 := bne_of e2
        have f3 := bne_of e3
        have f4 := bne_of e4
        rw [e1, e2, e3] at hres hyes
        have hW1 := (Below.refl _ wr).alloc (Nat.le_refl _) (.cells #[.int .i64 xk, .string xn, .slice xA m xc, .int .i64 xb, .slice x1 xt.length x2, .slice x3 xe.length x4] 140)
        clear hi1 hi2 hxok hyok hcx hcy hW1
        replace hr1 := Lib.hid hr1
        replace hr2 := Lib.hid hr2
        replace hr3 := Lib.hid hr3
        replace hc1 := Lib.hid hc1
        replace hc2 := Lib.hid hc2
        replace hres := Lib.hid hres
        replace hyes := Lib.hid hyes
        replace hx := Lib.hid hx
        replace hy := Lib.hid hy
        replace hsm := Lib.hid hsm
        replace hmx := Lib.hid hmx
        replace hmy := Lib.hid hmy
        replace p1 := Lib.hid p1
        replace o1 := Lib.hid o1
        replace hlen := Lib.hid hlen
        replace hlen' := Lib.hid hlen'
        replace hB := Lib.hid hB
        clear p2 p3 o2 o3
        have e1' := Lib.hid e1
        have e2' := Lib.hid e2
        have e3' := Lib.hid e3
        have e4' := Lib.hid e4
        have f1' := Lib.hid f1
        have f2' := Lib.hid f2
        have f3' := Lib.hid f3
        have f4' := Lib.hid f4
        clear e1 e2 e3 e4 f1 f2 f3 f4
        have hq1 : ∃ g1 g2, Value.pointer (some ⟨wr.heap.size, 0, none⟩) = .pointer (some ⟨g1, 0, none⟩) ∧ Value.pointer (some ⟨wr.heap.size + 1, 0, none⟩) = .pointer (some ⟨g2, 0, none⟩) ∧ Blk ((wr.alloc (.cells #[.int .i64 xk, .string xn, .slice xA m xc, .int .i64 xb, .slice x1 xt.length x2, .slice x3 xe.length x4] 140)).alloc (.cells #[.int .i64 yk, .string yn, .slice yA m' yc, .int .i64 yb, .slice y1 yt.length y2, .slice y3 ye.length y4] 140)).drew g1 140 #[.int .i64 xk, .string xn, .slice xA m xc, .int .i64 xb, .slice x1 xt.length x2, .slice x3 xe.length x4] ∧ Blk ((wr.alloc (.cells #[.int .i64 xk, .string xn, .slice xA m xc, .int .i64 xb, .slice x1 xt.length x2, .slice x3 xe.length x4] 140)).alloc (.cells #[.int .i64 yk, .string yn, .slice yA m' yc, .int .i64 yb, .slice y1 yt.length y2, .slice y3 ye.length y4] 140)).drew g2 140 #[.int .i64 yk, .string yn, .slice yA m' yc, .int .i64 yb, .slice y1 yt.length y2, .slice y3 ye.length y4] ∧ Below wr.heap.size wr ((wr.alloc (.cells #[.int .i64 xk, .string xn, .slice xA m xc, .int .i64 xb, .slice x1 xt.length x2, .slice x3 xe.length x4] 140)).alloc (.cells #[.int .i64 yk, .string yn, .slice yA m' yc, .int .i64 yb, .slice y1 yt.length y2, .slice y3 ye.length y4] 140)).drew := by
          obtain ⟨h1, h2, h3⟩ := two_new wr 140 #[.int .i64 xk, .string xn, .slice xA m xc, .int .i64 xb, .slice x1 xt.length x2, .slice x3 xe.length x4] #[.int .i64 yk, .string yn, .slice yA m' yc, .int .i64 yb, .slice y1 yt.length y2, .slice y3 ye.length y4]
          exact ⟨_, _, rfl, rfl, h1, h2, h3⟩
        have hq2 : ∃ g1 g2, Value.pointer (some ⟨wr.heap.size + 1, 0, none⟩) = .pointer (some ⟨g1, 0, none⟩) ∧ Value.pointer (some ⟨wr.heap.size, 0, none⟩) = .pointer (some ⟨g2, 0, none⟩) ∧ Blk ((wr.alloc (.cells #[.int .i64 yk, .string yn, .slice yA m' yc, .int .i64 yb, .slice y1 yt.length y2, .slice y3 ye.length y4] 140)).alloc (.cells #[.int .i64 xk, .string xn, .slice xA m xc, .int .i64 xb, .slice x1 xt.length x2, .slice x3 xe.length x4] 140)).drew g1 140 #[.int .i64 xk, .string xn, .slice xA m xc, .int .i64 xb, .slice x1 xt.length x2, .slice x3 xe.length x4] ∧ Blk ((wr.alloc (.cells #[.int .i64 yk, .string yn, .slice yA m' yc, .int .i64 yb, .slice y1 yt.length y2, .slice y3 ye.length y4] 140)).alloc (.cells #[.int .i64 xk, .string xn, .slice xA m xc, .int .i64 xb, .slice x1 xt.length x2, .slice x3 xe.length x4] 140)).drew g2 140 #[.int .i64 yk, .string yn, .slice yA m' yc, .int .i64 yb, .slice y1 yt.length y2, .slice y3 ye.length y4] ∧ Below wr.heap.size wr ((wr.alloc (.cells #[.int .i64 yk, .string yn, .slice yA m' yc, .int .i64 yb, .slice y1 yt.length y2, .slice y3 ye.length y4] 140)).alloc (.cells #[.int .i64 xk, .string xn, .slice xA m xc, .int .i64 xb, .slice x1 xt.length x2, .slice x3 xe.length x4] 140)).drew := by
          obtain ⟨h1, h2, h3⟩ := two_new wr 140 #[.int .i64 yk, .string yn, .slice yA m' yc, .int .i64 yb, .slice y1 yt.length y2, .slice y3 ye.length y4] #[.int .i64 xk, .string xn, .slice xA m xc, .int .i64 xb, .slice x1 xt.length x2, .slice x3 xe.length x4]
          exact ⟨_, _, rfl, rfl, h2, h1, h3⟩
        replace hq1 := Lib.hid hq1
        replace hq2 := Lib.hid hq2
        go_upto_region 6 with (fail)
        go_cut [6, 7] (fun v6 v7 wx => ∃ g1 g2, v6 = .pointer (some ⟨g1, 0, none⟩) ∧ v7 = .pointer (some ⟨g2, 0, none⟩) ∧ Blk wx g1 140 #[.int .i64 xk, .string xn, .slice xA m xc, .int .i64 xb, .slice x1 xt.length x2, .slice x3 xe.length x4] ∧ Blk wx g2 140 #[.int .i64 yk, .string yn, .slice yA m' yc, .int .i64 yb, .slice y1 yt.length y2, .slice y3 ye.length y4] ∧ Below wr.heap.size wr wx)
        case first =>
          go_region_law (fail)
          all_goals (go_wp2_with fail; go_meet; first | exact hq1.out | exact hq2.out)
        case rest =>
          clear hq1 hq2 c0 c1 c2 c3 c4 c5 d0 d1 d2 d3 d4 d5 hab hbb
          obtain ⟨g1, g2, rfl, rfl, hx1, hx2, hBw⟩ := hcut
          rename World => W0
          have hB0 := Lib.hid (below_and hB.out hBw)
          have l1 := hx1.lt
          have l2 := hx2.lt
          have z0 := hx1.cell 0
          have z1 := hx1.cell 1
          have z2 := hx1.cell 2
          have z3 := hx1.cell 3
          have z4 := hx1.cell 4
          have u0 := hx2.cell 0
          have u1 := hx2.cell 1
          have u2 := hx2.cell 2
          have u3 := hx2.cell 3
          have u4 := hx2.cell 4
          simp only [List.getElem?_toArray, List.getElem?_cons_zero, List.getElem?_cons_succ] at z0 z1 z2 z3 z4 u0 u1 u2 u3 u4
          have hx1' := Lib.hid hx1
          have hx2' := Lib.hid hx2
          have hc1' := Lib.hid (hc1.out _ hBw)
          have hBw' := Lib.hid hBw
          clear hx1 hx2 hBw
          have e1 := e1'.out
          have e2 := e2'.out
          have e3 := e3'.out
          have e4 := e4'.out
          have f1 := f1'.out
          have f2 := f2'.out
          have f3 := f3'.out
          have f4 := f4'.out
          clear e1' e2' e3' e4' f1' f2' f3' f4'
          cases b1
          · have hRf := Lib.hid (hres.out (by simp))
            simp only [Bool.not_false] at f1
            go_wp2
            go_ret
            exact ⟨ret_b (hR.out.trans hRf.out).symm, hB0.out⟩
          cases b2
          · have hRf := Lib.hid (hres.out (by simp))
            simp only [Bool.not_false, Bool.not_true] at f1 f2
            go_wp2
            go_ret
            exact ⟨ret_b (hR.out.trans hRf.out).symm, hB0.out⟩
          cases b3
          · have hRf := Lib.hid (hres.out (by simp))
            simp only [Bool.not_false, Bool.not_true] at f1 f2 f3
            go_wp2
            go_ret
            exact ⟨ret_b (hR.out.trans hRf.out).symm, hB0.out⟩
          cases b4
          · have hRf := Lib.hid (hres.out (by rw [hlen.out rfl]; simp))
            simp only [Bool.not_false, Bool.not_true] at f1 f2 f3 f4
            clear hlen hlen'
            go_wp2
            go_ret
            exact ⟨ret_b (hR.out.trans hRf.out).symm, hB0.out⟩
          have hmm := hlen'.out rfl
          subst hmm
          clear hlen hlen'
          simp only [Bool.not_true] at f1 f2 f3 f4
          go_wp2_with fail
          refine hc1'.out.mono ?_
          rintro e V1 ⟨rfl, hB1⟩
          clear z0 z1 z2 z3 z4 u0 u1 u2 u3 u4
          have hB01 := Lib.hid (below_and hB0.out hB1)
          have hw1 := below_and hBw'.out hB1
          have hx11 := hx1'.out.below hB1 hx1'.out.lt
          have hx21 := hx2'.out.below hB1 hx2'.out.lt
          cases r1
          · have hRf := Lib.hid (hres.out (by simp))
            clear hx11 hx21 hw1
            go_wp2
            go_ret
            exact ⟨ret_b (hR.out.trans hRf.out).symm, hB01.out⟩
          have hc2' := Lib.hid (hc2.out _ hw1)
          have l3 := hx11.lt
          have l4 := hx21.lt
          have z5 := hx11.cell 5
          have u5 := hx21.cell 5
          simp only [List.getElem?_toArray, List.getElem?_cons_zero, List.getElem?_cons_succ] at z5 u5
          replace hx11 := Lib.hid hx11
          replace hx21 := Lib.hid hx21
          replace hw1 := Lib.hid hw1
          go_wp2_with fail
          refine hc2'.out.mono ?_
          rintro e V2 ⟨rfl, hB2⟩
          have hB02 := Lib.hid (below_and hB01.out hB2)
          cases r2
          · have hRf := Lib.hid (hres.out (by simp))
            clear z5 u5
            go_wp2
            go_ret
            exact ⟨ret_b (hR.out.trans hRf.out).symm, hB02.out⟩
          have hw2 := Lib.hid (below_and hw1.out hB2)
          have hx12 := Lib.hid (hx11.out.below hB2 hx11.out.lt)
          have hx22 := Lib.hid (hx21.out.below hB2 hx21.out.lt)
          clear z5 u5 hx1' hx2' hx11 hx21 hc1' hc2' l1 l2 l3 l4 hB2 hB1
          go_wp2_with fail
          obtain ⟨Wo, hWo⟩ : ∃ x, x = wr := ⟨_, rfl⟩
          subst hWo
          go_loopw [8] (fun i wr => ∃ j : Nat, i = .int .i64 j ∧ j ≤ m ∧ Below V2.heap.size V2 wr ∧ ∀ (i : Nat) x y, i < j → xx[i]? = some x → yx[i]? = some y → x.same y = true) (fun i _ => m - (intOf i).toNat)
          case atStart => exact ⟨0, rfl, Nat.zero_le _, Below.refl _ _, fun i x y h => absurd h (by omega)⟩
          case round =>
            obtain ⟨j, rfl, hj, hB3, hsj⟩ := hrel
            have j0 : 0 ≤ (j : Int) := by omega
            have hBz := Lib.hid (below_and hB02.out hB3)
            have hx13 := hx12.out.below hB3 hx12.out.lt
            have hx23 := hx22.out.below hB3 hx22.out.lt
            have l1 := hx13.lt
            have l2 := hx23.lt
            have z2 := hx13.cell 2
            simp only [List.getElem?_toArray, List.getElem?_cons_zero, List.getElem?_cons_succ] at z2
            have hC0 : ∀ x : Ext wr, x.w.cell? ⟨g1, 2, none⟩ = some (.slice xA m xc) := fun x => (hx13.below x.below l1).cell 2
            have hC1 : ∀ x : Ext wr, x.w.cell? ⟨g2, 2, none⟩ = some (.slice yA m yc) := fun x => (hx23.below x.below l2).cell 2
            clear hx13 hx23
            by_cases hjl : j < m
            · have hu : xx[j]? = some (xx[j]'(by have := hmx.out; omega)) := List.getElem?_eq_getElem (by have := hmx.out; omega)
              generalize xx[j]'(by have := hmx.out; omega) = u at hu
              have hv : yx[j]? = some (yx[j]'(by have := hmy.out; omega)) := List.getElem?_eq_getElem (by have := hmy.out; omega)
              generalize yx[j]'(by have := hmy.out; omega) = v at hv
              have hwj := below_and hw2.out hB3
              obtain ⟨ad2, hA, _, _, huok, hcu⟩ := (Lex.ok.all (keeps_below hwj) p1.out).at hu
              obtain ⟨bd2, hA', _, _, hvok, hcv⟩ := (Lex.ok.all (keeps_below hwj) o1.out).at hv
              have hcall := fun w2 (hB2 : Below wr.heap.size wr w2) => rsameE u v w2 (huok.below hB2) (hvok.below hB2)
              have hresj := sames_false hu hv
              obtain ⟨r, hr⟩ : ∃ r, r = u.same v := ⟨_, rfl⟩
              rw [← hr] at hcall hresj
              replace hr := Lib.hid hr
              replace hu := Lib.hid hu
              replace hv := Lib.hid hv
              replace hsj := Lib.hid hsj
              replace hresj := Lib.hid hresj
              obtain ⟨⟨pk, po, pv, pw, pn⟩, ⟨uA, uc⟩, us⟩ := u
              obtain ⟨⟨qk, qo, qv, qw, qn⟩, ⟨vA, vc⟩, vs⟩ := v
              obtain ⟨c0, c1, c2, c3, c4, c5⟩ := CellsAt.c6 hcu
              obtain ⟨d0, d1, d2, d3, d4, d5⟩ := CellsAt.c6 hcv
              simp only [aggRX, Ex.cells, eR] at c0 c1 c2 c3 c4 c5 d0 d1 d2 d3 d4 d5 hcall
              dsimp only at hA hA'
              subst hA
              subst hA'
              have j1 : (j : Int) < (m : Int) := by omega
              have hab := cell_lt c0
              have hbb := cell_lt d0
              have hX : ∀ x : Ext wr, Calls Try.prog 82 #[.agg #[.int .i64 pk, .int .i64 po, .int .i64 pv, .int .i64 pw, .string pn, .slice uA us.length uc], .agg #[.int .i64 qk, .int .i64 qo, .int .i64 qv, .int .i64 qw, .string qn, .slice vA vs.length vc]] x.w fun e w' => e = .returned (.bool r) ∧ Below x.w.heap.size x.w w' := fun x => hcall x.w x.below
              have C0 := fun x : Ext wr => x.cell c0 hab
              have C1 := fun x : Ext wr => x.cell c1 hab
              have C2 := fun x : Ext wr => x.cell c2 hab
              have C3 := fun x : Ext wr => x.cell c3 hab
              have C4 := fun x : Ext wr => x.cell c4 hab
              have C5 := fun x : Ext wr => x.cell c5 hab
              have D0 := fun x : Ext wr => x.cell d0 hbb
              have D1 := fun x : Ext wr => x.cell d1 hbb
              have D2 := fun x : Ext wr => x.cell d2 hbb
              have D3 := fun x : Ext wr => x.cell d3 hbb
              have D4 := fun x : Ext wr => x.cell d4 hbb
              have D5 := fun x : Ext wr => x.cell d5 hbb
              clear hcall c0 c1 c2 c3 c4 c5 d0 d1 d2 d3 d4 d5
              replace hX := Lib.hid hX
              go_wp2_with fail
              refine wp_region_grown (by kernel_rfl) (by kernel_rfl) (by kernel_rfl) ?_
              repeat (go_big_quiet_step (first | (go_at_call 82; with_reducible exact grown_of (hX.out _))))
              refine wpQuiet_nil ?_
              rintro _ ⟨x, rfl⟩
              have hB5 := Lib.hid (below_and hB3 x.below)
              cases r
              · have hRf := Lib.hid (hres.out (by rw [hr3.out, hresj.out rfl]; simp))
                clear hresj
                go_wp2
                go_ret
                exact ⟨ret_b (hR.out.trans hRf.out).symm, below_and hBz.out x.below⟩
              · clear hresj
                go_wp2
                go_roundw
                case rel =>
                  refine ⟨j + 1, by go_num, by omega, hB5.out, fun i x y hi hx' hy' => ?_⟩
                  by_cases hij : i = j
                  · subst hij
                    rw [hu.out] at hx'
                    rw [hv.out] at hy'
                    cases hx'
                    cases hy'
                    exact hr.out.symm
                  · exact hsj.out i x y (by omega) hx' hy'
                case measure => simp [intOf]; omega
            · obtain rfl : j = m := by omega
              have hrt : r3 = true := by
                rw [hr3.out]
                refine (sames_at xx yx (by rw [← hmx.out, ← hmy.out])).2 fun i x y hx hy => hsj i x y ?_ hx hy
                have := (List.getElem?_eq_some_iff.1 hx).1
                have := hmx.out
                omega
              have hnx := Lib.hid (hyes.out (by rw [hrt]; simp))
              replace hsj := Lib.hid hsj
              replace hrt := Lib.hid hrt
              clear hC0 hC1
              go_wp2_with fail
              go_roundw
              case rel => exact ⟨k + 1, by go_num, by omega, hBz.out, hnx.out⟩
              case measure => simp [intOf]; omega
      · obtain rfl : k = n := by omega
        have hRt : R = true := by
          rw [hR.out]
          refine (sameS_at a b (by rw [← hn.out, ← hn'.out])).2 fun i x y hx hy => hsm i x y ?_ hx hy
          have := (List.getElem?_eq_some_iff.1 hx).1
          have := hn.out
          omega
        replace hRt := Lib.hid hRt
        replace hsm := Lib.hid hsm
        go_wp2
        go_ret
        exact ⟨ret_b hRt.out.symm, hB⟩
  · have hRf : sameS a b = false := by
      cases hs : sameS a b with
      | false => rfl
      | true => exact absurd (by rw [hn, hn']; exact sameS_len hs) hl
    rw [hRf]
    have h1 : ((n : Int) == (n' : Int)) = false := by simp; omega
    have h2 : ((n : Int) != (n' : Int)) = true := by simp; omega
    have hl' := Lib.hid hl
    clear hl
    replace hn := Lib.hid hn
    replace hn' := Lib.hid hn'
    replace hRf := Lib.hid hRf
    go_enter Try.func83, Try.ntmps83
    go_wp2
    go_ret
    exact ⟨rfl, Below.refl _ _⟩
end Go.Proofs.Ytnldbplphgfpeaa
