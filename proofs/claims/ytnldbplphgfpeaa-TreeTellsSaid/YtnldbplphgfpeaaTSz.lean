/- Trees: sizes of expressions and statements; when two are the same. -/
import Derived.Test.YtnldbplphgfpeaaTCn
namespace Go.Proofs.Ytnldbplphgfpeaa
open Go Go.RowKit Go.Shelf
set_option linter.unusedVariables false
set_option linter.unusedSimpArgs false
set_option maxHeartbeats 4000000
theorem light_yes (n : Int) (h : n ≤ 20000) (w : World) : Calls Try.prog 40 #[.int .i64 n] w fun e w' => e = .returned (.bool true) ∧ w = w' := by
  go_enter Try.func40, Try.ntmps40
  go_wp2
  go_ret
  exact ⟨rfl, rfl⟩
theorem light_no (n : Int) (h : 20000 < n) (w : World) : Calls Try.prog 40 #[.int .i64 n] w fun e w' => e = .returned (.bool false) ∧ w = w' := by
  have h' : ¬ n ≤ 20000 := by omega
  go_enter Try.func40, Try.ntmps40
  go_wp2
  go_ret
  exact ⟨rfl, rfl⟩
theorem sized_yes (n : Int) (h : n ≤ 20000) (w : World) : Calls Try.prog 50 #[.int .i64 n] w fun e w' => e = .returned (.int .i64 n) ∧ w = w' := by
  go_enter Try.func50, Try.ntmps50
  go_wp2_with (go_at_call 40; refine (light_yes n h _).mono ?_; rintro e w' ⟨rfl, rfl⟩)
  go_ret
  exact ⟨rfl, rfl⟩
theorem sized_no (n : Int) (h : 20000 < n) (w : World) : Calls Try.prog 50 #[.int .i64 n] w fun e w' => e = .returned (.int .i64 0) ∧ w = w' := by
  go_enter Try.func50, Try.ntmps50
  go_wp2_with (go_at_call 40; refine (light_no n h _).mono ?_; rintro e w' ⟨rfl, rfl⟩)
  go_ret
  exact ⟨rfl, rfl⟩
theorem capE_yes {b s : Nat} (h : b + s ≤ 20000) : capE b s = b + s := by unfold capE; omega
theorem capE_no {b s : Nat} (h : 20000 < b + s) : 20000 < capE b s := by unfold capE; omega
theorem countE0 (e : Ex Loc) (w : World) (hok : e.ok eT w) : Calls Try.prog 51 #[aggX e, .int .i64 0] w fun r w' => r = .returned (.int .i64 (capE 0 e.sz : Nat)) ∧ Below w.heap.size w w' := countE e 0 (by omega) w hok
theorem countS0 (ls : List (St Loc)) (lc : Loc) (hthin : Thin ls) (w : World) (hok : Lst.ok eT w lc ls) :
    Calls Try.prog 52 #[.slice lc.A ls.length lc.c, .int .i64 0] w fun r w' => r = .returned (.int .i64 (cntL (nodesS ls) 0 : Nat)) ∧ Below w.heap.size w w' := countS ls lc 0 (by omega) hthin w hok
theorem sizeE (e : Ex Loc) (w : World) (hok : e.ok eT w) (n : Nat) (hn : n = if e.sz ≤ 20000 then e.sz else 0) : Calls Try.prog 14 #[aggX e] w fun r w' => r = .returned (.int .i64 (n : Nat)) ∧ Below w.heap.size w w' := by
  have hB := (Below.refl _ w).alloc (Nat.le_refl _) (.cells (e.cells eT).toArray 30)
  have hc := countE0 e _ (hok.below hB)
  have hs : ∀ w', Calls Try.prog 50 #[.int .i64 (capE 0 e.sz : Nat)] w' fun r w'' => r = .returned (.int .i64 (n : Nat)) ∧ w' = w'' := fun w' => by
    by_cases h : e.sz ≤ 20000
    · have h1 : capE 0 e.sz = n := by rw [hn, if_pos h, capE_yes (by omega)]; omega
      rw [h1]
      exact sized_yes _ (by rw [hn, if_pos h]; omega) _
    · have h1 := capE_no (b := 0) (s := e.sz) (by omega)
      rw [hn, if_neg h]
      exact sized_no _ (by omega) _
  obtain ⟨⟨xk, xo, xv, xw, xn⟩, ⟨xA, xc⟩, xs⟩ := e
  obtain ⟨c, hcc⟩ : ∃ c, c = capE 0 (Ex.mk ⟨xk, xo, xv, xw, xn⟩ ⟨xA, xc⟩ xs).sz := ⟨_, rfl⟩
  rw [← hcc] at hc hs
  replace hn := Lib.hid hn
  replace hcc := Lib.hid hcc
  simp only [aggX, Ex.cells, eT] at hc hB ⊢
  replace hc := Lib.hid hc
  replace hs := Lib.hid hs
  go_enter Try.func14, Try.ntmps14
  go_wp2_with (first | (go_at_call 51; with_reducible refine hc.out.mono ?_; rintro e w' ⟨rfl, hB2⟩) | (go_at_call 50; refine (hs.out _).mono ?_; rintro e w2 ⟨rfl, rfl⟩))
  go_ret
  exact ⟨rfl, hB.trans (hB2.mono hB.size)⟩
theorem sizeS (ls : List (St Loc)) (lc : Loc) (hthin : Thin ls) (w : World) (hok : Lst.ok eT w lc ls) (n : Nat) (hn : n = if szS ls ≤ 20000 then szS ls else 0) :
    Calls Try.prog 15 #[.slice lc.A ls.length lc.c] w fun r w' => r = .returned (.int .i64 (n : Nat)) ∧ Below w.heap.size w w' := by
  have hc := countS0 ls lc hthin w hok
  have hs : ∀ w', Calls Try.prog 50 #[.int .i64 (cntL (nodesS ls) 0 : Nat)] w' fun r w'' => r = .returned (.int .i64 (n : Nat)) ∧ w' = w'' := fun w' => by
    by_cases h : szS ls ≤ 20000
    · have h1 : cntL (nodesS ls) 0 = n := by rw [hn, if_pos h, cntL_exact _ _ (by rw [wt_nodesS]; omega), wt_nodesS]; omega
      rw [h1]
      exact sized_yes _ (by rw [hn, if_pos h]; omega) _
    · have h1 := cntL_more (nodesS ls) 0 (by rw [wt_nodesS]; omega)
      rw [hn, if_neg h]
      exact sized_no _ (by omega) _
  obtain ⟨c, hcc⟩ : ∃ c, c = cntL (nodesS ls) 0 := ⟨_, rfl⟩
  rw [← hcc] at hc hs
  replace hn := Lib.hid hn
  replace hcc := Lib.hid hcc
  replace hc := Lib.hid hc
  replace hs := Lib.hid hs
  generalize ls.length = q at *
  go_enter Try.func15, Try.ntmps15
  go_wp2_with (first | (go_at_call 52; with_reducible refine hc.out.mono ?_; rintro e w' ⟨rfl, hB2⟩) | (go_at_call 50; refine (hs.out _).mono ?_; rintro e w2 ⟨rfl, rfl⟩))
  go_ret
  exact ⟨rfl, hB2⟩
theorem thin_of {α : Type} {l : List (St α)} (h : szS l ≤ 20000) : Thin l := fun s hs => by
  have h1 : 1 + szs s.ex ≤ wtS (nodesS l) := by
    have : ∀ (N : List (St α)), s ∈ N → 1 + szs s.ex ≤ wtS N := by
      intro N
      induction N with
      | nil => intro h; cases h
      | cons x N ih =>
        intro h
        simp only [wtS, List.map_cons, List.sum_cons] at ih ⊢
        rcases List.mem_cons.1 h with e | h
        · rw [e]; omega
        · have := ih h; omega
    exact this _ hs
  rw [wt_nodesS] at h1
  have := szs_len s.ex
  omega
theorem ret_b {a b : Bool} (h : a = b) : Ending.returned (.bool a) = .returned (.bool b) := by rw [h]
/-- What sameExpr answers. -/
def SameE (a : Ex Loc) : Prop := ∀ (b : Ex Loc) (w : World), a.ok eT w → b.ok eT w → Calls Try.prog 44 #[aggX a, aggX b] w fun e w' => e = .returned (.bool (a.same b)) ∧ Below w.heap.size w w'
theorem sames_false {α β : Type} {a : List (Ex α)} {b : List (Ex β)} {k : Nat} {x : Ex α} {y : Ex β} (hx : a[k]? = some x) (hy : b[k]? = some y) (h : x.same y = false) : sames a b = false := by
  cases hs : sames a b with
  | false => rfl
  | true => rw [(sames_at a b (sames_len hs)).1 hs k x y hx hy] at h; cases h
set_option maxRecDepth 100000 in
theorem equalE (la lb : Loc) (a b : List (Ex Loc)) (hall : ∀ x ∈ a, SameE x) (w : World) (ha : Lex.ok eT w la a) (hb : Lex.ok eT w lb b) :
    Calls Try.prog 72 #[.slice la.A a.length la.c, .slice lb.A b.length lb.c, .func (.func 44) #[] #[]] w fun e w' => e = .returned (.bool (sames a b)) ∧ Below w.heap.size w w' := by
  have ha63 : (a.length : Int) ≤ 9223372036854775807 := by have h1 := ha.1.2.1; have h2 := ha.1.2.2.1; omega
  obtain ⟨n, hn⟩ : ∃ n, n = a.length := ⟨_, rfl⟩
  obtain ⟨n', hn'⟩ : ∃ n, n = b.length := ⟨_, rfl⟩
  rw [← hn] at ha63 ⊢
  rw [← hn']
  by_cases hl : n = n'
  · subst hl
    replace hn := Lib.hid hn
    replace hn' := Lib.hid hn'
    obtain ⟨R, hR⟩ : ∃ R, R = sames a b := ⟨_, rfl⟩
    rw [← hR]
    replace hR := Lib.hid hR
    go_enter Try.func72, Try.ntmps72
    go_wp2
    go_loopw [17] (fun i wr => ∃ k : Nat, i = .int .i64 k ∧ k ≤ n ∧ Below w.heap.size w wr ∧ ∀ (i : Nat) x y, i < k → a[i]? = some x → b[i]? = some y → x.same y = true) (fun i _ => n - (intOf i).toNat)
    case atStart => exact ⟨0, rfl, Nat.zero_le _, Below.refl _ _, fun i x y h => absurd h (by omega)⟩
    case round =>
      obtain ⟨k, rfl, hk, hB, hsm⟩ := hrel
      have k0 : 0 ≤ (k : Int) := by omega
      by_cases hlt : k < n
      · have hx : a[k]? = some (a[k]'(by have := hn.out; omega)) := List.getElem?_eq_getElem (by have := hn.out; omega)
        generalize a[k]'(by have := hn.out; omega) = x at hx
        have hy : b[k]? = some (b[k]'(by have := hn'.out; omega)) := List.getElem?_eq_getElem (by have := hn'.out; omega)
        generalize b[k]'(by have := hn'.out; omega) = y at hy
        obtain ⟨ad, hA, _, _, hxok, hcx⟩ := (ha.all (keeps_below hB)).at hx
        obtain ⟨bd, hA', _, _, hyok, hcy⟩ := (hb.all (keeps_below hB)).at hy
        have hcall := fun w2 (hB2 : Below wr.heap.size wr w2) => hall x (List.mem_of_getElem? hx) y w2 (hxok.below hB2) (hyok.below hB2)
        have hres := sames_false hx hy
        obtain ⟨r, hr⟩ : ∃ r, r = x.same y := ⟨_, rfl⟩
        rw [← hr] at hcall hres
        replace hr := Lib.hid hr
        replace hx := Lib.hid hx
        replace hy := Lib.hid hy
        replace hsm := Lib.hid hsm
        replace hres := Lib.hid hres
        obtain ⟨⟨xk, xo, xv, xw, xn⟩, ⟨xA, xc⟩, xs⟩ := x
        obtain ⟨⟨yk, yo, yv, yw, yn⟩, ⟨yA, yc⟩, ys⟩ := y
        obtain ⟨c0, c1, c2, c3, c4, c5⟩ := CellsAt.c6 hcx
        obtain ⟨d0, d1, d2, d3, d4, d5⟩ := CellsAt.c6 hcy
        simp only [aggX, Ex.cells, eT] at c0 c1 c2 c3 c4 c5 d0 d1 d2 d3 d4 d5 hcall
        obtain ⟨lA, lc⟩ := la
        obtain ⟨lB, lc'⟩ := lb
        dsimp only at hA hA'
        subst hA
        subst hA'
        have k1 : (k : Int) < (n : Int) := by omega
        have hab := cell_lt c0
        have hbb := cell_lt d0
        have hB4 : Below wr.heap.size wr ((wr.alloc (.cells #[.int .u8 xk, .int .u8 xo, .int .u32 xv, .int .i64 xw, .string xn, .slice xA xs.length xc] 30)).alloc (.cells #[.int .u8 yk, .int .u8 yo, .int .u32 yv, .int .i64 yw, .string yn, .slice yA ys.length yc] 30)) := ((Below.refl _ _).alloc (Nat.le_refl _) _).alloc (by simp) _
        have hcall := Lib.hid (hcall _ hB4)
        go_wp2_with (go_at_call 44; with_reducible refine hcall.out.mono ?_; rintro e w5 ⟨rfl, hB5⟩; cases r)
        · go_ret
          refine ⟨ret_b ((hR.out.trans (hres.out (by simp))).symm), hB.trans ((hB4.trans (hB5.mono hB4.size)).mono hB.size)⟩
        · go_roundw
          case rel =>
            refine ⟨k + 1, by go_num, by omega, hB.trans ((hB4.trans (hB5.mono hB4.size)).mono hB.size), fun i x y hi hx' hy' => ?_⟩
            by_cases hik : i = k
            · subst hik
              rw [hx.out] at hx'
              rw [hy.out] at hy'
              cases hx'
              cases hy'
              exact hr.out.symm
            · exact hsm.out i x y (by omega) hx' hy'
          case measure => simp [intOf]; omega
      · obtain rfl : k = n := by omega
        have hRt : R = true := by
          rw [hR.out]
          refine (sames_at a b (by rw [← hn.out, ← hn'.out])).2 fun i x y hx hy => hsm i x y ?_ hx hy
          have := (List.getElem?_eq_some_iff.1 hx).1
          have := hn.out
          omega
        replace hRt := Lib.hid hRt
        replace hsm := Lib.hid hsm
        go_wp2
        go_ret
        exact ⟨ret_b hRt.out.symm, hB⟩
  · have hRf : sames a b = false := by
      cases hs : sames a b with
      | false => rfl
      | true => exact absurd (by rw [hn, hn']; exact sames_len hs) hl
    rw [hRf]
    have h1 : ((n : Int) == (n' : Int)) = false := by simp; omega
    have h2 : ((n : Int) != (n' : Int)) = true := by simp; omega
    have hl' := Lib.hid hl
    clear hl
    replace hn := Lib.hid hn
    replace hn' := Lib.hid hn'
    replace hRf := Lib.hid hRf
    go_enter Try.func72, Try.ntmps72
    go_wp2
    go_ret
    exact ⟨rfl, Below.refl _ _⟩
set_option maxRecDepth 100000 in
theorem sameE : ∀ a : Ex Loc, SameE a := by
  intro a
  induction a using Ex.ind with
  | h ha la sa ih =>
  intro b w hoa hob
  obtain ⟨hb, lb, sb⟩ := b
  have hB : Below w.heap.size w ((w.alloc (.cells ((Ex.mk ha la sa).cells eT).toArray 30)).alloc (.cells ((Ex.mk hb lb sb).cells eT).toArray 30)) := ((Below.refl _ _).alloc (Nat.le_refl _) _).alloc (by simp) _
  have hcall := equalE la lb sa sb ih _ (Lex.ok.all (keeps_below hB) hoa) (Lex.ok.all (keeps_below hB) hob)
  have hsame : (Ex.mk ha la sa).same (Ex.mk hb lb sb) = (ha.eq hb && sames sa sb) := rfl
  rw [hsame]
  simp only [Hd.eq]
  obtain ⟨R, hR⟩ : ∃ R, R = sames sa sb := ⟨_, rfl⟩
  rw [← hR] at hcall ⊢
  replace hR := Lib.hid hR
  obtain ⟨xk, xo, xv, xw, xn⟩ := ha
  obtain ⟨yk, yo, yv, yw, yn⟩ := hb
  obtain ⟨lA, lc⟩ := la
  obtain ⟨lB, lc'⟩ := lb
  simp only [aggX, Ex.cells, eT] at hcall hB ⊢
  replace hcall := Lib.hid hcall
  obtain ⟨b1, e1⟩ : ∃ b1, (xk == yk) = b1 := ⟨_, rfl⟩
  obtain ⟨b2, e2⟩ : ∃ b2, (xo == yo) = b2 := ⟨_, rfl⟩
  obtain ⟨b3, e3⟩ : ∃ b3, (xv == yv) = b3 := ⟨_, rfl⟩
  obtain ⟨b4, e4⟩ : ∃ b4, (xw == yw) = b4 := ⟨_, rfl⟩
  obtain ⟨b5, e5⟩ : ∃ b5, (xn.toList == yn.toList) = b5 := ⟨_, rfl⟩
  rw [e1, e2, e3, e4, e5]
  cases b1
  · simp only [Bool.false_and, Bool.and_false]
    go_enter Try.func44, Try.ntmps44
    go_wp2
    go_ret
    exact ⟨rfl, hB⟩
  cases b2
  · simp only [Bool.false_and, Bool.and_false]
    go_enter Try.func44, Try.ntmps44
    go_wp2
    go_ret
    exact ⟨rfl, hB⟩
  cases b3
  · simp only [Bool.false_and, Bool.and_false]
    go_enter Try.func44, Try.ntmps44
    go_wp2
    go_ret
    exact ⟨rfl, hB⟩
  cases b4
  · simp only [Bool.false_and, Bool.and_false]
    go_enter Try.func44, Try.ntmps44
    go_wp2
    go_ret
    exact ⟨rfl, hB⟩
  cases b5
  · simp only [Bool.false_and, Bool.and_false]
    go_enter Try.func44, Try.ntmps44
    go_wp2
    go_ret
    exact ⟨rfl, hB⟩
  simp only [Bool.true_and]
  go_enter Try.func44, Try.ntmps44
  go_wp2_with (go_at_call 72; with_reducible refine hcall.out.mono ?_; rintro e w5 ⟨rfl, hB5⟩)
  go_ret
  exact ⟨rfl, hB.trans (hB5.mono hB.size)⟩
/-- What sameStmt answers. -/
def SameS (a : St Loc) : Prop := ∀ (b : St Loc) (w : World), a.ok eT w → b.ok eT w → Calls Try.prog 47 #[aggS a, aggS b] w fun e w' => e = .returned (.bool (a.same b)) ∧ Below w.heap.size w w'
theorem sameS_false {α β : Type} {a : List (St α)} {b : List (St β)} {k : Nat} {x : St α} {y : St β} (hx : a[k]? = some x) (hy : b[k]? = some y) (h : x.same y = false) : sameS a b = false := by
  cases hs : sameS a b with
  | false => rfl
  | true => rw [(sameS_at a b (sameS_len hs)).1 hs k x y hx hy] at h; cases h
set_option maxRecDepth 100000 in
theorem equalS (la lb : Loc) (a b : List (St Loc)) (hall : ∀ x ∈ a, SameS x) (w : World) (ha : Lst.ok eT w la a) (hb : Lst.ok eT w lb b) :
    Calls Try.prog 46 #[.slice la.A a.length la.c, .slice lb.A b.length lb.c, .func (.func 47) #[] #[]] w fun e w' => e = .returned (.bool (sameS a b)) ∧ Below w.heap.size w w' := by
  have ha63 : (a.length : Int) ≤ 9223372036854775807 := by have h1 := ha.1.2.1; have h2 := ha.1.2.2.1; omega
  obtain ⟨n, hn⟩ : ∃ n, n = a.length := ⟨_, rfl⟩
  obtain ⟨n', hn'⟩ : ∃ n, n = b.length := ⟨_, rfl⟩
  rw [← hn] at ha63 ⊢
  rw [← hn']
  by_cases hl : n = n'
  · subst hl
    replace hn := Lib.hid hn
    replace hn' := Lib.hid hn'
    obtain ⟨R, hR⟩ : ∃ R, R = sameS a b := ⟨_, rfl⟩
    rw [← hR]
    replace hR := Lib.hid hR
    go_enter Try.func46, Try.ntmps46
    go_wp2
    go_loopw [17] (fun i wr => ∃ k : Nat, i = .int .i64 k ∧ k ≤ n ∧ Below w.heap.size w wr ∧ ∀ (i : Nat) x y, i < k → a[i]? = some x → b[i]? = some y → x.same y = true) (fun i _ => n - (intOf i).toNat)
    case atStart => exact ⟨0, rfl, Nat.zero_le _, Below.refl _ _, fun i x y h => absurd h (by omega)⟩
    case round =>
      obtain ⟨k, rfl, hk, hB, hsm⟩ := hrel
      have k0 : 0 ≤ (k : Int) := by omega
      by_cases hlt : k < n
      · have hx : a[k]? = some (a[k]'(by have := hn.out; omega)) := List.getElem?_eq_getElem (by have := hn.out; omega)
        generalize a[k]'(by have := hn.out; omega) = x at hx
        have hy : b[k]? = some (b[k]'(by have := hn'.out; omega)) := List.getElem?_eq_getElem (by have := hn'.out; omega)
        generalize b[k]'(by have := hn'.out; omega) = y at hy
        obtain ⟨ad, hA, _, _, hxok, hcx⟩ := (ha.all (keeps_below hB)).at hx
        obtain ⟨bd, hA', _, _, hyok, hcy⟩ := (hb.all (keeps_below hB)).at hy
        have hcall := fun w2 (hB2 : Below wr.heap.size wr w2) => hall x (List.mem_of_getElem? hx) y w2 (hxok.below hB2) (hyok.below hB2)
        have hres := sameS_false hx hy
        obtain ⟨r, hr⟩ : ∃ r, r = x.same y := ⟨_, rfl⟩
        rw [← hr] at hcall hres
        replace hr := Lib.hid hr
        replace hx := Lib.hid hx
        replace hy := Lib.hid hy
        replace hsm := Lib.hid hsm
        replace hres := Lib.hid hres
        obtain ⟨⟨xk, xn, xb⟩, ⟨xA, xc⟩, ⟨x1, x2⟩, ⟨x3, x4⟩, xx, xt, xe⟩ := x
        obtain ⟨⟨yk, yn, yb⟩, ⟨yA, yc⟩, ⟨y1, y2⟩, ⟨y3, y4⟩, yx, yt, ye⟩ := y
        obtain ⟨c0, c1, c2, c3, c4, c5⟩ := CellsAt.c6 hcx
        obtain ⟨d0, d1, d2, d3, d4, d5⟩ := CellsAt.c6 hcy
        simp only [aggS, St.cells, eT] at c0 c1 c2 c3 c4 c5 d0 d1 d2 d3 d4 d5 hcall
        obtain ⟨lA, lc⟩ := la
        obtain ⟨lB, lc'⟩ := lb
        dsimp only at hA hA'
        subst hA
        subst hA'
        have k1 : (k : Int) < (n : Int) := by omega
        have hab := cell_lt c0
        have hbb := cell_lt d0
        have hB4 : Below wr.heap.size wr ((wr.alloc (.cells #[.int .u8 xk, .string xn, .slice xA xx.length xc, .int .i64 xb, .slice x1 xt.length x2, .slice x3 xe.length x4] 51)).alloc (.cells #[.int .u8 yk, .string yn, .slice yA yx.length yc, .int .i64 yb, .slice y1 yt.length y2, .slice y3 ye.length y4] 51)) := ((Below.refl _ _).alloc (Nat.le_refl _) _).alloc (by simp) _
        have hcall := Lib.hid (hcall _ hB4)
        go_wp2_with (go_at_call 47; with_reducible refine hcall.out.mono ?_; rintro e w5 ⟨rfl, hB5⟩; cases r)
        · go_ret
          refine ⟨ret_b ((hR.out.trans (hres.out (by simp))).symm), hB.trans ((hB4.trans (hB5.mono hB4.size)).mono hB.size)⟩
        · go_roundw
          case rel =>
            refine ⟨k + 1, by go_num, by omega, hB.trans ((hB4.trans (hB5.mono hB4.size)).mono hB.size), fun i x y hi hx' hy' => ?_⟩
            by_cases hik : i = k
            · subst hik
              rw [hx.out] at hx'
              rw [hy.out] at hy'
              cases hx'
              cases hy'
              exact hr.out.symm
            · exact hsm.out i x y (by omega) hx' hy'
          case measure => simp [intOf]; omega
      · obtain rfl : k = n := by omega
        have hRt : R = true := by
          rw [hR.out]
          refine (sameS_at a b (by rw [← hn.out, ← hn'.out])).2 fun i x y hx hy => hsm i x y ?_ hx hy
          have := (List.getElem?_eq_some_iff.1 hx).1
          have := hn.out
          omega
        replace hRt := Lib.hid hRt
        replace hsm := Lib.hid hsm
        go_wp2
        go_ret
        exact ⟨ret_b hRt.out.symm, hB⟩
  · have hRf : sameS a b = false := by
      cases hs : sameS a b with
      | false => rfl
      | true => exact absurd (by rw [hn, hn']; exact sameS_len hs) hl
    rw [hRf]
    have h1 : ((n : Int) == (n' : Int)) = false := by simp; omega
    have h2 : ((n : Int) != (n' : Int)) = true := by simp; omega
    have hl' := Lib.hid hl
    clear hl
    replace hn := Lib.hid hn
    replace hn' := Lib.hid hn'
    replace hRf := Lib.hid hRf
    go_enter Try.func46, Try.ntmps46
    go_wp2
    go_ret
    exact ⟨rfl, Below.refl _ _⟩
set_option maxRecDepth 100000 in
theorem sameS_ok : ∀ a : St Loc, SameS a := by
  intro a
  induction a using St.ind with
  | h ha la lt le xa ta ea iht ihe =>
  intro b w hoa hob
  obtain ⟨hb, lb, lt', le', xb, tb, eb⟩ := b
  have hB : Below w.heap.size w ((w.alloc (.cells ((St.mk ha la lt le xa ta ea).cells eT).toArray 51)).alloc (.cells ((St.mk hb lb lt' le' xb tb eb).cells eT).toArray 51)) := ((Below.refl _ _).alloc (Nat.le_refl _) _).alloc (by simp) _
  have hc1 := fun w2 (hB2 : Below w.heap.size w w2) => equalE la lb xa xb (fun x _ => sameE x) w2 (Lex.ok.all (keeps_below hB2) hoa.parts.1) (Lex.ok.all (keeps_below hB2) hob.parts.1)
  have hc2 := fun w2 (hB2 : Below w.heap.size w w2) => equalS lt lt' ta tb iht w2 (Lst.ok.all (keeps_below hB2) hoa.parts.2.1) (Lst.ok.all (keeps_below hB2) hob.parts.2.1)
  have hc3 := fun w2 (hB2 : Below w.heap.size w w2) => equalS le le' ea eb ihe w2 (Lst.ok.all (keeps_below hB2) hoa.parts.2.2) (Lst.ok.all (keeps_below hB2) hob.parts.2.2)
  have hsame : (St.mk ha la lt le xa ta ea).same (St.mk hb lb lt' le' xb tb eb) = (ha.eq hb && (sames xa xb && (sameS ta tb && sameS ea eb))) := rfl
  rw [hsame]
  simp only [SHd.eq]
  obtain ⟨R1, hR1⟩ : ∃ R, R = sames xa xb := ⟨_, rfl⟩
  obtain ⟨R2, hR2⟩ : ∃ R, R = sameS ta tb := ⟨_, rfl⟩
  obtain ⟨R3, hR3⟩ : ∃ R, R = sameS ea eb := ⟨_, rfl⟩
  rw [← hR1] at hc1 ⊢
  rw [← hR2] at hc2 ⊢
  rw [← hR3] at hc3 ⊢
  replace hR1 := Lib.hid hR1
  replace hR2 := Lib.hid hR2
  replace hR3 := Lib.hid hR3
  obtain ⟨xk, xn, xd⟩ := ha
  obtain ⟨yk, yn, yd⟩ := hb
  obtain ⟨lA, lc⟩ := la
  obtain ⟨lB, lc'⟩ := lb
  obtain ⟨a1, a2⟩ := lt
  obtain ⟨b1, b2⟩ := lt'
  obtain ⟨a3, a4⟩ := le
  obtain ⟨b3, b4⟩ := le'
  simp only [aggS, St.cells, eT] at hc1 hc2 hc3 hB ⊢
  replace hc1 := Lib.hid hc1
  replace hc2 := Lib.hid hc2
  replace hc3 := Lib.hid hc3
  have hs0 := (Blk.new w 51 #[.int .u8 xk, .string xn, .slice lA xa.length lc, .int .i64 xd, .slice a1 ta.length a2, .slice a3 ea.length a4]).alloc (.cells #[.int .u8 yk, .string yn, .slice lB xb.length lc', .int .i64 yd, .slice b1 tb.length b2, .slice b3 eb.length b4] 51)
  have hs1 := Blk.new (w.alloc (.cells #[.int .u8 xk, .string xn, .slice lA xa.length lc, .int .i64 xd, .slice a1 ta.length a2, .slice a3 ea.length a4] 51)) 51 #[.int .u8 yk, .string yn, .slice lB xb.length lc', .int .i64 yd, .slice b1 tb.length b2, .slice b3 eb.length b4]
  rw [World.size_alloc] at hs1
  obtain ⟨q1, e1⟩ : ∃ q, (xk == yk) = q := ⟨_, rfl⟩
  obtain ⟨q2, e2⟩ : ∃ q, (xn.toList == yn.toList) = q := ⟨_, rfl⟩
  obtain ⟨q3, e3⟩ : ∃ q, (xd == yd) = q := ⟨_, rfl⟩
  rw [e1, e2, e3]
  cases q1
  · simp only [Bool.false_and, Bool.and_false]
    go_enter Try.func47, Try.ntmps47
    go_wp2
    go_ret
    exact ⟨rfl, hB⟩
  cases q2
  · simp only [Bool.false_and, Bool.and_false]
    go_enter Try.func47, Try.ntmps47
    go_wp2
    go_ret
    exact ⟨rfl, hB⟩
  cases q3
  · simp only [Bool.false_and, Bool.and_false]
    go_enter Try.func47, Try.ntmps47
    go_wp2
    go_ret
    exact ⟨rfl, hB⟩
  simp only [Bool.true_and]
  go_enter Try.func47, Try.ntmps47
  go_wp2_with fail
  have hl0 := hs0.lt
  have hl1 := hs1.lt
  generalize (w.alloc (.cells #[.int .u8 xk, .string xn, .slice lA xa.length lc, .int .i64 xd, .slice a1 ta.length a2, .slice a3 ea.length a4] 51)).alloc (.cells #[.int .u8 yk, .string yn, .slice lB xb.length lc', .int .i64 yd, .slice b1 tb.length b2, .slice b3 eb.length b4] 51) = W0 at *
  refine (hc1.out _ hB).mono ?_
  rintro e w1 ⟨rfl, hB1⟩
  cases R1
  · go_wp2
    go_ret
    exact ⟨rfl, hB.trans (hB1.mono hB.size)⟩
  · have r4 := (hs0.below hB1 hl0).cell 4
    have s4 := (hs1.below hB1 hl1).cell 4
    simp only [List.getElem?_toArray, List.getElem?_cons_zero, List.getElem?_cons_succ] at r4 s4
    have hl2 : w.heap.size < w1.heap.size := Nat.lt_of_lt_of_le hl0 hB1.size
    have hl3 : w.heap.size + 1 < w1.heap.size := Nat.lt_of_lt_of_le hl1 hB1.size
    go_wp2_with fail
    have hB01 := hB.trans (hB1.mono hB.size)
    refine (hc2.out _ hB01).mono ?_
    rintro e w2 ⟨rfl, hB2⟩
    cases R2
    · go_wp2
      go_ret
      exact ⟨rfl, hB01.trans (hB2.mono hB01.size)⟩
    · have hBs := hB1.trans (hB2.mono hB1.size)
      have r5 := (hs0.below hBs hl0).cell 5
      have s5 := (hs1.below hBs hl1).cell 5
      simp only [List.getElem?_toArray, List.getElem?_cons_zero, List.getElem?_cons_succ] at r5 s5
      have hl4 : w.heap.size < w2.heap.size := Nat.lt_of_lt_of_le hl2 hB2.size
      have hl5 : w.heap.size + 1 < w2.heap.size := Nat.lt_of_lt_of_le hl3 hB2.size
      clear r4 s4
      go_wp2_with fail
      have hB02 := hB01.trans (hB2.mono hB01.size)
      refine (hc3.out _ hB02).mono ?_
      rintro e w3 ⟨rfl, hB3⟩
      go_wp2
      go_ret
      exact ⟨rfl, hB02.trans (hB3.mono hB02.size)⟩
end Go.Proofs.Ytnldbplphgfpeaa
