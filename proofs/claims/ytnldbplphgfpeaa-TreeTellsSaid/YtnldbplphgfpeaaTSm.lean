/- Trees: SameExpr, SameStmts; depths. -/
import Derived.Test.YtnldbplphgfpeaaTSz
namespace Go.Proofs.Ytnldbplphgfpeaa
open Go Go.RowKit Go.Shelf
set_option linter.unusedVariables false
set_option linter.unusedSimpArgs false
set_option maxHeartbeats 4000000
theorem lightE (e : Ex Loc) (hs : e.sz ≤ 20000) (w : World) : Calls Try.prog 40 #[.int .i64 (capE 0 e.sz : Nat)] w fun r w' => r = .returned (.bool true) ∧ w = w' := light_yes _ (by rw [capE_yes (by omega)]; omega) _
theorem darkE (e : Ex Loc) (hs : 20000 < e.sz) (w : World) : Calls Try.prog 40 #[.int .i64 (capE 0 e.sz : Nat)] w fun r w' => r = .returned (.bool false) ∧ w = w' := light_no _ (by have := capE_no (b := 0) (s := e.sz) (by omega); omega) _
theorem lightS (l : List (St Loc)) (hs : szS l ≤ 20000) (w : World) : Calls Try.prog 40 #[.int .i64 (cntL (nodesS l) 0 : Nat)] w fun r w' => r = .returned (.bool true) ∧ w = w' :=
  light_yes _ (by rw [cntL_exact _ _ (by rw [wt_nodesS]; omega), wt_nodesS]; omega) _
theorem darkS (l : List (St Loc)) (hs : 20000 < szS l) (w : World) : Calls Try.prog 40 #[.int .i64 (cntL (nodesS l) 0 : Nat)] w fun r w' => r = .returned (.bool false) ∧ w = w' :=
  light_no _ (by have := cntL_more (nodesS l) 0 (by rw [wt_nodesS]; omega); omega) _
set_option maxRecDepth 100000 in
theorem sameExpr_yes (a b : Ex Loc) (w : World) (ha : a.ok eT w) (hb : b.ok eT w) (la : a.sz ≤ 20000) (lb : b.sz ≤ 20000) :
    Calls Try.prog 28 #[aggX a, aggX b] w fun e w' => e = .returned (.bool (a.same b)) ∧ Below w.heap.size w w' := by
  have hB : Below w.heap.size w ((w.alloc (.cells (a.cells eT).toArray 30)).alloc (.cells (b.cells eT).toArray 30)) := ((Below.refl _ _).alloc (Nat.le_refl _) _).alloc (by simp) _
  have hc1 := fun w2 (hB2 : Below w.heap.size w w2) => countE0 a w2 (ha.below hB2)
  have hc2 := fun w2 (hB2 : Below w.heap.size w w2) => countE0 b w2 (hb.below hB2)
  have hc3 := fun w2 (hB2 : Below w.heap.size w w2) => sameE a b w2 (ha.below hB2) (hb.below hB2)
  have hl1 := lightE a la
  have hl2 := lightE b lb
  obtain ⟨n1, h1⟩ : ∃ n, n = capE 0 a.sz := ⟨_, rfl⟩
  obtain ⟨n2, h2⟩ : ∃ n, n = capE 0 b.sz := ⟨_, rfl⟩
  obtain ⟨R, hR⟩ : ∃ R, R = a.same b := ⟨_, rfl⟩
  rw [← h1] at hc1 hl1
  rw [← h2] at hc2 hl2
  rw [← hR] at hc3 ⊢
  replace h1 := Lib.hid h1
  replace h2 := Lib.hid h2
  replace hR := Lib.hid hR
  obtain ⟨⟨xk, xo, xv, xw, xn⟩, ⟨xA, xc⟩, xs⟩ := a
  obtain ⟨⟨yk, yo, yv, yw, yn⟩, ⟨yA, yc⟩, ys⟩ := b
  simp only [aggX, Ex.cells, eT] at hc1 hc2 hc3 hB ⊢
  have hs0 := (Blk.new w 30 #[.int .u8 xk, .int .u8 xo, .int .u32 xv, .int .i64 xw, .string xn, .slice xA xs.length xc]).alloc (.cells #[.int .u8 yk, .int .u8 yo, .int .u32 yv, .int .i64 yw, .string yn, .slice yA ys.length yc] 30)
  have hs1 := Blk.new (w.alloc (.cells #[.int .u8 xk, .int .u8 xo, .int .u32 xv, .int .i64 xw, .string xn, .slice xA xs.length xc] 30)) 30 #[.int .u8 yk, .int .u8 yo, .int .u32 yv, .int .i64 yw, .string yn, .slice yA ys.length yc]
  rw [World.size_alloc] at hs1
  replace hc1 := Lib.hid hc1
  replace hc2 := Lib.hid hc2
  replace hc3 := Lib.hid hc3
  replace hl1 := Lib.hid hl1
  replace hl2 := Lib.hid hl2
  go_enter Try.func28, Try.ntmps28
  go_wp2_with fail
  have hq0 := hs0.lt
  have hq1 := hs1.lt
  generalize (w.alloc (.cells #[.int .u8 xk, .int .u8 xo, .int .u32 xv, .int .i64 xw, .string xn, .slice xA xs.length xc] 30)).alloc (.cells #[.int .u8 yk, .int .u8 yo, .int .u32 yv, .int .i64 yw, .string yn, .slice yA ys.length yc] 30) = W0 at *
  refine (hc1.out _ hB).mono ?_
  rintro e w1 ⟨rfl, hB1⟩
  have hB01 := hB.trans (hB1.mono hB.size)
  have hs11 := hs1.below hB1 hq1
  have d0 := hs11.cell 0
  have d1 := hs11.cell 1
  have d2 := hs11.cell 2
  have d3 := hs11.cell 3
  have d4 := hs11.cell 4
  have d5 := hs11.cell 5
  simp only [List.getElem?_toArray, List.getElem?_cons_zero, List.getElem?_cons_succ] at d0 d1 d2 d3 d4 d5
  have hq2 := hs11.lt
  go_wp2_with (go_at_call 40; with_reducible refine (hl1.out _).mono ?_; rintro e w' ⟨rfl, rfl⟩)
  refine (hc2.out _ hB01).mono ?_
  rintro e w2 ⟨rfl, hB2⟩
  have hB02 := hB01.trans (hB2.mono hB01.size)
  clear d0 d1 d2 d3 d4 d5
  have hs02 := (hs0.below hB1 hq0).below hB2 (Nat.lt_of_lt_of_le hq0 hB1.size)
  have hs12 := hs11.below hB2 hq2
  have c0 := hs02.cell 0
  have c1 := hs02.cell 1
  have c2 := hs02.cell 2
  have c3 := hs02.cell 3
  have c4 := hs02.cell 4
  have c5 := hs02.cell 5
  have d0 := hs12.cell 0
  have d1 := hs12.cell 1
  have d2 := hs12.cell 2
  have d3 := hs12.cell 3
  have d4 := hs12.cell 4
  have d5 := hs12.cell 5
  simp only [List.getElem?_toArray, List.getElem?_cons_zero, List.getElem?_cons_succ] at c0 c1 c2 c3 c4 c5 d0 d1 d2 d3 d4 d5
  have hq3 := hs02.lt
  have hq4 := hs12.lt
  go_wp2_with (go_at_call 40; with_reducible refine (hl2.out _).mono ?_; rintro e w' ⟨rfl, rfl⟩)
  refine (hc3.out _ hB02).mono ?_
  rintro e w3 ⟨rfl, hB3⟩
  go_wp2
  go_ret
  exact ⟨rfl, hB02.trans (hB3.mono hB02.size)⟩
set_option maxRecDepth 100000 in
theorem sameStmts_yes (la lb : Loc) (a b : List (St Loc)) (w : World) (ha : Lst.ok eT w la a) (hb : Lst.ok eT w lb b) (sa : szS a ≤ 20000) (sb : szS b ≤ 20000) :
    Calls Try.prog 25 #[.slice la.A a.length la.c, .slice lb.A b.length lb.c] w fun e w' => e = .returned (.bool (sameS a b)) ∧ Below w.heap.size w w' := by
  have hc1 := countS0 a la (thin_of sa) w ha
  have hc2 := fun w2 (hB2 : Below w.heap.size w w2) => countS0 b lb (thin_of sb) w2 (hb.all (keeps_below hB2))
  have hc3 := fun w2 (hB2 : Below w.heap.size w w2) => equalS la lb a b (fun x _ => sameS_ok x) w2 (ha.all (keeps_below hB2)) (hb.all (keeps_below hB2))
  have hl1 := lightS a sa
  have hl2 := lightS b sb
  obtain ⟨n1, h1⟩ : ∃ n, n = cntL (nodesS a) 0 := ⟨_, rfl⟩
  obtain ⟨n2, h2⟩ : ∃ n, n = cntL (nodesS b) 0 := ⟨_, rfl⟩
  obtain ⟨R, hR⟩ : ∃ R, R = sameS a b := ⟨_, rfl⟩
  rw [← h1] at hc1 hl1
  rw [← h2] at hc2 hl2
  rw [← hR] at hc3 ⊢
  replace h1 := Lib.hid h1
  replace h2 := Lib.hid h2
  replace hR := Lib.hid hR
  replace hc1 := Lib.hid hc1
  replace hc2 := Lib.hid hc2
  replace hc3 := Lib.hid hc3
  replace hl1 := Lib.hid hl1
  replace hl2 := Lib.hid hl2
  go_enter Try.func25, Try.ntmps25
  go_wp2_with fail
  refine hc1.out.mono ?_
  rintro e w1 ⟨rfl, hB1⟩
  go_wp2_with (go_at_call 40; with_reducible refine (hl1.out _).mono ?_; rintro e w' ⟨rfl, rfl⟩)
  refine (hc2.out _ hB1).mono ?_
  rintro e w2 ⟨rfl, hB2⟩
  have hB02 := hB1.trans (hB2.mono hB1.size)
  go_wp2_with (go_at_call 40; with_reducible refine (hl2.out _).mono ?_; rintro e w' ⟨rfl, rfl⟩)
  refine (hc3.out _ hB02).mono ?_
  rintro e w3 ⟨rfl, hB3⟩
  go_wp2
  go_ret
  exact ⟨rfl, hB02.trans (hB3.mono hB02.size)⟩
-- depths
mutual
def St.dp {α : Type} : St α → Nat
  | .mk _ _ _ _ _ th el => 1 + max (dpS th) (dpS el)
def dpS {α : Type} : List (St α) → Nat
  | [] => 0
  | x :: r => max x.dp (dpS r)
end
mutual
theorem St.dp_le {α : Type} : ∀ s : St α, s.dp ≤ s.sz
  | .mk _ _ _ _ ex th el => by
    have h1 := dpS_le th
    have h2 := dpS_le el
    simp only [St.dp, St.sz]; omega
theorem dpS_le {α : Type} : ∀ l : List (St α), dpS l ≤ szS l
  | [] => Nat.le_refl _
  | x :: r => by
    have h1 := x.dp_le
    have h2 := dpS_le r
    simp only [dpS, szS]; omega
end
mutual
theorem St.dp_plain {α : Type} : ∀ s : St α, s.plain.dp = s.dp
  | .mk _ _ _ _ ex th el => by simp only [St.plain, St.dp, dpS_plain th, dpS_plain el]
theorem dpS_plain {α : Type} : ∀ l : List (St α), dpS (plainS l) = dpS l
  | [] => rfl
  | x :: r => by simp only [plainS, dpS, x.dp_plain, dpS_plain r]
end
theorem dpS_append {α : Type} : ∀ (a b : List (St α)), dpS (a ++ b) = max (dpS a) (dpS b)
  | [], b => by simp [dpS]
  | x :: a, b => by simp only [List.cons_append, dpS, dpS_append a b, Nat.max_assoc]
theorem dpS_take {α : Type} {l : List (St α)} {k : Nat} {x : St α} (hx : l[k]? = some x) : dpS (l.take (k + 1)) = max (max (dpS (l.take k)) (1 + dpS x.th)) (1 + dpS x.el) := by
  obtain ⟨hk, e⟩ := List.getElem?_eq_some_iff.1 hx
  rw [List.take_succ_eq_append_getElem hk, dpS_append, e]
  cases x
  simp only [dpS, St.dp, St.th, St.el]; omega
set_option maxRecDepth 100000 in
theorem depth_ok : ∀ (ls : List (St Loc)) (lc : Loc) (w : World), Lst.ok eT w lc ls → szS ls ≤ 20000 → Calls Try.prog 57 #[.slice lc.A ls.length lc.c] w fun e w' => e = .returned (.int .i64 (dpS ls : Nat)) ∧ Below w.heap.size w w' := by
  intro ls
  induction ls using St.list with
  | h ls ih =>
  intro lc w hok hsz
  have hll := szS_len ls
  obtain ⟨n, hn⟩ : ∃ n, n = ls.length := ⟨_, rfl⟩
  have hn2 : n ≤ 20000 := by omega
  rw [← hn]
  obtain ⟨R, hR⟩ : ∃ R, R = dpS ls := ⟨_, rfl⟩
  rw [← hR]
  replace hn := Lib.hid hn
  replace hR := Lib.hid hR
  replace ih := Lib.hid ih
  go_enter Try.func57, Try.ntmps57
  go_wp2
  go_loopw [3, 8] (fun mo i wr => ∃ k : Nat, i = .int .i64 k ∧ mo = .int .i64 (dpS (ls.take k) : Nat) ∧ k ≤ n ∧ Below w.heap.size w wr) (fun _ i _ => n - (intOf i).toNat)
  case atStart => exact ⟨0, rfl, rfl, Nat.zero_le _, Below.refl _ _⟩
  case round =>
    obtain ⟨k, rfl, rfl, hk, hB⟩ := hrel
    have k0 : 0 ≤ (k : Int) := by omega
    by_cases hlt : k < n
    · have hx : ls[k]? = some (ls[k]'(by have := hn.out; omega)) := List.getElem?_eq_getElem (by have := hn.out; omega)
      generalize ls[k]'(by have := hn.out; omega) = x at hx
      obtain ⟨ad, hA, _, _, hxok, hcx⟩ := (hok.all (keeps_below hB)).at hx
      have hnext := dpS_take hx
      have hxsz := szS_mem (List.mem_of_getElem? hx)
      have hi1 := (ih.out x (List.mem_of_getElem? hx)).1
      have hi2 := (ih.out x (List.mem_of_getElem? hx)).2
      have htk : dpS (ls.take k) ≤ 20000 := by
        have h1 := dpS_le (ls.take k)
        have h2 : szS (ls.take k) + szS (ls.drop k) = szS ls := by rw [← szS_append, List.take_append_drop]
        omega
      obtain ⟨⟨xk, xn, xb⟩, ⟨xA, xc⟩, ⟨x1, x2⟩, ⟨x3, x4⟩, xx, xt, xe⟩ := x
      simp only [St.th, St.el, St.sz] at hnext hxsz hi1 hi2
      have d1 := dpS_le xt
      have d2 := dpS_le xe
      have hc1 := fun w2 (hB2 : Below wr.heap.size wr w2) => hi1 ⟨x1, x2⟩ w2 ((hxok.below hB2).parts.2.1) (by omega)
      have hc2 := fun w2 (hB2 : Below wr.heap.size wr w2) => hi2 ⟨x3, x4⟩ w2 ((hxok.below hB2).parts.2.2) (by omega)
      obtain ⟨c0, c1, c2, c3, c4, c5⟩ := CellsAt.c6 hcx
      simp only [eT] at c0 c1 c2 c3 c4 c5 hc1 hc2
      obtain ⟨m1, hm1⟩ : ∃ m, m = dpS xt := ⟨_, rfl⟩
      obtain ⟨m2, hm2⟩ : ∃ m, m = dpS xe := ⟨_, rfl⟩
      obtain ⟨m0, hm0⟩ : ∃ m, m = dpS (ls.take k) := ⟨_, rfl⟩
      rw [← hm1] at hc1 hnext d1
      rw [← hm2] at hc2 hnext d2
      rw [← hm0] at hnext htk ⊢
      replace hm1 := Lib.hid hm1
      replace hm2 := Lib.hid hm2
      replace hm0 := Lib.hid hm0
      replace hnext := Lib.hid hnext
      replace hx := Lib.hid hx
      obtain ⟨lA, lc'⟩ := lc
      dsimp only at hA
      subst hA
      have k1 : (k : Int) < (n : Int) := by omega
      have hab := cell_lt c0
      clear hi1 hi2
      replace hc1 := Lib.hid hc1
      replace hc2 := Lib.hid hc2
      have b1 : m1 ≤ 20000 := by omega
      have b2 : m2 ≤ 20000 := by omega
      have hBw := (Below.refl _ wr).alloc (Nat.le_refl _) (.cells #[.int .u8 xk, .string xn, .slice xA xx.length xc, .int .i64 xb, .slice x1 xt.length x2, .slice x3 xe.length x4] 51)
      have hbs := Blk.new wr 51 #[.int .u8 xk, .string xn, .slice xA xx.length xc, .int .i64 xb, .slice x1 xt.length x2, .slice x3 xe.length x4]
      go_wp2
      generalize wr.alloc (.cells #[.int .u8 xk, .string xn, .slice xA xx.length xc, .int .i64 xb, .slice x1 xt.length x2, .slice x3 xe.length x4] 51) = Wx at *
      have hl4 := hbs.lt
      have hX1 : ∀ x : Ext Wx, Calls Try.prog 57 #[.slice x1 xt.length x2] x.w fun e w' => e = .returned (.int .i64 (m1 : Nat)) ∧ Below x.w.heap.size x.w w' := fun x => hc1.out x.w (below_and hBw x.below)
      have hX2 : ∀ x : Ext Wx, Calls Try.prog 57 #[.slice x3 xe.length x4] x.w fun e w' => e = .returned (.int .i64 (m2 : Nat)) ∧ Below x.w.heap.size x.w w' := fun x => hc2.out x.w (below_and hBw x.below)
      have hC4 : ∀ x : Ext Wx, x.w.cell? ⟨wr.heap.size, 4, none⟩ = some (.slice x1 xt.length x2) := fun x => (hbs.below x.below hl4).cell 4
      have hC5 : ∀ x : Ext Wx, x.w.cell? ⟨wr.heap.size, 5, none⟩ = some (.slice x3 xe.length x4) := fun x => (hbs.below x.below hl4).cell 5
      clear hbs c0 c1 c2 c3 c4 c5
      replace hX1 := Lib.hid hX1
      replace hX2 := Lib.hid hX2
      refine wp_region_grown (by kernel_rfl) (by kernel_rfl) (by kernel_rfl) ?_
      repeat (go_big_quiet_step (first
        | (go_at_call 57; with_reducible exact grown_of (hX1.out _))
        | (go_at_call 57; with_reducible exact grown_of (hX2.out _))))
      obtain ⟨mx, hmx⟩ : ∃ mx : Int, (if (if (m0 : Int) < 1 + (m1 : Int) then 1 + (m1 : Int) else (m0 : Int)) < 1 + (m2 : Int) then 1 + (m2 : Int) else if (m0 : Int) < 1 + (m1 : Int) then 1 + (m1 : Int) else (m0 : Int)) = mx := ⟨_, rfl⟩
      rw [hmx]
      have hmx2 : mx = (dpS (ls.take (k + 1)) : Nat) := by
        have := hnext.out
        rw [this, ← hmx]
        split <;> split <;> omega
      replace hmx := Lib.hid hmx
      replace hmx2 := Lib.hid hmx2
      refine wpQuiet_nil ?_
      rintro _ ⟨x, rfl⟩
      go_wp2_with fail
      go_roundw
      case rel => exact ⟨k + 1, by go_num, by rw [hmx2.out], by omega, below_and (below_and hB hBw) x.below⟩
      case measure => simp [intOf]; omega
    · obtain rfl : k = n := by omega
      have hRk : dpS (ls.take k) = R := by rw [hn.out, List.take_length, hR.out]
      rw [hRk]
      replace hRk := Lib.hid hRk
      go_wp2
      go_ret
      exact ⟨rfl, hB⟩
set_option maxRecDepth 100000 in
theorem depth_yes (ls : List (St Loc)) (lc : Loc) (w : World) (hok : Lst.ok eT w lc ls) (hs : szS ls ≤ 20000) : Calls Try.prog 18 #[.slice lc.A ls.length lc.c] w fun e w' => e = .returned (.int .i64 (dpS ls : Nat)) ∧ Below w.heap.size w w' := by
  have hc1 := countS0 ls lc (thin_of hs) w hok
  have hl1 := lightS ls hs
  have hd := fun w2 (hB2 : Below w.heap.size w w2) => depth_ok ls lc w2 (hok.all (keeps_below hB2)) hs
  obtain ⟨n1, h1⟩ : ∃ n, n = cntL (nodesS ls) 0 := ⟨_, rfl⟩
  rw [← h1] at hc1 hl1
  replace h1 := Lib.hid h1
  generalize ls.length = n at *
  replace hc1 := Lib.hid hc1
  replace hl1 := Lib.hid hl1
  replace hd := Lib.hid hd
  go_enter Try.func18, Try.ntmps18
  go_wp2_with fail
  refine hc1.out.mono ?_
  rintro e w1 ⟨rfl, hB1⟩
  go_wp2_with (first | (go_at_call 40; with_reducible refine (hl1.out _).mono ?_; rintro e w' ⟨rfl, rfl⟩) | (go_at_call 57; with_reducible refine (hd.out _ hB1).mono ?_; rintro e w' ⟨rfl, hB2⟩))
  go_ret
  exact ⟨rfl, below_and hB1 hB2⟩
end Go.Proofs.Ytnldbplphgfpeaa
