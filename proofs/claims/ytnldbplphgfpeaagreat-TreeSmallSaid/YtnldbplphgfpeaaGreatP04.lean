/- Lemmas for salvor/salvorlaw29.TreeSmall (part 4); no condition. -/
import Derived.Test.YtnldbplphgfpeaaGreatP03
namespace Go.Proofs.YtnldbplphgfpeaaGreat
open Go Go.RowKit Go.Shelf
set_option linter.unusedVariables false
set_option linter.unusedSimpArgs false
set_option maxHeartbeats 4000000
theorem lightE (e : Ex Loc) (hs : e.sz ≤ 20000) (w : World) : Calls Tryz.prog 78 #[.int .i64 (capE 0 e.sz : Nat)] w fun r w' => r = .returned (.bool true) ∧ w = w' := light_yes _ (by rw [capE_yes (by omega)]; omega) _
theorem darkE (e : Ex Loc) (hs : 20000 < e.sz) (w : World) : Calls Tryz.prog 78 #[.int .i64 (capE 0 e.sz : Nat)] w fun r w' => r = .returned (.bool false) ∧ w = w' := light_no _ (by have := capE_no (b := 0) (s := e.sz) (by omega); omega) _
theorem lightS (l : List (St Loc)) (hs : szS l ≤ 20000) (w : World) : Calls Tryz.prog 78 #[.int .i64 (cntL (nodesS l) 0 : Nat)] w fun r w' => r = .returned (.bool true) ∧ w = w' :=
 light_yes _ (by rw [cntL_exact _ _ (by rw [wt_nodesS]; omega), wt_nodesS]; omega) _
theorem darkS (l : List (St Loc)) (hs : 20000 < szS l) (w : World) : Calls Tryz.prog 78 #[.int .i64 (cntL (nodesS l) 0 : Nat)] w fun r w' => r = .returned (.bool false) ∧ w = w' :=
 light_no _ (by have := cntL_more (nodesS l) 0 (by rw [wt_nodesS]; omega); omega) _
set_option maxRecDepth 100000 in
theorem sameExpr_yes (a b : Ex Loc) (w : World) (ha : a.ok eT w) (hb : b.ok eT w) (la : a.sz ≤ 20000) (lb : b.sz ≤ 20000) :
  Calls Tryz.prog 10 #[aggX a, aggX b] w fun e w' => e = .returned (.bool (a.same b)) ∧ Below w.heap.size w w' := by
 have hB : Below w.heap.size w ((w.alloc (.cells (a.cells eT).toArray 30)).alloc (.cells (b.cells eT).toArray 30)) := ((Below.refl _ _).alloc (Nat.le_refl _) _).alloc (by simp) _
 have hc1 := fun w2 (hB2 : Below w.heap.size w w2) => countE0 a w2 (ha.below hB2)
 have hc2 := fun w2 (hB2 : Below w.heap.size w w2) => countE0 b w2 (hb.below hB2)
 have hc3 := fun w2 (hB2 : Below w.heap.size w w2) => sameE a b w2 (ha.below hB2) (hb.below hB2)
 have hl1 := lightE a la
 have hl2 := lightE b lb
 obtain ⟨n1, h1⟩ : ∃ n, n = capE 0 a.sz := ⟨_, rfl⟩
 obtain ⟨n2, h2⟩ : ∃ n, n = capE 0 b.sz := ⟨_, rfl⟩
 obtain ⟨R, hR⟩ : ∃ R, R = a.same b := ⟨_, rfl⟩
 rw [← h1] at hc1 hl1
 rw [← h2] at hc2 hl2
 rw [← hR] at hc3 ⊢
 replace h1 := Lib.hid h1
 replace h2 := Lib.hid h2
 replace hR := Lib.hid hR
 obtain ⟨⟨xk, xo, xv, xw, xn⟩, ⟨xA, xc⟩, xs⟩ := a
 obtain ⟨⟨yk, yo, yv, yw, yn⟩, ⟨yA, yc⟩, ys⟩ := b
 simp only [aggX, Ex.cells, eT] at hc1 hc2 hc3 hB ⊢
 have hs0 := (Blk.new w 30 #[.int .u8 xk, .int .u8 xo, .int .u32 xv, .int .i64 xw, .string xn, .slice xA xs.length xc]).alloc (.cells #[.int .u8 yk, .int .u8 yo, .int .u32 yv, .int .i64 yw, .string yn, .slice yA ys.length yc] 30)
 have hs1 := Blk.new (w.alloc (.cells #[.int .u8 xk, .int .u8 xo, .int .u32 xv, .int .i64 xw, .string xn, .slice xA xs.length xc] 30)) 30 #[.int .u8 yk, .int .u8 yo, .int .u32 yv, .int .i64 yw, .string yn, .slice yA ys.length yc]
 rw [World.size_alloc] at hs1
 replace hc1 := Lib.hid hc1
 replace hc2 := Lib.hid hc2
 replace hc3 := Lib.hid hc3
 replace hl1 := Lib.hid hl1
 replace hl2 := Lib.hid hl2
 go_enter Tryz.func10, Tryz.ntmps10
 go_wp2_with fail
 have hq0 := hs0.lt
 have hq1 := hs1.lt
 generalize (w.alloc (.cells #[.int .u8 xk, .int .u8 xo, .int .u32 xv, .int .i64 xw, .string xn, .slice xA xs.length xc] 30)).alloc (.cells #[.int .u8 yk, .int .u8 yo, .int .u32 yv, .int .i64 yw, .string yn, .slice yA ys.length yc] 30) = W0 at *
 refine (hc1.out _ hB).mono ?_
 rintro e w1 ⟨rfl, hB1⟩
 have hB01 := hB.trans (hB1.mono hB.size)
 have hs11 := hs1.below hB1 hq1
 have d0 := hs11.cell 0
 have d1 := hs11.cell 1
 have d2 := hs11.cell 2
 have d3 := hs11.cell 3
 have d4 := hs11.cell 4
 have d5 := hs11.cell 5
 simp only [List.getElem?_toArray, List.getElem?_cons_zero, List.getElem?_cons_succ] at d0 d1 d2 d3 d4 d5
 have hq2 := hs11.lt
 go_wp2_with (go_at_call 78; with_reducible refine (hl1.out _).mono ?_; rintro e w' ⟨rfl, rfl⟩)
 refine (hc2.out _ hB01).mono ?_
 rintro e w2 ⟨rfl, hB2⟩
 have hB02 := hB01.trans (hB2.mono hB01.size)
 clear d0 d1 d2 d3 d4 d5
 have hs02 := (hs0.below hB1 hq0).below hB2 (Nat.lt_of_lt_of_le hq0 hB1.size)
 have hs12 := hs11.below hB2 hq2
 have c0 := hs02.cell 0
 have c1 := hs02.cell 1
 have c2 := hs02.cell 2
 have c3 := hs02.cell 3
 have c4 := hs02.cell 4
 have c5 := hs02.cell 5
 have d0 := hs12.cell 0
 have d1 := hs12.cell 1
 have d2 := hs12.cell 2
 have d3 := hs12.cell 3
 have d4 := hs12.cell 4
 have d5 := hs12.cell 5
 simp only [List.getElem?_toArray, List.getElem?_cons_zero, List.getElem?_cons_succ] at c0 c1 c2 c3 c4 c5 d0 d1 d2 d3 d4 d5
 have hq3 := hs02.lt
 have hq4 := hs12.lt
 go_wp2_with (go_at_call 78; with_reducible refine (hl2.out _).mono ?_; rintro e w' ⟨rfl, rfl⟩)
 refine (hc3.out _ hB02).mono ?_
 rintro e w3 ⟨rfl, hB3⟩
 go_wp2
 go_ret
 exact ⟨rfl, hB02.trans (hB3.mono hB02.size)⟩
set_option maxRecDepth 100000 in
theorem sameStmts_yes (la lb : Loc) (a b : List (St Loc)) (w : World) (ha : Lst.ok eT w la a) (hb : Lst.ok eT w lb b) (sa : szS a ≤ 20000) (sb : szS b ≤ 20000) :
  Calls Tryz.prog 15 #[.slice la.A a.length la.c, .slice lb.A b.length lb.c] w fun e w' => e = .returned (.bool (sameS a b)) ∧ Below w.heap.size w w' := by
 have hc1 := countS0 a la (thin_of sa) w ha
 have hc2 := fun w2 (hB2 : Below w.heap.size w w2) => countS0 b lb (thin_of sb) w2 (hb.all (keeps_below hB2))
 have hc3 := fun w2 (hB2 : Below w.heap.size w w2) => equalS la lb a b (fun x _ => sameS_ok x) w2 (ha.all (keeps_below hB2)) (hb.all (keeps_below hB2))
 have hl1 := lightS a sa
 have hl2 := lightS b sb
 obtain ⟨n1, h1⟩ : ∃ n, n = cntL (nodesS a) 0 := ⟨_, rfl⟩
 obtain ⟨n2, h2⟩ : ∃ n, n = cntL (nodesS b) 0 := ⟨_, rfl⟩
 obtain ⟨R, hR⟩ : ∃ R, R = sameS a b := ⟨_, rfl⟩
 rw [← h1] at hc1 hl1
 rw [← h2] at hc2 hl2
 rw [← hR] at hc3 ⊢
 replace h1 := Lib.hid h1
 replace h2 := Lib.hid h2
 replace hR := Lib.hid hR
 replace hc1 := Lib.hid hc1
 replace hc2 := Lib.hid hc2
 replace hc3 := Lib.hid hc3
 replace hl1 := Lib.hid hl1
 replace hl2 := Lib.hid hl2
 go_enter Tryz.func15, Tryz.ntmps15
 go_wp2_with fail
 refine hc1.out.mono ?_
 rintro e w1 ⟨rfl, hB1⟩
 go_wp2_with (go_at_call 78; with_reducible refine (hl1.out _).mono ?_; rintro e w' ⟨rfl, rfl⟩)
 refine (hc2.out _ hB1).mono ?_
 rintro e w2 ⟨rfl, hB2⟩
 have hB02 := hB1.trans (hB2.mono hB1.size)
 go_wp2_with (go_at_call 78; with_reducible refine (hl2.out _).mono ?_; rintro e w' ⟨rfl, rfl⟩)
 refine (hc3.out _ hB02).mono ?_
 rintro e w3 ⟨rfl, hB3⟩
 go_wp2
 go_ret
 exact ⟨rfl, hB02.trans (hB3.mono hB02.size)⟩
mutual
def St.dp {α : Type} : St α → Nat
 | .mk _ _ _ _ _ th el => 1 + max (dpS th) (dpS el)
def dpS {α : Type} : List (St α) → Nat
 | [] => 0
 | x :: r => max x.dp (dpS r)
end
mutual
theorem St.dp_le {α : Type} : ∀ s : St α, s.dp ≤ s.sz
 | .mk _ _ _ _ ex th el => by
  have h1 := dpS_le th
  have h2 := dpS_le el
  simp only [St.dp, St.sz]; omega
theorem dpS_le {α : Type} : ∀ l : List (St α), dpS l ≤ szS l
 | [] => Nat.le_refl _
 | x :: r => by
  have h1 := x.dp_le
  have h2 := dpS_le r
  simp only [dpS, szS]; omega
end
mutual
theorem St.dp_plain {α : Type} : ∀ s : St α, s.plain.dp = s.dp
 | .mk _ _ _ _ ex th el => by simp only [St.plain, St.dp, dpS_plain th, dpS_plain el]
theorem dpS_plain {α : Type} : ∀ l : List (St α), dpS (plainS l) = dpS l
 | [] => rfl
 | x :: r => by simp only [plainS, dpS, x.dp_plain, dpS_plain r]
end
theorem dpS_append {α : Type} : ∀ (a b : List (St α)), dpS (a ++ b) = max (dpS a) (dpS b)
 | [], b => by simp [dpS]
 | x :: a, b => by simp only [List.cons_append, dpS, dpS_append a b, Nat.max_assoc]
theorem dpS_take {α : Type} {l : List (St α)} {k : Nat} {x : St α} (hx : l[k]? = some x) : dpS (l.take (k + 1)) = max (max (dpS (l.take k)) (1 + dpS x.th)) (1 + dpS x.el) := by
 obtain ⟨hk, e⟩ := List.getElem?_eq_some_iff.1 hx
 rw [List.take_succ_eq_append_getElem hk, dpS_append, e]
 cases x
 simp only [dpS, St.dp, St.th, St.el]; omega
set_option maxRecDepth 100000 in
theorem depth_ok : ∀ (ls : List (St Loc)) (lc : Loc) (w : World), Lst.ok eT w lc ls → szS ls ≤ 20000 → Calls Tryz.prog 90 #[.slice lc.A ls.length lc.c] w fun e w' => e = .returned (.int .i64 (dpS ls : Nat)) ∧ Below w.heap.size w w' := by
 intro ls
 induction ls using St.list with
 | h ls ih =>
 intro lc w hok hsz
 have hll := szS_len ls
 obtain ⟨n, hn⟩ : ∃ n, n = ls.length := ⟨_, rfl⟩
 have hn2 : n ≤ 20000 := by omega
 rw [← hn]
 obtain ⟨R, hR⟩ : ∃ R, R = dpS ls := ⟨_, rfl⟩
 rw [← hR]
 replace hn := Lib.hid hn
 replace hR := Lib.hid hR
 replace ih := Lib.hid ih
 go_enter Tryz.func90, Tryz.ntmps90
 go_wp2
 go_loopw [3, 8] (fun mo i wr => ∃ k : Nat, i = .int .i64 k ∧ mo = .int .i64 (dpS (ls.take k) : Nat) ∧ k ≤ n ∧ Below w.heap.size w wr) (fun _ i _ => n - (intOf i).toNat)
 case atStart => exact ⟨0, rfl, rfl, Nat.zero_le _, Below.refl _ _⟩
 case round =>
  obtain ⟨k, rfl, rfl, hk, hB⟩ := hrel
  have k0 : 0 ≤ (k : Int) := by omega
  by_cases hlt : k < n
  ·have hx : ls[k]? = some (ls[k]'(by have := hn.out; omega)) := List.getElem?_eq_getElem (by have := hn.out; omega)
   generalize ls[k]'(by have := hn.out; omega) = x at hx
   obtain ⟨ad, hA, _, _, hxok, hcx⟩ := (hok.all (keeps_below hB)).at hx
   have hnext := dpS_take hx
   have hxsz := szS_mem (List.mem_of_getElem? hx)
   have hi1 := (ih.out x (List.mem_of_getElem? hx)).1
   have hi2 := (ih.out x (List.mem_of_getElem? hx)).2
   have htk : dpS (ls.take k) ≤ 20000 := by
    have h1 := dpS_le (ls.take k)
    have h2 : szS (ls.take k) + szS (ls.drop k) = szS ls := by rw [← szS_append, List.take_append_drop]
    omega
   obtain ⟨⟨xk, xn, xb⟩, ⟨xA, xc⟩, ⟨x1, x2⟩, ⟨x3, x4⟩, xx, xt, xe⟩ := x
   simp only [St.th, St.el, St.sz] at hnext hxsz hi1 hi2
   have d1 := dpS_le xt
   have d2 := dpS_le xe
   have hc1 := fun w2 (hB2 : Below wr.heap.size wr w2) => hi1 ⟨x1, x2⟩ w2 ((hxok.below hB2).parts.2.1) (by omega)
   have hc2 := fun w2 (hB2 : Below wr.heap.size wr w2) => hi2 ⟨x3, x4⟩ w2 ((hxok.below hB2).parts.2.2) (by omega)
   obtain ⟨c0, c1, c2, c3, c4, c5⟩ := CellsAt.c6 hcx
   simp only [eT] at c0 c1 c2 c3 c4 c5 hc1 hc2
   obtain ⟨m1, hm1⟩ : ∃ m, m = dpS xt := ⟨_, rfl⟩
   obtain ⟨m2, hm2⟩ : ∃ m, m = dpS xe := ⟨_, rfl⟩
   obtain ⟨m0, hm0⟩ : ∃ m, m = dpS (ls.take k) := ⟨_, rfl⟩
   rw [← hm1] at hc1 hnext d1
   rw [← hm2] at hc2 hnext d2
   rw [← hm0] at hnext htk ⊢
   replace hm1 := Lib.hid hm1
   replace hm2 := Lib.hid hm2
   replace hm0 := Lib.hid hm0
   replace hnext := Lib.hid hnext
   replace hx := Lib.hid hx
   obtain ⟨lA, lc'⟩ := lc
   dsimp only at hA
   subst hA
   have k1 : (k : Int) < (n : Int) := by omega
   have hab := cell_lt c0
   clear hi1 hi2
   replace hc1 := Lib.hid hc1
   replace hc2 := Lib.hid hc2
   have b1 : m1 ≤ 20000 := by omega
   have b2 : m2 ≤ 20000 := by omega
   have hBw := (Below.refl _ wr).alloc (Nat.le_refl _) (.cells #[.int .u8 xk, .string xn, .slice xA xx.length xc, .int .i64 xb, .slice x1 xt.length x2, .slice x3 xe.length x4] 40)
   have hbs := Blk.new wr 40 #[.int .u8 xk, .string xn, .slice xA xx.length xc, .int .i64 xb, .slice x1 xt.length x2, .slice x3 xe.length x4]
   go_wp2
   generalize wr.alloc (.cells #[.int .u8 xk, .string xn, .slice xA xx.length xc, .int .i64 xb, .slice x1 xt.length x2, .slice x3 xe.length x4] 40) = Wx at *
   have hl4 := hbs.lt
   have hX1 : ∀ x : Ext Wx, Calls Tryz.prog 90 #[.slice x1 xt.length x2] x.w fun e w' => e = .returned (.int .i64 (m1 : Nat)) ∧ Below x.w.heap.size x.w w' := fun x => hc1.out x.w (below_and hBw x.below)
   have hX2 : ∀ x : Ext Wx, Calls Tryz.prog 90 #[.slice x3 xe.length x4] x.w fun e w' => e = .returned (.int .i64 (m2 : Nat)) ∧ Below x.w.heap.size x.w w' := fun x => hc2.out x.w (below_and hBw x.below)
   have hC4 : ∀ x : Ext Wx, x.w.cell? ⟨wr.heap.size, 4, none⟩ = some (.slice x1 xt.length x2) := fun x => (hbs.below x.below hl4).cell 4
   have hC5 : ∀ x : Ext Wx, x.w.cell? ⟨wr.heap.size, 5, none⟩ = some (.slice x3 xe.length x4) := fun x => (hbs.below x.below hl4).cell 5
   clear hbs c0 c1 c2 c3 c4 c5
   replace hX1 := Lib.hid hX1
   replace hX2 := Lib.hid hX2
   refine wp_region_grown (by kernel_rfl) (by kernel_rfl) (by kernel_rfl) ?_
   repeat (go_big_quiet_step (first
    | (go_at_call 90; with_reducible exact grown_of (hX1.out _))
    | (go_at_call 90; with_reducible exact grown_of (hX2.out _))))
   obtain ⟨mx, hmx⟩ : ∃ mx : Int, (if (if (m0 : Int) < 1 + (m1 : Int) then 1 + (m1 : Int) else (m0 : Int)) < 1 + (m2 : Int) then 1 + (m2 : Int) else if (m0 : Int) < 1 + (m1 : Int) then 1 + (m1 : Int) else (m0 : Int)) = mx := ⟨_, rfl⟩
   rw [hmx]
   have hmx2 : mx = (dpS (ls.take (k + 1)) : Nat) := by
    have := hnext.out
    rw [this, ← hmx]
    split <;> split <;> omega
   replace hmx := Lib.hid hmx
   replace hmx2 := Lib.hid hmx2
   refine wpQuiet_nil ?_
   rintro _ ⟨x, rfl⟩
   go_wp2_with fail
   go_roundw
   case rel => exact ⟨k + 1, by go_num, by rw [hmx2.out], by omega, below_and (below_and hB hBw) x.below⟩
   case measure => simp [intOf]; omega
  ·obtain rfl : k = n := by omega
   have hRk : dpS (ls.take k) = R := by rw [hn.out, List.take_length, hR.out]
   rw [hRk]
   replace hRk := Lib.hid hRk
   go_wp2
   go_ret
   exact ⟨rfl, hB⟩
set_option maxRecDepth 100000 in
theorem depth_yes (ls : List (St Loc)) (lc : Loc) (w : World) (hok : Lst.ok eT w lc ls) (hs : szS ls ≤ 20000) : Calls Tryz.prog 19 #[.slice lc.A ls.length lc.c] w fun e w' => e = .returned (.int .i64 (dpS ls : Nat)) ∧ Below w.heap.size w w' := by
 have hc1 := countS0 ls lc (thin_of hs) w hok
 have hl1 := lightS ls hs
 have hd := fun w2 (hB2 : Below w.heap.size w w2) => depth_ok ls lc w2 (hok.all (keeps_below hB2)) hs
 obtain ⟨n1, h1⟩ : ∃ n, n = cntL (nodesS ls) 0 := ⟨_, rfl⟩
 rw [← h1] at hc1 hl1
 replace h1 := Lib.hid h1
 generalize ls.length = n at *
 replace hc1 := Lib.hid hc1
 replace hl1 := Lib.hid hl1
 replace hd := Lib.hid hd
 go_enter Tryz.func19, Tryz.ntmps19
 go_wp2_with fail
 refine hc1.out.mono ?_
 rintro e w1 ⟨rfl, hB1⟩
 go_wp2_with (first | (go_at_call 78; with_reducible refine (hl1.out _).mono ?_; rintro e w' ⟨rfl, rfl⟩) | (go_at_call 90; with_reducible refine (hd.out _ hB1).mono ?_; rintro e w' ⟨rfl, hB2⟩))
 go_ret
 exact ⟨rfl, below_and hB1 hB2⟩
end Go.Proofs.YtnldbplphgfpeaaGreat
namespace Go.Proofs.YtnldbplphgfpeaaGreat
open Go Go.RowKit Go.Shelf
set_option linter.unusedVariables false
set_option linter.unusedSimpArgs false
set_option maxHeartbeats 4000000
def strs (l : List ByteArray) : List Value := l.map Value.string
theorem strs_len (l : List ByteArray) : (strs l).length = l.length := by simp [strs]
theorem strs_one (l : List ByteArray) : ∀ u ∈ strs l, u.oneCell' = true := by
 intro u hu
 obtain ⟨x, _, rfl⟩ := List.mem_map.1 hu
 rfl
def hasL (l : List ByteArray) (s : ByteArray) : Bool := l.any fun x => s.toList == x.toList
def withL (l : List ByteArray) (s : ByteArray) : List ByteArray := if hasL l s then l else l ++ [s]
theorem withL_len (l : List ByteArray) (s : ByteArray) : (withL l s).length ≤ l.length + 1 := by unfold withL; split <;> simp
theorem Reads.str {w : World} {B n : Nat} {A : Option Addr} {l : List ByteArray} (h : Reads w B 1 A n (strs l)) {k : Nat} {x : ByteArray} (hx : l[k]? = some x) : ∃ ad, A = some ad ∧ k < n ∧ w.cell? (ad.add k) = some (.string x) ∧ (ad.add k).block < w.heap.size := by
 have hk := (List.getElem?_eq_some_iff.1 hx).1
 have hn : l.length = n := by have := h.1; rw [strs_len] at this; omega
 obtain ⟨ad, ha, hb, hc⟩ := h.2 (by omega)
 have h2 := hc k (.string x) (by simp [strs, hx])
 exact ⟨ad, ha, by omega, h2, cell_lt h2⟩
set_option maxRecDepth 100000 in
theorem index_ok (A : Option Addr) (n c B : Nat) (l : List ByteArray) (s : ByteArray) (w : World) (h : Reads w B 1 A n (strs l)) (hn : n ≤ 4611686018427387904) :
  Calls Tryz.prog 113 #[.slice A n c, .string s] w fun e w' => (∃ j : Int, e = .returned (.int .i64 j) ∧ (0 ≤ j ↔ hasL l s = true)) ∧ w = w' := by
 have hl : l.length = n := by have := h.1; rw [strs_len] at this; omega
 replace hl := Lib.hid hl
 go_enter Tryz.func113, Tryz.ntmps113
 go_wp2
 go_loop [8] (fun i => ∃ k : Nat, i = .int .i64 k ∧ k ≤ n ∧ ∀ (j : Nat) x, j < k → l[j]? = some x → (s.toList == x.toList) = false) (fun i => n - (intOf i).toNat)
 case atStart => exact ⟨0, rfl, Nat.zero_le _, fun j x h => absurd h (by omega)⟩
 case round =>
  obtain ⟨k, rfl, hk, hno⟩ := hrel
  have k0 : 0 ≤ (k : Int) := by omega
  by_cases hlt : k < n
  ·have hx : l[k]? = some (l[k]'(by have := hl.out; omega)) := List.getElem?_eq_getElem (by have := hl.out; omega)
   generalize l[k]'(by have := hl.out; omega) = x at hx
   obtain ⟨ad, rfl, _, hc, hb⟩ := h.str hx
   have k1 : (k : Int) < (n : Int) := by omega
   replace hx := Lib.hid hx
   replace hno := Lib.hid hno
   by_cases he : (s.toList == x.toList) = true
   ·have hhas : hasL l s = true := List.any_eq_true.2 ⟨x, List.mem_of_getElem? hx.out, he⟩
    replace hhas := Lib.hid hhas
    go_wp2
    go_ret
    exact ⟨⟨k, rfl, by simp [hhas.out]⟩, rfl⟩
   ·simp only [Bool.not_eq_true] at he
    have he' := Lib.hid he
    go_wp2
    go_round
    case rel =>
     refine ⟨k + 1, by go_num, by omega, fun j x' hj hx' => ?_⟩
     by_cases hjk : j = k
     ·subst hjk
      have := hx.out.symm.trans hx'
      cases this
      exact he'.out
     ·exact hno.out j x' (by omega) hx'
    case measure => simp [intOf]; omega
  ·obtain rfl : k = n := by omega
   have hhas : hasL l s = false := by
    cases hh : hasL l s with
    | false => rfl
    | true =>
     obtain ⟨x, hx, he⟩ := List.any_eq_true.1 hh
     obtain ⟨j, hj⟩ := List.mem_iff_getElem?.1 hx
     have := hno j x (by have := (List.getElem?_eq_some_iff.1 hj).1; have := hl.out; omega) hj
     rw [he] at this; cases this
   replace hhas := Lib.hid hhas
   replace hno := Lib.hid hno
   go_wp2
   go_ret
   exact ⟨⟨-1, rfl, by simp [hhas.out]⟩, rfl⟩
theorem contains_ok (A : Option Addr) (n c B : Nat) (l : List ByteArray) (s : ByteArray) (w : World) (h : Reads w B 1 A n (strs l)) (hn : n ≤ 4611686018427387904) :
  Calls Tryz.prog 108 #[.slice A n c, .string s] w fun e w' => e = .returned (.bool (hasL l s)) ∧ w = w' := by
 have hi := index_ok A n c B l s w h hn
 obtain ⟨b, hb⟩ : ∃ b, hasL l s = b := ⟨_, rfl⟩
 rw [hb] at hi ⊢
 replace hb := Lib.hid hb
 replace hi := Lib.hid hi
 go_enter Tryz.func108, Tryz.ntmps108
 go_wp2_with fail
 refine hi.out.mono ?_
 rintro e w' ⟨⟨j, rfl, hj⟩, rfl⟩
 cases b
 ·have hj' : ¬ 0 ≤ j := by simpa using hj
  replace hj' := Lib.hid hj'
  clear hj
  go_wp2
  go_ret
  exact ⟨ret_b (by simpa using hj'.out), rfl⟩
 ·have hj' : 0 ≤ j := by simpa using hj
  replace hj' := Lib.hid hj'
  clear hj
  go_wp2
  go_ret
  exact ⟨ret_b (by simpa using hj'.out), rfl⟩
theorem infoStr : (Tryz.prog.info? 9).map (fun i => (i.zero, i.size, i.bytes)) = some (some (.string ⟨#[]⟩), 1, 16) := by kernel_rfl
theorem own_cast {w : World} {base n n' : Nat} {e : TypeId} {size : Nat} {v : Value} {xs xs' : List Value} (h : w.ownsRow base e size v n xs) (hn : n = n') (hx : xs = xs') : w.ownsRow base e size v n' xs' := by
 subst hn; subst hx; exact h
set_option maxRecDepth 100000 in
theorem with_ok (base : Nat) (v : Value) (n : Nat) (l : List ByteArray) (s : ByteArray) (w : World) (hown : w.ownsRow base 9 1 v n (strs l)) (hbase : base ≤ w.heap.size) (hn : n ≤ 1000000) :
  Calls Tryz.prog 81 #[v, .string s] w fun e w' => ∃ v', e = .returned v' ∧ w'.ownsRow base 9 1 v' (withL l s).length (strs (withL l s)) ∧ w.grownBy w' v.ownBlock ∧ (v'.ownBlock = v.ownBlock ∨ ∃ g, v'.ownBlock = some g ∧ w.heap.size ≤ g) := by
 have hl : l.length = n := by have := hown.1; rw [strs_len] at this; omega
 obtain ⟨A, c, rfl⟩ := own_form hown
 obtain ⟨i0, hi, hz0, hz1, hz2⟩ := info_parts infoStr
 have hc := contains_ok A n c w.heap.size l s w (Reads.of_own hown) (by omega)
 obtain ⟨b, hb⟩ : ∃ b, hasL l s = b := ⟨_, rfl⟩
 rw [hb] at hc
 replace hc := Lib.hid hc
 cases b
 ·have hw : withL l s = l ++ [s] := by unfold withL; rw [hb]; rfl
  rw [hw]
  replace hw := Lib.hid hw
  replace hb := Lib.hid hb
  replace hl := Lib.hid hl
  have hbn := Blk.new w 9 #[.string s]
  have hr : Reads (w.alloc (.cells #[.string s] 9)) (w.heap.size + 1) 1 (some ⟨w.heap.size, 0, none⟩) 1 [.string s] :=
   ⟨rfl, fun _ => ⟨_, rfl, by simp, fun j u hu => by
    cases j with
    | zero => simp at hu; subst hu; exact hbn.cell 0
    | succ j => simp at hu⟩⟩
  go_enter Tryz.func81, Tryz.ntmps81
  go_wp2_with (first
   | (go_at_call 108; with_reducible refine hc.out.mono ?_; rintro e w' ⟨rfl, rfl⟩)
   | (at_builtin; refine wpList_append_any _ rfl (.tmp 9) (.tmp 11) 44 rfl base 9 i0 _ 1 16 Tryz.underlying44 hi hz0 hz1 hz2 rfl (by omega) (.slice A n c) n (strs l) rfl (hown.alloc _) (w.heap.size + 1) (some ⟨w.heap.size, 0, none⟩) 1 1 [.string s] rfl hr (by simp [Value.oneCell']) (by simp only [maxLen]; omega) (by omega) (by simp; omega) ?_; intro v1 w1 hown1 hg1 hv1))
  go_ret
  refine ⟨_, rfl, own_cast hown1 (by have := hl.out; simp; omega) (by simp [strs]), ?_, ?_⟩
  ·exact (World.grownBy_alloc _ _ _).trans hg1
  ·rcases hv1 with h | h
   ·exact .inl h
   ·exact .inr ⟨_, h, by simp⟩
 ·have hw : withL l s = l := by unfold withL; rw [hb]; rfl
  rw [hw]
  replace hw := Lib.hid hw
  replace hb := Lib.hid hb
  replace hl := Lib.hid hl
  go_enter Tryz.func81, Tryz.ntmps81
  go_wp2_with (go_at_call 108; with_reducible refine hc.out.mono ?_; rintro e w' ⟨rfl, rfl⟩)
  go_ret
  exact ⟨_, rfl, own_cast hown hl.out.symm rfl, World.grownBy.refl _ _, .inl rfl⟩
def stepN {α : Type} (acc : List ByteArray) (x : Ex α) : List ByteArray := if x.h.kd = 2 ∨ x.h.kd = 3 then withL acc x.h.nm else acc
def namesE {α : Type} (e : Ex α) : List ByteArray := e.nodes.foldl stepN []
def stepC {α : Type} (acc : List ByteArray) (x : St α) : List ByteArray := if x.h.kd = 8 then withL acc x.h.nm else acc
def callsS {α : Type} (l : List (St α)) : List ByteArray := (nodesS l).foldl stepC []
theorem foldN_take {α : Type} {l : List (Ex α)} {k : Nat} {x : Ex α} (h : l[k]? = some x) (acc : List ByteArray) : (l.take (k + 1)).foldl stepN acc = stepN ((l.take k).foldl stepN acc) x := by
 obtain ⟨hk, e⟩ := List.getElem?_eq_some_iff.1 h
 rw [List.take_succ_eq_append_getElem hk, List.foldl_append, e]; rfl
theorem foldC_take {α : Type} {l : List (St α)} {k : Nat} {x : St α} (h : l[k]? = some x) (acc : List ByteArray) : (l.take (k + 1)).foldl stepC acc = stepC ((l.take k).foldl stepC acc) x := by
 obtain ⟨hk, e⟩ := List.getElem?_eq_some_iff.1 h
 rw [List.take_succ_eq_append_getElem hk, List.foldl_append, e]; rfl
theorem foldN_len {α : Type} : ∀ (l : List (Ex α)) (acc : List ByteArray), (l.foldl stepN acc).length ≤ acc.length + l.length
 | [], acc => by simp
 | x :: l, acc => by
  have h1 := foldN_len l (stepN acc x)
  have h2 : (stepN acc x).length ≤ acc.length + 1 := by
   unfold stepN
   split
   ·exact withL_len _ _
   ·omega
  simp only [List.foldl_cons, List.length_cons]; omega
theorem foldC_len {α : Type} : ∀ (l : List (St α)) (acc : List ByteArray), (l.foldl stepC acc).length ≤ acc.length + l.length
 | [], acc => by simp
 | x :: l, acc => by
  have h1 := foldC_len l (stepC acc x)
  have h2 : (stepC acc x).length ≤ acc.length + 1 := by
   unfold stepC
   split
   ·exact withL_len _ _
   ·omega
  simp only [List.foldl_cons, List.length_cons]; omega
attribute [local go_sem] Oper.semAt_some
set_option maxRecDepth 100000 in
theorem names_in (m : Nat) (e : Ex Loc) (w : World) (hok : e.ok eT w) (hs : e.sz ≤ 20000) :
  CallsIn Fence.wide m Tryz.prog 11 #[aggX e] w fun r w' => (∃ v, r = .returned v ∧ w'.ownsRow w.heap.size 9 1 v (namesE e).length (strs (namesE e))) ∧ Below w.heap.size w w' := by
 have hc := fun w2 (hB2 : Below w.heap.size w w2) => countE0 e w2 (hok.below hB2)
 have hl := lightE e hs
 obtain ⟨⟨xk, xo, xv, xw, xn⟩, ⟨xA, xc⟩, xs⟩ := e
 obtain ⟨c, hcc⟩ : ∃ c, c = capE 0 (Ex.mk ⟨xk, xo, xv, xw, xn⟩ ⟨xA, xc⟩ xs).sz := ⟨_, rfl⟩
 rw [← hcc] at hc hl
 replace hcc := Lib.hid hcc
 obtain ⟨R, hR⟩ : ∃ R, R = namesE (Ex.mk ⟨xk, xo, xv, xw, xn⟩ ⟨xA, xc⟩ xs) := ⟨_, rfl⟩
 rw [← hR]
 replace hR := Lib.hid hR
 replace hs := Lib.hid hs
 simp only [aggX, Ex.cells, eT] at hc ⊢
 replace hc := Lib.hid hc
 replace hl := Lib.hid hl
 refine callsIn_of_wp_marks Tryz.func11 rfl trivial ?_ rfl
 simp only [Tryz.ntmps11, List.size_toArray, List.length_cons, List.length_nil, Nat.reduceAdd, Nat.reduceSub, Array.replicate_succ, Array.replicate_zero, List.push_toArray, List.append_toArray, List.nil_append, List.cons_append]
 have hB0 : Below w.heap.size w ((w.alloc (.cells #[.int .u8 xk, .int .u8 xo, .int .u32 xv, .int .i64 xw, .string xn, .slice xA xs.length xc] 30)).alloc (.cells #[.slice none 0 0] 44)) := ((Below.refl _ _).alloc (Nat.le_refl _) _).alloc (by simp) _
 have hbe := (Blk.new w 30 #[.int .u8 xk, .int .u8 xo, .int .u32 xv, .int .i64 xw, .string xn, .slice xA xs.length xc]).alloc (.cells #[.slice none 0 0] 44)
 have hbo := Blk.new (w.alloc (.cells #[.int .u8 xk, .int .u8 xo, .int .u32 xv, .int .i64 xw, .string xn, .slice xA xs.length xc] 30)) 44 #[.slice none 0 0]
 rw [World.size_alloc] at hbo
 refine wpIn_wide.2 ?_
 go_wp2_with fail
 have hle := hbe.lt
 have hlo := hbo.lt
 generalize (w.alloc (.cells #[.int .u8 xk, .int .u8 xo, .int .u32 xv, .int .i64 xw, .string xn, .slice xA xs.length xc] 30)).alloc (.cells #[.slice none 0 0] 44) = W0 at *
 refine (hc.out _ hB0).mono ?_
 rintro e w1 ⟨rfl, hB1⟩
 have hB01 := below_and hB0 hB1
 have hbe1 := hbe.below hB1 hle
 have hbo1 := hbo.below hB1 hlo
 have c0 := hbe1.cell 0
 have c1 := hbe1.cell 1
 have c2 := hbe1.cell 2
 have c3 := hbe1.cell 3
 have c4 := hbe1.cell 4
 have c5 := hbe1.cell 5
 simp only [List.getElem?_toArray, List.getElem?_cons_zero, List.getElem?_cons_succ] at c0 c1 c2 c3 c4 c5
 have hl1 := hbe1.lt
 go_wp2_with (first | (go_at_call 78; with_reducible refine (hl.out _).mono ?_; rintro e w' ⟨rfl, rfl⟩) | (go_at_call 80; refine (exprs_ok ⟨xk, xo, xv, xw, xn⟩ ⟨xA, xc⟩ xs _).mono ?_; rintro e w' ⟨rfl, rfl⟩))
 have hB2 := (Below.refl _ w1).alloc (Nat.le_refl _) (.cells #[.int .u8 xk, .int .u8 xo, .int .u32 xv, .int .i64 xw, .string xn, .slice xA xs.length xc] 30)
 have hbx := Blk.new w1 30 #[.int .u8 xk, .int .u8 xo, .int .u32 xv, .int .i64 xw, .string xn, .slice xA xs.length xc]
 have hbo2 := hbo1.below hB2 hbo1.lt
 have hB02 := below_and hB01 hB2
 generalize w1.alloc (.cells #[.int .u8 xk, .int .u8 xo, .int .u32 xv, .int .i64 xw, .string xn, .slice xA xs.length xc] 30) = W2 at *
 obtain ⟨Bo, hBo⟩ : ∃ Bo, w.heap.size + 1 = Bo := ⟨_, rfl⟩
 obtain ⟨Bx, hBx⟩ : ∃ Bx, w1.heap.size = Bx := ⟨_, rfl⟩
 rw [hBo] at hbo2 ⊢
 rw [hBx] at hbx ⊢
 clear hbe hbo hbe1 hbo1 c0 c1 c2 c3 c4 c5 hle hlo hl1 hB1 hB01 hB2 hBx
 clear w1 hB0
 clear W0
 have hwo : w.heap.size ≤ Bo := by omega
 replace hBo := Lib.hid hBo
 have hlW2 := hB02.size
 refine (wpIn_wide (n := m)).1 ?_
 rename_i hcont
 replace hcont := Lib.hid hcont
 refine wpIn_range3 rfl (enters_of Tryz.func107 (by kernel_rfl) rfl) (seqE (Ex.mk ⟨xk, xo, xv, xw, xn⟩ ⟨xA, xc⟩ xs) Bx) (fun _ => rfl)
  (fun fp pre W => ∃ v, fp = Bo :: v.ownBlock.toList ∧ Blk W Bo 44 #[v] ∧ W.ownsRow w.heap.size 9 1 v (((Ex.mk ⟨xk, xo, xv, xw, xn⟩ (⟨xA, xc⟩ : Loc) xs).nodes.take pre.length).foldl stepN []).length (strs (((Ex.mk ⟨xk, xo, xv, xw, xn⟩ (⟨xA, xc⟩ : Loc) xs).nodes.take pre.length).foldl stepN [])) ∧ Blk W Bx 30 #[.int .u8 xk, .int .u8 xo, .int .u32 xv, .int .i64 xw, .string xn, .slice xA xs.length xc] ∧ Below w.heap.size w W)
  (fun _ _ _ => False)
  (fun fp s A A' row hs hg hr => by
   obtain ⟨v, h1, h2, h3, h4, h5⟩ := hs
   exact ⟨v, h1, h2.ck (cellsKept_of_grown hg hr), own_ck h3 (cellsKept_of_grown hg hr), h4.ck (cellsKept_of_grown hg hr), below_ck h5 (Nat.le_refl _) (cellsKept_of_grown hg hr) hlW2⟩)
  (fun _ _ _ _ _ h _ _ => h)
  (fun fp pre W h => by obtain ⟨v, h1, h2, h3, h4, h5⟩ := h; exact ⟨h4, hok.below h5⟩)
  (fun fp pre W h k hk => by
   obtain ⟨v, rfl, h2, h3, h4, h5⟩ := h
   rcases List.mem_cons.1 hk with e | hk
   ·rw [e]; exact h2.lt
   ·exact (h3.lt k (by simpa using hk)).2) [Bo] ⟨.slice none 0 0, rfl, hbo2, World.ownsRow_nil _ _ _ _, hbx, hB02⟩
  (AxB 30 (fun y => (y.cells eT).toArray) aggX 10 4 (fun pre y => (Ex.mk ⟨xk, xo, xv, xw, xn⟩ (⟨xA, xc⟩ : Loc) xs).nodes[pre.length]? = some y)) own_axB ?assign ?body ?done ?hE ?stop
 case assign =>
  intro l2 m2 fp pre2 y W3 K hI hX hK
  replace hK := Lib.hid hK
  obtain ⟨v, h1, h2, h3, h4, h5⟩ := hI
  obtain ⟨⟨yk, yo, yv, yw, yn⟩, ⟨yA, yc⟩, ys⟩ := y
  simp only [aggX, Ex.cells, eT]
  replace h1 := Lib.hid h1
  gi_wp2
  have hnew := Blk.new W3 30 #[.int .u8 yk, .int .u8 yo, .int .u32 yv, .int .i64 yw, .string yn, .slice yA ys.length yc]
  have hB3 := (Below.refl _ W3).alloc (Nat.le_refl _) (.cells #[.int .u8 yk, .int .u8 yo, .int .u32 yv, .int .i64 yw, .string yn, .slice yA ys.length yc] 30)
  have hfin := fun a' h => hK.out a' _ (only_of_below [] hB3) ⟨v, h1.out, h2.below hB3 h2.lt, h3.alloc _, h4.below hB3 h4.lt, below_and h5 hB3⟩ ⟨_, h, hnew, hX⟩
  clear hnew hB3
  generalize W3.heap.size = N at hfin ⊢
  refine hfin _ ?_
  simp only [updB, aggX, Ex.cells, eT, List.setIfInBounds_toArray, List.set_cons_succ, List.set_cons_zero]
 case body =>
  rintro l2 m2 fp pre y a' W3 ⟨v, rfl, h2, h3, h4, h5⟩ ⟨N, rfl, hN, hX⟩
  have hstep := foldN_take hX []
  have hlen := foldN_len ((Ex.mk ⟨xk, xo, xv, xw, xn⟩ (⟨xA, xc⟩ : Loc) xs).nodes.take pre.length) []
  have hpl := (List.getElem?_eq_some_iff.1 hX).1
  rw [Ex.nodes_len] at hpl
  have hs' := hs.out
  rw [List.length_take] at hlen
  simp only [List.length_nil, Nat.zero_add] at hlen
  obtain ⟨cur, hcur⟩ : ∃ cur, cur = ((Ex.mk ⟨xk, xo, xv, xw, xn⟩ (⟨xA, xc⟩ : Loc) xs).nodes.take pre.length).foldl stepN [] := ⟨_, rfl⟩
  rw [← hcur] at h3 hstep hlen
  have hl6 : cur.length ≤ 1000000 := by omega
  obtain ⟨⟨yk, yo, yv, yw, yn⟩, ⟨yA, yc⟩, ys⟩ := y
  clear hlen hpl hs' hcur
  replace hstep := Lib.hid hstep
  replace hX := Lib.hid hX
  have f0 := h2.cell 0
  have f1 := h2.frozen 0
  have g0 := hN.cell 0
  have g4 := hN.cell 4
  simp only [Ex.cells, eT, List.getElem?_toArray, List.getElem?_cons_zero, List.getElem?_cons_succ] at f0 g0 g4
  have hol := h2.lt
  have hNl := hN.lt
  have hcall := with_ok w.heap.size v cur.length cur yn W3 h3 h5.size hl6
  have hvo : some Bo ≠ v.ownBlock := fun e => own_blk_ne h3 h2 (by decide) e.symm
  have hvx : some Bx ≠ v.ownBlock := fun e => own_blk_ne h3 h4 (by decide) e.symm
  have hbxo : Bx ≠ Bo := Blk.ne_ h4 h2 (by decide)
  replace hcall := Lib.hid hcall
  simp only [updB, aggX, Ex.cells, eT, List.setIfInBounds_toArray, List.set_cons_succ, List.set_cons_zero]
  by_cases hk : yk = 2 ∨ yk = 3
  ·have hst : ((Ex.mk ⟨xk, xo, xv, xw, xn⟩ (⟨xA, xc⟩ : Loc) xs).nodes.take (pre.length + 1)).foldl stepN [] = withL cur yn := by
    rw [hstep.out]; show (if yk = 2 ∨ yk = 3 then withL cur yn else cur) = _; rw [if_pos hk]
   replace hst := Lib.hid hst
   have hfin : ∀ v' w5, w5.ownsRow w.heap.size 9 1 v' (withL cur yn).length (strs (withL cur yn)) → W3.grownBy w5 v.ownBlock → (v'.ownBlock = v.ownBlock ∨ ∃ g, v'.ownBlock = some g ∧ W3.heap.size ≤ g) →
     Only (Bo :: v.ownBlock.toList) W3 (w5.setCell ⟨Bo, 0, none⟩ v') ∧ ∃ fp', (∃ v, fp' = Bo :: v.ownBlock.toList ∧ Blk (w5.setCell ⟨Bo, 0, none⟩ v') Bo 44 #[v] ∧ (w5.setCell ⟨Bo, 0, none⟩ v').ownsRow w.heap.size 9 1 v (((Ex.mk ⟨xk, xo, xv, xw, xn⟩ (⟨xA, xc⟩ : Loc) xs).nodes.take (pre ++ [Ex.mk ⟨yk, yo, yv, yw, yn⟩ ⟨yA, yc⟩ ys]).length).foldl stepN []).length (strs (((Ex.mk ⟨xk, xo, xv, xw, xn⟩ (⟨xA, xc⟩ : Loc) xs).nodes.take (pre ++ [Ex.mk ⟨yk, yo, yv, yw, yn⟩ ⟨yA, yc⟩ ys]).length).foldl stepN [])) ∧ Blk (w5.setCell ⟨Bo, 0, none⟩ v') Bx 30 #[.int .u8 xk, .int .u8 xo, .int .u32 xv, .int .i64 xw, .string xn, .slice xA xs.length xc] ∧ Below w.heap.size w (w5.setCell ⟨Bo, 0, none⟩ v')) ∧ ∀ k, k ∈ fp' → k ∈ Bo :: v.ownBlock.toList ∨ W3.heap.size ≤ k := by
    intro v' w5 hown hg hv'
    have h25 := h2.grown hg hvo
    have hB5 : Below w.heap.size w w5 := h5.grown hg h5.size (fun k hk => (h3.lt k hk).1)
    refine ⟨((Only.refl _ _).grown hg (fun k hk => .inl (by simp [hk]))).setCell (.inl (by simp)) _, _, ⟨v', rfl, ?_, ?_, (h4.grown hg hvx).far (p := ⟨Bo, 0, none⟩) hbxo _, hB5.setCell hwo _⟩, fun k hk => ?_⟩
    ·have := h25.set_ 0 v'
     simpa using this
    ·rw [List.length_append, List.length_singleton, hst.out]
     refine own_only hown (fp := [Bo]) ((Only.refl _ _).setCell (.inl (by simp)) _) (fun k hk hm => ?_)
     simp at hm
     subst hm
     exact own_blk_ne hown h25 (by decide) hk
    ·rcases List.mem_cons.1 hk with e | hk
     ·exact .inl (by rw [e]; simp)
     ·simp only [Option.mem_toList] at hk
      rcases hv' with e | ⟨g, e, hg'⟩
      ·exact .inl (by rw [e] at hk; simp [hk])
      ·rw [e] at hk
       cases hk
       exact .inr hg'
   replace hfin := Lib.hid hfin
   by_cases hk2 : yk = 2
   ·subst hk2
    gi_wp2_with (refine ⟨trivial, no_depth, ?_⟩; gi_at_call 81; refine ((callsIn_wide.2 hcall.out).inRound l2).mono ?_; rintro e w5 ⟨v', rfl, hown, hg, hv'⟩; obtain ⟨A', c', rfl⟩ := own_form hown; have h25 := h2.grown hg hvo; have f5 := h25.cell 0; have f6 := h25.frozen 0; simp only [List.getElem?_toArray, List.getElem?_cons_zero] at f5; have hl5 := h25.lt)
    exact hfin.out _ w5 hown hg hv'
   ·have hk3 : yk = 3 := by rcases hk with h | h; exact absurd h hk2; exact h
    subst hk3
    gi_wp2_with (refine ⟨trivial, no_depth, ?_⟩; gi_at_call 81; refine ((callsIn_wide.2 hcall.out).inRound l2).mono ?_; rintro e w5 ⟨v', rfl, hown, hg, hv'⟩; obtain ⟨A', c', rfl⟩ := own_form hown; have h25 := h2.grown hg hvo; have f5 := h25.cell 0; have f6 := h25.frozen 0; simp only [List.getElem?_toArray, List.getElem?_cons_zero] at f5; have hl5 := h25.lt)
    exact hfin.out _ w5 hown hg hv'
  ·have hst : ((Ex.mk ⟨xk, xo, xv, xw, xn⟩ (⟨xA, xc⟩ : Loc) xs).nodes.take (pre.length + 1)).foldl stepN [] = cur := by
    rw [hstep.out]; show (if yk = 2 ∨ yk = 3 then withL cur yn else cur) = _; rw [if_neg hk]
   replace hst := Lib.hid hst
   have hk2 : (yk == 2) = false := by simp; intro h; exact hk (.inl h)
   have hk3 : (yk == 3) = false := by simp; intro h; exact hk (.inr h)
   clear hk
   gi_wp2
   refine ⟨Only.refl _ _, _, ⟨v, rfl, h2, ?_, h4, h5⟩, fun k hk => .inl hk⟩
   rw [List.length_append, List.length_singleton, hst.out]
   exact h3
 case done =>
  rintro D fp pre W3 hD hlen ⟨v, h1, h2, h3, h4, h5⟩ hDn hDm
  rw [hlen, ← Ex.nodes_len, List.take_length] at h3
  have f0 := h2.cell 0
  simp only [List.getElem?_toArray, List.getElem?_cons_zero] at f0
  have hol := h2.lt
  replace h1 := Lib.hid h1
  replace hlen := Lib.hid hlen
  refine hcont.out _ _ ?_
  go_wp2
  exact leaves_one hDm ⟨_, results_tmp rfl _ _ _, ⟨v, rfl, by rw [hR.out]; exact ownsRow_putObj h3 _ hDm rfl⟩, h5.trans (belowK_b (w := w) (Nat.le_refl _) W3 D _ _ (by omega) hDm rfl rfl)⟩
 case hE => intro _ _ _ _ _ _ _ _ h; exact h
 case stop => rintro _ _ _ _ _ h; exact h.elim
theorem names_ok (e : Ex Loc) (w : World) (hok : e.ok eT w) (hs : e.sz ≤ 20000) :
  Calls Tryz.prog 11 #[aggX e] w fun r w' => (∃ v, r = .returned v ∧ w'.ownsRow w.heap.size 9 1 v (namesE e).length (strs (namesE e))) ∧ Below w.heap.size w w' := callsIn_wide.1 (names_in 0 e w hok hs)
theorem nodesS_len_le {α : Type} (l : List (St α)) : (nodesS l).length ≤ szS l := by
 have h : ∀ N : List (St α), N.length ≤ wtS N := by
  intro N
  induction N with
  | nil => exact Nat.le_refl _
  | cons x N ih => simp only [wtS, List.map_cons, List.sum_cons, List.length_cons] at ih ⊢; omega
 have := h (nodesS l)
 rw [wt_nodesS] at this; exact this
set_option maxRecDepth 100000 in
theorem calls_in (m : Nat) (ls : List (St Loc)) (lc : Loc) (w : World) (hok : Lst.ok eT w lc ls) (hs : szS ls ≤ 20000) :
  CallsIn Fence.wide m Tryz.prog 18 #[.slice lc.A ls.length lc.c] w fun r w' => (∃ v, r = .returned v ∧ w'.ownsRow w.heap.size 9 1 v (callsS ls).length (strs (callsS ls))) ∧ Below w.heap.size w w' := by
 have hc := fun w2 (hB2 : Below w.heap.size w w2) => countS0 ls lc (thin_of hs) w2 (hok.all (keeps_below hB2))
 have hl := lightS ls hs
 obtain ⟨n, hn⟩ : ∃ n, n = ls.length := ⟨_, rfl⟩
 rw [← hn] at hc ⊢
 replace hn := Lib.hid hn
 obtain ⟨c, hcc⟩ : ∃ c, c = cntL (nodesS ls) 0 := ⟨_, rfl⟩
 rw [← hcc] at hc hl
 replace hcc := Lib.hid hcc
 obtain ⟨R, hR⟩ : ∃ R, R = callsS ls := ⟨_, rfl⟩
 rw [← hR]
 replace hR := Lib.hid hR
 replace hs := Lib.hid hs
 replace hc := Lib.hid hc
 replace hl := Lib.hid hl
 refine callsIn_of_wp_marks Tryz.func18 rfl trivial ?_ rfl
 simp only [Tryz.ntmps18, List.size_toArray, List.length_cons, List.length_nil, Nat.reduceAdd, Nat.reduceSub, Array.replicate_succ, Array.replicate_zero, List.push_toArray, List.append_toArray, List.nil_append, List.cons_append]
 have hB0 : Below w.heap.size w (w.alloc (.cells #[.slice none 0 0] 44)) := (Below.refl _ _).alloc (Nat.le_refl _) _
 have hbo := Blk.new w 44 #[.slice none 0 0]
 refine wpIn_wide.2 ?_
 go_wp2_with fail
 have hlo := hbo.lt
 generalize w.alloc (.cells #[.slice none 0 0] 44) = W0 at *
 refine (hc.out _ hB0).mono ?_
 rintro e w1 ⟨rfl, hB1⟩
 have hB01 := below_and hB0 hB1
 have hbo1 := hbo.below hB1 hlo
 go_wp2_with (first | (go_at_call 78; with_reducible refine (hl.out _).mono ?_; rintro e w' ⟨rfl, rfl⟩) | (go_at_call 89; refine (stmts_ok lc.A n lc.c _).mono ?_; rintro e w' ⟨rfl, rfl⟩))
 have hB2 := (Below.refl _ w1).alloc (Nat.le_refl _) (.cells #[.slice lc.A n lc.c] 33)
 have hbx := Blk.new w1 33 #[.slice lc.A n lc.c]
 have hbo2 := hbo1.below hB2 hbo1.lt
 have hB02 := below_and hB01 hB2
 generalize w1.alloc (.cells #[.slice lc.A n lc.c] 33) = W2 at *
 obtain ⟨Bo, hBo⟩ : ∃ Bo, w.heap.size = Bo := ⟨_, rfl⟩
 obtain ⟨Bx, hBx⟩ : ∃ Bx, w1.heap.size = Bx := ⟨_, rfl⟩
 rw [hBo] at hbo2 ⊢
 rw [hBx] at hbx ⊢
 clear hbo hbo1 hlo hB1 hB01 hB2 hBx
 clear w1 hB0
 clear W0
 have hwo : w.heap.size ≤ Bo := by omega
 replace hBo := Lib.hid hBo
 have hlW2 := hB02.size
 refine (wpIn_wide (n := m)).1 ?_
 rename_i hcont
 replace hcont := Lib.hid hcont
 refine wpIn_range3 rfl (enters_of Tryz.func112 (by kernel_rfl) rfl) (seqS ls lc Bx) (fun _ => rfl)
  (fun fp pre W => ∃ v, fp = Bo :: v.ownBlock.toList ∧ Blk W Bo 44 #[v] ∧ W.ownsRow w.heap.size 9 1 v (((nodesS ls).take pre.length).foldl stepC []).length (strs (((nodesS ls).take pre.length).foldl stepC [])) ∧ Blk W Bx 33 #[.slice lc.A n lc.c] ∧ Below w.heap.size w W)
  (fun _ _ _ => False)
  (fun fp s A A' row hs hg hr => by
   obtain ⟨v, h1, h2, h3, h4, h5⟩ := hs
   exact ⟨v, h1, h2.ck (cellsKept_of_grown hg hr), own_ck h3 (cellsKept_of_grown hg hr), h4.ck (cellsKept_of_grown hg hr), below_ck h5 (Nat.le_refl _) (cellsKept_of_grown hg hr) hlW2⟩)
  (fun _ _ _ _ _ h _ _ => h)
  (fun fp pre W h => by obtain ⟨v, h1, h2, h3, h4, h5⟩ := h; exact ⟨by rw [← hn.out]; exact h4, hok.all (keeps_below h5)⟩)
  (fun fp pre W h k hk => by
   obtain ⟨v, rfl, h2, h3, h4, h5⟩ := h
   rcases List.mem_cons.1 hk with e | hk
   ·rw [e]; exact h2.lt
   ·exact (h3.lt k (by simpa using hk)).2) [Bo] ⟨.slice none 0 0, rfl, hbo2, World.ownsRow_nil _ _ _ _, hbx, hB02⟩
  (AxB 40 (fun y => (y.cells eT).toArray) aggS 10 4 (fun pre y => (nodesS ls)[pre.length]? = some y)) own_axB ?assign ?body ?done ?hE ?stop
 case assign =>
  intro l2 m2 fp pre2 y W3 K hI hX hK
  replace hK := Lib.hid hK
  obtain ⟨v, h1, h2, h3, h4, h5⟩ := hI
  obtain ⟨⟨yk, yn, yb⟩, ⟨yA, yc⟩, ⟨zA, zc⟩, ⟨vA, vc⟩, yx, yt, ye⟩ := y
  simp only [aggS, St.cells, eT]
  replace h1 := Lib.hid h1
  gi_wp2
  have hnew := Blk.new W3 40 #[.int .u8 yk, .string yn, .slice yA yx.length yc, .int .i64 yb, .slice zA yt.length zc, .slice vA ye.length vc]
  have hB3 := (Below.refl _ W3).alloc (Nat.le_refl _) (.cells #[.int .u8 yk, .string yn, .slice yA yx.length yc, .int .i64 yb, .slice zA yt.length zc, .slice vA ye.length vc] 40)
  have hfin := fun a' h => hK.out a' _ (only_of_below [] hB3) ⟨v, h1.out, h2.below hB3 h2.lt, h3.alloc _, h4.below hB3 h4.lt, below_and h5 hB3⟩ ⟨_, h, hnew, hX⟩
  clear hnew hB3
  generalize W3.heap.size = N at hfin ⊢
  refine hfin _ ?_
  simp only [updB, aggS, St.cells, eT, List.setIfInBounds_toArray, List.set_cons_succ, List.set_cons_zero]
 case body =>
  rintro l2 m2 fp pre y a' W3 ⟨v, rfl, h2, h3, h4, h5⟩ ⟨N, rfl, hN, hX⟩
  have hstep := foldC_take hX []
  have hlen := foldC_len ((nodesS ls).take pre.length) []
  have hpl := (List.getElem?_eq_some_iff.1 hX).1
  have hwl := nodesS_len_le ls
  have hs' := hs.out
  rw [List.length_take] at hlen
  simp only [List.length_nil, Nat.zero_add] at hlen
  obtain ⟨cur, hcur⟩ : ∃ cur, cur = ((nodesS ls).take pre.length).foldl stepC [] := ⟨_, rfl⟩
  rw [← hcur] at h3 hstep hlen
  have hl6 : cur.length ≤ 1000000 := by omega
  obtain ⟨⟨yk, yn, yb⟩, ⟨yA, yc⟩, ⟨zA, zc⟩, ⟨vA, vc⟩, yx, yt, ye⟩ := y
  clear hlen hpl hs' hcur
  replace hstep := Lib.hid hstep
  replace hX := Lib.hid hX
  have f0 := h2.cell 0
  have f1 := h2.frozen 0
  have g0 := hN.cell 0
  have g4 := hN.cell 1
  simp only [St.cells, eT, List.getElem?_toArray, List.getElem?_cons_zero, List.getElem?_cons_succ] at f0 g0 g4
  have hol := h2.lt
  have hNl := hN.lt
  have hcall := with_ok w.heap.size v cur.length cur yn W3 h3 h5.size hl6
  have hvo : some Bo ≠ v.ownBlock := fun e => own_blk_ne h3 h2 (by decide) e.symm
  have hvx : some Bx ≠ v.ownBlock := fun e => own_blk_ne h3 h4 (by decide) e.symm
  have hbxo : Bx ≠ Bo := Blk.ne_ h4 h2 (by decide)
  replace hcall := Lib.hid hcall
  simp only [updB, aggS, St.cells, eT, List.setIfInBounds_toArray, List.set_cons_succ, List.set_cons_zero]
  by_cases hk : yk = 8
  ·have hst : ((nodesS ls).take (pre.length + 1)).foldl stepC [] = withL cur yn := by
    rw [hstep.out]; show (if yk = 8 then withL cur yn else cur) = _; rw [if_pos hk]
   replace hst := Lib.hid hst
   have hfin : ∀ v' w5, w5.ownsRow w.heap.size 9 1 v' (withL cur yn).length (strs (withL cur yn)) → W3.grownBy w5 v.ownBlock → (v'.ownBlock = v.ownBlock ∨ ∃ g, v'.ownBlock = some g ∧ W3.heap.size ≤ g) →
     Only (Bo :: v.ownBlock.toList) W3 (w5.setCell ⟨Bo, 0, none⟩ v') ∧ ∃ fp', (∃ v, fp' = Bo :: v.ownBlock.toList ∧ Blk (w5.setCell ⟨Bo, 0, none⟩ v') Bo 44 #[v] ∧ (w5.setCell ⟨Bo, 0, none⟩ v').ownsRow w.heap.size 9 1 v (((nodesS ls).take (pre ++ [St.mk ⟨yk, yn, yb⟩ ⟨yA, yc⟩ ⟨zA, zc⟩ ⟨vA, vc⟩ yx yt ye]).length).foldl stepC []).length (strs (((nodesS ls).take (pre ++ [St.mk ⟨yk, yn, yb⟩ ⟨yA, yc⟩ ⟨zA, zc⟩ ⟨vA, vc⟩ yx yt ye]).length).foldl stepC [])) ∧ Blk (w5.setCell ⟨Bo, 0, none⟩ v') Bx 33 #[.slice lc.A n lc.c] ∧ Below w.heap.size w (w5.setCell ⟨Bo, 0, none⟩ v')) ∧ ∀ k, k ∈ fp' → k ∈ Bo :: v.ownBlock.toList ∨ W3.heap.size ≤ k := by
    intro v' w5 hown hg hv'
    have h25 := h2.grown hg hvo
    have hB5 : Below w.heap.size w w5 := h5.grown hg h5.size (fun k hk => (h3.lt k hk).1)
    refine ⟨((Only.refl _ _).grown hg (fun k hk => .inl (by simp [hk]))).setCell (.inl (by simp)) _, _, ⟨v', rfl, ?_, ?_, (h4.grown hg hvx).far (p := ⟨Bo, 0, none⟩) hbxo _, hB5.setCell hwo _⟩, fun k hk => ?_⟩
    ·have := h25.set_ 0 v'
     simpa using this
    ·rw [List.length_append, List.length_singleton, hst.out]
     refine own_only hown (fp := [Bo]) ((Only.refl _ _).setCell (.inl (by simp)) _) (fun k hk hm => ?_)
     simp at hm
     subst hm
     exact own_blk_ne hown h25 (by decide) hk
    ·rcases List.mem_cons.1 hk with e | hk
     ·exact .inl (by rw [e]; simp)
     ·simp only [Option.mem_toList] at hk
      rcases hv' with e | ⟨g, e, hg'⟩
      ·exact .inl (by rw [e] at hk; simp [hk])
      ·rw [e] at hk
       cases hk
       exact .inr hg'
   replace hfin := Lib.hid hfin
   subst hk
   gi_wp2_with (refine ⟨trivial, no_depth, ?_⟩; gi_at_call 81; refine ((callsIn_wide.2 hcall.out).inRound l2).mono ?_; rintro e w5 ⟨v', rfl, hown, hg, hv'⟩; obtain ⟨A', c', rfl⟩ := own_form hown; have h25 := h2.grown hg hvo; have f5 := h25.cell 0; have f6 := h25.frozen 0; simp only [List.getElem?_toArray, List.getElem?_cons_zero] at f5; have hl5 := h25.lt)
   exact hfin.out _ w5 hown hg hv'
  ·have hst : ((nodesS ls).take (pre.length + 1)).foldl stepC [] = cur := by
    rw [hstep.out]; show (if yk = 8 then withL cur yn else cur) = _; rw [if_neg hk]
   replace hst := Lib.hid hst
   have hk2 : (yk == 8) = false := by simp; exact hk
   clear hk
   gi_wp2
   refine ⟨Only.refl _ _, _, ⟨v, rfl, h2, ?_, h4, h5⟩, fun k hk => .inl hk⟩
   rw [List.length_append, List.length_singleton, hst.out]
   exact h3
 case done =>
  rintro D fp pre W3 hD hlen ⟨v, h1, h2, h3, h4, h5⟩ hDn hDm
  rw [hlen, List.take_length] at h3
  have f0 := h2.cell 0
  simp only [List.getElem?_toArray, List.getElem?_cons_zero] at f0
  have hol := h2.lt
  replace h1 := Lib.hid h1
  replace hlen := Lib.hid hlen
  refine hcont.out _ _ ?_
  go_wp2
  exact leaves_one hDm ⟨_, results_tmp rfl _ _ _, ⟨v, rfl, by rw [hR.out]; exact ownsRow_putObj h3 _ hDm rfl⟩, h5.trans (belowK_b (w := w) (Nat.le_refl _) W3 D _ _ (by omega) hDm rfl rfl)⟩
 case hE => intro _ _ _ _ _ _ _ _ h; exact h
 case stop => rintro _ _ _ _ _ h; exact h.elim
theorem calls_ok (ls : List (St Loc)) (lc : Loc) (w : World) (hok : Lst.ok eT w lc ls) (hs : szS ls ≤ 20000) :
  Calls Tryz.prog 18 #[.slice lc.A ls.length lc.c] w fun r w' => (∃ v, r = .returned v ∧ w'.ownsRow w.heap.size 9 1 v (callsS ls).length (strs (callsS ls))) ∧ Below w.heap.size w w' := callsIn_wide.1 (calls_in 0 ls lc w hok hs)
end Go.Proofs.YtnldbplphgfpeaaGreat
