/- Lemmas for salvor/salvorlaw29.TreeSmall (part 14); no condition. -/
import Derived.Deep.CutBlock
import Derived.Test.YtnldbplphgfpeaaGreatP13
import Derived.Test.YtnldbplphgfpeaaGreatP04
namespace Go.Proofs.YtnldbplphgfpeaaGreat
open Go Go.RowKit Go.Shelf
set_option linter.unusedVariables false
set_option linter.unusedSimpArgs false
set_option maxHeartbeats 8000000
theorem szS_take {α : Type} {l : List (St α)} {k : Nat} {x : St α} (hx : l[k]? = some x) : szS (l.take (k + 1)) = szS (l.take k) + x.sz := by
 obtain ⟨q1, q2⟩ := List.getElem?_eq_some_iff.1 hx
 rw [List.take_succ_eq_append_getElem q1, q2, szS_append]
 simp [szS]
theorem szS_take_le {α : Type} (l : List (St α)) (k : Nat) : szS (l.take k) ≤ szS l := by
 have h := szS_append (l.take k) (l.drop k)
 rw [List.take_append_drop] at h
 omega
theorem szs_take_le {α : Type} (l : List (Ex α)) (k : Nat) : szs (l.take k) ≤ szs l := by
 have h := szs_append (l.take k) (l.drop k)
 rw [List.take_append_drop] at h
 omega
set_option maxRecDepth 100000 in
theorem rcountS : ∀ (ls : List (St Loc)) (lc : Loc) (b : Nat) (w : World), b + szS ls ≤ 20000 → Lst.ok eR w lc ls →
  Calls Tryz.prog 67 #[.slice lc.A ls.length lc.c, .int .i64 b] w fun r w' => r = .returned (.int .i64 (b + szS ls : Nat)) ∧ Below w.heap.size w w' := by
 intro ls
 induction ls using St.list with
 | h ls ih =>
 intro lc b w hb hok
 obtain ⟨n, hn⟩ : ∃ n, n = ls.length := ⟨_, rfl⟩
 have hnl := szS_len ls
 have hn63 : (n : Int) ≤ 20000 := by omega
 rw [← hn]
 obtain ⟨T, hT⟩ : ∃ T, T = szS ls := ⟨_, rfl⟩
 rw [← hT] at hb ⊢
 have bi : (b : Int) + T ≤ 20000 := by omega
 replace hn := Lib.hid hn
 replace hok := Lib.hid hok
 replace ih := Lib.hid ih
 replace hT := Lib.hid hT
 clear hnl
 go_enter Tryz.func67, Tryz.ntmps67
 go_wp2_with fail
 go_loopw [5, 6] (fun v5 v6 wr => ∃ (k q : Nat), v6 = .int .i64 k ∧ v5 = .int .i64 q ∧ k ≤ n ∧ q = b + szS (ls.take k) ∧ Below w.heap.size w wr) (fun _ v6 _ => n - (intOf v6).toNat)
 case atStart => exact ⟨0, b, rfl, rfl, Nat.zero_le _, by simp [szS], Below.refl _ _⟩
 case round =>
  obtain ⟨k, q, rfl, rfl, hk, hq, hB⟩ := hrel
  have k0 : 0 ≤ (k : Int) := by omega
  have hle := szS_take_le ls k
  have qi : (q : Int) ≤ 20000 := by have := hT.out; omega
  replace hq := Lib.hid hq
  replace hle := Lib.hid hle
  by_cases hlt : k < n
  ·have hx : ls[k]? = some (ls[k]'(by have := hn.out; omega)) := List.getElem?_eq_getElem (by have := hn.out; omega)
   generalize ls[k]'(by have := hn.out; omega) = x at hx
   obtain ⟨ad, hA, _, _, hxok, hcx⟩ := (hok.out.all (keeps_below hB)).at hx
   have hmem := List.mem_of_getElem? hx
   have hnext := szS_take hx
   have hxle := szS_take_le ls (k + 1)
   have hi1 := (ih.out x hmem).1
   have hi2 := (ih.out x hmem).2
   obtain ⟨⟨xk, xn, xb⟩, ⟨xA, xc⟩, ⟨x1, x2⟩, ⟨x3, x4⟩, xx, xt, xe⟩ := x
   simp only [St.th, St.el, St.sz] at hnext hi1 hi2
   obtain ⟨c0, c1, c2, c3, c4, c5⟩ := CellsAt.c6 hcx
   simp only [eR] at c0 c1 c2 c3 c4 c5
   try dsimp only at hA
   obtain ⟨m, hmx⟩ : ∃ m, m = xx.length := ⟨_, rfl⟩
   rw [← hmx] at c2
   obtain ⟨p1, p2, p3⟩ := hxok.parts
   have hml := szs_len xx
   have hTo := hT.out
   have hqo := hq.out
   have hm63 : (m : Int) ≤ 20000 := by omega
   obtain ⟨q1, hq1⟩ : ∃ q1, q1 = q + 1 + szs xx := ⟨_, rfl⟩
   obtain ⟨q2, hq2⟩ : ∃ q2, q2 = q1 + szS xt := ⟨_, rfl⟩
   obtain ⟨q3, hq3⟩ : ∃ q3, q3 = q2 + szS xe := ⟨_, rfl⟩
   have q3i : (q3 : Int) ≤ 20000 := by omega
   have q2i : (q2 : Int) ≤ 20000 := by omega
   have hc1 := fun w2 (hB2 : Below wr.heap.size wr w2) => hi1 ⟨x1, x2⟩ q1 w2 (by omega) (p2.all (keeps_below hB2))
   have hc2 := fun w2 (hB2 : Below wr.heap.size wr w2) => hi2 ⟨x3, x4⟩ q2 w2 (by omega) (p3.all (keeps_below hB2))
   rw [← hq2] at hc1
   rw [← hq3] at hc2
   dsimp only at hc1 hc2
   have hqn : q3 = b + szS (ls.take (k + 1)) := by omega
   have hab := cell_lt c0
   have k1 : (k : Int) < (n : Int) := by omega
   have q1i : q1 ≤ 20000 := by omega
   obtain ⟨lA, lc'⟩ := lc
   try dsimp only at hA
   subst hA
   clear hi1 hi2 hxok hTo hqo hml hnext hxle hcx
   replace p1 := Lib.hid p1
   replace hc1 := Lib.hid hc1
   replace hc2 := Lib.hid hc2
   replace hx := Lib.hid hx
   replace hmx := Lib.hid hmx
   replace hq1 := Lib.hid hq1
   replace hq2 := Lib.hid hq2
   replace hq3 := Lib.hid hq3
   replace hqn := Lib.hid hqn
   have hc2c := fun (w2 : World) (h2 : Below wr.heap.size wr w2) => (h2.cell (p := ⟨(ad.add (k * 6)).block, (ad.add (k * 6)).off + 2, none⟩) hab).trans c2
   have hc4c := fun (w2 : World) (h2 : Below wr.heap.size wr w2) => (h2.cell (p := ⟨(ad.add (k * 6)).block, (ad.add (k * 6)).off + 4, none⟩) hab).trans c4
   have hc5c := fun (w2 : World) (h2 : Below wr.heap.size wr w2) => (h2.cell (p := ⟨(ad.add (k * 6)).block, (ad.add (k * 6)).off + 5, none⟩) hab).trans c5
   replace hc2c := Lib.hid hc2c
   replace hc4c := Lib.hid hc4c
   replace hc5c := Lib.hid hc5c
   clear c0 c1 c2 c3 c4 c5
   obtain ⟨Wx, hWx⟩ : ∃ x, x = wr := ⟨_, rfl⟩
   subst hWx
   go_wp2_with fail
   go_loopw [5, 7] (fun v5 v7 wr => ∃ (j p : Nat), v7 = .int .i64 j ∧ v5 = .int .i64 p ∧ j ≤ m ∧ p = q + 1 + szs (xx.take j) ∧ Below Wx.heap.size Wx wr) (fun _ v7 _ => m - (intOf v7).toNat)
   case atStart => exact ⟨0, q + 1, rfl, by go_num, Nat.zero_le _, by simp [szs], Below.refl _ _⟩
   case round =>
    obtain ⟨j, p, rfl, rfl, hj, hp, hB5⟩ := hrel
    have j0 : 0 ≤ (j : Int) := by omega
    have hlej := szs_take_le xx j
    have pi : (p : Int) ≤ 20000 := by have := hq1.out; omega
    replace hp := Lib.hid hp
    replace hlej := Lib.hid hlej
    have hBo := Lib.hid (below_and hB hB5)
    have e2 := hc2c.out wr hB5
    have hab2 := cell_lt e2
    dsimp only at hab2
    by_cases hjl : j < m
    ·have hy : xx[j]? = some (xx[j]'(by have := hmx.out; omega)) := List.getElem?_eq_getElem (by have := hmx.out; omega)
     generalize xx[j]'(by have := hmx.out; omega) = y at hy
     obtain ⟨ad2, hA2, _, _, hyok, hcy⟩ := (Lex.ok.all (keeps_below hB5) p1.out).at hy
     have hnexty := szs_take_succ hy
     have hley := szs_take_le xx (j + 1)
     have hpo := hp.out
     have hq1o := hq1.out
     have hcall := rcountE y p wr (by omega) hyok
     obtain ⟨p', hp'⟩ : ∃ x, x = p + y.sz := ⟨_, rfl⟩
     rw [← hp'] at hcall
     have hpn : p' = q + 1 + szs (xx.take (j + 1)) := by omega
     have p'i : (p' : Int) ≤ 20000 := by omega
     obtain ⟨⟨yk, yo, yv, yw, yn⟩, ⟨yA, yc⟩, ys⟩ := y
     try dsimp only at hA2
     subst hA2
     obtain ⟨e20, e21, e22, e23, e24, e25⟩ := CellsAt.c6 hcy
     simp only [eR, aggRX, Ex.cells] at e20 e21 e22 e23 e24 e25 hcall
     have hab3 := cell_lt e20
     have j1 : (j : Int) < (m : Int) := by omega
     clear hpo hq1o hnexty hley hcy hyok
     replace hcall := Lib.hid hcall
     replace hy := Lib.hid hy
     replace hp' := Lib.hid hp'
     replace hpn := Lib.hid hpn
     go_wp2_with fail
     refine hcall.out.mono ?_
     rintro e w2 ⟨rfl, hB3⟩
     have hB4 := below_and hB5 hB3
     clear e20 e21 e22 e23 e24 e25 e2
     go_wp2_with fail
     go_roundw
     case rel => exact ⟨j + 1, p', by go_num, rfl, by omega, hpn.out, hB4⟩
     case measure => simp [intOf]; omega
    ·obtain rfl : j = m := by omega
     have hjm : xx.take j = xx := List.take_of_length_le (by have := hmx.out; omega)
     have hpq : p = q1 := by have h1 := hp.out; rw [hjm] at h1; have h2 := hq1.out; omega
     subst hpq
     clear hjm
     have hX1 : ∀ x : Ext wr, Calls Tryz.prog 67 #[.slice x1 xt.length x2, .int .i64 (p : Nat)] x.w fun e w' => e = .returned (.int .i64 (q2 : Nat)) ∧ Below x.w.heap.size x.w w' := fun x => hc1.out x.w (below_and hB5 x.below)
     have hX2 : ∀ x : Ext wr, Calls Tryz.prog 67 #[.slice x3 xe.length x4, .int .i64 (q2 : Nat)] x.w fun e w' => e = .returned (.int .i64 (q3 : Nat)) ∧ Below x.w.heap.size x.w w' := fun x => hc2.out x.w (below_and hB5 x.below)
     have hC4 : ∀ x : Ext wr, x.w.cell? ⟨(ad.add (k * 6)).block, (ad.add (k * 6)).off + 4, none⟩ = some (.slice x1 xt.length x2) := fun x => hc4c.out x.w (below_and hB5 x.below)
     have hC5 : ∀ x : Ext wr, x.w.cell? ⟨(ad.add (k * 6)).block, (ad.add (k * 6)).off + 5, none⟩ = some (.slice x3 xe.length x4) := fun x => hc5c.out x.w (below_and hB5 x.below)
     replace hX1 := Lib.hid hX1
     replace hX2 := Lib.hid hX2
     go_wp2_with fail
     refine wp_region_grown (by kernel_rfl) (by kernel_rfl) (by kernel_rfl) ?_
     repeat (go_big_quiet_step (first
      | (go_at_call 67; with_reducible exact grown_of (hX1.out _))
      | (go_at_call 67; with_reducible exact grown_of (hX2.out _))))
     refine wpQuiet_nil ?_
     rintro _ ⟨x, rfl⟩
     have hB6 := below_and hBo.out x.below
     clear hC4 hC5 e2
     go_wp2_with fail
     go_roundw
     case rel => exact ⟨k + 1, q3, by go_num, rfl, by omega, hqn.out, hB6⟩
     case measure => simp [intOf]; omega
  ·obtain rfl : n = k := by omega
   have hkn : ls.take n = ls := List.take_of_length_le (by have := hn.out; omega)
   have hqq : q = b + T := by have h1 := hq.out; rw [hkn] at h1; have := hT.out; omega
   replace hqq := Lib.hid hqq
   clear hkn
   go_wp2_with fail
   go_ret
   rw [hqq.out]
   exact ⟨rfl, hB⟩
end Go.Proofs.YtnldbplphgfpeaaGreat
namespace Go.Proofs.YtnldbplphgfpeaaGreat
open Go Go.RowKit Go.Shelf
set_option linter.unusedVariables false
set_option linter.unusedSimpArgs false
set_option maxHeartbeats 8000000
def NmR (l : List ByteArray) (v : Value) (w : World) : Prop := ∃ (A : Option Addr) (c : Nat), v = .slice A l.length c ∧ Reads w w.heap.size 1 A l.length (strs l)
theorem NmR.new {l : List ByteArray} {v : Value} {w w' : World} (h : NmR l v w) (hb : Below w.heap.size w w') : NmR l v w' := by
 obtain ⟨A, c, h1, h2⟩ := h
 exact ⟨A, c, h1, (h2.below hb).more hb.size⟩
theorem NmR.nil (w : World) : NmR [] (.slice none 0 0) w := ⟨none, 0, rfl, Reads.none_⟩
theorem NmR.of_own {w : World} {base : Nat} {v : Value} {l : List ByteArray} (h : w.ownsRow base 9 1 v l.length (strs l)) : NmR l v w := by
 obtain ⟨A, c, rfl⟩ := own_form h
 exact ⟨A, c, rfl, Reads.of_own h⟩
theorem hasL_no {l : List ByteArray} {s : ByteArray} (h : ∀ (j : Nat) x, l[j]? = some x → (x.toList == s.toList) = false) : withL l s = l ++ [s] := by
 have : hasL l s = false := by
  cases hh : hasL l s with
  | false => rfl
  | true =>
   obtain ⟨x, hx, he⟩ := List.any_eq_true.1 hh
   obtain ⟨j, hj⟩ := List.mem_iff_getElem?.1 hx
   have := h j x hj
   simp only [beq_iff_eq] at he
   rw [he] at this
   simp at this
 unfold withL
 rw [this]
 rfl
set_option maxRecDepth 100000 in
theorem rwith_ok (l : List ByteArray) (v : Value) (s : ByteArray) (w : World) (h : NmR l v w) (hn : l.length ≤ 1000000) : Calls Tryz.prog 105 #[v, .string s] w fun e w' => (∃ u, e = .returned u ∧ NmR (withL l s) u w') ∧ Below w.heap.size w w' := by
 obtain ⟨A, c, rfl, hr⟩ := h
 obtain ⟨i0, hi, hz0, hz1, hz2⟩ := info_parts infoStr
 obtain ⟨n, hl⟩ : ∃ n, n = l.length := ⟨_, rfl⟩
 rw [← hl] at hr hn ⊢
 have hr' := Lib.hid hr
 have hB1 := (Below.refl w.heap.size w).alloc (Nat.le_refl _) (.cells #[] 9)
 have ho1 := World.ownsRow_lit (base := w.heap.size) (e := 9) (size := 1) w #[] 0 (Nat.le_refl _) (by simp [maxLen]) rfl
 have hr1 := Lib.hid (hr.below hB1)
 replace ho1 := Lib.hid ho1
 replace hB1 := Lib.hid hB1
 replace hl := Lib.hid hl
 replace hi := Lib.hid hi
 replace hz0 := Lib.hid hz0
 replace hz1 := Lib.hid hz1
 replace hz2 := Lib.hid hz2
 clear hr
 go_enter Tryz.func105, Tryz.ntmps105
 go_wp2
 go_loop [5] (fun i => ∃ k : Nat, i = .int .i64 k ∧ k ≤ n ∧ ∀ (j : Nat) x, j < k → l[j]? = some x → (x.toList == s.toList) = false) (fun i => n - (intOf i).toNat)
 case atStart => exact ⟨0, rfl, Nat.zero_le _, fun j x h => absurd h (by omega)⟩
 case round =>
  obtain ⟨k, rfl, hk, hno⟩ := hrel
  have k0 : 0 ≤ (k : Int) := by omega
  by_cases hlt : k < n
  ·have hx : l[k]? = some (l[k]'(by have := hl.out; omega)) := List.getElem?_eq_getElem (by have := hl.out; omega)
   generalize l[k]'(by have := hl.out; omega) = x at hx
   obtain ⟨ad, rfl, _, hc, hb⟩ := hr'.out.str hx
   have k1 : (k : Int) < (n : Int) := by omega
   replace hx := Lib.hid hx
   replace hno := Lib.hid hno
   by_cases he : (x.toList == s.toList) = true
   ·have hhas : withL l s = l := by
     unfold withL
     rw [show hasL l s = true from List.any_eq_true.2 ⟨x, List.mem_of_getElem? hx.out, by simpa using (beq_iff_eq.1 he).symm⟩]
     rfl
    replace hhas := Lib.hid hhas
    go_wp2
    go_ret
    refine ⟨⟨_, rfl, ?_⟩, Below.refl _ _⟩
    rw [hhas.out]
    have h1 := hl.out
    subst h1
    exact ⟨_, c, rfl, hr'.out⟩
   ·simp only [Bool.not_eq_true] at he
    have he' := Lib.hid he
    go_wp2
    go_round
    case rel =>
     refine ⟨k + 1, by go_num, by omega, fun j x' hj hx' => ?_⟩
     by_cases hjk : j = k
     ·subst hjk
      have := hx.out.symm.trans hx'
      cases this
      exact he'.out
     ·exact hno.out j x' (by omega) hx'
    case measure => simp [intOf]; omega
  ·obtain rfl : k = n := by omega
   have hhas := hasL_no (l := l) (s := s) fun j x hx => hno j x (by have := (List.getElem?_eq_some_iff.1 hx).1; have := hl.out; omega) hx
   replace hhas := Lib.hid hhas
   clear hno
   go_wp2_with (first
    | (at_builtin; refine wpList_append_any _ rfl (.tmp 19) (.tmp 20) 44 rfl w.heap.size 9 i0 _ 1 16 Tryz.underlying44 hi.out hz0.out hz1.out hz2.out rfl (by omega) (.slice (some ⟨w.heap.size, 0, none⟩) 0 0) 0 [] rfl ho1.out w.heap.size A k c (strs l) rfl hr1.out (strs_one l) (by simp only [maxLen]; omega) (by omega) hB1.out.size ?_; intro v1 w1 hown1 hg1 hv1; replace hown1 := own_cast hown1 (Nat.zero_add k) (List.nil_append _); obtain ⟨A1, c1, rfl⟩ := own_form hown1; replace hown1 := Lib.hid hown1; have hB2 := Lib.hid (hB1.out.grown hg1 hB1.out.size (fun q hq => (ho1.out.lt q hq).1)); replace hg1 := Lib.hid hg1; clear hv1)
    | (at_builtin; refine wpList_append_any _ rfl (.tmp 21) (.tmp 23) 44 rfl w.heap.size 9 i0 _ 1 16 Tryz.underlying44 hi.out hz0.out hz1.out hz2.out rfl (by omega) (.slice A1 k c1) k (strs l) rfl (hown1.out.alloc _) _ (some ⟨w1.heap.size, 0, none⟩) 1 1 [.string s] rfl (Reads.of_own (World.ownsRow_lit (base := 0) (e := 9) (size := 1) w1 #[.string s] 1 (Nat.zero_le _) (by simp [maxLen]) rfl)) (by simp [Value.oneCell']) (by simp only [maxLen]; omega) (by omega) (by have := hB2.out.size; simp; omega) ?_; intro v2 w2 hown2 hg2 hv2))
   go_ret
   have hw : withL l s = l ++ [s] := hhas.out
   have hown : w2.ownsRow w.heap.size 9 1 v2 (withL l s).length (strs (withL l s)) := by
    rw [hw]
    exact own_cast hown2 (by have := hl.out; simp; omega) (by simp [strs])
   refine ⟨⟨v2, rfl, NmR.of_own hown⟩, ?_⟩
   exact (hB2.out.alloc hB2.out.size _).grown hg2 (by have := hB2.out.size; simp; omega) (fun q hq => (hown1.out.lt q hq).1)
def RNm (e : Ex Loc) : Prop := ∀ (l : List ByteArray) (v : Value) (w : World), e.ok eR w → NmR l v w → l.length + e.sz ≤ 1000000 → Calls Tryz.prog 70 #[aggRX e, v] w fun r w' => (∃ u, r = .returned u ∧ NmR (e.nodes.foldl stepN l) u w') ∧ Below w.heap.size w w'
set_option maxRecDepth 100000 in
theorem rnames : ∀ e : Ex Loc, RNm e := by
 intro e
 induction e using Ex.ind with
 | h hd lc ss ih =>
 intro l v w hok hv hsz
 have hlex : Lex.ok eR w lc ss := hok
 obtain ⟨xk, xo, xv, xw, xn⟩ := hd
 obtain ⟨lA, lc⟩ := lc
 obtain ⟨n, hn⟩ : ∃ n, n = ss.length := ⟨_, rfl⟩
 have hn63 : (n : Int) ≤ 9223372036854775807 := by have h1 := hlex.1.2.1; have h2 := hlex.1.2.2.1; dsimp only at h1 h2; omega
 have hB0 := (Below.refl _ w).alloc (Nat.le_refl _) (.cells #[.int .i64 xk, .int .i64 xo, .int .i64 xv, .int .i64 xw, .string xn, .slice lA n lc] 70)
 have hs0 := Blk.new w 70 #[.int .i64 xk, .int .i64 xo, .int .i64 xv, .int .i64 xw, .string xn, .slice lA n lc]
 simp only [aggRX, Ex.cells, eR]
 rw [← hn]
 simp only [Ex.nodes, List.foldl_cons]
 obtain ⟨l1, hl1⟩ : ∃ l1, l1 = stepN l (Ex.mk ⟨xk, xo, xv, xw, xn⟩ (⟨lA, lc⟩ : Loc) ss) := ⟨_, rfl⟩
 rw [← hl1]
 simp only [Ex.sz] at hsz
 have hlen1 : l1.length ≤ l.length + 1 := by
  rw [hl1]; unfold stepN
  split
  ·exact withL_len _ _
  ·omega
 obtain ⟨b1, e1⟩ : ∃ b, (xk == 2) = b := ⟨_, rfl⟩
 obtain ⟨b2, e2⟩ : ∃ b, (xk == 3) = b := ⟨_, rfl⟩
 have hl1' : l1 = if (b1 || b2) = true then withL l xn else l := by
  rw [hl1, ← e1, ← e2]
  simp only [stepN, Ex.h, Bool.or_eq_true, beq_iff_eq]
  rfl
 obtain ⟨b, hb⟩ : ∃ b, b = (b1 || b2) := ⟨_, rfl⟩
 have hq : l1 = if b = true then withL l xn else l := by rw [hb]; exact hl1'
 replace hb := Lib.hid hb
 have hwith := fun w2 (h2 : Below w.heap.size w w2) => rwith_ok l v xn w2 (hv.new h2) (by omega)
 have hv0 := hv.new hB0
 obtain ⟨vA, vc, rfl, -⟩ := hv
 replace hwith := Lib.hid hwith
 replace hv0 := Lib.hid hv0
 replace hB0 := Lib.hid hB0
 replace hs0 := Lib.hid hs0
 replace hl1 := Lib.hid hl1
 replace hq := Lib.hid hq
 replace hlen1 := Lib.hid hlen1
 replace hsz := Lib.hid hsz
 replace hn := Lib.hid hn
 replace ih := Lib.hid ih
 have hlex' := Lib.hid hlex
 clear hl1' hlex hok
 go_enter Tryz.func70, Tryz.ntmps70
 go_upto_region 1 with (fail)
 generalize w.alloc (.cells #[.int .i64 xk, .int .i64 xo, .int .i64 xv, .int .i64 xw, .string xn, .slice lA n lc] 70) = W0 at *
 have hs0' := hs0.out
 go_cut [13] (fun v13 wx => v13 = .bool b ∧ W0 = wx)
 case first =>
  have c0 := hs0'.cell 0
  simp only [List.getElem?_toArray, List.getElem?_cons_zero] at c0
  clear hs0'
  cases b1
  ·go_wp2
   go_meet
   exact ⟨by rw [hb.out]; simp, rfl⟩
  ·go_wp2
   go_meet
   exact ⟨by rw [hb.out]; simp, rfl⟩
 case rest =>
  obtain ⟨rfl, rfl⟩ := hcut
  clear e1 e2
  go_upto_if 13 with (fail)
  go_cut [1] (fun v1 wx => NmR l1 v1 wx ∧ Below W0.heap.size W0 wx)
  case first =>
   have c4 := hs0'.cell 4
   simp only [List.getElem?_toArray, List.getElem?_cons_zero, List.getElem?_cons_succ] at c4
   have hw := Lib.hid (hwith.out _ hB0.out)
   clear hs0'
   cases b
   ·go_wp2
    go_meet
    rw [hq.out]
    exact ⟨hv0.out, Below.refl _ _⟩
   ·go_wp2_with (go_at_call 105; refine hw.out.mono ?_; rintro e w1 ⟨⟨u, rfl, hu⟩, hb1⟩; replace hu := Lib.hid hu; replace hb1 := Lib.hid hb1)
    go_meet
    rw [hq.out]
    exact ⟨hu.out, hb1.out⟩
  case rest =>
   obtain ⟨hv1, hB1⟩ := hcut
   rename World => W1
   obtain ⟨vA1, vc1, rfl, hv1r⟩ := hv1
   have hs1 := hs0.out.below hB1 hs0.out.lt
   have hBw1 := below_and hB0.out hB1
   replace hs1 := Lib.hid hs1
   replace hBw1 := Lib.hid hBw1
   replace hv1r := Lib.hid hv1r
   clear hs0' hwith hv0 hq hb
   go_wp2_with fail
   go_loopw [1, 5] (fun v1 v5 wr => ∃ k : Nat, v5 = .int .i64 k ∧ k ≤ n ∧ NmR ((nodess (ss.take k)).foldl stepN l1) v1 wr ∧ Below W1.heap.size W1 wr) (fun _ v5 _ => n - (intOf v5).toNat)
   case atStart => exact ⟨0, rfl, Nat.zero_le _, ⟨_, _, rfl, hv1r.out⟩, Below.refl _ _⟩
   case round =>
    obtain ⟨k, rfl, hk, hvk, hB2⟩ := hrel
    have k0 : 0 ≤ (k : Int) := by omega
    have hs2 := hs1.out.below hB2 hs1.out.lt
    have hl2 := hs2.lt
    have c5 := hs2.cell 5
    simp only [List.getElem?_toArray, List.getElem?_cons_zero, List.getElem?_cons_succ] at c5
    clear hs2
    have hB := below_and hBw1.out hB2
    by_cases hlt : k < n
    ·have hx : ss[k]? = some (ss[k]'(by have := hn.out; omega)) := List.getElem?_eq_getElem (by have := hn.out; omega)
     generalize ss[k]'(by have := hn.out; omega) = x at hx
     obtain ⟨ad, hA, _, _, hxok, hcx⟩ := (hlex'.out.all (keeps_below hB)).at hx
     have hlen : ((nodess (ss.take k)).foldl stepN l1).length + x.sz ≤ 1000000 := by
      have h1 := foldN_len (nodess (ss.take k)) l1
      rw [nodess_len] at h1
      have h2 := szs_take_succ hx
      have h3 := szs_append (ss.take (k + 1)) (ss.drop (k + 1))
      rw [List.take_append_drop] at h3
      have := hlen1.out
      have := hsz.out
      omega
     have hc := ih.out x (List.mem_of_getElem? hx) _ _ wr hxok hvk hlen
     have hnext : (nodess (ss.take (k + 1))).foldl stepN l1 = x.nodes.foldl stepN ((nodess (ss.take k)).foldl stepN l1) := by
      obtain ⟨hi, hxi⟩ := List.getElem?_eq_some_iff.1 hx
      rw [List.take_succ_eq_append_getElem hi, nodess_append, hxi, List.foldl_append]
      simp [nodess]
     rw [← hnext] at hc
     replace hc := Lib.hid hc
     replace hx := Lib.hid hx
     replace hB2 := Lib.hid hB2
     obtain ⟨vAk, vck, rfl, -⟩ := hvk
     clear hnext hlen hxok
     obtain ⟨⟨pk, po, pv, pw, pn⟩, ⟨xA, xc⟩, xs⟩ := x
     obtain ⟨c0, c1, c2, c3, c4, c5'⟩ := CellsAt.c6 hcx
     simp only [aggRX, Ex.cells, eR] at c0 c1 c2 c3 c4 c5' hc
     dsimp only at hA
     subst hA
     have k1 : (k : Int) < (n : Int) := by omega
     go_wp2_with (go_at_call 70; refine hc.out.mono ?_; rintro e w2 ⟨⟨u, rfl, hu⟩, hb2⟩; replace hu := Lib.hid hu; replace hb2 := Lib.hid hb2)
     go_roundw
     case rel => exact ⟨k + 1, by go_num, by omega, hu.out, below_and hB2.out hb2.out⟩
     case measure => simp [intOf]; omega
    ·obtain rfl : k = n := by omega
     have hkn : ss.take k = ss := List.take_of_length_le (by have := hn.out; omega)
     rw [hkn] at hvk
     replace hvk := Lib.hid hvk
     clear hkn
     go_wp2_with fail
     go_ret
     exact ⟨⟨_, rfl, hvk.out⟩, hB⟩
set_option maxRecDepth 100000 in
theorem rcalls : ∀ (ls : List (St Loc)) (lc : Loc) (l : List ByteArray) (v : Value) (w : World), Lst.ok eR w lc ls → NmR l v w → l.length + szS ls ≤ 1000000 →
  Calls Tryz.prog 71 #[.slice lc.A ls.length lc.c, v] w fun r w' => (∃ u, r = .returned u ∧ NmR ((nodesS ls).foldl stepC l) u w') ∧ Below w.heap.size w w' := by
 intro ls
 induction ls using St.list with
 | h ls ih =>
 intro lc l v w hok hv hsz
 obtain ⟨n, hn⟩ : ∃ n, n = ls.length := ⟨_, rfl⟩
 have hnl := szS_len ls
 have hn63 : (n : Int) ≤ 1000000 := by omega
 rw [← hn]
 obtain ⟨vA, vc, rfl, hvr⟩ := hv
 replace hvr := Lib.hid hvr
 replace hn := Lib.hid hn
 replace hok := Lib.hid hok
 replace ih := Lib.hid ih
 replace hsz := Lib.hid hsz
 clear hnl
 go_enter Tryz.func71, Tryz.ntmps71
 go_wp2_with fail
 go_loopw [1, 5] (fun v1 v5 wr => ∃ k : Nat, v5 = .int .i64 k ∧ k ≤ n ∧ NmR ((nodesS (ls.take k)).foldl stepC l) v1 wr ∧ Below w.heap.size w wr) (fun _ v5 _ => n - (intOf v5).toNat)
 case atStart => exact ⟨0, rfl, Nat.zero_le _, ⟨_, _, rfl, hvr.out⟩, Below.refl _ _⟩
 case round =>
  obtain ⟨k, rfl, hk, hv, hB⟩ := hrel
  have k0 : 0 ≤ (k : Int) := by omega
  by_cases hlt : k < n
  ·have hx : ls[k]? = some (ls[k]'(by have := hn.out; omega)) := List.getElem?_eq_getElem (by have := hn.out; omega)
   generalize ls[k]'(by have := hn.out; omega) = x at hx
   obtain ⟨ad, hA, _, _, hxok, hcx⟩ := (hok.out.all (keeps_below hB)).at hx
   have hmem := List.mem_of_getElem? hx
   have hnext : (nodesS (ls.take (k + 1))).foldl stepC l = (nodesS x.el).foldl stepC ((nodesS x.th).foldl stepC (stepC ((nodesS (ls.take k)).foldl stepC l) x)) := by
    rw [nodesS_take_succ hx, List.foldl_append, St.nodes_eq, List.foldl_cons, List.foldl_append]
   have hb0 := foldC_len (nodesS (ls.take k)) l
   have hlk : ((nodesS (ls.take k)).foldl stepC l).length + x.sz ≤ 1000000 := by
    have h1 := szS_take hx
    have h2 := szS_take_le ls (k + 1)
    have h3 := nodesS_len_le (ls.take k)
    have := hsz.out
    omega
   have hi1 := (ih.out x hmem).1
   have hi2 := (ih.out x hmem).2
   obtain ⟨l0, hl0⟩ : ∃ l0, l0 = (nodesS (ls.take k)).foldl stepC l := ⟨_, rfl⟩
   rw [← hl0] at hnext hlk hv
   obtain ⟨⟨xk, xn, xb⟩, ⟨xA, xc⟩, ⟨x1, x2⟩, ⟨x3, x4⟩, xx, xt, xe⟩ := x
   simp only [St.th, St.el] at hnext hi1 hi2
   simp only [St.sz] at hlk
   obtain ⟨l1, hl1⟩ : ∃ l1, l1 = stepC l0 (St.mk ⟨xk, xn, xb⟩ (⟨xA, xc⟩ : Loc) ⟨x1, x2⟩ ⟨x3, x4⟩ xx xt xe) := ⟨_, rfl⟩
   rw [← hl1] at hnext
   have hl1n : l1.length ≤ l0.length + 1 := by
    rw [hl1]; unfold stepC
    split
    ·exact withL_len _ _
    ·omega
   obtain ⟨b, hb⟩ : ∃ b, (xk == 8) = b := ⟨_, rfl⟩
   have hl1' : l1 = if b = true then withL l0 xn else l0 := by
    rw [hl1, ← hb]
    simp only [stepC, St.h, beq_iff_eq]
    rfl
   obtain ⟨c0, c1, c2, c3, c4, c5⟩ := CellsAt.c6 hcx
   simp only [eR] at c0 c1 c2 c3 c4 c5
   try dsimp only at hA
   obtain ⟨p1, p2, p3⟩ := hxok.parts
   have hwith := rwith_ok l0 _ xn wr hv (by omega)
   have hb1 := foldC_len (nodesS xt) l1
   have hb2 := nodesS_len_le xt
   have hc1 := fun w2 (h2 : Below wr.heap.size wr w2) v2 (hv2 : NmR l1 v2 w2) => hi1 ⟨x1, x2⟩ l1 v2 w2 (p2.all (keeps_below h2)) hv2 (by omega)
   have hc2 := fun w2 (h2 : Below wr.heap.size wr w2) v2 (hv2 : NmR ((nodesS xt).foldl stepC l1) v2 w2) => hi2 ⟨x3, x4⟩ _ v2 w2 (p3.all (keeps_below h2)) hv2 (by omega)
   rw [← hnext] at hc2
   dsimp only at hc1 hc2
   have hab := cell_lt c0
   have k1 : (k : Int) < (n : Int) := by omega
   obtain ⟨lA, lc'⟩ := lc
   try dsimp only at hA
   subst hA
   have hv' := hv
   obtain ⟨vA, vc, rfl, -⟩ := hv
   clear hi1 hi2 hxok hcx hnext hlk hl1n hb0 hb1 hb2 hl1 hl0
   replace hv' := Lib.hid hv'
   replace hwith := Lib.hid hwith
   replace hc1 := Lib.hid hc1
   replace hc2 := Lib.hid hc2
   replace hx := Lib.hid hx
   replace hl1' := Lib.hid hl1'
   replace hB := Lib.hid hB
   have hc4c := fun (w2 : World) (h2 : Below wr.heap.size wr w2) => (h2.cell (p := ⟨(ad.add (k * 6)).block, (ad.add (k * 6)).off + 4, none⟩) hab).trans c4
   have hc5c := fun (w2 : World) (h2 : Below wr.heap.size wr w2) => (h2.cell (p := ⟨(ad.add (k * 6)).block, (ad.add (k * 6)).off + 5, none⟩) hab).trans c5
   replace hc4c := Lib.hid hc4c
   replace hc5c := Lib.hid hc5c
   obtain ⟨Wx, hWx⟩ : ∃ x, x = wr := ⟨_, rfl⟩
   subst hWx
   go_upto_if 17 with (fail)
   go_cut [1] (fun v1 wx => NmR l1 v1 wx ∧ Below Wx.heap.size Wx wx)
   case first =>
    cases b
    ·go_wp2
     go_meet
     rw [hl1'.out]
     exact ⟨hv'.out, Below.refl _ _⟩
    ·go_wp2_with (go_at_call 105; refine hwith.out.mono ?_; rintro e w1 ⟨⟨u, rfl, hu⟩, hb1⟩; replace hu := Lib.hid hu; replace hb1 := Lib.hid hb1)
     go_meet
     rw [hl1'.out]
     exact ⟨hu.out, hb1.out⟩
   case rest =>
    obtain ⟨hv1, hB1⟩ := hcut
    rename World => W1
    have hL : ∀ W, Below Wx.heap.size Wx W → W.cell? ⟨(ad.add (k * 6)).block, (ad.add (k * 6)).off + 4, none⟩ = some (.slice x1 xt.length x2) ∧ W.cell? ⟨(ad.add (k * 6)).block, (ad.add (k * 6)).off + 5, none⟩ = some (.slice x3 xe.length x4) := fun W h => ⟨hc4c.out W h, hc5c.out W h⟩
    replace hL := Lib.hid hL
    replace hB1 := Lib.hid hB1
    have hv1' := Lib.hid hv1
    obtain ⟨vA1, vc1, rfl, -⟩ := hv1
    clear hwith hl1' hv' hb c0 c1 c2 c3 c4 c5
    go_upto_region 6 with (fail)
    refine wp_region_held (S := fun W => Below Wx.heap.size Wx W) (by kernel_rfl) ?_
    change wpAnyH _ _ _ _ _ _ _ _ (World.drew _)
    refine takes [0, 1, 2, 3, 4, 5, 6, 7, 8, 9, 10] (fuel := 3) (by kernel_rfl) (fun _ _ _ _ h => h) hB1.out.drew (by kernel_rfl) (fun K hK => ?_)
    repeat (refine TakesG.cons rfl (v := ?_) ?_ ?_; rotate_left; (· intro wz hSw; have hz := hL.out wz hSw; clear hSw; go_simp; try with_reducible rfl); simp only [Act.put, List.setIfInBounds_toArray, List.set_cons_zero, List.set_cons_succ])
    refine hK.out _ ?_
    clear hK K
    refine callH 11 rfl (by kernel_rfl) (fun K hK => ?_)
    go_simp
    refine (hc1.out _ hB1.out.drew _ (hv1'.out.new (Below.refl _ _).drew)).mono ?_
    rintro e U1 ⟨⟨u1, rfl, hu1⟩, hb1⟩
    have hB2 := below_and hB1.out.drew hb1
    refine hK.out _ _ hB2 (fun _ => ?_)
    clear hK K
    refine callH 12 rfl (by kernel_rfl) (fun K hK => ?_)
    go_simp
    refine (hc2.out _ hB2 _ hu1).mono ?_
    rintro e U2 ⟨⟨u2, rfl, hu2⟩, hb2⟩
    have hB3 := below_and hB2 hb2
    refine hK.out _ _ hB3 (fun _ => ?_)
    clear hK K
    refine callH 13 rfl (by kernel_rfl) (fun K hK => ?_)
    go_simp
    refine hK.out _ _ hB3 (fun _ => wpAnyH_done (by kernel_rfl) ?_ _)
    clear hK K hL
    replace hu2 := Lib.hid hu2
    replace hB3 := Lib.hid hB3
    go_wp2_with fail
    go_roundw
    case rel => exact ⟨k + 1, by go_num, by omega, hu2.out, below_and hB.out hB3.out⟩
    case measure => simp [intOf]; omega
  ·obtain rfl : k = n := by omega
   have hkn : ls.take k = ls := List.take_of_length_le (by have := hn.out; omega)
   rw [hkn] at hv
   replace hv := Lib.hid hv
   clear hkn
   go_wp2_with fail
   go_ret
   exact ⟨⟨_, rfl, hv.out⟩, hB⟩
set_option maxRecDepth 100000 in
theorem rdepth : ∀ (ls : List (St Loc)) (lc : Loc) (w : World), Lst.ok eR w lc ls → szS ls ≤ 20000 → Calls Tryz.prog 68 #[.slice lc.A ls.length lc.c] w fun e w' => e = .returned (.int .i64 (dpS ls : Nat)) ∧ Below w.heap.size w w' := by
 intro ls
 induction ls using St.list with
 | h ls ih =>
 intro lc w hok hsz
 have hll := szS_len ls
 obtain ⟨n, hn⟩ : ∃ n, n = ls.length := ⟨_, rfl⟩
 have hn2 : n ≤ 20000 := by omega
 rw [← hn]
 obtain ⟨R, hR⟩ : ∃ R, R = dpS ls := ⟨_, rfl⟩
 rw [← hR]
 replace hn := Lib.hid hn
 replace hR := Lib.hid hR
 replace ih := Lib.hid ih
 go_enter Tryz.func68, Tryz.ntmps68
 go_wp2
 go_loopw [3, 4] (fun mo i wr => ∃ k : Nat, i = .int .i64 k ∧ mo = .int .i64 (dpS (ls.take k) : Nat) ∧ k ≤ n ∧ Below w.heap.size w wr) (fun _ i _ => n - (intOf i).toNat)
 case atStart => exact ⟨0, rfl, rfl, Nat.zero_le _, Below.refl _ _⟩
 case round =>
  obtain ⟨k, rfl, rfl, hk, hB⟩ := hrel
  have k0 : 0 ≤ (k : Int) := by omega
  by_cases hlt : k < n
  ·have hx : ls[k]? = some (ls[k]'(by have := hn.out; omega)) := List.getElem?_eq_getElem (by have := hn.out; omega)
   generalize ls[k]'(by have := hn.out; omega) = x at hx
   obtain ⟨ad, hA, _, _, hxok, hcx⟩ := (hok.all (keeps_below hB)).at hx
   have hnext := dpS_take hx
   have hxsz := szS_mem (List.mem_of_getElem? hx)
   have hi1 := (ih.out x (List.mem_of_getElem? hx)).1
   have hi2 := (ih.out x (List.mem_of_getElem? hx)).2
   have htk : dpS (ls.take k) ≤ 20000 := by
    have h1 := dpS_le (ls.take k)
    have h2 := szS_take_le ls k
    omega
   obtain ⟨⟨xk, xn, xb⟩, ⟨xA, xc⟩, ⟨x1, x2⟩, ⟨x3, x4⟩, xx, xt, xe⟩ := x
   simp only [St.th, St.el, St.sz] at hnext hxsz hi1 hi2
   have d1 := dpS_le xt
   have d2 := dpS_le xe
   have hc1 := fun w2 (hB2 : Below wr.heap.size wr w2) => hi1 ⟨x1, x2⟩ w2 ((hxok.below hB2).parts.2.1) (by omega)
   have hc2 := fun w2 (hB2 : Below wr.heap.size wr w2) => hi2 ⟨x3, x4⟩ w2 ((hxok.below hB2).parts.2.2) (by omega)
   obtain ⟨c0, c1, c2, c3, c4, c5⟩ := CellsAt.c6 hcx
   simp only [eR] at c0 c1 c2 c3 c4 c5 hc1 hc2
   obtain ⟨m1, hm1⟩ : ∃ m, m = dpS xt := ⟨_, rfl⟩
   obtain ⟨m2, hm2⟩ : ∃ m, m = dpS xe := ⟨_, rfl⟩
   obtain ⟨m0, hm0⟩ : ∃ m, m = dpS (ls.take k) := ⟨_, rfl⟩
   rw [← hm1] at hc1 hnext d1
   rw [← hm2] at hc2 hnext d2
   rw [← hm0] at hnext htk ⊢
   have b1 : m1 ≤ 20000 := by omega
   have b2 : m2 ≤ 20000 := by omega
   obtain ⟨lA, lc'⟩ := lc
   dsimp only at hA
   subst hA
   have k1 : (k : Int) < (n : Int) := by omega
   have hab := cell_lt c0
   have hL : ∀ W, Below wr.heap.size wr W → W.cell? ⟨(ad.add (k * 6)).block, (ad.add (k * 6)).off + 4, none⟩ = some (.slice x1 xt.length x2) ∧ W.cell? ⟨(ad.add (k * 6)).block, (ad.add (k * 6)).off + 5, none⟩ = some (.slice x3 xe.length x4) := fun W h => ⟨(h.cell (p := ⟨(ad.add (k * 6)).block, (ad.add (k * 6)).off + 4, none⟩) hab).trans c4, (h.cell (p := ⟨(ad.add (k * 6)).block, (ad.add (k * 6)).off + 5, none⟩) hab).trans c5⟩
   clear hi1 hi2 c0 c1 c2 c3 c4 c5 hxok hcx hm0 hm1 hm2 d1 d2 hxsz
   replace hL := Lib.hid hL
   replace hnext := Lib.hid hnext
   replace hx := Lib.hid hx
   replace hc1 := Lib.hid hc1
   replace hc2 := Lib.hid hc2
   replace hB := Lib.hid hB
   obtain ⟨Wx, hWx⟩ : ∃ x, x = wr := ⟨_, rfl⟩
   subst hWx
   have hBd := (Below.refl Wx.heap.size Wx).drew
   go_upto_region 5 with (fail)
   refine wp_region_held (S := fun W => Below Wx.heap.size Wx W) (by kernel_rfl) ?_
   change wpAnyH _ _ _ _ _ _ _ _ (World.drew _)
   refine takes [0, 1, 2, 3, 4, 6, 7, 8, 9, 10, 14] (fuel := 4) (by kernel_rfl) (fun _ _ _ _ h => h) hBd (by kernel_rfl) (fun K hK => ?_)
   repeat (refine TakesG.cons rfl (v := ?_) ?_ ?_; rotate_left; (· intro wz hSw; have hz := hL.out wz hSw; clear hSw; go_simp; try with_reducible rfl); simp only [Act.put, List.setIfInBounds_toArray, List.set_cons_zero, List.set_cons_succ])
   refine hK.out _ ?_
   clear hK K hL
   refine callH 5 rfl (by kernel_rfl) (fun K hK => ?_)
   go_simp
   refine (hc1.out _ hBd).mono ?_
   rintro e U1 ⟨rfl, hb1⟩
   have hB2 := below_and hBd hb1
   refine hK.out _ _ hB2 (fun _ => ?_)
   clear hK K
   refine callH 11 rfl (by kernel_rfl) (fun K hK => ?_)
   go_simp
   refine (hc2.out _ hB2).mono ?_
   rintro e U2 ⟨rfl, hb2⟩
   have hB3 := below_and hB2 hb2
   refine hK.out _ _ hB3 (fun _ => ?_)
   clear hK K
   refine callH 12 rfl (by kernel_rfl) (fun K hK => ?_)
   go_simp
   have hB4 := hB3.alloc hB3.size (.cells #[.int .i64 m1, .int .i64 m2] 3)
   have hbn := Blk.new U2 3 #[.int .i64 m1, .int .i64 m2]
   refine hK.out _ _ hB4 (fun _ => ?_)
   clear hK K
   refine callH 13 rfl (by kernel_rfl) (fun K hK => ?_)
   go_simp
   refine hK.out _ _ hB4 (fun _ => wpAnyH_done (by kernel_rfl) ?_ _)
   clear hK K hb1 hb2 hB2 hB3 hBd
   generalize hg : U2.heap.size = g at *
   generalize U2.alloc (.cells #[.int .i64 m1, .int .i64 m2] 3) = W4 at *
   have hc0 := hbn.cell 0
   have hc1' := hbn.cell 1
   simp only [List.getElem?_toArray, List.getElem?_cons_zero, List.getElem?_cons_succ] at hc0 hc1'
   clear hbn hg
   replace hB4 := Lib.hid hB4
   go_wp2_with fail
   go_loopw [3, 27] (fun mo i wr => ∃ (j o : Nat), i = .int .i64 j ∧ mo = .int .i64 o ∧ j ≤ 2 ∧ wr = W4 ∧ o = (if j = 0 then m0 else if j = 1 then max m0 (1 + m1) else max (max m0 (1 + m1)) (1 + m2))) (fun _ i _ => 2 - (intOf i).toNat)
   case atStart => exact ⟨0, m0, rfl, rfl, by omega, rfl, rfl⟩
   case round =>
    obtain ⟨j, o, rfl, rfl, hj, hw4, ho⟩ := hrel
    subst hw4
    have hole : o ≤ 20001 := by rw [ho]; split; omega; split <;> omega
    by_cases hj2 : j < 2
    ·obtain ⟨d, hd, hdl, hcd⟩ : ∃ d : Nat, d = (if j = 0 then m1 else m2) ∧ d ≤ 20000 ∧ wr.cell? ⟨g, j, none⟩ = some (.int .i64 d) := by
      rcases (by omega : j = 0 ∨ j = 1) with rfl | rfl
      ·exact ⟨m1, rfl, b1, hc0⟩
      ·exact ⟨m2, rfl, b2, hc1'⟩
     have hon : max o (1 + d) = (if j + 1 = 0 then m0 else if j + 1 = 1 then max m0 (1 + m1) else max (max m0 (1 + m1)) (1 + m2)) := by
      rw [ho, hd]
      rcases (by omega : j = 0 ∨ j = 1) with rfl | rfl <;> simp
     have j1 : (j : Int) < 2 := by omega
     replace hd := Lib.hid hd
     replace ho := Lib.hid ho
     replace hon := Lib.hid hon
     clear hc0 hc1'
     by_cases hgt : (o : Int) < (d : Int) + 1
     ·have hmx : max o (1 + d) = d + 1 := by omega
      replace hmx := Lib.hid hmx
      go_wp2
      go_roundw
      case rel => exact ⟨j + 1, d + 1, by go_num, by go_num, by omega, trivial, by rw [← hmx.out]; exact hon.out⟩
      case measure => simp [intOf]; omega
     ·have hmx : max o (1 + d) = o := by omega
      replace hmx := Lib.hid hmx
      go_wp2
      go_roundw
      case rel => exact ⟨j + 1, o, by go_num, rfl, by omega, trivial, by rw [← hmx.out]; exact hon.out⟩
      case measure => simp [intOf]; omega
    ·obtain rfl : j = 2 := by omega
     have hfin : o = dpS (ls.take (k + 1)) := by rw [ho, hnext.out]; simp
     replace hfin := Lib.hid hfin
     clear ho
     go_wp2
     go_roundw
     case rel => exact ⟨k + 1, by go_num, by rw [hfin.out], by omega, below_and hB.out hB4.out⟩
     case measure => simp [intOf]; omega
  ·obtain rfl : k = n := by omega
   have hRk : dpS (ls.take k) = R := by rw [hn.out, List.take_length, hR.out]
   rw [hRk]
   replace hRk := Lib.hid hRk
   go_wp2
   go_ret
   exact ⟨rfl, hB⟩
set_option maxRecDepth 100000 in
theorem sameTexts (l : List ByteArray) (u v : Value) (w : World) (hu : NmR l u w) (hv : NmR l v w) (hn : l.length ≤ 1000000) : Calls Tryz.prog 69 #[u, v] w fun e w' => e = .returned (.bool true) ∧ Below w.heap.size w w' := by
 obtain ⟨A, c, rfl, hr⟩ := hu
 obtain ⟨B, d, rfl, hs⟩ := hv
 obtain ⟨n, hl⟩ : ∃ n, n = l.length := ⟨_, rfl⟩
 rw [← hl] at hr hs hn ⊢
 replace hr := Lib.hid hr
 replace hs := Lib.hid hs
 replace hl := Lib.hid hl
 go_enter Tryz.func69, Tryz.ntmps69
 go_wp2
 go_loopw [5] (fun i wr => ∃ k : Nat, i = .int .i64 k ∧ k ≤ n ∧ Below w.heap.size w wr) (fun i _ => n - (intOf i).toNat)
 case atStart => exact ⟨0, rfl, Nat.zero_le _, Below.refl _ _⟩
 case round =>
  obtain ⟨k, rfl, hk, hB⟩ := hrel
  have k0 : 0 ≤ (k : Int) := by omega
  by_cases hlt : k < n
  ·have hx : l[k]? = some (l[k]'(by have := hl.out; omega)) := List.getElem?_eq_getElem (by have := hl.out; omega)
   generalize l[k]'(by have := hl.out; omega) = x at hx
   obtain ⟨ad, rfl, _, hc, hb⟩ := (hr.out.below hB).str hx
   obtain ⟨bd, rfl, _, hc', hb'⟩ := (hs.out.below hB).str hx
   have k1 : (k : Int) < (n : Int) := by omega
   replace hB := Lib.hid hB
   replace hx := Lib.hid hx
   go_wp2_with fail
   go_quiet (fail)
   go_wp2
   go_roundw
   case rel => exact ⟨k + 1, by go_num, by omega, hB.out.os, hB.out.tape, hB.out.output, hB.out.size, hB.out.block⟩
   case measure => simp [intOf]; omega
  ·obtain rfl : k = n := by omega
   go_wp2
   go_ret
   exact ⟨rfl, hB⟩
end Go.Proofs.YtnldbplphgfpeaaGreat
