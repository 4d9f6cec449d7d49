/- The reference: when two expressions are the same, how many nodes they have; declarations. -/
import Derived.Test.YtnldbplphgfpeaaTSm
namespace Go.Proofs.Ytnldbplphgfpeaa
open Go Go.RowKit Go.Shelf
set_option linter.unusedVariables false
set_option linter.unusedSimpArgs false
set_option maxHeartbeats 4000000
def aggRX (e : Ex Loc) : Value := .agg (e.cells eR).toArray
def RSame (a : Ex Loc) : Prop := ∀ (b : Ex Loc) (w : World), a.ok eR w → b.ok eR w → Calls Try.prog 82 #[aggRX a, aggRX b] w fun e w' => e = .returned (.bool (a.same b)) ∧ Below w.heap.size w w'
theorem bne_of {α : Type} [BEq α] {x y : α} {b : Bool} (h : (x == y) = b) : (x != y) = !b := by
  show (!(x == y)) = !b
  rw [h]
set_option maxRecDepth 100000 in
theorem rsameE : ∀ a : Ex Loc, RSame a := by
  intro a
  induction a using Ex.ind with
  | h ha la sa ih =>
  intro b w hoa hob
  obtain ⟨hb, lb, sb⟩ := b
  have hsame : (Ex.mk ha la sa).same (Ex.mk hb lb sb) = (ha.eq hb && sames sa sb) := rfl
  rw [hsame]
  simp only [Hd.eq]
  have hra : Lex.ok eR w la sa := hoa
  have hrb : Lex.ok eR w lb sb := hob
  obtain ⟨xk, xo, xv, xw, xn⟩ := ha
  obtain ⟨yk, yo, yv, yw, yn⟩ := hb
  obtain ⟨lA, lc⟩ := la
  obtain ⟨lB, lc'⟩ := lb
  obtain ⟨n, hn⟩ : ∃ n, n = sa.length := ⟨_, rfl⟩
  obtain ⟨n', hn'⟩ : ∃ n, n = sb.length := ⟨_, rfl⟩
  have ha63 : (n : Int) ≤ 9223372036854775807 := by have h1 := hra.1.2.1; have h2 := hra.1.2.2.1; dsimp only at h1 h2; omega
  simp only [aggRX, Ex.cells, eR]
  rw [← hn, ← hn']
  have hB := ((Below.refl _ w).alloc (Nat.le_refl _) (.cells #[.int .i64 xk, .int .i64 xo, .int .i64 xv, .int .i64 xw, .string xn, .slice lA n lc] 108)).alloc (by simp) (.cells #[.int .i64 yk, .int .i64 yo, .int .i64 yv, .int .i64 yw, .string yn, .slice lB n' lc'] 108)
  have hs0 := (Blk.new w 108 #[.int .i64 xk, .int .i64 xo, .int .i64 xv, .int .i64 xw, .string xn, .slice lA n lc]).alloc (.cells #[.int .i64 yk, .int .i64 yo, .int .i64 yv, .int .i64 yw, .string yn, .slice lB n' lc'] 108)
  have hs1 := Blk.new (w.alloc (.cells #[.int .i64 xk, .int .i64 xo, .int .i64 xv, .int .i64 xw, .string xn, .slice lA n lc] 108)) 108 #[.int .i64 yk, .int .i64 yo, .int .i64 yv, .int .i64 yw, .string yn, .slice lB n' lc']
  rw [World.size_alloc] at hs1
  obtain ⟨R, hR⟩ : ∃ R, R = sames sa sb := ⟨_, rfl⟩
  rw [← hR]
  replace hR := Lib.hid hR
  obtain ⟨b1, e1⟩ : ∃ b1, (xk == yk) = b1 := ⟨_, rfl⟩
  obtain ⟨b2, e2⟩ : ∃ b2, (xo == yo) = b2 := ⟨_, rfl⟩
  obtain ⟨b3, e3⟩ : ∃ b3, (xv == yv) = b3 := ⟨_, rfl⟩
  obtain ⟨b4, e4⟩ : ∃ b4, (xw == yw) = b4 := ⟨_, rfl⟩
  obtain ⟨b5, e5⟩ : ∃ b5, (xn.toList == yn.toList) = b5 := ⟨_, rfl⟩
  obtain ⟨b6, e6⟩ : ∃ b6, ((n : Int) == (n' : Int)) = b6 := ⟨_, rfl⟩
  have f1 := bne_of e1
  have f2 := bne_of e2
  have f3 := bne_of e3
  have f4 := bne_of e4
  have f5 := bne_of e5
  have f6 := bne_of e6
  have hlen : b6 = false → R = false := fun h => by
    rw [h] at e6
    rw [hR.out]
    cases hs : sames sa sb with
    | false => rfl
    | true =>
      have := sames_len hs
      simp at e6
      omega
  have hlen' : b6 = true → n = n' := fun h => by
    rw [h] at e6
    simp at e6
    omega
  rw [e1, e2, e3, e4, e5]
  replace hn := Lib.hid hn
  replace hn' := Lib.hid hn'
  replace hlen := Lib.hid hlen
  replace hlen' := Lib.hid hlen'
  replace ih := Lib.hid ih
  have hra' := Lib.hid hra
  have hrb' := Lib.hid hrb
  have hB' := Lib.hid hB
  have hs0' := Lib.hid hs0
  have hs1' := Lib.hid hs1
  clear hoa hob hsame hra hrb hB hs0 hs1
  cases b1
  · simp only [Bool.false_and, Bool.and_false, Bool.not_false] at f1 ⊢
    go_enter Try.func82, Try.ntmps82
    go_wp2
    go_ret
    exact ⟨rfl, hB'.out⟩
  cases b2
  · simp only [Bool.false_and, Bool.and_false, Bool.not_false, Bool.not_true] at f1 f2 ⊢
    go_enter Try.func82, Try.ntmps82
    go_wp2
    go_ret
    exact ⟨rfl, hB'.out⟩
  cases b3
  · simp only [Bool.false_and, Bool.and_false, Bool.not_false, Bool.not_true] at f1 f2 f3 ⊢
    go_enter Try.func82, Try.ntmps82
    go_wp2
    go_ret
    exact ⟨rfl, hB'.out⟩
  cases b4
  · simp only [Bool.false_and, Bool.and_false, Bool.not_false, Bool.not_true] at f1 f2 f3 f4 ⊢
    go_enter Try.func82, Try.ntmps82
    go_wp2
    go_ret
    exact ⟨rfl, hB'.out⟩
  cases b5
  · simp only [Bool.false_and, Bool.and_false, Bool.not_false, Bool.not_true] at f1 f2 f3 f4 f5 ⊢
    go_enter Try.func82, Try.ntmps82
    go_wp2
    go_ret
    exact ⟨rfl, hB'.out⟩
  cases b6
  · simp only [Bool.true_and, Bool.not_false, Bool.not_true] at f1 f2 f3 f4 f5 f6 ⊢
    have hRf := Lib.hid (hlen.out rfl)
    clear hlen hlen'
    go_enter Try.func82, Try.ntmps82
    go_wp2
    go_ret
    exact ⟨ret_b hRf.out.symm, hB'.out⟩
  obtain rfl := hlen'.out rfl
  clear hlen hlen'
  simp only [Bool.true_and, Bool.not_true] at f1 f2 f3 f4 f5 f6 ⊢
  go_enter Try.func82, Try.ntmps82
  go_wp2
  generalize (w.alloc (.cells #[.int .i64 xk, .int .i64 xo, .int .i64 xv, .int .i64 xw, .string xn, .slice lA n lc] 108)).alloc (.cells #[.int .i64 yk, .int .i64 yo, .int .i64 yv, .int .i64 yw, .string yn, .slice lB n lc'] 108) = W0 at *
  clear e1 e2 e3 e4 e5 e6 f1 f2 f3 f4 f5 f6
  go_loopw [5] (fun i wr => ∃ k : Nat, i = .int .i64 k ∧ k ≤ n ∧ Below W0.heap.size W0 wr ∧ ∀ (i : Nat) x y, i < k → sa[i]? = some x → sb[i]? = some y → x.same y = true) (fun i _ => n - (intOf i).toNat)
  case atStart => exact ⟨0, rfl, Nat.zero_le _, Below.refl _ _, fun i x y h => absurd h (by omega)⟩
  case round =>
    obtain ⟨k, rfl, hk, hB0, hsm⟩ := hrel
    have hB := below_and hB'.out hB0
    have k0 : 0 ≤ (k : Int) := by omega
    have hs0r := hs0'.out.below hB0 hs0'.out.lt
    have hs1r := hs1'.out.below hB0 hs1'.out.lt
    have hl0 := hs0r.lt
    have hl1 := hs1r.lt
    have hC0 : ∀ x : Ext wr, x.w.cell? ⟨w.heap.size, 5, none⟩ = some (.slice lA n lc) := fun x => (hs0r.below x.below hl0).cell 5
    have hC1 : ∀ x : Ext wr, x.w.cell? ⟨w.heap.size + 1, 5, none⟩ = some (.slice lB n lc') := fun x => (hs1r.below x.below hl1).cell 5
    have hc0 := hs0r.cell 5
    simp only [List.getElem?_toArray, List.getElem?_cons_zero, List.getElem?_cons_succ] at hc0
    clear hs0r hs1r
    by_cases hlt : k < n
    · have hx : sa[k]? = some (sa[k]'(by have := hn.out; omega)) := List.getElem?_eq_getElem (by have := hn.out; omega)
      generalize sa[k]'(by have := hn.out; omega) = x at hx
      have hy : sb[k]? = some (sb[k]'(by have := hn'.out; omega)) := List.getElem?_eq_getElem (by have := hn'.out; omega)
      generalize sb[k]'(by have := hn'.out; omega) = y at hy
      obtain ⟨ad, hA, _, _, hxok, hcx⟩ := (hra'.out.all (keeps_below hB)).at hx
      obtain ⟨bd, hA', _, _, hyok, hcy⟩ := (hrb'.out.all (keeps_below hB)).at hy
      have hcall := fun w2 (hB2 : Below wr.heap.size wr w2) => ih.out x (List.mem_of_getElem? hx) y w2 (hxok.below hB2) (hyok.below hB2)
      have hres := sames_false hx hy
      obtain ⟨r, hr⟩ : ∃ r, r = x.same y := ⟨_, rfl⟩
      rw [← hr] at hcall hres
      replace hr := Lib.hid hr
      replace hx := Lib.hid hx
      replace hy := Lib.hid hy
      replace hsm := Lib.hid hsm
      replace hres := Lib.hid hres
      obtain ⟨⟨pk, po, pv, pw, pn⟩, ⟨xA, xc⟩, xs⟩ := x
      obtain ⟨⟨qk, qo, qv, qw, qn⟩, ⟨yA, yc⟩, ys⟩ := y
      obtain ⟨c0, c1, c2, c3, c4, c5⟩ := CellsAt.c6 hcx
      obtain ⟨d0, d1, d2, d3, d4, d5⟩ := CellsAt.c6 hcy
      simp only [aggRX, Ex.cells, eR] at c0 c1 c2 c3 c4 c5 d0 d1 d2 d3 d4 d5 hcall
      dsimp only at hA hA'
      subst hA
      subst hA'
      have k1 : (k : Int) < (n : Int) := by omega
      have hab := cell_lt c0
      have hbb := cell_lt d0
      have hX : ∀ x : Ext wr, Calls Try.prog 82 #[.agg #[.int .i64 pk, .int .i64 po, .int .i64 pv, .int .i64 pw, .string pn, .slice xA xs.length xc], .agg #[.int .i64 qk, .int .i64 qo, .int .i64 qv, .int .i64 qw, .string qn, .slice yA ys.length yc]] x.w fun e w' => e = .returned (.bool r) ∧ Below x.w.heap.size x.w w' := fun x => hcall x.w x.below
      have C0 := fun x : Ext wr => x.cell c0 hab
      have C1 := fun x : Ext wr => x.cell c1 hab
      have C2 := fun x : Ext wr => x.cell c2 hab
      have C3 := fun x : Ext wr => x.cell c3 hab
      have C4 := fun x : Ext wr => x.cell c4 hab
      have C5 := fun x : Ext wr => x.cell c5 hab
      have D0 := fun x : Ext wr => x.cell d0 hbb
      have D1 := fun x : Ext wr => x.cell d1 hbb
      have D2 := fun x : Ext wr => x.cell d2 hbb
      have D3 := fun x : Ext wr => x.cell d3 hbb
      have D4 := fun x : Ext wr => x.cell d4 hbb
      have D5 := fun x : Ext wr => x.cell d5 hbb
      clear hcall c0 c1 c2 c3 c4 c5 d0 d1 d2 d3 d4 d5
      replace hX := Lib.hid hX
      go_wp2_with fail
      refine wp_region_grown (by kernel_rfl) (by kernel_rfl) (by kernel_rfl) ?_
      repeat (go_big_quiet_step (first | (go_at_call 82; with_reducible exact grown_of (hX.out _))))
      refine wpQuiet_nil ?_
      rintro _ ⟨x, rfl⟩
      have hB2 := below_and hB0 x.below
      cases r
      · go_wp2
        go_ret
        refine ⟨ret_b ((hR.out.trans (hres.out (by simp))).symm), below_and hB'.out hB2⟩
      · go_wp2
        go_roundw
        case rel =>
          refine ⟨k + 1, by go_num, by omega, hB2, fun i x y hi hx' hy' => ?_⟩
          by_cases hik : i = k
          · subst hik
            rw [hx.out] at hx'
            rw [hy.out] at hy'
            cases hx'
            cases hy'
            exact hr.out.symm
          · exact hsm.out i x y (by omega) hx' hy'
        case measure => simp [intOf]; omega
    · obtain rfl : k = n := by omega
      have hRt : R = true := by
        rw [hR.out]
        refine (sames_at sa sb (by rw [← hn.out, ← hn'.out])).2 fun i x y hx hy => hsm i x y ?_ hx hy
        have := (List.getElem?_eq_some_iff.1 hx).1
        have := hn.out
        omega
      replace hRt := Lib.hid hRt
      replace hsm := Lib.hid hsm
      go_wp2
      go_ret
      exact ⟨ret_b hRt.out.symm, hB⟩
end Go.Proofs.Ytnldbplphgfpeaa
