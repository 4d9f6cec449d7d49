/- few: an expression's size, told as far as it is small. -/
import Derived.Test.YtnldbplphgfpeaaTWt
namespace Go.Proofs.Ytnldbplphgfpeaa
open Go Go.RowKit Go.Shelf
set_option linter.unusedVariables false
set_option linter.unusedSimpArgs false
set_option maxHeartbeats 4000000
def FewE (e : Ex Loc) : Prop := ∀ (most M : Nat) (w : World), most ≤ 60000 → M ≤ 140737488355327 → e.ok eT w → e.all (Hd.short M) →
  Calls Try.prog 76 #[aggX e, .int .i64 most] w fun r w' => (∃ n : Nat, r = .returned (.int .i64 n) ∧ ((n ≤ most ∨ e.wt ≤ most) → n = e.wt) ∧ n ≤ most + 1 + M) ∧ Below w.heap.size w w'
set_option maxRecDepth 100000 in
theorem fewE : ∀ e : Ex Loc, FewE e := by
  intro e
  induction e using Ex.ind with
  | h hd lc ss ih =>
  intro most M w hm hM hok hfit
  have hnm : hd.nm.size ≤ M := hfit.1
  have hsub : ∀ x ∈ ss, x.all (Hd.short M) := allX_iff.1 hfit.2
  obtain ⟨n, hn⟩ : ∃ n, n = ss.length := ⟨_, rfl⟩
  have hrow : Lex.ok eT w lc ss := hok
  obtain ⟨xk, xo, xv, xw, xn⟩ := hd
  obtain ⟨lA, lcap⟩ := lc
  have hn63 : (n : Int) ≤ 9223372036854775807 := by have h1 := hrow.1.2.1; have h2 := hrow.1.2.2.1; dsimp only at h1 h2; omega
  dsimp only at hnm
  have hsz0 : (Ex.mk ⟨xk, xo, xv, xw, xn⟩ (⟨lA, lcap⟩ : Loc) ss).wt = 1 + xn.size + wtX ss := rfl
  rw [hsz0]
  simp only [aggX, Ex.cells, eT]
  rw [← hn]
  have z1 : (xn.size : Int) ≤ 140737488355328 := by omega
  have m1 : (most : Int) ≤ 60000 := by omega
  obtain ⟨s0, hs0⟩ : ∃ s0, s0 = xn.size := ⟨_, rfl⟩
  have hBx := (Below.refl _ w).alloc (Nat.le_refl _) (.cells #[.int .u8 xk, .int .u8 xo, .int .u32 xv, .int .i64 xw, .string xn, .slice lA n lcap] 30)
  have hrow' := hrow
  replace hrow' := Lib.hid hrow'
  replace hsub := Lib.hid hsub
  replace hn := Lib.hid hn
  replace hs0 := Lib.hid hs0
  replace hBx := Lib.hid hBx
  clear hrow hok hfit hsz0
  go_enter Try.func76, Try.ntmps76
  go_wp2_with fail
  go_loopw [5, 15] (fun v5 v15 wr => ∃ (k q : Nat), v15 = .int .i64 k ∧ v5 = .int .i64 q ∧ k ≤ n ∧ ((q ≤ most ∨ 1 + xn.size + wtX ss ≤ most) → q = 1 + xn.size + wtX (ss.take k)) ∧ q ≤ most + 1 + M ∧ Below w.heap.size w wr) (fun _ v15 _ => n - (intOf v15).toNat)
  case atStart => exact ⟨0, 1 + xn.size, rfl, by go_num, Nat.zero_le _, fun _ => by simp [wtX], by omega, hBx.out⟩
  case round =>
    obtain ⟨k, q, rfl, rfl, hk, hq, hqm, hB⟩ := hrel
    have k0 : 0 ≤ (k : Int) := by omega
    by_cases hlt : k < n
    · by_cases hgt : most < q
      · have hx : ss[k]? = some (ss[k]'(by have := hn.out; omega)) := List.getElem?_eq_getElem (by have := hn.out; omega)
        generalize ss[k]'(by have := hn.out; omega) = x at hx
        obtain ⟨ad, hA, _, _, hxok, hcx⟩ := (hrow'.out.all (keeps_below hB)).at hx
        have k1 : (k : Int) < (n : Int) := by omega
        have hg : (most : Int) < (q : Int) := by omega
        obtain ⟨⟨yk, yo, yv, yw, yn⟩, ⟨yA, yc⟩, ys⟩ := x
        dsimp only at hA
        subst hA
        obtain ⟨d0, d1, d2, d3, d4, d5⟩ := CellsAt.c6 hcx
        have hab := cell_lt d0
        have hB2 := hB.alloc hB.size (.cells #[.int .u8 yk, .int .u8 yo, .int .u32 yv, .int .i64 yw, .string yn, .slice yA ys.length yc] 30)
        simp only [eT] at d0 d1 d2
        replace hB2 := Lib.hid hB2
        replace hx := Lib.hid hx
        go_wp2_with fail
        go_ret
        exact ⟨⟨q, rfl, fun h => by have h1 := hq h; have h2 := wtX_take_le ss k; omega, hqm⟩, hB2.out⟩
      · have hx : ss[k]? = some (ss[k]'(by have := hn.out; omega)) := List.getElem?_eq_getElem (by have := hn.out; omega)
        generalize ss[k]'(by have := hn.out; omega) = x at hx
        obtain ⟨ad, hA, _, _, hxok, hcx⟩ := (hrow'.out.all (keeps_below hB)).at hx
        have k1 : (k : Int) < (n : Int) := by omega
        have hg : ¬ ((most : Int) < (q : Int)) := by omega
        have hmem := List.mem_of_getElem? hx
        obtain ⟨md, hmd⟩ : ∃ md, md = most - q := ⟨_, rfl⟩
        have hmi : (most : Int) - (q : Int) = (md : Int) := by omega
        have hcall := fun w2 (hB2 : Below wr.heap.size wr w2) => ih x hmem md M w2 (by omega) hM (hxok.below hB2) (hsub.out x hmem)
        have hnext := wtX_take hx
        have hle := wtX_take_le ss (k + 1)
        obtain ⟨⟨yk, yo, yv, yw, yn⟩, ⟨yA, yc⟩, ys⟩ := x
        dsimp only at hA
        subst hA
        obtain ⟨d0, d1, d2, d3, d4, d5⟩ := CellsAt.c6 hcx
        have hab := cell_lt d0
        have hB2 := (Below.refl _ wr).alloc (Nat.le_refl _) (.cells #[.int .u8 yk, .int .u8 yo, .int .u32 yv, .int .i64 yw, .string yn, .slice yA ys.length yc] 30)
        simp only [eT, aggX, Ex.cells] at d0 d1 d2 hcall
        have hcall2 := hcall _ hB2
        replace hcall2 := Lib.hid hcall2
        replace hB2 := Lib.hid hB2
        replace hx := Lib.hid hx
        replace hmi := Lib.hid hmi
        replace hmd := Lib.hid hmd
        replace hnext := Lib.hid hnext
        replace hle := Lib.hid hle
        clear hcall
        go_wp2_with fail
        rw [hmi.out]
        refine hcall2.out.mono ?_
        rintro e w2 ⟨⟨q2, rfl, hq2, hqm2⟩, hB3⟩
        have hB4 := below_and hB2.out hB3
        replace hB4 := Lib.hid hB4
        have q2b : (q2 : Int) ≤ 140737488500000 := by have := hmd.out; omega
        go_wp2_with fail
        go_roundw
        case rel => exact ⟨k + 1, q + q2, by go_num, by go_num, by omega, fun h => by have h1 := hnext.out; have h3 := hle.out; have h2 := hmd.out; have h4 := hq (by omega); have h5 := hq2 (by omega); omega, by have := hmd.out; omega, below_and hB hB4.out⟩
        case measure => simp [intOf]; omega
    · obtain rfl : n = k := by omega
      have hkn : ss.take n = ss := List.take_of_length_le (by have := hn.out; omega)
      rw [hkn] at hq
      replace hkn := Lib.hid hkn
      go_wp2_with fail
      go_ret
      exact ⟨⟨q, rfl, hq, hqm⟩, hB⟩
end Go.Proofs.Ytnldbplphgfpeaa
