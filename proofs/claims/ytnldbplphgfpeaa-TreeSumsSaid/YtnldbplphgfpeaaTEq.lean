/- Lists of strings are compared. -/
import Derived.Test.YtnldbplphgfpeaaTPs
namespace Go.Proofs.Ytnldbplphgfpeaa
open Go Go.RowKit Go.Shelf
set_option linter.unusedVariables false
set_option linter.unusedSimpArgs false
set_option maxHeartbeats 4000000
set_option maxRecDepth 100000 in
theorem equalStr (A1 A2 : Option Addr) (c1 c2 n n' : Nat) (a b : List ByteArray) (w : World) (ha : Reads w w.heap.size 1 A1 n (strs a)) (hb : Reads w w.heap.size 1 A2 n' (strs b)) (hnn : n ≤ 4611686018427387904) (R : Bool) (hR0 : R = true ↔ a = b) :
    Calls Try.prog 19 #[.slice A1 n c1, .slice A2 n' c2] w fun e w' => e = .returned (.bool R) ∧ Below w.heap.size w w' := by
  have hn : n = a.length := by have := ha.1; rw [strs_len] at this; omega
  have hn' : n' = b.length := by have := hb.1; rw [strs_len] at this; omega
  by_cases hl : n = n'
  · subst hl
    replace hn := Lib.hid hn
    replace hn' := Lib.hid hn'
    have hR := Lib.hid hR0
    clear hR0
    go_enter Try.func19, Try.ntmps19
    go_wp2
    go_loopw [13] (fun i wr => ∃ k : Nat, i = .int .i64 k ∧ k ≤ n ∧ Below w.heap.size w wr ∧ ∀ (i : Nat) x y, i < k → a[i]? = some x → b[i]? = some y → x = y) (fun i _ => n - (intOf i).toNat)
    case atStart => exact ⟨0, rfl, Nat.zero_le _, Below.refl _ _, fun i x y h => absurd h (by omega)⟩
    case round =>
      obtain ⟨k, rfl, hk, hB, hsm⟩ := hrel
      have k0 : 0 ≤ (k : Int) := by omega
      by_cases hlt : k < n
      · have hx : a[k]? = some (a[k]'(by have := hn.out; omega)) := List.getElem?_eq_getElem (by have := hn.out; omega)
        generalize a[k]'(by have := hn.out; omega) = x at hx
        have hy : b[k]? = some (b[k]'(by have := hn'.out; omega)) := List.getElem?_eq_getElem (by have := hn'.out; omega)
        generalize b[k]'(by have := hn'.out; omega) = y at hy
        obtain ⟨ad, hA, _, hcx, hab⟩ := Reads.str ((ha.below hB)) hx
        obtain ⟨bd, hA', _, hcy, hbb⟩ := Reads.str ((hb.below hB)) hy
        subst hA
        subst hA'
        have k1 : (k : Int) < (n : Int) := by omega
        obtain ⟨r, hr⟩ : ∃ r, (x.toList == y.toList) = r := ⟨_, rfl⟩
        have hr2 : (x.toList != y.toList) = !r := by rw [← hr]; rfl
        have hres : r = false → R = false := fun h => by
          rw [Bool.eq_false_iff]
          intro h1
          have h2 := hR.out.1 h1
          subst h2
          rw [hx] at hy
          injection hy with hy
          subst hy
          rw [h] at hr
          simp at hr
        have hr' := Lib.hid hr
        replace hx := Lib.hid hx
        replace hy := Lib.hid hy
        replace hsm := Lib.hid hsm
        replace hres := Lib.hid hres
        go_wp2_with fail
        go_quiet (fail)
        have hBq : Below wr.heap.size wr (wr.drewN nq) := ⟨rfl, rfl, rfl, Nat.le_refl _, fun _ _ => rfl⟩
        generalize wr.drewN nq = W1 at *
        cases r
        · go_wp2
          go_ret
          refine ⟨ret_b (hres.out (by simp)).symm, below_and hB hBq⟩
        · go_wp2_with fail
          go_roundw
          case rel =>
            refine ⟨k + 1, by go_num, by omega, below_and hB hBq, fun i x y hi hx' hy' => ?_⟩
            by_cases hik : i = k
            · subst hik
              rw [hx.out] at hx'
              rw [hy.out] at hy'
              cases hx'
              cases hy'
              exact bl_iff.1 (beq_iff_eq.1 hr'.out)
            · exact hsm.out i x y (by omega) hx' hy'
          case measure => simp [intOf]; omega
      · obtain rfl : k = n := by omega
        have hRt : R = true := by
          rw [hR.out]
          refine List.ext_getElem? fun i => ?_
          by_cases hi : i < k
          · have h1 : a[i]? = some (a[i]'(by have := hn.out; omega)) := List.getElem?_eq_getElem _
            have h2 : b[i]? = some (b[i]'(by have := hn'.out; omega)) := List.getElem?_eq_getElem _
            rw [h1, h2, hsm i _ _ hi h1 h2]
          · rw [List.getElem?_eq_none (by have := hn.out; omega), List.getElem?_eq_none (by have := hn'.out; omega)]
        replace hRt := Lib.hid hRt
        replace hsm := Lib.hid hsm
        go_wp2
        go_ret
        exact ⟨ret_b hRt.out.symm, hB⟩
  · have hRf : R = false := by
      rw [Bool.eq_false_iff]
      intro h1
      have h2 := hR0.1 h1
      subst h2
      exact hl (hn.trans hn'.symm)
    rw [hRf]
    have h1 : ((n : Int) == (n' : Int)) = false := by simp; omega
    have h2 : ((n : Int) != (n' : Int)) = true := by simp; omega
    have hl' := Lib.hid hl
    clear hl hR0
    replace hn := Lib.hid hn
    replace hn' := Lib.hid hn'
    replace hRf := Lib.hid hRf
    go_enter Try.func19, Try.ntmps19
    go_wp2
    go_ret
    exact ⟨rfl, Below.refl _ _⟩
end Go.Proofs.Ytnldbplphgfpeaa
