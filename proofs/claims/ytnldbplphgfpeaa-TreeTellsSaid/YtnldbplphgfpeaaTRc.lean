/- The reference: how many nodes statements have. -/
import Derived.Test.YtnldbplphgfpeaaTRb
namespace Go.Proofs.Ytnldbplphgfpeaa
open Go Go.RowKit Go.Shelf
set_option linter.unusedVariables false
set_option linter.unusedSimpArgs false
set_option maxHeartbeats 8000000
theorem szS_take {α : Type} {l : List (St α)} {k : Nat} {x : St α} (hx : l[k]? = some x) : szS (l.take (k + 1)) = szS (l.take k) + x.sz := by
  obtain ⟨q1, q2⟩ := List.getElem?_eq_some_iff.1 hx
  rw [List.take_succ_eq_append_getElem q1, q2, szS_append]
  simp [szS]
theorem szS_take_le {α : Type} (l : List (St α)) (k : Nat) : szS (l.take k) ≤ szS l := by
  have h := szS_append (l.take k) (l.drop k)
  rw [List.take_append_drop] at h
  omega
theorem szs_take_le {α : Type} (l : List (Ex α)) (k : Nat) : szs (l.take k) ≤ szs l := by
  have h := szs_append (l.take k) (l.drop k)
  rw [List.take_append_drop] at h
  omega
set_option maxRecDepth 100000 in
theorem rcountS : ∀ (ls : List (St Loc)) (lc : Loc) (b : Nat) (w : World), b + szS ls ≤ 20000 → Lst.ok eR w lc ls →
    Calls Try.prog 85 #[.slice lc.A ls.length lc.c, .int .i64 b] w fun r w' => r = .returned (.int .i64 (b + szS ls : Nat)) ∧ Below w.heap.size w w' := by
  intro ls
  induction ls using St.list with
  | h ls ih =>
  intro lc b w hb hok
  obtain ⟨n, hn⟩ : ∃ n, n = ls.length := ⟨_, rfl⟩
  have hnl := szS_len ls
  have hn63 : (n : Int) ≤ 20000 := by omega
  rw [← hn]
  obtain ⟨T, hT⟩ : ∃ T, T = szS ls := ⟨_, rfl⟩
  rw [← hT] at hb ⊢
  have bi : (b : Int) + T ≤ 20000 := by omega
  replace hn := Lib.hid hn
  replace hok := Lib.hid hok
  replace ih := Lib.hid ih
  replace hT := Lib.hid hT
  clear hnl
  go_enter Try.func85, Try.ntmps85
  go_wp2_with fail
  go_loopw [5, 6] (fun v5 v6 wr => ∃ (k q : Nat), v6 = .int .i64 k ∧ v5 = .int .i64 q ∧ k ≤ n ∧ q = b + szS (ls.take k) ∧ Below w.heap.size w wr) (fun _ v6 _ => n - (intOf v6).toNat)
  case atStart => exact ⟨0, b, rfl, rfl, Nat.zero_le _, by simp [szS], Below.refl _ _⟩
  case round =>
    obtain ⟨k, q, rfl, rfl, hk, hq, hB⟩ := hrel
    have k0 : 0 ≤ (k : Int) := by omega
    have hle := szS_take_le ls k
    have qi : (q : Int) ≤ 20000 := by have := hT.out; omega
    replace hq := Lib.hid hq
    replace hle := Lib.hid hle
    by_cases hlt : k < n
    · have hx : ls[k]? = some (ls[k]'(by have := hn.out; omega)) := List.getElem?_eq_getElem (by have := hn.out; omega)
      generalize ls[k]'(by have := hn.out; omega) = x at hx
      obtain ⟨ad, hA, _, _, hxok, hcx⟩ := (hok.out.all (keeps_below hB)).at hx
      have hmem := List.mem_of_getElem? hx
      have hnext := szS_take hx
      have hxle := szS_take_le ls (k + 1)
      have hi1 := (ih.out x hmem).1
      have hi2 := (ih.out x hmem).2
      obtain ⟨⟨xk, xn, xb⟩, ⟨xA, xc⟩, ⟨x1, x2⟩, ⟨x3, x4⟩, xx, xt, xe⟩ := x
      simp only [St.th, St.el, St.sz] at hnext hi1 hi2
      obtain ⟨c0, c1, c2, c3, c4, c5⟩ := CellsAt.c6 hcx
      simp only [eR] at c0 c1 c2 c3 c4 c5
      try dsimp only at hA
      obtain ⟨m, hmx⟩ : ∃ m, m = xx.length := ⟨_, rfl⟩
      rw [← hmx] at c2
      obtain ⟨p1, p2, p3⟩ := hxok.parts
      have hml := szs_len xx
      have hTo := hT.out
      have hqo := hq.out
      have hm63 : (m : Int) ≤ 20000 := by omega
      obtain ⟨q1, hq1⟩ : ∃ q1, q1 = q + 1 + szs xx := ⟨_, rfl⟩
      obtain ⟨q2, hq2⟩ : ∃ q2, q2 = q1 + szS xt := ⟨_, rfl⟩
      obtain ⟨q3, hq3⟩ : ∃ q3, q3 = q2 + szS xe := ⟨_, rfl⟩
      have q3i : (q3 : Int) ≤ 20000 := by omega
      have q2i : (q2 : Int) ≤ 20000 := by omega
      have hc1 := fun w2 (hB2 : Below wr.heap.size wr w2) => hi1 ⟨x1, x2⟩ q1 w2 (by omega) (p2.all (keeps_below hB2))
      have hc2 := fun w2 (hB2 : Below wr.heap.size wr w2) => hi2 ⟨x3, x4⟩ q2 w2 (by omega) (p3.all (keeps_below hB2))
      rw [← hq2] at hc1
      rw [← hq3] at hc2
      dsimp only at hc1 hc2
      have hqn : q3 = b + szS (ls.take (k + 1)) := by omega
      have hab := cell_lt c0
      have k1 : (k : Int) < (n : Int) := by omega
      have q1i : q1 ≤ 20000 := by omega
      obtain ⟨lA, lc'⟩ := lc
      try dsimp only at hA
      subst hA
      clear hi1 hi2 hxok hTo hqo hml hnext hxle hcx
      replace p1 := Lib.hid p1
      replace hc1 := Lib.hid hc1
      replace hc2 := Lib.hid hc2
      replace hx := Lib.hid hx
      replace hmx := Lib.hid hmx
      replace hq1 := Lib.hid hq1
      replace hq2 := Lib.hid hq2
      replace hq3 := Lib.hid hq3
      replace hqn := Lib.hid hqn
      have hc2c := fun (w2 : World) (h2 : Below wr.heap.size wr w2) => (h2.cell (p := ⟨(ad.add (k * 6)).block, (ad.add (k * 6)).off + 2, none⟩) hab).trans c2
      have hc4c := fun (w2 : World) (h2 : Below wr.heap.size wr w2) => (h2.cell (p := ⟨(ad.add (k * 6)).block, (ad.add (k * 6)).off + 4, none⟩) hab).trans c4
      have hc5c := fun (w2 : World) (h2 : Below wr.heap.size wr w2) => (h2.cell (p := ⟨(ad.add (k * 6)).block, (ad.add (k * 6)).off + 5, none⟩) hab).trans c5
      replace hc2c := Lib.hid hc2c
      replace hc4c := Lib.hid hc4c
      replace hc5c := Lib.hid hc5c
      clear c0 c1 c2 c3 c4 c5
      obtain ⟨Wx, hWx⟩ : ∃ x, x = wr := ⟨_, rfl⟩
      subst hWx
      go_wp2_with fail
      go_loopw [5, 7] (fun v5 v7 wr => ∃ (j p : Nat), v7 = .int .i64 j ∧ v5 = .int .i64 p ∧ j ≤ m ∧ p = q + 1 + szs (xx.take j) ∧ Below Wx.heap.size Wx wr) (fun _ v7 _ => m - (intOf v7).toNat)
      case atStart => exact ⟨0, q + 1, rfl, by go_num, Nat.zero_le _, by simp [szs], Below.refl _ _⟩
      case round =>
        obtain ⟨j, p, rfl, rfl, hj, hp, hB5⟩ := hrel
        have j0 : 0 ≤ (j : Int) := by omega
        have hlej := szs_take_le xx j
        have pi : (p : Int) ≤ 20000 := by have := hq1.out; omega
        replace hp := Lib.hid hp
        replace hlej := Lib.hid hlej
        have hBo := Lib.hid (below_and hB hB5)
        have e2 := hc2c.out wr hB5
        have hab2 := cell_lt e2
        dsimp only at hab2
        by_cases hjl : j < m
        · have hy : xx[j]? = some (xx[j]'(by have := hmx.out; omega)) := List.getElem?_eq_getElem (by have := hmx.out; omega)
          generalize xx[j]'(by have := hmx.out; omega) = y at hy
          obtain ⟨ad2, hA2, _, _, hyok, hcy⟩ := (Lex.ok.all (keeps_below hB5) p1.out).at hy
          have hnexty := szs_take_succ hy
          have hley := szs_take_le xx (j + 1)
          have hpo := hp.out
          have hq1o := hq1.out
          have hcall := rcountE y p wr (by omega) hyok
          obtain ⟨p', hp'⟩ : ∃ x, x = p + y.sz := ⟨_, rfl⟩
          rw [← hp'] at hcall
          have hpn : p' = q + 1 + szs (xx.take (j + 1)) := by omega
          have p'i : (p' : Int) ≤ 20000 := by omega
          obtain ⟨⟨yk, yo, yv, yw, yn⟩, ⟨yA, yc⟩, ys⟩ := y
          try dsimp only at hA2
          subst hA2
          obtain ⟨e20, e21, e22, e23, e24, e25⟩ := CellsAt.c6 hcy
          simp only [eR, aggRX, Ex.cells] at e20 e21 e22 e23 e24 e25 hcall
          have hab3 := cell_lt e20
          have j1 : (j : Int) < (m : Int) := by omega
          clear hpo hq1o hnexty hley hcy hyok
          replace hcall := Lib.hid hcall
          replace hy := Lib.hid hy
          replace hp' := Lib.hid hp'
          replace hpn := Lib.hid hpn
          go_wp2_with fail
          refine hcall.out.mono ?_
          rintro e w2 ⟨rfl, hB3⟩
          have hB4 := below_and hB5 hB3
          clear e20 e21 e22 e23 e24 e25 e2
          go_wp2_with fail
          go_roundw
          case rel => exact ⟨j + 1, p', by go_num, rfl, by omega, hpn.out, hB4⟩
          case measure => simp [intOf]; omega
        · obtain rfl : j = m := by omega
          have hjm : xx.take j = xx := List.take_of_length_le (by have := hmx.out; omega)
          have hpq : p = q1 := by have h1 := hp.out; rw [hjm] at h1; have h2 := hq1.out; omega
          subst hpq
          clear hjm
          have hX1 : ∀ x : Ext wr, Calls Try.prog 85 #[.slice x1 xt.length x2, .int .i64 (p : Nat)] x.w fun e w' => e = .returned (.int .i64 (q2 : Nat)) ∧ Below x.w.heap.size x.w w' := fun x => hc1.out x.w (below_and hB5 x.below)
          have hX2 : ∀ x : Ext wr, Calls Try.prog 85 #[.slice x3 xe.length x4, .int .i64 (q2 : Nat)] x.w fun e w' => e = .returned (.int .i64 (q3 : Nat)) ∧ Below x.w.heap.size x.w w' := fun x => hc2.out x.w (below_and hB5 x.below)
          have hC4 : ∀ x : Ext wr, x.w.cell? ⟨(ad.add (k * 6)).block, (ad.add (k * 6)).off + 4, none⟩ = some (.slice x1 xt.length x2) := fun x => hc4c.out x.w (below_and hB5 x.below)
          have hC5 : ∀ x : Ext wr, x.w.cell? ⟨(ad.add (k * 6)).block, (ad.add (k * 6)).off + 5, none⟩ = some (.slice x3 xe.length x4) := fun x => hc5c.out x.w (below_and hB5 x.below)
          replace hX1 := Lib.hid hX1
          replace hX2 := Lib.hid hX2
          go_wp2_with fail
          refine wp_region_grown (by kernel_rfl) (by kernel_rfl) (by kernel_rfl) ?_
          repeat (go_big_quiet_step (first
            | (go_at_call 85; with_reducible exact grown_of (hX1.out _))
            | (go_at_call 85; with_reducible exact grown_of (hX2.out _))))
          refine wpQuiet_nil ?_
          rintro _ ⟨x, rfl⟩
          have hB6 := below_and hBo.out x.below
          clear hC4 hC5 e2
          go_wp2_with fail
          go_roundw
          case rel => exact ⟨k + 1, q3, by go_num, rfl, by omega, hqn.out, hB6⟩
          case measure => simp [intOf]; omega
    · obtain rfl : n = k := by omega
      have hkn : ls.take n = ls := List.take_of_length_le (by have := hn.out; omega)
      have hqq : q = b + T := by have h1 := hq.out; rw [hkn] at h1; have := hT.out; omega
      replace hqq := Lib.hid hqq
      clear hkn
      go_wp2_with fail
      go_ret
      rw [hqq.out]
      exact ⟨rfl, hB⟩
end Go.Proofs.Ytnldbplphgfpeaa
