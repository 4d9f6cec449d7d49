/- Programs: how many nodes they have. -/
import Derived.Test.YtnldbplphgfpeaaTPg
namespace Go.Proofs.Ytnldbplphgfpeaa
open Go Go.RowKit Go.Shelf
set_option linter.unusedVariables false
set_option linter.unusedSimpArgs false
set_option maxHeartbeats 4000000
def aggP (p : Pg Loc) : Value := .agg (p.cells eT).toArray
theorem cntI_take {α : Type} {l : List (In α)} {k : Nat} {x : In α} (h : l[k]? = some x) (n : Nat) : cntI (l.take (k + 1)) n = capE (cntI (l.take k) n + 1) x.val.sz := by
  obtain ⟨hk, e⟩ := List.getElem?_eq_some_iff.1 h
  rw [List.take_succ_eq_append_getElem hk, cntI_append, e]; rfl
theorem cntPr_take {α : Type} {l : List (Pr α)} {k : Nat} {x : Pr α} (h : l[k]? = some x) (n : Nat) : cntPr (l.take (k + 1)) n = cntL (nodesS x.body) (cntPr (l.take k) n + 1 + x.ps.length) := by
  obtain ⟨hk, e⟩ := List.getElem?_eq_some_iff.1 h
  rw [List.take_succ_eq_append_getElem hk, cntPr_append, e]; rfl
set_option maxRecDepth 100000 in
theorem count_ok (p : Pg Loc) (w : World) (hok : p.ok eT w) (hs : p.Slim) : Calls Try.prog 41 #[aggP p] w fun r w' => r = .returned (.int .i64 (cntP p : Nat)) ∧ Below w.heap.size w w' := by
  obtain ⟨bl, wd, ⟨A2, c2⟩, ins, ⟨A3, c3⟩, gh, ⟨A4, c4⟩, va, ⟨A5, c5⟩, ar, ⟨⟨rk, ro, rv, rwd, rn⟩, ⟨rA, rc⟩, rs⟩, ⟨A7, c7⟩, inits, ⟨A8, c8⟩, procs, ⟨A9, c9⟩, work, ⟨A10, c10⟩, recov, ⟨⟨ik, io, iv, iwd, inn⟩, ⟨iA, ic⟩, is⟩⟩ := p
  obtain ⟨N, hN⟩ : ∃ N, N = cntP (Pg.mk bl wd ⟨A2, c2⟩ ins ⟨A3, c3⟩ gh ⟨A4, c4⟩ va ⟨A5, c5⟩ ar (Ex.mk ⟨rk, ro, rv, rwd, rn⟩ (⟨rA, rc⟩ : Loc) rs) ⟨A7, c7⟩ inits ⟨A8, c8⟩ procs ⟨A9, c9⟩ work ⟨A10, c10⟩ recov (Ex.mk ⟨ik, io, iv, iwd, inn⟩ (⟨iA, ic⟩ : Loc) is)) := ⟨_, rfl⟩
  rw [← hN]
  obtain ⟨k1, k2, k3, k4, k5, k6, k7, k8, k9, k10⟩ := hok
  obtain ⟨s1, s2, s3, s4, s5, s6, s7, s8, s9⟩ := hs
  dsimp only at k1 k2 k3 k4 k5 k6 k7 k8 k9 k10 s1 s2 s3 s4 s5 s6 s7 s8 s9
  have b1 := (k1.2.1 : ins.length ≤ c2)
  obtain ⟨n0, hn0⟩ : ∃ n, n = ins.length + gh.length + va.length + ar.length + 1 := ⟨_, rfl⟩
  have hn0b : n0 ≤ 80001 := by omega
  have hc0 := fun w2 (h2 : Below w.heap.size w w2) => countE (Ex.mk ⟨rk, ro, rv, rwd, rn⟩ (⟨rA, rc⟩ : Loc) rs) n0 (by omega) w2 (k5.below h2)
  obtain ⟨n1, hn1⟩ : ∃ n, n = capE n0 (Ex.mk ⟨rk, ro, rv, rwd, rn⟩ (⟨rA, rc⟩ : Loc) rs).sz := ⟨_, rfl⟩
  have hn1b : n1 ≤ 80002 := by rw [hn1]; unfold capE; omega
  rw [← hn1] at hc0
  have hi : ∀ k, cntI (inits.take k) n1 ≤ 150000 := fun k => by
    have h1 : (inits.take k).length ≤ inits.length := by rw [List.length_take]; omega
    have h2 := cntI_le (inits.take k) n1
    omega
  obtain ⟨n2, hn2⟩ : ∃ n, n = cntI inits n1 := ⟨_, rfl⟩
  have hn2b : n2 ≤ 150000 := by
    have := cntI_le inits n1
    omega
  have hpr : ∀ k, cntPr (procs.take k) n2 ≤ 2000000000 := fun k => by
    have h1 : (procs.take k).length ≤ procs.length := by rw [List.length_take]; omega
    have h2 := cntPr_le (procs.take k) n2 (fun x hx => s7 x (List.mem_of_mem_take hx)) (by omega)
    omega
  obtain ⟨n3, hn3⟩ : ∃ n, n = cntPr procs n2 := ⟨_, rfl⟩
  have hn3b : n3 ≤ 2000000000 := by
    have := cntPr_le procs n2 s7 (by omega)
    omega
  have hcw := fun w2 (h2 : Below w.heap.size w w2) => countS work ⟨A9, c9⟩ n3 (by omega) s8 w2 (k8.all (keeps_below h2))
  obtain ⟨n4, hn4⟩ : ∃ n, n = cntL (nodesS work) n3 := ⟨_, rfl⟩
  rw [← hn4] at hcw
  have hn4b : n4 ≤ 3000000000 := by
    have := cntL_le (nodesS work) n3 s8 (by omega)
    omega
  have hcr := fun w2 (h2 : Below w.heap.size w w2) => countS recov ⟨A10, c10⟩ n4 (by omega) s9 w2 (k9.all (keeps_below h2))
  obtain ⟨n5, hn5⟩ : ∃ n, n = cntL (nodesS recov) n4 := ⟨_, rfl⟩
  rw [← hn5] at hcr
  have hn5b : n5 ≤ 4000000000 := by
    have := cntL_le (nodesS recov) n4 s9 (by omega)
    omega
  have hci := fun w2 (h2 : Below w.heap.size w w2) => countE (Ex.mk ⟨ik, io, iv, iwd, inn⟩ (⟨iA, ic⟩ : Loc) is) n5 (by omega) w2 (k10.below h2)
  have hNe : capE n5 (Ex.mk ⟨ik, io, iv, iwd, inn⟩ (⟨iA, ic⟩ : Loc) is).sz = N := by rw [hN, hn5, hn4, hn3, hn2, hn1, hn0]; rfl
  rw [hNe] at hci
  simp only [show aggP (Pg.mk bl wd ⟨A2, c2⟩ ins ⟨A3, c3⟩ gh ⟨A4, c4⟩ va ⟨A5, c5⟩ ar (Ex.mk ⟨rk, ro, rv, rwd, rn⟩ (⟨rA, rc⟩ : Loc) rs) ⟨A7, c7⟩ inits ⟨A8, c8⟩ procs ⟨A9, c9⟩ work ⟨A10, c10⟩ recov (Ex.mk ⟨ik, io, iv, iwd, inn⟩ (⟨iA, ic⟩ : Loc) is)) = .agg #[.int .i64 bl, .int .i64 wd, .slice A2 ins.length c2, .slice A3 gh.length c3, .slice A4 va.length c4, .slice A5 ar.length c5, .int .u8 rk, .int .u8 ro, .int .u32 rv, .int .i64 rwd, .string rn, .slice rA rs.length rc, .slice A7 inits.length c7, .slice A8 procs.length c8, .slice A9 work.length c9, .slice A10 recov.length c10, .int .u8 ik, .int .u8 io, .int .u32 iv, .int .i64 iwd, .string inn, .slice iA is.length ic] from rfl]
  simp only [aggX, Ex.cells, eT] at hc0 hci
  have e0 : (ins.length : Int) + gh.length + va.length + ar.length + 1 = (n0 : Int) := by omega
  clear hN hNe
  replace hn0 := Lib.hid hn0
  replace hn1 := Lib.hid hn1
  replace hn2 := Lib.hid hn2
  replace hn3 := Lib.hid hn3
  replace hn4 := Lib.hid hn4
  replace hn5 := Lib.hid hn5
  replace hc0 := Lib.hid hc0
  replace hcw := Lib.hid hcw
  replace hcr := Lib.hid hcr
  replace hci := Lib.hid hci
  replace hi := Lib.hid hi
  replace hpr := Lib.hid hpr
  replace s7 := Lib.hid s7
  replace k6 := Lib.hid k6
  replace k7 := Lib.hid k7
  replace e0 := Lib.hid e0
  have hB0 := (Below.refl _ w).alloc (Nat.le_refl _) (.cells #[.int .i64 bl, .int .i64 wd, .slice A2 ins.length c2, .slice A3 gh.length c3, .slice A4 va.length c4, .slice A5 ar.length c5, .int .u8 rk, .int .u8 ro, .int .u32 rv, .int .i64 rwd, .string rn, .slice rA rs.length rc, .slice A7 inits.length c7, .slice A8 procs.length c8, .slice A9 work.length c9, .slice A10 recov.length c10, .int .u8 ik, .int .u8 io, .int .u32 iv, .int .i64 iwd, .string inn, .slice iA is.length ic] 35)
  have hb0 := Blk.new w 35 #[.int .i64 bl, .int .i64 wd, .slice A2 ins.length c2, .slice A3 gh.length c3, .slice A4 va.length c4, .slice A5 ar.length c5, .int .u8 rk, .int .u8 ro, .int .u32 rv, .int .i64 rwd, .string rn, .slice rA rs.length rc, .slice A7 inits.length c7, .slice A8 procs.length c8, .slice A9 work.length c9, .slice A10 recov.length c10, .int .u8 ik, .int .u8 io, .int .u32 iv, .int .i64 iwd, .string inn, .slice iA is.length ic]
  go_enter Try.func41, Try.ntmps41
  go_wp2_with fail
  rw [e0.out]
  refine (hc0.out _ hB0).mono ?_
  rintro e w1 ⟨rfl, hB1⟩
  have hB01 := below_and hB0 hB1
  have hb1 := hb0.below hB1 hb0.lt
  clear hb0 hB0
  have hlw := hb1.lt
  have cP : w1.cell? ⟨w.heap.size, 12, none⟩ = some (.slice A7 inits.length c7) := hb1.cell 12
  obtain ⟨ni, hni⟩ : ∃ n, n = inits.length := ⟨_, rfl⟩
  rw [← hni] at cP
  have hnib : ni ≤ 20000 := by omega
  replace hni := Lib.hid hni
  go_wp2_with fail
  clear cP
  go_loopw [3, 30] (fun nn i wr => ∃ k : Nat, i = .int .i64 k ∧ nn = .int .i64 (cntI (inits.take k) n1 : Nat) ∧ k ≤ ni ∧ Below w1.heap.size w1 wr) (fun _ i _ => ni - (intOf i).toNat)
  case atStart => exact ⟨0, rfl, rfl, Nat.zero_le _, Below.refl _ _⟩
  case round =>
    obtain ⟨k, rfl, rfl, hk, hB⟩ := hrel
    have k0 : 0 ≤ (k : Int) := by omega
    by_cases hlt : k < ni
    · have hx : inits[k]? = some (inits[k]'(by have := hni.out; omega)) := List.getElem?_eq_getElem (by have := hni.out; omega)
      generalize inits[k]'(by have := hni.out; omega) = x at hx
      have hBw := below_and hB01 hB
      obtain ⟨ad, hA, _, hxok, hcx⟩ := Lin.ok.at (Lin.ok.keep (keeps_below hBw) k6.out (fun _ _ => trivial)) hx
      have hnext := cntI_take hx n1
      have hcur := hi.out k
      obtain ⟨m, hm⟩ : ∃ m, m = cntI (inits.take k) n1 := ⟨_, rfl⟩
      rw [← hm] at hnext hcur ⊢
      have hcall := fun w2 (hB2 : Below wr.heap.size wr w2) => countE x.val (m + 1) (by omega) w2 (hxok.below hB2)
      rw [← hnext] at hcall
      replace hm := Lib.hid hm
      replace hnext := Lib.hid hnext
      replace hx := Lib.hid hx
      obtain ⟨xb, ⟨⟨xk, xo, xv, xw, xn⟩, ⟨xA, xc⟩, xs⟩⟩ := x
      obtain ⟨d0, d1, d2, d3, d4, d5, d6⟩ := CellsAt.c7 hcx
      simp only [aggX, Ex.cells, eT] at d0 d1 d2 d3 d4 d5 d6 hcall
      replace hcall := Lib.hid hcall
      dsimp only at hA
      subst hA
      have k1 : (k : Int) < (ni : Int) := by omega
      have hab := cell_lt d0
      have hBx := (Below.refl _ wr).alloc (Nat.le_refl _) (.cells #[.int .i64 xb, .int .u8 xk, .int .u8 xo, .int .u32 xv, .int .i64 xw, .string xn, .slice xA xs.length xc] 44)
      go_wp2_with fail
      refine (hcall.out _ hBx).mono ?_
      rintro e w2 ⟨rfl, hB2⟩
      have hB3 := below_and hBx hB2
      go_wp2_with fail
      go_roundw
      case rel => exact ⟨k + 1, by go_num, rfl, by omega, below_and hB hB3⟩
      case measure => simp [intOf]; omega
    · obtain rfl : k = ni := by omega
      have hBw := below_and hB01 hB
      have hkn : cntI (inits.take k) n1 = n2 := by rw [hni.out, List.take_length, hn2.out]
      rw [hkn]
      have hb2 := hb1.below hB hlw
      have hlw2 := hb2.lt
      have cP : wr.cell? ⟨w.heap.size, 13, none⟩ = some (.slice A8 procs.length c8) := hb2.cell 13
      obtain ⟨np, hnp⟩ : ∃ n, n = procs.length := ⟨_, rfl⟩
      rw [← hnp] at cP
      have hnpb : np ≤ 20000 := by omega
      replace hnp := Lib.hid hnp
      replace hkn := Lib.hid hkn
      clear hb1 hB hB1 hB01
      rename World => wv
      go_wp2_with fail
      clear cP
      go_loopw [3, 43] (fun nn i wr => ∃ k : Nat, i = .int .i64 k ∧ nn = .int .i64 (cntPr (procs.take k) n2 : Nat) ∧ k ≤ np ∧ Below wv.heap.size wv wr) (fun _ i _ => np - (intOf i).toNat)
      case atStart => exact ⟨0, rfl, rfl, Nat.zero_le _, Below.refl _ _⟩
      case round =>
        obtain ⟨k, rfl, rfl, hk, hB⟩ := hrel
        have k0 : 0 ≤ (k : Int) := by omega
        by_cases hlt : k < np
        · have hx : procs[k]? = some (procs[k]'(by have := hnp.out; omega)) := List.getElem?_eq_getElem (by have := hnp.out; omega)
          generalize procs[k]'(by have := hnp.out; omega) = x at hx
          have hBx := below_and hBw hB
          obtain ⟨ad, hA, _, hxok, hcx⟩ := Lpr.ok.at (Lpr.ok.keep (keeps_below hBx) k7.out (fun _ _ => trivial)) hx
          have hnext := cntPr_take hx n2
          have hcur := hpr.out k
          have hsx := s7.out x (List.mem_of_getElem? hx)
          obtain ⟨m, hm⟩ : ∃ m, m = cntPr (procs.take k) n2 := ⟨_, rfl⟩
          rw [← hm] at hnext hcur ⊢
          have hcall := fun w2 (hB2 : Below wr.heap.size wr w2) => countS x.body x.lb (m + 1 + x.ps.length) (by omega) hsx.2 w2 (hxok.2.all (keeps_below hB2))
          rw [← hnext] at hcall
          replace hm := Lib.hid hm
          replace hnext := Lib.hid hnext
          replace hx := Lib.hid hx
          obtain ⟨xn, ⟨pA, pc⟩, ps, ⟨bA, bc⟩, body⟩ := x
          obtain ⟨d0, d1, d2⟩ := CellsAt.c3 hcx
          have hps := hsx.1
          clear hsx
          dsimp only at d0 d1 d2 hcall hps
          replace hcall := Lib.hid hcall
          dsimp only at hA
          subst hA
          have k1 : (k : Int) < (np : Int) := by omega
          have hab := cell_lt d0
          have hBx := (Below.refl _ wr).alloc (Nat.le_refl _) (.cells #[.string xn, .slice pA ps.length pc, .slice bA body.length bc] 46)
          go_wp2_with fail
          refine (hcall.out _ hBx).mono ?_
          rintro e w2 ⟨rfl, hB2⟩
          have hB3 := below_and hBx hB2
          go_wp2_with fail
          go_roundw
          case rel => exact ⟨k + 1, by go_num, rfl, by omega, below_and hB hB3⟩
          case measure => simp [intOf]; omega
        · obtain rfl : k = np := by omega
          have hkp : cntPr (procs.take k) n2 = n3 := by rw [hnp.out, List.take_length, hn3.out]
          rw [hkp]
          have hb3 := hb2.below hB hlw2
          have hlw3 := hb3.lt
          have hBz := below_and hBw hB
          replace hkp := Lib.hid hkp
          clear hb2 hB hBw
          have hX1 : ∀ x : Ext wr, Calls Try.prog 52 #[.slice A9 work.length c9, .int .i64 (n3 : Nat)] x.w fun e w' => e = .returned (.int .i64 (n4 : Nat)) ∧ Below x.w.heap.size x.w w' := fun x => hcw.out x.w (below_and hBz x.below)
          have hX2 : ∀ x : Ext wr, Calls Try.prog 52 #[.slice A10 recov.length c10, .int .i64 (n4 : Nat)] x.w fun e w' => e = .returned (.int .i64 (n5 : Nat)) ∧ Below x.w.heap.size x.w w' := fun x => hcr.out x.w (below_and hBz x.below)
          have hX3 : ∀ x : Ext wr, Calls Try.prog 51 #[.agg #[.int .u8 ik, .int .u8 io, .int .u32 iv, .int .i64 iwd, .string inn, .slice iA is.length ic], .int .i64 (n5 : Nat)] x.w fun e w' => e = .returned (.int .i64 (N : Nat)) ∧ Below x.w.heap.size x.w w' := fun x => hci.out x.w (below_and hBz x.below)
          have hC := fun (x : Ext wr) => (hb3.below x.below hlw3)
          have hC14 : ∀ x : Ext wr, x.w.cell? ⟨w.heap.size, 14, none⟩ = some (.slice A9 work.length c9) := fun x => (hC x).cell 14
          have hC15 : ∀ x : Ext wr, x.w.cell? ⟨w.heap.size, 15, none⟩ = some (.slice A10 recov.length c10) := fun x => (hC x).cell 15
          have hC16 : ∀ x : Ext wr, x.w.cell? ⟨w.heap.size, 16, none⟩ = some (.int .u8 ik) := fun x => (hC x).cell 16
          have hC17 : ∀ x : Ext wr, x.w.cell? ⟨w.heap.size, 17, none⟩ = some (.int .u8 io) := fun x => (hC x).cell 17
          have hC18 : ∀ x : Ext wr, x.w.cell? ⟨w.heap.size, 18, none⟩ = some (.int .u32 iv) := fun x => (hC x).cell 18
          have hC19 : ∀ x : Ext wr, x.w.cell? ⟨w.heap.size, 19, none⟩ = some (.int .i64 iwd) := fun x => (hC x).cell 19
          have hC20 : ∀ x : Ext wr, x.w.cell? ⟨w.heap.size, 20, none⟩ = some (.string inn) := fun x => (hC x).cell 20
          have hC21 : ∀ x : Ext wr, x.w.cell? ⟨w.heap.size, 21, none⟩ = some (.slice iA is.length ic) := fun x => (hC x).cell 21
          clear hC hb3
          replace hX1 := Lib.hid hX1
          replace hX2 := Lib.hid hX2
          replace hX3 := Lib.hid hX3
          go_wp2_with fail
          refine wp_region_grown (by kernel_rfl) (by kernel_rfl) (by kernel_rfl) ?_
          repeat (go_big_quiet_step (first
            | (go_at_call 52; with_reducible exact grown_of (hX1.out _))
            | (go_at_call 52; with_reducible exact grown_of (hX2.out _))
            | (go_at_call 51; with_reducible exact grown_of (hX3.out _))))
          refine wpQuiet_nil ?_
          rintro _ ⟨x, rfl⟩
          go_wp2
          go_ret
          exact ⟨rfl, below_and hBz x.below⟩
/-- Light answers whether a program has at most 20000 nodes; Size how many. -/
theorem light_any (n : Nat) (w : World) : Calls Try.prog 40 #[.int .i64 n] w fun e w' => e = .returned (.bool (decide (n ≤ 20000))) ∧ w = w' := by
  by_cases h : n ≤ 20000
  · rw [decide_eq_true h]; exact light_yes _ (by omega) _
  · rw [decide_eq_false h]; exact light_no _ (by omega) _
theorem lightP (p : Pg Loc) : decide (cntP p ≤ 20000) = decide (p.sz ≤ 20000) := by
  by_cases h : p.sz ≤ 20000
  · rw [cntP_exact h]
  · have := cntP_more (p := p) (by omega)
    rw [decide_eq_false h, decide_eq_false (by omega)]
theorem Pg.cells_len (E : Enc) (p : Pg Loc) : (p.cells E).toArray.size = 22 := by
  simp [Pg.cells, Ex.cells_len]
theorem lightP_ok (p : Pg Loc) (w : World) (hok : p.ok eT w) (hs : p.Slim) : Calls Try.prog 11 #[aggP p] w fun r w' => r = .returned (.bool (decide (p.sz ≤ 20000))) ∧ Below w.heap.size w w' := by
  have hc := fun w2 (hB2 : Below w.heap.size w w2) => count_ok p w2 (hok.below hB2) hs
  have hl : ∀ w', Calls Try.prog 40 #[.int .i64 (cntP p : Nat)] w' fun r w'' => r = .returned (.bool (decide (p.sz ≤ 20000))) ∧ w' = w'' := by rw [← lightP]; exact light_any (cntP p)
  obtain ⟨c, hcc⟩ : ∃ c, c = cntP p := ⟨_, rfl⟩
  rw [← hcc] at hc hl
  obtain ⟨cs, hcs⟩ : ∃ cs, cs = (p.cells eT).toArray := ⟨_, rfl⟩
  have hsz : cs.size = 22 := by rw [hcs]; exact Pg.cells_len eT p
  unfold aggP at hc ⊢
  rw [← hcs] at hc ⊢
  clear hcs
  replace hc := Lib.hid hc
  replace hl := Lib.hid hl
  replace hcc := Lib.hid hcc
  try replace hn := Lib.hid hn
  have hB0 := (Below.refl _ w).alloc (Nat.le_refl _) (.cells cs 35)
  have hb0 := Blk.new w 35 cs
  go_enter Try.func11, Try.ntmps11
  go_upto_region 1 with (fail)
  refine wp_region_lit ?_
  refine wpList_load_row rfl 35 (.tmp 1) rfl w.heap.size rfl 35 cs (0, 0) _ hb0 Try.underlying35 rfl (by rw [hsz]; kernel_rfl) ?_
  go_wp2_with fail
  refine (hc.out _ hB0).mono ?_
  rintro e w1 ⟨rfl, hB1⟩
  have hB01 := below_and hB0 hB1
  go_wp2_with (go_at_call 40; with_reducible refine (hl.out _).mono ?_; rintro e w' ⟨rfl, rfl⟩)
  go_ret
  exact ⟨rfl, hB01⟩
theorem sizeP_ok (p : Pg Loc) (w : World) (hok : p.ok eT w) (hs : p.Slim) (n : Nat) (hn : n = if p.sz ≤ 20000 then p.sz else 0) : Calls Try.prog 13 #[aggP p] w fun r w' => r = .returned (.int .i64 (n : Nat)) ∧ Below w.heap.size w w' := by
  have hc := fun w2 (hB2 : Below w.heap.size w w2) => count_ok p w2 (hok.below hB2) hs
  have hl : ∀ w', Calls Try.prog 50 #[.int .i64 (cntP p : Nat)] w' fun r w'' => r = .returned (.int .i64 (n : Nat)) ∧ w' = w'' := fun w' => by
    by_cases h : p.sz ≤ 20000
    · have h1 : cntP p = n := by rw [hn, if_pos h, cntP_exact h]
      rw [h1]
      exact sized_yes _ (by rw [hn, if_pos h]; omega) _
    · have h1 := cntP_more (p := p) (by omega)
      rw [hn, if_neg h]
      exact sized_no _ (by omega) _
  obtain ⟨c, hcc⟩ : ∃ c, c = cntP p := ⟨_, rfl⟩
  rw [← hcc] at hc hl
  obtain ⟨cs, hcs⟩ : ∃ cs, cs = (p.cells eT).toArray := ⟨_, rfl⟩
  have hsz : cs.size = 22 := by rw [hcs]; exact Pg.cells_len eT p
  unfold aggP at hc ⊢
  rw [← hcs] at hc ⊢
  clear hcs
  replace hc := Lib.hid hc
  replace hl := Lib.hid hl
  replace hcc := Lib.hid hcc
  try replace hn := Lib.hid hn
  have hB0 := (Below.refl _ w).alloc (Nat.le_refl _) (.cells cs 35)
  have hb0 := Blk.new w 35 cs
  go_enter Try.func13, Try.ntmps13
  go_upto_region 1 with (fail)
  refine wp_region_lit ?_
  refine wpList_load_row rfl 35 (.tmp 1) rfl w.heap.size rfl 35 cs (0, 0) _ hb0 Try.underlying35 rfl (by rw [hsz]; kernel_rfl) ?_
  go_wp2_with fail
  refine (hc.out _ hB0).mono ?_
  rintro e w1 ⟨rfl, hB1⟩
  have hB01 := below_and hB0 hB1
  go_wp2_with (go_at_call 50; with_reducible refine (hl.out _).mono ?_; rintro e w' ⟨rfl, rfl⟩)
  go_ret
  exact ⟨rfl, hB01⟩
end Go.Proofs.Ytnldbplphgfpeaa
