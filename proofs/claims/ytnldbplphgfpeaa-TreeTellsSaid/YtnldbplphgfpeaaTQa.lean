/- The reference: how many nodes a program has. -/
import Derived.Test.YtnldbplphgfpeaaTRd
namespace Go.Proofs.Ytnldbplphgfpeaa
open Go Go.RowKit Go.Shelf
set_option linter.unusedVariables false
set_option linter.unusedSimpArgs false
set_option maxHeartbeats 8000000
def aggRP (p : Pg Loc) : Value := .agg (p.cells eR).toArray
theorem szI_take {α : Type} {l : List (In α)} {k : Nat} {x : In α} (hx : l[k]? = some x) : szI (l.take (k + 1)) = szI (l.take k) + (1 + x.val.sz) := by
  obtain ⟨q1, q2⟩ := List.getElem?_eq_some_iff.1 hx
  rw [List.take_succ_eq_append_getElem q1, q2, szI_append]
  simp [szI]
theorem szPr_take {α : Type} {l : List (Pr α)} {k : Nat} {x : Pr α} (hx : l[k]? = some x) : szPr (l.take (k + 1)) = szPr (l.take k) + (1 + x.ps.length + szS x.body) := by
  obtain ⟨q1, q2⟩ := List.getElem?_eq_some_iff.1 hx
  rw [List.take_succ_eq_append_getElem q1, q2, szPr_append]
  simp [szPr]
theorem szI_take_le {α : Type} (l : List (In α)) (k : Nat) : szI (l.take k) ≤ szI l := by
  have h := szI_append (l.take k) (l.drop k)
  rw [List.take_append_drop] at h
  omega
theorem szPr_take_le {α : Type} (l : List (Pr α)) (k : Nat) : szPr (l.take k) ≤ szPr l := by
  have h := szPr_append (l.take k) (l.drop k)
  rw [List.take_append_drop] at h
  omega
set_option maxRecDepth 100000 in
theorem rcountP (p : Pg Loc) (w : World) (hs : p.sz ≤ 20000) (hok : p.ok eR w) : Calls Try.prog 67 #[aggRP p] w fun r w' => r = .returned (.int .i64 (p.sz : Nat)) ∧ Below w.heap.size w w' := by
  obtain ⟨T, hT⟩ : ∃ T, T = p.sz := ⟨_, rfl⟩
  rw [← hT] at hs ⊢
  obtain ⟨bl, wd, ⟨A2, c2⟩, ins, ⟨A3, c3⟩, gh, ⟨A4, c4⟩, va, ⟨A5, c5⟩, ar, ⟨⟨rk, ro, rv, rwd, rn⟩, ⟨rA, rc⟩, rs⟩, ⟨A7, c7⟩, inits, ⟨A8, c8⟩, procs, ⟨A9, c9⟩, work, ⟨A10, c10⟩, recov, ⟨⟨ik, io, iv, iwd, inn⟩, ⟨iA, ic⟩, is⟩⟩ := p
  obtain ⟨xr, hxr⟩ : ∃ x, x = Ex.mk ⟨rk, ro, rv, rwd, rn⟩ (⟨rA, rc⟩ : Loc) rs := ⟨_, rfl⟩
  obtain ⟨xi, hxi⟩ : ∃ x, x = Ex.mk ⟨ik, io, iv, iwd, inn⟩ (⟨iA, ic⟩ : Loc) is := ⟨_, rfl⟩
  obtain ⟨k1, k2, k3, k4, k5, k6, k7, k8, k9, k10⟩ := hok
  dsimp only at k1 k2 k3 k4 k5 k6 k7 k8 k9 k10
  simp only [Pg.sz] at hT
  simp only [aggRP, Pg.cells, Ex.cells, eR, List.cons_append, List.nil_append]
  rw [← hxr] at k5 hT
  rw [← hxi] at k10 hT
  have hax : aggRX xr = .agg #[.int .i64 rk, .int .i64 ro, .int .i64 rv, .int .i64 rwd, .string rn, .slice rA rs.length rc] := by rw [hxr]; rfl
  have hay : aggRX xi = .agg #[.int .i64 ik, .int .i64 io, .int .i64 iv, .int .i64 iwd, .string inn, .slice iA is.length ic] := by rw [hxi]; rfl
  have hl7 := szI_len inits
  have hl8 := szPr_len procs
  obtain ⟨q0, hq0⟩ : ∃ q, q = ins.length + gh.length + va.length + ar.length + 1 := ⟨_, rfl⟩
  obtain ⟨q1, hq1⟩ : ∃ q, q = q0 + xr.sz := ⟨_, rfl⟩
  obtain ⟨q2, hq2⟩ : ∃ q, q = q1 + szI inits := ⟨_, rfl⟩
  obtain ⟨q3, hq3⟩ : ∃ q, q = q2 + szPr procs := ⟨_, rfl⟩
  obtain ⟨q4, hq4⟩ : ∃ q, q = q3 + szS work := ⟨_, rfl⟩
  obtain ⟨q5, hq5⟩ : ∃ q, q = q4 + szS recov := ⟨_, rfl⟩
  have hq6 : T = q5 + xi.sz := by omega
  have T0 : (T : Int) ≤ 20000 := by omega
  have t5 : (q5 : Int) ≤ T := by omega
  have t4 : (q4 : Int) ≤ q5 := by omega
  have t3 : (q3 : Int) ≤ q4 := by omega
  have t2 : (q2 : Int) ≤ q3 := by omega
  have t1 : (q1 : Int) ≤ q2 := by omega
  have t0 : (q0 : Int) ≤ q1 := by omega
  have hcr := fun w2 (h2 : Below w.heap.size w w2) => rcountE xr q0 w2 (by omega) (k5.below h2)
  have hcw := fun w2 (h2 : Below w.heap.size w w2) => rcountS work ⟨A9, c9⟩ q3 w2 (by omega) (k8.all (keeps_below h2))
  have hcv := fun w2 (h2 : Below w.heap.size w w2) => rcountS recov ⟨A10, c10⟩ q4 w2 (by omega) (k9.all (keeps_below h2))
  have hci := fun w2 (h2 : Below w.heap.size w w2) => rcountE xi q5 w2 (by omega) (k10.below h2)
  rw [← hq1, hax] at hcr
  rw [← hq4] at hcw
  rw [← hq5] at hcv
  rw [← hq6, hay] at hci
  dsimp only at hcw hcv
  obtain ⟨n2, hn2⟩ : ∃ n, n = ins.length := ⟨_, rfl⟩
  obtain ⟨n3, hn3⟩ : ∃ n, n = gh.length := ⟨_, rfl⟩
  obtain ⟨n4, hn4⟩ : ∃ n, n = va.length := ⟨_, rfl⟩
  obtain ⟨n5, hn5⟩ : ∃ n, n = ar.length := ⟨_, rfl⟩
  obtain ⟨n7, hn7⟩ : ∃ n, n = inits.length := ⟨_, rfl⟩
  obtain ⟨n8, hn8⟩ : ∃ n, n = procs.length := ⟨_, rfl⟩
  obtain ⟨n9, hn9⟩ : ∃ n, n = work.length := ⟨_, rfl⟩
  obtain ⟨n10, hn10⟩ : ∃ n, n = recov.length := ⟨_, rfl⟩
  obtain ⟨nr, hnr⟩ : ∃ n, n = rs.length := ⟨_, rfl⟩
  obtain ⟨ni, hni⟩ : ∃ n, n = is.length := ⟨_, rfl⟩
  rw [← hn2, ← hn3, ← hn4, ← hn5, ← hn7, ← hn8, ← hn9, ← hn10, ← hnr, ← hni]
  rw [← hn9] at hcw
  rw [← hn10] at hcv
  rw [← hnr] at hcr
  rw [← hni] at hci
  have hq0' : q0 = 1 + n2 + n3 + n4 + n5 := by omega
  have n7i : (n7 : Int) ≤ 20000 := by omega
  have n8i : (n8 : Int) ≤ 20000 := by omega
  have n2i : (n2 : Int) ≤ 20000 := by omega
  have n3i : (n3 : Int) ≤ 20000 := by omega
  have n4i : (n4 : Int) ≤ 20000 := by omega
  have n5i : (n5 : Int) ≤ 20000 := by omega
  have hb := Blk.new w 113 #[.int .i64 bl, .int .i64 wd, .slice A2 n2 c2, .slice A3 n3 c3, .slice A4 n4 c4, .slice A5 n5 c5, .int .i64 rk, .int .i64 ro, .int .i64 rv, .int .i64 rwd, .string rn, .slice rA nr rc, .slice A7 n7 c7, .slice A8 n8 c8, .slice A9 n9 c9, .slice A10 n10 c10, .int .i64 ik, .int .i64 io, .int .i64 iv, .int .i64 iwd, .string inn, .slice iA ni ic]
  have hB := (Below.refl _ w).alloc (Nat.le_refl _) (.cells #[.int .i64 bl, .int .i64 wd, .slice A2 n2 c2, .slice A3 n3 c3, .slice A4 n4 c4, .slice A5 n5 c5, .int .i64 rk, .int .i64 ro, .int .i64 rv, .int .i64 rwd, .string rn, .slice rA nr rc, .slice A7 n7 c7, .slice A8 n8 c8, .slice A9 n9 c9, .slice A10 n10 c10, .int .i64 ik, .int .i64 io, .int .i64 iv, .int .i64 iwd, .string inn, .slice iA ni ic] 113)
  replace hcr := Lib.hid hcr
  replace hci := Lib.hid hci
  replace hcw := Lib.hid hcw
  replace hcv := Lib.hid hcv
  replace hT := Lib.hid hT
  replace hxr := Lib.hid hxr
  replace hxi := Lib.hid hxi
  replace hn2 := Lib.hid hn2
  replace hn3 := Lib.hid hn3
  replace hn4 := Lib.hid hn4
  replace hn5 := Lib.hid hn5
  replace hn7 := Lib.hid hn7
  replace hn8 := Lib.hid hn8
  replace hn9 := Lib.hid hn9
  replace hn10 := Lib.hid hn10
  replace hnr := Lib.hid hnr
  replace hni := Lib.hid hni
  replace k6 := Lib.hid k6
  replace k7 := Lib.hid k7
  replace hq0 := Lib.hid hq0
  replace hq1 := Lib.hid hq1
  replace hq2 := Lib.hid hq2
  replace hq3 := Lib.hid hq3
  replace hq4 := Lib.hid hq4
  replace hq5 := Lib.hid hq5
  replace hq6 := Lib.hid hq6
  replace hq0' := Lib.hid hq0'
  replace hb := Lib.hid hb
  replace hB := Lib.hid hB
  clear k1 k2 k3 k4 k5 k8 k9 k10 hax hay hl7 hl8
  go_enter Try.func67, Try.ntmps67
  go_upto_region 1 with (fail)
  generalize w.alloc (.cells #[.int .i64 bl, .int .i64 wd, .slice A2 n2 c2, .slice A3 n3 c3, .slice A4 n4 c4, .slice A5 n5 c5, .int .i64 rk, .int .i64 ro, .int .i64 rv, .int .i64 rwd, .string rn, .slice rA nr rc, .slice A7 n7 c7, .slice A8 n8 c8, .slice A9 n9 c9, .slice A10 n10 c10, .int .i64 ik, .int .i64 io, .int .i64 iv, .int .i64 iwd, .string inn, .slice iA ni ic] 113) = W1 at *
  obtain ⟨g, hg⟩ : ∃ g, w.heap.size = g := ⟨_, rfl⟩
  rw [hg] at hb ⊢
  replace hg := Lib.hid hg
  have hcr' := Lib.hid (hcr.out _ hB.out)
  have hq0i : (1 : Int) + n2 + n3 + n4 + n5 = (q0 : Int) := by have := hq0'.out; omega
  replace hq0i := Lib.hid hq0i
  have v2 := hb.out.cell 2
  have v3 := hb.out.cell 3
  have v4 := hb.out.cell 4
  have v5 := hb.out.cell 5
  have v6 := hb.out.cell 6
  have v7 := hb.out.cell 7
  have v8 := hb.out.cell 8
  have v9 := hb.out.cell 9
  have v10 := hb.out.cell 10
  have v11 := hb.out.cell 11
  have vl := hb.out.lt
  simp only [List.getElem?_toArray, List.getElem?_cons_zero, List.getElem?_cons_succ] at v2 v3 v4 v5 v6 v7 v8 v9 v10 v11
  go_wp2_with fail
  try rw [hq0i.out]
  refine hcr'.out.mono ?_
  rintro e W2 ⟨rfl, hB1⟩
  clear v2 v3 v4 v5 v6 v7 v8 v9 v10 v11 vl hcr hcr'
  have hb2 := Lib.hid (hb.out.below hB1 hb.out.lt)
  have hB2 := Lib.hid (below_and hB.out hB1)
  clear hb hB hB1
  go_wp2_with fail
  go_loopw [3, 4] (fun v3 v4 wr => ∃ (j p : Nat), v4 = .int .i64 j ∧ v3 = .int .i64 p ∧ j ≤ n7 ∧ p = q1 + szI (inits.take j) ∧ Below W2.heap.size W2 wr) (fun _ v4 _ => n7 - (intOf v4).toNat)
  case atStart => exact ⟨0, q1, rfl, rfl, Nat.zero_le _, by simp [szI], Below.refl _ _⟩
  case round =>
    obtain ⟨j, p, rfl, rfl, hj, hp, hB5⟩ := hrel
    have j0 : 0 ≤ (j : Int) := by omega
    have hple := szI_take_le inits j
    have pi : (p : Int) ≤ 20000 := by have := hq2.out; omega
    replace hp := Lib.hid hp
    replace hple := Lib.hid hple
    have hb3 := hb2.out.below hB5 hb2.out.lt
    have hBo := Lib.hid (below_and hB2.out hB5)
    have v12 := hb3.cell 12
    have vl := hb3.lt
    simp only [List.getElem?_toArray, List.getElem?_cons_zero, List.getElem?_cons_succ] at v12
    replace hb3 := Lib.hid hb3
    by_cases hjl : j < n7
    · have hy : inits[j]? = some (inits[j]'(by have := hn7.out; omega)) := List.getElem?_eq_getElem (by have := hn7.out; omega)
      generalize inits[j]'(by have := hn7.out; omega) = y at hy
      obtain ⟨ad2, hA2, _, hyok, hcy⟩ := (k6.out.keep (keeps_below hBo.out) (fun _ _ => trivial)).at hy
      have hyn := szI_take hy
      have hyl := szI_take_le inits (j + 1)
      have hpo := hp.out
      have hq2o := hq2.out
      obtain ⟨p', hp'⟩ : ∃ x, x = p + 1 + y.val.sz := ⟨_, rfl⟩
      have hcall := rcountE y.val (p + 1) wr (by omega) hyok
      rw [← hp'] at hcall
      have p'i : (p' : Int) ≤ 20000 := by omega
      have hpn : p' = q1 + szI (inits.take (j + 1)) := by omega
      obtain ⟨yb, ⟨⟨yk, yo, yv, yw, yn⟩, ⟨yA, yc⟩, ys⟩⟩ := y
      obtain ⟨d0, d1, d2, d3, d4, d5, d6⟩ := CellsAt.c7 hcy
      dsimp only at hA2 hcall
      simp only [eR, aggRX, Ex.cells] at d1 d2 d3 hcall
      subst hA2
      have j1 : (j : Int) < (n7 : Int) := by omega
      have hab2 := cell_lt d0
      have hpp : (p : Int) + 1 = ((p + 1 : Nat) : Int) := by omega
      replace hcall := Lib.hid hcall
      replace hpp := Lib.hid hpp
      replace hpn := Lib.hid hpn
      replace hp' := Lib.hid hp'
      replace hy := Lib.hid hy
      clear hyn hyl hpo hq2o hcy hyok
      go_wp2_with fail
      rw [hpp.out]
      refine hcall.out.mono ?_
      rintro e w2 ⟨rfl, hB7⟩
      have hB8 := Lib.hid (below_and hB5 hB7)
      clear d0 d1 d2 d3 d4 d5 d6 v12 vl
      go_wp2_with fail
      go_roundw
      case rel => exact ⟨j + 1, p', by go_num, rfl, by omega, hpn.out, hB8.out⟩
      case measure => simp [intOf]; omega
    · obtain rfl : j = n7 := by omega
      have hpe : p = q2 := by
        have h1 := hp.out
        have h2 := hq2.out
        rw [List.take_of_length_le (by have := hn7.out; omega)] at h1
        omega
      subst hpe
      clear hp hple hb2 hB2
      obtain ⟨W3, hW3⟩ : ∃ x, x = wr := ⟨_, rfl⟩
      subst hW3
      go_wp2_with fail
      clear v12 vl
      go_loopw [3, 5] (fun v3 v5 wr => ∃ (i r : Nat), v5 = .int .i64 i ∧ v3 = .int .i64 r ∧ i ≤ n8 ∧ r = p + szPr (procs.take i) ∧ Below W3.heap.size W3 wr) (fun _ v5 _ => n8 - (intOf v5).toNat)
      case atStart => exact ⟨0, p, rfl, rfl, Nat.zero_le _, by simp [szPr], Below.refl _ _⟩
      case round =>
        obtain ⟨i, r, rfl, rfl, hi, hr, hB6⟩ := hrel
        have i0 : 0 ≤ (i : Int) := by omega
        have hrle := szPr_take_le procs i
        have ri : (r : Int) ≤ 20000 := by have := hq3.out; omega
        replace hr := Lib.hid hr
        replace hrle := Lib.hid hrle
        have hb4 := hb3.out.below hB6 hb3.out.lt
        have hBp := Lib.hid (below_and hBo.out hB6)
        have v13 := hb4.cell 13
        have vl := hb4.lt
        simp only [List.getElem?_toArray, List.getElem?_cons_zero, List.getElem?_cons_succ] at v13
        replace hb4 := Lib.hid hb4
        by_cases hil : i < n8
        · have hy : procs[i]? = some (procs[i]'(by have := hn8.out; omega)) := List.getElem?_eq_getElem (by have := hn8.out; omega)
          generalize procs[i]'(by have := hn8.out; omega) = y at hy
          obtain ⟨ad2, hA2, _, hyok, hcy⟩ := (k7.out.keep (keeps_below hBp.out) (fun _ _ => trivial)).at hy
          have hyn := szPr_take hy
          have hyl := szPr_take_le procs (i + 1)
          have hro := hr.out
          have hq3o := hq3.out
          obtain ⟨r', hr'⟩ : ∃ x, x = r + 1 + y.ps.length + szS y.body := ⟨_, rfl⟩
          have hcall := fun w2 (h2 : Below wr.heap.size wr w2) => rcountS y.body y.lb (r + 1 + y.ps.length) w2 (by omega) (hyok.2.all (keeps_below h2))
          rw [← hr'] at hcall
          have r'i : (r' : Int) ≤ 20000 := by omega
          have hrn : r' = p + szPr (procs.take (i + 1)) := by omega
          obtain ⟨yn, ⟨pA, pc⟩, ps, ⟨bA, bc⟩, body⟩ := y
          simp only [Pr.cells] at hcy
          dsimp only at hA2 hcall hr' hyn
          obtain ⟨np, hnp⟩ : ∃ n, n = ps.length := ⟨_, rfl⟩
          obtain ⟨nb, hnb⟩ : ∃ n, n = body.length := ⟨_, rfl⟩
          rw [← hnp, ← hnb] at hcy
          rw [← hnp, ← hnb] at hcall
          rw [← hnp] at hr'
          have npi : (np : Int) ≤ 20000 := by omega
          have hri : (r : Int) + 1 + np = ((r + 1 + np : Nat) : Int) := by omega
          have hrb : ((r + 1 + np : Nat) : Int) ≤ 20000 := by omega
          obtain ⟨rr, hrr⟩ : ∃ x, x = r + 1 + np := ⟨_, rfl⟩
          rw [← hrr] at hri hrb hcall
          obtain ⟨d0, d1, d2⟩ := CellsAt.c3 hcy
          subst hA2
          have i1 : (i : Int) < (n8 : Int) := by omega
          have hab2 := cell_lt d0
          have hX : ∀ x : Ext wr, Calls Try.prog 85 #[.slice bA nb bc, .int .i64 (rr : Nat)] x.w fun e w' => e = .returned (.int .i64 (r' : Nat)) ∧ Below x.w.heap.size x.w w' := fun x => hcall x.w x.below
          have D1 := fun x : Ext wr => x.cell d1 hab2
          have D2 := fun x : Ext wr => x.cell d2 hab2
          have D13 := fun x : Ext wr => x.cell v13 vl
          replace hX := Lib.hid hX
          replace hrn := Lib.hid hrn
          replace hr' := Lib.hid hr'
          replace hy := Lib.hid hy
          replace hnp := Lib.hid hnp
          replace hnb := Lib.hid hnb
          replace hrr := Lib.hid hrr
          clear hyn hyl hro hq3o hcy hyok hcall
          go_wp2_with fail
          clear d0 d1 d2
          refine wp_region_grown (by kernel_rfl) (by kernel_rfl) (by kernel_rfl) ?_
          repeat (go_big_quiet_step (first | (rw [hri]; go_at_call 85; with_reducible exact grown_of (hX.out _)) | (go_at_call 85; with_reducible exact grown_of (hX.out _))))
          refine wpQuiet_nil ?_
          rintro _ ⟨x, rfl⟩
          have hB7 := Lib.hid (below_and hB6 x.below)
          clear v13 vl D1 D2 D13
          go_wp2_with fail
          go_roundw
          case rel => exact ⟨i + 1, r', by go_num, rfl, by omega, hrn.out, hB7.out⟩
          case measure => simp [intOf]; omega
        · obtain rfl : i = n8 := by omega
          have hre : r = q3 := by
            have h1 := hr.out
            have h2 := hq3.out
            rw [List.take_of_length_le (by have := hn8.out; omega)] at h1
            omega
          subst hre
          clear hr hrle hb3 hBo
          have hcw' := Lib.hid (hcw.out _ hBp.out)
          have v14 := hb4.out.cell 14
          have vl := hb4.out.lt
          simp only [List.getElem?_toArray, List.getElem?_cons_zero, List.getElem?_cons_succ] at v14
          go_wp2_with fail
          refine hcw'.out.mono ?_
          rintro e W4 ⟨rfl, hB7⟩
          clear v13 v14 vl hcw' hcw
          have hb5 := Lib.hid (hb4.out.below hB7 hb4.out.lt)
          have hBq := Lib.hid (below_and hBp.out hB7)
          have hcv' := Lib.hid (hcv.out _ hBq.out)
          clear hB7 hb4 hBp hB6
          have v15 := hb5.out.cell 15
          have vl := hb5.out.lt
          simp only [List.getElem?_toArray, List.getElem?_cons_zero, List.getElem?_cons_succ] at v15
          go_wp2_with fail
          refine hcv'.out.mono ?_
          rintro e W5 ⟨rfl, hB7⟩
          clear v15 vl hcv' hcv
          have hb6 := Lib.hid (hb5.out.below hB7 hb5.out.lt)
          have hBr := Lib.hid (below_and hBq.out hB7)
          have hci' := Lib.hid (hci.out _ hBr.out)
          clear hB7 hb5 hBq
          have v16 := hb6.out.cell 16
          have v17 := hb6.out.cell 17
          have v18 := hb6.out.cell 18
          have v19 := hb6.out.cell 19
          have v20 := hb6.out.cell 20
          have v21 := hb6.out.cell 21
          have vl := hb6.out.lt
          simp only [List.getElem?_toArray, List.getElem?_cons_zero, List.getElem?_cons_succ] at v16 v17 v18 v19 v20 v21
          go_wp2_with fail
          refine hci'.out.mono ?_
          rintro e W6 ⟨rfl, hB7⟩
          have hBs := Lib.hid (below_and hBr.out hB7)
          clear v16 v17 v18 v19 v20 v21 vl hci' hci hB7
          go_wp2_with fail
          go_ret
          exact ⟨rfl, hBs.out⟩
end Go.Proofs.Ytnldbplphgfpeaa
