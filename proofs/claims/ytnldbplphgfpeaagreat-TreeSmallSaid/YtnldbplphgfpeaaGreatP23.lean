/- Lemmas for salvor/salvorlaw29.TreeSmall (part 23); no condition. -/
import Derived.Test.YtnldbplphgfpeaaGreatP19
namespace Go.Proofs.YtnldbplphgfpeaaGreat
open Go Go.RowKit Go.Shelf
set_option linter.unusedVariables false
set_option linter.unusedSimpArgs false
set_option maxHeartbeats 16000000
set_option maxRecDepth 100000 in
theorem rsameP (p q : Pg Loc) (w : World) (hp : p.ok eR w) (hq : q.ok eR w) : Calls Tryz.prog 56 #[aggRP p, aggRP q] w fun e w' => e = .returned (.bool (p.same q)) ∧ Below w.heap.size w w' := by
 obtain ⟨bl, wd, ⟨A2, c2⟩, ins, ⟨A3, c3⟩, gh, ⟨A4, c4⟩, va, ⟨A5, c5⟩, ar, ⟨⟨rk, ro, rv, rwd, rn⟩, ⟨rA, rc⟩, rs⟩, ⟨A7, c7⟩, inits, ⟨A8, c8⟩, procs, ⟨A9, c9⟩, work, ⟨A10, c10⟩, recov, ⟨⟨ik, io, iv, iwd, inn⟩, ⟨iA, ic⟩, is⟩⟩ := p
 obtain ⟨bl', wd', ⟨A2', c2'⟩, ins', ⟨A3', c3'⟩, gh', ⟨A4', c4'⟩, va', ⟨A5', c5'⟩, ar', ⟨⟨rk', ro', rv', rwd', rn'⟩, ⟨rA', rc'⟩, rs'⟩, ⟨A7', c7'⟩, inits', ⟨A8', c8'⟩, procs', ⟨A9', c9'⟩, work', ⟨A10', c10'⟩, recov', ⟨⟨ik', io', iv', iwd', inn'⟩, ⟨iA', ic'⟩, is'⟩⟩ := q
 obtain ⟨R, hR⟩ : ∃ R, R = Pg.same (Pg.mk bl wd ⟨A2, c2⟩ ins ⟨A3, c3⟩ gh ⟨A4, c4⟩ va ⟨A5, c5⟩ ar (Ex.mk ⟨rk, ro, rv, rwd, rn⟩ (⟨rA, rc⟩ : Loc) rs) ⟨A7, c7⟩ inits ⟨A8, c8⟩ procs ⟨A9, c9⟩ work ⟨A10, c10⟩ recov (Ex.mk ⟨ik, io, iv, iwd, inn⟩ (⟨iA, ic⟩ : Loc) is)) (Pg.mk bl' wd' ⟨A2', c2'⟩ ins' ⟨A3', c3'⟩ gh' ⟨A4', c4'⟩ va' ⟨A5', c5'⟩ ar' (Ex.mk ⟨rk', ro', rv', rwd', rn'⟩ (⟨rA', rc'⟩ : Loc) rs') ⟨A7', c7'⟩ inits' ⟨A8', c8'⟩ procs' ⟨A9', c9'⟩ work' ⟨A10', c10'⟩ recov' (Ex.mk ⟨ik', io', iv', iwd', inn'⟩ (⟨iA', ic'⟩ : Loc) is')) := ⟨_, rfl⟩
 rw [← hR]
 simp only [Pg.same] at hR
 obtain ⟨xr, hxr⟩ : ∃ x, x = Ex.mk ⟨rk, ro, rv, rwd, rn⟩ (⟨rA, rc⟩ : Loc) rs := ⟨_, rfl⟩
 obtain ⟨xi, hxi⟩ : ∃ x, x = Ex.mk ⟨ik, io, iv, iwd, inn⟩ (⟨iA, ic⟩ : Loc) is := ⟨_, rfl⟩
 obtain ⟨xr', hxr'⟩ : ∃ x, x = Ex.mk ⟨rk', ro', rv', rwd', rn'⟩ (⟨rA', rc'⟩ : Loc) rs' := ⟨_, rfl⟩
 obtain ⟨xi', hxi'⟩ : ∃ x, x = Ex.mk ⟨ik', io', iv', iwd', inn'⟩ (⟨iA', ic'⟩ : Loc) is' := ⟨_, rfl⟩
 obtain ⟨k1, k2, k3, k4, k5, k6, k7, k8, k9, k10⟩ := hp
 obtain ⟨k1', k2', k3', k4', k5', k6', k7', k8', k9', k10'⟩ := hq
 dsimp only at k1 k2 k3 k4 k5 k6 k7 k8 k9 k10 k1' k2' k3' k4' k5' k6' k7' k8' k9' k10'
 simp only [aggRP, Pg.cells, Ex.cells, eR, List.cons_append, List.nil_append]
 rw [← hxr] at k5 hR
 rw [← hxi] at k10 hR
 rw [← hxr'] at k5' hR
 rw [← hxi'] at k10' hR
 have hax : aggRX xr = .agg #[.int .i64 rk, .int .i64 ro, .int .i64 rv, .int .i64 rwd, .string rn, .slice rA rs.length rc] := by rw [hxr]; rfl
 have hay : aggRX xi = .agg #[.int .i64 ik, .int .i64 io, .int .i64 iv, .int .i64 iwd, .string inn, .slice iA is.length ic] := by rw [hxi]; rfl
 have hax' : aggRX xr' = .agg #[.int .i64 rk', .int .i64 ro', .int .i64 rv', .int .i64 rwd', .string rn', .slice rA' rs'.length rc'] := by rw [hxr']; rfl
 have hay' : aggRX xi' = .agg #[.int .i64 ik', .int .i64 io', .int .i64 iv', .int .i64 iwd', .string inn', .slice iA' is'.length ic'] := by rw [hxi']; rfl
 have hd0 := fun w2 (h2 : Below w.heap.size w w2) => rsameD ⟨A2, c2⟩ ⟨A2', c2'⟩ ins ins' w2 (k1.all (keeps_below h2)) (k1'.all (keeps_below h2))
 have hd1 := fun w2 (h2 : Below w.heap.size w w2) => rsameD ⟨A3, c3⟩ ⟨A3', c3'⟩ gh gh' w2 (k2.all (keeps_below h2)) (k2'.all (keeps_below h2))
 have hd2 := fun w2 (h2 : Below w.heap.size w w2) => rsameD ⟨A4, c4⟩ ⟨A4', c4'⟩ va va' w2 (k3.all (keeps_below h2)) (k3'.all (keeps_below h2))
 have hd3 := fun w2 (h2 : Below w.heap.size w w2) => rsameD ⟨A5, c5⟩ ⟨A5', c5'⟩ ar ar' w2 (k4.all (keeps_below h2)) (k4'.all (keeps_below h2))
 have hcr := fun w2 (h2 : Below w.heap.size w w2) => rsameE xr xr' w2 (k5.below h2) (k5'.below h2)
 have hci := fun w2 (h2 : Below w.heap.size w w2) => rsameE xi xi' w2 (k10.below h2) (k10'.below h2)
 have hcw := fun w2 (h2 : Below w.heap.size w w2) => rsameS work ⟨A9, c9⟩ ⟨A9', c9'⟩ work' w2 (k8.all (keeps_below h2)) (k8'.all (keeps_below h2))
 have hcv := fun w2 (h2 : Below w.heap.size w w2) => rsameS recov ⟨A10, c10⟩ ⟨A10', c10'⟩ recov' w2 (k9.all (keeps_below h2)) (k9'.all (keeps_below h2))
 rw [hax, hax'] at hcr
 rw [hay, hay'] at hci
 dsimp only at hcw hcv hd0 hd1 hd2 hd3
 obtain ⟨b0, e0⟩ : ∃ b, (bl == bl') = b := ⟨_, rfl⟩
 obtain ⟨b1, e1⟩ : ∃ b, (wd == wd') = b := ⟨_, rfl⟩
 obtain ⟨r2, hr2⟩ : ∃ b, b = sameD ins ins' := ⟨_, rfl⟩
 obtain ⟨r3, hr3⟩ : ∃ b, b = sameD gh gh' := ⟨_, rfl⟩
 obtain ⟨r4, hr4⟩ : ∃ b, b = sameD va va' := ⟨_, rfl⟩
 obtain ⟨r5, hr5⟩ : ∃ b, b = sameD ar ar' := ⟨_, rfl⟩
 obtain ⟨r6, hr6⟩ : ∃ b, b = xr.same xr' := ⟨_, rfl⟩
 obtain ⟨r7, hr7⟩ : ∃ b, b = sameI inits inits' := ⟨_, rfl⟩
 obtain ⟨r8, hr8⟩ : ∃ b, b = samePr procs procs' := ⟨_, rfl⟩
 obtain ⟨r9, hr9⟩ : ∃ b, b = sameS work work' := ⟨_, rfl⟩
 obtain ⟨r10, hr10⟩ : ∃ b, b = sameS recov recov' := ⟨_, rfl⟩
 obtain ⟨r11, hr11⟩ : ∃ b, b = xi.same xi' := ⟨_, rfl⟩
 rw [e0, e1, ← hr2, ← hr3, ← hr4, ← hr5, ← hr6, ← hr7, ← hr8, ← hr9, ← hr10, ← hr11] at hR
 rw [← hr2] at hd0
 rw [← hr3] at hd1
 rw [← hr4] at hd2
 rw [← hr5] at hd3
 rw [← hr6] at hcr
 rw [← hr9] at hcw
 rw [← hr10] at hcv
 rw [← hr11] at hci
 obtain ⟨n2, hn2⟩ : ∃ n, n = ins.length := ⟨_, rfl⟩
 rw [← hn2]
 rw [← hn2] at hd0
 obtain ⟨n3, hn3⟩ : ∃ n, n = gh.length := ⟨_, rfl⟩
 rw [← hn3]
 rw [← hn3] at hd1
 obtain ⟨n4, hn4⟩ : ∃ n, n = va.length := ⟨_, rfl⟩
 rw [← hn4]
 rw [← hn4] at hd2
 obtain ⟨n5, hn5⟩ : ∃ n, n = ar.length := ⟨_, rfl⟩
 rw [← hn5]
 rw [← hn5] at hd3
 obtain ⟨n7, hn7⟩ : ∃ n, n = inits.length := ⟨_, rfl⟩
 rw [← hn7]
 obtain ⟨n8, hn8⟩ : ∃ n, n = procs.length := ⟨_, rfl⟩
 rw [← hn8]
 obtain ⟨n9, hn9⟩ : ∃ n, n = work.length := ⟨_, rfl⟩
 rw [← hn9]
 rw [← hn9] at hcw
 obtain ⟨n10, hn10⟩ : ∃ n, n = recov.length := ⟨_, rfl⟩
 rw [← hn10]
 rw [← hn10] at hcv
 obtain ⟨nr, hnr⟩ : ∃ n, n = rs.length := ⟨_, rfl⟩
 rw [← hnr]
 rw [← hnr] at hcr
 obtain ⟨ni, hni⟩ : ∃ n, n = is.length := ⟨_, rfl⟩
 rw [← hni]
 rw [← hni] at hci
 obtain ⟨n2', hn2'⟩ : ∃ n, n = ins'.length := ⟨_, rfl⟩
 rw [← hn2']
 rw [← hn2'] at hd0
 obtain ⟨n3', hn3'⟩ : ∃ n, n = gh'.length := ⟨_, rfl⟩
 rw [← hn3']
 rw [← hn3'] at hd1
 obtain ⟨n4', hn4'⟩ : ∃ n, n = va'.length := ⟨_, rfl⟩
 rw [← hn4']
 rw [← hn4'] at hd2
 obtain ⟨n5', hn5'⟩ : ∃ n, n = ar'.length := ⟨_, rfl⟩
 rw [← hn5']
 rw [← hn5'] at hd3
 obtain ⟨n7', hn7'⟩ : ∃ n, n = inits'.length := ⟨_, rfl⟩
 rw [← hn7']
 obtain ⟨n8', hn8'⟩ : ∃ n, n = procs'.length := ⟨_, rfl⟩
 rw [← hn8']
 obtain ⟨n9', hn9'⟩ : ∃ n, n = work'.length := ⟨_, rfl⟩
 rw [← hn9']
 rw [← hn9'] at hcw
 obtain ⟨n10', hn10'⟩ : ∃ n, n = recov'.length := ⟨_, rfl⟩
 rw [← hn10']
 rw [← hn10'] at hcv
 obtain ⟨nr', hnr'⟩ : ∃ n, n = rs'.length := ⟨_, rfl⟩
 rw [← hnr']
 rw [← hnr'] at hcr
 obtain ⟨ni', hni'⟩ : ∃ n, n = is'.length := ⟨_, rfl⟩
 rw [← hni']
 rw [← hni'] at hci
 have n7i : (n7 : Int) ≤ 9223372036854775807 := by have h1 := k6.1.2.1; have h2 := k6.1.2.2.1; dsimp only at h1 h2; omega
 have n8i : (n8 : Int) ≤ 9223372036854775807 := by have h1 := k7.1.2.1; have h2 := k7.1.2.2.1; dsimp only at h1 h2; omega
 obtain ⟨b6, e6⟩ : ∃ b, ((n7 : Int) == (n7' : Int)) = b := ⟨_, rfl⟩
 obtain ⟨b7, e7⟩ : ∃ b, ((n8 : Int) == (n8' : Int)) = b := ⟨_, rfl⟩
 have hl7 : b6 = false → r7 = false := fun h => by
  rw [h] at e6
  rw [hr7]
  cases hs : sameI inits inits' with
  | false => rfl
  | true => have := sameI_len hs; simp at e6; omega
 have hl7' : b6 = true → n7 = n7' := fun h => by rw [h] at e6; simp at e6; omega
 have hl8 : b7 = false → r8 = false := fun h => by
  rw [h] at e7
  rw [hr8]
  cases hs : samePr procs procs' with
  | false => rfl
  | true => have := samePr_len hs; simp at e7; omega
 have hl8' : b7 = true → n8 = n8' := fun h => by rw [h] at e7; simp at e7; omega
 have f0 := bne_of e0
 have f1 := bne_of e1
 have f6 := bne_of e6
 have f7 := bne_of e7
 obtain ⟨W1, hW1⟩ : ∃ W, (w.alloc (.cells #[.int .i64 bl, .int .i64 wd, .slice A2 n2 c2, .slice A3 n3 c3, .slice A4 n4 c4, .slice A5 n5 c5, .int .i64 rk, .int .i64 ro, .int .i64 rv, .int .i64 rwd, .string rn, .slice rA nr rc, .slice A7 n7 c7, .slice A8 n8 c8, .slice A9 n9 c9, .slice A10 n10 c10, .int .i64 ik, .int .i64 io, .int .i64 iv, .int .i64 iwd, .string inn, .slice iA ni ic] 75)).alloc (.cells #[.int .i64 bl', .int .i64 wd', .slice A2' n2' c2', .slice A3' n3' c3', .slice A4' n4' c4', .slice A5' n5' c5', .int .i64 rk', .int .i64 ro', .int .i64 rv', .int .i64 rwd', .string rn', .slice rA' nr' rc', .slice A7' n7' c7', .slice A8' n8' c8', .slice A9' n9' c9', .slice A10' n10' c10', .int .i64 ik', .int .i64 io', .int .i64 iv', .int .i64 iwd', .string inn', .slice iA' ni' ic'] 75) = W := ⟨_, rfl⟩
 have hB := ((Below.refl _ w).alloc (Nat.le_refl _) (.cells #[.int .i64 bl, .int .i64 wd, .slice A2 n2 c2, .slice A3 n3 c3, .slice A4 n4 c4, .slice A5 n5 c5, .int .i64 rk, .int .i64 ro, .int .i64 rv, .int .i64 rwd, .string rn, .slice rA nr rc, .slice A7 n7 c7, .slice A8 n8 c8, .slice A9 n9 c9, .slice A10 n10 c10, .int .i64 ik, .int .i64 io, .int .i64 iv, .int .i64 iwd, .string inn, .slice iA ni ic] 75)).alloc (by simp) (.cells #[.int .i64 bl', .int .i64 wd', .slice A2' n2' c2', .slice A3' n3' c3', .slice A4' n4' c4', .slice A5' n5' c5', .int .i64 rk', .int .i64 ro', .int .i64 rv', .int .i64 rwd', .string rn', .slice rA' nr' rc', .slice A7' n7' c7', .slice A8' n8' c8', .slice A9' n9' c9', .slice A10' n10' c10', .int .i64 ik', .int .i64 io', .int .i64 iv', .int .i64 iwd', .string inn', .slice iA' ni' ic'] 75)
 have hbx := (Blk.new w 75 #[.int .i64 bl, .int .i64 wd, .slice A2 n2 c2, .slice A3 n3 c3, .slice A4 n4 c4, .slice A5 n5 c5, .int .i64 rk, .int .i64 ro, .int .i64 rv, .int .i64 rwd, .string rn, .slice rA nr rc, .slice A7 n7 c7, .slice A8 n8 c8, .slice A9 n9 c9, .slice A10 n10 c10, .int .i64 ik, .int .i64 io, .int .i64 iv, .int .i64 iwd, .string inn, .slice iA ni ic]).alloc (.cells #[.int .i64 bl', .int .i64 wd', .slice A2' n2' c2', .slice A3' n3' c3', .slice A4' n4' c4', .slice A5' n5' c5', .int .i64 rk', .int .i64 ro', .int .i64 rv', .int .i64 rwd', .string rn', .slice rA' nr' rc', .slice A7' n7' c7', .slice A8' n8' c8', .slice A9' n9' c9', .slice A10' n10' c10', .int .i64 ik', .int .i64 io', .int .i64 iv', .int .i64 iwd', .string inn', .slice iA' ni' ic'] 75)
 have hby := Blk.new (w.alloc (.cells #[.int .i64 bl, .int .i64 wd, .slice A2 n2 c2, .slice A3 n3 c3, .slice A4 n4 c4, .slice A5 n5 c5, .int .i64 rk, .int .i64 ro, .int .i64 rv, .int .i64 rwd, .string rn, .slice rA nr rc, .slice A7 n7 c7, .slice A8 n8 c8, .slice A9 n9 c9, .slice A10 n10 c10, .int .i64 ik, .int .i64 io, .int .i64 iv, .int .i64 iwd, .string inn, .slice iA ni ic] 75)) 75 #[.int .i64 bl', .int .i64 wd', .slice A2' n2' c2', .slice A3' n3' c3', .slice A4' n4' c4', .slice A5' n5' c5', .int .i64 rk', .int .i64 ro', .int .i64 rv', .int .i64 rwd', .string rn', .slice rA' nr' rc', .slice A7' n7' c7', .slice A8' n8' c8', .slice A9' n9' c9', .slice A10' n10' c10', .int .i64 ik', .int .i64 io', .int .i64 iv', .int .i64 iwd', .string inn', .slice iA' ni' ic']
 rw [World.size_alloc] at hby
 rw [hW1] at hB hbx hby
 replace hR := Lib.hid hR
 replace hxr := Lib.hid hxr
 replace hxi := Lib.hid hxi
 replace hxr' := Lib.hid hxr'
 replace hxi' := Lib.hid hxi'
 replace hd0 := Lib.hid hd0
 replace hd1 := Lib.hid hd1
 replace hd2 := Lib.hid hd2
 replace hd3 := Lib.hid hd3
 replace hcr := Lib.hid hcr
 replace hci := Lib.hid hci
 replace hcw := Lib.hid hcw
 replace hcv := Lib.hid hcv
 replace hr2 := Lib.hid hr2
 replace hr3 := Lib.hid hr3
 replace hr4 := Lib.hid hr4
 replace hr5 := Lib.hid hr5
 replace hr6 := Lib.hid hr6
 replace hr7 := Lib.hid hr7
 replace hr8 := Lib.hid hr8
 replace hr9 := Lib.hid hr9
 replace hr10 := Lib.hid hr10
 replace hr11 := Lib.hid hr11
 replace hl7 := Lib.hid hl7
 replace hl7' := Lib.hid hl7'
 replace hl8 := Lib.hid hl8
 replace hl8' := Lib.hid hl8'
 replace k6 := Lib.hid k6
 replace k7 := Lib.hid k7
 replace k6' := Lib.hid k6'
 replace k7' := Lib.hid k7'
 replace hW1 := Lib.hid hW1
 replace hB := Lib.hid hB
 replace hbx := Lib.hid hbx
 replace hby := Lib.hid hby
 replace e0 := Lib.hid e0
 replace e1 := Lib.hid e1
 replace e6 := Lib.hid e6
 replace e7 := Lib.hid e7
 replace f0 := Lib.hid f0
 replace f1 := Lib.hid f1
 replace f6 := Lib.hid f6
 replace f7 := Lib.hid f7
 replace hn2 := Lib.hid hn2
 replace hn3 := Lib.hid hn3
 replace hn4 := Lib.hid hn4
 replace hn5 := Lib.hid hn5
 replace hn7 := Lib.hid hn7
 replace hn8 := Lib.hid hn8
 replace hn9 := Lib.hid hn9
 replace hn10 := Lib.hid hn10
 replace hnr := Lib.hid hnr
 replace hni := Lib.hid hni
 replace hn2' := Lib.hid hn2'
 replace hn3' := Lib.hid hn3'
 replace hn4' := Lib.hid hn4'
 replace hn5' := Lib.hid hn5'
 replace hn7' := Lib.hid hn7'
 replace hn8' := Lib.hid hn8'
 replace hn9' := Lib.hid hn9'
 replace hn10' := Lib.hid hn10'
 replace hnr' := Lib.hid hnr'
 replace hni' := Lib.hid hni'
 clear k1 k2 k3 k4 k5 k8 k9 k10 k1' k2' k3' k4' k5' k8' k9' k10' hax hay hax' hay'
 go_enter Tryz.func56, Tryz.ntmps56
 go_upto_region 1 with (fail)
 rw [hW1.out]
 obtain ⟨gx, hgx⟩ : ∃ g, w.heap.size = g := ⟨_, rfl⟩
 obtain ⟨gy, hgy⟩ : ∃ g, w.heap.size + 1 = g := ⟨_, rfl⟩
 rw [hgx] at hbx
 rw [hgy] at hby
 rw [hgy, hgx]
 replace hgx := Lib.hid hgx
 replace hgy := Lib.hid hgy
 have x0 := hbx.out.cell 0
 have x1 := hbx.out.cell 1
 have xl := hbx.out.lt
 simp only [List.getElem?_toArray, List.getElem?_cons_zero, List.getElem?_cons_succ] at x0 x1
 have y0 := hby.out.cell 0
 have y1 := hby.out.cell 1
 have yl := hby.out.lt
 simp only [List.getElem?_toArray, List.getElem?_cons_zero, List.getElem?_cons_succ] at y0 y1
 cases b0
 ·have hRf : R = false := by rw [hR.out]; simp
  replace hRf := Lib.hid hRf
  replace e0 := e0.out
  replace f0 := f0.out
  simp only [Bool.not_false] at f0
  go_wp2
  go_ret
  exact ⟨ret_b hRf.out.symm, hB.out⟩
 clear x0 x1 xl y0 y1 yl
 have x0 := hbx.out.cell 0
 have x1 := hbx.out.cell 1
 have xl := hbx.out.lt
 simp only [List.getElem?_toArray, List.getElem?_cons_zero, List.getElem?_cons_succ] at x0 x1
 have y0 := hby.out.cell 0
 have y1 := hby.out.cell 1
 have yl := hby.out.lt
 simp only [List.getElem?_toArray, List.getElem?_cons_zero, List.getElem?_cons_succ] at y0 y1
 cases b1
 ·have hRf : R = false := by rw [hR.out]; simp
  replace hRf := Lib.hid hRf
  replace e0 := e0.out
  replace f0 := f0.out
  replace e1 := e1.out
  replace f1 := f1.out
  simp only [Bool.not_true, Bool.not_false] at f0 f1
  go_wp2
  go_ret
  exact ⟨ret_b hRf.out.symm, hB.out⟩
 clear x0 x1 xl y0 y1 yl
 replace e0 := e0.out
 replace f0 := f0.out
 replace e1 := e1.out
 replace f1 := f1.out
 simp only [Bool.not_true] at f0 f1
 have x0 := hbx.out.cell 0
 have x1 := hbx.out.cell 1
 have x2 := hbx.out.cell 2
 have xl := hbx.out.lt
 simp only [List.getElem?_toArray, List.getElem?_cons_zero, List.getElem?_cons_succ] at x0 x1 x2
 have y0 := hby.out.cell 0
 have y1 := hby.out.cell 1
 have y2 := hby.out.cell 2
 have yl := hby.out.lt
 simp only [List.getElem?_toArray, List.getElem?_cons_zero, List.getElem?_cons_succ] at y0 y1 y2
 have hc := Lib.hid (hd0.out _ hB.out)
 go_wp2_with fail
 refine hc.out.mono ?_
 rintro e V0 ⟨rfl, hB9⟩
 clear hc hd0 x0 y0 x1 y1 x2 y2 xl yl
 replace hbx := Lib.hid (hbx.out.below hB9 hbx.out.lt)
 replace hby := Lib.hid (hby.out.below hB9 hby.out.lt)
 replace hB := Lib.hid (below_and hB.out hB9)
 clear hB9
 cases r2
 ·have hRf : R = false := by rw [hR.out]; simp
  replace hRf := Lib.hid hRf
  go_wp2
  go_ret
  exact ⟨ret_b hRf.out.symm, hB.out⟩
 have x3 := hbx.out.cell 3
 have xl := hbx.out.lt
 simp only [List.getElem?_toArray, List.getElem?_cons_zero, List.getElem?_cons_succ] at x3
 have y3 := hby.out.cell 3
 have yl := hby.out.lt
 simp only [List.getElem?_toArray, List.getElem?_cons_zero, List.getElem?_cons_succ] at y3
 have hc := Lib.hid (hd1.out _ hB.out)
 go_wp2_with fail
 refine hc.out.mono ?_
 rintro e V1 ⟨rfl, hB9⟩
 clear hc hd1 x3 y3 xl yl
 replace hbx := Lib.hid (hbx.out.below hB9 hbx.out.lt)
 replace hby := Lib.hid (hby.out.below hB9 hby.out.lt)
 replace hB := Lib.hid (below_and hB.out hB9)
 clear hB9
 cases r3
 ·have hRf : R = false := by rw [hR.out]; simp
  replace hRf := Lib.hid hRf
  go_wp2
  go_ret
  exact ⟨ret_b hRf.out.symm, hB.out⟩
 have x4 := hbx.out.cell 4
 have xl := hbx.out.lt
 simp only [List.getElem?_toArray, List.getElem?_cons_zero, List.getElem?_cons_succ] at x4
 have y4 := hby.out.cell 4
 have yl := hby.out.lt
 simp only [List.getElem?_toArray, List.getElem?_cons_zero, List.getElem?_cons_succ] at y4
 have hc := Lib.hid (hd2.out _ hB.out)
 go_wp2_with fail
 refine hc.out.mono ?_
 rintro e V2 ⟨rfl, hB9⟩
 clear hc hd2 x4 y4 xl yl
 replace hbx := Lib.hid (hbx.out.below hB9 hbx.out.lt)
 replace hby := Lib.hid (hby.out.below hB9 hby.out.lt)
 replace hB := Lib.hid (below_and hB.out hB9)
 clear hB9
 cases r4
 ·have hRf : R = false := by rw [hR.out]; simp
  replace hRf := Lib.hid hRf
  go_wp2
  go_ret
  exact ⟨ret_b hRf.out.symm, hB.out⟩
 have x5 := hbx.out.cell 5
 have xl := hbx.out.lt
 simp only [List.getElem?_toArray, List.getElem?_cons_zero, List.getElem?_cons_succ] at x5
 have y5 := hby.out.cell 5
 have yl := hby.out.lt
 simp only [List.getElem?_toArray, List.getElem?_cons_zero, List.getElem?_cons_succ] at y5
 have hc := Lib.hid (hd3.out _ hB.out)
 go_wp2_with fail
 refine hc.out.mono ?_
 rintro e V3 ⟨rfl, hB9⟩
 clear hc hd3 x5 y5 xl yl
 replace hbx := Lib.hid (hbx.out.below hB9 hbx.out.lt)
 replace hby := Lib.hid (hby.out.below hB9 hby.out.lt)
 replace hB := Lib.hid (below_and hB.out hB9)
 clear hB9
 cases r5
 ·have hRf : R = false := by rw [hR.out]; simp
  replace hRf := Lib.hid hRf
  go_wp2
  go_ret
  exact ⟨ret_b hRf.out.symm, hB.out⟩
 have x12 := hbx.out.cell 12
 have x13 := hbx.out.cell 13
 have xl := hbx.out.lt
 simp only [List.getElem?_toArray, List.getElem?_cons_zero, List.getElem?_cons_succ] at x12 x13
 have y12 := hby.out.cell 12
 have y13 := hby.out.cell 13
 have yl := hby.out.lt
 simp only [List.getElem?_toArray, List.getElem?_cons_zero, List.getElem?_cons_succ] at y12 y13
 replace e6 := e6.out
 replace f6 := f6.out
 cases b6
 ·have hRf : R = false := by rw [hR.out, hl7.out rfl]; simp
  replace hRf := Lib.hid hRf
  simp only [Bool.not_false] at f6
  clear hl7 hl7'
  go_wp2
  go_ret
  exact ⟨ret_b hRf.out.symm, hB.out⟩
 replace e7 := e7.out
 replace f7 := f7.out
 cases b7
 ·have hRf : R = false := by rw [hR.out, hl8.out rfl]; simp
  replace hRf := Lib.hid hRf
  simp only [Bool.not_false, Bool.not_true] at f6 f7
  clear hl7 hl7' hl8 hl8'
  go_wp2
  go_ret
  exact ⟨ret_b hRf.out.symm, hB.out⟩
 have hm7 := hl7'.out rfl
 subst hm7
 have hm8 := hl8'.out rfl
 subst hm8
 clear hl7 hl7' hl8 hl8'
 simp only [Bool.not_true] at f6 f7
 go_wp2_with fail
 clear x12 x13 xl y12 y13 yl e0 e1 e6 e7 f0 f1 f6 f7
 go_loopw [5] (fun i wr => ∃ j : Nat, i = .int .i64 j ∧ j ≤ n7 ∧ Below V3.heap.size V3 wr ∧ ∀ (i : Nat) x y, i < j → inits[i]? = some x → inits'[i]? = some y → x.same y = true) (fun i _ => n7 - (intOf i).toNat)
 case atStart => exact ⟨0, rfl, Nat.zero_le _, Below.refl _ _, fun i x y h => absurd h (by omega)⟩
 case round =>
  obtain ⟨j, rfl, hj, hB3, hsj⟩ := hrel
  have j0 : 0 ≤ (j : Int) := by omega
  have hBz := Lib.hid (below_and hB.out hB3)
  have hbx3 := hbx.out.below hB3 hbx.out.lt
  have hby3 := hby.out.below hB3 hby.out.lt
  have lx := hbx3.lt
  have ly := hby3.lt
  have x12 := hbx3.cell 12
  simp only [List.getElem?_toArray, List.getElem?_cons_zero, List.getElem?_cons_succ] at x12
  have hC0 : ∀ x : Ext wr, x.w.cell? ⟨gx, 12, none⟩ = some (.slice A7 n7 c7) := fun x => (hbx3.below x.below lx).cell 12
  have hC1 : ∀ x : Ext wr, x.w.cell? ⟨gy, 12, none⟩ = some (.slice A7' n7 c7') := fun x => (hby3.below x.below ly).cell 12
  replace hbx3 := Lib.hid hbx3
  replace hby3 := Lib.hid hby3
  by_cases hjl : j < n7
  ·have hu : inits[j]? = some (inits[j]'(by have := hn7.out; omega)) := List.getElem?_eq_getElem (by have := hn7.out; omega)
   generalize inits[j]'(by have := hn7.out; omega) = u at hu
   have hv : inits'[j]? = some (inits'[j]'(by have := hn7'.out; omega)) := List.getElem?_eq_getElem (by have := hn7'.out; omega)
   generalize inits'[j]'(by have := hn7'.out; omega) = v at hv
   obtain ⟨ad2, hA, _, huok, hcu⟩ := (k6.out.keep (keeps_below hBz.out) (fun _ _ => trivial)).at hu
   obtain ⟨bd2, hA', _, hvok, hcv2⟩ := (k6'.out.keep (keeps_below hBz.out) (fun _ _ => trivial)).at hv
   have hcall := fun w2 (hB2 : Below wr.heap.size wr w2) => rsameE u.val v.val w2 (huok.below hB2) (hvok.below hB2)
   have hresj := sameI_false hu hv
   have hyesj : u.same v = true → ∀ (i : Nat) x y, i < j + 1 → inits[i]? = some x → inits'[i]? = some y → x.same y = true := fun hs i x y hi hx' hy' => by
    by_cases hij : i = j
    ·subst hij
     rw [hu] at hx'
     rw [hv] at hy'
     cases hx'
     cases hy'
     exact hs
    ·exact hsj i x y (by omega) hx' hy'
   simp only [In.same] at hresj hyesj
   obtain ⟨r, hr⟩ : ∃ r, r = u.val.same v.val := ⟨_, rfl⟩
   rw [← hr] at hcall hresj hyesj
   rw [← hr7.out] at hresj
   obtain ⟨ub, ⟨⟨pk, po, pv, pw, pn⟩, ⟨uA, uc⟩, us⟩⟩ := u
   obtain ⟨vb, ⟨⟨qk, qo, qv, qw, qn⟩, ⟨vA, vc⟩, vs⟩⟩ := v
   obtain ⟨c0, cc1, cc2, cc3, cc4, cc5, cc6⟩ := CellsAt.c7 hcu
   obtain ⟨d0, d1, d2, d3, d4, d5, d6⟩ := CellsAt.c7 hcv2
   dsimp only at hA hA' hcall hresj hyesj
   simp only [aggRX, Ex.cells, eR] at cc1 cc2 cc3 d1 d2 d3 hcall
   subst hA
   subst hA'
   obtain ⟨bb, ebb⟩ : ∃ b, (ub == vb) = b := ⟨_, rfl⟩
   have fbb := bne_of ebb
   rw [ebb] at hresj hyesj
   have j1 : (j : Int) < (n7 : Int) := by omega
   have hab := cell_lt c0
   have hbb := cell_lt d0
   have hX : ∀ x : Ext wr, Calls Tryz.prog 64 #[.agg #[.int .i64 pk, .int .i64 po, .int .i64 pv, .int .i64 pw, .string pn, .slice uA us.length uc], .agg #[.int .i64 qk, .int .i64 qo, .int .i64 qv, .int .i64 qw, .string qn, .slice vA vs.length vc]] x.w fun e w' => e = .returned (.bool r) ∧ Below x.w.heap.size x.w w' := fun x => hcall x.w x.below
   have C0 := fun x : Ext wr => x.cell c0 hab
   have C1 := fun x : Ext wr => x.cell cc1 hab
   have C2 := fun x : Ext wr => x.cell cc2 hab
   have C3 := fun x : Ext wr => x.cell cc3 hab
   have C4 := fun x : Ext wr => x.cell cc4 hab
   have C5 := fun x : Ext wr => x.cell cc5 hab
   have C6 := fun x : Ext wr => x.cell cc6 hab
   have D0 := fun x : Ext wr => x.cell d0 hbb
   have D1 := fun x : Ext wr => x.cell d1 hbb
   have D2 := fun x : Ext wr => x.cell d2 hbb
   have D3 := fun x : Ext wr => x.cell d3 hbb
   have D4 := fun x : Ext wr => x.cell d4 hbb
   have D5 := fun x : Ext wr => x.cell d5 hbb
   have D6 := fun x : Ext wr => x.cell d6 hbb
   clear hcall cc1 cc2 cc3 cc4 cc5 cc6 d1 d2 d3 d4 d5 d6 c0 d0 huok hvok hcu hcv2
   replace hX := Lib.hid hX
   replace hr := Lib.hid hr
   replace hu := Lib.hid hu
   replace hv := Lib.hid hv
   replace hsj := Lib.hid hsj
   replace hresj := Lib.hid hresj
   replace hyesj := Lib.hid hyesj
   cases bb
   ·have hRf : R = false := by rw [hR.out, hresj.out (by simp)]; simp
    replace hRf := Lib.hid hRf
    simp only [Bool.not_false] at fbb
    clear hresj hyesj
    go_wp2_with fail
    refine wp_region_grown (by kernel_rfl) (by kernel_rfl) (by kernel_rfl) ?_
    repeat (go_big_quiet_step (first | (go_at_call 64; with_reducible exact grown_of (hX.out _))))
    refine wpQuiet_nil ?_
    rintro _ ⟨x, rfl⟩
    go_wp2
    go_ret
    exact ⟨ret_b hRf.out.symm, below_and hBz.out x.below⟩
   simp only [Bool.not_true] at fbb
   go_wp2_with fail
   refine wp_region_grown (by kernel_rfl) (by kernel_rfl) (by kernel_rfl) ?_
   repeat (go_big_quiet_step (first | (go_at_call 64; with_reducible exact grown_of (hX.out _))))
   refine wpQuiet_nil ?_
   rintro _ ⟨x, rfl⟩
   have hB5 := Lib.hid (below_and hB3 x.below)
   cases r
   ·have hRf : R = false := by rw [hR.out, hresj.out (by simp)]; simp
    replace hRf := Lib.hid hRf
    clear hresj hyesj
    go_wp2
    go_ret
    exact ⟨ret_b hRf.out.symm, below_and hBz.out x.below⟩
   ·have hnx := Lib.hid (hyesj.out (by simp))
    clear hresj hyesj
    go_wp2
    go_roundw
    case rel => exact ⟨j + 1, by go_num, by omega, hB5.out, hnx.out⟩
    case measure => simp [intOf]; omega
  ·obtain rfl : j = n7 := by omega
   have hrt : r7 = true := by
    rw [hr7.out]
    refine (sameI_at inits inits' (by rw [← hn7.out, ← hn7'.out])).2 fun i x y hx hy => hsj i x y ?_ hx hy
    have := (List.getElem?_eq_some_iff.1 hx).1
    have := hn7.out
    omega
   subst hrt
   clear hsj hC0 hC1 hbx hby hB
   obtain ⟨W3, hW3⟩ : ∃ x, x = wr := ⟨_, rfl⟩
   subst hW3
   go_wp2_with fail
   clear x12 lx ly
   go_loopw [6] (fun i wr => ∃ j : Nat, i = .int .i64 j ∧ j ≤ n8 ∧ Below W3.heap.size W3 wr ∧ ∀ (i : Nat) x y, i < j → procs[i]? = some x → procs'[i]? = some y → x.same y = true) (fun i _ => n8 - (intOf i).toNat)
   case atStart => exact ⟨0, rfl, Nat.zero_le _, Below.refl _ _, fun i x y h => absurd h (by omega)⟩
   case round =>
    obtain ⟨i, rfl, hi, hB4, hsi⟩ := hrel
    have i0 : 0 ≤ (i : Int) := by omega
    have hBy := Lib.hid (below_and hBz.out hB4)
    have hbx4 := hbx3.out.below hB4 hbx3.out.lt
    have hby4 := hby3.out.below hB4 hby3.out.lt
    have lx := hbx4.lt
    have ly := hby4.lt
    have x13 := hbx4.cell 13
    simp only [List.getElem?_toArray, List.getElem?_cons_zero, List.getElem?_cons_succ] at x13
    have hC0 : ∀ x : Ext wr, x.w.cell? ⟨gx, 13, none⟩ = some (.slice A8 n8 c8) := fun x => (hbx4.below x.below lx).cell 13
    have hC1 : ∀ x : Ext wr, x.w.cell? ⟨gy, 13, none⟩ = some (.slice A8' n8 c8') := fun x => (hby4.below x.below ly).cell 13
    replace hbx4 := Lib.hid hbx4
    replace hby4 := Lib.hid hby4
    by_cases hil : i < n8
    ·have hu : procs[i]? = some (procs[i]'(by have := hn8.out; omega)) := List.getElem?_eq_getElem (by have := hn8.out; omega)
     generalize procs[i]'(by have := hn8.out; omega) = u at hu
     have hv : procs'[i]? = some (procs'[i]'(by have := hn8'.out; omega)) := List.getElem?_eq_getElem (by have := hn8'.out; omega)
     generalize procs'[i]'(by have := hn8'.out; omega) = v at hv
     obtain ⟨ad2, hA, _, huok, hcu⟩ := (k7.out.keep (keeps_below hBy.out) (fun _ _ => trivial)).at hu
     obtain ⟨bd2, hA', _, hvok, hcv2⟩ := (k7'.out.keep (keeps_below hBy.out) (fun _ _ => trivial)).at hv
     have hcd := fun w2 (hB2 : Below wr.heap.size wr w2) => rsameD u.lp v.lp u.ps v.ps w2 (huok.1.all (keeps_below hB2)) (hvok.1.all (keeps_below hB2))
     have hcs := fun w2 (hB2 : Below wr.heap.size wr w2) => rsameS u.body u.lb v.lb v.body w2 (huok.2.all (keeps_below hB2)) (hvok.2.all (keeps_below hB2))
     have hresi := samePr_false hu hv
     have hyesi : u.same v = true → ∀ (k : Nat) x y, k < i + 1 → procs[k]? = some x → procs'[k]? = some y → x.same y = true := fun hs k x y hk hx' hy' => by
      by_cases hki : k = i
      ·subst hki
       rw [hu] at hx'
       rw [hv] at hy'
       cases hx'
       cases hy'
       exact hs
      ·exact hsi k x y (by omega) hx' hy'
     simp only [Pr.same] at hresi hyesi
     obtain ⟨ra, hra⟩ : ∃ r, r = sameD u.ps v.ps := ⟨_, rfl⟩
     obtain ⟨rb, hrb⟩ : ∃ r, r = sameS u.body v.body := ⟨_, rfl⟩
     rw [← hra] at hcd hresi hyesi
     rw [← hrb] at hcs hresi hyesi
     rw [← hr8.out] at hresi
     obtain ⟨un, ⟨upA, upc⟩, ups, ⟨ubA, ubc⟩, ubody⟩ := u
     obtain ⟨vn, ⟨vpA, vpc⟩, vps, ⟨vbA, vbc⟩, vbody⟩ := v
     simp only [Pr.cells] at hcu hcv2
     dsimp only at hA hA' hcd hcs hresi hyesi
     obtain ⟨m1, hm1⟩ : ∃ m, m = ups.length := ⟨_, rfl⟩
     obtain ⟨m2, hm2⟩ : ∃ m, m = ubody.length := ⟨_, rfl⟩
     obtain ⟨m3, hm3⟩ : ∃ m, m = vps.length := ⟨_, rfl⟩
     obtain ⟨m4, hm4⟩ : ∃ m, m = vbody.length := ⟨_, rfl⟩
     rw [← hm1, ← hm2] at hcu
     rw [← hm3, ← hm4] at hcv2
     rw [← hm1, ← hm3] at hcd
     rw [← hm2, ← hm4] at hcs
     obtain ⟨c0, cc1, cc2⟩ := CellsAt.c3 hcu
     obtain ⟨d0, d1, d2⟩ := CellsAt.c3 hcv2
     subst hA
     subst hA'
     obtain ⟨bb, ebb⟩ : ∃ b, (un.toList == vn.toList) = b := ⟨_, rfl⟩
     have fbb := bne_of ebb
     rw [ebb] at hresi hyesi
     have i1 : (i : Int) < (n8 : Int) := by omega
     have hab := cell_lt c0
     have hbb := cell_lt d0
     have hX : ∀ x : Ext wr, Calls Tryz.prog 103 #[.slice upA m1 upc, .slice vpA m3 vpc] x.w fun e w' => e = .returned (.bool ra) ∧ Below x.w.heap.size x.w w' := fun x => hcd x.w x.below
     have hY : ∀ x : Ext wr, Calls Tryz.prog 65 #[.slice ubA m2 ubc, .slice vbA m4 vbc] x.w fun e w' => e = .returned (.bool rb) ∧ Below x.w.heap.size x.w w' := fun x => hcs x.w x.below
     have C0 := fun x : Ext wr => x.cell c0 hab
     have C1 := fun x : Ext wr => x.cell cc1 hab
     have C2 := fun x : Ext wr => x.cell cc2 hab
     have D0 := fun x : Ext wr => x.cell d0 hbb
     have D1 := fun x : Ext wr => x.cell d1 hbb
     have D2 := fun x : Ext wr => x.cell d2 hbb
     clear hcd hcs cc1 cc2 d1 d2 c0 d0 huok hvok hcu hcv2
     replace hX := Lib.hid hX
     replace hY := Lib.hid hY
     replace hra := Lib.hid hra
     replace hrb := Lib.hid hrb
     replace hu := Lib.hid hu
     replace hv := Lib.hid hv
     replace hsi := Lib.hid hsi
     replace hresi := Lib.hid hresi
     replace hyesi := Lib.hid hyesi
     replace hm1 := Lib.hid hm1
     replace hm2 := Lib.hid hm2
     replace hm3 := Lib.hid hm3
     replace hm4 := Lib.hid hm4
     cases bb
     ·have hRf : R = false := by rw [hR.out, hresi.out (by simp)]; simp
      replace hRf := Lib.hid hRf
      simp only [Bool.not_false] at fbb
      clear hresi hyesi
      go_wp2_with fail
      refine wp_region_grown (by kernel_rfl) (by kernel_rfl) (by kernel_rfl) ?_
      repeat (go_big_quiet_step (first | (go_at_call 103; with_reducible exact grown_of (hX.out _)) | (go_at_call 65; with_reducible exact grown_of (hY.out _))))
      refine wpQuiet_nil ?_
      rintro _ ⟨x, rfl⟩
      go_wp2
      go_ret
      exact ⟨ret_b hRf.out.symm, below_and hBy.out x.below⟩
     simp only [Bool.not_true] at fbb
     cases ra
     ·have hRf : R = false := by rw [hR.out, hresi.out (by simp)]; simp
      replace hRf := Lib.hid hRf
      skip
      clear hresi hyesi
      go_wp2_with fail
      refine wp_region_grown (by kernel_rfl) (by kernel_rfl) (by kernel_rfl) ?_
      repeat (go_big_quiet_step (first | (go_at_call 103; with_reducible exact grown_of (hX.out _)) | (go_at_call 65; with_reducible exact grown_of (hY.out _))))
      refine wpQuiet_nil ?_
      rintro _ ⟨x, rfl⟩
      go_wp2
      go_ret
      exact ⟨ret_b hRf.out.symm, below_and hBy.out x.below⟩
     cases rb
     ·have hRf : R = false := by rw [hR.out, hresi.out (by simp)]; simp
      replace hRf := Lib.hid hRf
      skip
      clear hresi hyesi
      go_wp2_with fail
      refine wp_region_grown (by kernel_rfl) (by kernel_rfl) (by kernel_rfl) ?_
      repeat (go_big_quiet_step (first | (go_at_call 103; with_reducible exact grown_of (hX.out _)) | (go_at_call 65; with_reducible exact grown_of (hY.out _))))
      refine wpQuiet_nil ?_
      rintro _ ⟨x, rfl⟩
      go_wp2
      go_ret
      exact ⟨ret_b hRf.out.symm, below_and hBy.out x.below⟩
     have hnx := Lib.hid (hyesi.out (by simp))
     clear hresi hyesi
     go_wp2_with fail
     refine wp_region_grown (by kernel_rfl) (by kernel_rfl) (by kernel_rfl) ?_
     repeat (go_big_quiet_step (first | (go_at_call 103; with_reducible exact grown_of (hX.out _)) | (go_at_call 65; with_reducible exact grown_of (hY.out _))))
     refine wpQuiet_nil ?_
     rintro _ ⟨x, rfl⟩
     have hB5 := Lib.hid (below_and hB4 x.below)
     go_wp2
     go_roundw
     case rel => exact ⟨i + 1, by go_num, by omega, hB5.out, hnx.out⟩
     case measure => simp [intOf]; omega
    ·obtain rfl : i = n8 := by omega
     have hrt : r8 = true := by
      rw [hr8.out]
      refine (samePr_at procs procs' (by rw [← hn8.out, ← hn8'.out])).2 fun k x y hx hy => hsi k x y ?_ hx hy
      have := (List.getElem?_eq_some_iff.1 hx).1
      have := hn8.out
      omega
     subst hrt
     clear hsi hC0 hC1 hbx3 hby3 hBz
     clear lx ly
     have x6 := hbx4.out.cell 6
     have x7 := hbx4.out.cell 7
     have x8 := hbx4.out.cell 8
     have x9 := hbx4.out.cell 9
     have x10 := hbx4.out.cell 10
     have x11 := hbx4.out.cell 11
     have xl := hbx4.out.lt
     simp only [List.getElem?_toArray, List.getElem?_cons_zero, List.getElem?_cons_succ] at x6 x7 x8 x9 x10 x11
     have y6 := hby4.out.cell 6
     have y7 := hby4.out.cell 7
     have y8 := hby4.out.cell 8
     have y9 := hby4.out.cell 9
     have y10 := hby4.out.cell 10
     have y11 := hby4.out.cell 11
     have yl := hby4.out.lt
     simp only [List.getElem?_toArray, List.getElem?_cons_zero, List.getElem?_cons_succ] at y6 y7 y8 y9 y10 y11
     have hc := Lib.hid (hcr.out _ hBy.out)
     go_wp2_with fail
     refine hc.out.mono ?_
     rintro e U0 ⟨rfl, hB9⟩
     clear hc hcr x6 y6 x7 y7 x8 y8 x9 y9 x10 y10 x11 y11 xl yl x13
     replace hbx4 := Lib.hid (hbx4.out.below hB9 hbx4.out.lt)
     replace hby4 := Lib.hid (hby4.out.below hB9 hby4.out.lt)
     replace hBy := Lib.hid (below_and hBy.out hB9)
     clear hB9
     cases r6
     ·have hRf : R = false := by rw [hR.out]; simp
      replace hRf := Lib.hid hRf
      go_wp2
      go_ret
      exact ⟨ret_b hRf.out.symm, hBy.out⟩
     have x14 := hbx4.out.cell 14
     have xl := hbx4.out.lt
     simp only [List.getElem?_toArray, List.getElem?_cons_zero, List.getElem?_cons_succ] at x14
     have y14 := hby4.out.cell 14
     have yl := hby4.out.lt
     simp only [List.getElem?_toArray, List.getElem?_cons_zero, List.getElem?_cons_succ] at y14
     have hc := Lib.hid (hcw.out _ hBy.out)
     go_wp2_with fail
     refine hc.out.mono ?_
     rintro e U1 ⟨rfl, hB9⟩
     clear hc hcw x14 y14 xl yl
     replace hbx4 := Lib.hid (hbx4.out.below hB9 hbx4.out.lt)
     replace hby4 := Lib.hid (hby4.out.below hB9 hby4.out.lt)
     replace hBy := Lib.hid (below_and hBy.out hB9)
     clear hB9
     cases r9
     ·have hRf : R = false := by rw [hR.out]; simp
      replace hRf := Lib.hid hRf
      go_wp2
      go_ret
      exact ⟨ret_b hRf.out.symm, hBy.out⟩
     have x15 := hbx4.out.cell 15
     have xl := hbx4.out.lt
     simp only [List.getElem?_toArray, List.getElem?_cons_zero, List.getElem?_cons_succ] at x15
     have y15 := hby4.out.cell 15
     have yl := hby4.out.lt
     simp only [List.getElem?_toArray, List.getElem?_cons_zero, List.getElem?_cons_succ] at y15
     have hc := Lib.hid (hcv.out _ hBy.out)
     go_wp2_with fail
     refine hc.out.mono ?_
     rintro e U2 ⟨rfl, hB9⟩
     clear hc hcv x15 y15 xl yl
     replace hbx4 := Lib.hid (hbx4.out.below hB9 hbx4.out.lt)
     replace hby4 := Lib.hid (hby4.out.below hB9 hby4.out.lt)
     replace hBy := Lib.hid (below_and hBy.out hB9)
     clear hB9
     cases r10
     ·have hRf : R = false := by rw [hR.out]; simp
      replace hRf := Lib.hid hRf
      go_wp2
      go_ret
      exact ⟨ret_b hRf.out.symm, hBy.out⟩
     have x16 := hbx4.out.cell 16
     have x17 := hbx4.out.cell 17
     have x18 := hbx4.out.cell 18
     have x19 := hbx4.out.cell 19
     have x20 := hbx4.out.cell 20
     have x21 := hbx4.out.cell 21
     have xl := hbx4.out.lt
     simp only [List.getElem?_toArray, List.getElem?_cons_zero, List.getElem?_cons_succ] at x16 x17 x18 x19 x20 x21
     have y16 := hby4.out.cell 16
     have y17 := hby4.out.cell 17
     have y18 := hby4.out.cell 18
     have y19 := hby4.out.cell 19
     have y20 := hby4.out.cell 20
     have y21 := hby4.out.cell 21
     have yl := hby4.out.lt
     simp only [List.getElem?_toArray, List.getElem?_cons_zero, List.getElem?_cons_succ] at y16 y17 y18 y19 y20 y21
     have hc := Lib.hid (hci.out _ hBy.out)
     go_wp2_with fail
     refine hc.out.mono ?_
     rintro e U3 ⟨rfl, hB9⟩
     clear hc hci x16 y16 x17 y17 x18 y18 x19 y19 x20 y20 x21 y21 xl yl
     replace hbx4 := Lib.hid (hbx4.out.below hB9 hbx4.out.lt)
     replace hby4 := Lib.hid (hby4.out.below hB9 hby4.out.lt)
     replace hBy := Lib.hid (below_and hBy.out hB9)
     clear hB9
     have hRf : R = r11 := by rw [hR.out]; simp
     replace hRf := Lib.hid hRf
     go_wp2
     go_ret
     exact ⟨ret_b hRf.out.symm, hBy.out⟩
end Go.Proofs.YtnldbplphgfpeaaGreat
