/- Lemmas for salvor/salvorlaw29.TreeSmall (part 20); no condition. -/
import Derived.Deep.CutBlock
import Derived.Test.YtnldbplphgfpeaaGreatP19
import Derived.Test.YtnldbplphgfpeaaGreatP08
import Derived.Test.YtnldbplphgfpeaaGreatP09
import Derived.Test.YtnldbplphgfpeaaGreatP16
namespace Go.Proofs.YtnldbplphgfpeaaGreat
open Go Go.RowKit Go.Shelf
set_option linter.unusedVariables false
set_option linter.unusedSimpArgs false
set_option maxHeartbeats 16000000
theorem shut_mkP {p : Prop} (h : p) : Shut p := h
set_option maxRecDepth 100000 in
theorem theirP (p : Pg Loc) (w : World) (hok : p.ok eT w) (hr : p.rng) (hs : p.sz ≤ 60000) : Calls Tryz.prog 55 #[aggP p] w fun r w' => (∃ (L : Pg Loc), r = .returned (aggRP L) ∧ L.plain = p.plain ∧ L.ok eR w' ∧ ∀ b ∈ L.blks, w.heap.size ≤ b) ∧ Below w.heap.size w w' := by
 obtain ⟨bl, wd, ⟨A2, c2⟩, ins, ⟨A3, c3⟩, gh, ⟨A4, c4⟩, va, ⟨A5, c5⟩, ar, ⟨⟨rk, ro, rv, rwd, rn⟩, ⟨rA, rc⟩, rs⟩, ⟨A7, c7⟩, inits, ⟨A8, c8⟩, procs, ⟨A9, c9⟩, work, ⟨A10, c10⟩, recov, ⟨⟨ik, io, iv, iwd, inn⟩, ⟨iA, ic⟩, is⟩⟩ := p
 obtain ⟨xr, hxr⟩ : ∃ x, x = Ex.mk ⟨rk, ro, rv, rwd, rn⟩ (⟨rA, rc⟩ : Loc) rs := ⟨_, rfl⟩
 obtain ⟨xi, hxi⟩ : ∃ x, x = Ex.mk ⟨ik, io, iv, iwd, inn⟩ (⟨iA, ic⟩ : Loc) is := ⟨_, rfl⟩
 obtain ⟨k1, k2, k3, k4, k5, k6, k7, k8, k9, k10⟩ := hok
 obtain ⟨s5, s6, s7, s8, s9, s10⟩ := hr
 dsimp only at k1 k2 k3 k4 k5 k6 k7 k8 k9 k10 s5 s6 s7 s8 s9 s10
 simp only [Pg.sz] at hs
 simp only [aggP, Pg.cells, Ex.cells, eT, List.cons_append, List.nil_append]
 rw [← hxr] at k5 s5 hs
 rw [← hxi] at k10 s10 hs
 have hl7 := szI_len inits
 have hl8 := szPr_len procs
 have hd2 := fun w2 (h2 : Below w.heap.size w w2) => theirD ⟨A2, c2⟩ ins w2 (k1.all (keeps_below h2)) (by omega)
 have hd3 := fun w2 (h2 : Below w.heap.size w w2) => theirD ⟨A3, c3⟩ gh w2 (k2.all (keeps_below h2)) (by omega)
 have hd4 := fun w2 (h2 : Below w.heap.size w w2) => theirD ⟨A4, c4⟩ va w2 (k3.all (keeps_below h2)) (by omega)
 have hd5 := fun w2 (h2 : Below w.heap.size w w2) => theirD ⟨A5, c5⟩ ar w2 (k4.all (keeps_below h2)) (by omega)
 have hcr := fun w2 (h2 : Below w.heap.size w w2) => theirX xr w2 (k5.below h2) s5 (by omega)
 have hci := fun w2 (h2 : Below w.heap.size w w2) => theirX xi w2 (k10.below h2) s10 (by omega)
 have hcw := fun w2 (h2 : Below w.heap.size w w2) => theirS work ⟨A9, c9⟩ w2 (k8.all (keeps_below h2)) s8 (by omega)
 have hcv := fun w2 (h2 : Below w.heap.size w w2) => theirS recov ⟨A10, c10⟩ w2 (k9.all (keeps_below h2)) s9 (by omega)
 have hax : aggX xr = .agg #[.int .u8 rk, .int .u8 ro, .int .u32 rv, .int .i64 rwd, .string rn, .slice rA rs.length rc] := by rw [hxr]; rfl
 have hay : aggX xi = .agg #[.int .u8 ik, .int .u8 io, .int .u32 iv, .int .i64 iwd, .string inn, .slice iA is.length ic] := by rw [hxi]; rfl
 rw [hax] at hcr
 rw [hay] at hci
 dsimp only at hd2 hd3 hd4 hd5 hcw hcv
 obtain ⟨n2, hn2⟩ : ∃ n, n = ins.length := ⟨_, rfl⟩
 rw [← hn2]
 rw [← hn2] at hd2
 obtain ⟨n3, hn3⟩ : ∃ n, n = gh.length := ⟨_, rfl⟩
 rw [← hn3]
 rw [← hn3] at hd3
 obtain ⟨n4, hn4⟩ : ∃ n, n = va.length := ⟨_, rfl⟩
 rw [← hn4]
 rw [← hn4] at hd4
 obtain ⟨n5, hn5⟩ : ∃ n, n = ar.length := ⟨_, rfl⟩
 rw [← hn5]
 rw [← hn5] at hd5
 obtain ⟨n7, hn7⟩ : ∃ n, n = inits.length := ⟨_, rfl⟩
 rw [← hn7]
 obtain ⟨n8, hn8⟩ : ∃ n, n = procs.length := ⟨_, rfl⟩
 rw [← hn8]
 obtain ⟨n9, hn9⟩ : ∃ n, n = work.length := ⟨_, rfl⟩
 rw [← hn9]
 rw [← hn9] at hcw
 obtain ⟨n10, hn10⟩ : ∃ n, n = recov.length := ⟨_, rfl⟩
 rw [← hn10]
 rw [← hn10] at hcv
 obtain ⟨nr, hnr⟩ : ∃ n, n = rs.length := ⟨_, rfl⟩
 rw [← hnr]
 rw [← hnr] at hcr
 obtain ⟨ni, hni⟩ : ∃ n, n = is.length := ⟨_, rfl⟩
 rw [← hni]
 rw [← hni] at hci
 have n7i : (n7 : Int) ≤ 60000 := by omega
 have n8i : (n8 : Int) ≤ 60000 := by omega
 have hszi : szI inits ≤ 60000 := by omega
 have hszp : szPr procs ≤ 60000 := by omega
 obtain ⟨W1, hW1⟩ : ∃ W, (w.alloc (.cells #[.int .i64 bl, .int .i64 wd, .slice A2 n2 c2, .slice A3 n3 c3, .slice A4 n4 c4, .slice A5 n5 c5, .int .u8 rk, .int .u8 ro, .int .u32 rv, .int .i64 rwd, .string rn, .slice rA nr rc, .slice A7 n7 c7, .slice A8 n8 c8, .slice A9 n9 c9, .slice A10 n10 c10, .int .u8 ik, .int .u8 io, .int .u32 iv, .int .i64 iwd, .string inn, .slice iA ni ic] 35)).alloc (.cells #[.int .i64 0, .int .i64 0, .slice none 0 0, .slice none 0 0, .slice none 0 0, .slice none 0 0, .int .i64 0, .int .i64 0, .int .i64 0, .int .i64 0, .string ⟨#[]⟩, .slice none 0 0, .slice none 0 0, .slice none 0 0, .slice none 0 0, .slice none 0 0, .int .i64 0, .int .i64 0, .int .i64 0, .int .i64 0, .string ⟨#[]⟩, .slice none 0 0] 75) = W := ⟨_, rfl⟩
 have hB := ((Below.refl _ w).alloc (Nat.le_refl _) (.cells #[.int .i64 bl, .int .i64 wd, .slice A2 n2 c2, .slice A3 n3 c3, .slice A4 n4 c4, .slice A5 n5 c5, .int .u8 rk, .int .u8 ro, .int .u32 rv, .int .i64 rwd, .string rn, .slice rA nr rc, .slice A7 n7 c7, .slice A8 n8 c8, .slice A9 n9 c9, .slice A10 n10 c10, .int .u8 ik, .int .u8 io, .int .u32 iv, .int .i64 iwd, .string inn, .slice iA ni ic] 35)).alloc (by simp) (.cells #[.int .i64 0, .int .i64 0, .slice none 0 0, .slice none 0 0, .slice none 0 0, .slice none 0 0, .int .i64 0, .int .i64 0, .int .i64 0, .int .i64 0, .string ⟨#[]⟩, .slice none 0 0, .slice none 0 0, .slice none 0 0, .slice none 0 0, .slice none 0 0, .int .i64 0, .int .i64 0, .int .i64 0, .int .i64 0, .string ⟨#[]⟩, .slice none 0 0] 75)
 have hb1 := (Blk.new w 35 #[.int .i64 bl, .int .i64 wd, .slice A2 n2 c2, .slice A3 n3 c3, .slice A4 n4 c4, .slice A5 n5 c5, .int .u8 rk, .int .u8 ro, .int .u32 rv, .int .i64 rwd, .string rn, .slice rA nr rc, .slice A7 n7 c7, .slice A8 n8 c8, .slice A9 n9 c9, .slice A10 n10 c10, .int .u8 ik, .int .u8 io, .int .u32 iv, .int .i64 iwd, .string inn, .slice iA ni ic]).alloc (.cells #[.int .i64 0, .int .i64 0, .slice none 0 0, .slice none 0 0, .slice none 0 0, .slice none 0 0, .int .i64 0, .int .i64 0, .int .i64 0, .int .i64 0, .string ⟨#[]⟩, .slice none 0 0, .slice none 0 0, .slice none 0 0, .slice none 0 0, .slice none 0 0, .int .i64 0, .int .i64 0, .int .i64 0, .int .i64 0, .string ⟨#[]⟩, .slice none 0 0] 75)
 have hb2 := Blk.new (w.alloc (.cells #[.int .i64 bl, .int .i64 wd, .slice A2 n2 c2, .slice A3 n3 c3, .slice A4 n4 c4, .slice A5 n5 c5, .int .u8 rk, .int .u8 ro, .int .u32 rv, .int .i64 rwd, .string rn, .slice rA nr rc, .slice A7 n7 c7, .slice A8 n8 c8, .slice A9 n9 c9, .slice A10 n10 c10, .int .u8 ik, .int .u8 io, .int .u32 iv, .int .i64 iwd, .string inn, .slice iA ni ic] 35)) 75 #[.int .i64 0, .int .i64 0, .slice none 0 0, .slice none 0 0, .slice none 0 0, .slice none 0 0, .int .i64 0, .int .i64 0, .int .i64 0, .int .i64 0, .string ⟨#[]⟩, .slice none 0 0, .slice none 0 0, .slice none 0 0, .slice none 0 0, .slice none 0 0, .int .i64 0, .int .i64 0, .int .i64 0, .int .i64 0, .string ⟨#[]⟩, .slice none 0 0]
 rw [World.size_alloc] at hb2
 rw [hW1] at hB hb1 hb2
 obtain ⟨g1, hg1⟩ : ∃ g, w.heap.size = g := ⟨_, rfl⟩
 obtain ⟨g2, hg2⟩ : ∃ g, w.heap.size + 1 = g := ⟨_, rfl⟩
 rw [hg1] at hb1
 rw [hg2] at hb2
 replace hd2 := Lib.hid hd2
 replace hd3 := Lib.hid hd3
 replace hd4 := Lib.hid hd4
 replace hd5 := Lib.hid hd5
 replace hcr := Lib.hid hcr
 replace hci := Lib.hid hci
 replace hcw := Lib.hid hcw
 replace hcv := Lib.hid hcv
 replace hxr := Lib.hid hxr
 replace hxi := Lib.hid hxi
 replace hn2 := Lib.hid hn2
 replace hn3 := Lib.hid hn3
 replace hn4 := Lib.hid hn4
 replace hn5 := Lib.hid hn5
 replace hn7 := Lib.hid hn7
 replace hn8 := Lib.hid hn8
 replace hn9 := Lib.hid hn9
 replace hn10 := Lib.hid hn10
 replace hnr := Lib.hid hnr
 replace hni := Lib.hid hni
 replace k6 := Lib.hid k6
 replace k7 := Lib.hid k7
 replace s6 := Lib.hid s6
 replace s7 := Lib.hid s7
 replace hszi := Lib.hid hszi
 replace hszp := Lib.hid hszp
 replace hW1 := Lib.hid hW1
 replace hB := Lib.hid hB
 replace hb1 := Lib.hid hb1
 replace hb2 := Lib.hid hb2
 replace hg1 := Lib.hid hg1
 replace hg2 := Lib.hid hg2
 clear k1 k2 k3 k4 k5 k8 k9 k10 s5 s8 s9 s10 hax hay hl7 hl8 hs
 go_enter Tryz.func55, Tryz.ntmps55
 go_upto_region 1 with (fail)
 rw [hW1.out, hg2.out, hg1.out]
 go_cut [3] (fun v3 wx => ∃ (B2 : Option Addr) (d2 : Nat) (B3 : Option Addr) (d3 : Nat) (B4 : Option Addr) (d4 : Nat) (B5 : Option Addr) (d5 : Nat) (qk qo qv qw : Int) (qn : ByteArray) (qA : Option Addr) (qc : Nat) (qs : List (Ex Loc)) (B9 : Option Addr) (d9 : Nat) (work2 : List (St Loc)) (B10 : Option Addr) (d10 : Nat) (recov2 : List (St Loc)) (jk jo jv jw : Int) (jn : ByteArray) (jA : Option Addr) (jc : Nat) (js : List (Ex Loc)) (D : World → Prop) (bs : List Nat) (g3 : Nat), v3 = .pointer (some ⟨g3, 0, none⟩) ∧ Blk wx g3 75 #[.int .i64 bl, .int .i64 wd, .slice B2 n2 d2, .slice B3 n3 d3, .slice B4 n4 d4, .slice B5 n5 d5, .int .i64 qk, .int .i64 qo, .int .i64 qv, .int .i64 qw, .string qn, .slice qA qs.length qc, .slice none 0 0, .slice none 0 0, .slice B9 work2.length d9, .slice B10 recov2.length d10, .int .i64 jk, .int .i64 jo, .int .i64 jv, .int .i64 jw, .string jn, .slice jA js.length jc] ∧ Acc D bs wx ∧ (∀ W, D W → PBeg W W1.heap.size (Pg.mk bl wd ⟨B2, d2⟩ ins ⟨B3, d3⟩ gh ⟨B4, d4⟩ va ⟨B5, d5⟩ ar (Ex.mk ⟨qk, qo, qv, qw, qn⟩ (⟨qA, qc⟩ : Loc) qs) ⟨none, 0⟩ [] ⟨none, 0⟩ [] ⟨B9, d9⟩ work2 ⟨B10, d10⟩ recov2 (Ex.mk ⟨jk, jo, jv, jw, jn⟩ (⟨jA, jc⟩ : Loc) js))) ∧ g3 ∉ bs ∧ W1.heap.size ≤ g3 ∧ (Ex.mk ⟨qk, qo, qv, qw, qn⟩ (⟨qA, qc⟩ : Loc) qs).plain = xr.plain ∧ plainS work2 = plainS work ∧ plainS recov2 = plainS recov ∧ (Ex.mk ⟨jk, jo, jv, jw, jn⟩ (⟨jA, jc⟩ : Loc) js).plain = xi.plain ∧ Below W1.heap.size W1 wx)
 case first =>
  have hby := hb1.out
  have hBd := (Below.refl W1.heap.size W1).drew
  have hL : ∀ W, Below W1.heap.size W1 W → ∀ i, W.cell? ⟨g1, i, none⟩ = (#[.int .i64 bl, .int .i64 wd, .slice A2 n2 c2, .slice A3 n3 c3, .slice A4 n4 c4, .slice A5 n5 c5, .int .u8 rk, .int .u8 ro, .int .u32 rv, .int .i64 rwd, .string rn, .slice rA nr rc, .slice A7 n7 c7, .slice A8 n8 c8, .slice A9 n9 c9, .slice A10 n10 c10, .int .u8 ik, .int .u8 io, .int .u32 iv, .int .i64 iwd, .string inn, .slice iA ni ic] : Array Value)[i]? := fun W h i => (hby.below h hby.lt).cell i
  refine wp_region_held (S := fun W => Below W1.heap.size W1 W) (by kernel_rfl) ?_
  change wpAnyH _ _ _ _ _ _ _ _ (World.drew _)
  refine takes [0, 2, 4, 7, 10, 13, 16, 19, 22, 25, 1, 3, 5, 8, 11, 14, 17, 20, 23, 26] (fuel := 11) (by kernel_rfl) (fun _ _ _ _ h => h) hBd (by kernel_rfl) (fun K hK => ?_)
  clear hb1 hb2
  replace hL := Lib.hid hL
  replace hby := Lib.hid hby
  replace hBd := Lib.hid hBd
  repeat (refine TakesG.cons rfl (v := ?_) ?_ ?_; rotate_left; (· intro wz hSw; have hz := hL.out wz hSw; clear hSw; go_simp; try with_reducible rfl); simp only [Act.put, List.setIfInBounds_toArray, List.set_cons_zero, List.set_cons_succ])
  refine hK.out _ ?_
  clear hK K hL
  refine bag_any [6, 9, 12, 15, 18, 21, 24, 27, 28, 29] [some 14, some 17, some 20, some 23, some 26, some 29, some 32, some 35, some 36, some 3] [bDc 6 0 139 ins n2, bDc 9 1 139 gh n3, bDc 12 2 139 va n4, bDc 15 3 139 ar n5, bEx 18 4 eR xr.plain, bSt 21 5 eR (plainS work), bSt 24 6 eR (plainS recov), bEx 27 7 eR xi.plain, bVal 28 [0, 1, 2, 3, 4, 5, 6, 7] (fun x => x 8 = .agg #[.int .i64 bl, .int .i64 wd, x 0, x 1, x 2, x 3, fld (x 4) 0, fld (x 4) 1, fld (x 4) 2, fld (x 4) 3, fld (x 4) 4, fld (x 4) 5, .slice none 0 0, .slice none 0 0, x 5, x 6, fld (x 7) 0, fld (x 7) 1, fld (x 7) 2, fld (x 7) 3, fld (x 7) 4, fld (x 7) 5]), bNw 29 9 75 #[.int .i64 0, .int .i64 0, .slice none 0 0, .slice none 0 0, .slice none 0 0, .slice none 0 0, .int .i64 0, .int .i64 0, .int .i64 0, .int .i64 0, .string ⟨#[]⟩, .slice none 0 0, .slice none 0 0, .slice none 0 0, .slice none 0 0, .slice none 0 0, .int .i64 0, .int .i64 0, .int .i64 0, .int .i64 0, .string ⟨#[]⟩, .slice none 0 0]] (fuel := 1) rfl rfl (by kernel_rfl) (fun W h => hBd.out.trans h)
   ((.cons rfl rfl (fun x lo hi W hW hd K hK => ?_) (.cons rfl rfl (fun x lo hi W hW hd K hK => ?_) (.cons rfl rfl (fun x lo hi W hW hd K hK => ?_) (.cons rfl rfl (fun x lo hi W hW hd K hK => ?_) (.cons rfl rfl (fun x lo hi W hW hd K hK => ?_) (.cons rfl rfl (fun x lo hi W hW hd K hK => ?_) (.cons rfl rfl (fun x lo hi W hW hd K hK => ?_) (.cons rfl rfl (fun x lo hi W hW hd K hK => ?_) (.cons rfl rfl (fun x lo hi W hW hd K hK => ?_) (.cons rfl rfl (fun x lo hi W hW hd K hK => ?_) .nil))))))))))) ?_
  all_goals (try (simp only [bagAct, puts, Act.put, List.setIfInBounds_toArray, List.set_cons_zero, List.set_cons_succ] at hK ⊢; go_simp))
  ·refine (hd2.out W (below_and hB.out.drew hW)).mono ?_
   rintro e W' ⟨⟨A, c, rfl, ho⟩, hb⟩
   exact hK.out _ _ hb ⟨A, c, rfl, ho, fun b hb => (own_ge (l := ⟨A, c⟩) ho b hb).2⟩
  ·refine (hd3.out W (below_and hB.out.drew hW)).mono ?_
   rintro e W' ⟨⟨A, c, rfl, ho⟩, hb⟩
   exact hK.out _ _ hb ⟨A, c, rfl, ho, fun b hb => (own_ge (l := ⟨A, c⟩) ho b hb).2⟩
  ·refine (hd4.out W (below_and hB.out.drew hW)).mono ?_
   rintro e W' ⟨⟨A, c, rfl, ho⟩, hb⟩
   exact hK.out _ _ hb ⟨A, c, rfl, ho, fun b hb => (own_ge (l := ⟨A, c⟩) ho b hb).2⟩
  ·refine (hd5.out W (below_and hB.out.drew hW)).mono ?_
   rintro e W' ⟨⟨A, c, rfl, ho⟩, hb⟩
   exact hK.out _ _ hb ⟨A, c, rfl, ho, fun b hb => (own_ge (l := ⟨A, c⟩) ho b hb).2⟩
  ·refine (hcr.out W (below_and hB.out.drew hW)).mono ?_
   rintro e W' ⟨⟨k, o, v, wd, n, A, c, s, rfl, hp, ho⟩, hb⟩
   exact hK.out _ _ hb ⟨Ex.mk ⟨k, o, v, wd, n⟩ (⟨A, c⟩ : Loc) s, rfl, hp, ho, fun b hb => (ho.ge b hb).2⟩
  ·refine (hcw.out W (below_and hB.out.drew hW)).mono ?_
   rintro e W' ⟨⟨A, c, os, rfl, hp, ho⟩, hb⟩
   exact hK.out _ _ hb ⟨A, c, os, rfl, hp, ho, fun b hb => (ho.ge b hb).2⟩
  ·refine (hcv.out W (below_and hB.out.drew hW)).mono ?_
   rintro e W' ⟨⟨A, c, os, rfl, hp, ho⟩, hb⟩
   exact hK.out _ _ hb ⟨A, c, os, rfl, hp, ho, fun b hb => (ho.ge b hb).2⟩
  ·refine (hci.out W (below_and hB.out.drew hW)).mono ?_
   rintro e W' ⟨⟨k, o, v, wd, n, A, c, s, rfl, hp, ho⟩, hb⟩
   exact hK.out _ _ hb ⟨Ex.mk ⟨k, o, v, wd, n⟩ (⟨A, c⟩ : Loc) s, rfl, hp, ho, fun b hb => (ho.ge b hb).2⟩
  ·obtain ⟨A0, c0, e0, -⟩ : dcR _ _ _ (x 0) _ _ W := (hd 0 _ rfl rfl).2.2
   obtain ⟨A1, c1, e1, -⟩ : dcR _ _ _ (x 1) _ _ W := (hd 1 _ rfl rfl).2.2
   obtain ⟨A2, c2, e2, -⟩ : dcR _ _ _ (x 2) _ _ W := (hd 2 _ rfl rfl).2.2
   obtain ⟨A3, c3, e3, -⟩ : dcR _ _ _ (x 3) _ _ W := (hd 3 _ rfl rfl).2.2
   obtain ⟨⟨⟨k, o, v, wd, n⟩, ⟨A4, c4⟩, s4⟩, e4, -⟩ : exR _ _ (x 4) _ _ W := (hd 4 _ rfl rfl).2.2
   obtain ⟨A5, c5, s5, e5, -⟩ : stR _ _ (x 5) _ _ W := (hd 5 _ rfl rfl).2.2
   obtain ⟨A6, c6, s6, e6, -⟩ : stR _ _ (x 6) _ _ W := (hd 6 _ rfl rfl).2.2
   obtain ⟨⟨⟨k', o', v', wd', n'⟩, ⟨A7, c7⟩, s7⟩, e7, -⟩ : exR _ _ (x 7) _ _ W := (hd 7 _ rfl rfl).2.2
   clear hd
   simp only [Ex.cells, eR] at e4 e7
   go_simp
   simp only [e0, e1, e2, e3, e4, e5, e6, e7] at hK
   exact hK.out _ _ (Below.refl _ _) (by simp [bVal, seen, upd, fld, e0, e1, e2, e3, e4, e5, e6, e7])
  ·exact hK.out _ _ (new_below W _) (nwR_new W _ _)
  ·intro x lo hi W hE hBW
   have hl := fun k o h => (hE.f k o h).1
   obtain ⟨B2, d2, e0, o0, u0⟩ : dcR _ _ _ (x 0) (lo 0) (hi 0) W := (hE.f 0 _ rfl).2.2
   obtain ⟨B3, d3, e1, o1, u1⟩ : dcR _ _ _ (x 1) (lo 1) (hi 1) W := (hE.f 1 _ rfl).2.2
   obtain ⟨B4, d4, e2, o2, u2⟩ : dcR _ _ _ (x 2) (lo 2) (hi 2) W := (hE.f 2 _ rfl).2.2
   obtain ⟨B5, d5, e3, o3, u3⟩ : dcR _ _ _ (x 3) (lo 3) (hi 3) W := (hE.f 3 _ rfl).2.2
   obtain ⟨⟨⟨qk, qo, qv, qw, qn⟩, ⟨qA, qc⟩, qs⟩, e4, p4, o4, u4⟩ : exR _ _ (x 4) (lo 4) (hi 4) W := (hE.f 4 _ rfl).2.2
   obtain ⟨B9, d9, work2, e5, p5, o5, u5⟩ : stR _ _ (x 5) (lo 5) (hi 5) W := (hE.f 5 _ rfl).2.2
   obtain ⟨B10, d10, recov2, e6, p6, o6, u6⟩ : stR _ _ (x 6) (lo 6) (hi 6) W := (hE.f 6 _ rfl).2.2
   obtain ⟨⟨⟨jk, jo, jv, jw, jn⟩, ⟨jA, jc⟩, js⟩, e7, p7, o7, u7⟩ : exR _ _ (x 7) (lo 7) (hi 7) W := (hE.f 7 _ rfl).2.2
   have e8 := (hE.f 8 _ rfl).2.2
   obtain ⟨g3, e9, hG, l9, u9⟩ : nwR _ _ (x 9) (lo 9) (hi 9) W := (hE.f 9 _ rfl).2.2
   simp only [Ex.cells, eR] at e4 e7
   simp [BagFact, bVal, seen, fld, e0, e1, e2, e3, e4, e5, e6, e7] at e8
   simp only [bagAct, puts, List.setIfInBounds_toArray, List.set_cons_zero, List.set_cons_succ]
   have hlo : W1.heap.size ≤ lo 9 := (hE.f 9 _ rfl).1
   have hA := Acc.mk ((keep_row W1.heap.size 139 3 n2 ⟨B2, d2⟩ (cellsD ins)).and ((keep_row W1.heap.size 139 3 n3 ⟨B3, d3⟩ (cellsD gh)).and ((keep_row W1.heap.size 139 3 n4 ⟨B4, d4⟩ (cellsD va)).and ((keep_row W1.heap.size 139 3 n5 ⟨B5, d5⟩ (cellsD ar)).and ((keep_ex eR W1.heap.size (Ex.mk ⟨qk, qo, qv, qw, qn⟩ (⟨qA, qc⟩ : Loc) qs)).and ((keep_lst eR W1.heap.size ⟨B9, d9⟩ work2).and ((keep_lst eR W1.heap.size ⟨B10, d10⟩ recov2).and (keep_ex eR W1.heap.size (Ex.mk ⟨jk, jo, jv, jw, jn⟩ (⟨jA, jc⟩ : Loc) js)))))))))
    ⟨own_base o0 (hE.f 0 _ rfl).1, own_base o1 (hE.f 1 _ rfl).1, own_base o2 (hE.f 2 _ rfl).1, own_base o3 (hE.f 3 _ rfl).1, o4.base_le (hE.f 4 _ rfl).1, o5.base_le (hE.f 5 _ rfl).1, o6.base_le (hE.f 6 _ rfl).1, o7.base_le (hE.f 7 _ rfl).1⟩
   have hn : g3 ∉ (Loc.mk B2 d2).fp ++ ((Loc.mk B3 d3).fp ++ ((Loc.mk B4 d4).fp ++ ((Loc.mk B5 d5).fp ++ ((Ex.mk ⟨qk, qo, qv, qw, qn⟩ (⟨qA, qc⟩ : Loc) qs).fp ++ (Lst.fp ⟨B9, d9⟩ work2 ++ (Lst.fp ⟨B10, d10⟩ recov2 ++ (Ex.mk ⟨jk, jo, jv, jw, jn⟩ (⟨jA, jc⟩ : Loc) js).fp)))))) := by
    simp only [List.mem_append, not_or]
    exact ⟨fun h => hE.apart 0 9 rfl (own_ge (l := ⟨B2, d2⟩) o0 _ h).1 (u0 _ h) l9 u9 rfl, fun h => hE.apart 1 9 rfl (own_ge (l := ⟨B3, d3⟩) o1 _ h).1 (u1 _ h) l9 u9 rfl, fun h => hE.apart 2 9 rfl (own_ge (l := ⟨B4, d4⟩) o2 _ h).1 (u2 _ h) l9 u9 rfl, fun h => hE.apart 3 9 rfl (own_ge (l := ⟨B5, d5⟩) o3 _ h).1 (u3 _ h) l9 u9 rfl, fun h => hE.apart 4 9 rfl (o4.ge _ h).1 (u4 _ h) l9 u9 rfl, fun h => hE.apart 5 9 rfl (o5.ge _ h).1 (u5 _ h) l9 u9 rfl, fun h => hE.apart 6 9 rfl (o6.ge _ h).1 (u6 _ h) l9 u9 rfl, fun h => hE.apart 7 9 rfl (o7.ge _ h).1 (u7 _ h) l9 u9 rfl⟩
   replace hA := Lib.hid hA
   simp only [e0, e1, e2, e3, e4, e5, e6, e7, e8, e9]
   refine putH 30 rfl (by kernel_rfl) (.tmp 3) (.tmp 36) rfl rfl g3 #[.int .i64 bl, .int .i64 wd, .slice B2 n2 d2, .slice B3 n3 d3, .slice B4 n4 d4, .slice B5 n5 d5, .int .i64 qk, .int .i64 qo, .int .i64 qv, .int .i64 qw, .string qn, .slice qA qs.length qc, .slice none 0 0, .slice none 0 0, .slice B9 work2.length d9, .slice B10 recov2.length d10, .int .i64 jk, .int .i64 jo, .int .i64 jv, .int .i64 jw, .string jn, .slice jA js.length jc] hG rfl rfl rfl (by kernel_rfl) (by simp [Value.oneCell']) (fun W' hN ho => ?_)
   have hB' := hBW.trans (ho.below (B := W1.heap.size) hBW.size (by simp; omega))
   refine ⟨hB', wpAnyH_done (by kernel_rfl) ?_ _⟩
   replace hN := Lib.hid hN
   replace hA := Lib.hid (hA.out.only ho hn)
   replace hn := Lib.hid hn
   clear hE e0 e1 e2 e3 e4 e5 e6 e7 e8 e9 ho
   go_wp2_with fail
   go_meet
   exact ⟨B2, d2, B3, d3, B4, d4, B5, d5, qk, qo, qv, qw, qn, qA, qc, qs, B9, d9, work2, B10, d10, recov2, jk, jo, jv, jw, jn, jA, jc, js, _, _, g3, rfl, hN.out, hA.out, fun W h => ⟨by rw [← hn2.out]; exact h.1, by rw [← hn3.out]; exact h.2.1, by rw [← hn4.out]; exact h.2.2.1, by rw [← hn5.out]; exact h.2.2.2.1, h.2.2.2.2.1, h.2.2.2.2.2.1, h.2.2.2.2.2.2.1, h.2.2.2.2.2.2.2⟩, hn.out, by omega, p4, p5, p6, p7, hB'⟩
 case rest =>
  obtain ⟨B2, d2, B3, d3, B4, d4, B5, d5, qk, qo, qv, qw, qn, qA, qc, qs, B9, d9, work2, B10, d10, recov2, jk, jo, jv, jw, jn, jA, jc, js, D, bs, g3, rfl, hbg, hA, hPB, hg3n, hg3l, hpq, hpw, hpv, hpj, hB5⟩ := hcut
  rename World => W5
  have hg35 := hbg.lt
  have hbsl := hA.lt
  have hby5 := hb1.out.below hB5 hb1.out.lt
  have v12 := hby5.cell 12
  simp only [List.getElem?_toArray, List.getElem?_cons_zero, List.getElem?_cons_succ] at v12
  have hyl := hby5.lt
  obtain ⟨i0, hi, hz0, hz1, hz2⟩ := info_parts infoRI
  obtain ⟨i1, hi', hz0', hz1', hz2'⟩ := info_parts infoRP
  replace hbg := Lib.hid hbg
  replace hA := Lib.hid hA
  replace hPB := Lib.hid hPB
  replace hg3n := Lib.hid hg3n
  replace hpq := Lib.hid hpq
  replace hpw := Lib.hid hpw
  replace hpv := Lib.hid hpv
  replace hpj := Lib.hid hpj
  replace hB5 := Lib.hid hB5
  replace hbsl := Lib.hid hbsl
  replace hby5 := Lib.hid hby5
  replace hi := Lib.hid hi
  replace hz0 := Lib.hid hz0
  replace hz1 := Lib.hid hz1
  replace hz2 := Lib.hid hz2
  replace hi' := Lib.hid hi'
  replace hz0' := Lib.hid hz0'
  replace hz1' := Lib.hid hz1'
  replace hz2' := Lib.hid hz2'
  clear hd2 hd3 hd4 hd5 hcr hcw hcv hci
  go_wp2_with fail
  clear v12 hyl
  go_loopw [40] (fun v40 wr => ∃ (j : Nat) (A' : Option Addr) (c' : Nat) (xs : List (In Loc)), v40 = .int .i64 j ∧ j ≤ n7 ∧ xs.length = j ∧ xs.map In.plain = (inits.take j).map In.plain ∧ Blk wr g3 75 #[.int .i64 bl, .int .i64 wd, .slice B2 n2 d2, .slice B3 n3 d3, .slice B4 n4 d4, .slice B5 n5 d5, .int .i64 qk, .int .i64 qo, .int .i64 qv, .int .i64 qw, .string qn, .slice qA qs.length qc, .slice A' j c', .slice none 0 0, .slice B9 work2.length d9, .slice B10 recov2.length d10, .int .i64 jk, .int .i64 jo, .int .i64 jv, .int .i64 jw, .string jn, .slice jA js.length jc] ∧ Acc D bs wr ∧ RowB (ownIR W5.heap.size) fpIR (In.cells eR) W5.heap.size 125 7 ⟨A', c'⟩ xs wr ∧ Below W1.heap.size W1 wr ∧ W5.heap.size ≤ wr.heap.size) (fun v40 _ => n7 - (intOf v40).toNat)
  case atStart => exact ⟨0, none, 0, [], rfl, Nat.zero_le _, rfl, rfl, hbg.out, hA.out, RowB.nil _ _ _ _ _ _ _, hB5.out, Nat.le_refl _⟩
  case round =>
   obtain ⟨j, A', c', xs, rfl, hj, hlj, hpjj, hbeg, hAj, hXx, hB6, hW6⟩ := hrel
   have j0 : 0 ≤ (j : Int) := by omega
   by_cases hjl : j < n7
   ·have hy : inits[j]? = some (inits[j]'(by have := hn7.out; omega)) := List.getElem?_eq_getElem (by have := hn7.out; omega)
    generalize inits[j]'(by have := hn7.out; omega) = y at hy
    have hymem := List.mem_of_getElem? hy
    obtain ⟨ad2, hA2, _, hyok, hcy⟩ := (k6.out.keep (keeps_below (below_and hB.out hB6)) (fun _ _ => trivial)).at hy
    have hcall := fun w2 (h2 : Below wr.heap.size wr w2) => theirX y.val w2 (hyok.below h2) (s6.out y hymem) (by have := szI_mem hymem; have := hszi.out; omega)
    have hnexty : (inits.take (j + 1)).map In.plain = (inits.take j).map In.plain ++ [y.plain] := by
     obtain ⟨q1, q2⟩ := List.getElem?_eq_some_iff.1 hy
     rw [List.take_succ_eq_append_getElem q1, q2, List.map_append]
     rfl
    obtain ⟨yb, ⟨⟨yk, yo, yv, yw, yn⟩, ⟨yA, yc⟩, ys⟩⟩ := y
    obtain ⟨d0, e1, e2, e3, e4, e5, e6⟩ := CellsAt.c7 hcy
    dsimp only at hA2 hcall
    simp only [aggX, Ex.cells, eT] at e1 e2 e3 hcall
    subst hA2
    have j1 : (j : Int) < (n7 : Int) := by omega
    have hab := cell_lt d0
    have hBz := (Below.refl _ wr).alloc (Nat.le_refl _) (.cells #[.int .i64 yb, .int .u8 yk, .int .u8 yo, .int .u32 yv, .int .i64 yw, .string yn, .slice yA ys.length yc] 62)
    have hbz := Blk.new wr 62 #[.int .i64 yb, .int .u8 yk, .int .u8 yo, .int .u32 yv, .int .i64 yw, .string yn, .slice yA ys.length yc]
    obtain ⟨gz, hgz⟩ : ∃ g, wr.heap.size = g := ⟨_, rfl⟩
    rw [hgz] at hbz
    have hX8 := hXx.ge
    replace hX8 := Lib.hid hX8
    replace hbz := Lib.hid hbz
    replace hgz := Lib.hid hgz
    replace hnexty := Lib.hid hnexty
    replace hy := Lib.hid hy
    replace hcall := Lib.hid hcall
    replace hBz := Lib.hid hBz
    replace hbeg := Lib.hid hbeg
    replace hXx := Lib.hid hXx
    replace hpjj := Lib.hid hpjj
    replace hlj := Lib.hid hlj
    replace hAj := Lib.hid hAj
    clear hyok hcy
    go_upto_region 5 with (fail)
    generalize wr.alloc (.cells #[.int .i64 yb, .int .u8 yk, .int .u8 yo, .int .u32 yv, .int .i64 yw, .string yn, .slice yA ys.length yc] 62) = Wy at *
    rw [hgz.out]
    clear d0 e1 e2 e3 e4 e5 e6 hab
    have hBd := below_and hBz.out ((Below.refl _ Wy).drew)
    have hc := Lib.hid (hcall.out _ hBd)
    have hbx := hbeg.out.below hBz.out hbeg.out.lt
    have hbd := Lib.hid (hbeg.out.below hBd hbeg.out.lt)
    have hbzd := Lib.hid (hbz.out.below ((Below.refl _ Wy).drew) hbz.out.lt)
    have hXd := Lib.hid (hXx.out.new (keepIR _) hBd)
    have hAd := Lib.hid (hAj.out.new hBd)
    have hBe := Lib.hid (below_and hB6 hBd)
    have hrs1 : wr.heap.size ≤ Wy.drew.heap.size := hBd.size
    clear hcall hbeg hXx hBd hB6 hAj
    obtain ⟨S, hSi, hSe⟩ : ∃ S : World → Prop, (∀ W, (W.cell? ⟨g3, 12, none⟩ = some (.slice A' j c') ∧ W.cell? ⟨gz, 0, none⟩ = some (.int .i64 yb) ∧ W.cell? ⟨gz, 1, none⟩ = some (.int .u8 yk) ∧ W.cell? ⟨gz, 2, none⟩ = some (.int .u8 yo) ∧ W.cell? ⟨gz, 3, none⟩ = some (.int .u32 yv) ∧ W.cell? ⟨gz, 4, none⟩ = some (.int .i64 yw) ∧ W.cell? ⟨gz, 5, none⟩ = some (.string yn) ∧ W.cell? ⟨gz, 6, none⟩ = some (.slice yA ys.length yc)) → S W) ∧ (∀ W, S W → (W.cell? ⟨g3, 12, none⟩ = some (.slice A' j c') ∧ W.cell? ⟨gz, 0, none⟩ = some (.int .i64 yb) ∧ W.cell? ⟨gz, 1, none⟩ = some (.int .u8 yk) ∧ W.cell? ⟨gz, 2, none⟩ = some (.int .u8 yo) ∧ W.cell? ⟨gz, 3, none⟩ = some (.int .u32 yv) ∧ W.cell? ⟨gz, 4, none⟩ = some (.int .i64 yw) ∧ W.cell? ⟨gz, 5, none⟩ = some (.string yn) ∧ W.cell? ⟨gz, 6, none⟩ = some (.slice yA ys.length yc))) := ⟨fun W => W.cell? ⟨g3, 12, none⟩ = some (.slice A' j c') ∧ W.cell? ⟨gz, 0, none⟩ = some (.int .i64 yb) ∧ W.cell? ⟨gz, 1, none⟩ = some (.int .u8 yk) ∧ W.cell? ⟨gz, 2, none⟩ = some (.int .u8 yo) ∧ W.cell? ⟨gz, 3, none⟩ = some (.int .u32 yv) ∧ W.cell? ⟨gz, 4, none⟩ = some (.int .i64 yw) ∧ W.cell? ⟨gz, 5, none⟩ = some (.string yn) ∧ W.cell? ⟨gz, 6, none⟩ = some (.slice yA ys.length yc), fun _ h => h, fun _ h => h⟩
    have hS : S Wy.drew := hSi _ ⟨hbx.cell 12, hbz.out.cell 0, hbz.out.cell 1, hbz.out.cell 2, hbz.out.cell 3, hbz.out.cell 4, hbz.out.cell 5, hbz.out.cell 6⟩
    replace hSi := Lib.hid hSi
    replace hSe := Lib.hid hSe
    refine wp_region_T (S := S) (St := [11]) (by kernel_rfl) ?_
    change wpAnyT _ _ _ _ _ _ _ _ _ (World.drew _)
    refine pureT 0 (v := ?_) rfl (by kernel_rfl) (by kernel_rfl) (by kernel_rfl) (by kernel_rfl) (fun _ _ _ h => h) (by rfl) (fun _ => hS) ?_ ?_
    rotate_left
    ·(intro wz; go_simp; try with_reducible rfl)
    try simp only [Act.put, List.setIfInBounds_toArray, List.set_cons_zero, List.set_cons_succ]
    refine pureT 2 (v := ?_) rfl (by kernel_rfl) (by kernel_rfl) (by kernel_rfl) (by kernel_rfl) (fun _ _ _ h => h) (by rfl) (fun _ => hS) ?_ ?_
    rotate_left
    ·(intro wz; go_simp; try with_reducible rfl)
    try simp only [Act.put, List.setIfInBounds_toArray, List.set_cons_zero, List.set_cons_succ]
    refine pureT 4 (v := ?_) rfl (by kernel_rfl) (by kernel_rfl) (by kernel_rfl) (by kernel_rfl) (fun _ _ _ h => h) (by rfl) (fun _ => hS) ?_ ?_
    rotate_left
    ·(intro wz; go_simp; try with_reducible rfl)
    try simp only [Act.put, List.setIfInBounds_toArray, List.set_cons_zero, List.set_cons_succ]
    refine takeT 1 (v := .slice A' j c') rfl (by kernel_rfl) (by kernel_rfl) (by kernel_rfl) (by kernel_rfl) (fun _ _ _ h => h) (by rfl) hS ?_ ?_
    ·(intro wz hSw; obtain ⟨z0, z1, z2, z3, z4, z5, z6, z7⟩ := hSe.out _ hSw; go_simp)
    try simp only [Act.put, List.setIfInBounds_toArray, List.set_cons_zero, List.set_cons_succ]
    refine takeT 3 (v := .int .i64 yb) rfl (by kernel_rfl) (by kernel_rfl) (by kernel_rfl) (by kernel_rfl) (fun _ _ _ h => h) (by rfl) hS ?_ ?_
    ·(intro wz hSw; obtain ⟨z0, z1, z2, z3, z4, z5, z6, z7⟩ := hSe.out _ hSw; go_simp)
    try simp only [Act.put, List.setIfInBounds_toArray, List.set_cons_zero, List.set_cons_succ]
    refine takeT 5 (v := .agg #[.int .u8 yk, .int .u8 yo, .int .u32 yv, .int .i64 yw, .string yn, .slice yA ys.length yc]) rfl (by kernel_rfl) (by kernel_rfl) (by kernel_rfl) (by kernel_rfl) (fun _ _ _ h => h) (by rfl) hS ?_ ?_
    ·(intro wz hSw; obtain ⟨z0, z1, z2, z3, z4, z5, z6, z7⟩ := hSe.out _ hSw; go_simp)
    try simp only [Act.put, List.setIfInBounds_toArray, List.set_cons_zero, List.set_cons_succ]
    refine callT 6 rfl (by kernel_rfl) (fun K hK => ?_)
    go_simp
    go_wp2_with (go_at_call 62; refine hc.out.mono ?_; rintro e V1 ⟨⟨zk, zo, zv, zw, zn, zA, zc, zs, rfl, hzp, hzo⟩, hB2⟩)
    have hbe2 := hbd.out.below hB2 hbd.out.lt
    have hbze := hbzd.out.below hB2 hbzd.out.lt
    have hXe := hXd.out.new (keepIR _) hB2
    have hAe := hAd.out.new hB2
    have hBf := below_and hBe.out hB2
    have hs1 := hB2.size
    refine hK.out _ _ (hSi.out _ ⟨hbe2.cell 12, hbze.cell 0, hbze.cell 1, hbze.cell 2, hbze.cell 3, hbze.cell 4, hbze.cell 5, hbze.cell 6⟩) (fun hSn => ?_)
    clear hK K hS
    have hS := hSn
    clear hSn
    refine pureT 7 (v := ?_) rfl (by kernel_rfl) (by kernel_rfl) (by kernel_rfl) (by kernel_rfl) (fun _ _ _ h => h) (by rfl) (fun _ => hS) ?_ ?_
    rotate_left
    ·(intro wz; go_simp; try with_reducible rfl)
    try simp only [Act.put, List.setIfInBounds_toArray, List.set_cons_zero, List.set_cons_succ]
    refine callT 8 rfl (by kernel_rfl) (fun K hK => ?_)
    go_simp
    have hBq := (Below.refl _ V1).alloc (Nat.le_refl _) (.cells #[.int .i64 yb, .int .i64 zk, .int .i64 zo, .int .i64 zv, .int .i64 zw, .string zn, .slice zA zs.length zc] 125)
    have hbe3 := hbe2.below hBq hbe2.lt
    have hbzf := hbze.below hBq hbze.lt
    have hXf := hXe.new (keepIR _) hBq
    have hAf := hAe.new hBq
    have hBg := below_and hBf hBq
    have hzf := hzo.keep (only_of_below [] hBq) (by simp)
    have hrd := Reads.of_own (World.ownsRow_lit (base := V1.heap.size) (e := 125) (size := 7) V1 #[.int .i64 yb, .int .i64 zk, .int .i64 zo, .int .i64 zv, .int .i64 zw, .string zn, .slice zA zs.length zc] 1 (Nat.le_refl _) (by simp [maxLen]) rfl)
    have hs2 := hBq.size
    refine hK.out _ _ (hSi.out _ ⟨hbe3.cell 12, hbzf.cell 0, hbzf.cell 1, hbzf.cell 2, hbzf.cell 3, hbzf.cell 4, hbzf.cell 5, hbzf.cell 6⟩) (fun hSn => ?_)
    clear hK K hS
    have hS := hSn
    clear hSn
    refine callT 9 rfl (by kernel_rfl) (fun K hK => ?_)
    generalize (V1.alloc (.cells #[.int .i64 yb, .int .i64 zk, .int .i64 zo, .int .i64 zv, .int .i64 zw, .string zn, .slice zA zs.length zc] 125)) = V2 at *
    refine step_append_any (w := V2) (by rfl) (.tmp 45) (.tmp 52) 71 (by rfl) W5.heap.size 125 i0 _ 7 80 Tryz.underlying71 hi.out hz0.out hz1.out hz2.out rfl (by omega) (.slice A' j c') j (cellsI eR xs) (by rfl) (by have h1 := hXf.row; dsimp only at h1; rw [hlj.out] at h1; exact h1) _ (some ⟨V1.heap.size, 0, none⟩) 1 1 (cellsI eR [(In.mk yb (Ex.mk ⟨zk, zo, zv, zw, zn⟩ (⟨zA, zc⟩ : Loc) zs))]) (by rfl) (by have h2 := hrd; simpa [cellsI, In.cells, Ex.cells, eR] using h2) (cellsI_one _ _) (by simp only [maxLen]; omega) (by omega) (by omega) ?_
    intro v8 V3 hown8 hg8 hb8
    obtain ⟨A2', cc2, rfl, hX2⟩ := RowB.append (x := (In.mk yb (Ex.mk ⟨zk, zo, zv, zw, zn⟩ (⟨zA, zc⟩ : Loc) zs))) hlj.out hXf (keepIR _) (hzf.base_le (by omega)) (fun b hb hm => by have h1 := (hX8.out b hb).2; have h2 := (hzo.ge b hm).1; omega) hown8 hg8 hb8
    have hne : ∀ b, (Value.slice A' j c').ownBlock = some b → W5.heap.size ≤ b := fun b hb => (hXf.ge b ((own_fp ⟨A', c'⟩ j b).2 hb)).1
    have hbg3 := hbe3.grown hg8 (fun e => by have := hne g3 e.symm; omega)
    have hAg := hAf.grown hg8 (fun b hb hm => by have := hne b hb; have := hbsl.out b hm; omega)
    have hbzg := hbzf.grown hg8 (fun e => by have h1 := (own_fp ⟨A', c'⟩ j gz).2 e.symm; have h2 := hX8.out gz h1; have h3 := hgz.out; omega)
    have hBh := hBg.grown hg8 (by have := hBg.size; omega) (fun q hq => by have := hne q hq; omega)
    have g3c := hbg3.cell 12
    have f3c := hbg3.frozen 12
    have l3c := hbg3.lt
    have hsz3 : V2.heap.size ≤ V3.heap.size := hg8.size
    have ho3 : Only [g3] V3 (V3.setCell ⟨g3, 12, none⟩ (.slice A2' (j + 1) cc2)) := (Only.refl [g3] V3).setCell (.inl (by simp)) _
    have hst3 : Blk (V3.setCell ⟨g3, 12, none⟩ (.slice A2' (j + 1) cc2)) g3 75 #[.int .i64 bl, .int .i64 wd, .slice B2 n2 d2, .slice B3 n3 d3, .slice B4 n4 d4, .slice B5 n5 d5, .int .i64 qk, .int .i64 qo, .int .i64 qv, .int .i64 qw, .string qn, .slice qA qs.length qc, .slice A2' (j + 1) cc2, .slice none 0 0, .slice B9 work2.length d9, .slice B10 recov2.length d10, .int .i64 jk, .int .i64 jo, .int .i64 jv, .int .i64 jw, .string jn, .slice jA js.length jc] := hbg3.set_ 12 _
    have hstX := hX2.only (keepIR _) ho3 hg35 (fun x hx hm => by have h1 := ((hX2.own x hx).ge g3 hm).1; omega)
    have hstA := hAg.only ho3 hg3n.out
    have hstB : Below W1.heap.size W1 (V3.setCell ⟨g3, 12, none⟩ (.slice A2' (j + 1) cc2)) := hBh.trans (ho3.below (by have := hBh.size; omega) (by simp; omega))
    have hstS : W5.heap.size ≤ (V3.setCell ⟨g3, 12, none⟩ (.slice A2' (j + 1) cc2)).heap.size := by have := ho3.size; omega
    replace hstS := Lib.hid hstS
    replace hst3 := Lib.hid hst3
    replace hstX := Lib.hid hstX
    replace hstA := Lib.hid hstA
    replace hstB := Lib.hid hstB
    replace hzp := Lib.hid hzp
    simp only [List.getElem?_toArray, List.getElem?_cons_zero, List.getElem?_cons_succ] at g3c
    clear hown8 hg8 hb8 hX2 hne hbe3 hbzf hXf hBg hzf hrd hBh ho3 hbe2 hbze hXe hBf hzo hAe hAf hAg
    refine hK.out _ _ (hSi.out _ ⟨hbg3.cell 12, hbzg.cell 0, hbzg.cell 1, hbzg.cell 2, hbzg.cell 3, hbzg.cell 4, hbzg.cell 5, hbzg.cell 6⟩) (fun hSn => ?_)
    clear hK K hS
    have hS := hSn
    clear hSn
    refine pureT 10 (v := ?_) rfl (by kernel_rfl) (by kernel_rfl) (by kernel_rfl) (by kernel_rfl) (fun _ _ _ h => h) (by rfl) (fun _ => hS) ?_ ?_
    rotate_left
    ·(intro wz; go_simp; try with_reducible rfl)
    try simp only [Act.put, List.setIfInBounds_toArray, List.set_cons_zero, List.set_cons_succ]
    refine storeT 11 rfl (by kernel_rfl) (by kernel_rfl) (fun K hK => ?_)
    clear hbg3 hbzg
    go_simp
    go_wp2_with fail
    refine hK.out _ _ ?_
    clear hK K
    refine wpAnyT_done (by kernel_rfl) ?_ _
    clear hS hSi hSe g3c f3c l3c
    go_wp2_with fail
    go_roundw
    case rel =>
     refine ⟨j + 1, A2', cc2, xs ++ [(In.mk yb (Ex.mk ⟨zk, zo, zv, zw, zn⟩ (⟨zA, zc⟩ : Loc) zs))], by go_num, by omega, by rw [List.length_append, hlj.out]; rfl, ?_, hst3.out, hstA.out, hstX.out, hstB.out, hstS.out⟩
     rw [hnexty.out, List.map_append, hpjj.out]
     show _ ++ [In.plain (In.mk yb (Ex.mk ⟨zk, zo, zv, zw, zn⟩ (⟨zA, zc⟩ : Loc) zs))] = _
     have h1 := hzp.out
     simp only [In.plain, h1]
    case measure => simp [intOf]; omega
   ·obtain rfl : j = n7 := by omega
    have hjm : inits.take j = inits := List.take_of_length_le (by have := hn7.out; omega)
    rw [hjm] at hpjj
    have hA2 := hAj.add (RowB.keep_ (In.cells eR) W5.heap.size 125 7 ⟨A', c'⟩ xs (keepIR _)) hXx
    have hg3n2 : g3 ∉ bs ++ ((Loc.mk A' c').fp ++ xs.flatMap fpIR) := fun hm => by
     rcases List.mem_append.1 hm with hm | hm
     ·exact hg3n.out hm
     ·rcases List.mem_append.1 hm with hm | hm
      ·have := (hXx.ge g3 hm).1; omega
      ·obtain ⟨x, hx, hm⟩ := List.mem_flatMap.1 hm
       have := ((hXx.own x hx).ge g3 hm).1; omega
    have hbsl2 := hA2.lt
    obtain ⟨bs2, hbs2⟩ : ∃ l, l = bs ++ ((Loc.mk A' c').fp ++ xs.flatMap fpIR) := ⟨_, rfl⟩
    rw [← hbs2] at hA2 hg3n2 hbsl2
    have hb1w := hb1.out.below hB6 hb1.out.lt
    have v13 := hb1w.cell 13
    simp only [List.getElem?_toArray, List.getElem?_cons_zero, List.getElem?_cons_succ] at v13
    have hyl := hb1w.lt
    obtain ⟨W6, hW6e⟩ : ∃ x, x = wr := ⟨_, rfl⟩
    subst hW6e
    have hg36 := hbeg.lt
    replace hA2 := Lib.hid hA2
    replace hg3n2 := Lib.hid hg3n2
    replace hbsl2 := Lib.hid hbsl2
    replace hbs2 := Lib.hid hbs2
    replace hpjj := Lib.hid hpjj
    replace hlj := Lib.hid hlj
    replace hbeg := Lib.hid hbeg
    replace hB6 := Lib.hid hB6
    clear hAj hXx hbsl hg3n hjm hbg hA hB5 hby5 hb1w
    go_wp2_with fail
    clear v13 hyl
    go_loopw [59] (fun v59 wr => ∃ (i : Nat) (A8' : Option Addr) (c8' : Nat) (zs : List (Pr Loc)), v59 = .int .i64 i ∧ i ≤ n8 ∧ zs.length = i ∧ zs.map Pr.plain = (procs.take i).map Pr.plain ∧ Blk wr g3 75 #[.int .i64 bl, .int .i64 wd, .slice B2 n2 d2, .slice B3 n3 d3, .slice B4 n4 d4, .slice B5 n5 d5, .int .i64 qk, .int .i64 qo, .int .i64 qv, .int .i64 qw, .string qn, .slice qA qs.length qc, .slice A' j c', .slice A8' i c8', .slice B9 work2.length d9, .slice B10 recov2.length d10, .int .i64 jk, .int .i64 jo, .int .i64 jv, .int .i64 jw, .string jn, .slice jA js.length jc] ∧ Acc (fun W => D W ∧ RowB (ownIR W5.heap.size) fpIR (In.cells eR) W5.heap.size 125 7 ⟨A', c'⟩ xs W) bs2 wr ∧ RowB (ownPR W6.heap.size) fpPR Pr.cells W6.heap.size 127 3 ⟨A8', c8'⟩ zs wr ∧ Below W1.heap.size W1 wr ∧ W6.heap.size ≤ wr.heap.size) (fun v59 _ => n8 - (intOf v59).toNat)
    case atStart => exact ⟨0, none, 0, [], rfl, Nat.zero_le _, rfl, rfl, hbeg.out, hA2.out, RowB.nil _ _ _ _ _ _ _, hB6.out, Nat.le_refl _⟩
    case round =>
     obtain ⟨i, A8', c8', zs, rfl, hi8, hli, hpi, hbe, hAi, hXp, hB7, hW7⟩ := hrel
     have i0' : 0 ≤ (i : Int) := by omega
     by_cases hil : i < n8
     ·have hy : procs[i]? = some (procs[i]'(by have := hn8.out; omega)) := List.getElem?_eq_getElem (by have := hn8.out; omega)
      generalize procs[i]'(by have := hn8.out; omega) = y at hy
      have hymem := List.mem_of_getElem? hy
      obtain ⟨ad2, hA2', _, hyok, hcy⟩ := (k7.out.keep (keeps_below (below_and hB.out hB7)) (fun _ _ => trivial)).at hy
      have hyz := szPr_mem hymem
      have hcd := fun w2 (h2 : Below wr.heap.size wr w2) => theirD y.lp y.ps w2 (hyok.1.all (keeps_below h2)) (by have := hszp.out; omega)
      have hcs := fun w2 (h2 : Below wr.heap.size wr w2) => theirS y.body y.lb w2 (hyok.2.all (keeps_below h2)) (s7.out y hymem) (by have := hszp.out; omega)
      have hnexty : (procs.take (i + 1)).map Pr.plain = (procs.take i).map Pr.plain ++ [y.plain] := by
       obtain ⟨q1, q2⟩ := List.getElem?_eq_some_iff.1 hy
       rw [List.take_succ_eq_append_getElem q1, q2, List.map_append]
       rfl
      obtain ⟨yn, ⟨pA, pc⟩, ps, ⟨bA, bc⟩, body⟩ := y
      simp only [Pr.cells] at hcy
      obtain ⟨d0, e1, e2⟩ := CellsAt.c3 hcy
      dsimp only at hA2' hcd hcs
      subst hA2'
      have i1' : (i : Int) < (n8 : Int) := by omega
      have hab := cell_lt d0
      have hBz := (Below.refl _ wr).alloc (Nat.le_refl _) (.cells #[.string yn, .slice pA ps.length pc, .slice bA body.length bc] 64)
      have hbz := Blk.new wr 64 #[.string yn, .slice pA ps.length pc, .slice bA body.length bc]
      obtain ⟨gz, hgz⟩ : ∃ g, wr.heap.size = g := ⟨_, rfl⟩
      rw [hgz] at hbz
      have hX8 := hXp.ge
      replace hX8 := Lib.hid hX8
      replace hbz := Lib.hid hbz
      replace hgz := Lib.hid hgz
      replace hnexty := Lib.hid hnexty
      replace hy := Lib.hid hy
      replace hcd := Lib.hid hcd
      replace hcs := Lib.hid hcs
      replace hBz := Lib.hid hBz
      replace hbe := Lib.hid hbe
      replace hXp := Lib.hid hXp
      replace hpi := Lib.hid hpi
      replace hli := Lib.hid hli
      replace hAi := Lib.hid hAi
      clear hyok hcy hyz
      go_upto_region 10 with (fail)
      generalize wr.alloc (.cells #[.string yn, .slice pA ps.length pc, .slice bA body.length bc] 64) = Wy at *
      rw [hgz.out]
      clear d0 e1 e2 hab
      have hBd := below_and hBz.out ((Below.refl _ Wy).drew)
      have hc := Lib.hid (hcd.out _ hBd)
      have hbx := hbe.out.below hBz.out hbe.out.lt
      have hbd := Lib.hid (hbe.out.below hBd hbe.out.lt)
      have hbzd := Lib.hid (hbz.out.below ((Below.refl _ Wy).drew) hbz.out.lt)
      have hXd := Lib.hid (hXp.out.new (keepPR _) hBd)
      have hAd := Lib.hid (hAi.out.new hBd)
      have hBe := Lib.hid (below_and hB7 hBd)
      have hBd' := Lib.hid hBd
      have hrs1 : wr.heap.size ≤ Wy.drew.heap.size := hBd.size
      clear hcd hbe hXp hBd hB7 hAi
      obtain ⟨S, hSi, hSe⟩ : ∃ S : World → Prop, (∀ W, (W.cell? ⟨g3, 13, none⟩ = some (.slice A8' i c8') ∧ W.cell? ⟨gz, 0, none⟩ = some (.string yn) ∧ W.cell? ⟨gz, 1, none⟩ = some (.slice pA ps.length pc) ∧ W.cell? ⟨gz, 2, none⟩ = some (.slice bA body.length bc)) → S W) ∧ (∀ W, S W → (W.cell? ⟨g3, 13, none⟩ = some (.slice A8' i c8') ∧ W.cell? ⟨gz, 0, none⟩ = some (.string yn) ∧ W.cell? ⟨gz, 1, none⟩ = some (.slice pA ps.length pc) ∧ W.cell? ⟨gz, 2, none⟩ = some (.slice bA body.length bc))) := ⟨fun W => W.cell? ⟨g3, 13, none⟩ = some (.slice A8' i c8') ∧ W.cell? ⟨gz, 0, none⟩ = some (.string yn) ∧ W.cell? ⟨gz, 1, none⟩ = some (.slice pA ps.length pc) ∧ W.cell? ⟨gz, 2, none⟩ = some (.slice bA body.length bc), fun _ h => h, fun _ h => h⟩
      have hS : S Wy.drew := hSi _ ⟨hbx.cell 13, hbz.out.cell 0, hbz.out.cell 1, hbz.out.cell 2⟩
      replace hSi := Lib.hid hSi
      replace hSe := Lib.hid hSe
      refine wp_region_T (S := S) (St := [14]) (by kernel_rfl) ?_
      change wpAnyT _ _ _ _ _ _ _ _ _ (World.drew _)
      refine pureT 0 (v := ?_) rfl (by kernel_rfl) (by kernel_rfl) (by kernel_rfl) (by kernel_rfl) (fun _ _ _ h => h) (by rfl) (fun _ => hS) ?_ ?_
      rotate_left
      ·(intro wz; go_simp; try with_reducible rfl)
      try simp only [Act.put, List.setIfInBounds_toArray, List.set_cons_zero, List.set_cons_succ]
      refine pureT 2 (v := ?_) rfl (by kernel_rfl) (by kernel_rfl) (by kernel_rfl) (by kernel_rfl) (fun _ _ _ h => h) (by rfl) (fun _ => hS) ?_ ?_
      rotate_left
      ·(intro wz; go_simp; try with_reducible rfl)
      try simp only [Act.put, List.setIfInBounds_toArray, List.set_cons_zero, List.set_cons_succ]
      refine pureT 4 (v := ?_) rfl (by kernel_rfl) (by kernel_rfl) (by kernel_rfl) (by kernel_rfl) (fun _ _ _ h => h) (by rfl) (fun _ => hS) ?_ ?_
      rotate_left
      ·(intro wz; go_simp; try with_reducible rfl)
      try simp only [Act.put, List.setIfInBounds_toArray, List.set_cons_zero, List.set_cons_succ]
      refine pureT 7 (v := ?_) rfl (by kernel_rfl) (by kernel_rfl) (by kernel_rfl) (by kernel_rfl) (fun _ _ _ h => h) (by rfl) (fun _ => hS) ?_ ?_
      rotate_left
      ·(intro wz; go_simp; try with_reducible rfl)
      try simp only [Act.put, List.setIfInBounds_toArray, List.set_cons_zero, List.set_cons_succ]
      refine takeT 1 (v := .slice A8' i c8') rfl (by kernel_rfl) (by kernel_rfl) (by kernel_rfl) (by kernel_rfl) (fun _ _ _ h => h) (by rfl) hS ?_ ?_
      ·(intro wz hSw; obtain ⟨z0, z1, z2, z3⟩ := hSe.out _ hSw; go_simp)
      try simp only [Act.put, List.setIfInBounds_toArray, List.set_cons_zero, List.set_cons_succ]
      refine takeT 3 (v := .string yn) rfl (by kernel_rfl) (by kernel_rfl) (by kernel_rfl) (by kernel_rfl) (fun _ _ _ h => h) (by rfl) hS ?_ ?_
      ·(intro wz hSw; obtain ⟨z0, z1, z2, z3⟩ := hSe.out _ hSw; go_simp)
      try simp only [Act.put, List.setIfInBounds_toArray, List.set_cons_zero, List.set_cons_succ]
      refine takeT 5 (v := .slice pA ps.length pc) rfl (by kernel_rfl) (by kernel_rfl) (by kernel_rfl) (by kernel_rfl) (fun _ _ _ h => h) (by rfl) hS ?_ ?_
      ·(intro wz hSw; obtain ⟨z0, z1, z2, z3⟩ := hSe.out _ hSw; go_simp)
      try simp only [Act.put, List.setIfInBounds_toArray, List.set_cons_zero, List.set_cons_succ]
      refine takeT 8 (v := .slice bA body.length bc) rfl (by kernel_rfl) (by kernel_rfl) (by kernel_rfl) (by kernel_rfl) (fun _ _ _ h => h) (by rfl) hS ?_ ?_
      ·(intro wz hSw; obtain ⟨z0, z1, z2, z3⟩ := hSe.out _ hSw; go_simp)
      try simp only [Act.put, List.setIfInBounds_toArray, List.set_cons_zero, List.set_cons_succ]
      refine callT 6 rfl (by kernel_rfl) (fun K hK => ?_)
      go_simp
      go_wp2_with (go_at_call 102; refine hc.out.mono ?_; rintro e V1 ⟨⟨E1, f1, rfl, hdo⟩, hB2⟩)
      have hbe2 := hbd.out.below hB2 hbd.out.lt
      have hbze := hbzd.out.below hB2 hbzd.out.lt
      have hXe := hXd.out.new (keepPR _) hB2
      have hAe := hAd.out.new hB2
      have hBf := below_and hBe.out hB2
      have hs1 := hB2.size
      have hcc := Lib.hid (hcs.out _ (below_and hBd'.out hB2))
      replace hXe := Lib.hid hXe
      replace hAe := Lib.hid hAe
      replace hdo := Lib.hid hdo
      replace hBf := Lib.hid hBf
      refine hK.out _ _ (hSi.out _ ⟨hbe2.cell 13, hbze.cell 0, hbze.cell 1, hbze.cell 2⟩) (fun hSn => ?_)
      clear hK K hS
      have hS := hSn
      clear hSn
      refine callT 9 rfl (by kernel_rfl) (fun K hK => ?_)
      go_simp
      go_wp2_with (go_at_call 63; refine hcc.out.mono ?_; rintro e V2 ⟨⟨E2, f2, os, rfl, hzp, hzo⟩, hB3⟩)
      have hbe2' := hbe2.below hB3 hbe2.lt
      have hbze' := hbze.below hB3 hbze.lt
      have hXe' := hXe.out.new (keepPR _) hB3
      have hAe' := hAe.out.new hB3
      have hBf' := below_and hBf.out hB3
      have hs2 := hB3.size
      have hdo' := own_only hdo.out (only_of_below [] hB3) (by simp)
      refine hK.out _ _ (hSi.out _ ⟨hbe2'.cell 13, hbze'.cell 0, hbze'.cell 1, hbze'.cell 2⟩) (fun hSn => ?_)
      clear hK K hS
      have hS := hSn
      clear hSn
      refine pureT 10 (v := ?_) rfl (by kernel_rfl) (by kernel_rfl) (by kernel_rfl) (by kernel_rfl) (fun _ _ _ h => h) (by rfl) (fun _ => hS) ?_ ?_
      rotate_left
      ·(intro wz; go_simp; try with_reducible rfl)
      try simp only [Act.put, List.setIfInBounds_toArray, List.set_cons_zero, List.set_cons_succ]
      refine callT 11 rfl (by kernel_rfl) (fun K hK => ?_)
      go_simp
      have hBq := (Below.refl _ V2).alloc (Nat.le_refl _) (.cells #[.string yn, .slice E1 ps.length f1, .slice E2 os.length f2] 127)
      have hbe3 := hbe2'.below hBq hbe2'.lt
      have hbzf := hbze'.below hBq hbze'.lt
      have hXf := hXe'.new (keepPR _) hBq
      have hAf := hAe'.new hBq
      have hBg := below_and hBf' hBq
      have hzf := hzo.new hBq
      have hdf := own_only hdo' (only_of_below [] hBq) (by simp)
      have hrd := Reads.of_own (World.ownsRow_lit (base := V2.heap.size) (e := 127) (size := 3) V2 #[.string yn, .slice E1 ps.length f1, .slice E2 os.length f2] 1 (Nat.le_refl _) (by simp [maxLen]) rfl)
      have hs3 := hBq.size
      refine hK.out _ _ (hSi.out _ ⟨hbe3.cell 13, hbzf.cell 0, hbzf.cell 1, hbzf.cell 2⟩) (fun hSn => ?_)
      clear hK K hS
      have hS := hSn
      clear hSn
      refine callT 12 rfl (by kernel_rfl) (fun K hK => ?_)
      generalize (V2.alloc (.cells #[.string yn, .slice E1 ps.length f1, .slice E2 os.length f2] 127)) = V3 at *
      have hLo : ownPR W6.heap.size V3 (Pr.mk yn (⟨E1, f1⟩ : Loc) ps ⟨E2, f2⟩ os) := ⟨own_base hdf (by omega), hzf.base_le (by omega)⟩
      have hdj : ∀ b ∈ (Loc.mk A8' c8').fp, b ∉ fpPR (Pr.mk yn (⟨E1, f1⟩ : Loc) ps ⟨E2, f2⟩ os) := fun b hb hm => by
       have h1 := (hX8.out b hb).2
       rcases List.mem_append.1 hm with hm | hm
       ·have h2 := (own_ge (l := ⟨E1, f1⟩) hdf b hm).1; omega
       ·have h2 := (hzf.ge b hm).1; omega
      refine step_append_any (w := V3) (by rfl) (.tmp 64) (.tmp 74) 72 (by rfl) W6.heap.size 127 i1 _ 3 64 Tryz.underlying72 hi'.out hz0'.out hz1'.out hz2'.out rfl (by omega) (.slice A8' i c8') i (cellsP zs) (by rfl) (by have h1 := hXf.row; dsimp only at h1; rw [hli.out] at h1; exact h1) _ (some ⟨V2.heap.size, 0, none⟩) 1 1 (cellsP [(Pr.mk yn (⟨E1, f1⟩ : Loc) ps ⟨E2, f2⟩ os)]) (by rfl) (by have h2 := hrd; simpa [cellsP, Pr.cells] using h2) (cellsP_one _) (by simp only [maxLen]; omega) (by omega) (by omega) ?_
      intro v8 V4 hown8 hg8 hb8
      obtain ⟨A9', cc2, rfl, hX2⟩ := RowB.append (x := (Pr.mk yn (⟨E1, f1⟩ : Loc) ps ⟨E2, f2⟩ os)) hli.out hXf (keepPR _) hLo hdj hown8 hg8 hb8
      have hne : ∀ b, (Value.slice A8' i c8').ownBlock = some b → W6.heap.size ≤ b := fun b hb => (hXf.ge b ((own_fp ⟨A8', c8'⟩ i b).2 hb)).1
      have hbg3 := hbe3.grown hg8 (fun e => by have := hne g3 e.symm; omega)
      have hAg := hAf.grown hg8 (fun b hb hm => by have := hne b hb; have := hbsl2.out b hm; omega)
      have hbzg := hbzf.grown hg8 (fun e => by have h1 := (own_fp ⟨A8', c8'⟩ i gz).2 e.symm; have h2 := hX8.out gz h1; have h3 := hgz.out; omega)
      have hBh := hBg.grown hg8 (by have := hBg.size; omega) (fun q hq => by have := hne q hq; omega)
      have g3c := hbg3.cell 13
      have f3c := hbg3.frozen 13
      have l3c := hbg3.lt
      have hsz3 : V3.heap.size ≤ V4.heap.size := hg8.size
      have ho3 : Only [g3] V4 (V4.setCell ⟨g3, 13, none⟩ (.slice A9' (i + 1) cc2)) := (Only.refl [g3] V4).setCell (.inl (by simp)) _
      have hst3 : Blk (V4.setCell ⟨g3, 13, none⟩ (.slice A9' (i + 1) cc2)) g3 75 #[.int .i64 bl, .int .i64 wd, .slice B2 n2 d2, .slice B3 n3 d3, .slice B4 n4 d4, .slice B5 n5 d5, .int .i64 qk, .int .i64 qo, .int .i64 qv, .int .i64 qw, .string qn, .slice qA qs.length qc, .slice A' j c', .slice A9' (i + 1) cc2, .slice B9 work2.length d9, .slice B10 recov2.length d10, .int .i64 jk, .int .i64 jo, .int .i64 jv, .int .i64 jw, .string jn, .slice jA js.length jc] := hbg3.set_ 13 _
      have hstX := hX2.only (keepPR _) ho3 hg36 (fun x hx hm => by
       rcases List.mem_append.1 hm with hm | hm
       ·have h1 := (own_ge (l := x.lp) (hX2.own x hx).1 g3 hm).1; omega
       ·have h1 := ((hX2.own x hx).2.ge g3 hm).1; omega)
      have hstA := hAg.only ho3 hg3n2.out
      have hstB : Below W1.heap.size W1 (V4.setCell ⟨g3, 13, none⟩ (.slice A9' (i + 1) cc2)) := hBh.trans (ho3.below (by have := hBh.size; omega) (by simp; omega))
      have hstS : W6.heap.size ≤ (V4.setCell ⟨g3, 13, none⟩ (.slice A9' (i + 1) cc2)).heap.size := by have := ho3.size; omega
      replace hstS := Lib.hid hstS
      replace hst3 := Lib.hid hst3
      replace hstX := Lib.hid hstX
      replace hstA := Lib.hid hstA
      replace hstB := Lib.hid hstB
      replace hzp := Lib.hid hzp
      simp only [List.getElem?_toArray, List.getElem?_cons_zero, List.getElem?_cons_succ] at g3c
      clear hown8 hg8 hb8 hX2 hne hbe3 hbzf hXf hBg hzf hdf hrd hBh ho3 hbe2 hbze hbe2' hbze' hXe hXe' hBf hBf' hzo hAe hAe' hAf hAg hLo hdj hdo hdo'
      refine hK.out _ _ (hSi.out _ ⟨hbg3.cell 13, hbzg.cell 0, hbzg.cell 1, hbzg.cell 2⟩) (fun hSn => ?_)
      clear hK K hS
      have hS := hSn
      clear hSn
      refine pureT 13 (v := ?_) rfl (by kernel_rfl) (by kernel_rfl) (by kernel_rfl) (by kernel_rfl) (fun _ _ _ h => h) (by rfl) (fun _ => hS) ?_ ?_
      rotate_left
      ·(intro wz; go_simp; try with_reducible rfl)
      try simp only [Act.put, List.setIfInBounds_toArray, List.set_cons_zero, List.set_cons_succ]
      refine storeT 14 rfl (by kernel_rfl) (by kernel_rfl) (fun K hK => ?_)
      clear hbg3 hbzg
      go_simp
      go_wp2_with fail
      refine hK.out _ _ ?_
      clear hK K
      refine wpAnyT_done (by kernel_rfl) ?_ _
      clear hS hSi hSe g3c f3c l3c
      go_wp2_with fail
      go_roundw
      case rel =>
       refine ⟨i + 1, A9', cc2, zs ++ [(Pr.mk yn (⟨E1, f1⟩ : Loc) ps ⟨E2, f2⟩ os)], by go_num, by omega, by rw [List.length_append, hli.out]; rfl, ?_, hst3.out, hstA.out, hstX.out, hstB.out, hstS.out⟩
       rw [hnexty.out, List.map_append, hpi.out]
       show _ ++ [Pr.plain (Pr.mk yn (⟨E1, f1⟩ : Loc) ps ⟨E2, f2⟩ os)] = _
       have h1 := hzp.out
       simp only [Pr.plain, h1]
      case measure => simp [intOf]; omega
     ·obtain rfl : i = n8 := by omega
      have him : procs.take i = procs := List.take_of_length_le (by have := hn8.out; omega)
      rw [him] at hpi
      obtain ⟨cs, hcs⟩ : ∃ c : Array Value, c = #[.int .i64 bl, .int .i64 wd, .slice B2 n2 d2, .slice B3 n3 d3, .slice B4 n4 d4, .slice B5 n5 d5, .int .i64 qk, .int .i64 qo, .int .i64 qv, .int .i64 qw, .string qn, .slice qA qs.length qc, .slice A' j c', .slice A8' i c8', .slice B9 work2.length d9, .slice B10 recov2.length d10, .int .i64 jk, .int .i64 jo, .int .i64 jv, .int .i64 jw, .string jn, .slice jA js.length jc] := ⟨_, rfl⟩
      have hcsz : cs.size = 22 := by rw [hcs]; rfl
      have hcso : cs.all (·.oneCell') = true := by rw [hcs]; simp [Value.oneCell']
      have hPF : cs = (((Pg.mk bl wd ⟨B2, d2⟩ ins ⟨B3, d3⟩ gh ⟨B4, d4⟩ va ⟨B5, d5⟩ ar (Ex.mk ⟨qk, qo, qv, qw, qn⟩ (⟨qA, qc⟩ : Loc) qs) ⟨A', c'⟩ xs ⟨A8', c8'⟩ zs ⟨B9, d9⟩ work2 ⟨B10, d10⟩ recov2 (Ex.mk ⟨jk, jo, jv, jw, jn⟩ (⟨jA, jc⟩ : Loc) js))).cells eR).toArray := by
       rw [hcs]
       simp only [Pg.cells, Ex.cells, eR, hlj.out, hli, ← hn2.out, ← hn3.out, ← hn4.out, ← hn5.out, List.cons_append, List.nil_append]
      rw [← hcs] at hbe
      have hb2w := hb2.out.below hB7 hb2.out.lt
      have hth := there_blk_at hb2w (o := 0) (n := 22) (by decide)
      have hg2n : g2 < W1.heap.size := hb2.out.lt
      have hfin := blk_put6 hb2w (vs := cs) (by rw [hcsz]; rfl)
      have hoS : Only [g2] wr (World.setCells wr g2 0 cs.toList) := only_setCells (b := g2) cs.toList 0 wr
      have hBF : Below w.heap.size w (World.setCells wr g2 0 cs.toList) := (below_and hB.out hB7).trans (hoS.below (by have := (below_and hB.out hB7).size; omega) (by have := hg2.out; simp; omega))
      have hXF := hXp.only (keepPR _) hoS (by omega) (fun x hx hm => by
       rcases List.mem_append.1 hm with hm | hm
       ·have h1 := (own_ge (l := x.lp) (hXp.own x hx).1 g2 hm).1; omega
       ·have h1 := ((hXp.own x hx).2.ge g2 hm).1; omega)
      have hDw := hAi.h
      have hPw := hPB.out wr hDw.1
      have hgeF : ∀ b ∈ ((Pg.mk bl wd ⟨B2, d2⟩ ins ⟨B3, d3⟩ gh ⟨B4, d4⟩ va ⟨B5, d5⟩ ar (Ex.mk ⟨qk, qo, qv, qw, qn⟩ (⟨qA, qc⟩ : Loc) qs) ⟨A', c'⟩ xs ⟨A8', c8'⟩ zs ⟨B9, d9⟩ work2 ⟨B10, d10⟩ recov2 (Ex.mk ⟨jk, jo, jv, jw, jn⟩ (⟨jA, jc⟩ : Loc) js))).blks, w.heap.size ≤ b := fun b hb => by
       have h1 := PBeg.blks_ge (P := (Pg.mk bl wd ⟨B2, d2⟩ ins ⟨B3, d3⟩ gh ⟨B4, d4⟩ va ⟨B5, d5⟩ ar (Ex.mk ⟨qk, qo, qv, qw, qn⟩ (⟨qA, qc⟩ : Loc) qs) ⟨A', c'⟩ xs ⟨A8', c8'⟩ zs ⟨B9, d9⟩ work2 ⟨B10, d10⟩ recov2 (Ex.mk ⟨jk, jo, jv, jw, jn⟩ (⟨jA, jc⟩ : Loc) js))) (lo := W1.heap.size) (lo1 := W5.heap.size) (lo2 := W6.heap.size) ⟨hPw.ins, hPw.gh, hPw.va, hPw.ar, hPw.req, hPw.work, hPw.recov, hPw.inv⟩ (by have := hg3l; omega) (by have := hB6.out.size; exact this) hDw.2 hXp b hb
       have h2 := hB.out.size
       omega
      have hge2 : ∀ b, W1.heap.size ≤ b → b ∉ [g2] := fun b hb hm => by rw [List.mem_singleton.1 hm] at hb; omega
      have hokF : ((Pg.mk bl wd ⟨B2, d2⟩ ins ⟨B3, d3⟩ gh ⟨B4, d4⟩ va ⟨B5, d5⟩ ar (Ex.mk ⟨qk, qo, qv, qw, qn⟩ (⟨qA, qc⟩ : Loc) qs) ⟨A', c'⟩ xs ⟨A8', c8'⟩ zs ⟨B9, d9⟩ work2 ⟨B10, d10⟩ recov2 (Ex.mk ⟨jk, jo, jv, jw, jn⟩ (⟨jA, jc⟩ : Loc) js))).ok eR (World.setCells wr g2 0 cs.toList) := by
       have hI := hDw.2.only (keepIR _) hoS (by omega) (fun x hx hm => by have h1 := ((hDw.2.own x hx).ge g2 hm).1; omega)
       exact ⟨own_row (own_only hPw.ins hoS fun b hb => hge2 b (hPw.ins.lt b hb).1), own_row (own_only hPw.gh hoS fun b hb => hge2 b (hPw.gh.lt b hb).1), own_row (own_only hPw.va hoS fun b hb => hge2 b (hPw.va.lt b hb).1), own_row (own_only hPw.ar hoS fun b hb => hge2 b (hPw.ar.lt b hb).1),
        (hPw.req.keep hoS fun b hb => hge2 b (hPw.req.ge b hb).1).ok, ⟨own_row hI.row, fun x hx => (hI.own x hx).ok⟩, ⟨own_row hXF.row, fun x hx => ⟨own_row (hXF.own x hx).1, (hXF.own x hx).2.ok⟩⟩,
        (hPw.work.onlyG hoS fun hm => hge2 g2 (hPw.work.ge g2 hm).1 (by simp)).ok, (hPw.recov.onlyG hoS fun hm => hge2 g2 (hPw.recov.ge g2 hm).1 (by simp)).ok, (hPw.inv.keep hoS fun b hb => hge2 b (hPw.inv.ge b hb).1).ok⟩
      have hplF : ((Pg.mk bl wd ⟨B2, d2⟩ ins ⟨B3, d3⟩ gh ⟨B4, d4⟩ va ⟨B5, d5⟩ ar (Ex.mk ⟨qk, qo, qv, qw, qn⟩ (⟨qA, qc⟩ : Loc) qs) ⟨A', c'⟩ xs ⟨A8', c8'⟩ zs ⟨B9, d9⟩ work2 ⟨B10, d10⟩ recov2 (Ex.mk ⟨jk, jo, jv, jw, jn⟩ (⟨jA, jc⟩ : Loc) js))).plain = Pg.mk bl wd () ins () gh () va () ar xr.plain () (inits.map In.plain) () (procs.map Pr.plain) () (plainS work) () (plainS recov) xi.plain := by
       simp only [Pg.plain, hpq.out, hpw.out, hpv.out, hpj.out, hpjj.out, hpi]
      replace hcs := Lib.hid hcs
      replace hPF := Lib.hid hPF
      replace hfin := Lib.hid hfin
      replace hBF := Lib.hid hBF
      replace hokF := Lib.hid hokF
      replace hgeF := Lib.hid hgeF
      replace hplF := Lib.hid hplF
      replace hpi := Lib.hid hpi
      replace hli := Lib.hid hli
      clear hoS hXF hDw hPw hXp hAi hb2w
      have hbe' := hbe
      go_wp2_with (refine wpList_load_rowW 75 (.tmp 3) rfl (by rfl) g3 rfl 75 cs (0, 0) _ hbe Tryz.underlying75 rfl (by rw [hcsz]; kernel_rfl) ?_; refine Shut.out ?_)
      refine shut_mkP ?_
      try simp only [Act.put, List.setIfInBounds_toArray, List.set_cons_zero, List.set_cons_succ]
      refine wpList_store_mid rfl 75 (.tmp 2) (.tmp 78) rfl g2 0 cs rfl (by rfl) (by rw [hcsz]; exact hth) (by rw [hcsz]; kernel_rfl) hcso ?_
      clear hth hbe hbe'
      go_wp2_with fail
      refine bodyPost_ret (results_cell_row rfl _ _ g2 75 _ (0, 0) _ rfl hfin.out Tryz.underlying75 rfl (by rw [hcsz]; kernel_rfl)) rfl ?_
      refine ⟨⟨(Pg.mk bl wd ⟨B2, d2⟩ ins ⟨B3, d3⟩ gh ⟨B4, d4⟩ va ⟨B5, d5⟩ ar (Ex.mk ⟨qk, qo, qv, qw, qn⟩ (⟨qA, qc⟩ : Loc) qs) ⟨A', c'⟩ xs ⟨A8', c8'⟩ zs ⟨B9, d9⟩ work2 ⟨B10, d10⟩ recov2 (Ex.mk ⟨jk, jo, jv, jw, jn⟩ (⟨jA, jc⟩ : Loc) js)), by rw [hPF.out]; rfl, ?_, hokF.out, hgeF.out⟩, hBF.out⟩
      rw [hplF.out, hxr.out, hxi.out]
      rfl
end Go.Proofs.YtnldbplphgfpeaaGreat
