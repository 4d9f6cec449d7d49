/- What is handed to the reference: a program. -/
import Derived.Test.YtnldbplphgfpeaaTTa
import Derived.Test.YtnldbplphgfpeaaTQa
import Derived.Test.YtnldbplphgfpeaaTCp
import Derived.Test.YtnldbplphgfpeaaTPt
import Derived.Deep.CutBlock
namespace Go.Proofs.Ytnldbplphgfpeaa
open Go Go.RowKit Go.Shelf
set_option linter.unusedVariables false
set_option linter.unusedSimpArgs false
set_option maxHeartbeats 16000000
theorem shut_mkP {p : Prop} (h : p) : Shut p := h
set_option maxRecDepth 100000 in
theorem theirP (p : Pg Loc) (w : World) (hok : p.ok eT w) (hr : p.rng) (hs : p.sz ≤ 60000) : Calls Try.prog 64 #[aggP p] w fun r w' => (∃ (L : Pg Loc), r = .returned (aggRP L) ∧ L.plain = p.plain ∧ L.ok eR w' ∧ ∀ b ∈ L.blks, w.heap.size ≤ b) ∧ Below w.heap.size w w' := by
  obtain ⟨bl, wd, ⟨A2, c2⟩, ins, ⟨A3, c3⟩, gh, ⟨A4, c4⟩, va, ⟨A5, c5⟩, ar, ⟨⟨rk, ro, rv, rwd, rn⟩, ⟨rA, rc⟩, rs⟩, ⟨A7, c7⟩, inits, ⟨A8, c8⟩, procs, ⟨A9, c9⟩, work, ⟨A10, c10⟩, recov, ⟨⟨ik, io, iv, iwd, inn⟩, ⟨iA, ic⟩, is⟩⟩ := p
  obtain ⟨xr, hxr⟩ : ∃ x, x = Ex.mk ⟨rk, ro, rv, rwd, rn⟩ (⟨rA, rc⟩ : Loc) rs := ⟨_, rfl⟩
  obtain ⟨xi, hxi⟩ : ∃ x, x = Ex.mk ⟨ik, io, iv, iwd, inn⟩ (⟨iA, ic⟩ : Loc) is := ⟨_, rfl⟩
  obtain ⟨k1, k2, k3, k4, k5, k6, k7, k8, k9, k10⟩ := hok
  obtain ⟨s5, s6, s7, s8, s9, s10⟩ := hr
  dsimp only at k1 k2 k3 k4 k5 k6 k7 k8 k9 k10 s5 s6 s7 s8 s9 s10
  simp only [Pg.sz] at hs
  simp only [aggP, Pg.cells, Ex.cells, eT, List.cons_append, List.nil_append]
  rw [← hxr] at k5 s5 hs
  rw [← hxi] at k10 s10 hs
  have hl7 := szI_len inits
  have hl8 := szPr_len procs
  have hd2 := fun w2 (h2 : Below w.heap.size w w2) => theirD ⟨A2, c2⟩ ins w2 (k1.all (keeps_below h2)) (by omega)
  have hd3 := fun w2 (h2 : Below w.heap.size w w2) => theirD ⟨A3, c3⟩ gh w2 (k2.all (keeps_below h2)) (by omega)
  have hd4 := fun w2 (h2 : Below w.heap.size w w2) => theirD ⟨A4, c4⟩ va w2 (k3.all (keeps_below h2)) (by omega)
  have hd5 := fun w2 (h2 : Below w.heap.size w w2) => theirD ⟨A5, c5⟩ ar w2 (k4.all (keeps_below h2)) (by omega)
  have hcr := fun w2 (h2 : Below w.heap.size w w2) => theirX xr w2 (k5.below h2) s5 (by omega)
  have hci := fun w2 (h2 : Below w.heap.size w w2) => theirX xi w2 (k10.below h2) s10 (by omega)
  have hcw := fun w2 (h2 : Below w.heap.size w w2) => theirS work ⟨A9, c9⟩ w2 (k8.all (keeps_below h2)) s8 (by omega)
  have hcv := fun w2 (h2 : Below w.heap.size w w2) => theirS recov ⟨A10, c10⟩ w2 (k9.all (keeps_below h2)) s9 (by omega)
  have hax : aggX xr = .agg #[.int .u8 rk, .int .u8 ro, .int .u32 rv, .int .i64 rwd, .string rn, .slice rA rs.length rc] := by rw [hxr]; rfl
  have hay : aggX xi = .agg #[.int .u8 ik, .int .u8 io, .int .u32 iv, .int .i64 iwd, .string inn, .slice iA is.length ic] := by rw [hxi]; rfl
  rw [hax] at hcr
  rw [hay] at hci
  dsimp only at hd2 hd3 hd4 hd5 hcw hcv
  obtain ⟨n2, hn2⟩ : ∃ n, n = ins.length := ⟨_, rfl⟩
  rw [← hn2]
  rw [← hn2] at hd2
  obtain ⟨n3, hn3⟩ : ∃ n, n = gh.length := ⟨_, rfl⟩
  rw [← hn3]
  rw [← hn3] at hd3
  obtain ⟨n4, hn4⟩ : ∃ n, n = va.length := ⟨_, rfl⟩
  rw [← hn4]
  rw [← hn4] at hd4
  obtain ⟨n5, hn5⟩ : ∃ n, n = ar.length := ⟨_, rfl⟩
  rw [← hn5]
  rw [← hn5] at hd5
  obtain ⟨n7, hn7⟩ : ∃ n, n = inits.length := ⟨_, rfl⟩
  rw [← hn7]
  obtain ⟨n8, hn8⟩ : ∃ n, n = procs.length := ⟨_, rfl⟩
  rw [← hn8]
  obtain ⟨n9, hn9⟩ : ∃ n, n = work.length := ⟨_, rfl⟩
  rw [← hn9]
  rw [← hn9] at hcw
  obtain ⟨n10, hn10⟩ : ∃ n, n = recov.length := ⟨_, rfl⟩
  rw [← hn10]
  rw [← hn10] at hcv
  obtain ⟨nr, hnr⟩ : ∃ n, n = rs.length := ⟨_, rfl⟩
  rw [← hnr]
  rw [← hnr] at hcr
  obtain ⟨ni, hni⟩ : ∃ n, n = is.length := ⟨_, rfl⟩
  rw [← hni]
  rw [← hni] at hci
  have n7i : (n7 : Int) ≤ 60000 := by omega
  have n8i : (n8 : Int) ≤ 60000 := by omega
  have hszi : szI inits ≤ 60000 := by omega
  have hszp : szPr procs ≤ 60000 := by omega
  obtain ⟨W1, hW1⟩ : ∃ W, (w.alloc (.cells #[.int .i64 bl, .int .i64 wd, .slice A2 n2 c2, .slice A3 n3 c3, .slice A4 n4 c4, .slice A5 n5 c5, .int .u8 rk, .int .u8 ro, .int .u32 rv, .int .i64 rwd, .string rn, .slice rA nr rc, .slice A7 n7 c7, .slice A8 n8 c8, .slice A9 n9 c9, .slice A10 n10 c10, .int .u8 ik, .int .u8 io, .int .u32 iv, .int .i64 iwd, .string inn, .slice iA ni ic] 35)).alloc (.cells #[.int .i64 0, .int .i64 0, .slice none 0 0, .slice none 0 0, .slice none 0 0, .slice none 0 0, .int .i64 0, .int .i64 0, .int .i64 0, .int .i64 0, .string ⟨#[]⟩, .slice none 0 0, .slice none 0 0, .slice none 0 0, .slice none 0 0, .slice none 0 0, .int .i64 0, .int .i64 0, .int .i64 0, .int .i64 0, .string ⟨#[]⟩, .slice none 0 0] 113) = W := ⟨_, rfl⟩
  have hB := ((Below.refl _ w).alloc (Nat.le_refl _) (.cells #[.int .i64 bl, .int .i64 wd, .slice A2 n2 c2, .slice A3 n3 c3, .slice A4 n4 c4, .slice A5 n5 c5, .int .u8 rk, .int .u8 ro, .int .u32 rv, .int .i64 rwd, .string rn, .slice rA nr rc, .slice A7 n7 c7, .slice A8 n8 c8, .slice A9 n9 c9, .slice A10 n10 c10, .int .u8 ik, .int .u8 io, .int .u32 iv, .int .i64 iwd, .string inn, .slice iA ni ic] 35)).alloc (by simp) (.cells #[.int .i64 0, .int .i64 0, .slice none 0 0, .slice none 0 0, .slice none 0 0, .slice none 0 0, .int .i64 0, .int .i64 0, .int .i64 0, .int .i64 0, .string ⟨#[]⟩, .slice none 0 0, .slice none 0 0, .slice none 0 0, .slice none 0 0, .slice none 0 0, .int .i64 0, .int .i64 0, .int .i64 0, .int .i64 0, .string ⟨#[]⟩, .slice none 0 0] 113)
  have hb1 := (Blk.new w 35 #[.int .i64 bl, .int .i64 wd, .slice A2 n2 c2, .slice A3 n3 c3, .slice A4 n4 c4, .slice A5 n5 c5, .int .u8 rk, .int .u8 ro, .int .u32 rv, .int .i64 rwd, .string rn, .slice rA nr rc, .slice A7 n7 c7, .slice A8 n8 c8, .slice A9 n9 c9, .slice A10 n10 c10, .int .u8 ik, .int .u8 io, .int .u32 iv, .int .i64 iwd, .string inn, .slice iA ni ic]).alloc (.cells #[.int .i64 0, .int .i64 0, .slice none 0 0, .slice none 0 0, .slice none 0 0, .slice none 0 0, .int .i64 0, .int .i64 0, .int .i64 0, .int .i64 0, .string ⟨#[]⟩, .slice none 0 0, .slice none 0 0, .slice none 0 0, .slice none 0 0, .slice none 0 0, .int .i64 0, .int .i64 0, .int .i64 0, .int .i64 0, .string ⟨#[]⟩, .slice none 0 0] 113)
  have hb2 := Blk.new (w.alloc (.cells #[.int .i64 bl, .int .i64 wd, .slice A2 n2 c2, .slice A3 n3 c3, .slice A4 n4 c4, .slice A5 n5 c5, .int .u8 rk, .int .u8 ro, .int .u32 rv, .int .i64 rwd, .string rn, .slice rA nr rc, .slice A7 n7 c7, .slice A8 n8 c8, .slice A9 n9 c9, .slice A10 n10 c10, .int .u8 ik, .int .u8 io, .int .u32 iv, .int .i64 iwd, .string inn, .slice iA ni ic] 35)) 113 #[.int .i64 0, .int .i64 0, .slice none 0 0, .slice none 0 0, .slice none 0 0, .slice none 0 0, .int .i64 0, .int .i64 0, .int .i64 0, .int .i64 0, .string ⟨#[]⟩, .slice none 0 0, .slice none 0 0, .slice none 0 0, .slice none 0 0, .slice none 0 0, .int .i64 0, .int .i64 0, .int .i64 0, .int .i64 0, .string ⟨#[]⟩, .slice none 0 0]
  rw [World.size_alloc] at hb2
  rw [hW1] at hB hb1 hb2
  obtain ⟨g1, hg1⟩ : ∃ g, w.heap.size = g := ⟨_, rfl⟩
  obtain ⟨g2, hg2⟩ : ∃ g, w.heap.size + 1 = g := ⟨_, rfl⟩
  rw [hg1] at hb1
  rw [hg2] at hb2
  replace hd2 := Lib.hid hd2
  replace hd3 := Lib.hid hd3
  replace hd4 := Lib.hid hd4
  replace hd5 := Lib.hid hd5
  replace hcr := Lib.hid hcr
  replace hci := Lib.hid hci
  replace hcw := Lib.hid hcw
  replace hcv := Lib.hid hcv
  replace hxr := Lib.hid hxr
  replace hxi := Lib.hid hxi
  replace hn2 := Lib.hid hn2
  replace hn3 := Lib.hid hn3
  replace hn4 := Lib.hid hn4
  replace hn5 := Lib.hid hn5
  replace hn7 := Lib.hid hn7
  replace hn8 := Lib.hid hn8
  replace hn9 := Lib.hid hn9
  replace hn10 := Lib.hid hn10
  replace hnr := Lib.hid hnr
  replace hni := Lib.hid hni
  replace k6 := Lib.hid k6
  replace k7 := Lib.hid k7
  replace s6 := Lib.hid s6
  replace s7 := Lib.hid s7
  replace hszi := Lib.hid hszi
  replace hszp := Lib.hid hszp
  replace hW1 := Lib.hid hW1
  replace hB := Lib.hid hB
  replace hb1 := Lib.hid hb1
  replace hb2 := Lib.hid hb2
  replace hg1 := Lib.hid hg1
  replace hg2 := Lib.hid hg2
  clear k1 k2 k3 k4 k5 k8 k9 k10 s5 s8 s9 s10 hax hay hl7 hl8 hs
  go_enter Try.func64, Try.ntmps64
  go_upto_region 1 with (fail)
  rw [hW1.out, hg2.out, hg1.out]
  go_cut [3] (fun v3 wx => ∃ (B2 : Option Addr) (d2 : Nat) (B3 : Option Addr) (d3 : Nat) (B4 : Option Addr) (d4 : Nat) (B5 : Option Addr) (d5 : Nat) (qk qo qv qw : Int) (qn : ByteArray) (qA : Option Addr) (qc : Nat) (qs : List (Ex Loc)) (B9 : Option Addr) (d9 : Nat) (work2 : List (St Loc)) (B10 : Option Addr) (d10 : Nat) (recov2 : List (St Loc)) (jk jo jv jw : Int) (jn : ByteArray) (jA : Option Addr) (jc : Nat) (js : List (Ex Loc)) (D : World → Prop) (bs : List Nat) (g3 : Nat), v3 = .pointer (some ⟨g3, 0, none⟩) ∧ Blk wx g3 113 #[.int .i64 bl, .int .i64 wd, .slice B2 n2 d2, .slice B3 n3 d3, .slice B4 n4 d4, .slice B5 n5 d5, .int .i64 qk, .int .i64 qo, .int .i64 qv, .int .i64 qw, .string qn, .slice qA qs.length qc, .slice none 0 0, .slice none 0 0, .slice B9 work2.length d9, .slice B10 recov2.length d10, .int .i64 jk, .int .i64 jo, .int .i64 jv, .int .i64 jw, .string jn, .slice jA js.length jc] ∧ Acc D bs wx ∧ (∀ W, D W → PBeg W W1.heap.size (Pg.mk bl wd ⟨B2, d2⟩ ins ⟨B3, d3⟩ gh ⟨B4, d4⟩ va ⟨B5, d5⟩ ar (Ex.mk ⟨qk, qo, qv, qw, qn⟩ (⟨qA, qc⟩ : Loc) qs) ⟨none, 0⟩ [] ⟨none, 0⟩ [] ⟨B9, d9⟩ work2 ⟨B10, d10⟩ recov2 (Ex.mk ⟨jk, jo, jv, jw, jn⟩ (⟨jA, jc⟩ : Loc) js))) ∧ g3 ∉ bs ∧ W1.heap.size ≤ g3 ∧ (Ex.mk ⟨qk, qo, qv, qw, qn⟩ (⟨qA, qc⟩ : Loc) qs).plain = xr.plain ∧ plainS work2 = plainS work ∧ plainS recov2 = plainS recov ∧ (Ex.mk ⟨jk, jo, jv, jw, jn⟩ (⟨jA, jc⟩ : Loc) js).plain = xi.plain ∧ Below W1.heap.size W1 wx)
  case first =>
    have hBd := Lib.hid ((Below.refl W1.heap.size W1).drew)
    have hbyd := Lib.hid (hb1.out.below hBd.out hb1.out.lt)
    have hby0 := hb1.out
    have hgyl := Lib.hid hb1.out.lt
    have hA0 := acc0 W1.drew
    obtain ⟨S, hSi, hSe⟩ : ∃ S : World → Prop, (∀ W, (W.cell? ⟨g1, 0, none⟩ = some (.int .i64 bl) ∧ W.cell? ⟨g1, 1, none⟩ = some (.int .i64 wd) ∧ W.cell? ⟨g1, 2, none⟩ = some (.slice A2 n2 c2) ∧ W.cell? ⟨g1, 3, none⟩ = some (.slice A3 n3 c3) ∧ W.cell? ⟨g1, 4, none⟩ = some (.slice A4 n4 c4) ∧ W.cell? ⟨g1, 5, none⟩ = some (.slice A5 n5 c5) ∧ W.cell? ⟨g1, 6, none⟩ = some (.int .u8 rk) ∧ W.cell? ⟨g1, 7, none⟩ = some (.int .u8 ro) ∧ W.cell? ⟨g1, 8, none⟩ = some (.int .u32 rv) ∧ W.cell? ⟨g1, 9, none⟩ = some (.int .i64 rwd) ∧ W.cell? ⟨g1, 10, none⟩ = some (.string rn) ∧ W.cell? ⟨g1, 11, none⟩ = some (.slice rA nr rc) ∧ W.cell? ⟨g1, 14, none⟩ = some (.slice A9 n9 c9) ∧ W.cell? ⟨g1, 15, none⟩ = some (.slice A10 n10 c10) ∧ W.cell? ⟨g1, 16, none⟩ = some (.int .u8 ik) ∧ W.cell? ⟨g1, 17, none⟩ = some (.int .u8 io) ∧ W.cell? ⟨g1, 18, none⟩ = some (.int .u32 iv) ∧ W.cell? ⟨g1, 19, none⟩ = some (.int .i64 iwd) ∧ W.cell? ⟨g1, 20, none⟩ = some (.string inn) ∧ W.cell? ⟨g1, 21, none⟩ = some (.slice iA ni ic)) → S W) ∧ (∀ W, S W → (W.cell? ⟨g1, 0, none⟩ = some (.int .i64 bl) ∧ W.cell? ⟨g1, 1, none⟩ = some (.int .i64 wd) ∧ W.cell? ⟨g1, 2, none⟩ = some (.slice A2 n2 c2) ∧ W.cell? ⟨g1, 3, none⟩ = some (.slice A3 n3 c3) ∧ W.cell? ⟨g1, 4, none⟩ = some (.slice A4 n4 c4) ∧ W.cell? ⟨g1, 5, none⟩ = some (.slice A5 n5 c5) ∧ W.cell? ⟨g1, 6, none⟩ = some (.int .u8 rk) ∧ W.cell? ⟨g1, 7, none⟩ = some (.int .u8 ro) ∧ W.cell? ⟨g1, 8, none⟩ = some (.int .u32 rv) ∧ W.cell? ⟨g1, 9, none⟩ = some (.int .i64 rwd) ∧ W.cell? ⟨g1, 10, none⟩ = some (.string rn) ∧ W.cell? ⟨g1, 11, none⟩ = some (.slice rA nr rc) ∧ W.cell? ⟨g1, 14, none⟩ = some (.slice A9 n9 c9) ∧ W.cell? ⟨g1, 15, none⟩ = some (.slice A10 n10 c10) ∧ W.cell? ⟨g1, 16, none⟩ = some (.int .u8 ik) ∧ W.cell? ⟨g1, 17, none⟩ = some (.int .u8 io) ∧ W.cell? ⟨g1, 18, none⟩ = some (.int .u32 iv) ∧ W.cell? ⟨g1, 19, none⟩ = some (.int .i64 iwd) ∧ W.cell? ⟨g1, 20, none⟩ = some (.string inn) ∧ W.cell? ⟨g1, 21, none⟩ = some (.slice iA ni ic))) := ⟨fun W => W.cell? ⟨g1, 0, none⟩ = some (.int .i64 bl) ∧ W.cell? ⟨g1, 1, none⟩ = some (.int .i64 wd) ∧ W.cell? ⟨g1, 2, none⟩ = some (.slice A2 n2 c2) ∧ W.cell? ⟨g1, 3, none⟩ = some (.slice A3 n3 c3) ∧ W.cell? ⟨g1, 4, none⟩ = some (.slice A4 n4 c4) ∧ W.cell? ⟨g1, 5, none⟩ = some (.slice A5 n5 c5) ∧ W.cell? ⟨g1, 6, none⟩ = some (.int .u8 rk) ∧ W.cell? ⟨g1, 7, none⟩ = some (.int .u8 ro) ∧ W.cell? ⟨g1, 8, none⟩ = some (.int .u32 rv) ∧ W.cell? ⟨g1, 9, none⟩ = some (.int .i64 rwd) ∧ W.cell? ⟨g1, 10, none⟩ = some (.string rn) ∧ W.cell? ⟨g1, 11, none⟩ = some (.slice rA nr rc) ∧ W.cell? ⟨g1, 14, none⟩ = some (.slice A9 n9 c9) ∧ W.cell? ⟨g1, 15, none⟩ = some (.slice A10 n10 c10) ∧ W.cell? ⟨g1, 16, none⟩ = some (.int .u8 ik) ∧ W.cell? ⟨g1, 17, none⟩ = some (.int .u8 io) ∧ W.cell? ⟨g1, 18, none⟩ = some (.int .u32 iv) ∧ W.cell? ⟨g1, 19, none⟩ = some (.int .i64 iwd) ∧ W.cell? ⟨g1, 20, none⟩ = some (.string inn) ∧ W.cell? ⟨g1, 21, none⟩ = some (.slice iA ni ic), fun _ h => h, fun _ h => h⟩
    have hS : S W1.drew := hSi _ ⟨hby0.cell 0, hby0.cell 1, hby0.cell 2, hby0.cell 3, hby0.cell 4, hby0.cell 5, hby0.cell 6, hby0.cell 7, hby0.cell 8, hby0.cell 9, hby0.cell 10, hby0.cell 11, hby0.cell 14, hby0.cell 15, hby0.cell 16, hby0.cell 17, hby0.cell 18, hby0.cell 19, hby0.cell 20, hby0.cell 21⟩
    replace hSi := Lib.hid hSi
    replace hSe := Lib.hid hSe
    refine wp_region_held (S := S) (by kernel_rfl) ?_
    change wpAnyH _ _ _ _ _ _ _ _ (World.drew _)
    clear hby0
    replace hA0 := Lib.hid hA0
    refine takeH 0 (v := ?_) rfl (by kernel_rfl) (by kernel_rfl) (by kernel_rfl) (fun _ _ _ h => h) (by rfl) hS ?_ ?_
    rotate_left
    · (intro wz hSw; obtain ⟨z0, z1, z2, z3, z4, z5, z6, z7, z8, z9, z10, z11, z12, z13, z14, z15, z16, z17, z18, z19⟩ := hSe.out _ hSw; go_simp; try with_reducible rfl)
    try simp only [Act.put, List.setIfInBounds_toArray, List.set_cons_zero, List.set_cons_succ]
    refine takeH 2 (v := ?_) rfl (by kernel_rfl) (by kernel_rfl) (by kernel_rfl) (fun _ _ _ h => h) (by rfl) hS ?_ ?_
    rotate_left
    · (intro wz hSw; obtain ⟨z0, z1, z2, z3, z4, z5, z6, z7, z8, z9, z10, z11, z12, z13, z14, z15, z16, z17, z18, z19⟩ := hSe.out _ hSw; go_simp; try with_reducible rfl)
    try simp only [Act.put, List.setIfInBounds_toArray, List.set_cons_zero, List.set_cons_succ]
    refine takeH 4 (v := ?_) rfl (by kernel_rfl) (by kernel_rfl) (by kernel_rfl) (fun _ _ _ h => h) (by rfl) hS ?_ ?_
    rotate_left
    · (intro wz hSw; obtain ⟨z0, z1, z2, z3, z4, z5, z6, z7, z8, z9, z10, z11, z12, z13, z14, z15, z16, z17, z18, z19⟩ := hSe.out _ hSw; go_simp; try with_reducible rfl)
    try simp only [Act.put, List.setIfInBounds_toArray, List.set_cons_zero, List.set_cons_succ]
    refine takeH 7 (v := ?_) rfl (by kernel_rfl) (by kernel_rfl) (by kernel_rfl) (fun _ _ _ h => h) (by rfl) hS ?_ ?_
    rotate_left
    · (intro wz hSw; obtain ⟨z0, z1, z2, z3, z4, z5, z6, z7, z8, z9, z10, z11, z12, z13, z14, z15, z16, z17, z18, z19⟩ := hSe.out _ hSw; go_simp; try with_reducible rfl)
    try simp only [Act.put, List.setIfInBounds_toArray, List.set_cons_zero, List.set_cons_succ]
    refine takeH 10 (v := ?_) rfl (by kernel_rfl) (by kernel_rfl) (by kernel_rfl) (fun _ _ _ h => h) (by rfl) hS ?_ ?_
    rotate_left
    · (intro wz hSw; obtain ⟨z0, z1, z2, z3, z4, z5, z6, z7, z8, z9, z10, z11, z12, z13, z14, z15, z16, z17, z18, z19⟩ := hSe.out _ hSw; go_simp; try with_reducible rfl)
    try simp only [Act.put, List.setIfInBounds_toArray, List.set_cons_zero, List.set_cons_succ]
    refine takeH 13 (v := ?_) rfl (by kernel_rfl) (by kernel_rfl) (by kernel_rfl) (fun _ _ _ h => h) (by rfl) hS ?_ ?_
    rotate_left
    · (intro wz hSw; obtain ⟨z0, z1, z2, z3, z4, z5, z6, z7, z8, z9, z10, z11, z12, z13, z14, z15, z16, z17, z18, z19⟩ := hSe.out _ hSw; go_simp; try with_reducible rfl)
    try simp only [Act.put, List.setIfInBounds_toArray, List.set_cons_zero, List.set_cons_succ]
    refine takeH 16 (v := ?_) rfl (by kernel_rfl) (by kernel_rfl) (by kernel_rfl) (fun _ _ _ h => h) (by rfl) hS ?_ ?_
    rotate_left
    · (intro wz hSw; obtain ⟨z0, z1, z2, z3, z4, z5, z6, z7, z8, z9, z10, z11, z12, z13, z14, z15, z16, z17, z18, z19⟩ := hSe.out _ hSw; go_simp; try with_reducible rfl)
    try simp only [Act.put, List.setIfInBounds_toArray, List.set_cons_zero, List.set_cons_succ]
    refine takeH 19 (v := ?_) rfl (by kernel_rfl) (by kernel_rfl) (by kernel_rfl) (fun _ _ _ h => h) (by rfl) hS ?_ ?_
    rotate_left
    · (intro wz hSw; obtain ⟨z0, z1, z2, z3, z4, z5, z6, z7, z8, z9, z10, z11, z12, z13, z14, z15, z16, z17, z18, z19⟩ := hSe.out _ hSw; go_simp; try with_reducible rfl)
    try simp only [Act.put, List.setIfInBounds_toArray, List.set_cons_zero, List.set_cons_succ]
    refine takeH 22 (v := ?_) rfl (by kernel_rfl) (by kernel_rfl) (by kernel_rfl) (fun _ _ _ h => h) (by rfl) hS ?_ ?_
    rotate_left
    · (intro wz hSw; obtain ⟨z0, z1, z2, z3, z4, z5, z6, z7, z8, z9, z10, z11, z12, z13, z14, z15, z16, z17, z18, z19⟩ := hSe.out _ hSw; go_simp; try with_reducible rfl)
    try simp only [Act.put, List.setIfInBounds_toArray, List.set_cons_zero, List.set_cons_succ]
    refine takeH 25 (v := ?_) rfl (by kernel_rfl) (by kernel_rfl) (by kernel_rfl) (fun _ _ _ h => h) (by rfl) hS ?_ ?_
    rotate_left
    · (intro wz hSw; obtain ⟨z0, z1, z2, z3, z4, z5, z6, z7, z8, z9, z10, z11, z12, z13, z14, z15, z16, z17, z18, z19⟩ := hSe.out _ hSw; go_simp; try with_reducible rfl)
    try simp only [Act.put, List.setIfInBounds_toArray, List.set_cons_zero, List.set_cons_succ]
    refine takeH 1 (v := .int .i64 bl) rfl (by kernel_rfl) (by kernel_rfl) (by kernel_rfl) (fun _ _ _ h => h) (by rfl) hS ?_ ?_
    · (intro wz hSw; obtain ⟨z0, z1, z2, z3, z4, z5, z6, z7, z8, z9, z10, z11, z12, z13, z14, z15, z16, z17, z18, z19⟩ := hSe.out _ hSw; go_simp)
    try simp only [Act.put, List.setIfInBounds_toArray, List.set_cons_zero, List.set_cons_succ]
    refine takeH 3 (v := .int .i64 wd) rfl (by kernel_rfl) (by kernel_rfl) (by kernel_rfl) (fun _ _ _ h => h) (by rfl) hS ?_ ?_
    · (intro wz hSw; obtain ⟨z0, z1, z2, z3, z4, z5, z6, z7, z8, z9, z10, z11, z12, z13, z14, z15, z16, z17, z18, z19⟩ := hSe.out _ hSw; go_simp)
    try simp only [Act.put, List.setIfInBounds_toArray, List.set_cons_zero, List.set_cons_succ]
    refine takeH 5 (v := .slice A2 n2 c2) rfl (by kernel_rfl) (by kernel_rfl) (by kernel_rfl) (fun _ _ _ h => h) (by rfl) hS ?_ ?_
    · (intro wz hSw; obtain ⟨z0, z1, z2, z3, z4, z5, z6, z7, z8, z9, z10, z11, z12, z13, z14, z15, z16, z17, z18, z19⟩ := hSe.out _ hSw; go_simp)
    try simp only [Act.put, List.setIfInBounds_toArray, List.set_cons_zero, List.set_cons_succ]
    refine takeH 8 (v := .slice A3 n3 c3) rfl (by kernel_rfl) (by kernel_rfl) (by kernel_rfl) (fun _ _ _ h => h) (by rfl) hS ?_ ?_
    · (intro wz hSw; obtain ⟨z0, z1, z2, z3, z4, z5, z6, z7, z8, z9, z10, z11, z12, z13, z14, z15, z16, z17, z18, z19⟩ := hSe.out _ hSw; go_simp)
    try simp only [Act.put, List.setIfInBounds_toArray, List.set_cons_zero, List.set_cons_succ]
    refine takeH 11 (v := .slice A4 n4 c4) rfl (by kernel_rfl) (by kernel_rfl) (by kernel_rfl) (fun _ _ _ h => h) (by rfl) hS ?_ ?_
    · (intro wz hSw; obtain ⟨z0, z1, z2, z3, z4, z5, z6, z7, z8, z9, z10, z11, z12, z13, z14, z15, z16, z17, z18, z19⟩ := hSe.out _ hSw; go_simp)
    try simp only [Act.put, List.setIfInBounds_toArray, List.set_cons_zero, List.set_cons_succ]
    refine takeH 14 (v := .slice A5 n5 c5) rfl (by kernel_rfl) (by kernel_rfl) (by kernel_rfl) (fun _ _ _ h => h) (by rfl) hS ?_ ?_
    · (intro wz hSw; obtain ⟨z0, z1, z2, z3, z4, z5, z6, z7, z8, z9, z10, z11, z12, z13, z14, z15, z16, z17, z18, z19⟩ := hSe.out _ hSw; go_simp)
    try simp only [Act.put, List.setIfInBounds_toArray, List.set_cons_zero, List.set_cons_succ]
    refine takeH 17 (v := .agg #[.int .u8 rk, .int .u8 ro, .int .u32 rv, .int .i64 rwd, .string rn, .slice rA nr rc]) rfl (by kernel_rfl) (by kernel_rfl) (by kernel_rfl) (fun _ _ _ h => h) (by rfl) hS ?_ ?_
    · (intro wz hSw; obtain ⟨z0, z1, z2, z3, z4, z5, z6, z7, z8, z9, z10, z11, z12, z13, z14, z15, z16, z17, z18, z19⟩ := hSe.out _ hSw; go_simp)
    try simp only [Act.put, List.setIfInBounds_toArray, List.set_cons_zero, List.set_cons_succ]
    refine takeH 20 (v := .slice A9 n9 c9) rfl (by kernel_rfl) (by kernel_rfl) (by kernel_rfl) (fun _ _ _ h => h) (by rfl) hS ?_ ?_
    · (intro wz hSw; obtain ⟨z0, z1, z2, z3, z4, z5, z6, z7, z8, z9, z10, z11, z12, z13, z14, z15, z16, z17, z18, z19⟩ := hSe.out _ hSw; go_simp)
    try simp only [Act.put, List.setIfInBounds_toArray, List.set_cons_zero, List.set_cons_succ]
    refine takeH 23 (v := .slice A10 n10 c10) rfl (by kernel_rfl) (by kernel_rfl) (by kernel_rfl) (fun _ _ _ h => h) (by rfl) hS ?_ ?_
    · (intro wz hSw; obtain ⟨z0, z1, z2, z3, z4, z5, z6, z7, z8, z9, z10, z11, z12, z13, z14, z15, z16, z17, z18, z19⟩ := hSe.out _ hSw; go_simp)
    try simp only [Act.put, List.setIfInBounds_toArray, List.set_cons_zero, List.set_cons_succ]
    refine takeH 26 (v := .agg #[.int .u8 ik, .int .u8 io, .int .u32 iv, .int .i64 iwd, .string inn, .slice iA ni ic]) rfl (by kernel_rfl) (by kernel_rfl) (by kernel_rfl) (fun _ _ _ h => h) (by rfl) hS ?_ ?_
    · (intro wz hSw; obtain ⟨z0, z1, z2, z3, z4, z5, z6, z7, z8, z9, z10, z11, z12, z13, z14, z15, z16, z17, z18, z19⟩ := hSe.out _ hSw; go_simp)
    try simp only [Act.put, List.setIfInBounds_toArray, List.set_cons_zero, List.set_cons_succ]
    refine callH2 6 29 rfl rfl (by kernel_rfl) (fun K hK => ?_) (fun K hK => ?_)
    · go_simp
      have hcc := Lib.hid (hd2.out _ (below_and hB.out hBd.out))
      go_wp2_with (go_at_call 78; refine hcc.out.mono ?_; rintro e U1 ⟨⟨B2, d2, rfl, hoX⟩, hB2⟩)
      clear hcc
      have hloW : W1.heap.size ≤ (W1.drew).heap.size := hBd.out.size
      have hbN1 := Lib.hid (hbyd.out.below hB2 hbyd.out.lt)
      have hBN1 := Lib.hid (below_and hBd.out hB2)
      have hAN1 := hA0.out.new hB2
      have hAA1 := Lib.hid (hAN1.add (keep_row W1.heap.size 138 3 n2 ⟨B2, d2⟩ (cellsD ins)) (own_base hoX hloW))
      clear hAN1
      clear hB2 hoX hloW
      refine hK.out _ _ (hSi.out _ ⟨hbN1.out.cell 0, hbN1.out.cell 1, hbN1.out.cell 2, hbN1.out.cell 3, hbN1.out.cell 4, hbN1.out.cell 5, hbN1.out.cell 6, hbN1.out.cell 7, hbN1.out.cell 8, hbN1.out.cell 9, hbN1.out.cell 10, hbN1.out.cell 11, hbN1.out.cell 14, hbN1.out.cell 15, hbN1.out.cell 16, hbN1.out.cell 17, hbN1.out.cell 18, hbN1.out.cell 19, hbN1.out.cell 20, hbN1.out.cell 21⟩) (fun hSn => ?_)
      clear hK K hS
      have hS := hSn
      clear hSn
      refine callH2 9 29 rfl rfl (by kernel_rfl) (fun K hK => ?_) (fun K hK => ?_)
      · go_simp
        have hcc := Lib.hid (hd3.out _ (below_and hB.out hBN1.out))
        go_wp2_with (go_at_call 78; refine hcc.out.mono ?_; rintro e U2 ⟨⟨B3, d3, rfl, hoX⟩, hB2⟩)
        clear hcc
        have hloW : W1.heap.size ≤ (U1).heap.size := hBN1.out.size
        have hbN2 := Lib.hid (hbN1.out.below hB2 hbN1.out.lt)
        have hBN2 := Lib.hid (below_and hBN1.out hB2)
        have hAN2 := hAA1.out.new hB2
        have hAA2 := Lib.hid (hAN2.add (keep_row W1.heap.size 138 3 n3 ⟨B3, d3⟩ (cellsD gh)) (own_base hoX hloW))
        clear hAN2
        clear hB2 hoX hloW
        refine hK.out _ _ (hSi.out _ ⟨hbN2.out.cell 0, hbN2.out.cell 1, hbN2.out.cell 2, hbN2.out.cell 3, hbN2.out.cell 4, hbN2.out.cell 5, hbN2.out.cell 6, hbN2.out.cell 7, hbN2.out.cell 8, hbN2.out.cell 9, hbN2.out.cell 10, hbN2.out.cell 11, hbN2.out.cell 14, hbN2.out.cell 15, hbN2.out.cell 16, hbN2.out.cell 17, hbN2.out.cell 18, hbN2.out.cell 19, hbN2.out.cell 20, hbN2.out.cell 21⟩) (fun hSn => ?_)
        clear hK K hS
        have hS := hSn
        clear hSn
        refine callH2 12 29 rfl rfl (by kernel_rfl) (fun K hK => ?_) (fun K hK => ?_)
        · go_simp
          have hcc := Lib.hid (hd4.out _ (below_and hB.out hBN2.out))
          go_wp2_with (go_at_call 78; refine hcc.out.mono ?_; rintro e U3 ⟨⟨B4, d4, rfl, hoX⟩, hB2⟩)
          clear hcc
          have hloW : W1.heap.size ≤ (U2).heap.size := hBN2.out.size
          have hbN3 := Lib.hid (hbN2.out.below hB2 hbN2.out.lt)
          have hBN3 := Lib.hid (below_and hBN2.out hB2)
          have hAN3 := hAA2.out.new hB2
          have hAA3 := Lib.hid (hAN3.add (keep_row W1.heap.size 138 3 n4 ⟨B4, d4⟩ (cellsD va)) (own_base hoX hloW))
          clear hAN3
          clear hB2 hoX hloW
          refine hK.out _ _ (hSi.out _ ⟨hbN3.out.cell 0, hbN3.out.cell 1, hbN3.out.cell 2, hbN3.out.cell 3, hbN3.out.cell 4, hbN3.out.cell 5, hbN3.out.cell 6, hbN3.out.cell 7, hbN3.out.cell 8, hbN3.out.cell 9, hbN3.out.cell 10, hbN3.out.cell 11, hbN3.out.cell 14, hbN3.out.cell 15, hbN3.out.cell 16, hbN3.out.cell 17, hbN3.out.cell 18, hbN3.out.cell 19, hbN3.out.cell 20, hbN3.out.cell 21⟩) (fun hSn => ?_)
          clear hK K hS
          have hS := hSn
          clear hSn
          refine callH2 15 29 rfl rfl (by kernel_rfl) (fun K hK => ?_) (fun K hK => ?_)
          · go_simp
            have hcc := Lib.hid (hd5.out _ (below_and hB.out hBN3.out))
            go_wp2_with (go_at_call 78; refine hcc.out.mono ?_; rintro e U4 ⟨⟨B5, d5, rfl, hoX⟩, hB2⟩)
            clear hcc
            have hloW : W1.heap.size ≤ (U3).heap.size := hBN3.out.size
            have hbN4 := Lib.hid (hbN3.out.below hB2 hbN3.out.lt)
            have hBN4 := Lib.hid (below_and hBN3.out hB2)
            have hAN4 := hAA3.out.new hB2
            have hAA4 := Lib.hid (hAN4.add (keep_row W1.heap.size 138 3 n5 ⟨B5, d5⟩ (cellsD ar)) (own_base hoX hloW))
            clear hAN4
            clear hB2 hoX hloW
            refine hK.out _ _ (hSi.out _ ⟨hbN4.out.cell 0, hbN4.out.cell 1, hbN4.out.cell 2, hbN4.out.cell 3, hbN4.out.cell 4, hbN4.out.cell 5, hbN4.out.cell 6, hbN4.out.cell 7, hbN4.out.cell 8, hbN4.out.cell 9, hbN4.out.cell 10, hbN4.out.cell 11, hbN4.out.cell 14, hbN4.out.cell 15, hbN4.out.cell 16, hbN4.out.cell 17, hbN4.out.cell 18, hbN4.out.cell 19, hbN4.out.cell 20, hbN4.out.cell 21⟩) (fun hSn => ?_)
            clear hK K hS
            have hS := hSn
            clear hSn
            refine callH2 18 29 rfl rfl (by kernel_rfl) (fun K hK => ?_) (fun K hK => ?_)
            · go_simp
              have hcc := Lib.hid (hcr.out _ (below_and hB.out hBN4.out))
              go_wp2_with (go_at_call 79; refine hcc.out.mono ?_; rintro e U5 ⟨⟨qk, qo, qv, qw, qn, qA, qc, qs, rfl, hp18, hoX⟩, hB2⟩)
              clear hcc
              have hloW : W1.heap.size ≤ (U4).heap.size := hBN4.out.size
              have hbN5 := Lib.hid (hbN4.out.below hB2 hbN4.out.lt)
              have hBN5 := Lib.hid (below_and hBN4.out hB2)
              have hAN5 := hAA4.out.new hB2
              have hAA5 := Lib.hid (hAN5.add (keep_ex eR W1.heap.size (Ex.mk ⟨qk, qo, qv, qw, qn⟩ (⟨qA, qc⟩ : Loc) qs)) (hoX.base_le hloW))
              clear hAN5
              replace hp18 := Lib.hid hp18
              clear hB2 hoX hloW
              refine hK.out _ _ (hSi.out _ ⟨hbN5.out.cell 0, hbN5.out.cell 1, hbN5.out.cell 2, hbN5.out.cell 3, hbN5.out.cell 4, hbN5.out.cell 5, hbN5.out.cell 6, hbN5.out.cell 7, hbN5.out.cell 8, hbN5.out.cell 9, hbN5.out.cell 10, hbN5.out.cell 11, hbN5.out.cell 14, hbN5.out.cell 15, hbN5.out.cell 16, hbN5.out.cell 17, hbN5.out.cell 18, hbN5.out.cell 19, hbN5.out.cell 20, hbN5.out.cell 21⟩) (fun hSn => ?_)
              clear hK K hS
              have hS := hSn
              clear hSn
              refine callH2 21 29 rfl rfl (by kernel_rfl) (fun K hK => ?_) (fun K hK => ?_)
              · go_simp
                have hcc := Lib.hid (hcw.out _ (below_and hB.out hBN5.out))
                go_wp2_with (go_at_call 80; refine hcc.out.mono ?_; rintro e U6 ⟨⟨B9, d9, work2, rfl, hp21, hoX⟩, hB2⟩)
                clear hcc
                have hloW : W1.heap.size ≤ (U5).heap.size := hBN5.out.size
                have hbN6 := Lib.hid (hbN5.out.below hB2 hbN5.out.lt)
                have hBN6 := Lib.hid (below_and hBN5.out hB2)
                have hAN6 := hAA5.out.new hB2
                have hAA6 := Lib.hid (hAN6.add (keep_lst eR W1.heap.size ⟨B9, d9⟩ work2) (hoX.base_le hloW))
                clear hAN6
                replace hp21 := Lib.hid hp21
                clear hB2 hoX hloW
                refine hK.out _ _ (hSi.out _ ⟨hbN6.out.cell 0, hbN6.out.cell 1, hbN6.out.cell 2, hbN6.out.cell 3, hbN6.out.cell 4, hbN6.out.cell 5, hbN6.out.cell 6, hbN6.out.cell 7, hbN6.out.cell 8, hbN6.out.cell 9, hbN6.out.cell 10, hbN6.out.cell 11, hbN6.out.cell 14, hbN6.out.cell 15, hbN6.out.cell 16, hbN6.out.cell 17, hbN6.out.cell 18, hbN6.out.cell 19, hbN6.out.cell 20, hbN6.out.cell 21⟩) (fun hSn => ?_)
                clear hK K hS
                have hS := hSn
                clear hSn
                refine callH2 24 29 rfl rfl (by kernel_rfl) (fun K hK => ?_) (fun K hK => ?_)
                · go_simp
                  have hcc := Lib.hid (hcv.out _ (below_and hB.out hBN6.out))
                  go_wp2_with (go_at_call 80; refine hcc.out.mono ?_; rintro e U7 ⟨⟨B10, d10, recov2, rfl, hp24, hoX⟩, hB2⟩)
                  clear hcc
                  have hloW : W1.heap.size ≤ (U6).heap.size := hBN6.out.size
                  have hbN7 := Lib.hid (hbN6.out.below hB2 hbN6.out.lt)
                  have hBN7 := Lib.hid (below_and hBN6.out hB2)
                  have hAN7 := hAA6.out.new hB2
                  have hAA7 := Lib.hid (hAN7.add (keep_lst eR W1.heap.size ⟨B10, d10⟩ recov2) (hoX.base_le hloW))
                  clear hAN7
                  replace hp24 := Lib.hid hp24
                  clear hB2 hoX hloW
                  refine hK.out _ _ (hSi.out _ ⟨hbN7.out.cell 0, hbN7.out.cell 1, hbN7.out.cell 2, hbN7.out.cell 3, hbN7.out.cell 4, hbN7.out.cell 5, hbN7.out.cell 6, hbN7.out.cell 7, hbN7.out.cell 8, hbN7.out.cell 9, hbN7.out.cell 10, hbN7.out.cell 11, hbN7.out.cell 14, hbN7.out.cell 15, hbN7.out.cell 16, hbN7.out.cell 17, hbN7.out.cell 18, hbN7.out.cell 19, hbN7.out.cell 20, hbN7.out.cell 21⟩) (fun hSn => ?_)
                  clear hK K hS
                  have hS := hSn
                  clear hSn
                  refine callH2 27 29 rfl rfl (by kernel_rfl) (fun K hK => ?_) (fun K hK => ?_)
                  · go_simp
                    have hcc := Lib.hid (hci.out _ (below_and hB.out hBN7.out))
                    go_wp2_with (go_at_call 79; refine hcc.out.mono ?_; rintro e U8 ⟨⟨jk, jo, jv, jw, jn, jA, jc, js, rfl, hp27, hoX⟩, hB2⟩)
                    clear hcc
                    have hloW : W1.heap.size ≤ (U7).heap.size := hBN7.out.size
                    have hbN8 := Lib.hid (hbN7.out.below hB2 hbN7.out.lt)
                    have hBN8 := Lib.hid (below_and hBN7.out hB2)
                    have hAN8 := hAA7.out.new hB2
                    have hAA8 := Lib.hid (hAN8.add (keep_ex eR W1.heap.size (Ex.mk ⟨jk, jo, jv, jw, jn⟩ (⟨jA, jc⟩ : Loc) js)) (hoX.base_le hloW))
                    clear hAN8
                    replace hp27 := Lib.hid hp27
                    clear hB2 hoX hloW
                    refine hK.out _ _ (hSi.out _ ⟨hbN8.out.cell 0, hbN8.out.cell 1, hbN8.out.cell 2, hbN8.out.cell 3, hbN8.out.cell 4, hbN8.out.cell 5, hbN8.out.cell 6, hbN8.out.cell 7, hbN8.out.cell 8, hbN8.out.cell 9, hbN8.out.cell 10, hbN8.out.cell 11, hbN8.out.cell 14, hbN8.out.cell 15, hbN8.out.cell 16, hbN8.out.cell 17, hbN8.out.cell 18, hbN8.out.cell 19, hbN8.out.cell 20, hbN8.out.cell 21⟩) (fun hSn => ?_)
                    clear hK K hS
                    have hS := hSn
                    clear hSn
                    refine takeH 28 (v := ?_) rfl (by kernel_rfl) (by kernel_rfl) (by kernel_rfl) (fun _ _ _ h => h) (by rfl) hS ?_ ?_
                    rotate_left
                    · (intro wz hSw; obtain ⟨z0, z1, z2, z3, z4, z5, z6, z7, z8, z9, z10, z11, z12, z13, z14, z15, z16, z17, z18, z19⟩ := hSe.out _ hSw; go_simp; try with_reducible rfl)
                    try simp only [Act.put, List.setIfInBounds_toArray, List.set_cons_zero, List.set_cons_succ]
                    refine callH 29 rfl (by kernel_rfl) (fun K hK => ?_)
                    go_simp
                    have hBz := (Below.refl _ (U8)).alloc (Nat.le_refl _) (.cells #[.int .i64 0, .int .i64 0, .slice none 0 0, .slice none 0 0, .slice none 0 0, .slice none 0 0, .int .i64 0, .int .i64 0, .int .i64 0, .int .i64 0, .string ⟨#[]⟩, .slice none 0 0, .slice none 0 0, .slice none 0 0, .slice none 0 0, .slice none 0 0, .int .i64 0, .int .i64 0, .int .i64 0, .int .i64 0, .string ⟨#[]⟩, .slice none 0 0] 113)
                    have hG0 := Blk.new (U8) 113 #[.int .i64 0, .int .i64 0, .slice none 0 0, .slice none 0 0, .slice none 0 0, .slice none 0 0, .int .i64 0, .int .i64 0, .int .i64 0, .int .i64 0, .string ⟨#[]⟩, .slice none 0 0, .slice none 0 0, .slice none 0 0, .slice none 0 0, .slice none 0 0, .int .i64 0, .int .i64 0, .int .i64 0, .int .i64 0, .string ⟨#[]⟩, .slice none 0 0]
                    obtain ⟨g3, hg3⟩ : ∃ g, (U8).heap.size = g := ⟨_, rfl⟩
                    rw [hg3] at hG0
                    try rw [hg3]
                    have hloW : W1.heap.size ≤ g3 := by have := hBN8.out.size; omega
                    have hgn9 := Lib.hid (acc_new hAA8.out hg3)
                    have hbN9 := Lib.hid (hbN8.out.below hBz hbN8.out.lt)
                    have hBN9 := Lib.hid (below_and hBN8.out hBz)
                    have hAN9 := hAA8.out.new hBz
                    replace hAN9 := Lib.hid hAN9
                    replace hG0 := Lib.hid hG0
                    generalize (U8).alloc (.cells #[.int .i64 0, .int .i64 0, .slice none 0 0, .slice none 0 0, .slice none 0 0, .slice none 0 0, .int .i64 0, .int .i64 0, .int .i64 0, .int .i64 0, .string ⟨#[]⟩, .slice none 0 0, .slice none 0 0, .slice none 0 0, .slice none 0 0, .slice none 0 0, .int .i64 0, .int .i64 0, .int .i64 0, .int .i64 0, .string ⟨#[]⟩, .slice none 0 0] 113) = U9 at *
                    clear hBz hg3
                    refine hK.out _ _ (hSi.out _ ⟨hbN9.out.cell 0, hbN9.out.cell 1, hbN9.out.cell 2, hbN9.out.cell 3, hbN9.out.cell 4, hbN9.out.cell 5, hbN9.out.cell 6, hbN9.out.cell 7, hbN9.out.cell 8, hbN9.out.cell 9, hbN9.out.cell 10, hbN9.out.cell 11, hbN9.out.cell 14, hbN9.out.cell 15, hbN9.out.cell 16, hbN9.out.cell 17, hbN9.out.cell 18, hbN9.out.cell 19, hbN9.out.cell 20, hbN9.out.cell 21⟩) (fun hSn => ?_)
                    clear hK K hS
                    have hS := hSn
                    clear hSn
                    refine callH 30 rfl (by kernel_rfl) (fun K hK => ?_)
                    rw [if_pos (by rfl)]
                    have hth := there_blk_at hG0.out (o := 0) (n := 22) (by decide)
                    have hNb : Blk (World.setCells (U9) g3 0 ([.int .i64 bl, .int .i64 wd, .slice B2 n2 d2, .slice B3 n3 d3, .slice B4 n4 d4, .slice B5 n5 d5, .int .i64 qk, .int .i64 qo, .int .i64 qv, .int .i64 qw, .string qn, .slice qA qs.length qc, .slice none 0 0, .slice none 0 0, .slice B9 work2.length d9, .slice B10 recov2.length d10, .int .i64 jk, .int .i64 jo, .int .i64 jv, .int .i64 jw, .string jn, .slice jA js.length jc] : List Value)) g3 113 #[.int .i64 bl, .int .i64 wd, .slice B2 n2 d2, .slice B3 n3 d3, .slice B4 n4 d4, .slice B5 n5 d5, .int .i64 qk, .int .i64 qo, .int .i64 qv, .int .i64 qw, .string qn, .slice qA qs.length qc, .slice none 0 0, .slice none 0 0, .slice B9 work2.length d9, .slice B10 recov2.length d10, .int .i64 jk, .int .i64 jo, .int .i64 jv, .int .i64 jw, .string jn, .slice jA js.length jc] := blk_put6 hG0.out (vs := #[.int .i64 bl, .int .i64 wd, .slice B2 n2 d2, .slice B3 n3 d3, .slice B4 n4 d4, .slice B5 n5 d5, .int .i64 qk, .int .i64 qo, .int .i64 qv, .int .i64 qw, .string qn, .slice qA qs.length qc, .slice none 0 0, .slice none 0 0, .slice B9 work2.length d9, .slice B10 recov2.length d10, .int .i64 jk, .int .i64 jo, .int .i64 jv, .int .i64 jw, .string jn, .slice jA js.length jc]) rfl
                    have hoS : Only [g3] (U9) (World.setCells (U9) g3 0 ([.int .i64 bl, .int .i64 wd, .slice B2 n2 d2, .slice B3 n3 d3, .slice B4 n4 d4, .slice B5 n5 d5, .int .i64 qk, .int .i64 qo, .int .i64 qv, .int .i64 qw, .string qn, .slice qA qs.length qc, .slice none 0 0, .slice none 0 0, .slice B9 work2.length d9, .slice B10 recov2.length d10, .int .i64 jk, .int .i64 jo, .int .i64 jv, .int .i64 jw, .string jn, .slice jA js.length jc] : List Value)) := only_setCells (b := g3) ([.int .i64 bl, .int .i64 wd, .slice B2 n2 d2, .slice B3 n3 d3, .slice B4 n4 d4, .slice B5 n5 d5, .int .i64 qk, .int .i64 qo, .int .i64 qv, .int .i64 qw, .string qn, .slice qA qs.length qc, .slice none 0 0, .slice none 0 0, .slice B9 work2.length d9, .slice B10 recov2.length d10, .int .i64 jk, .int .i64 jo, .int .i64 jv, .int .i64 jw, .string jn, .slice jA js.length jc] : List Value) 0 (U9)
                    have hbF := hbN9.out.only hoS (fun hm => Nat.not_lt.2 hloW (by rw [← List.mem_singleton.1 hm]; exact hgyl.out))
                    have hBF : Below W1.heap.size W1 (World.setCells (U9) g3 0 ([.int .i64 bl, .int .i64 wd, .slice B2 n2 d2, .slice B3 n3 d3, .slice B4 n4 d4, .slice B5 n5 d5, .int .i64 qk, .int .i64 qo, .int .i64 qv, .int .i64 qw, .string qn, .slice qA qs.length qc, .slice none 0 0, .slice none 0 0, .slice B9 work2.length d9, .slice B10 recov2.length d10, .int .i64 jk, .int .i64 jo, .int .i64 jv, .int .i64 jw, .string jn, .slice jA js.length jc] : List Value)) := hBN9.out.trans (hoS.below (by have := hBN9.out.size; omega) (by simp; omega))
                    have hAF := Lib.hid (hAN9.out.only hoS hgn9.out)
                    replace hNb := Lib.hid hNb
                    replace hBF := Lib.hid hBF
                    refine wp_store_mid 113 (.tmp 3) (.tmp 36) rfl g3 0 #[.int .i64 bl, .int .i64 wd, .slice B2 n2 d2, .slice B3 n3 d3, .slice B4 n4 d4, .slice B5 n5 d5, .int .i64 qk, .int .i64 qo, .int .i64 qv, .int .i64 qw, .string qn, .slice qA qs.length qc, .slice none 0 0, .slice none 0 0, .slice B9 work2.length d9, .slice B10 recov2.length d10, .int .i64 jk, .int .i64 jo, .int .i64 jv, .int .i64 jw, .string jn, .slice jA js.length jc] rfl rfl hth (by kernel_rfl) (by simp [Value.oneCell']) ?_
                    clear hoS hth
                    refine hK.out _ _ (hSi.out _ ⟨hbF.cell 0, hbF.cell 1, hbF.cell 2, hbF.cell 3, hbF.cell 4, hbF.cell 5, hbF.cell 6, hbF.cell 7, hbF.cell 8, hbF.cell 9, hbF.cell 10, hbF.cell 11, hbF.cell 14, hbF.cell 15, hbF.cell 16, hbF.cell 17, hbF.cell 18, hbF.cell 19, hbF.cell 20, hbF.cell 21⟩) (fun hSn => ?_)
                    clear hK K hS
                    have hS := hSn
                    clear hSn
                    refine wpAnyH_done (by kernel_rfl) ?_ _
                    clear hS hSi hSe
                    go_wp2_with fail
                    go_meet
                    refine ⟨B2, d2, B3, d3, B4, d4, B5, d5, qk, qo, qv, qw, qn, qA, qc, qs, B9, d9, work2, B10, d10, recov2, jk, jo, jv, jw, jn, jA, jc, js, _, _, g3, rfl, hNb.out, hAF.out, fun W h => ?_, hgn9.out, hloW, hp18.out, hp21.out, hp24.out, hp27.out, hBF.out⟩
                    obtain ⟨⟨⟨⟨⟨⟨⟨⟨_, h1⟩, h2⟩, h3⟩, h4⟩, h5⟩, h6⟩, h7⟩, h8⟩ := h
                    exact ⟨by rw [hn2.out] at h1; exact h1, by rw [hn3.out] at h2; exact h2, by rw [hn4.out] at h3; exact h3, by rw [hn5.out] at h4; exact h4, h5, h6, h7, h8⟩
                  · go_simp
                    have hBz := (Below.refl _ (U7)).alloc (Nat.le_refl _) (.cells #[.int .i64 0, .int .i64 0, .slice none 0 0, .slice none 0 0, .slice none 0 0, .slice none 0 0, .int .i64 0, .int .i64 0, .int .i64 0, .int .i64 0, .string ⟨#[]⟩, .slice none 0 0, .slice none 0 0, .slice none 0 0, .slice none 0 0, .slice none 0 0, .int .i64 0, .int .i64 0, .int .i64 0, .int .i64 0, .string ⟨#[]⟩, .slice none 0 0] 113)
                    have hG0 := Blk.new (U7) 113 #[.int .i64 0, .int .i64 0, .slice none 0 0, .slice none 0 0, .slice none 0 0, .slice none 0 0, .int .i64 0, .int .i64 0, .int .i64 0, .int .i64 0, .string ⟨#[]⟩, .slice none 0 0, .slice none 0 0, .slice none 0 0, .slice none 0 0, .slice none 0 0, .int .i64 0, .int .i64 0, .int .i64 0, .int .i64 0, .string ⟨#[]⟩, .slice none 0 0]
                    obtain ⟨g3, hg3⟩ : ∃ g, (U7).heap.size = g := ⟨_, rfl⟩
                    rw [hg3] at hG0
                    try rw [hg3]
                    have hloW : W1.heap.size ≤ g3 := by have := hBN7.out.size; omega
                    have hgn11 := Lib.hid (acc_new hAA7.out hg3)
                    have hbN11 := Lib.hid (hbN7.out.below hBz hbN7.out.lt)
                    have hBN11 := Lib.hid (below_and hBN7.out hBz)
                    have hAN11 := hAA7.out.new hBz
                    replace hAN11 := Lib.hid hAN11
                    replace hG0 := Lib.hid hG0
                    generalize (U7).alloc (.cells #[.int .i64 0, .int .i64 0, .slice none 0 0, .slice none 0 0, .slice none 0 0, .slice none 0 0, .int .i64 0, .int .i64 0, .int .i64 0, .int .i64 0, .string ⟨#[]⟩, .slice none 0 0, .slice none 0 0, .slice none 0 0, .slice none 0 0, .slice none 0 0, .int .i64 0, .int .i64 0, .int .i64 0, .int .i64 0, .string ⟨#[]⟩, .slice none 0 0] 113) = U11 at *
                    clear hBz hg3
                    refine hK.out _ _ (hSi.out _ ⟨hbN11.out.cell 0, hbN11.out.cell 1, hbN11.out.cell 2, hbN11.out.cell 3, hbN11.out.cell 4, hbN11.out.cell 5, hbN11.out.cell 6, hbN11.out.cell 7, hbN11.out.cell 8, hbN11.out.cell 9, hbN11.out.cell 10, hbN11.out.cell 11, hbN11.out.cell 14, hbN11.out.cell 15, hbN11.out.cell 16, hbN11.out.cell 17, hbN11.out.cell 18, hbN11.out.cell 19, hbN11.out.cell 20, hbN11.out.cell 21⟩) (fun hSn => ?_)
                    clear hK K hS
                    have hS := hSn
                    clear hSn
                    refine callH 27 rfl (by kernel_rfl) (fun K hK => ?_)
                    go_simp
                    have hcc := Lib.hid (hci.out _ (below_and hB.out hBN11.out))
                    go_wp2_with (go_at_call 79; refine hcc.out.mono ?_; rintro e U12 ⟨⟨jk, jo, jv, jw, jn, jA, jc, js, rfl, hp27, hoX⟩, hB2⟩)
                    clear hcc
                    have hloW : W1.heap.size ≤ (U11).heap.size := hBN11.out.size
                    have hbN12 := Lib.hid (hbN11.out.below hB2 hbN11.out.lt)
                    have hBN12 := Lib.hid (below_and hBN11.out hB2)
                    have hAN12 := hAN11.out.new hB2
                    have hGN12 := Lib.hid (hG0.out.below hB2 hG0.out.lt)
                    have hAA12 := Lib.hid (hAN12.add (keep_ex eR W1.heap.size (Ex.mk ⟨jk, jo, jv, jw, jn⟩ (⟨jA, jc⟩ : Loc) js)) (hoX.base_le hloW))
                    have hgn12 : g3 ∉ _ ++ (Ex.mk ⟨jk, jo, jv, jw, jn⟩ (⟨jA, jc⟩ : Loc) js).fp := fun hm => (List.mem_append.1 hm).elim hgn11.out (fun hm => by have h1 := (hoX.ge g3 hm).1; have h2 := hG0.out.lt; omega)
                    replace hgn12 := Lib.hid hgn12
                    clear hAN12
                    replace hp27 := Lib.hid hp27
                    clear hB2 hoX hloW
                    refine hK.out _ _ (hSi.out _ ⟨hbN12.out.cell 0, hbN12.out.cell 1, hbN12.out.cell 2, hbN12.out.cell 3, hbN12.out.cell 4, hbN12.out.cell 5, hbN12.out.cell 6, hbN12.out.cell 7, hbN12.out.cell 8, hbN12.out.cell 9, hbN12.out.cell 10, hbN12.out.cell 11, hbN12.out.cell 14, hbN12.out.cell 15, hbN12.out.cell 16, hbN12.out.cell 17, hbN12.out.cell 18, hbN12.out.cell 19, hbN12.out.cell 20, hbN12.out.cell 21⟩) (fun hSn => ?_)
                    clear hK K hS
                    have hS := hSn
                    clear hSn
                    refine takeH 28 (v := ?_) rfl (by kernel_rfl) (by kernel_rfl) (by kernel_rfl) (fun _ _ _ h => h) (by rfl) hS ?_ ?_
                    rotate_left
                    · (intro wz hSw; obtain ⟨z0, z1, z2, z3, z4, z5, z6, z7, z8, z9, z10, z11, z12, z13, z14, z15, z16, z17, z18, z19⟩ := hSe.out _ hSw; go_simp; try with_reducible rfl)
                    try simp only [Act.put, List.setIfInBounds_toArray, List.set_cons_zero, List.set_cons_succ]
                    refine callH 30 rfl (by kernel_rfl) (fun K hK => ?_)
                    rw [if_pos (by rfl)]
                    have hth := there_blk_at hGN12.out (o := 0) (n := 22) (by decide)
                    have hNb : Blk (World.setCells (U12) g3 0 ([.int .i64 bl, .int .i64 wd, .slice B2 n2 d2, .slice B3 n3 d3, .slice B4 n4 d4, .slice B5 n5 d5, .int .i64 qk, .int .i64 qo, .int .i64 qv, .int .i64 qw, .string qn, .slice qA qs.length qc, .slice none 0 0, .slice none 0 0, .slice B9 work2.length d9, .slice B10 recov2.length d10, .int .i64 jk, .int .i64 jo, .int .i64 jv, .int .i64 jw, .string jn, .slice jA js.length jc] : List Value)) g3 113 #[.int .i64 bl, .int .i64 wd, .slice B2 n2 d2, .slice B3 n3 d3, .slice B4 n4 d4, .slice B5 n5 d5, .int .i64 qk, .int .i64 qo, .int .i64 qv, .int .i64 qw, .string qn, .slice qA qs.length qc, .slice none 0 0, .slice none 0 0, .slice B9 work2.length d9, .slice B10 recov2.length d10, .int .i64 jk, .int .i64 jo, .int .i64 jv, .int .i64 jw, .string jn, .slice jA js.length jc] := blk_put6 hGN12.out (vs := #[.int .i64 bl, .int .i64 wd, .slice B2 n2 d2, .slice B3 n3 d3, .slice B4 n4 d4, .slice B5 n5 d5, .int .i64 qk, .int .i64 qo, .int .i64 qv, .int .i64 qw, .string qn, .slice qA qs.length qc, .slice none 0 0, .slice none 0 0, .slice B9 work2.length d9, .slice B10 recov2.length d10, .int .i64 jk, .int .i64 jo, .int .i64 jv, .int .i64 jw, .string jn, .slice jA js.length jc]) rfl
                    have hoS : Only [g3] (U12) (World.setCells (U12) g3 0 ([.int .i64 bl, .int .i64 wd, .slice B2 n2 d2, .slice B3 n3 d3, .slice B4 n4 d4, .slice B5 n5 d5, .int .i64 qk, .int .i64 qo, .int .i64 qv, .int .i64 qw, .string qn, .slice qA qs.length qc, .slice none 0 0, .slice none 0 0, .slice B9 work2.length d9, .slice B10 recov2.length d10, .int .i64 jk, .int .i64 jo, .int .i64 jv, .int .i64 jw, .string jn, .slice jA js.length jc] : List Value)) := only_setCells (b := g3) ([.int .i64 bl, .int .i64 wd, .slice B2 n2 d2, .slice B3 n3 d3, .slice B4 n4 d4, .slice B5 n5 d5, .int .i64 qk, .int .i64 qo, .int .i64 qv, .int .i64 qw, .string qn, .slice qA qs.length qc, .slice none 0 0, .slice none 0 0, .slice B9 work2.length d9, .slice B10 recov2.length d10, .int .i64 jk, .int .i64 jo, .int .i64 jv, .int .i64 jw, .string jn, .slice jA js.length jc] : List Value) 0 (U12)
                    have hbF := hbN12.out.only hoS (fun hm => Nat.not_lt.2 hloW (by rw [← List.mem_singleton.1 hm]; exact hgyl.out))
                    have hBF : Below W1.heap.size W1 (World.setCells (U12) g3 0 ([.int .i64 bl, .int .i64 wd, .slice B2 n2 d2, .slice B3 n3 d3, .slice B4 n4 d4, .slice B5 n5 d5, .int .i64 qk, .int .i64 qo, .int .i64 qv, .int .i64 qw, .string qn, .slice qA qs.length qc, .slice none 0 0, .slice none 0 0, .slice B9 work2.length d9, .slice B10 recov2.length d10, .int .i64 jk, .int .i64 jo, .int .i64 jv, .int .i64 jw, .string jn, .slice jA js.length jc] : List Value)) := hBN12.out.trans (hoS.below (by have := hBN12.out.size; omega) (by simp; omega))
                    have hAF := Lib.hid (hAA12.out.only hoS hgn12.out)
                    replace hNb := Lib.hid hNb
                    replace hBF := Lib.hid hBF
                    refine wp_store_mid 113 (.tmp 3) (.tmp 36) rfl g3 0 #[.int .i64 bl, .int .i64 wd, .slice B2 n2 d2, .slice B3 n3 d3, .slice B4 n4 d4, .slice B5 n5 d5, .int .i64 qk, .int .i64 qo, .int .i64 qv, .int .i64 qw, .string qn, .slice qA qs.length qc, .slice none 0 0, .slice none 0 0, .slice B9 work2.length d9, .slice B10 recov2.length d10, .int .i64 jk, .int .i64 jo, .int .i64 jv, .int .i64 jw, .string jn, .slice jA js.length jc] rfl rfl hth (by kernel_rfl) (by simp [Value.oneCell']) ?_
                    clear hoS hth
                    refine hK.out _ _ (hSi.out _ ⟨hbF.cell 0, hbF.cell 1, hbF.cell 2, hbF.cell 3, hbF.cell 4, hbF.cell 5, hbF.cell 6, hbF.cell 7, hbF.cell 8, hbF.cell 9, hbF.cell 10, hbF.cell 11, hbF.cell 14, hbF.cell 15, hbF.cell 16, hbF.cell 17, hbF.cell 18, hbF.cell 19, hbF.cell 20, hbF.cell 21⟩) (fun hSn => ?_)
                    clear hK K hS
                    have hS := hSn
                    clear hSn
                    refine wpAnyH_done (by kernel_rfl) ?_ _
                    clear hS hSi hSe
                    go_wp2_with fail
                    go_meet
                    refine ⟨B2, d2, B3, d3, B4, d4, B5, d5, qk, qo, qv, qw, qn, qA, qc, qs, B9, d9, work2, B10, d10, recov2, jk, jo, jv, jw, jn, jA, jc, js, _, _, g3, rfl, hNb.out, hAF.out, fun W h => ?_, hgn12.out, hloW, hp18.out, hp21.out, hp24.out, hp27.out, hBF.out⟩
                    obtain ⟨⟨⟨⟨⟨⟨⟨⟨_, h1⟩, h2⟩, h3⟩, h4⟩, h5⟩, h6⟩, h7⟩, h8⟩ := h
                    exact ⟨by rw [hn2.out] at h1; exact h1, by rw [hn3.out] at h2; exact h2, by rw [hn4.out] at h3; exact h3, by rw [hn5.out] at h4; exact h4, h5, h6, h7, h8⟩
                · go_simp
                  have hBz := (Below.refl _ (U6)).alloc (Nat.le_refl _) (.cells #[.int .i64 0, .int .i64 0, .slice none 0 0, .slice none 0 0, .slice none 0 0, .slice none 0 0, .int .i64 0, .int .i64 0, .int .i64 0, .int .i64 0, .string ⟨#[]⟩, .slice none 0 0, .slice none 0 0, .slice none 0 0, .slice none 0 0, .slice none 0 0, .int .i64 0, .int .i64 0, .int .i64 0, .int .i64 0, .string ⟨#[]⟩, .slice none 0 0] 113)
                  have hG0 := Blk.new (U6) 113 #[.int .i64 0, .int .i64 0, .slice none 0 0, .slice none 0 0, .slice none 0 0, .slice none 0 0, .int .i64 0, .int .i64 0, .int .i64 0, .int .i64 0, .string ⟨#[]⟩, .slice none 0 0, .slice none 0 0, .slice none 0 0, .slice none 0 0, .slice none 0 0, .int .i64 0, .int .i64 0, .int .i64 0, .int .i64 0, .string ⟨#[]⟩, .slice none 0 0]
                  obtain ⟨g3, hg3⟩ : ∃ g, (U6).heap.size = g := ⟨_, rfl⟩
                  rw [hg3] at hG0
                  try rw [hg3]
                  have hloW : W1.heap.size ≤ g3 := by have := hBN6.out.size; omega
                  have hgn14 := Lib.hid (acc_new hAA6.out hg3)
                  have hbN14 := Lib.hid (hbN6.out.below hBz hbN6.out.lt)
                  have hBN14 := Lib.hid (below_and hBN6.out hBz)
                  have hAN14 := hAA6.out.new hBz
                  replace hAN14 := Lib.hid hAN14
                  replace hG0 := Lib.hid hG0
                  generalize (U6).alloc (.cells #[.int .i64 0, .int .i64 0, .slice none 0 0, .slice none 0 0, .slice none 0 0, .slice none 0 0, .int .i64 0, .int .i64 0, .int .i64 0, .int .i64 0, .string ⟨#[]⟩, .slice none 0 0, .slice none 0 0, .slice none 0 0, .slice none 0 0, .slice none 0 0, .int .i64 0, .int .i64 0, .int .i64 0, .int .i64 0, .string ⟨#[]⟩, .slice none 0 0] 113) = U14 at *
                  clear hBz hg3
                  refine hK.out _ _ (hSi.out _ ⟨hbN14.out.cell 0, hbN14.out.cell 1, hbN14.out.cell 2, hbN14.out.cell 3, hbN14.out.cell 4, hbN14.out.cell 5, hbN14.out.cell 6, hbN14.out.cell 7, hbN14.out.cell 8, hbN14.out.cell 9, hbN14.out.cell 10, hbN14.out.cell 11, hbN14.out.cell 14, hbN14.out.cell 15, hbN14.out.cell 16, hbN14.out.cell 17, hbN14.out.cell 18, hbN14.out.cell 19, hbN14.out.cell 20, hbN14.out.cell 21⟩) (fun hSn => ?_)
                  clear hK K hS
                  have hS := hSn
                  clear hSn
                  refine callH 24 rfl (by kernel_rfl) (fun K hK => ?_)
                  go_simp
                  have hcc := Lib.hid (hcv.out _ (below_and hB.out hBN14.out))
                  go_wp2_with (go_at_call 80; refine hcc.out.mono ?_; rintro e U15 ⟨⟨B10, d10, recov2, rfl, hp24, hoX⟩, hB2⟩)
                  clear hcc
                  have hloW : W1.heap.size ≤ (U14).heap.size := hBN14.out.size
                  have hbN15 := Lib.hid (hbN14.out.below hB2 hbN14.out.lt)
                  have hBN15 := Lib.hid (below_and hBN14.out hB2)
                  have hAN15 := hAN14.out.new hB2
                  have hGN15 := Lib.hid (hG0.out.below hB2 hG0.out.lt)
                  have hAA15 := Lib.hid (hAN15.add (keep_lst eR W1.heap.size ⟨B10, d10⟩ recov2) (hoX.base_le hloW))
                  have hgn15 : g3 ∉ _ ++ Lst.fp ⟨B10, d10⟩ recov2 := fun hm => (List.mem_append.1 hm).elim hgn14.out (fun hm => by have h1 := (hoX.ge g3 hm).1; have h2 := hG0.out.lt; omega)
                  replace hgn15 := Lib.hid hgn15
                  clear hAN15
                  replace hp24 := Lib.hid hp24
                  clear hB2 hoX hloW
                  refine hK.out _ _ (hSi.out _ ⟨hbN15.out.cell 0, hbN15.out.cell 1, hbN15.out.cell 2, hbN15.out.cell 3, hbN15.out.cell 4, hbN15.out.cell 5, hbN15.out.cell 6, hbN15.out.cell 7, hbN15.out.cell 8, hbN15.out.cell 9, hbN15.out.cell 10, hbN15.out.cell 11, hbN15.out.cell 14, hbN15.out.cell 15, hbN15.out.cell 16, hbN15.out.cell 17, hbN15.out.cell 18, hbN15.out.cell 19, hbN15.out.cell 20, hbN15.out.cell 21⟩) (fun hSn => ?_)
                  clear hK K hS
                  have hS := hSn
                  clear hSn
                  refine callH 27 rfl (by kernel_rfl) (fun K hK => ?_)
                  go_simp
                  have hcc := Lib.hid (hci.out _ (below_and hB.out hBN15.out))
                  go_wp2_with (go_at_call 79; refine hcc.out.mono ?_; rintro e U16 ⟨⟨jk, jo, jv, jw, jn, jA, jc, js, rfl, hp27, hoX⟩, hB2⟩)
                  clear hcc
                  have hloW : W1.heap.size ≤ (U15).heap.size := hBN15.out.size
                  have hbN16 := Lib.hid (hbN15.out.below hB2 hbN15.out.lt)
                  have hBN16 := Lib.hid (below_and hBN15.out hB2)
                  have hAN16 := hAA15.out.new hB2
                  have hGN16 := Lib.hid (hGN15.out.below hB2 hGN15.out.lt)
                  have hAA16 := Lib.hid (hAN16.add (keep_ex eR W1.heap.size (Ex.mk ⟨jk, jo, jv, jw, jn⟩ (⟨jA, jc⟩ : Loc) js)) (hoX.base_le hloW))
                  have hgn16 : g3 ∉ _ ++ (Ex.mk ⟨jk, jo, jv, jw, jn⟩ (⟨jA, jc⟩ : Loc) js).fp := fun hm => (List.mem_append.1 hm).elim hgn15.out (fun hm => by have h1 := (hoX.ge g3 hm).1; have h2 := hGN15.out.lt; omega)
                  replace hgn16 := Lib.hid hgn16
                  clear hAN16
                  replace hp27 := Lib.hid hp27
                  clear hB2 hoX hloW
                  refine hK.out _ _ (hSi.out _ ⟨hbN16.out.cell 0, hbN16.out.cell 1, hbN16.out.cell 2, hbN16.out.cell 3, hbN16.out.cell 4, hbN16.out.cell 5, hbN16.out.cell 6, hbN16.out.cell 7, hbN16.out.cell 8, hbN16.out.cell 9, hbN16.out.cell 10, hbN16.out.cell 11, hbN16.out.cell 14, hbN16.out.cell 15, hbN16.out.cell 16, hbN16.out.cell 17, hbN16.out.cell 18, hbN16.out.cell 19, hbN16.out.cell 20, hbN16.out.cell 21⟩) (fun hSn => ?_)
                  clear hK K hS
                  have hS := hSn
                  clear hSn
                  refine takeH 28 (v := ?_) rfl (by kernel_rfl) (by kernel_rfl) (by kernel_rfl) (fun _ _ _ h => h) (by rfl) hS ?_ ?_
                  rotate_left
                  · (intro wz hSw; obtain ⟨z0, z1, z2, z3, z4, z5, z6, z7, z8, z9, z10, z11, z12, z13, z14, z15, z16, z17, z18, z19⟩ := hSe.out _ hSw; go_simp; try with_reducible rfl)
                  try simp only [Act.put, List.setIfInBounds_toArray, List.set_cons_zero, List.set_cons_succ]
                  refine callH 30 rfl (by kernel_rfl) (fun K hK => ?_)
                  rw [if_pos (by rfl)]
                  have hth := there_blk_at hGN16.out (o := 0) (n := 22) (by decide)
                  have hNb : Blk (World.setCells (U16) g3 0 ([.int .i64 bl, .int .i64 wd, .slice B2 n2 d2, .slice B3 n3 d3, .slice B4 n4 d4, .slice B5 n5 d5, .int .i64 qk, .int .i64 qo, .int .i64 qv, .int .i64 qw, .string qn, .slice qA qs.length qc, .slice none 0 0, .slice none 0 0, .slice B9 work2.length d9, .slice B10 recov2.length d10, .int .i64 jk, .int .i64 jo, .int .i64 jv, .int .i64 jw, .string jn, .slice jA js.length jc] : List Value)) g3 113 #[.int .i64 bl, .int .i64 wd, .slice B2 n2 d2, .slice B3 n3 d3, .slice B4 n4 d4, .slice B5 n5 d5, .int .i64 qk, .int .i64 qo, .int .i64 qv, .int .i64 qw, .string qn, .slice qA qs.length qc, .slice none 0 0, .slice none 0 0, .slice B9 work2.length d9, .slice B10 recov2.length d10, .int .i64 jk, .int .i64 jo, .int .i64 jv, .int .i64 jw, .string jn, .slice jA js.length jc] := blk_put6 hGN16.out (vs := #[.int .i64 bl, .int .i64 wd, .slice B2 n2 d2, .slice B3 n3 d3, .slice B4 n4 d4, .slice B5 n5 d5, .int .i64 qk, .int .i64 qo, .int .i64 qv, .int .i64 qw, .string qn, .slice qA qs.length qc, .slice none 0 0, .slice none 0 0, .slice B9 work2.length d9, .slice B10 recov2.length d10, .int .i64 jk, .int .i64 jo, .int .i64 jv, .int .i64 jw, .string jn, .slice jA js.length jc]) rfl
                  have hoS : Only [g3] (U16) (World.setCells (U16) g3 0 ([.int .i64 bl, .int .i64 wd, .slice B2 n2 d2, .slice B3 n3 d3, .slice B4 n4 d4, .slice B5 n5 d5, .int .i64 qk, .int .i64 qo, .int .i64 qv, .int .i64 qw, .string qn, .slice qA qs.length qc, .slice none 0 0, .slice none 0 0, .slice B9 work2.length d9, .slice B10 recov2.length d10, .int .i64 jk, .int .i64 jo, .int .i64 jv, .int .i64 jw, .string jn, .slice jA js.length jc] : List Value)) := only_setCells (b := g3) ([.int .i64 bl, .int .i64 wd, .slice B2 n2 d2, .slice B3 n3 d3, .slice B4 n4 d4, .slice B5 n5 d5, .int .i64 qk, .int .i64 qo, .int .i64 qv, .int .i64 qw, .string qn, .slice qA qs.length qc, .slice none 0 0, .slice none 0 0, .slice B9 work2.length d9, .slice B10 recov2.length d10, .int .i64 jk, .int .i64 jo, .int .i64 jv, .int .i64 jw, .string jn, .slice jA js.length jc] : List Value) 0 (U16)
                  have hbF := hbN16.out.only hoS (fun hm => Nat.not_lt.2 hloW (by rw [← List.mem_singleton.1 hm]; exact hgyl.out))
                  have hBF : Below W1.heap.size W1 (World.setCells (U16) g3 0 ([.int .i64 bl, .int .i64 wd, .slice B2 n2 d2, .slice B3 n3 d3, .slice B4 n4 d4, .slice B5 n5 d5, .int .i64 qk, .int .i64 qo, .int .i64 qv, .int .i64 qw, .string qn, .slice qA qs.length qc, .slice none 0 0, .slice none 0 0, .slice B9 work2.length d9, .slice B10 recov2.length d10, .int .i64 jk, .int .i64 jo, .int .i64 jv, .int .i64 jw, .string jn, .slice jA js.length jc] : List Value)) := hBN16.out.trans (hoS.below (by have := hBN16.out.size; omega) (by simp; omega))
                  have hAF := Lib.hid (hAA16.out.only hoS hgn16.out)
                  replace hNb := Lib.hid hNb
                  replace hBF := Lib.hid hBF
                  refine wp_store_mid 113 (.tmp 3) (.tmp 36) rfl g3 0 #[.int .i64 bl, .int .i64 wd, .slice B2 n2 d2, .slice B3 n3 d3, .slice B4 n4 d4, .slice B5 n5 d5, .int .i64 qk, .int .i64 qo, .int .i64 qv, .int .i64 qw, .string qn, .slice qA qs.length qc, .slice none 0 0, .slice none 0 0, .slice B9 work2.length d9, .slice B10 recov2.length d10, .int .i64 jk, .int .i64 jo, .int .i64 jv, .int .i64 jw, .string jn, .slice jA js.length jc] rfl rfl hth (by kernel_rfl) (by simp [Value.oneCell']) ?_
                  clear hoS hth
                  refine hK.out _ _ (hSi.out _ ⟨hbF.cell 0, hbF.cell 1, hbF.cell 2, hbF.cell 3, hbF.cell 4, hbF.cell 5, hbF.cell 6, hbF.cell 7, hbF.cell 8, hbF.cell 9, hbF.cell 10, hbF.cell 11, hbF.cell 14, hbF.cell 15, hbF.cell 16, hbF.cell 17, hbF.cell 18, hbF.cell 19, hbF.cell 20, hbF.cell 21⟩) (fun hSn => ?_)
                  clear hK K hS
                  have hS := hSn
                  clear hSn
                  refine wpAnyH_done (by kernel_rfl) ?_ _
                  clear hS hSi hSe
                  go_wp2_with fail
                  go_meet
                  refine ⟨B2, d2, B3, d3, B4, d4, B5, d5, qk, qo, qv, qw, qn, qA, qc, qs, B9, d9, work2, B10, d10, recov2, jk, jo, jv, jw, jn, jA, jc, js, _, _, g3, rfl, hNb.out, hAF.out, fun W h => ?_, hgn16.out, hloW, hp18.out, hp21.out, hp24.out, hp27.out, hBF.out⟩
                  obtain ⟨⟨⟨⟨⟨⟨⟨⟨_, h1⟩, h2⟩, h3⟩, h4⟩, h5⟩, h6⟩, h7⟩, h8⟩ := h
                  exact ⟨by rw [hn2.out] at h1; exact h1, by rw [hn3.out] at h2; exact h2, by rw [hn4.out] at h3; exact h3, by rw [hn5.out] at h4; exact h4, h5, h6, h7, h8⟩
              · go_simp
                have hBz := (Below.refl _ (U5)).alloc (Nat.le_refl _) (.cells #[.int .i64 0, .int .i64 0, .slice none 0 0, .slice none 0 0, .slice none 0 0, .slice none 0 0, .int .i64 0, .int .i64 0, .int .i64 0, .int .i64 0, .string ⟨#[]⟩, .slice none 0 0, .slice none 0 0, .slice none 0 0, .slice none 0 0, .slice none 0 0, .int .i64 0, .int .i64 0, .int .i64 0, .int .i64 0, .string ⟨#[]⟩, .slice none 0 0] 113)
                have hG0 := Blk.new (U5) 113 #[.int .i64 0, .int .i64 0, .slice none 0 0, .slice none 0 0, .slice none 0 0, .slice none 0 0, .int .i64 0, .int .i64 0, .int .i64 0, .int .i64 0, .string ⟨#[]⟩, .slice none 0 0, .slice none 0 0, .slice none 0 0, .slice none 0 0, .slice none 0 0, .int .i64 0, .int .i64 0, .int .i64 0, .int .i64 0, .string ⟨#[]⟩, .slice none 0 0]
                obtain ⟨g3, hg3⟩ : ∃ g, (U5).heap.size = g := ⟨_, rfl⟩
                rw [hg3] at hG0
                try rw [hg3]
                have hloW : W1.heap.size ≤ g3 := by have := hBN5.out.size; omega
                have hgn18 := Lib.hid (acc_new hAA5.out hg3)
                have hbN18 := Lib.hid (hbN5.out.below hBz hbN5.out.lt)
                have hBN18 := Lib.hid (below_and hBN5.out hBz)
                have hAN18 := hAA5.out.new hBz
                replace hAN18 := Lib.hid hAN18
                replace hG0 := Lib.hid hG0
                generalize (U5).alloc (.cells #[.int .i64 0, .int .i64 0, .slice none 0 0, .slice none 0 0, .slice none 0 0, .slice none 0 0, .int .i64 0, .int .i64 0, .int .i64 0, .int .i64 0, .string ⟨#[]⟩, .slice none 0 0, .slice none 0 0, .slice none 0 0, .slice none 0 0, .slice none 0 0, .int .i64 0, .int .i64 0, .int .i64 0, .int .i64 0, .string ⟨#[]⟩, .slice none 0 0] 113) = U18 at *
                clear hBz hg3
                refine hK.out _ _ (hSi.out _ ⟨hbN18.out.cell 0, hbN18.out.cell 1, hbN18.out.cell 2, hbN18.out.cell 3, hbN18.out.cell 4, hbN18.out.cell 5, hbN18.out.cell 6, hbN18.out.cell 7, hbN18.out.cell 8, hbN18.out.cell 9, hbN18.out.cell 10, hbN18.out.cell 11, hbN18.out.cell 14, hbN18.out.cell 15, hbN18.out.cell 16, hbN18.out.cell 17, hbN18.out.cell 18, hbN18.out.cell 19, hbN18.out.cell 20, hbN18.out.cell 21⟩) (fun hSn => ?_)
                clear hK K hS
                have hS := hSn
                clear hSn
                refine callH 21 rfl (by kernel_rfl) (fun K hK => ?_)
                go_simp
                have hcc := Lib.hid (hcw.out _ (below_and hB.out hBN18.out))
                go_wp2_with (go_at_call 80; refine hcc.out.mono ?_; rintro e U19 ⟨⟨B9, d9, work2, rfl, hp21, hoX⟩, hB2⟩)
                clear hcc
                have hloW : W1.heap.size ≤ (U18).heap.size := hBN18.out.size
                have hbN19 := Lib.hid (hbN18.out.below hB2 hbN18.out.lt)
                have hBN19 := Lib.hid (below_and hBN18.out hB2)
                have hAN19 := hAN18.out.new hB2
                have hGN19 := Lib.hid (hG0.out.below hB2 hG0.out.lt)
                have hAA19 := Lib.hid (hAN19.add (keep_lst eR W1.heap.size ⟨B9, d9⟩ work2) (hoX.base_le hloW))
                have hgn19 : g3 ∉ _ ++ Lst.fp ⟨B9, d9⟩ work2 := fun hm => (List.mem_append.1 hm).elim hgn18.out (fun hm => by have h1 := (hoX.ge g3 hm).1; have h2 := hG0.out.lt; omega)
                replace hgn19 := Lib.hid hgn19
                clear hAN19
                replace hp21 := Lib.hid hp21
                clear hB2 hoX hloW
                refine hK.out _ _ (hSi.out _ ⟨hbN19.out.cell 0, hbN19.out.cell 1, hbN19.out.cell 2, hbN19.out.cell 3, hbN19.out.cell 4, hbN19.out.cell 5, hbN19.out.cell 6, hbN19.out.cell 7, hbN19.out.cell 8, hbN19.out.cell 9, hbN19.out.cell 10, hbN19.out.cell 11, hbN19.out.cell 14, hbN19.out.cell 15, hbN19.out.cell 16, hbN19.out.cell 17, hbN19.out.cell 18, hbN19.out.cell 19, hbN19.out.cell 20, hbN19.out.cell 21⟩) (fun hSn => ?_)
                clear hK K hS
                have hS := hSn
                clear hSn
                refine callH 24 rfl (by kernel_rfl) (fun K hK => ?_)
                go_simp
                have hcc := Lib.hid (hcv.out _ (below_and hB.out hBN19.out))
                go_wp2_with (go_at_call 80; refine hcc.out.mono ?_; rintro e U20 ⟨⟨B10, d10, recov2, rfl, hp24, hoX⟩, hB2⟩)
                clear hcc
                have hloW : W1.heap.size ≤ (U19).heap.size := hBN19.out.size
                have hbN20 := Lib.hid (hbN19.out.below hB2 hbN19.out.lt)
                have hBN20 := Lib.hid (below_and hBN19.out hB2)
                have hAN20 := hAA19.out.new hB2
                have hGN20 := Lib.hid (hGN19.out.below hB2 hGN19.out.lt)
                have hAA20 := Lib.hid (hAN20.add (keep_lst eR W1.heap.size ⟨B10, d10⟩ recov2) (hoX.base_le hloW))
                have hgn20 : g3 ∉ _ ++ Lst.fp ⟨B10, d10⟩ recov2 := fun hm => (List.mem_append.1 hm).elim hgn19.out (fun hm => by have h1 := (hoX.ge g3 hm).1; have h2 := hGN19.out.lt; omega)
                replace hgn20 := Lib.hid hgn20
                clear hAN20
                replace hp24 := Lib.hid hp24
                clear hB2 hoX hloW
                refine hK.out _ _ (hSi.out _ ⟨hbN20.out.cell 0, hbN20.out.cell 1, hbN20.out.cell 2, hbN20.out.cell 3, hbN20.out.cell 4, hbN20.out.cell 5, hbN20.out.cell 6, hbN20.out.cell 7, hbN20.out.cell 8, hbN20.out.cell 9, hbN20.out.cell 10, hbN20.out.cell 11, hbN20.out.cell 14, hbN20.out.cell 15, hbN20.out.cell 16, hbN20.out.cell 17, hbN20.out.cell 18, hbN20.out.cell 19, hbN20.out.cell 20, hbN20.out.cell 21⟩) (fun hSn => ?_)
                clear hK K hS
                have hS := hSn
                clear hSn
                refine callH 27 rfl (by kernel_rfl) (fun K hK => ?_)
                go_simp
                have hcc := Lib.hid (hci.out _ (below_and hB.out hBN20.out))
                go_wp2_with (go_at_call 79; refine hcc.out.mono ?_; rintro e U21 ⟨⟨jk, jo, jv, jw, jn, jA, jc, js, rfl, hp27, hoX⟩, hB2⟩)
                clear hcc
                have hloW : W1.heap.size ≤ (U20).heap.size := hBN20.out.size
                have hbN21 := Lib.hid (hbN20.out.below hB2 hbN20.out.lt)
                have hBN21 := Lib.hid (below_and hBN20.out hB2)
                have hAN21 := hAA20.out.new hB2
                have hGN21 := Lib.hid (hGN20.out.below hB2 hGN20.out.lt)
                have hAA21 := Lib.hid (hAN21.add (keep_ex eR W1.heap.size (Ex.mk ⟨jk, jo, jv, jw, jn⟩ (⟨jA, jc⟩ : Loc) js)) (hoX.base_le hloW))
                have hgn21 : g3 ∉ _ ++ (Ex.mk ⟨jk, jo, jv, jw, jn⟩ (⟨jA, jc⟩ : Loc) js).fp := fun hm => (List.mem_append.1 hm).elim hgn20.out (fun hm => by have h1 := (hoX.ge g3 hm).1; have h2 := hGN20.out.lt; omega)
                replace hgn21 := Lib.hid hgn21
                clear hAN21
                replace hp27 := Lib.hid hp27
                clear hB2 hoX hloW
                refine hK.out _ _ (hSi.out _ ⟨hbN21.out.cell 0, hbN21.out.cell 1, hbN21.out.cell 2, hbN21.out.cell 3, hbN21.out.cell 4, hbN21.out.cell 5, hbN21.out.cell 6, hbN21.out.cell 7, hbN21.out.cell 8, hbN21.out.cell 9, hbN21.out.cell 10, hbN21.out.cell 11, hbN21.out.cell 14, hbN21.out.cell 15, hbN21.out.cell 16, hbN21.out.cell 17, hbN21.out.cell 18, hbN21.out.cell 19, hbN21.out.cell 20, hbN21.out.cell 21⟩) (fun hSn => ?_)
                clear hK K hS
                have hS := hSn
                clear hSn
                refine takeH 28 (v := ?_) rfl (by kernel_rfl) (by kernel_rfl) (by kernel_rfl) (fun _ _ _ h => h) (by rfl) hS ?_ ?_
                rotate_left
                · (intro wz hSw; obtain ⟨z0, z1, z2, z3, z4, z5, z6, z7, z8, z9, z10, z11, z12, z13, z14, z15, z16, z17, z18, z19⟩ := hSe.out _ hSw; go_simp; try with_reducible rfl)
                try simp only [Act.put, List.setIfInBounds_toArray, List.set_cons_zero, List.set_cons_succ]
                refine callH 30 rfl (by kernel_rfl) (fun K hK => ?_)
                rw [if_pos (by rfl)]
                have hth := there_blk_at hGN21.out (o := 0) (n := 22) (by decide)
                have hNb : Blk (World.setCells (U21) g3 0 ([.int .i64 bl, .int .i64 wd, .slice B2 n2 d2, .slice B3 n3 d3, .slice B4 n4 d4, .slice B5 n5 d5, .int .i64 qk, .int .i64 qo, .int .i64 qv, .int .i64 qw, .string qn, .slice qA qs.length qc, .slice none 0 0, .slice none 0 0, .slice B9 work2.length d9, .slice B10 recov2.length d10, .int .i64 jk, .int .i64 jo, .int .i64 jv, .int .i64 jw, .string jn, .slice jA js.length jc] : List Value)) g3 113 #[.int .i64 bl, .int .i64 wd, .slice B2 n2 d2, .slice B3 n3 d3, .slice B4 n4 d4, .slice B5 n5 d5, .int .i64 qk, .int .i64 qo, .int .i64 qv, .int .i64 qw, .string qn, .slice qA qs.length qc, .slice none 0 0, .slice none 0 0, .slice B9 work2.length d9, .slice B10 recov2.length d10, .int .i64 jk, .int .i64 jo, .int .i64 jv, .int .i64 jw, .string jn, .slice jA js.length jc] := blk_put6 hGN21.out (vs := #[.int .i64 bl, .int .i64 wd, .slice B2 n2 d2, .slice B3 n3 d3, .slice B4 n4 d4, .slice B5 n5 d5, .int .i64 qk, .int .i64 qo, .int .i64 qv, .int .i64 qw, .string qn, .slice qA qs.length qc, .slice none 0 0, .slice none 0 0, .slice B9 work2.length d9, .slice B10 recov2.length d10, .int .i64 jk, .int .i64 jo, .int .i64 jv, .int .i64 jw, .string jn, .slice jA js.length jc]) rfl
                have hoS : Only [g3] (U21) (World.setCells (U21) g3 0 ([.int .i64 bl, .int .i64 wd, .slice B2 n2 d2, .slice B3 n3 d3, .slice B4 n4 d4, .slice B5 n5 d5, .int .i64 qk, .int .i64 qo, .int .i64 qv, .int .i64 qw, .string qn, .slice qA qs.length qc, .slice none 0 0, .slice none 0 0, .slice B9 work2.length d9, .slice B10 recov2.length d10, .int .i64 jk, .int .i64 jo, .int .i64 jv, .int .i64 jw, .string jn, .slice jA js.length jc] : List Value)) := only_setCells (b := g3) ([.int .i64 bl, .int .i64 wd, .slice B2 n2 d2, .slice B3 n3 d3, .slice B4 n4 d4, .slice B5 n5 d5, .int .i64 qk, .int .i64 qo, .int .i64 qv, .int .i64 qw, .string qn, .slice qA qs.length qc, .slice none 0 0, .slice none 0 0, .slice B9 work2.length d9, .slice B10 recov2.length d10, .int .i64 jk, .int .i64 jo, .int .i64 jv, .int .i64 jw, .string jn, .slice jA js.length jc] : List Value) 0 (U21)
                have hbF := hbN21.out.only hoS (fun hm => Nat.not_lt.2 hloW (by rw [← List.mem_singleton.1 hm]; exact hgyl.out))
                have hBF : Below W1.heap.size W1 (World.setCells (U21) g3 0 ([.int .i64 bl, .int .i64 wd, .slice B2 n2 d2, .slice B3 n3 d3, .slice B4 n4 d4, .slice B5 n5 d5, .int .i64 qk, .int .i64 qo, .int .i64 qv, .int .i64 qw, .string qn, .slice qA qs.length qc, .slice none 0 0, .slice none 0 0, .slice B9 work2.length d9, .slice B10 recov2.length d10, .int .i64 jk, .int .i64 jo, .int .i64 jv, .int .i64 jw, .string jn, .slice jA js.length jc] : List Value)) := hBN21.out.trans (hoS.below (by have := hBN21.out.size; omega) (by simp; omega))
                have hAF := Lib.hid (hAA21.out.only hoS hgn21.out)
                replace hNb := Lib.hid hNb
                replace hBF := Lib.hid hBF
                refine wp_store_mid 113 (.tmp 3) (.tmp 36) rfl g3 0 #[.int .i64 bl, .int .i64 wd, .slice B2 n2 d2, .slice B3 n3 d3, .slice B4 n4 d4, .slice B5 n5 d5, .int .i64 qk, .int .i64 qo, .int .i64 qv, .int .i64 qw, .string qn, .slice qA qs.length qc, .slice none 0 0, .slice none 0 0, .slice B9 work2.length d9, .slice B10 recov2.length d10, .int .i64 jk, .int .i64 jo, .int .i64 jv, .int .i64 jw, .string jn, .slice jA js.length jc] rfl rfl hth (by kernel_rfl) (by simp [Value.oneCell']) ?_
                clear hoS hth
                refine hK.out _ _ (hSi.out _ ⟨hbF.cell 0, hbF.cell 1, hbF.cell 2, hbF.cell 3, hbF.cell 4, hbF.cell 5, hbF.cell 6, hbF.cell 7, hbF.cell 8, hbF.cell 9, hbF.cell 10, hbF.cell 11, hbF.cell 14, hbF.cell 15, hbF.cell 16, hbF.cell 17, hbF.cell 18, hbF.cell 19, hbF.cell 20, hbF.cell 21⟩) (fun hSn => ?_)
                clear hK K hS
                have hS := hSn
                clear hSn
                refine wpAnyH_done (by kernel_rfl) ?_ _
                clear hS hSi hSe
                go_wp2_with fail
                go_meet
                refine ⟨B2, d2, B3, d3, B4, d4, B5, d5, qk, qo, qv, qw, qn, qA, qc, qs, B9, d9, work2, B10, d10, recov2, jk, jo, jv, jw, jn, jA, jc, js, _, _, g3, rfl, hNb.out, hAF.out, fun W h => ?_, hgn21.out, hloW, hp18.out, hp21.out, hp24.out, hp27.out, hBF.out⟩
                obtain ⟨⟨⟨⟨⟨⟨⟨⟨_, h1⟩, h2⟩, h3⟩, h4⟩, h5⟩, h6⟩, h7⟩, h8⟩ := h
                exact ⟨by rw [hn2.out] at h1; exact h1, by rw [hn3.out] at h2; exact h2, by rw [hn4.out] at h3; exact h3, by rw [hn5.out] at h4; exact h4, h5, h6, h7, h8⟩
            · go_simp
              have hBz := (Below.refl _ (U4)).alloc (Nat.le_refl _) (.cells #[.int .i64 0, .int .i64 0, .slice none 0 0, .slice none 0 0, .slice none 0 0, .slice none 0 0, .int .i64 0, .int .i64 0, .int .i64 0, .int .i64 0, .string ⟨#[]⟩, .slice none 0 0, .slice none 0 0, .slice none 0 0, .slice none 0 0, .slice none 0 0, .int .i64 0, .int .i64 0, .int .i64 0, .int .i64 0, .string ⟨#[]⟩, .slice none 0 0] 113)
              have hG0 := Blk.new (U4) 113 #[.int .i64 0, .int .i64 0, .slice none 0 0, .slice none 0 0, .slice none 0 0, .slice none 0 0, .int .i64 0, .int .i64 0, .int .i64 0, .int .i64 0, .string ⟨#[]⟩, .slice none 0 0, .slice none 0 0, .slice none 0 0, .slice none 0 0, .slice none 0 0, .int .i64 0, .int .i64 0, .int .i64 0, .int .i64 0, .string ⟨#[]⟩, .slice none 0 0]
              obtain ⟨g3, hg3⟩ : ∃ g, (U4).heap.size = g := ⟨_, rfl⟩
              rw [hg3] at hG0
              try rw [hg3]
              have hloW : W1.heap.size ≤ g3 := by have := hBN4.out.size; omega
              have hgn23 := Lib.hid (acc_new hAA4.out hg3)
              have hbN23 := Lib.hid (hbN4.out.below hBz hbN4.out.lt)
              have hBN23 := Lib.hid (below_and hBN4.out hBz)
              have hAN23 := hAA4.out.new hBz
              replace hAN23 := Lib.hid hAN23
              replace hG0 := Lib.hid hG0
              generalize (U4).alloc (.cells #[.int .i64 0, .int .i64 0, .slice none 0 0, .slice none 0 0, .slice none 0 0, .slice none 0 0, .int .i64 0, .int .i64 0, .int .i64 0, .int .i64 0, .string ⟨#[]⟩, .slice none 0 0, .slice none 0 0, .slice none 0 0, .slice none 0 0, .slice none 0 0, .int .i64 0, .int .i64 0, .int .i64 0, .int .i64 0, .string ⟨#[]⟩, .slice none 0 0] 113) = U23 at *
              clear hBz hg3
              refine hK.out _ _ (hSi.out _ ⟨hbN23.out.cell 0, hbN23.out.cell 1, hbN23.out.cell 2, hbN23.out.cell 3, hbN23.out.cell 4, hbN23.out.cell 5, hbN23.out.cell 6, hbN23.out.cell 7, hbN23.out.cell 8, hbN23.out.cell 9, hbN23.out.cell 10, hbN23.out.cell 11, hbN23.out.cell 14, hbN23.out.cell 15, hbN23.out.cell 16, hbN23.out.cell 17, hbN23.out.cell 18, hbN23.out.cell 19, hbN23.out.cell 20, hbN23.out.cell 21⟩) (fun hSn => ?_)
              clear hK K hS
              have hS := hSn
              clear hSn
              refine callH 18 rfl (by kernel_rfl) (fun K hK => ?_)
              go_simp
              have hcc := Lib.hid (hcr.out _ (below_and hB.out hBN23.out))
              go_wp2_with (go_at_call 79; refine hcc.out.mono ?_; rintro e U24 ⟨⟨qk, qo, qv, qw, qn, qA, qc, qs, rfl, hp18, hoX⟩, hB2⟩)
              clear hcc
              have hloW : W1.heap.size ≤ (U23).heap.size := hBN23.out.size
              have hbN24 := Lib.hid (hbN23.out.below hB2 hbN23.out.lt)
              have hBN24 := Lib.hid (below_and hBN23.out hB2)
              have hAN24 := hAN23.out.new hB2
              have hGN24 := Lib.hid (hG0.out.below hB2 hG0.out.lt)
              have hAA24 := Lib.hid (hAN24.add (keep_ex eR W1.heap.size (Ex.mk ⟨qk, qo, qv, qw, qn⟩ (⟨qA, qc⟩ : Loc) qs)) (hoX.base_le hloW))
              have hgn24 : g3 ∉ _ ++ (Ex.mk ⟨qk, qo, qv, qw, qn⟩ (⟨qA, qc⟩ : Loc) qs).fp := fun hm => (List.mem_append.1 hm).elim hgn23.out (fun hm => by have h1 := (hoX.ge g3 hm).1; have h2 := hG0.out.lt; omega)
              replace hgn24 := Lib.hid hgn24
              clear hAN24
              replace hp18 := Lib.hid hp18
              clear hB2 hoX hloW
              refine hK.out _ _ (hSi.out _ ⟨hbN24.out.cell 0, hbN24.out.cell 1, hbN24.out.cell 2, hbN24.out.cell 3, hbN24.out.cell 4, hbN24.out.cell 5, hbN24.out.cell 6, hbN24.out.cell 7, hbN24.out.cell 8, hbN24.out.cell 9, hbN24.out.cell 10, hbN24.out.cell 11, hbN24.out.cell 14, hbN24.out.cell 15, hbN24.out.cell 16, hbN24.out.cell 17, hbN24.out.cell 18, hbN24.out.cell 19, hbN24.out.cell 20, hbN24.out.cell 21⟩) (fun hSn => ?_)
              clear hK K hS
              have hS := hSn
              clear hSn
              refine callH 21 rfl (by kernel_rfl) (fun K hK => ?_)
              go_simp
              have hcc := Lib.hid (hcw.out _ (below_and hB.out hBN24.out))
              go_wp2_with (go_at_call 80; refine hcc.out.mono ?_; rintro e U25 ⟨⟨B9, d9, work2, rfl, hp21, hoX⟩, hB2⟩)
              clear hcc
              have hloW : W1.heap.size ≤ (U24).heap.size := hBN24.out.size
              have hbN25 := Lib.hid (hbN24.out.below hB2 hbN24.out.lt)
              have hBN25 := Lib.hid (below_and hBN24.out hB2)
              have hAN25 := hAA24.out.new hB2
              have hGN25 := Lib.hid (hGN24.out.below hB2 hGN24.out.lt)
              have hAA25 := Lib.hid (hAN25.add (keep_lst eR W1.heap.size ⟨B9, d9⟩ work2) (hoX.base_le hloW))
              have hgn25 : g3 ∉ _ ++ Lst.fp ⟨B9, d9⟩ work2 := fun hm => (List.mem_append.1 hm).elim hgn24.out (fun hm => by have h1 := (hoX.ge g3 hm).1; have h2 := hGN24.out.lt; omega)
              replace hgn25 := Lib.hid hgn25
              clear hAN25
              replace hp21 := Lib.hid hp21
              clear hB2 hoX hloW
              refine hK.out _ _ (hSi.out _ ⟨hbN25.out.cell 0, hbN25.out.cell 1, hbN25.out.cell 2, hbN25.out.cell 3, hbN25.out.cell 4, hbN25.out.cell 5, hbN25.out.cell 6, hbN25.out.cell 7, hbN25.out.cell 8, hbN25.out.cell 9, hbN25.out.cell 10, hbN25.out.cell 11, hbN25.out.cell 14, hbN25.out.cell 15, hbN25.out.cell 16, hbN25.out.cell 17, hbN25.out.cell 18, hbN25.out.cell 19, hbN25.out.cell 20, hbN25.out.cell 21⟩) (fun hSn => ?_)
              clear hK K hS
              have hS := hSn
              clear hSn
              refine callH 24 rfl (by kernel_rfl) (fun K hK => ?_)
              go_simp
              have hcc := Lib.hid (hcv.out _ (below_and hB.out hBN25.out))
              go_wp2_with (go_at_call 80; refine hcc.out.mono ?_; rintro e U26 ⟨⟨B10, d10, recov2, rfl, hp24, hoX⟩, hB2⟩)
              clear hcc
              have hloW : W1.heap.size ≤ (U25).heap.size := hBN25.out.size
              have hbN26 := Lib.hid (hbN25.out.below hB2 hbN25.out.lt)
              have hBN26 := Lib.hid (below_and hBN25.out hB2)
              have hAN26 := hAA25.out.new hB2
              have hGN26 := Lib.hid (hGN25.out.below hB2 hGN25.out.lt)
              have hAA26 := Lib.hid (hAN26.add (keep_lst eR W1.heap.size ⟨B10, d10⟩ recov2) (hoX.base_le hloW))
              have hgn26 : g3 ∉ _ ++ Lst.fp ⟨B10, d10⟩ recov2 := fun hm => (List.mem_append.1 hm).elim hgn25.out (fun hm => by have h1 := (hoX.ge g3 hm).1; have h2 := hGN25.out.lt; omega)
              replace hgn26 := Lib.hid hgn26
              clear hAN26
              replace hp24 := Lib.hid hp24
              clear hB2 hoX hloW
              refine hK.out _ _ (hSi.out _ ⟨hbN26.out.cell 0, hbN26.out.cell 1, hbN26.out.cell 2, hbN26.out.cell 3, hbN26.out.cell 4, hbN26.out.cell 5, hbN26.out.cell 6, hbN26.out.cell 7, hbN26.out.cell 8, hbN26.out.cell 9, hbN26.out.cell 10, hbN26.out.cell 11, hbN26.out.cell 14, hbN26.out.cell 15, hbN26.out.cell 16, hbN26.out.cell 17, hbN26.out.cell 18, hbN26.out.cell 19, hbN26.out.cell 20, hbN26.out.cell 21⟩) (fun hSn => ?_)
              clear hK K hS
              have hS := hSn
              clear hSn
              refine callH 27 rfl (by kernel_rfl) (fun K hK => ?_)
              go_simp
              have hcc := Lib.hid (hci.out _ (below_and hB.out hBN26.out))
              go_wp2_with (go_at_call 79; refine hcc.out.mono ?_; rintro e U27 ⟨⟨jk, jo, jv, jw, jn, jA, jc, js, rfl, hp27, hoX⟩, hB2⟩)
              clear hcc
              have hloW : W1.heap.size ≤ (U26).heap.size := hBN26.out.size
              have hbN27 := Lib.hid (hbN26.out.below hB2 hbN26.out.lt)
              have hBN27 := Lib.hid (below_and hBN26.out hB2)
              have hAN27 := hAA26.out.new hB2
              have hGN27 := Lib.hid (hGN26.out.below hB2 hGN26.out.lt)
              have hAA27 := Lib.hid (hAN27.add (keep_ex eR W1.heap.size (Ex.mk ⟨jk, jo, jv, jw, jn⟩ (⟨jA, jc⟩ : Loc) js)) (hoX.base_le hloW))
              have hgn27 : g3 ∉ _ ++ (Ex.mk ⟨jk, jo, jv, jw, jn⟩ (⟨jA, jc⟩ : Loc) js).fp := fun hm => (List.mem_append.1 hm).elim hgn26.out (fun hm => by have h1 := (hoX.ge g3 hm).1; have h2 := hGN26.out.lt; omega)
              replace hgn27 := Lib.hid hgn27
              clear hAN27
              replace hp27 := Lib.hid hp27
              clear hB2 hoX hloW
              refine hK.out _ _ (hSi.out _ ⟨hbN27.out.cell 0, hbN27.out.cell 1, hbN27.out.cell 2, hbN27.out.cell 3, hbN27.out.cell 4, hbN27.out.cell 5, hbN27.out.cell 6, hbN27.out.cell 7, hbN27.out.cell 8, hbN27.out.cell 9, hbN27.out.cell 10, hbN27.out.cell 11, hbN27.out.cell 14, hbN27.out.cell 15, hbN27.out.cell 16, hbN27.out.cell 17, hbN27.out.cell 18, hbN27.out.cell 19, hbN27.out.cell 20, hbN27.out.cell 21⟩) (fun hSn => ?_)
              clear hK K hS
              have hS := hSn
              clear hSn
              refine takeH 28 (v := ?_) rfl (by kernel_rfl) (by kernel_rfl) (by kernel_rfl) (fun _ _ _ h => h) (by rfl) hS ?_ ?_
              rotate_left
              · (intro wz hSw; obtain ⟨z0, z1, z2, z3, z4, z5, z6, z7, z8, z9, z10, z11, z12, z13, z14, z15, z16, z17, z18, z19⟩ := hSe.out _ hSw; go_simp; try with_reducible rfl)
              try simp only [Act.put, List.setIfInBounds_toArray, List.set_cons_zero, List.set_cons_succ]
              refine callH 30 rfl (by kernel_rfl) (fun K hK => ?_)
              rw [if_pos (by rfl)]
              have hth := there_blk_at hGN27.out (o := 0) (n := 22) (by decide)
              have hNb : Blk (World.setCells (U27) g3 0 ([.int .i64 bl, .int .i64 wd, .slice B2 n2 d2, .slice B3 n3 d3, .slice B4 n4 d4, .slice B5 n5 d5, .int .i64 qk, .int .i64 qo, .int .i64 qv, .int .i64 qw, .string qn, .slice qA qs.length qc, .slice none 0 0, .slice none 0 0, .slice B9 work2.length d9, .slice B10 recov2.length d10, .int .i64 jk, .int .i64 jo, .int .i64 jv, .int .i64 jw, .string jn, .slice jA js.length jc] : List Value)) g3 113 #[.int .i64 bl, .int .i64 wd, .slice B2 n2 d2, .slice B3 n3 d3, .slice B4 n4 d4, .slice B5 n5 d5, .int .i64 qk, .int .i64 qo, .int .i64 qv, .int .i64 qw, .string qn, .slice qA qs.length qc, .slice none 0 0, .slice none 0 0, .slice B9 work2.length d9, .slice B10 recov2.length d10, .int .i64 jk, .int .i64 jo, .int .i64 jv, .int .i64 jw, .string jn, .slice jA js.length jc] := blk_put6 hGN27.out (vs := #[.int .i64 bl, .int .i64 wd, .slice B2 n2 d2, .slice B3 n3 d3, .slice B4 n4 d4, .slice B5 n5 d5, .int .i64 qk, .int .i64 qo, .int .i64 qv, .int .i64 qw, .string qn, .slice qA qs.length qc, .slice none 0 0, .slice none 0 0, .slice B9 work2.length d9, .slice B10 recov2.length d10, .int .i64 jk, .int .i64 jo, .int .i64 jv, .int .i64 jw, .string jn, .slice jA js.length jc]) rfl
              have hoS : Only [g3] (U27) (World.setCells (U27) g3 0 ([.int .i64 bl, .int .i64 wd, .slice B2 n2 d2, .slice B3 n3 d3, .slice B4 n4 d4, .slice B5 n5 d5, .int .i64 qk, .int .i64 qo, .int .i64 qv, .int .i64 qw, .string qn, .slice qA qs.length qc, .slice none 0 0, .slice none 0 0, .slice B9 work2.length d9, .slice B10 recov2.length d10, .int .i64 jk, .int .i64 jo, .int .i64 jv, .int .i64 jw, .string jn, .slice jA js.length jc] : List Value)) := only_setCells (b := g3) ([.int .i64 bl, .int .i64 wd, .slice B2 n2 d2, .slice B3 n3 d3, .slice B4 n4 d4, .slice B5 n5 d5, .int .i64 qk, .int .i64 qo, .int .i64 qv, .int .i64 qw, .string qn, .slice qA qs.length qc, .slice none 0 0, .slice none 0 0, .slice B9 work2.length d9, .slice B10 recov2.length d10, .int .i64 jk, .int .i64 jo, .int .i64 jv, .int .i64 jw, .string jn, .slice jA js.length jc] : List Value) 0 (U27)
              have hbF := hbN27.out.only hoS (fun hm => Nat.not_lt.2 hloW (by rw [← List.mem_singleton.1 hm]; exact hgyl.out))
              have hBF : Below W1.heap.size W1 (World.setCells (U27) g3 0 ([.int .i64 bl, .int .i64 wd, .slice B2 n2 d2, .slice B3 n3 d3, .slice B4 n4 d4, .slice B5 n5 d5, .int .i64 qk, .int .i64 qo, .int .i64 qv, .int .i64 qw, .string qn, .slice qA qs.length qc, .slice none 0 0, .slice none 0 0, .slice B9 work2.length d9, .slice B10 recov2.length d10, .int .i64 jk, .int .i64 jo, .int .i64 jv, .int .i64 jw, .string jn, .slice jA js.length jc] : List Value)) := hBN27.out.trans (hoS.below (by have := hBN27.out.size; omega) (by simp; omega))
              have hAF := Lib.hid (hAA27.out.only hoS hgn27.out)
              replace hNb := Lib.hid hNb
              replace hBF := Lib.hid hBF
              refine wp_store_mid 113 (.tmp 3) (.tmp 36) rfl g3 0 #[.int .i64 bl, .int .i64 wd, .slice B2 n2 d2, .slice B3 n3 d3, .slice B4 n4 d4, .slice B5 n5 d5, .int .i64 qk, .int .i64 qo, .int .i64 qv, .int .i64 qw, .string qn, .slice qA qs.length qc, .slice none 0 0, .slice none 0 0, .slice B9 work2.length d9, .slice B10 recov2.length d10, .int .i64 jk, .int .i64 jo, .int .i64 jv, .int .i64 jw, .string jn, .slice jA js.length jc] rfl rfl hth (by kernel_rfl) (by simp [Value.oneCell']) ?_
              clear hoS hth
              refine hK.out _ _ (hSi.out _ ⟨hbF.cell 0, hbF.cell 1, hbF.cell 2, hbF.cell 3, hbF.cell 4, hbF.cell 5, hbF.cell 6, hbF.cell 7, hbF.cell 8, hbF.cell 9, hbF.cell 10, hbF.cell 11, hbF.cell 14, hbF.cell 15, hbF.cell 16, hbF.cell 17, hbF.cell 18, hbF.cell 19, hbF.cell 20, hbF.cell 21⟩) (fun hSn => ?_)
              clear hK K hS
              have hS := hSn
              clear hSn
              refine wpAnyH_done (by kernel_rfl) ?_ _
              clear hS hSi hSe
              go_wp2_with fail
              go_meet
              refine ⟨B2, d2, B3, d3, B4, d4, B5, d5, qk, qo, qv, qw, qn, qA, qc, qs, B9, d9, work2, B10, d10, recov2, jk, jo, jv, jw, jn, jA, jc, js, _, _, g3, rfl, hNb.out, hAF.out, fun W h => ?_, hgn27.out, hloW, hp18.out, hp21.out, hp24.out, hp27.out, hBF.out⟩
              obtain ⟨⟨⟨⟨⟨⟨⟨⟨_, h1⟩, h2⟩, h3⟩, h4⟩, h5⟩, h6⟩, h7⟩, h8⟩ := h
              exact ⟨by rw [hn2.out] at h1; exact h1, by rw [hn3.out] at h2; exact h2, by rw [hn4.out] at h3; exact h3, by rw [hn5.out] at h4; exact h4, h5, h6, h7, h8⟩
          · go_simp
            have hBz := (Below.refl _ (U3)).alloc (Nat.le_refl _) (.cells #[.int .i64 0, .int .i64 0, .slice none 0 0, .slice none 0 0, .slice none 0 0, .slice none 0 0, .int .i64 0, .int .i64 0, .int .i64 0, .int .i64 0, .string ⟨#[]⟩, .slice none 0 0, .slice none 0 0, .slice none 0 0, .slice none 0 0, .slice none 0 0, .int .i64 0, .int .i64 0, .int .i64 0, .int .i64 0, .string ⟨#[]⟩, .slice none 0 0] 113)
            have hG0 := Blk.new (U3) 113 #[.int .i64 0, .int .i64 0, .slice none 0 0, .slice none 0 0, .slice none 0 0, .slice none 0 0, .int .i64 0, .int .i64 0, .int .i64 0, .int .i64 0, .string ⟨#[]⟩, .slice none 0 0, .slice none 0 0, .slice none 0 0, .slice none 0 0, .slice none 0 0, .int .i64 0, .int .i64 0, .int .i64 0, .int .i64 0, .string ⟨#[]⟩, .slice none 0 0]
            obtain ⟨g3, hg3⟩ : ∃ g, (U3).heap.size = g := ⟨_, rfl⟩
            rw [hg3] at hG0
            try rw [hg3]
            have hloW : W1.heap.size ≤ g3 := by have := hBN3.out.size; omega
            have hgn29 := Lib.hid (acc_new hAA3.out hg3)
            have hbN29 := Lib.hid (hbN3.out.below hBz hbN3.out.lt)
            have hBN29 := Lib.hid (below_and hBN3.out hBz)
            have hAN29 := hAA3.out.new hBz
            replace hAN29 := Lib.hid hAN29
            replace hG0 := Lib.hid hG0
            generalize (U3).alloc (.cells #[.int .i64 0, .int .i64 0, .slice none 0 0, .slice none 0 0, .slice none 0 0, .slice none 0 0, .int .i64 0, .int .i64 0, .int .i64 0, .int .i64 0, .string ⟨#[]⟩, .slice none 0 0, .slice none 0 0, .slice none 0 0, .slice none 0 0, .slice none 0 0, .int .i64 0, .int .i64 0, .int .i64 0, .int .i64 0, .string ⟨#[]⟩, .slice none 0 0] 113) = U29 at *
            clear hBz hg3
            refine hK.out _ _ (hSi.out _ ⟨hbN29.out.cell 0, hbN29.out.cell 1, hbN29.out.cell 2, hbN29.out.cell 3, hbN29.out.cell 4, hbN29.out.cell 5, hbN29.out.cell 6, hbN29.out.cell 7, hbN29.out.cell 8, hbN29.out.cell 9, hbN29.out.cell 10, hbN29.out.cell 11, hbN29.out.cell 14, hbN29.out.cell 15, hbN29.out.cell 16, hbN29.out.cell 17, hbN29.out.cell 18, hbN29.out.cell 19, hbN29.out.cell 20, hbN29.out.cell 21⟩) (fun hSn => ?_)
            clear hK K hS
            have hS := hSn
            clear hSn
            refine callH 15 rfl (by kernel_rfl) (fun K hK => ?_)
            go_simp
            have hcc := Lib.hid (hd5.out _ (below_and hB.out hBN29.out))
            go_wp2_with (go_at_call 78; refine hcc.out.mono ?_; rintro e U30 ⟨⟨B5, d5, rfl, hoX⟩, hB2⟩)
            clear hcc
            have hloW : W1.heap.size ≤ (U29).heap.size := hBN29.out.size
            have hbN30 := Lib.hid (hbN29.out.below hB2 hbN29.out.lt)
            have hBN30 := Lib.hid (below_and hBN29.out hB2)
            have hAN30 := hAN29.out.new hB2
            have hGN30 := Lib.hid (hG0.out.below hB2 hG0.out.lt)
            have hAA30 := Lib.hid (hAN30.add (keep_row W1.heap.size 138 3 n5 ⟨B5, d5⟩ (cellsD ar)) (own_base hoX hloW))
            have hgn30 : g3 ∉ _ ++ (Loc.mk B5 d5).fp := fun hm => (List.mem_append.1 hm).elim hgn29.out (fun hm => by have h1 := (own_ge (l := ⟨B5, d5⟩) hoX g3 hm).1; have h2 := hG0.out.lt; omega)
            replace hgn30 := Lib.hid hgn30
            clear hAN30
            clear hB2 hoX hloW
            refine hK.out _ _ (hSi.out _ ⟨hbN30.out.cell 0, hbN30.out.cell 1, hbN30.out.cell 2, hbN30.out.cell 3, hbN30.out.cell 4, hbN30.out.cell 5, hbN30.out.cell 6, hbN30.out.cell 7, hbN30.out.cell 8, hbN30.out.cell 9, hbN30.out.cell 10, hbN30.out.cell 11, hbN30.out.cell 14, hbN30.out.cell 15, hbN30.out.cell 16, hbN30.out.cell 17, hbN30.out.cell 18, hbN30.out.cell 19, hbN30.out.cell 20, hbN30.out.cell 21⟩) (fun hSn => ?_)
            clear hK K hS
            have hS := hSn
            clear hSn
            refine callH 18 rfl (by kernel_rfl) (fun K hK => ?_)
            go_simp
            have hcc := Lib.hid (hcr.out _ (below_and hB.out hBN30.out))
            go_wp2_with (go_at_call 79; refine hcc.out.mono ?_; rintro e U31 ⟨⟨qk, qo, qv, qw, qn, qA, qc, qs, rfl, hp18, hoX⟩, hB2⟩)
            clear hcc
            have hloW : W1.heap.size ≤ (U30).heap.size := hBN30.out.size
            have hbN31 := Lib.hid (hbN30.out.below hB2 hbN30.out.lt)
            have hBN31 := Lib.hid (below_and hBN30.out hB2)
            have hAN31 := hAA30.out.new hB2
            have hGN31 := Lib.hid (hGN30.out.below hB2 hGN30.out.lt)
            have hAA31 := Lib.hid (hAN31.add (keep_ex eR W1.heap.size (Ex.mk ⟨qk, qo, qv, qw, qn⟩ (⟨qA, qc⟩ : Loc) qs)) (hoX.base_le hloW))
            have hgn31 : g3 ∉ _ ++ (Ex.mk ⟨qk, qo, qv, qw, qn⟩ (⟨qA, qc⟩ : Loc) qs).fp := fun hm => (List.mem_append.1 hm).elim hgn30.out (fun hm => by have h1 := (hoX.ge g3 hm).1; have h2 := hGN30.out.lt; omega)
            replace hgn31 := Lib.hid hgn31
            clear hAN31
            replace hp18 := Lib.hid hp18
            clear hB2 hoX hloW
            refine hK.out _ _ (hSi.out _ ⟨hbN31.out.cell 0, hbN31.out.cell 1, hbN31.out.cell 2, hbN31.out.cell 3, hbN31.out.cell 4, hbN31.out.cell 5, hbN31.out.cell 6, hbN31.out.cell 7, hbN31.out.cell 8, hbN31.out.cell 9, hbN31.out.cell 10, hbN31.out.cell 11, hbN31.out.cell 14, hbN31.out.cell 15, hbN31.out.cell 16, hbN31.out.cell 17, hbN31.out.cell 18, hbN31.out.cell 19, hbN31.out.cell 20, hbN31.out.cell 21⟩) (fun hSn => ?_)
            clear hK K hS
            have hS := hSn
            clear hSn
            refine callH 21 rfl (by kernel_rfl) (fun K hK => ?_)
            go_simp
            have hcc := Lib.hid (hcw.out _ (below_and hB.out hBN31.out))
            go_wp2_with (go_at_call 80; refine hcc.out.mono ?_; rintro e U32 ⟨⟨B9, d9, work2, rfl, hp21, hoX⟩, hB2⟩)
            clear hcc
            have hloW : W1.heap.size ≤ (U31).heap.size := hBN31.out.size
            have hbN32 := Lib.hid (hbN31.out.below hB2 hbN31.out.lt)
            have hBN32 := Lib.hid (below_and hBN31.out hB2)
            have hAN32 := hAA31.out.new hB2
            have hGN32 := Lib.hid (hGN31.out.below hB2 hGN31.out.lt)
            have hAA32 := Lib.hid (hAN32.add (keep_lst eR W1.heap.size ⟨B9, d9⟩ work2) (hoX.base_le hloW))
            have hgn32 : g3 ∉ _ ++ Lst.fp ⟨B9, d9⟩ work2 := fun hm => (List.mem_append.1 hm).elim hgn31.out (fun hm => by have h1 := (hoX.ge g3 hm).1; have h2 := hGN31.out.lt; omega)
            replace hgn32 := Lib.hid hgn32
            clear hAN32
            replace hp21 := Lib.hid hp21
            clear hB2 hoX hloW
            refine hK.out _ _ (hSi.out _ ⟨hbN32.out.cell 0, hbN32.out.cell 1, hbN32.out.cell 2, hbN32.out.cell 3, hbN32.out.cell 4, hbN32.out.cell 5, hbN32.out.cell 6, hbN32.out.cell 7, hbN32.out.cell 8, hbN32.out.cell 9, hbN32.out.cell 10, hbN32.out.cell 11, hbN32.out.cell 14, hbN32.out.cell 15, hbN32.out.cell 16, hbN32.out.cell 17, hbN32.out.cell 18, hbN32.out.cell 19, hbN32.out.cell 20, hbN32.out.cell 21⟩) (fun hSn => ?_)
            clear hK K hS
            have hS := hSn
            clear hSn
            refine callH 24 rfl (by kernel_rfl) (fun K hK => ?_)
            go_simp
            have hcc := Lib.hid (hcv.out _ (below_and hB.out hBN32.out))
            go_wp2_with (go_at_call 80; refine hcc.out.mono ?_; rintro e U33 ⟨⟨B10, d10, recov2, rfl, hp24, hoX⟩, hB2⟩)
            clear hcc
            have hloW : W1.heap.size ≤ (U32).heap.size := hBN32.out.size
            have hbN33 := Lib.hid (hbN32.out.below hB2 hbN32.out.lt)
            have hBN33 := Lib.hid (below_and hBN32.out hB2)
            have hAN33 := hAA32.out.new hB2
            have hGN33 := Lib.hid (hGN32.out.below hB2 hGN32.out.lt)
            have hAA33 := Lib.hid (hAN33.add (keep_lst eR W1.heap.size ⟨B10, d10⟩ recov2) (hoX.base_le hloW))
            have hgn33 : g3 ∉ _ ++ Lst.fp ⟨B10, d10⟩ recov2 := fun hm => (List.mem_append.1 hm).elim hgn32.out (fun hm => by have h1 := (hoX.ge g3 hm).1; have h2 := hGN32.out.lt; omega)
            replace hgn33 := Lib.hid hgn33
            clear hAN33
            replace hp24 := Lib.hid hp24
            clear hB2 hoX hloW
            refine hK.out _ _ (hSi.out _ ⟨hbN33.out.cell 0, hbN33.out.cell 1, hbN33.out.cell 2, hbN33.out.cell 3, hbN33.out.cell 4, hbN33.out.cell 5, hbN33.out.cell 6, hbN33.out.cell 7, hbN33.out.cell 8, hbN33.out.cell 9, hbN33.out.cell 10, hbN33.out.cell 11, hbN33.out.cell 14, hbN33.out.cell 15, hbN33.out.cell 16, hbN33.out.cell 17, hbN33.out.cell 18, hbN33.out.cell 19, hbN33.out.cell 20, hbN33.out.cell 21⟩) (fun hSn => ?_)
            clear hK K hS
            have hS := hSn
            clear hSn
            refine callH 27 rfl (by kernel_rfl) (fun K hK => ?_)
            go_simp
            have hcc := Lib.hid (hci.out _ (below_and hB.out hBN33.out))
            go_wp2_with (go_at_call 79; refine hcc.out.mono ?_; rintro e U34 ⟨⟨jk, jo, jv, jw, jn, jA, jc, js, rfl, hp27, hoX⟩, hB2⟩)
            clear hcc
            have hloW : W1.heap.size ≤ (U33).heap.size := hBN33.out.size
            have hbN34 := Lib.hid (hbN33.out.below hB2 hbN33.out.lt)
            have hBN34 := Lib.hid (below_and hBN33.out hB2)
            have hAN34 := hAA33.out.new hB2
            have hGN34 := Lib.hid (hGN33.out.below hB2 hGN33.out.lt)
            have hAA34 := Lib.hid (hAN34.add (keep_ex eR W1.heap.size (Ex.mk ⟨jk, jo, jv, jw, jn⟩ (⟨jA, jc⟩ : Loc) js)) (hoX.base_le hloW))
            have hgn34 : g3 ∉ _ ++ (Ex.mk ⟨jk, jo, jv, jw, jn⟩ (⟨jA, jc⟩ : Loc) js).fp := fun hm => (List.mem_append.1 hm).elim hgn33.out (fun hm => by have h1 := (hoX.ge g3 hm).1; have h2 := hGN33.out.lt; omega)
            replace hgn34 := Lib.hid hgn34
            clear hAN34
            replace hp27 := Lib.hid hp27
            clear hB2 hoX hloW
            refine hK.out _ _ (hSi.out _ ⟨hbN34.out.cell 0, hbN34.out.cell 1, hbN34.out.cell 2, hbN34.out.cell 3, hbN34.out.cell 4, hbN34.out.cell 5, hbN34.out.cell 6, hbN34.out.cell 7, hbN34.out.cell 8, hbN34.out.cell 9, hbN34.out.cell 10, hbN34.out.cell 11, hbN34.out.cell 14, hbN34.out.cell 15, hbN34.out.cell 16, hbN34.out.cell 17, hbN34.out.cell 18, hbN34.out.cell 19, hbN34.out.cell 20, hbN34.out.cell 21⟩) (fun hSn => ?_)
            clear hK K hS
            have hS := hSn
            clear hSn
            refine takeH 28 (v := ?_) rfl (by kernel_rfl) (by kernel_rfl) (by kernel_rfl) (fun _ _ _ h => h) (by rfl) hS ?_ ?_
            rotate_left
            · (intro wz hSw; obtain ⟨z0, z1, z2, z3, z4, z5, z6, z7, z8, z9, z10, z11, z12, z13, z14, z15, z16, z17, z18, z19⟩ := hSe.out _ hSw; go_simp; try with_reducible rfl)
            try simp only [Act.put, List.setIfInBounds_toArray, List.set_cons_zero, List.set_cons_succ]
            refine callH 30 rfl (by kernel_rfl) (fun K hK => ?_)
            rw [if_pos (by rfl)]
            have hth := there_blk_at hGN34.out (o := 0) (n := 22) (by decide)
            have hNb : Blk (World.setCells (U34) g3 0 ([.int .i64 bl, .int .i64 wd, .slice B2 n2 d2, .slice B3 n3 d3, .slice B4 n4 d4, .slice B5 n5 d5, .int .i64 qk, .int .i64 qo, .int .i64 qv, .int .i64 qw, .string qn, .slice qA qs.length qc, .slice none 0 0, .slice none 0 0, .slice B9 work2.length d9, .slice B10 recov2.length d10, .int .i64 jk, .int .i64 jo, .int .i64 jv, .int .i64 jw, .string jn, .slice jA js.length jc] : List Value)) g3 113 #[.int .i64 bl, .int .i64 wd, .slice B2 n2 d2, .slice B3 n3 d3, .slice B4 n4 d4, .slice B5 n5 d5, .int .i64 qk, .int .i64 qo, .int .i64 qv, .int .i64 qw, .string qn, .slice qA qs.length qc, .slice none 0 0, .slice none 0 0, .slice B9 work2.length d9, .slice B10 recov2.length d10, .int .i64 jk, .int .i64 jo, .int .i64 jv, .int .i64 jw, .string jn, .slice jA js.length jc] := blk_put6 hGN34.out (vs := #[.int .i64 bl, .int .i64 wd, .slice B2 n2 d2, .slice B3 n3 d3, .slice B4 n4 d4, .slice B5 n5 d5, .int .i64 qk, .int .i64 qo, .int .i64 qv, .int .i64 qw, .string qn, .slice qA qs.length qc, .slice none 0 0, .slice none 0 0, .slice B9 work2.length d9, .slice B10 recov2.length d10, .int .i64 jk, .int .i64 jo, .int .i64 jv, .int .i64 jw, .string jn, .slice jA js.length jc]) rfl
            have hoS : Only [g3] (U34) (World.setCells (U34) g3 0 ([.int .i64 bl, .int .i64 wd, .slice B2 n2 d2, .slice B3 n3 d3, .slice B4 n4 d4, .slice B5 n5 d5, .int .i64 qk, .int .i64 qo, .int .i64 qv, .int .i64 qw, .string qn, .slice qA qs.length qc, .slice none 0 0, .slice none 0 0, .slice B9 work2.length d9, .slice B10 recov2.length d10, .int .i64 jk, .int .i64 jo, .int .i64 jv, .int .i64 jw, .string jn, .slice jA js.length jc] : List Value)) := only_setCells (b := g3) ([.int .i64 bl, .int .i64 wd, .slice B2 n2 d2, .slice B3 n3 d3, .slice B4 n4 d4, .slice B5 n5 d5, .int .i64 qk, .int .i64 qo, .int .i64 qv, .int .i64 qw, .string qn, .slice qA qs.length qc, .slice none 0 0, .slice none 0 0, .slice B9 work2.length d9, .slice B10 recov2.length d10, .int .i64 jk, .int .i64 jo, .int .i64 jv, .int .i64 jw, .string jn, .slice jA js.length jc] : List Value) 0 (U34)
            have hbF := hbN34.out.only hoS (fun hm => Nat.not_lt.2 hloW (by rw [← List.mem_singleton.1 hm]; exact hgyl.out))
            have hBF : Below W1.heap.size W1 (World.setCells (U34) g3 0 ([.int .i64 bl, .int .i64 wd, .slice B2 n2 d2, .slice B3 n3 d3, .slice B4 n4 d4, .slice B5 n5 d5, .int .i64 qk, .int .i64 qo, .int .i64 qv, .int .i64 qw, .string qn, .slice qA qs.length qc, .slice none 0 0, .slice none 0 0, .slice B9 work2.length d9, .slice B10 recov2.length d10, .int .i64 jk, .int .i64 jo, .int .i64 jv, .int .i64 jw, .string jn, .slice jA js.length jc] : List Value)) := hBN34.out.trans (hoS.below (by have := hBN34.out.size; omega) (by simp; omega))
            have hAF := Lib.hid (hAA34.out.only hoS hgn34.out)
            replace hNb := Lib.hid hNb
            replace hBF := Lib.hid hBF
            refine wp_store_mid 113 (.tmp 3) (.tmp 36) rfl g3 0 #[.int .i64 bl, .int .i64 wd, .slice B2 n2 d2, .slice B3 n3 d3, .slice B4 n4 d4, .slice B5 n5 d5, .int .i64 qk, .int .i64 qo, .int .i64 qv, .int .i64 qw, .string qn, .slice qA qs.length qc, .slice none 0 0, .slice none 0 0, .slice B9 work2.length d9, .slice B10 recov2.length d10, .int .i64 jk, .int .i64 jo, .int .i64 jv, .int .i64 jw, .string jn, .slice jA js.length jc] rfl rfl hth (by kernel_rfl) (by simp [Value.oneCell']) ?_
            clear hoS hth
            refine hK.out _ _ (hSi.out _ ⟨hbF.cell 0, hbF.cell 1, hbF.cell 2, hbF.cell 3, hbF.cell 4, hbF.cell 5, hbF.cell 6, hbF.cell 7, hbF.cell 8, hbF.cell 9, hbF.cell 10, hbF.cell 11, hbF.cell 14, hbF.cell 15, hbF.cell 16, hbF.cell 17, hbF.cell 18, hbF.cell 19, hbF.cell 20, hbF.cell 21⟩) (fun hSn => ?_)
            clear hK K hS
            have hS := hSn
            clear hSn
            refine wpAnyH_done (by kernel_rfl) ?_ _
            clear hS hSi hSe
            go_wp2_with fail
            go_meet
            refine ⟨B2, d2, B3, d3, B4, d4, B5, d5, qk, qo, qv, qw, qn, qA, qc, qs, B9, d9, work2, B10, d10, recov2, jk, jo, jv, jw, jn, jA, jc, js, _, _, g3, rfl, hNb.out, hAF.out, fun W h => ?_, hgn34.out, hloW, hp18.out, hp21.out, hp24.out, hp27.out, hBF.out⟩
            obtain ⟨⟨⟨⟨⟨⟨⟨⟨_, h1⟩, h2⟩, h3⟩, h4⟩, h5⟩, h6⟩, h7⟩, h8⟩ := h
            exact ⟨by rw [hn2.out] at h1; exact h1, by rw [hn3.out] at h2; exact h2, by rw [hn4.out] at h3; exact h3, by rw [hn5.out] at h4; exact h4, h5, h6, h7, h8⟩
        · go_simp
          have hBz := (Below.refl _ (U2)).alloc (Nat.le_refl _) (.cells #[.int .i64 0, .int .i64 0, .slice none 0 0, .slice none 0 0, .slice none 0 0, .slice none 0 0, .int .i64 0, .int .i64 0, .int .i64 0, .int .i64 0, .string ⟨#[]⟩, .slice none 0 0, .slice none 0 0, .slice none 0 0, .slice none 0 0, .slice none 0 0, .int .i64 0, .int .i64 0, .int .i64 0, .int .i64 0, .string ⟨#[]⟩, .slice none 0 0] 113)
          have hG0 := Blk.new (U2) 113 #[.int .i64 0, .int .i64 0, .slice none 0 0, .slice none 0 0, .slice none 0 0, .slice none 0 0, .int .i64 0, .int .i64 0, .int .i64 0, .int .i64 0, .string ⟨#[]⟩, .slice none 0 0, .slice none 0 0, .slice none 0 0, .slice none 0 0, .slice none 0 0, .int .i64 0, .int .i64 0, .int .i64 0, .int .i64 0, .string ⟨#[]⟩, .slice none 0 0]
          obtain ⟨g3, hg3⟩ : ∃ g, (U2).heap.size = g := ⟨_, rfl⟩
          rw [hg3] at hG0
          try rw [hg3]
          have hloW : W1.heap.size ≤ g3 := by have := hBN2.out.size; omega
          have hgn36 := Lib.hid (acc_new hAA2.out hg3)
          have hbN36 := Lib.hid (hbN2.out.below hBz hbN2.out.lt)
          have hBN36 := Lib.hid (below_and hBN2.out hBz)
          have hAN36 := hAA2.out.new hBz
          replace hAN36 := Lib.hid hAN36
          replace hG0 := Lib.hid hG0
          generalize (U2).alloc (.cells #[.int .i64 0, .int .i64 0, .slice none 0 0, .slice none 0 0, .slice none 0 0, .slice none 0 0, .int .i64 0, .int .i64 0, .int .i64 0, .int .i64 0, .string ⟨#[]⟩, .slice none 0 0, .slice none 0 0, .slice none 0 0, .slice none 0 0, .slice none 0 0, .int .i64 0, .int .i64 0, .int .i64 0, .int .i64 0, .string ⟨#[]⟩, .slice none 0 0] 113) = U36 at *
          clear hBz hg3
          refine hK.out _ _ (hSi.out _ ⟨hbN36.out.cell 0, hbN36.out.cell 1, hbN36.out.cell 2, hbN36.out.cell 3, hbN36.out.cell 4, hbN36.out.cell 5, hbN36.out.cell 6, hbN36.out.cell 7, hbN36.out.cell 8, hbN36.out.cell 9, hbN36.out.cell 10, hbN36.out.cell 11, hbN36.out.cell 14, hbN36.out.cell 15, hbN36.out.cell 16, hbN36.out.cell 17, hbN36.out.cell 18, hbN36.out.cell 19, hbN36.out.cell 20, hbN36.out.cell 21⟩) (fun hSn => ?_)
          clear hK K hS
          have hS := hSn
          clear hSn
          refine callH 12 rfl (by kernel_rfl) (fun K hK => ?_)
          go_simp
          have hcc := Lib.hid (hd4.out _ (below_and hB.out hBN36.out))
          go_wp2_with (go_at_call 78; refine hcc.out.mono ?_; rintro e U37 ⟨⟨B4, d4, rfl, hoX⟩, hB2⟩)
          clear hcc
          have hloW : W1.heap.size ≤ (U36).heap.size := hBN36.out.size
          have hbN37 := Lib.hid (hbN36.out.below hB2 hbN36.out.lt)
          have hBN37 := Lib.hid (below_and hBN36.out hB2)
          have hAN37 := hAN36.out.new hB2
          have hGN37 := Lib.hid (hG0.out.below hB2 hG0.out.lt)
          have hAA37 := Lib.hid (hAN37.add (keep_row W1.heap.size 138 3 n4 ⟨B4, d4⟩ (cellsD va)) (own_base hoX hloW))
          have hgn37 : g3 ∉ _ ++ (Loc.mk B4 d4).fp := fun hm => (List.mem_append.1 hm).elim hgn36.out (fun hm => by have h1 := (own_ge (l := ⟨B4, d4⟩) hoX g3 hm).1; have h2 := hG0.out.lt; omega)
          replace hgn37 := Lib.hid hgn37
          clear hAN37
          clear hB2 hoX hloW
          refine hK.out _ _ (hSi.out _ ⟨hbN37.out.cell 0, hbN37.out.cell 1, hbN37.out.cell 2, hbN37.out.cell 3, hbN37.out.cell 4, hbN37.out.cell 5, hbN37.out.cell 6, hbN37.out.cell 7, hbN37.out.cell 8, hbN37.out.cell 9, hbN37.out.cell 10, hbN37.out.cell 11, hbN37.out.cell 14, hbN37.out.cell 15, hbN37.out.cell 16, hbN37.out.cell 17, hbN37.out.cell 18, hbN37.out.cell 19, hbN37.out.cell 20, hbN37.out.cell 21⟩) (fun hSn => ?_)
          clear hK K hS
          have hS := hSn
          clear hSn
          refine callH 15 rfl (by kernel_rfl) (fun K hK => ?_)
          go_simp
          have hcc := Lib.hid (hd5.out _ (below_and hB.out hBN37.out))
          go_wp2_with (go_at_call 78; refine hcc.out.mono ?_; rintro e U38 ⟨⟨B5, d5, rfl, hoX⟩, hB2⟩)
          clear hcc
          have hloW : W1.heap.size ≤ (U37).heap.size := hBN37.out.size
          have hbN38 := Lib.hid (hbN37.out.below hB2 hbN37.out.lt)
          have hBN38 := Lib.hid (below_and hBN37.out hB2)
          have hAN38 := hAA37.out.new hB2
          have hGN38 := Lib.hid (hGN37.out.below hB2 hGN37.out.lt)
          have hAA38 := Lib.hid (hAN38.add (keep_row W1.heap.size 138 3 n5 ⟨B5, d5⟩ (cellsD ar)) (own_base hoX hloW))
          have hgn38 : g3 ∉ _ ++ (Loc.mk B5 d5).fp := fun hm => (List.mem_append.1 hm).elim hgn37.out (fun hm => by have h1 := (own_ge (l := ⟨B5, d5⟩) hoX g3 hm).1; have h2 := hGN37.out.lt; omega)
          replace hgn38 := Lib.hid hgn38
          clear hAN38
          clear hB2 hoX hloW
          refine hK.out _ _ (hSi.out _ ⟨hbN38.out.cell 0, hbN38.out.cell 1, hbN38.out.cell 2, hbN38.out.cell 3, hbN38.out.cell 4, hbN38.out.cell 5, hbN38.out.cell 6, hbN38.out.cell 7, hbN38.out.cell 8, hbN38.out.cell 9, hbN38.out.cell 10, hbN38.out.cell 11, hbN38.out.cell 14, hbN38.out.cell 15, hbN38.out.cell 16, hbN38.out.cell 17, hbN38.out.cell 18, hbN38.out.cell 19, hbN38.out.cell 20, hbN38.out.cell 21⟩) (fun hSn => ?_)
          clear hK K hS
          have hS := hSn
          clear hSn
          refine callH 18 rfl (by kernel_rfl) (fun K hK => ?_)
          go_simp
          have hcc := Lib.hid (hcr.out _ (below_and hB.out hBN38.out))
          go_wp2_with (go_at_call 79; refine hcc.out.mono ?_; rintro e U39 ⟨⟨qk, qo, qv, qw, qn, qA, qc, qs, rfl, hp18, hoX⟩, hB2⟩)
          clear hcc
          have hloW : W1.heap.size ≤ (U38).heap.size := hBN38.out.size
          have hbN39 := Lib.hid (hbN38.out.below hB2 hbN38.out.lt)
          have hBN39 := Lib.hid (below_and hBN38.out hB2)
          have hAN39 := hAA38.out.new hB2
          have hGN39 := Lib.hid (hGN38.out.below hB2 hGN38.out.lt)
          have hAA39 := Lib.hid (hAN39.add (keep_ex eR W1.heap.size (Ex.mk ⟨qk, qo, qv, qw, qn⟩ (⟨qA, qc⟩ : Loc) qs)) (hoX.base_le hloW))
          have hgn39 : g3 ∉ _ ++ (Ex.mk ⟨qk, qo, qv, qw, qn⟩ (⟨qA, qc⟩ : Loc) qs).fp := fun hm => (List.mem_append.1 hm).elim hgn38.out (fun hm => by have h1 := (hoX.ge g3 hm).1; have h2 := hGN38.out.lt; omega)
          replace hgn39 := Lib.hid hgn39
          clear hAN39
          replace hp18 := Lib.hid hp18
          clear hB2 hoX hloW
          refine hK.out _ _ (hSi.out _ ⟨hbN39.out.cell 0, hbN39.out.cell 1, hbN39.out.cell 2, hbN39.out.cell 3, hbN39.out.cell 4, hbN39.out.cell 5, hbN39.out.cell 6, hbN39.out.cell 7, hbN39.out.cell 8, hbN39.out.cell 9, hbN39.out.cell 10, hbN39.out.cell 11, hbN39.out.cell 14, hbN39.out.cell 15, hbN39.out.cell 16, hbN39.out.cell 17, hbN39.out.cell 18, hbN39.out.cell 19, hbN39.out.cell 20, hbN39.out.cell 21⟩) (fun hSn => ?_)
          clear hK K hS
          have hS := hSn
          clear hSn
          refine callH 21 rfl (by kernel_rfl) (fun K hK => ?_)
          go_simp
          have hcc := Lib.hid (hcw.out _ (below_and hB.out hBN39.out))
          go_wp2_with (go_at_call 80; refine hcc.out.mono ?_; rintro e U40 ⟨⟨B9, d9, work2, rfl, hp21, hoX⟩, hB2⟩)
          clear hcc
          have hloW : W1.heap.size ≤ (U39).heap.size := hBN39.out.size
          have hbN40 := Lib.hid (hbN39.out.below hB2 hbN39.out.lt)
          have hBN40 := Lib.hid (below_and hBN39.out hB2)
          have hAN40 := hAA39.out.new hB2
          have hGN40 := Lib.hid (hGN39.out.below hB2 hGN39.out.lt)
          have hAA40 := Lib.hid (hAN40.add (keep_lst eR W1.heap.size ⟨B9, d9⟩ work2) (hoX.base_le hloW))
          have hgn40 : g3 ∉ _ ++ Lst.fp ⟨B9, d9⟩ work2 := fun hm => (List.mem_append.1 hm).elim hgn39.out (fun hm => by have h1 := (hoX.ge g3 hm).1; have h2 := hGN39.out.lt; omega)
          replace hgn40 := Lib.hid hgn40
          clear hAN40
          replace hp21 := Lib.hid hp21
          clear hB2 hoX hloW
          refine hK.out _ _ (hSi.out _ ⟨hbN40.out.cell 0, hbN40.out.cell 1, hbN40.out.cell 2, hbN40.out.cell 3, hbN40.out.cell 4, hbN40.out.cell 5, hbN40.out.cell 6, hbN40.out.cell 7, hbN40.out.cell 8, hbN40.out.cell 9, hbN40.out.cell 10, hbN40.out.cell 11, hbN40.out.cell 14, hbN40.out.cell 15, hbN40.out.cell 16, hbN40.out.cell 17, hbN40.out.cell 18, hbN40.out.cell 19, hbN40.out.cell 20, hbN40.out.cell 21⟩) (fun hSn => ?_)
          clear hK K hS
          have hS := hSn
          clear hSn
          refine callH 24 rfl (by kernel_rfl) (fun K hK => ?_)
          go_simp
          have hcc := Lib.hid (hcv.out _ (below_and hB.out hBN40.out))
          go_wp2_with (go_at_call 80; refine hcc.out.mono ?_; rintro e U41 ⟨⟨B10, d10, recov2, rfl, hp24, hoX⟩, hB2⟩)
          clear hcc
          have hloW : W1.heap.size ≤ (U40).heap.size := hBN40.out.size
          have hbN41 := Lib.hid (hbN40.out.below hB2 hbN40.out.lt)
          have hBN41 := Lib.hid (below_and hBN40.out hB2)
          have hAN41 := hAA40.out.new hB2
          have hGN41 := Lib.hid (hGN40.out.below hB2 hGN40.out.lt)
          have hAA41 := Lib.hid (hAN41.add (keep_lst eR W1.heap.size ⟨B10, d10⟩ recov2) (hoX.base_le hloW))
          have hgn41 : g3 ∉ _ ++ Lst.fp ⟨B10, d10⟩ recov2 := fun hm => (List.mem_append.1 hm).elim hgn40.out (fun hm => by have h1 := (hoX.ge g3 hm).1; have h2 := hGN40.out.lt; omega)
          replace hgn41 := Lib.hid hgn41
          clear hAN41
          replace hp24 := Lib.hid hp24
          clear hB2 hoX hloW
          refine hK.out _ _ (hSi.out _ ⟨hbN41.out.cell 0, hbN41.out.cell 1, hbN41.out.cell 2, hbN41.out.cell 3, hbN41.out.cell 4, hbN41.out.cell 5, hbN41.out.cell 6, hbN41.out.cell 7, hbN41.out.cell 8, hbN41.out.cell 9, hbN41.out.cell 10, hbN41.out.cell 11, hbN41.out.cell 14, hbN41.out.cell 15, hbN41.out.cell 16, hbN41.out.cell 17, hbN41.out.cell 18, hbN41.out.cell 19, hbN41.out.cell 20, hbN41.out.cell 21⟩) (fun hSn => ?_)
          clear hK K hS
          have hS := hSn
          clear hSn
          refine callH 27 rfl (by kernel_rfl) (fun K hK => ?_)
          go_simp
          have hcc := Lib.hid (hci.out _ (below_and hB.out hBN41.out))
          go_wp2_with (go_at_call 79; refine hcc.out.mono ?_; rintro e U42 ⟨⟨jk, jo, jv, jw, jn, jA, jc, js, rfl, hp27, hoX⟩, hB2⟩)
          clear hcc
          have hloW : W1.heap.size ≤ (U41).heap.size := hBN41.out.size
          have hbN42 := Lib.hid (hbN41.out.below hB2 hbN41.out.lt)
          have hBN42 := Lib.hid (below_and hBN41.out hB2)
          have hAN42 := hAA41.out.new hB2
          have hGN42 := Lib.hid (hGN41.out.below hB2 hGN41.out.lt)
          have hAA42 := Lib.hid (hAN42.add (keep_ex eR W1.heap.size (Ex.mk ⟨jk, jo, jv, jw, jn⟩ (⟨jA, jc⟩ : Loc) js)) (hoX.base_le hloW))
          have hgn42 : g3 ∉ _ ++ (Ex.mk ⟨jk, jo, jv, jw, jn⟩ (⟨jA, jc⟩ : Loc) js).fp := fun hm => (List.mem_append.1 hm).elim hgn41.out (fun hm => by have h1 := (hoX.ge g3 hm).1; have h2 := hGN41.out.lt; omega)
          replace hgn42 := Lib.hid hgn42
          clear hAN42
          replace hp27 := Lib.hid hp27
          clear hB2 hoX hloW
          refine hK.out _ _ (hSi.out _ ⟨hbN42.out.cell 0, hbN42.out.cell 1, hbN42.out.cell 2, hbN42.out.cell 3, hbN42.out.cell 4, hbN42.out.cell 5, hbN42.out.cell 6, hbN42.out.cell 7, hbN42.out.cell 8, hbN42.out.cell 9, hbN42.out.cell 10, hbN42.out.cell 11, hbN42.out.cell 14, hbN42.out.cell 15, hbN42.out.cell 16, hbN42.out.cell 17, hbN42.out.cell 18, hbN42.out.cell 19, hbN42.out.cell 20, hbN42.out.cell 21⟩) (fun hSn => ?_)
          clear hK K hS
          have hS := hSn
          clear hSn
          refine takeH 28 (v := ?_) rfl (by kernel_rfl) (by kernel_rfl) (by kernel_rfl) (fun _ _ _ h => h) (by rfl) hS ?_ ?_
          rotate_left
          · (intro wz hSw; obtain ⟨z0, z1, z2, z3, z4, z5, z6, z7, z8, z9, z10, z11, z12, z13, z14, z15, z16, z17, z18, z19⟩ := hSe.out _ hSw; go_simp; try with_reducible rfl)
          try simp only [Act.put, List.setIfInBounds_toArray, List.set_cons_zero, List.set_cons_succ]
          refine callH 30 rfl (by kernel_rfl) (fun K hK => ?_)
          rw [if_pos (by rfl)]
          have hth := there_blk_at hGN42.out (o := 0) (n := 22) (by decide)
          have hNb : Blk (World.setCells (U42) g3 0 ([.int .i64 bl, .int .i64 wd, .slice B2 n2 d2, .slice B3 n3 d3, .slice B4 n4 d4, .slice B5 n5 d5, .int .i64 qk, .int .i64 qo, .int .i64 qv, .int .i64 qw, .string qn, .slice qA qs.length qc, .slice none 0 0, .slice none 0 0, .slice B9 work2.length d9, .slice B10 recov2.length d10, .int .i64 jk, .int .i64 jo, .int .i64 jv, .int .i64 jw, .string jn, .slice jA js.length jc] : List Value)) g3 113 #[.int .i64 bl, .int .i64 wd, .slice B2 n2 d2, .slice B3 n3 d3, .slice B4 n4 d4, .slice B5 n5 d5, .int .i64 qk, .int .i64 qo, .int .i64 qv, .int .i64 qw, .string qn, .slice qA qs.length qc, .slice none 0 0, .slice none 0 0, .slice B9 work2.length d9, .slice B10 recov2.length d10, .int .i64 jk, .int .i64 jo, .int .i64 jv, .int .i64 jw, .string jn, .slice jA js.length jc] := blk_put6 hGN42.out (vs := #[.int .i64 bl, .int .i64 wd, .slice B2 n2 d2, .slice B3 n3 d3, .slice B4 n4 d4, .slice B5 n5 d5, .int .i64 qk, .int .i64 qo, .int .i64 qv, .int .i64 qw, .string qn, .slice qA qs.length qc, .slice none 0 0, .slice none 0 0, .slice B9 work2.length d9, .slice B10 recov2.length d10, .int .i64 jk, .int .i64 jo, .int .i64 jv, .int .i64 jw, .string jn, .slice jA js.length jc]) rfl
          have hoS : Only [g3] (U42) (World.setCells (U42) g3 0 ([.int .i64 bl, .int .i64 wd, .slice B2 n2 d2, .slice B3 n3 d3, .slice B4 n4 d4, .slice B5 n5 d5, .int .i64 qk, .int .i64 qo, .int .i64 qv, .int .i64 qw, .string qn, .slice qA qs.length qc, .slice none 0 0, .slice none 0 0, .slice B9 work2.length d9, .slice B10 recov2.length d10, .int .i64 jk, .int .i64 jo, .int .i64 jv, .int .i64 jw, .string jn, .slice jA js.length jc] : List Value)) := only_setCells (b := g3) ([.int .i64 bl, .int .i64 wd, .slice B2 n2 d2, .slice B3 n3 d3, .slice B4 n4 d4, .slice B5 n5 d5, .int .i64 qk, .int .i64 qo, .int .i64 qv, .int .i64 qw, .string qn, .slice qA qs.length qc, .slice none 0 0, .slice none 0 0, .slice B9 work2.length d9, .slice B10 recov2.length d10, .int .i64 jk, .int .i64 jo, .int .i64 jv, .int .i64 jw, .string jn, .slice jA js.length jc] : List Value) 0 (U42)
          have hbF := hbN42.out.only hoS (fun hm => Nat.not_lt.2 hloW (by rw [← List.mem_singleton.1 hm]; exact hgyl.out))
          have hBF : Below W1.heap.size W1 (World.setCells (U42) g3 0 ([.int .i64 bl, .int .i64 wd, .slice B2 n2 d2, .slice B3 n3 d3, .slice B4 n4 d4, .slice B5 n5 d5, .int .i64 qk, .int .i64 qo, .int .i64 qv, .int .i64 qw, .string qn, .slice qA qs.length qc, .slice none 0 0, .slice none 0 0, .slice B9 work2.length d9, .slice B10 recov2.length d10, .int .i64 jk, .int .i64 jo, .int .i64 jv, .int .i64 jw, .string jn, .slice jA js.length jc] : List Value)) := hBN42.out.trans (hoS.below (by have := hBN42.out.size; omega) (by simp; omega))
          have hAF := Lib.hid (hAA42.out.only hoS hgn42.out)
          replace hNb := Lib.hid hNb
          replace hBF := Lib.hid hBF
          refine wp_store_mid 113 (.tmp 3) (.tmp 36) rfl g3 0 #[.int .i64 bl, .int .i64 wd, .slice B2 n2 d2, .slice B3 n3 d3, .slice B4 n4 d4, .slice B5 n5 d5, .int .i64 qk, .int .i64 qo, .int .i64 qv, .int .i64 qw, .string qn, .slice qA qs.length qc, .slice none 0 0, .slice none 0 0, .slice B9 work2.length d9, .slice B10 recov2.length d10, .int .i64 jk, .int .i64 jo, .int .i64 jv, .int .i64 jw, .string jn, .slice jA js.length jc] rfl rfl hth (by kernel_rfl) (by simp [Value.oneCell']) ?_
          clear hoS hth
          refine hK.out _ _ (hSi.out _ ⟨hbF.cell 0, hbF.cell 1, hbF.cell 2, hbF.cell 3, hbF.cell 4, hbF.cell 5, hbF.cell 6, hbF.cell 7, hbF.cell 8, hbF.cell 9, hbF.cell 10, hbF.cell 11, hbF.cell 14, hbF.cell 15, hbF.cell 16, hbF.cell 17, hbF.cell 18, hbF.cell 19, hbF.cell 20, hbF.cell 21⟩) (fun hSn => ?_)
          clear hK K hS
          have hS := hSn
          clear hSn
          refine wpAnyH_done (by kernel_rfl) ?_ _
          clear hS hSi hSe
          go_wp2_with fail
          go_meet
          refine ⟨B2, d2, B3, d3, B4, d4, B5, d5, qk, qo, qv, qw, qn, qA, qc, qs, B9, d9, work2, B10, d10, recov2, jk, jo, jv, jw, jn, jA, jc, js, _, _, g3, rfl, hNb.out, hAF.out, fun W h => ?_, hgn42.out, hloW, hp18.out, hp21.out, hp24.out, hp27.out, hBF.out⟩
          obtain ⟨⟨⟨⟨⟨⟨⟨⟨_, h1⟩, h2⟩, h3⟩, h4⟩, h5⟩, h6⟩, h7⟩, h8⟩ := h
          exact ⟨by rw [hn2.out] at h1; exact h1, by rw [hn3.out] at h2; exact h2, by rw [hn4.out] at h3; exact h3, by rw [hn5.out] at h4; exact h4, h5, h6, h7, h8⟩
      · go_simp
        have hBz := (Below.refl _ (U1)).alloc (Nat.le_refl _) (.cells #[.int .i64 0, .int .i64 0, .slice none 0 0, .slice none 0 0, .slice none 0 0, .slice none 0 0, .int .i64 0, .int .i64 0, .int .i64 0, .int .i64 0, .string ⟨#[]⟩, .slice none 0 0, .slice none 0 0, .slice none 0 0, .slice none 0 0, .slice none 0 0, .int .i64 0, .int .i64 0, .int .i64 0, .int .i64 0, .string ⟨#[]⟩, .slice none 0 0] 113)
        have hG0 := Blk.new (U1) 113 #[.int .i64 0, .int .i64 0, .slice none 0 0, .slice none 0 0, .slice none 0 0, .slice none 0 0, .int .i64 0, .int .i64 0, .int .i64 0, .int .i64 0, .string ⟨#[]⟩, .slice none 0 0, .slice none 0 0, .slice none 0 0, .slice none 0 0, .slice none 0 0, .int .i64 0, .int .i64 0, .int .i64 0, .int .i64 0, .string ⟨#[]⟩, .slice none 0 0]
        obtain ⟨g3, hg3⟩ : ∃ g, (U1).heap.size = g := ⟨_, rfl⟩
        rw [hg3] at hG0
        try rw [hg3]
        have hloW : W1.heap.size ≤ g3 := by have := hBN1.out.size; omega
        have hgn44 := Lib.hid (acc_new hAA1.out hg3)
        have hbN44 := Lib.hid (hbN1.out.below hBz hbN1.out.lt)
        have hBN44 := Lib.hid (below_and hBN1.out hBz)
        have hAN44 := hAA1.out.new hBz
        replace hAN44 := Lib.hid hAN44
        replace hG0 := Lib.hid hG0
        generalize (U1).alloc (.cells #[.int .i64 0, .int .i64 0, .slice none 0 0, .slice none 0 0, .slice none 0 0, .slice none 0 0, .int .i64 0, .int .i64 0, .int .i64 0, .int .i64 0, .string ⟨#[]⟩, .slice none 0 0, .slice none 0 0, .slice none 0 0, .slice none 0 0, .slice none 0 0, .int .i64 0, .int .i64 0, .int .i64 0, .int .i64 0, .string ⟨#[]⟩, .slice none 0 0] 113) = U44 at *
        clear hBz hg3
        refine hK.out _ _ (hSi.out _ ⟨hbN44.out.cell 0, hbN44.out.cell 1, hbN44.out.cell 2, hbN44.out.cell 3, hbN44.out.cell 4, hbN44.out.cell 5, hbN44.out.cell 6, hbN44.out.cell 7, hbN44.out.cell 8, hbN44.out.cell 9, hbN44.out.cell 10, hbN44.out.cell 11, hbN44.out.cell 14, hbN44.out.cell 15, hbN44.out.cell 16, hbN44.out.cell 17, hbN44.out.cell 18, hbN44.out.cell 19, hbN44.out.cell 20, hbN44.out.cell 21⟩) (fun hSn => ?_)
        clear hK K hS
        have hS := hSn
        clear hSn
        refine callH 9 rfl (by kernel_rfl) (fun K hK => ?_)
        go_simp
        have hcc := Lib.hid (hd3.out _ (below_and hB.out hBN44.out))
        go_wp2_with (go_at_call 78; refine hcc.out.mono ?_; rintro e U45 ⟨⟨B3, d3, rfl, hoX⟩, hB2⟩)
        clear hcc
        have hloW : W1.heap.size ≤ (U44).heap.size := hBN44.out.size
        have hbN45 := Lib.hid (hbN44.out.below hB2 hbN44.out.lt)
        have hBN45 := Lib.hid (below_and hBN44.out hB2)
        have hAN45 := hAN44.out.new hB2
        have hGN45 := Lib.hid (hG0.out.below hB2 hG0.out.lt)
        have hAA45 := Lib.hid (hAN45.add (keep_row W1.heap.size 138 3 n3 ⟨B3, d3⟩ (cellsD gh)) (own_base hoX hloW))
        have hgn45 : g3 ∉ _ ++ (Loc.mk B3 d3).fp := fun hm => (List.mem_append.1 hm).elim hgn44.out (fun hm => by have h1 := (own_ge (l := ⟨B3, d3⟩) hoX g3 hm).1; have h2 := hG0.out.lt; omega)
        replace hgn45 := Lib.hid hgn45
        clear hAN45
        clear hB2 hoX hloW
        refine hK.out _ _ (hSi.out _ ⟨hbN45.out.cell 0, hbN45.out.cell 1, hbN45.out.cell 2, hbN45.out.cell 3, hbN45.out.cell 4, hbN45.out.cell 5, hbN45.out.cell 6, hbN45.out.cell 7, hbN45.out.cell 8, hbN45.out.cell 9, hbN45.out.cell 10, hbN45.out.cell 11, hbN45.out.cell 14, hbN45.out.cell 15, hbN45.out.cell 16, hbN45.out.cell 17, hbN45.out.cell 18, hbN45.out.cell 19, hbN45.out.cell 20, hbN45.out.cell 21⟩) (fun hSn => ?_)
        clear hK K hS
        have hS := hSn
        clear hSn
        refine callH 12 rfl (by kernel_rfl) (fun K hK => ?_)
        go_simp
        have hcc := Lib.hid (hd4.out _ (below_and hB.out hBN45.out))
        go_wp2_with (go_at_call 78; refine hcc.out.mono ?_; rintro e U46 ⟨⟨B4, d4, rfl, hoX⟩, hB2⟩)
        clear hcc
        have hloW : W1.heap.size ≤ (U45).heap.size := hBN45.out.size
        have hbN46 := Lib.hid (hbN45.out.below hB2 hbN45.out.lt)
        have hBN46 := Lib.hid (below_and hBN45.out hB2)
        have hAN46 := hAA45.out.new hB2
        have hGN46 := Lib.hid (hGN45.out.below hB2 hGN45.out.lt)
        have hAA46 := Lib.hid (hAN46.add (keep_row W1.heap.size 138 3 n4 ⟨B4, d4⟩ (cellsD va)) (own_base hoX hloW))
        have hgn46 : g3 ∉ _ ++ (Loc.mk B4 d4).fp := fun hm => (List.mem_append.1 hm).elim hgn45.out (fun hm => by have h1 := (own_ge (l := ⟨B4, d4⟩) hoX g3 hm).1; have h2 := hGN45.out.lt; omega)
        replace hgn46 := Lib.hid hgn46
        clear hAN46
        clear hB2 hoX hloW
        refine hK.out _ _ (hSi.out _ ⟨hbN46.out.cell 0, hbN46.out.cell 1, hbN46.out.cell 2, hbN46.out.cell 3, hbN46.out.cell 4, hbN46.out.cell 5, hbN46.out.cell 6, hbN46.out.cell 7, hbN46.out.cell 8, hbN46.out.cell 9, hbN46.out.cell 10, hbN46.out.cell 11, hbN46.out.cell 14, hbN46.out.cell 15, hbN46.out.cell 16, hbN46.out.cell 17, hbN46.out.cell 18, hbN46.out.cell 19, hbN46.out.cell 20, hbN46.out.cell 21⟩) (fun hSn => ?_)
        clear hK K hS
        have hS := hSn
        clear hSn
        refine callH 15 rfl (by kernel_rfl) (fun K hK => ?_)
        go_simp
        have hcc := Lib.hid (hd5.out _ (below_and hB.out hBN46.out))
        go_wp2_with (go_at_call 78; refine hcc.out.mono ?_; rintro e U47 ⟨⟨B5, d5, rfl, hoX⟩, hB2⟩)
        clear hcc
        have hloW : W1.heap.size ≤ (U46).heap.size := hBN46.out.size
        have hbN47 := Lib.hid (hbN46.out.below hB2 hbN46.out.lt)
        have hBN47 := Lib.hid (below_and hBN46.out hB2)
        have hAN47 := hAA46.out.new hB2
        have hGN47 := Lib.hid (hGN46.out.below hB2 hGN46.out.lt)
        have hAA47 := Lib.hid (hAN47.add (keep_row W1.heap.size 138 3 n5 ⟨B5, d5⟩ (cellsD ar)) (own_base hoX hloW))
        have hgn47 : g3 ∉ _ ++ (Loc.mk B5 d5).fp := fun hm => (List.mem_append.1 hm).elim hgn46.out (fun hm => by have h1 := (own_ge (l := ⟨B5, d5⟩) hoX g3 hm).1; have h2 := hGN46.out.lt; omega)
        replace hgn47 := Lib.hid hgn47
        clear hAN47
        clear hB2 hoX hloW
        refine hK.out _ _ (hSi.out _ ⟨hbN47.out.cell 0, hbN47.out.cell 1, hbN47.out.cell 2, hbN47.out.cell 3, hbN47.out.cell 4, hbN47.out.cell 5, hbN47.out.cell 6, hbN47.out.cell 7, hbN47.out.cell 8, hbN47.out.cell 9, hbN47.out.cell 10, hbN47.out.cell 11, hbN47.out.cell 14, hbN47.out.cell 15, hbN47.out.cell 16, hbN47.out.cell 17, hbN47.out.cell 18, hbN47.out.cell 19, hbN47.out.cell 20, hbN47.out.cell 21⟩) (fun hSn => ?_)
        clear hK K hS
        have hS := hSn
        clear hSn
        refine callH 18 rfl (by kernel_rfl) (fun K hK => ?_)
        go_simp
        have hcc := Lib.hid (hcr.out _ (below_and hB.out hBN47.out))
        go_wp2_with (go_at_call 79; refine hcc.out.mono ?_; rintro e U48 ⟨⟨qk, qo, qv, qw, qn, qA, qc, qs, rfl, hp18, hoX⟩, hB2⟩)
        clear hcc
        have hloW : W1.heap.size ≤ (U47).heap.size := hBN47.out.size
        have hbN48 := Lib.hid (hbN47.out.below hB2 hbN47.out.lt)
        have hBN48 := Lib.hid (below_and hBN47.out hB2)
        have hAN48 := hAA47.out.new hB2
        have hGN48 := Lib.hid (hGN47.out.below hB2 hGN47.out.lt)
        have hAA48 := Lib.hid (hAN48.add (keep_ex eR W1.heap.size (Ex.mk ⟨qk, qo, qv, qw, qn⟩ (⟨qA, qc⟩ : Loc) qs)) (hoX.base_le hloW))
        have hgn48 : g3 ∉ _ ++ (Ex.mk ⟨qk, qo, qv, qw, qn⟩ (⟨qA, qc⟩ : Loc) qs).fp := fun hm => (List.mem_append.1 hm).elim hgn47.out (fun hm => by have h1 := (hoX.ge g3 hm).1; have h2 := hGN47.out.lt; omega)
        replace hgn48 := Lib.hid hgn48
        clear hAN48
        replace hp18 := Lib.hid hp18
        clear hB2 hoX hloW
        refine hK.out _ _ (hSi.out _ ⟨hbN48.out.cell 0, hbN48.out.cell 1, hbN48.out.cell 2, hbN48.out.cell 3, hbN48.out.cell 4, hbN48.out.cell 5, hbN48.out.cell 6, hbN48.out.cell 7, hbN48.out.cell 8, hbN48.out.cell 9, hbN48.out.cell 10, hbN48.out.cell 11, hbN48.out.cell 14, hbN48.out.cell 15, hbN48.out.cell 16, hbN48.out.cell 17, hbN48.out.cell 18, hbN48.out.cell 19, hbN48.out.cell 20, hbN48.out.cell 21⟩) (fun hSn => ?_)
        clear hK K hS
        have hS := hSn
        clear hSn
        refine callH 21 rfl (by kernel_rfl) (fun K hK => ?_)
        go_simp
        have hcc := Lib.hid (hcw.out _ (below_and hB.out hBN48.out))
        go_wp2_with (go_at_call 80; refine hcc.out.mono ?_; rintro e U49 ⟨⟨B9, d9, work2, rfl, hp21, hoX⟩, hB2⟩)
        clear hcc
        have hloW : W1.heap.size ≤ (U48).heap.size := hBN48.out.size
        have hbN49 := Lib.hid (hbN48.out.below hB2 hbN48.out.lt)
        have hBN49 := Lib.hid (below_and hBN48.out hB2)
        have hAN49 := hAA48.out.new hB2
        have hGN49 := Lib.hid (hGN48.out.below hB2 hGN48.out.lt)
        have hAA49 := Lib.hid (hAN49.add (keep_lst eR W1.heap.size ⟨B9, d9⟩ work2) (hoX.base_le hloW))
        have hgn49 : g3 ∉ _ ++ Lst.fp ⟨B9, d9⟩ work2 := fun hm => (List.mem_append.1 hm).elim hgn48.out (fun hm => by have h1 := (hoX.ge g3 hm).1; have h2 := hGN48.out.lt; omega)
        replace hgn49 := Lib.hid hgn49
        clear hAN49
        replace hp21 := Lib.hid hp21
        clear hB2 hoX hloW
        refine hK.out _ _ (hSi.out _ ⟨hbN49.out.cell 0, hbN49.out.cell 1, hbN49.out.cell 2, hbN49.out.cell 3, hbN49.out.cell 4, hbN49.out.cell 5, hbN49.out.cell 6, hbN49.out.cell 7, hbN49.out.cell 8, hbN49.out.cell 9, hbN49.out.cell 10, hbN49.out.cell 11, hbN49.out.cell 14, hbN49.out.cell 15, hbN49.out.cell 16, hbN49.out.cell 17, hbN49.out.cell 18, hbN49.out.cell 19, hbN49.out.cell 20, hbN49.out.cell 21⟩) (fun hSn => ?_)
        clear hK K hS
        have hS := hSn
        clear hSn
        refine callH 24 rfl (by kernel_rfl) (fun K hK => ?_)
        go_simp
        have hcc := Lib.hid (hcv.out _ (below_and hB.out hBN49.out))
        go_wp2_with (go_at_call 80; refine hcc.out.mono ?_; rintro e U50 ⟨⟨B10, d10, recov2, rfl, hp24, hoX⟩, hB2⟩)
        clear hcc
        have hloW : W1.heap.size ≤ (U49).heap.size := hBN49.out.size
        have hbN50 := Lib.hid (hbN49.out.below hB2 hbN49.out.lt)
        have hBN50 := Lib.hid (below_and hBN49.out hB2)
        have hAN50 := hAA49.out.new hB2
        have hGN50 := Lib.hid (hGN49.out.below hB2 hGN49.out.lt)
        have hAA50 := Lib.hid (hAN50.add (keep_lst eR W1.heap.size ⟨B10, d10⟩ recov2) (hoX.base_le hloW))
        have hgn50 : g3 ∉ _ ++ Lst.fp ⟨B10, d10⟩ recov2 := fun hm => (List.mem_append.1 hm).elim hgn49.out (fun hm => by have h1 := (hoX.ge g3 hm).1; have h2 := hGN49.out.lt; omega)
        replace hgn50 := Lib.hid hgn50
        clear hAN50
        replace hp24 := Lib.hid hp24
        clear hB2 hoX hloW
        refine hK.out _ _ (hSi.out _ ⟨hbN50.out.cell 0, hbN50.out.cell 1, hbN50.out.cell 2, hbN50.out.cell 3, hbN50.out.cell 4, hbN50.out.cell 5, hbN50.out.cell 6, hbN50.out.cell 7, hbN50.out.cell 8, hbN50.out.cell 9, hbN50.out.cell 10, hbN50.out.cell 11, hbN50.out.cell 14, hbN50.out.cell 15, hbN50.out.cell 16, hbN50.out.cell 17, hbN50.out.cell 18, hbN50.out.cell 19, hbN50.out.cell 20, hbN50.out.cell 21⟩) (fun hSn => ?_)
        clear hK K hS
        have hS := hSn
        clear hSn
        refine callH 27 rfl (by kernel_rfl) (fun K hK => ?_)
        go_simp
        have hcc := Lib.hid (hci.out _ (below_and hB.out hBN50.out))
        go_wp2_with (go_at_call 79; refine hcc.out.mono ?_; rintro e U51 ⟨⟨jk, jo, jv, jw, jn, jA, jc, js, rfl, hp27, hoX⟩, hB2⟩)
        clear hcc
        have hloW : W1.heap.size ≤ (U50).heap.size := hBN50.out.size
        have hbN51 := Lib.hid (hbN50.out.below hB2 hbN50.out.lt)
        have hBN51 := Lib.hid (below_and hBN50.out hB2)
        have hAN51 := hAA50.out.new hB2
        have hGN51 := Lib.hid (hGN50.out.below hB2 hGN50.out.lt)
        have hAA51 := Lib.hid (hAN51.add (keep_ex eR W1.heap.size (Ex.mk ⟨jk, jo, jv, jw, jn⟩ (⟨jA, jc⟩ : Loc) js)) (hoX.base_le hloW))
        have hgn51 : g3 ∉ _ ++ (Ex.mk ⟨jk, jo, jv, jw, jn⟩ (⟨jA, jc⟩ : Loc) js).fp := fun hm => (List.mem_append.1 hm).elim hgn50.out (fun hm => by have h1 := (hoX.ge g3 hm).1; have h2 := hGN50.out.lt; omega)
        replace hgn51 := Lib.hid hgn51
        clear hAN51
        replace hp27 := Lib.hid hp27
        clear hB2 hoX hloW
        refine hK.out _ _ (hSi.out _ ⟨hbN51.out.cell 0, hbN51.out.cell 1, hbN51.out.cell 2, hbN51.out.cell 3, hbN51.out.cell 4, hbN51.out.cell 5, hbN51.out.cell 6, hbN51.out.cell 7, hbN51.out.cell 8, hbN51.out.cell 9, hbN51.out.cell 10, hbN51.out.cell 11, hbN51.out.cell 14, hbN51.out.cell 15, hbN51.out.cell 16, hbN51.out.cell 17, hbN51.out.cell 18, hbN51.out.cell 19, hbN51.out.cell 20, hbN51.out.cell 21⟩) (fun hSn => ?_)
        clear hK K hS
        have hS := hSn
        clear hSn
        refine takeH 28 (v := ?_) rfl (by kernel_rfl) (by kernel_rfl) (by kernel_rfl) (fun _ _ _ h => h) (by rfl) hS ?_ ?_
        rotate_left
        · (intro wz hSw; obtain ⟨z0, z1, z2, z3, z4, z5, z6, z7, z8, z9, z10, z11, z12, z13, z14, z15, z16, z17, z18, z19⟩ := hSe.out _ hSw; go_simp; try with_reducible rfl)
        try simp only [Act.put, List.setIfInBounds_toArray, List.set_cons_zero, List.set_cons_succ]
        refine callH 30 rfl (by kernel_rfl) (fun K hK => ?_)
        rw [if_pos (by rfl)]
        have hth := there_blk_at hGN51.out (o := 0) (n := 22) (by decide)
        have hNb : Blk (World.setCells (U51) g3 0 ([.int .i64 bl, .int .i64 wd, .slice B2 n2 d2, .slice B3 n3 d3, .slice B4 n4 d4, .slice B5 n5 d5, .int .i64 qk, .int .i64 qo, .int .i64 qv, .int .i64 qw, .string qn, .slice qA qs.length qc, .slice none 0 0, .slice none 0 0, .slice B9 work2.length d9, .slice B10 recov2.length d10, .int .i64 jk, .int .i64 jo, .int .i64 jv, .int .i64 jw, .string jn, .slice jA js.length jc] : List Value)) g3 113 #[.int .i64 bl, .int .i64 wd, .slice B2 n2 d2, .slice B3 n3 d3, .slice B4 n4 d4, .slice B5 n5 d5, .int .i64 qk, .int .i64 qo, .int .i64 qv, .int .i64 qw, .string qn, .slice qA qs.length qc, .slice none 0 0, .slice none 0 0, .slice B9 work2.length d9, .slice B10 recov2.length d10, .int .i64 jk, .int .i64 jo, .int .i64 jv, .int .i64 jw, .string jn, .slice jA js.length jc] := blk_put6 hGN51.out (vs := #[.int .i64 bl, .int .i64 wd, .slice B2 n2 d2, .slice B3 n3 d3, .slice B4 n4 d4, .slice B5 n5 d5, .int .i64 qk, .int .i64 qo, .int .i64 qv, .int .i64 qw, .string qn, .slice qA qs.length qc, .slice none 0 0, .slice none 0 0, .slice B9 work2.length d9, .slice B10 recov2.length d10, .int .i64 jk, .int .i64 jo, .int .i64 jv, .int .i64 jw, .string jn, .slice jA js.length jc]) rfl
        have hoS : Only [g3] (U51) (World.setCells (U51) g3 0 ([.int .i64 bl, .int .i64 wd, .slice B2 n2 d2, .slice B3 n3 d3, .slice B4 n4 d4, .slice B5 n5 d5, .int .i64 qk, .int .i64 qo, .int .i64 qv, .int .i64 qw, .string qn, .slice qA qs.length qc, .slice none 0 0, .slice none 0 0, .slice B9 work2.length d9, .slice B10 recov2.length d10, .int .i64 jk, .int .i64 jo, .int .i64 jv, .int .i64 jw, .string jn, .slice jA js.length jc] : List Value)) := only_setCells (b := g3) ([.int .i64 bl, .int .i64 wd, .slice B2 n2 d2, .slice B3 n3 d3, .slice B4 n4 d4, .slice B5 n5 d5, .int .i64 qk, .int .i64 qo, .int .i64 qv, .int .i64 qw, .string qn, .slice qA qs.length qc, .slice none 0 0, .slice none 0 0, .slice B9 work2.length d9, .slice B10 recov2.length d10, .int .i64 jk, .int .i64 jo, .int .i64 jv, .int .i64 jw, .string jn, .slice jA js.length jc] : List Value) 0 (U51)
        have hbF := hbN51.out.only hoS (fun hm => Nat.not_lt.2 hloW (by rw [← List.mem_singleton.1 hm]; exact hgyl.out))
        have hBF : Below W1.heap.size W1 (World.setCells (U51) g3 0 ([.int .i64 bl, .int .i64 wd, .slice B2 n2 d2, .slice B3 n3 d3, .slice B4 n4 d4, .slice B5 n5 d5, .int .i64 qk, .int .i64 qo, .int .i64 qv, .int .i64 qw, .string qn, .slice qA qs.length qc, .slice none 0 0, .slice none 0 0, .slice B9 work2.length d9, .slice B10 recov2.length d10, .int .i64 jk, .int .i64 jo, .int .i64 jv, .int .i64 jw, .string jn, .slice jA js.length jc] : List Value)) := hBN51.out.trans (hoS.below (by have := hBN51.out.size; omega) (by simp; omega))
        have hAF := Lib.hid (hAA51.out.only hoS hgn51.out)
        replace hNb := Lib.hid hNb
        replace hBF := Lib.hid hBF
        refine wp_store_mid 113 (.tmp 3) (.tmp 36) rfl g3 0 #[.int .i64 bl, .int .i64 wd, .slice B2 n2 d2, .slice B3 n3 d3, .slice B4 n4 d4, .slice B5 n5 d5, .int .i64 qk, .int .i64 qo, .int .i64 qv, .int .i64 qw, .string qn, .slice qA qs.length qc, .slice none 0 0, .slice none 0 0, .slice B9 work2.length d9, .slice B10 recov2.length d10, .int .i64 jk, .int .i64 jo, .int .i64 jv, .int .i64 jw, .string jn, .slice jA js.length jc] rfl rfl hth (by kernel_rfl) (by simp [Value.oneCell']) ?_
        clear hoS hth
        refine hK.out _ _ (hSi.out _ ⟨hbF.cell 0, hbF.cell 1, hbF.cell 2, hbF.cell 3, hbF.cell 4, hbF.cell 5, hbF.cell 6, hbF.cell 7, hbF.cell 8, hbF.cell 9, hbF.cell 10, hbF.cell 11, hbF.cell 14, hbF.cell 15, hbF.cell 16, hbF.cell 17, hbF.cell 18, hbF.cell 19, hbF.cell 20, hbF.cell 21⟩) (fun hSn => ?_)
        clear hK K hS
        have hS := hSn
        clear hSn
        refine wpAnyH_done (by kernel_rfl) ?_ _
        clear hS hSi hSe
        go_wp2_with fail
        go_meet
        refine ⟨B2, d2, B3, d3, B4, d4, B5, d5, qk, qo, qv, qw, qn, qA, qc, qs, B9, d9, work2, B10, d10, recov2, jk, jo, jv, jw, jn, jA, jc, js, _, _, g3, rfl, hNb.out, hAF.out, fun W h => ?_, hgn51.out, hloW, hp18.out, hp21.out, hp24.out, hp27.out, hBF.out⟩
        obtain ⟨⟨⟨⟨⟨⟨⟨⟨_, h1⟩, h2⟩, h3⟩, h4⟩, h5⟩, h6⟩, h7⟩, h8⟩ := h
        exact ⟨by rw [hn2.out] at h1; exact h1, by rw [hn3.out] at h2; exact h2, by rw [hn4.out] at h3; exact h3, by rw [hn5.out] at h4; exact h4, h5, h6, h7, h8⟩
    · go_simp
      rw [show (W1.alloc (.cells #[.int .i64 0, .int .i64 0, .slice none 0 0, .slice none 0 0, .slice none 0 0, .slice none 0 0, .int .i64 0, .int .i64 0, .int .i64 0, .int .i64 0, .string ⟨#[]⟩, .slice none 0 0, .slice none 0 0, .slice none 0 0, .slice none 0 0, .slice none 0 0, .int .i64 0, .int .i64 0, .int .i64 0, .int .i64 0, .string ⟨#[]⟩, .slice none 0 0] 113)).drew = W1.drew.alloc (.cells #[.int .i64 0, .int .i64 0, .slice none 0 0, .slice none 0 0, .slice none 0 0, .slice none 0 0, .int .i64 0, .int .i64 0, .int .i64 0, .int .i64 0, .string ⟨#[]⟩, .slice none 0 0, .slice none 0 0, .slice none 0 0, .slice none 0 0, .slice none 0 0, .int .i64 0, .int .i64 0, .int .i64 0, .int .i64 0, .string ⟨#[]⟩, .slice none 0 0] 113) from rfl]
      have hBz := (Below.refl _ (W1.drew)).alloc (Nat.le_refl _) (.cells #[.int .i64 0, .int .i64 0, .slice none 0 0, .slice none 0 0, .slice none 0 0, .slice none 0 0, .int .i64 0, .int .i64 0, .int .i64 0, .int .i64 0, .string ⟨#[]⟩, .slice none 0 0, .slice none 0 0, .slice none 0 0, .slice none 0 0, .slice none 0 0, .int .i64 0, .int .i64 0, .int .i64 0, .int .i64 0, .string ⟨#[]⟩, .slice none 0 0] 113)
      have hG0 := Blk.new (W1.drew) 113 #[.int .i64 0, .int .i64 0, .slice none 0 0, .slice none 0 0, .slice none 0 0, .slice none 0 0, .int .i64 0, .int .i64 0, .int .i64 0, .int .i64 0, .string ⟨#[]⟩, .slice none 0 0, .slice none 0 0, .slice none 0 0, .slice none 0 0, .slice none 0 0, .int .i64 0, .int .i64 0, .int .i64 0, .int .i64 0, .string ⟨#[]⟩, .slice none 0 0]
      obtain ⟨g3, hg3⟩ : ∃ g, (W1.drew).heap.size = g := ⟨_, rfl⟩
      rw [hg3] at hG0
      try rw [hg3]
      rw [show W1.heap.size = g3 from hg3]
      have hloW : W1.heap.size ≤ g3 := by have := hBd.out.size; omega
      have hgn53 := Lib.hid (acc_new hA0.out hg3)
      have hbN53 := Lib.hid (hbyd.out.below hBz hbyd.out.lt)
      have hBN53 := Lib.hid (below_and hBd.out hBz)
      have hAN53 := hA0.out.new hBz
      replace hAN53 := Lib.hid hAN53
      replace hG0 := Lib.hid hG0
      generalize (W1.drew).alloc (.cells #[.int .i64 0, .int .i64 0, .slice none 0 0, .slice none 0 0, .slice none 0 0, .slice none 0 0, .int .i64 0, .int .i64 0, .int .i64 0, .int .i64 0, .string ⟨#[]⟩, .slice none 0 0, .slice none 0 0, .slice none 0 0, .slice none 0 0, .slice none 0 0, .int .i64 0, .int .i64 0, .int .i64 0, .int .i64 0, .string ⟨#[]⟩, .slice none 0 0] 113) = U53 at *
      clear hBz hg3
      refine hK.out _ _ (hSi.out _ ⟨hbN53.out.cell 0, hbN53.out.cell 1, hbN53.out.cell 2, hbN53.out.cell 3, hbN53.out.cell 4, hbN53.out.cell 5, hbN53.out.cell 6, hbN53.out.cell 7, hbN53.out.cell 8, hbN53.out.cell 9, hbN53.out.cell 10, hbN53.out.cell 11, hbN53.out.cell 14, hbN53.out.cell 15, hbN53.out.cell 16, hbN53.out.cell 17, hbN53.out.cell 18, hbN53.out.cell 19, hbN53.out.cell 20, hbN53.out.cell 21⟩) (fun hSn => ?_)
      clear hK K hS
      have hS := hSn
      clear hSn
      refine callH 6 rfl (by kernel_rfl) (fun K hK => ?_)
      go_simp
      have hcc := Lib.hid (hd2.out _ (below_and hB.out hBN53.out))
      go_wp2_with (go_at_call 78; refine hcc.out.mono ?_; rintro e U54 ⟨⟨B2, d2, rfl, hoX⟩, hB2⟩)
      clear hcc
      have hloW : W1.heap.size ≤ (U53).heap.size := hBN53.out.size
      have hbN54 := Lib.hid (hbN53.out.below hB2 hbN53.out.lt)
      have hBN54 := Lib.hid (below_and hBN53.out hB2)
      have hAN54 := hAN53.out.new hB2
      have hGN54 := Lib.hid (hG0.out.below hB2 hG0.out.lt)
      have hAA54 := Lib.hid (hAN54.add (keep_row W1.heap.size 138 3 n2 ⟨B2, d2⟩ (cellsD ins)) (own_base hoX hloW))
      have hgn54 : g3 ∉ _ ++ (Loc.mk B2 d2).fp := fun hm => (List.mem_append.1 hm).elim hgn53.out (fun hm => by have h1 := (own_ge (l := ⟨B2, d2⟩) hoX g3 hm).1; have h2 := hG0.out.lt; omega)
      replace hgn54 := Lib.hid hgn54
      clear hAN54
      clear hB2 hoX hloW
      refine hK.out _ _ (hSi.out _ ⟨hbN54.out.cell 0, hbN54.out.cell 1, hbN54.out.cell 2, hbN54.out.cell 3, hbN54.out.cell 4, hbN54.out.cell 5, hbN54.out.cell 6, hbN54.out.cell 7, hbN54.out.cell 8, hbN54.out.cell 9, hbN54.out.cell 10, hbN54.out.cell 11, hbN54.out.cell 14, hbN54.out.cell 15, hbN54.out.cell 16, hbN54.out.cell 17, hbN54.out.cell 18, hbN54.out.cell 19, hbN54.out.cell 20, hbN54.out.cell 21⟩) (fun hSn => ?_)
      clear hK K hS
      have hS := hSn
      clear hSn
      refine callH 9 rfl (by kernel_rfl) (fun K hK => ?_)
      go_simp
      have hcc := Lib.hid (hd3.out _ (below_and hB.out hBN54.out))
      go_wp2_with (go_at_call 78; refine hcc.out.mono ?_; rintro e U55 ⟨⟨B3, d3, rfl, hoX⟩, hB2⟩)
      clear hcc
      have hloW : W1.heap.size ≤ (U54).heap.size := hBN54.out.size
      have hbN55 := Lib.hid (hbN54.out.below hB2 hbN54.out.lt)
      have hBN55 := Lib.hid (below_and hBN54.out hB2)
      have hAN55 := hAA54.out.new hB2
      have hGN55 := Lib.hid (hGN54.out.below hB2 hGN54.out.lt)
      have hAA55 := Lib.hid (hAN55.add (keep_row W1.heap.size 138 3 n3 ⟨B3, d3⟩ (cellsD gh)) (own_base hoX hloW))
      have hgn55 : g3 ∉ _ ++ (Loc.mk B3 d3).fp := fun hm => (List.mem_append.1 hm).elim hgn54.out (fun hm => by have h1 := (own_ge (l := ⟨B3, d3⟩) hoX g3 hm).1; have h2 := hGN54.out.lt; omega)
      replace hgn55 := Lib.hid hgn55
      clear hAN55
      clear hB2 hoX hloW
      refine hK.out _ _ (hSi.out _ ⟨hbN55.out.cell 0, hbN55.out.cell 1, hbN55.out.cell 2, hbN55.out.cell 3, hbN55.out.cell 4, hbN55.out.cell 5, hbN55.out.cell 6, hbN55.out.cell 7, hbN55.out.cell 8, hbN55.out.cell 9, hbN55.out.cell 10, hbN55.out.cell 11, hbN55.out.cell 14, hbN55.out.cell 15, hbN55.out.cell 16, hbN55.out.cell 17, hbN55.out.cell 18, hbN55.out.cell 19, hbN55.out.cell 20, hbN55.out.cell 21⟩) (fun hSn => ?_)
      clear hK K hS
      have hS := hSn
      clear hSn
      refine callH 12 rfl (by kernel_rfl) (fun K hK => ?_)
      go_simp
      have hcc := Lib.hid (hd4.out _ (below_and hB.out hBN55.out))
      go_wp2_with (go_at_call 78; refine hcc.out.mono ?_; rintro e U56 ⟨⟨B4, d4, rfl, hoX⟩, hB2⟩)
      clear hcc
      have hloW : W1.heap.size ≤ (U55).heap.size := hBN55.out.size
      have hbN56 := Lib.hid (hbN55.out.below hB2 hbN55.out.lt)
      have hBN56 := Lib.hid (below_and hBN55.out hB2)
      have hAN56 := hAA55.out.new hB2
      have hGN56 := Lib.hid (hGN55.out.below hB2 hGN55.out.lt)
      have hAA56 := Lib.hid (hAN56.add (keep_row W1.heap.size 138 3 n4 ⟨B4, d4⟩ (cellsD va)) (own_base hoX hloW))
      have hgn56 : g3 ∉ _ ++ (Loc.mk B4 d4).fp := fun hm => (List.mem_append.1 hm).elim hgn55.out (fun hm => by have h1 := (own_ge (l := ⟨B4, d4⟩) hoX g3 hm).1; have h2 := hGN55.out.lt; omega)
      replace hgn56 := Lib.hid hgn56
      clear hAN56
      clear hB2 hoX hloW
      refine hK.out _ _ (hSi.out _ ⟨hbN56.out.cell 0, hbN56.out.cell 1, hbN56.out.cell 2, hbN56.out.cell 3, hbN56.out.cell 4, hbN56.out.cell 5, hbN56.out.cell 6, hbN56.out.cell 7, hbN56.out.cell 8, hbN56.out.cell 9, hbN56.out.cell 10, hbN56.out.cell 11, hbN56.out.cell 14, hbN56.out.cell 15, hbN56.out.cell 16, hbN56.out.cell 17, hbN56.out.cell 18, hbN56.out.cell 19, hbN56.out.cell 20, hbN56.out.cell 21⟩) (fun hSn => ?_)
      clear hK K hS
      have hS := hSn
      clear hSn
      refine callH 15 rfl (by kernel_rfl) (fun K hK => ?_)
      go_simp
      have hcc := Lib.hid (hd5.out _ (below_and hB.out hBN56.out))
      go_wp2_with (go_at_call 78; refine hcc.out.mono ?_; rintro e U57 ⟨⟨B5, d5, rfl, hoX⟩, hB2⟩)
      clear hcc
      have hloW : W1.heap.size ≤ (U56).heap.size := hBN56.out.size
      have hbN57 := Lib.hid (hbN56.out.below hB2 hbN56.out.lt)
      have hBN57 := Lib.hid (below_and hBN56.out hB2)
      have hAN57 := hAA56.out.new hB2
      have hGN57 := Lib.hid (hGN56.out.below hB2 hGN56.out.lt)
      have hAA57 := Lib.hid (hAN57.add (keep_row W1.heap.size 138 3 n5 ⟨B5, d5⟩ (cellsD ar)) (own_base hoX hloW))
      have hgn57 : g3 ∉ _ ++ (Loc.mk B5 d5).fp := fun hm => (List.mem_append.1 hm).elim hgn56.out (fun hm => by have h1 := (own_ge (l := ⟨B5, d5⟩) hoX g3 hm).1; have h2 := hGN56.out.lt; omega)
      replace hgn57 := Lib.hid hgn57
      clear hAN57
      clear hB2 hoX hloW
      refine hK.out _ _ (hSi.out _ ⟨hbN57.out.cell 0, hbN57.out.cell 1, hbN57.out.cell 2, hbN57.out.cell 3, hbN57.out.cell 4, hbN57.out.cell 5, hbN57.out.cell 6, hbN57.out.cell 7, hbN57.out.cell 8, hbN57.out.cell 9, hbN57.out.cell 10, hbN57.out.cell 11, hbN57.out.cell 14, hbN57.out.cell 15, hbN57.out.cell 16, hbN57.out.cell 17, hbN57.out.cell 18, hbN57.out.cell 19, hbN57.out.cell 20, hbN57.out.cell 21⟩) (fun hSn => ?_)
      clear hK K hS
      have hS := hSn
      clear hSn
      refine callH 18 rfl (by kernel_rfl) (fun K hK => ?_)
      go_simp
      have hcc := Lib.hid (hcr.out _ (below_and hB.out hBN57.out))
      go_wp2_with (go_at_call 79; refine hcc.out.mono ?_; rintro e U58 ⟨⟨qk, qo, qv, qw, qn, qA, qc, qs, rfl, hp18, hoX⟩, hB2⟩)
      clear hcc
      have hloW : W1.heap.size ≤ (U57).heap.size := hBN57.out.size
      have hbN58 := Lib.hid (hbN57.out.below hB2 hbN57.out.lt)
      have hBN58 := Lib.hid (below_and hBN57.out hB2)
      have hAN58 := hAA57.out.new hB2
      have hGN58 := Lib.hid (hGN57.out.below hB2 hGN57.out.lt)
      have hAA58 := Lib.hid (hAN58.add (keep_ex eR W1.heap.size (Ex.mk ⟨qk, qo, qv, qw, qn⟩ (⟨qA, qc⟩ : Loc) qs)) (hoX.base_le hloW))
      have hgn58 : g3 ∉ _ ++ (Ex.mk ⟨qk, qo, qv, qw, qn⟩ (⟨qA, qc⟩ : Loc) qs).fp := fun hm => (List.mem_append.1 hm).elim hgn57.out (fun hm => by have h1 := (hoX.ge g3 hm).1; have h2 := hGN57.out.lt; omega)
      replace hgn58 := Lib.hid hgn58
      clear hAN58
      replace hp18 := Lib.hid hp18
      clear hB2 hoX hloW
      refine hK.out _ _ (hSi.out _ ⟨hbN58.out.cell 0, hbN58.out.cell 1, hbN58.out.cell 2, hbN58.out.cell 3, hbN58.out.cell 4, hbN58.out.cell 5, hbN58.out.cell 6, hbN58.out.cell 7, hbN58.out.cell 8, hbN58.out.cell 9, hbN58.out.cell 10, hbN58.out.cell 11, hbN58.out.cell 14, hbN58.out.cell 15, hbN58.out.cell 16, hbN58.out.cell 17, hbN58.out.cell 18, hbN58.out.cell 19, hbN58.out.cell 20, hbN58.out.cell 21⟩) (fun hSn => ?_)
      clear hK K hS
      have hS := hSn
      clear hSn
      refine callH 21 rfl (by kernel_rfl) (fun K hK => ?_)
      go_simp
      have hcc := Lib.hid (hcw.out _ (below_and hB.out hBN58.out))
      go_wp2_with (go_at_call 80; refine hcc.out.mono ?_; rintro e U59 ⟨⟨B9, d9, work2, rfl, hp21, hoX⟩, hB2⟩)
      clear hcc
      have hloW : W1.heap.size ≤ (U58).heap.size := hBN58.out.size
      have hbN59 := Lib.hid (hbN58.out.below hB2 hbN58.out.lt)
      have hBN59 := Lib.hid (below_and hBN58.out hB2)
      have hAN59 := hAA58.out.new hB2
      have hGN59 := Lib.hid (hGN58.out.below hB2 hGN58.out.lt)
      have hAA59 := Lib.hid (hAN59.add (keep_lst eR W1.heap.size ⟨B9, d9⟩ work2) (hoX.base_le hloW))
      have hgn59 : g3 ∉ _ ++ Lst.fp ⟨B9, d9⟩ work2 := fun hm => (List.mem_append.1 hm).elim hgn58.out (fun hm => by have h1 := (hoX.ge g3 hm).1; have h2 := hGN58.out.lt; omega)
      replace hgn59 := Lib.hid hgn59
      clear hAN59
      replace hp21 := Lib.hid hp21
      clear hB2 hoX hloW
      refine hK.out _ _ (hSi.out _ ⟨hbN59.out.cell 0, hbN59.out.cell 1, hbN59.out.cell 2, hbN59.out.cell 3, hbN59.out.cell 4, hbN59.out.cell 5, hbN59.out.cell 6, hbN59.out.cell 7, hbN59.out.cell 8, hbN59.out.cell 9, hbN59.out.cell 10, hbN59.out.cell 11, hbN59.out.cell 14, hbN59.out.cell 15, hbN59.out.cell 16, hbN59.out.cell 17, hbN59.out.cell 18, hbN59.out.cell 19, hbN59.out.cell 20, hbN59.out.cell 21⟩) (fun hSn => ?_)
      clear hK K hS
      have hS := hSn
      clear hSn
      refine callH 24 rfl (by kernel_rfl) (fun K hK => ?_)
      go_simp
      have hcc := Lib.hid (hcv.out _ (below_and hB.out hBN59.out))
      go_wp2_with (go_at_call 80; refine hcc.out.mono ?_; rintro e U60 ⟨⟨B10, d10, recov2, rfl, hp24, hoX⟩, hB2⟩)
      clear hcc
      have hloW : W1.heap.size ≤ (U59).heap.size := hBN59.out.size
      have hbN60 := Lib.hid (hbN59.out.below hB2 hbN59.out.lt)
      have hBN60 := Lib.hid (below_and hBN59.out hB2)
      have hAN60 := hAA59.out.new hB2
      have hGN60 := Lib.hid (hGN59.out.below hB2 hGN59.out.lt)
      have hAA60 := Lib.hid (hAN60.add (keep_lst eR W1.heap.size ⟨B10, d10⟩ recov2) (hoX.base_le hloW))
      have hgn60 : g3 ∉ _ ++ Lst.fp ⟨B10, d10⟩ recov2 := fun hm => (List.mem_append.1 hm).elim hgn59.out (fun hm => by have h1 := (hoX.ge g3 hm).1; have h2 := hGN59.out.lt; omega)
      replace hgn60 := Lib.hid hgn60
      clear hAN60
      replace hp24 := Lib.hid hp24
      clear hB2 hoX hloW
      refine hK.out _ _ (hSi.out _ ⟨hbN60.out.cell 0, hbN60.out.cell 1, hbN60.out.cell 2, hbN60.out.cell 3, hbN60.out.cell 4, hbN60.out.cell 5, hbN60.out.cell 6, hbN60.out.cell 7, hbN60.out.cell 8, hbN60.out.cell 9, hbN60.out.cell 10, hbN60.out.cell 11, hbN60.out.cell 14, hbN60.out.cell 15, hbN60.out.cell 16, hbN60.out.cell 17, hbN60.out.cell 18, hbN60.out.cell 19, hbN60.out.cell 20, hbN60.out.cell 21⟩) (fun hSn => ?_)
      clear hK K hS
      have hS := hSn
      clear hSn
      refine callH 27 rfl (by kernel_rfl) (fun K hK => ?_)
      go_simp
      have hcc := Lib.hid (hci.out _ (below_and hB.out hBN60.out))
      go_wp2_with (go_at_call 79; refine hcc.out.mono ?_; rintro e U61 ⟨⟨jk, jo, jv, jw, jn, jA, jc, js, rfl, hp27, hoX⟩, hB2⟩)
      clear hcc
      have hloW : W1.heap.size ≤ (U60).heap.size := hBN60.out.size
      have hbN61 := Lib.hid (hbN60.out.below hB2 hbN60.out.lt)
      have hBN61 := Lib.hid (below_and hBN60.out hB2)
      have hAN61 := hAA60.out.new hB2
      have hGN61 := Lib.hid (hGN60.out.below hB2 hGN60.out.lt)
      have hAA61 := Lib.hid (hAN61.add (keep_ex eR W1.heap.size (Ex.mk ⟨jk, jo, jv, jw, jn⟩ (⟨jA, jc⟩ : Loc) js)) (hoX.base_le hloW))
      have hgn61 : g3 ∉ _ ++ (Ex.mk ⟨jk, jo, jv, jw, jn⟩ (⟨jA, jc⟩ : Loc) js).fp := fun hm => (List.mem_append.1 hm).elim hgn60.out (fun hm => by have h1 := (hoX.ge g3 hm).1; have h2 := hGN60.out.lt; omega)
      replace hgn61 := Lib.hid hgn61
      clear hAN61
      replace hp27 := Lib.hid hp27
      clear hB2 hoX hloW
      refine hK.out _ _ (hSi.out _ ⟨hbN61.out.cell 0, hbN61.out.cell 1, hbN61.out.cell 2, hbN61.out.cell 3, hbN61.out.cell 4, hbN61.out.cell 5, hbN61.out.cell 6, hbN61.out.cell 7, hbN61.out.cell 8, hbN61.out.cell 9, hbN61.out.cell 10, hbN61.out.cell 11, hbN61.out.cell 14, hbN61.out.cell 15, hbN61.out.cell 16, hbN61.out.cell 17, hbN61.out.cell 18, hbN61.out.cell 19, hbN61.out.cell 20, hbN61.out.cell 21⟩) (fun hSn => ?_)
      clear hK K hS
      have hS := hSn
      clear hSn
      refine takeH 28 (v := ?_) rfl (by kernel_rfl) (by kernel_rfl) (by kernel_rfl) (fun _ _ _ h => h) (by rfl) hS ?_ ?_
      rotate_left
      · (intro wz hSw; obtain ⟨z0, z1, z2, z3, z4, z5, z6, z7, z8, z9, z10, z11, z12, z13, z14, z15, z16, z17, z18, z19⟩ := hSe.out _ hSw; go_simp; try with_reducible rfl)
      try simp only [Act.put, List.setIfInBounds_toArray, List.set_cons_zero, List.set_cons_succ]
      refine callH 30 rfl (by kernel_rfl) (fun K hK => ?_)
      rw [if_pos (by rfl)]
      have hth := there_blk_at hGN61.out (o := 0) (n := 22) (by decide)
      have hNb : Blk (World.setCells (U61) g3 0 ([.int .i64 bl, .int .i64 wd, .slice B2 n2 d2, .slice B3 n3 d3, .slice B4 n4 d4, .slice B5 n5 d5, .int .i64 qk, .int .i64 qo, .int .i64 qv, .int .i64 qw, .string qn, .slice qA qs.length qc, .slice none 0 0, .slice none 0 0, .slice B9 work2.length d9, .slice B10 recov2.length d10, .int .i64 jk, .int .i64 jo, .int .i64 jv, .int .i64 jw, .string jn, .slice jA js.length jc] : List Value)) g3 113 #[.int .i64 bl, .int .i64 wd, .slice B2 n2 d2, .slice B3 n3 d3, .slice B4 n4 d4, .slice B5 n5 d5, .int .i64 qk, .int .i64 qo, .int .i64 qv, .int .i64 qw, .string qn, .slice qA qs.length qc, .slice none 0 0, .slice none 0 0, .slice B9 work2.length d9, .slice B10 recov2.length d10, .int .i64 jk, .int .i64 jo, .int .i64 jv, .int .i64 jw, .string jn, .slice jA js.length jc] := blk_put6 hGN61.out (vs := #[.int .i64 bl, .int .i64 wd, .slice B2 n2 d2, .slice B3 n3 d3, .slice B4 n4 d4, .slice B5 n5 d5, .int .i64 qk, .int .i64 qo, .int .i64 qv, .int .i64 qw, .string qn, .slice qA qs.length qc, .slice none 0 0, .slice none 0 0, .slice B9 work2.length d9, .slice B10 recov2.length d10, .int .i64 jk, .int .i64 jo, .int .i64 jv, .int .i64 jw, .string jn, .slice jA js.length jc]) rfl
      have hoS : Only [g3] (U61) (World.setCells (U61) g3 0 ([.int .i64 bl, .int .i64 wd, .slice B2 n2 d2, .slice B3 n3 d3, .slice B4 n4 d4, .slice B5 n5 d5, .int .i64 qk, .int .i64 qo, .int .i64 qv, .int .i64 qw, .string qn, .slice qA qs.length qc, .slice none 0 0, .slice none 0 0, .slice B9 work2.length d9, .slice B10 recov2.length d10, .int .i64 jk, .int .i64 jo, .int .i64 jv, .int .i64 jw, .string jn, .slice jA js.length jc] : List Value)) := only_setCells (b := g3) ([.int .i64 bl, .int .i64 wd, .slice B2 n2 d2, .slice B3 n3 d3, .slice B4 n4 d4, .slice B5 n5 d5, .int .i64 qk, .int .i64 qo, .int .i64 qv, .int .i64 qw, .string qn, .slice qA qs.length qc, .slice none 0 0, .slice none 0 0, .slice B9 work2.length d9, .slice B10 recov2.length d10, .int .i64 jk, .int .i64 jo, .int .i64 jv, .int .i64 jw, .string jn, .slice jA js.length jc] : List Value) 0 (U61)
      have hbF := hbN61.out.only hoS (fun hm => Nat.not_lt.2 hloW (by rw [← List.mem_singleton.1 hm]; exact hgyl.out))
      have hBF : Below W1.heap.size W1 (World.setCells (U61) g3 0 ([.int .i64 bl, .int .i64 wd, .slice B2 n2 d2, .slice B3 n3 d3, .slice B4 n4 d4, .slice B5 n5 d5, .int .i64 qk, .int .i64 qo, .int .i64 qv, .int .i64 qw, .string qn, .slice qA qs.length qc, .slice none 0 0, .slice none 0 0, .slice B9 work2.length d9, .slice B10 recov2.length d10, .int .i64 jk, .int .i64 jo, .int .i64 jv, .int .i64 jw, .string jn, .slice jA js.length jc] : List Value)) := hBN61.out.trans (hoS.below (by have := hBN61.out.size; omega) (by simp; omega))
      have hAF := Lib.hid (hAA61.out.only hoS hgn61.out)
      replace hNb := Lib.hid hNb
      replace hBF := Lib.hid hBF
      refine wp_store_mid 113 (.tmp 3) (.tmp 36) rfl g3 0 #[.int .i64 bl, .int .i64 wd, .slice B2 n2 d2, .slice B3 n3 d3, .slice B4 n4 d4, .slice B5 n5 d5, .int .i64 qk, .int .i64 qo, .int .i64 qv, .int .i64 qw, .string qn, .slice qA qs.length qc, .slice none 0 0, .slice none 0 0, .slice B9 work2.length d9, .slice B10 recov2.length d10, .int .i64 jk, .int .i64 jo, .int .i64 jv, .int .i64 jw, .string jn, .slice jA js.length jc] rfl rfl hth (by kernel_rfl) (by simp [Value.oneCell']) ?_
      clear hoS hth
      refine hK.out _ _ (hSi.out _ ⟨hbF.cell 0, hbF.cell 1, hbF.cell 2, hbF.cell 3, hbF.cell 4, hbF.cell 5, hbF.cell 6, hbF.cell 7, hbF.cell 8, hbF.cell 9, hbF.cell 10, hbF.cell 11, hbF.cell 14, hbF.cell 15, hbF.cell 16, hbF.cell 17, hbF.cell 18, hbF.cell 19, hbF.cell 20, hbF.cell 21⟩) (fun hSn => ?_)
      clear hK K hS
      have hS := hSn
      clear hSn
      refine wpAnyH_done (by kernel_rfl) ?_ _
      clear hS hSi hSe
      go_wp2_with fail
      go_meet
      refine ⟨B2, d2, B3, d3, B4, d4, B5, d5, qk, qo, qv, qw, qn, qA, qc, qs, B9, d9, work2, B10, d10, recov2, jk, jo, jv, jw, jn, jA, jc, js, _, _, g3, rfl, hNb.out, hAF.out, fun W h => ?_, hgn61.out, hloW, hp18.out, hp21.out, hp24.out, hp27.out, hBF.out⟩
      obtain ⟨⟨⟨⟨⟨⟨⟨⟨_, h1⟩, h2⟩, h3⟩, h4⟩, h5⟩, h6⟩, h7⟩, h8⟩ := h
      exact ⟨by rw [hn2.out] at h1; exact h1, by rw [hn3.out] at h2; exact h2, by rw [hn4.out] at h3; exact h3, by rw [hn5.out] at h4; exact h4, h5, h6, h7, h8⟩
  case rest =>
    obtain ⟨B2, d2, B3, d3, B4, d4, B5, d5, qk, qo, qv, qw, qn, qA, qc, qs, B9, d9, work2, B10, d10, recov2, jk, jo, jv, jw, jn, jA, jc, js, D, bs, g3, rfl, hbg, hA, hPB, hg3n, hg3l, hpq, hpw, hpv, hpj, hB5⟩ := hcut
    rename World => W5
    have hg35 := hbg.lt
    have hbsl := hA.lt
    have hby5 := hb1.out.below hB5 hb1.out.lt
    have v12 := hby5.cell 12
    simp only [List.getElem?_toArray, List.getElem?_cons_zero, List.getElem?_cons_succ] at v12
    have hyl := hby5.lt
    obtain ⟨i0, hi, hz0, hz1, hz2⟩ := info_parts infoRI
    obtain ⟨i1, hi', hz0', hz1', hz2'⟩ := info_parts infoRP
    replace hbg := Lib.hid hbg
    replace hA := Lib.hid hA
    replace hPB := Lib.hid hPB
    replace hg3n := Lib.hid hg3n
    replace hpq := Lib.hid hpq
    replace hpw := Lib.hid hpw
    replace hpv := Lib.hid hpv
    replace hpj := Lib.hid hpj
    replace hB5 := Lib.hid hB5
    replace hbsl := Lib.hid hbsl
    replace hby5 := Lib.hid hby5
    replace hi := Lib.hid hi
    replace hz0 := Lib.hid hz0
    replace hz1 := Lib.hid hz1
    replace hz2 := Lib.hid hz2
    replace hi' := Lib.hid hi'
    replace hz0' := Lib.hid hz0'
    replace hz1' := Lib.hid hz1'
    replace hz2' := Lib.hid hz2'
    clear hd2 hd3 hd4 hd5 hcr hcw hcv hci
    go_wp2_with fail
    clear v12 hyl
    go_loopw [40] (fun v40 wr => ∃ (j : Nat) (A' : Option Addr) (c' : Nat) (xs : List (In Loc)), v40 = .int .i64 j ∧ j ≤ n7 ∧ xs.length = j ∧ xs.map In.plain = (inits.take j).map In.plain ∧ Blk wr g3 113 #[.int .i64 bl, .int .i64 wd, .slice B2 n2 d2, .slice B3 n3 d3, .slice B4 n4 d4, .slice B5 n5 d5, .int .i64 qk, .int .i64 qo, .int .i64 qv, .int .i64 qw, .string qn, .slice qA qs.length qc, .slice A' j c', .slice none 0 0, .slice B9 work2.length d9, .slice B10 recov2.length d10, .int .i64 jk, .int .i64 jo, .int .i64 jv, .int .i64 jw, .string jn, .slice jA js.length jc] ∧ Acc D bs wr ∧ RowB (ownIR W5.heap.size) fpIR (In.cells eR) W5.heap.size 130 7 ⟨A', c'⟩ xs wr ∧ Below W1.heap.size W1 wr ∧ W5.heap.size ≤ wr.heap.size) (fun v40 _ => n7 - (intOf v40).toNat)
    case atStart => exact ⟨0, none, 0, [], rfl, Nat.zero_le _, rfl, rfl, hbg.out, hA.out, RowB.nil _ _ _ _ _ _ _, hB5.out, Nat.le_refl _⟩
    case round =>
      obtain ⟨j, A', c', xs, rfl, hj, hlj, hpjj, hbeg, hAj, hXx, hB6, hW6⟩ := hrel
      have j0 : 0 ≤ (j : Int) := by omega
      by_cases hjl : j < n7
      · have hy : inits[j]? = some (inits[j]'(by have := hn7.out; omega)) := List.getElem?_eq_getElem (by have := hn7.out; omega)
        generalize inits[j]'(by have := hn7.out; omega) = y at hy
        have hymem := List.mem_of_getElem? hy
        obtain ⟨ad2, hA2, _, hyok, hcy⟩ := (k6.out.keep (keeps_below (below_and hB.out hB6)) (fun _ _ => trivial)).at hy
        have hcall := fun w2 (h2 : Below wr.heap.size wr w2) => theirX y.val w2 (hyok.below h2) (s6.out y hymem) (by have := szI_mem hymem; have := hszi.out; omega)
        have hnexty : (inits.take (j + 1)).map In.plain = (inits.take j).map In.plain ++ [y.plain] := by
          obtain ⟨q1, q2⟩ := List.getElem?_eq_some_iff.1 hy
          rw [List.take_succ_eq_append_getElem q1, q2, List.map_append]
          rfl
        obtain ⟨yb, ⟨⟨yk, yo, yv, yw, yn⟩, ⟨yA, yc⟩, ys⟩⟩ := y
        obtain ⟨d0, e1, e2, e3, e4, e5, e6⟩ := CellsAt.c7 hcy
        dsimp only at hA2 hcall
        simp only [aggX, Ex.cells, eT] at e1 e2 e3 hcall
        subst hA2
        have j1 : (j : Int) < (n7 : Int) := by omega
        have hab := cell_lt d0
        have hBz := (Below.refl _ wr).alloc (Nat.le_refl _) (.cells #[.int .i64 yb, .int .u8 yk, .int .u8 yo, .int .u32 yv, .int .i64 yw, .string yn, .slice yA ys.length yc] 44)
        have hbz := Blk.new wr 44 #[.int .i64 yb, .int .u8 yk, .int .u8 yo, .int .u32 yv, .int .i64 yw, .string yn, .slice yA ys.length yc]
        obtain ⟨gz, hgz⟩ : ∃ g, wr.heap.size = g := ⟨_, rfl⟩
        rw [hgz] at hbz
        have hX8 := hXx.ge
        replace hX8 := Lib.hid hX8
        replace hbz := Lib.hid hbz
        replace hgz := Lib.hid hgz
        replace hnexty := Lib.hid hnexty
        replace hy := Lib.hid hy
        replace hcall := Lib.hid hcall
        replace hBz := Lib.hid hBz
        replace hbeg := Lib.hid hbeg
        replace hXx := Lib.hid hXx
        replace hpjj := Lib.hid hpjj
        replace hlj := Lib.hid hlj
        replace hAj := Lib.hid hAj
        clear hyok hcy
        go_upto_region 5 with (fail)
        generalize wr.alloc (.cells #[.int .i64 yb, .int .u8 yk, .int .u8 yo, .int .u32 yv, .int .i64 yw, .string yn, .slice yA ys.length yc] 44) = Wy at *
        rw [hgz.out]
        clear d0 e1 e2 e3 e4 e5 e6 hab
        have hBd := below_and hBz.out ((Below.refl _ Wy).drew)
        have hc := Lib.hid (hcall.out _ hBd)
        have hbx := hbeg.out.below hBz.out hbeg.out.lt
        have hbd := Lib.hid (hbeg.out.below hBd hbeg.out.lt)
        have hbzd := Lib.hid (hbz.out.below ((Below.refl _ Wy).drew) hbz.out.lt)
        have hXd := Lib.hid (hXx.out.new (keepIR _) hBd)
        have hAd := Lib.hid (hAj.out.new hBd)
        have hBe := Lib.hid (below_and hB6 hBd)
        have hrs1 : wr.heap.size ≤ Wy.drew.heap.size := hBd.size
        clear hcall hbeg hXx hBd hB6 hAj
        obtain ⟨S, hSi, hSe⟩ : ∃ S : World → Prop, (∀ W, (W.cell? ⟨g3, 12, none⟩ = some (.slice A' j c') ∧ W.cell? ⟨gz, 0, none⟩ = some (.int .i64 yb) ∧ W.cell? ⟨gz, 1, none⟩ = some (.int .u8 yk) ∧ W.cell? ⟨gz, 2, none⟩ = some (.int .u8 yo) ∧ W.cell? ⟨gz, 3, none⟩ = some (.int .u32 yv) ∧ W.cell? ⟨gz, 4, none⟩ = some (.int .i64 yw) ∧ W.cell? ⟨gz, 5, none⟩ = some (.string yn) ∧ W.cell? ⟨gz, 6, none⟩ = some (.slice yA ys.length yc)) → S W) ∧ (∀ W, S W → (W.cell? ⟨g3, 12, none⟩ = some (.slice A' j c') ∧ W.cell? ⟨gz, 0, none⟩ = some (.int .i64 yb) ∧ W.cell? ⟨gz, 1, none⟩ = some (.int .u8 yk) ∧ W.cell? ⟨gz, 2, none⟩ = some (.int .u8 yo) ∧ W.cell? ⟨gz, 3, none⟩ = some (.int .u32 yv) ∧ W.cell? ⟨gz, 4, none⟩ = some (.int .i64 yw) ∧ W.cell? ⟨gz, 5, none⟩ = some (.string yn) ∧ W.cell? ⟨gz, 6, none⟩ = some (.slice yA ys.length yc))) := ⟨fun W => W.cell? ⟨g3, 12, none⟩ = some (.slice A' j c') ∧ W.cell? ⟨gz, 0, none⟩ = some (.int .i64 yb) ∧ W.cell? ⟨gz, 1, none⟩ = some (.int .u8 yk) ∧ W.cell? ⟨gz, 2, none⟩ = some (.int .u8 yo) ∧ W.cell? ⟨gz, 3, none⟩ = some (.int .u32 yv) ∧ W.cell? ⟨gz, 4, none⟩ = some (.int .i64 yw) ∧ W.cell? ⟨gz, 5, none⟩ = some (.string yn) ∧ W.cell? ⟨gz, 6, none⟩ = some (.slice yA ys.length yc), fun _ h => h, fun _ h => h⟩
        have hS : S Wy.drew := hSi _ ⟨hbx.cell 12, hbz.out.cell 0, hbz.out.cell 1, hbz.out.cell 2, hbz.out.cell 3, hbz.out.cell 4, hbz.out.cell 5, hbz.out.cell 6⟩
        replace hSi := Lib.hid hSi
        replace hSe := Lib.hid hSe
        refine wp_region_T (S := S) (St := [11]) (by kernel_rfl) ?_
        change wpAnyT _ _ _ _ _ _ _ _ _ (World.drew _)
        refine pureT 0 (v := ?_) rfl (by kernel_rfl) (by kernel_rfl) (by kernel_rfl) (by kernel_rfl) (fun _ _ _ h => h) (by rfl) (fun _ => hS) ?_ ?_
        rotate_left
        · (intro wz; go_simp; try with_reducible rfl)
        try simp only [Act.put, List.setIfInBounds_toArray, List.set_cons_zero, List.set_cons_succ]
        refine pureT 2 (v := ?_) rfl (by kernel_rfl) (by kernel_rfl) (by kernel_rfl) (by kernel_rfl) (fun _ _ _ h => h) (by rfl) (fun _ => hS) ?_ ?_
        rotate_left
        · (intro wz; go_simp; try with_reducible rfl)
        try simp only [Act.put, List.setIfInBounds_toArray, List.set_cons_zero, List.set_cons_succ]
        refine pureT 4 (v := ?_) rfl (by kernel_rfl) (by kernel_rfl) (by kernel_rfl) (by kernel_rfl) (fun _ _ _ h => h) (by rfl) (fun _ => hS) ?_ ?_
        rotate_left
        · (intro wz; go_simp; try with_reducible rfl)
        try simp only [Act.put, List.setIfInBounds_toArray, List.set_cons_zero, List.set_cons_succ]
        refine takeT 1 (v := .slice A' j c') rfl (by kernel_rfl) (by kernel_rfl) (by kernel_rfl) (by kernel_rfl) (fun _ _ _ h => h) (by rfl) hS ?_ ?_
        · (intro wz hSw; obtain ⟨z0, z1, z2, z3, z4, z5, z6, z7⟩ := hSe.out _ hSw; go_simp)
        try simp only [Act.put, List.setIfInBounds_toArray, List.set_cons_zero, List.set_cons_succ]
        refine takeT 3 (v := .int .i64 yb) rfl (by kernel_rfl) (by kernel_rfl) (by kernel_rfl) (by kernel_rfl) (fun _ _ _ h => h) (by rfl) hS ?_ ?_
        · (intro wz hSw; obtain ⟨z0, z1, z2, z3, z4, z5, z6, z7⟩ := hSe.out _ hSw; go_simp)
        try simp only [Act.put, List.setIfInBounds_toArray, List.set_cons_zero, List.set_cons_succ]
        refine takeT 5 (v := .agg #[.int .u8 yk, .int .u8 yo, .int .u32 yv, .int .i64 yw, .string yn, .slice yA ys.length yc]) rfl (by kernel_rfl) (by kernel_rfl) (by kernel_rfl) (by kernel_rfl) (fun _ _ _ h => h) (by rfl) hS ?_ ?_
        · (intro wz hSw; obtain ⟨z0, z1, z2, z3, z4, z5, z6, z7⟩ := hSe.out _ hSw; go_simp)
        try simp only [Act.put, List.setIfInBounds_toArray, List.set_cons_zero, List.set_cons_succ]
        refine callT 6 rfl (by kernel_rfl) (fun K hK => ?_)
        go_simp
        go_wp2_with (go_at_call 79; refine hc.out.mono ?_; rintro e V1 ⟨⟨zk, zo, zv, zw, zn, zA, zc, zs, rfl, hzp, hzo⟩, hB2⟩)
        have hbe2 := hbd.out.below hB2 hbd.out.lt
        have hbze := hbzd.out.below hB2 hbzd.out.lt
        have hXe := hXd.out.new (keepIR _) hB2
        have hAe := hAd.out.new hB2
        have hBf := below_and hBe.out hB2
        have hs1 := hB2.size
        refine hK.out _ _ (hSi.out _ ⟨hbe2.cell 12, hbze.cell 0, hbze.cell 1, hbze.cell 2, hbze.cell 3, hbze.cell 4, hbze.cell 5, hbze.cell 6⟩) (fun hSn => ?_)
        clear hK K hS
        have hS := hSn
        clear hSn
        refine pureT 7 (v := ?_) rfl (by kernel_rfl) (by kernel_rfl) (by kernel_rfl) (by kernel_rfl) (fun _ _ _ h => h) (by rfl) (fun _ => hS) ?_ ?_
        rotate_left
        · (intro wz; go_simp; try with_reducible rfl)
        try simp only [Act.put, List.setIfInBounds_toArray, List.set_cons_zero, List.set_cons_succ]
        refine callT 8 rfl (by kernel_rfl) (fun K hK => ?_)
        go_simp
        have hBq := (Below.refl _ V1).alloc (Nat.le_refl _) (.cells #[.int .i64 yb, .int .i64 zk, .int .i64 zo, .int .i64 zv, .int .i64 zw, .string zn, .slice zA zs.length zc] 130)
        have hbe3 := hbe2.below hBq hbe2.lt
        have hbzf := hbze.below hBq hbze.lt
        have hXf := hXe.new (keepIR _) hBq
        have hAf := hAe.new hBq
        have hBg := below_and hBf hBq
        have hzf := hzo.keep (only_of_below [] hBq) (by simp)
        have hrd := Reads.of_own (World.ownsRow_lit (base := V1.heap.size) (e := 130) (size := 7) V1 #[.int .i64 yb, .int .i64 zk, .int .i64 zo, .int .i64 zv, .int .i64 zw, .string zn, .slice zA zs.length zc] 1 (Nat.le_refl _) (by simp [maxLen]) rfl)
        have hs2 := hBq.size
        refine hK.out _ _ (hSi.out _ ⟨hbe3.cell 12, hbzf.cell 0, hbzf.cell 1, hbzf.cell 2, hbzf.cell 3, hbzf.cell 4, hbzf.cell 5, hbzf.cell 6⟩) (fun hSn => ?_)
        clear hK K hS
        have hS := hSn
        clear hSn
        refine callT 9 rfl (by kernel_rfl) (fun K hK => ?_)
        generalize (V1.alloc (.cells #[.int .i64 yb, .int .i64 zk, .int .i64 zo, .int .i64 zv, .int .i64 zw, .string zn, .slice zA zs.length zc] 130)) = V2 at *
        refine step_append_any (w := V2) (by rfl) (.tmp 45) (.tmp 52) 109 (by rfl) W5.heap.size 130 i0 _ 7 80 Try.underlying109 hi.out hz0.out hz1.out hz2.out rfl (by omega) (.slice A' j c') j (cellsI eR xs) (by rfl) (by have h1 := hXf.row; dsimp only at h1; rw [hlj.out] at h1; exact h1) _ (some ⟨V1.heap.size, 0, none⟩) 1 1 (cellsI eR [(In.mk yb (Ex.mk ⟨zk, zo, zv, zw, zn⟩ (⟨zA, zc⟩ : Loc) zs))]) (by rfl) (by have h2 := hrd; simpa [cellsI, In.cells, Ex.cells, eR] using h2) (cellsI_one _ _) (by simp only [maxLen]; omega) (by omega) (by omega) ?_
        intro v8 V3 hown8 hg8 hb8
        obtain ⟨A2', cc2, rfl, hX2⟩ := RowB.append (x := (In.mk yb (Ex.mk ⟨zk, zo, zv, zw, zn⟩ (⟨zA, zc⟩ : Loc) zs))) hlj.out hXf (keepIR _) (hzf.base_le (by omega)) (fun b hb hm => by have h1 := (hX8.out b hb).2; have h2 := (hzo.ge b hm).1; omega) hown8 hg8 hb8
        have hne : ∀ b, (Value.slice A' j c').ownBlock = some b → W5.heap.size ≤ b := fun b hb => (hXf.ge b ((own_fp ⟨A', c'⟩ j b).2 hb)).1
        have hbg3 := hbe3.grown hg8 (fun e => by have := hne g3 e.symm; omega)
        have hAg := hAf.grown hg8 (fun b hb hm => by have := hne b hb; have := hbsl.out b hm; omega)
        have hbzg := hbzf.grown hg8 (fun e => by have h1 := (own_fp ⟨A', c'⟩ j gz).2 e.symm; have h2 := hX8.out gz h1; have h3 := hgz.out; omega)
        have hBh := hBg.grown hg8 (by have := hBg.size; omega) (fun q hq => by have := hne q hq; omega)
        have g3c := hbg3.cell 12
        have f3c := hbg3.frozen 12
        have l3c := hbg3.lt
        have hsz3 : V2.heap.size ≤ V3.heap.size := hg8.size
        have ho3 : Only [g3] V3 (V3.setCell ⟨g3, 12, none⟩ (.slice A2' (j + 1) cc2)) := (Only.refl [g3] V3).setCell (.inl (by simp)) _
        have hst3 : Blk (V3.setCell ⟨g3, 12, none⟩ (.slice A2' (j + 1) cc2)) g3 113 #[.int .i64 bl, .int .i64 wd, .slice B2 n2 d2, .slice B3 n3 d3, .slice B4 n4 d4, .slice B5 n5 d5, .int .i64 qk, .int .i64 qo, .int .i64 qv, .int .i64 qw, .string qn, .slice qA qs.length qc, .slice A2' (j + 1) cc2, .slice none 0 0, .slice B9 work2.length d9, .slice B10 recov2.length d10, .int .i64 jk, .int .i64 jo, .int .i64 jv, .int .i64 jw, .string jn, .slice jA js.length jc] := hbg3.set_ 12 _
        have hstX := hX2.only (keepIR _) ho3 hg35 (fun x hx hm => by have h1 := ((hX2.own x hx).ge g3 hm).1; omega)
        have hstA := hAg.only ho3 hg3n.out
        have hstB : Below W1.heap.size W1 (V3.setCell ⟨g3, 12, none⟩ (.slice A2' (j + 1) cc2)) := hBh.trans (ho3.below (by have := hBh.size; omega) (by simp; omega))
        have hstS : W5.heap.size ≤ (V3.setCell ⟨g3, 12, none⟩ (.slice A2' (j + 1) cc2)).heap.size := by have := ho3.size; omega
        replace hstS := Lib.hid hstS
        replace hst3 := Lib.hid hst3
        replace hstX := Lib.hid hstX
        replace hstA := Lib.hid hstA
        replace hstB := Lib.hid hstB
        replace hzp := Lib.hid hzp
        simp only [List.getElem?_toArray, List.getElem?_cons_zero, List.getElem?_cons_succ] at g3c
        clear hown8 hg8 hb8 hX2 hne hbe3 hbzf hXf hBg hzf hrd hBh ho3 hbe2 hbze hXe hBf hzo hAe hAf hAg
        refine hK.out _ _ (hSi.out _ ⟨hbg3.cell 12, hbzg.cell 0, hbzg.cell 1, hbzg.cell 2, hbzg.cell 3, hbzg.cell 4, hbzg.cell 5, hbzg.cell 6⟩) (fun hSn => ?_)
        clear hK K hS
        have hS := hSn
        clear hSn
        refine pureT 10 (v := ?_) rfl (by kernel_rfl) (by kernel_rfl) (by kernel_rfl) (by kernel_rfl) (fun _ _ _ h => h) (by rfl) (fun _ => hS) ?_ ?_
        rotate_left
        · (intro wz; go_simp; try with_reducible rfl)
        try simp only [Act.put, List.setIfInBounds_toArray, List.set_cons_zero, List.set_cons_succ]
        refine storeT 11 rfl (by kernel_rfl) (by kernel_rfl) (fun K hK => ?_)
        clear hbg3 hbzg
        go_simp
        go_wp2_with fail
        refine hK.out _ _ ?_
        clear hK K
        refine wpAnyT_done (by kernel_rfl) ?_ _
        clear hS hSi hSe g3c f3c l3c
        go_wp2_with fail
        go_roundw
        case rel =>
          refine ⟨j + 1, A2', cc2, xs ++ [(In.mk yb (Ex.mk ⟨zk, zo, zv, zw, zn⟩ (⟨zA, zc⟩ : Loc) zs))], by go_num, by omega, by rw [List.length_append, hlj.out]; rfl, ?_, hst3.out, hstA.out, hstX.out, hstB.out, hstS.out⟩
          rw [hnexty.out, List.map_append, hpjj.out]
          show _ ++ [In.plain (In.mk yb (Ex.mk ⟨zk, zo, zv, zw, zn⟩ (⟨zA, zc⟩ : Loc) zs))] = _
          have h1 := hzp.out
          simp only [In.plain, h1]
        case measure => simp [intOf]; omega
      · obtain rfl : j = n7 := by omega
        have hjm : inits.take j = inits := List.take_of_length_le (by have := hn7.out; omega)
        rw [hjm] at hpjj
        have hA2 := hAj.add (RowB.keep_ (In.cells eR) W5.heap.size 130 7 ⟨A', c'⟩ xs (keepIR _)) hXx
        have hg3n2 : g3 ∉ bs ++ ((Loc.mk A' c').fp ++ xs.flatMap fpIR) := fun hm => by
          rcases List.mem_append.1 hm with hm | hm
          · exact hg3n.out hm
          · rcases List.mem_append.1 hm with hm | hm
            · have := (hXx.ge g3 hm).1; omega
            · obtain ⟨x, hx, hm⟩ := List.mem_flatMap.1 hm
              have := ((hXx.own x hx).ge g3 hm).1; omega
        have hbsl2 := hA2.lt
        obtain ⟨bs2, hbs2⟩ : ∃ l, l = bs ++ ((Loc.mk A' c').fp ++ xs.flatMap fpIR) := ⟨_, rfl⟩
        rw [← hbs2] at hA2 hg3n2 hbsl2
        have hb1w := hb1.out.below hB6 hb1.out.lt
        have v13 := hb1w.cell 13
        simp only [List.getElem?_toArray, List.getElem?_cons_zero, List.getElem?_cons_succ] at v13
        have hyl := hb1w.lt
        obtain ⟨W6, hW6e⟩ : ∃ x, x = wr := ⟨_, rfl⟩
        subst hW6e
        have hg36 := hbeg.lt
        replace hA2 := Lib.hid hA2
        replace hg3n2 := Lib.hid hg3n2
        replace hbsl2 := Lib.hid hbsl2
        replace hbs2 := Lib.hid hbs2
        replace hpjj := Lib.hid hpjj
        replace hlj := Lib.hid hlj
        replace hbeg := Lib.hid hbeg
        replace hB6 := Lib.hid hB6
        clear hAj hXx hbsl hg3n hjm hbg hA hB5 hby5 hb1w
        go_wp2_with fail
        clear v13 hyl
        go_loopw [59] (fun v59 wr => ∃ (i : Nat) (A8' : Option Addr) (c8' : Nat) (zs : List (Pr Loc)), v59 = .int .i64 i ∧ i ≤ n8 ∧ zs.length = i ∧ zs.map Pr.plain = (procs.take i).map Pr.plain ∧ Blk wr g3 113 #[.int .i64 bl, .int .i64 wd, .slice B2 n2 d2, .slice B3 n3 d3, .slice B4 n4 d4, .slice B5 n5 d5, .int .i64 qk, .int .i64 qo, .int .i64 qv, .int .i64 qw, .string qn, .slice qA qs.length qc, .slice A' j c', .slice A8' i c8', .slice B9 work2.length d9, .slice B10 recov2.length d10, .int .i64 jk, .int .i64 jo, .int .i64 jv, .int .i64 jw, .string jn, .slice jA js.length jc] ∧ Acc (fun W => D W ∧ RowB (ownIR W5.heap.size) fpIR (In.cells eR) W5.heap.size 130 7 ⟨A', c'⟩ xs W) bs2 wr ∧ RowB (ownPR W6.heap.size) fpPR Pr.cells W6.heap.size 132 3 ⟨A8', c8'⟩ zs wr ∧ Below W1.heap.size W1 wr ∧ W6.heap.size ≤ wr.heap.size) (fun v59 _ => n8 - (intOf v59).toNat)
        case atStart => exact ⟨0, none, 0, [], rfl, Nat.zero_le _, rfl, rfl, hbeg.out, hA2.out, RowB.nil _ _ _ _ _ _ _, hB6.out, Nat.le_refl _⟩
        case round =>
          obtain ⟨i, A8', c8', zs, rfl, hi8, hli, hpi, hbe, hAi, hXp, hB7, hW7⟩ := hrel
          have i0' : 0 ≤ (i : Int) := by omega
          by_cases hil : i < n8
          · have hy : procs[i]? = some (procs[i]'(by have := hn8.out; omega)) := List.getElem?_eq_getElem (by have := hn8.out; omega)
            generalize procs[i]'(by have := hn8.out; omega) = y at hy
            have hymem := List.mem_of_getElem? hy
            obtain ⟨ad2, hA2', _, hyok, hcy⟩ := (k7.out.keep (keeps_below (below_and hB.out hB7)) (fun _ _ => trivial)).at hy
            have hyz := szPr_mem hymem
            have hcd := fun w2 (h2 : Below wr.heap.size wr w2) => theirD y.lp y.ps w2 (hyok.1.all (keeps_below h2)) (by have := hszp.out; omega)
            have hcs := fun w2 (h2 : Below wr.heap.size wr w2) => theirS y.body y.lb w2 (hyok.2.all (keeps_below h2)) (s7.out y hymem) (by have := hszp.out; omega)
            have hnexty : (procs.take (i + 1)).map Pr.plain = (procs.take i).map Pr.plain ++ [y.plain] := by
              obtain ⟨q1, q2⟩ := List.getElem?_eq_some_iff.1 hy
              rw [List.take_succ_eq_append_getElem q1, q2, List.map_append]
              rfl
            obtain ⟨yn, ⟨pA, pc⟩, ps, ⟨bA, bc⟩, body⟩ := y
            simp only [Pr.cells] at hcy
            obtain ⟨d0, e1, e2⟩ := CellsAt.c3 hcy
            dsimp only at hA2' hcd hcs
            subst hA2'
            have i1' : (i : Int) < (n8 : Int) := by omega
            have hab := cell_lt d0
            have hBz := (Below.refl _ wr).alloc (Nat.le_refl _) (.cells #[.string yn, .slice pA ps.length pc, .slice bA body.length bc] 46)
            have hbz := Blk.new wr 46 #[.string yn, .slice pA ps.length pc, .slice bA body.length bc]
            obtain ⟨gz, hgz⟩ : ∃ g, wr.heap.size = g := ⟨_, rfl⟩
            rw [hgz] at hbz
            have hX8 := hXp.ge
            replace hX8 := Lib.hid hX8
            replace hbz := Lib.hid hbz
            replace hgz := Lib.hid hgz
            replace hnexty := Lib.hid hnexty
            replace hy := Lib.hid hy
            replace hcd := Lib.hid hcd
            replace hcs := Lib.hid hcs
            replace hBz := Lib.hid hBz
            replace hbe := Lib.hid hbe
            replace hXp := Lib.hid hXp
            replace hpi := Lib.hid hpi
            replace hli := Lib.hid hli
            replace hAi := Lib.hid hAi
            clear hyok hcy hyz
            go_upto_region 10 with (fail)
            generalize wr.alloc (.cells #[.string yn, .slice pA ps.length pc, .slice bA body.length bc] 46) = Wy at *
            rw [hgz.out]
            clear d0 e1 e2 hab
            have hBd := below_and hBz.out ((Below.refl _ Wy).drew)
            have hc := Lib.hid (hcd.out _ hBd)
            have hbx := hbe.out.below hBz.out hbe.out.lt
            have hbd := Lib.hid (hbe.out.below hBd hbe.out.lt)
            have hbzd := Lib.hid (hbz.out.below ((Below.refl _ Wy).drew) hbz.out.lt)
            have hXd := Lib.hid (hXp.out.new (keepPR _) hBd)
            have hAd := Lib.hid (hAi.out.new hBd)
            have hBe := Lib.hid (below_and hB7 hBd)
            have hBd' := Lib.hid hBd
            have hrs1 : wr.heap.size ≤ Wy.drew.heap.size := hBd.size
            clear hcd hbe hXp hBd hB7 hAi
            obtain ⟨S, hSi, hSe⟩ : ∃ S : World → Prop, (∀ W, (W.cell? ⟨g3, 13, none⟩ = some (.slice A8' i c8') ∧ W.cell? ⟨gz, 0, none⟩ = some (.string yn) ∧ W.cell? ⟨gz, 1, none⟩ = some (.slice pA ps.length pc) ∧ W.cell? ⟨gz, 2, none⟩ = some (.slice bA body.length bc)) → S W) ∧ (∀ W, S W → (W.cell? ⟨g3, 13, none⟩ = some (.slice A8' i c8') ∧ W.cell? ⟨gz, 0, none⟩ = some (.string yn) ∧ W.cell? ⟨gz, 1, none⟩ = some (.slice pA ps.length pc) ∧ W.cell? ⟨gz, 2, none⟩ = some (.slice bA body.length bc))) := ⟨fun W => W.cell? ⟨g3, 13, none⟩ = some (.slice A8' i c8') ∧ W.cell? ⟨gz, 0, none⟩ = some (.string yn) ∧ W.cell? ⟨gz, 1, none⟩ = some (.slice pA ps.length pc) ∧ W.cell? ⟨gz, 2, none⟩ = some (.slice bA body.length bc), fun _ h => h, fun _ h => h⟩
            have hS : S Wy.drew := hSi _ ⟨hbx.cell 13, hbz.out.cell 0, hbz.out.cell 1, hbz.out.cell 2⟩
            replace hSi := Lib.hid hSi
            replace hSe := Lib.hid hSe
            refine wp_region_T (S := S) (St := [14]) (by kernel_rfl) ?_
            change wpAnyT _ _ _ _ _ _ _ _ _ (World.drew _)
            refine pureT 0 (v := ?_) rfl (by kernel_rfl) (by kernel_rfl) (by kernel_rfl) (by kernel_rfl) (fun _ _ _ h => h) (by rfl) (fun _ => hS) ?_ ?_
            rotate_left
            · (intro wz; go_simp; try with_reducible rfl)
            try simp only [Act.put, List.setIfInBounds_toArray, List.set_cons_zero, List.set_cons_succ]
            refine pureT 2 (v := ?_) rfl (by kernel_rfl) (by kernel_rfl) (by kernel_rfl) (by kernel_rfl) (fun _ _ _ h => h) (by rfl) (fun _ => hS) ?_ ?_
            rotate_left
            · (intro wz; go_simp; try with_reducible rfl)
            try simp only [Act.put, List.setIfInBounds_toArray, List.set_cons_zero, List.set_cons_succ]
            refine pureT 4 (v := ?_) rfl (by kernel_rfl) (by kernel_rfl) (by kernel_rfl) (by kernel_rfl) (fun _ _ _ h => h) (by rfl) (fun _ => hS) ?_ ?_
            rotate_left
            · (intro wz; go_simp; try with_reducible rfl)
            try simp only [Act.put, List.setIfInBounds_toArray, List.set_cons_zero, List.set_cons_succ]
            refine pureT 7 (v := ?_) rfl (by kernel_rfl) (by kernel_rfl) (by kernel_rfl) (by kernel_rfl) (fun _ _ _ h => h) (by rfl) (fun _ => hS) ?_ ?_
            rotate_left
            · (intro wz; go_simp; try with_reducible rfl)
            try simp only [Act.put, List.setIfInBounds_toArray, List.set_cons_zero, List.set_cons_succ]
            refine takeT 1 (v := .slice A8' i c8') rfl (by kernel_rfl) (by kernel_rfl) (by kernel_rfl) (by kernel_rfl) (fun _ _ _ h => h) (by rfl) hS ?_ ?_
            · (intro wz hSw; obtain ⟨z0, z1, z2, z3⟩ := hSe.out _ hSw; go_simp)
            try simp only [Act.put, List.setIfInBounds_toArray, List.set_cons_zero, List.set_cons_succ]
            refine takeT 3 (v := .string yn) rfl (by kernel_rfl) (by kernel_rfl) (by kernel_rfl) (by kernel_rfl) (fun _ _ _ h => h) (by rfl) hS ?_ ?_
            · (intro wz hSw; obtain ⟨z0, z1, z2, z3⟩ := hSe.out _ hSw; go_simp)
            try simp only [Act.put, List.setIfInBounds_toArray, List.set_cons_zero, List.set_cons_succ]
            refine takeT 5 (v := .slice pA ps.length pc) rfl (by kernel_rfl) (by kernel_rfl) (by kernel_rfl) (by kernel_rfl) (fun _ _ _ h => h) (by rfl) hS ?_ ?_
            · (intro wz hSw; obtain ⟨z0, z1, z2, z3⟩ := hSe.out _ hSw; go_simp)
            try simp only [Act.put, List.setIfInBounds_toArray, List.set_cons_zero, List.set_cons_succ]
            refine takeT 8 (v := .slice bA body.length bc) rfl (by kernel_rfl) (by kernel_rfl) (by kernel_rfl) (by kernel_rfl) (fun _ _ _ h => h) (by rfl) hS ?_ ?_
            · (intro wz hSw; obtain ⟨z0, z1, z2, z3⟩ := hSe.out _ hSw; go_simp)
            try simp only [Act.put, List.setIfInBounds_toArray, List.set_cons_zero, List.set_cons_succ]
            refine callT 6 rfl (by kernel_rfl) (fun K hK => ?_)
            go_simp
            go_wp2_with (go_at_call 78; refine hc.out.mono ?_; rintro e V1 ⟨⟨E1, f1, rfl, hdo⟩, hB2⟩)
            have hbe2 := hbd.out.below hB2 hbd.out.lt
            have hbze := hbzd.out.below hB2 hbzd.out.lt
            have hXe := hXd.out.new (keepPR _) hB2
            have hAe := hAd.out.new hB2
            have hBf := below_and hBe.out hB2
            have hs1 := hB2.size
            have hcc := Lib.hid (hcs.out _ (below_and hBd'.out hB2))
            replace hXe := Lib.hid hXe
            replace hAe := Lib.hid hAe
            replace hdo := Lib.hid hdo
            replace hBf := Lib.hid hBf
            refine hK.out _ _ (hSi.out _ ⟨hbe2.cell 13, hbze.cell 0, hbze.cell 1, hbze.cell 2⟩) (fun hSn => ?_)
            clear hK K hS
            have hS := hSn
            clear hSn
            refine callT 9 rfl (by kernel_rfl) (fun K hK => ?_)
            go_simp
            go_wp2_with (go_at_call 80; refine hcc.out.mono ?_; rintro e V2 ⟨⟨E2, f2, os, rfl, hzp, hzo⟩, hB3⟩)
            have hbe2' := hbe2.below hB3 hbe2.lt
            have hbze' := hbze.below hB3 hbze.lt
            have hXe' := hXe.out.new (keepPR _) hB3
            have hAe' := hAe.out.new hB3
            have hBf' := below_and hBf.out hB3
            have hs2 := hB3.size
            have hdo' := own_only hdo.out (only_of_below [] hB3) (by simp)
            refine hK.out _ _ (hSi.out _ ⟨hbe2'.cell 13, hbze'.cell 0, hbze'.cell 1, hbze'.cell 2⟩) (fun hSn => ?_)
            clear hK K hS
            have hS := hSn
            clear hSn
            refine pureT 10 (v := ?_) rfl (by kernel_rfl) (by kernel_rfl) (by kernel_rfl) (by kernel_rfl) (fun _ _ _ h => h) (by rfl) (fun _ => hS) ?_ ?_
            rotate_left
            · (intro wz; go_simp; try with_reducible rfl)
            try simp only [Act.put, List.setIfInBounds_toArray, List.set_cons_zero, List.set_cons_succ]
            refine callT 11 rfl (by kernel_rfl) (fun K hK => ?_)
            go_simp
            have hBq := (Below.refl _ V2).alloc (Nat.le_refl _) (.cells #[.string yn, .slice E1 ps.length f1, .slice E2 os.length f2] 132)
            have hbe3 := hbe2'.below hBq hbe2'.lt
            have hbzf := hbze'.below hBq hbze'.lt
            have hXf := hXe'.new (keepPR _) hBq
            have hAf := hAe'.new hBq
            have hBg := below_and hBf' hBq
            have hzf := hzo.new hBq
            have hdf := own_only hdo' (only_of_below [] hBq) (by simp)
            have hrd := Reads.of_own (World.ownsRow_lit (base := V2.heap.size) (e := 132) (size := 3) V2 #[.string yn, .slice E1 ps.length f1, .slice E2 os.length f2] 1 (Nat.le_refl _) (by simp [maxLen]) rfl)
            have hs3 := hBq.size
            refine hK.out _ _ (hSi.out _ ⟨hbe3.cell 13, hbzf.cell 0, hbzf.cell 1, hbzf.cell 2⟩) (fun hSn => ?_)
            clear hK K hS
            have hS := hSn
            clear hSn
            refine callT 12 rfl (by kernel_rfl) (fun K hK => ?_)
            generalize (V2.alloc (.cells #[.string yn, .slice E1 ps.length f1, .slice E2 os.length f2] 132)) = V3 at *
            have hLo : ownPR W6.heap.size V3 (Pr.mk yn (⟨E1, f1⟩ : Loc) ps ⟨E2, f2⟩ os) := ⟨own_base hdf (by omega), hzf.base_le (by omega)⟩
            have hdj : ∀ b ∈ (Loc.mk A8' c8').fp, b ∉ fpPR (Pr.mk yn (⟨E1, f1⟩ : Loc) ps ⟨E2, f2⟩ os) := fun b hb hm => by
              have h1 := (hX8.out b hb).2
              rcases List.mem_append.1 hm with hm | hm
              · have h2 := (own_ge (l := ⟨E1, f1⟩) hdf b hm).1; omega
              · have h2 := (hzf.ge b hm).1; omega
            refine step_append_any (w := V3) (by rfl) (.tmp 64) (.tmp 74) 110 (by rfl) W6.heap.size 132 i1 _ 3 64 Try.underlying110 hi'.out hz0'.out hz1'.out hz2'.out rfl (by omega) (.slice A8' i c8') i (cellsP zs) (by rfl) (by have h1 := hXf.row; dsimp only at h1; rw [hli.out] at h1; exact h1) _ (some ⟨V2.heap.size, 0, none⟩) 1 1 (cellsP [(Pr.mk yn (⟨E1, f1⟩ : Loc) ps ⟨E2, f2⟩ os)]) (by rfl) (by have h2 := hrd; simpa [cellsP, Pr.cells] using h2) (cellsP_one _) (by simp only [maxLen]; omega) (by omega) (by omega) ?_
            intro v8 V4 hown8 hg8 hb8
            obtain ⟨A9', cc2, rfl, hX2⟩ := RowB.append (x := (Pr.mk yn (⟨E1, f1⟩ : Loc) ps ⟨E2, f2⟩ os)) hli.out hXf (keepPR _) hLo hdj hown8 hg8 hb8
            have hne : ∀ b, (Value.slice A8' i c8').ownBlock = some b → W6.heap.size ≤ b := fun b hb => (hXf.ge b ((own_fp ⟨A8', c8'⟩ i b).2 hb)).1
            have hbg3 := hbe3.grown hg8 (fun e => by have := hne g3 e.symm; omega)
            have hAg := hAf.grown hg8 (fun b hb hm => by have := hne b hb; have := hbsl2.out b hm; omega)
            have hbzg := hbzf.grown hg8 (fun e => by have h1 := (own_fp ⟨A8', c8'⟩ i gz).2 e.symm; have h2 := hX8.out gz h1; have h3 := hgz.out; omega)
            have hBh := hBg.grown hg8 (by have := hBg.size; omega) (fun q hq => by have := hne q hq; omega)
            have g3c := hbg3.cell 13
            have f3c := hbg3.frozen 13
            have l3c := hbg3.lt
            have hsz3 : V3.heap.size ≤ V4.heap.size := hg8.size
            have ho3 : Only [g3] V4 (V4.setCell ⟨g3, 13, none⟩ (.slice A9' (i + 1) cc2)) := (Only.refl [g3] V4).setCell (.inl (by simp)) _
            have hst3 : Blk (V4.setCell ⟨g3, 13, none⟩ (.slice A9' (i + 1) cc2)) g3 113 #[.int .i64 bl, .int .i64 wd, .slice B2 n2 d2, .slice B3 n3 d3, .slice B4 n4 d4, .slice B5 n5 d5, .int .i64 qk, .int .i64 qo, .int .i64 qv, .int .i64 qw, .string qn, .slice qA qs.length qc, .slice A' j c', .slice A9' (i + 1) cc2, .slice B9 work2.length d9, .slice B10 recov2.length d10, .int .i64 jk, .int .i64 jo, .int .i64 jv, .int .i64 jw, .string jn, .slice jA js.length jc] := hbg3.set_ 13 _
            have hstX := hX2.only (keepPR _) ho3 hg36 (fun x hx hm => by
              rcases List.mem_append.1 hm with hm | hm
              · have h1 := (own_ge (l := x.lp) (hX2.own x hx).1 g3 hm).1; omega
              · have h1 := ((hX2.own x hx).2.ge g3 hm).1; omega)
            have hstA := hAg.only ho3 hg3n2.out
            have hstB : Below W1.heap.size W1 (V4.setCell ⟨g3, 13, none⟩ (.slice A9' (i + 1) cc2)) := hBh.trans (ho3.below (by have := hBh.size; omega) (by simp; omega))
            have hstS : W6.heap.size ≤ (V4.setCell ⟨g3, 13, none⟩ (.slice A9' (i + 1) cc2)).heap.size := by have := ho3.size; omega
            replace hstS := Lib.hid hstS
            replace hst3 := Lib.hid hst3
            replace hstX := Lib.hid hstX
            replace hstA := Lib.hid hstA
            replace hstB := Lib.hid hstB
            replace hzp := Lib.hid hzp
            simp only [List.getElem?_toArray, List.getElem?_cons_zero, List.getElem?_cons_succ] at g3c
            clear hown8 hg8 hb8 hX2 hne hbe3 hbzf hXf hBg hzf hdf hrd hBh ho3 hbe2 hbze hbe2' hbze' hXe hXe' hBf hBf' hzo hAe hAe' hAf hAg hLo hdj hdo hdo'
            refine hK.out _ _ (hSi.out _ ⟨hbg3.cell 13, hbzg.cell 0, hbzg.cell 1, hbzg.cell 2⟩) (fun hSn => ?_)
            clear hK K hS
            have hS := hSn
            clear hSn
            refine pureT 13 (v := ?_) rfl (by kernel_rfl) (by kernel_rfl) (by kernel_rfl) (by kernel_rfl) (fun _ _ _ h => h) (by rfl) (fun _ => hS) ?_ ?_
            rotate_left
            · (intro wz; go_simp; try with_reducible rfl)
            try simp only [Act.put, List.setIfInBounds_toArray, List.set_cons_zero, List.set_cons_succ]
            refine storeT 14 rfl (by kernel_rfl) (by kernel_rfl) (fun K hK => ?_)
            clear hbg3 hbzg
            go_simp
            go_wp2_with fail
            refine hK.out _ _ ?_
            clear hK K
            refine wpAnyT_done (by kernel_rfl) ?_ _
            clear hS hSi hSe g3c f3c l3c
            go_wp2_with fail
            go_roundw
            case rel =>
              refine ⟨i + 1, A9', cc2, zs ++ [(Pr.mk yn (⟨E1, f1⟩ : Loc) ps ⟨E2, f2⟩ os)], by go_num, by omega, by rw [List.length_append, hli.out]; rfl, ?_, hst3.out, hstA.out, hstX.out, hstB.out, hstS.out⟩
              rw [hnexty.out, List.map_append, hpi.out]
              show _ ++ [Pr.plain (Pr.mk yn (⟨E1, f1⟩ : Loc) ps ⟨E2, f2⟩ os)] = _
              have h1 := hzp.out
              simp only [Pr.plain, h1]
            case measure => simp [intOf]; omega
          · obtain rfl : i = n8 := by omega
            have him : procs.take i = procs := List.take_of_length_le (by have := hn8.out; omega)
            rw [him] at hpi
            obtain ⟨cs, hcs⟩ : ∃ c : Array Value, c = #[.int .i64 bl, .int .i64 wd, .slice B2 n2 d2, .slice B3 n3 d3, .slice B4 n4 d4, .slice B5 n5 d5, .int .i64 qk, .int .i64 qo, .int .i64 qv, .int .i64 qw, .string qn, .slice qA qs.length qc, .slice A' j c', .slice A8' i c8', .slice B9 work2.length d9, .slice B10 recov2.length d10, .int .i64 jk, .int .i64 jo, .int .i64 jv, .int .i64 jw, .string jn, .slice jA js.length jc] := ⟨_, rfl⟩
            have hcsz : cs.size = 22 := by rw [hcs]; rfl
            have hcso : cs.all (·.oneCell') = true := by rw [hcs]; simp [Value.oneCell']
            have hPF : cs = (((Pg.mk bl wd ⟨B2, d2⟩ ins ⟨B3, d3⟩ gh ⟨B4, d4⟩ va ⟨B5, d5⟩ ar (Ex.mk ⟨qk, qo, qv, qw, qn⟩ (⟨qA, qc⟩ : Loc) qs) ⟨A', c'⟩ xs ⟨A8', c8'⟩ zs ⟨B9, d9⟩ work2 ⟨B10, d10⟩ recov2 (Ex.mk ⟨jk, jo, jv, jw, jn⟩ (⟨jA, jc⟩ : Loc) js))).cells eR).toArray := by
              rw [hcs]
              simp only [Pg.cells, Ex.cells, eR, hlj.out, hli, ← hn2.out, ← hn3.out, ← hn4.out, ← hn5.out, List.cons_append, List.nil_append]
            rw [← hcs] at hbe
            have hb2w := hb2.out.below hB7 hb2.out.lt
            have hth := there_blk_at hb2w (o := 0) (n := 22) (by decide)
            have hg2n : g2 < W1.heap.size := hb2.out.lt
            have hfin := blk_put6 hb2w (vs := cs) (by rw [hcsz]; rfl)
            have hoS : Only [g2] wr (World.setCells wr g2 0 cs.toList) := only_setCells (b := g2) cs.toList 0 wr
            have hBF : Below w.heap.size w (World.setCells wr g2 0 cs.toList) := (below_and hB.out hB7).trans (hoS.below (by have := (below_and hB.out hB7).size; omega) (by have := hg2.out; simp; omega))
            have hXF := hXp.only (keepPR _) hoS (by omega) (fun x hx hm => by
              rcases List.mem_append.1 hm with hm | hm
              · have h1 := (own_ge (l := x.lp) (hXp.own x hx).1 g2 hm).1; omega
              · have h1 := ((hXp.own x hx).2.ge g2 hm).1; omega)
            have hDw := hAi.h
            have hPw := hPB.out wr hDw.1
            have hgeF : ∀ b ∈ ((Pg.mk bl wd ⟨B2, d2⟩ ins ⟨B3, d3⟩ gh ⟨B4, d4⟩ va ⟨B5, d5⟩ ar (Ex.mk ⟨qk, qo, qv, qw, qn⟩ (⟨qA, qc⟩ : Loc) qs) ⟨A', c'⟩ xs ⟨A8', c8'⟩ zs ⟨B9, d9⟩ work2 ⟨B10, d10⟩ recov2 (Ex.mk ⟨jk, jo, jv, jw, jn⟩ (⟨jA, jc⟩ : Loc) js))).blks, w.heap.size ≤ b := fun b hb => by
              have h1 := PBeg.blks_ge (P := (Pg.mk bl wd ⟨B2, d2⟩ ins ⟨B3, d3⟩ gh ⟨B4, d4⟩ va ⟨B5, d5⟩ ar (Ex.mk ⟨qk, qo, qv, qw, qn⟩ (⟨qA, qc⟩ : Loc) qs) ⟨A', c'⟩ xs ⟨A8', c8'⟩ zs ⟨B9, d9⟩ work2 ⟨B10, d10⟩ recov2 (Ex.mk ⟨jk, jo, jv, jw, jn⟩ (⟨jA, jc⟩ : Loc) js))) (lo := W1.heap.size) (lo1 := W5.heap.size) (lo2 := W6.heap.size) ⟨hPw.ins, hPw.gh, hPw.va, hPw.ar, hPw.req, hPw.work, hPw.recov, hPw.inv⟩ (by have := hg3l; omega) (by have := hB6.out.size; exact this) hDw.2 hXp b hb
              have h2 := hB.out.size
              omega
            have hge2 : ∀ b, W1.heap.size ≤ b → b ∉ [g2] := fun b hb hm => by rw [List.mem_singleton.1 hm] at hb; omega
            have hokF : ((Pg.mk bl wd ⟨B2, d2⟩ ins ⟨B3, d3⟩ gh ⟨B4, d4⟩ va ⟨B5, d5⟩ ar (Ex.mk ⟨qk, qo, qv, qw, qn⟩ (⟨qA, qc⟩ : Loc) qs) ⟨A', c'⟩ xs ⟨A8', c8'⟩ zs ⟨B9, d9⟩ work2 ⟨B10, d10⟩ recov2 (Ex.mk ⟨jk, jo, jv, jw, jn⟩ (⟨jA, jc⟩ : Loc) js))).ok eR (World.setCells wr g2 0 cs.toList) := by
              have hI := hDw.2.only (keepIR _) hoS (by omega) (fun x hx hm => by have h1 := ((hDw.2.own x hx).ge g2 hm).1; omega)
              exact ⟨own_row (own_only hPw.ins hoS fun b hb => hge2 b (hPw.ins.lt b hb).1), own_row (own_only hPw.gh hoS fun b hb => hge2 b (hPw.gh.lt b hb).1), own_row (own_only hPw.va hoS fun b hb => hge2 b (hPw.va.lt b hb).1), own_row (own_only hPw.ar hoS fun b hb => hge2 b (hPw.ar.lt b hb).1),
                (hPw.req.keep hoS fun b hb => hge2 b (hPw.req.ge b hb).1).ok, ⟨own_row hI.row, fun x hx => (hI.own x hx).ok⟩, ⟨own_row hXF.row, fun x hx => ⟨own_row (hXF.own x hx).1, (hXF.own x hx).2.ok⟩⟩,
                (hPw.work.onlyG hoS fun hm => hge2 g2 (hPw.work.ge g2 hm).1 (by simp)).ok, (hPw.recov.onlyG hoS fun hm => hge2 g2 (hPw.recov.ge g2 hm).1 (by simp)).ok, (hPw.inv.keep hoS fun b hb => hge2 b (hPw.inv.ge b hb).1).ok⟩
            have hplF : ((Pg.mk bl wd ⟨B2, d2⟩ ins ⟨B3, d3⟩ gh ⟨B4, d4⟩ va ⟨B5, d5⟩ ar (Ex.mk ⟨qk, qo, qv, qw, qn⟩ (⟨qA, qc⟩ : Loc) qs) ⟨A', c'⟩ xs ⟨A8', c8'⟩ zs ⟨B9, d9⟩ work2 ⟨B10, d10⟩ recov2 (Ex.mk ⟨jk, jo, jv, jw, jn⟩ (⟨jA, jc⟩ : Loc) js))).plain = Pg.mk bl wd () ins () gh () va () ar xr.plain () (inits.map In.plain) () (procs.map Pr.plain) () (plainS work) () (plainS recov) xi.plain := by
              simp only [Pg.plain, hpq.out, hpw.out, hpv.out, hpj.out, hpjj.out, hpi]
            replace hcs := Lib.hid hcs
            replace hPF := Lib.hid hPF
            replace hfin := Lib.hid hfin
            replace hBF := Lib.hid hBF
            replace hokF := Lib.hid hokF
            replace hgeF := Lib.hid hgeF
            replace hplF := Lib.hid hplF
            replace hpi := Lib.hid hpi
            replace hli := Lib.hid hli
            clear hoS hXF hDw hPw hXp hAi hb2w
            have hbe' := hbe
            go_wp2_with (refine wpList_load_rowW 113 (.tmp 3) rfl (by rfl) g3 rfl 113 cs (0, 0) _ hbe Try.underlying113 rfl (by rw [hcsz]; kernel_rfl) ?_; refine Shut.out ?_)
            refine shut_mkP ?_
            try simp only [Act.put, List.setIfInBounds_toArray, List.set_cons_zero, List.set_cons_succ]
            refine wpList_store_mid rfl 113 (.tmp 2) (.tmp 78) rfl g2 0 cs rfl (by rfl) (by rw [hcsz]; exact hth) (by rw [hcsz]; kernel_rfl) hcso ?_
            clear hth hbe hbe'
            go_wp2_with fail
            refine bodyPost_ret (results_cell_row rfl _ _ g2 113 _ (0, 0) _ rfl hfin.out Try.underlying113 rfl (by rw [hcsz]; kernel_rfl)) rfl ?_
            refine ⟨⟨(Pg.mk bl wd ⟨B2, d2⟩ ins ⟨B3, d3⟩ gh ⟨B4, d4⟩ va ⟨B5, d5⟩ ar (Ex.mk ⟨qk, qo, qv, qw, qn⟩ (⟨qA, qc⟩ : Loc) qs) ⟨A', c'⟩ xs ⟨A8', c8'⟩ zs ⟨B9, d9⟩ work2 ⟨B10, d10⟩ recov2 (Ex.mk ⟨jk, jo, jv, jw, jn⟩ (⟨jA, jc⟩ : Loc) js)), by rw [hPF.out]; rfl, ?_, hokF.out, hgeF.out⟩, hBF.out⟩
            rw [hplF.out, hxr.out, hxi.out]
            rfl
end Go.Proofs.Ytnldbplphgfpeaa
