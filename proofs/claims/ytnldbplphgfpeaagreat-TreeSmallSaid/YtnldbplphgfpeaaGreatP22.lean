/- Lemmas for salvor/salvorlaw29.TreeSmall (part 22); no condition. -/
import Derived.Deep.DeepCutAuto
import Derived.Deep.CutBlock
import Derived.Test.YtnldbplphgfpeaaGreatP21
import Derived.Test.YtnldbplphgfpeaaGreatP08
import Derived.Test.YtnldbplphgfpeaaGreatP05
namespace Go.Proofs.YtnldbplphgfpeaaGreat
open Go Go.RowKit Go.Shelf
set_option linter.unusedVariables false
set_option linter.unusedSimpArgs false
set_option maxHeartbeats 16000000
theorem wtD_bound {M : Nat} : ∀ l : List Dc, (∀ d ∈ l, d.nm.size ≤ M) → wtD l ≤ l.length * (M + 1)
 | [], _ => by simp [wtD]
 | x :: r, h => by
  have h1 := wtD_bound r fun d hd => h d (by simp [hd])
  have h2 := h x (by simp)
  have h3 : (r.length + 1) * (M + 1) = r.length * (M + 1) + (M + 1) := Nat.succ_mul _ _
  simp only [wtD, List.length_cons]
  omega
theorem wtN_bound {M : Nat} : ∀ l : List Dc, (∀ d ∈ l, d.nm.size ≤ M) → wtN l ≤ l.length * (M + 1)
 | [], _ => by simp [wtN]
 | x :: r, h => by
  have h1 := wtN_bound r fun d hd => h d (by simp [hd])
  have h2 := h x (by simp)
  have h3 : (r.length + 1) * (M + 1) = r.length * (M + 1) + (M + 1) := Nat.succ_mul _ _
  simp only [wtN, List.length_cons]
  omega
theorem i64_idF {x : Int} (h1 : -9223372036854775808 ≤ x) (h2 : x < 9223372036854775808) : IntKind.i64.wrap x = x := by
 simp [IntKind.wrap, IntKind.bits, IntKind.signed]
 omega
theorem wtD_min {l : List Dc} {most c : Nat} (hc : c = min l.length most) (h : wtD (l.take c) < most ∨ wtD l ≤ most) : wtD (l.take c) = wtD l := by
 have h1 := wtD_len (l.take c)
 have h2 := wtD_len l
 rw [List.length_take] at h1
 rw [List.take_of_length_le (by omega)]
def cutD (most : Nat) (dl : List (Loc × List Dc)) : Nat := (dl.map fun x => wtD (x.2.take (min x.2.length most))).sum
theorem cutD_take {most : Nat} {dl : List (Loc × List Dc)} {k : Nat} {x : Loc × List Dc} (hx : dl[k]? = some x) : cutD most (dl.take (k + 1)) = cutD most (dl.take k) + wtD (x.2.take (min x.2.length most)) := by
 obtain ⟨q1, q2⟩ := List.getElem?_eq_some_iff.1 hx
 rw [List.take_succ_eq_append_getElem q1, q2]
 simp [cutD]
theorem cutD_take_le {most : Nat} (dl : List (Loc × List Dc)) (k : Nat) : cutD most (dl.take k) ≤ cutD most dl := by
 have h : cutD most dl = cutD most (dl.take k) + cutD most (dl.drop k) := by
  conv => lhs; rw [← List.take_append_drop k dl]
  unfold cutD
  rw [List.map_append, List.sum_append]
 omega
theorem row_take {w : World} {l : Loc} {ds : List Dc} (h : RowIn w 3 l ds.length (cellsD ds)) {k : Nat} {x : Dc} (hx : ds[k]? = some x) : ∃ ad, l.A = some ad ∧ k < ds.length ∧ CellsAt w (ad.add (k * 3)) x.cells := by
 obtain ⟨ad, h1, h2, h3, h4⟩ := RowIn.at Dc.cells_len h hx
 exact ⟨ad, h1, h3, h4⟩
set_option maxRecDepth 100000 in
theorem few_ok (p : Pg Loc) (most M : Nat) (w : World) (hm : most ≤ 60000) (hM : M ≤ 140737488355327) (hMM : (most + 2) * (M + 1) ≤ 288230376151711744) (hok : p.ok eT w) (hf : p.fit M) :
  Calls Tryz.prog 54 #[aggP p, .int .i64 most] w fun r w' => r = .returned (.bool (decide (p.wt ≤ most))) ∧ Below w.heap.size w w' := by
 obtain ⟨W, hW⟩ : ∃ W, W = p.wt := ⟨_, rfl⟩
 rw [← hW]
 obtain ⟨bl, wd, ⟨A2, c2⟩, ins, ⟨A3, c3⟩, gh, ⟨A4, c4⟩, va, ⟨A5, c5⟩, ar, ⟨⟨rk, ro, rv, rwd, rn⟩, ⟨rA, rc⟩, rs⟩, ⟨A7, c7⟩, inits, ⟨A8, c8⟩, procs, ⟨A9, c9⟩, work, ⟨A10, c10⟩, recov, ⟨⟨ik, io, iv, iwd, inn⟩, ⟨iA, ic⟩, is⟩⟩ := p
 obtain ⟨xr, hxr⟩ : ∃ x, x = Ex.mk ⟨rk, ro, rv, rwd, rn⟩ (⟨rA, rc⟩ : Loc) rs := ⟨_, rfl⟩
 obtain ⟨xi, hxi⟩ : ∃ x, x = Ex.mk ⟨ik, io, iv, iwd, inn⟩ (⟨iA, ic⟩ : Loc) is := ⟨_, rfl⟩
 obtain ⟨k1, k2, k3, k4, k5, k6, k7, k8, k9, k10⟩ := hok
 obtain ⟨s1, s2, s3, s4, s5, ⟨s6, s6'⟩, ⟨s7, s7'⟩, s8, s9, s10⟩ := hf
 dsimp only at k1 k2 k3 k4 k5 k6 k7 k8 k9 k10 s1 s2 s3 s4 s5 s6 s6' s7 s7' s8 s9 s10
 simp only [Pg.wt] at hW
 simp only [aggP, Pg.cells, Ex.cells, eT, List.cons_append, List.nil_append]
 rw [← hxr] at k5 s5 hW
 rw [← hxi] at k10 s10 hW
 obtain ⟨t, ht⟩ : ∃ t, t = (most + 2) * (M + 1) := ⟨_, rfl⟩
 have htk : ∀ l : List Dc, (∀ d ∈ l, d.nm.size ≤ M) → ∀ c, c ≤ most → wtD (l.take c) ≤ t := fun l h c hc => by
  have h1 := wtD_bound (l.take c) fun d hd => h d (List.mem_of_mem_take hd)
  have h2 : (l.take c).length ≤ most + 2 := by rw [List.length_take]; omega
  have h3 := Nat.mul_le_mul_right (M + 1) h2
  omega
 have htn : ∀ l : List Dc, (∀ d ∈ l, d.nm.size ≤ M) → ∀ c, c ≤ most → wtN (l.take c) ≤ t := fun l h c hc => by
  have h1 := wtN_bound (l.take c) fun d hd => h d (List.mem_of_mem_take hd)
  have h2 : (l.take c).length ≤ most + 2 := by rw [List.length_take]; omega
  have h3 := Nat.mul_le_mul_right (M + 1) h2
  omega
 have htm : ∀ c, c ≤ most → c * (most + 1 + M) ≤ t + 3600000000 := fun c hc => by
  have h1 : c * (most + 1 + M) = c * most + c * (M + 1) := by rw [show most + 1 + M = most + (M + 1) by omega, Nat.mul_add]
  have h2 := Nat.mul_le_mul_right (M + 1) (show c ≤ most + 2 by omega)
  have h3 := Nat.mul_le_mul (show c ≤ 60000 by omega) (show most ≤ 60000 by omega)
  omega
 have hcr := fun w2 (h2 : Below w.heap.size w w2) => fewE xr most M w2 hm hM (k5.below h2) s5
 have hci := fun w2 (h2 : Below w.heap.size w w2) => fewE xi most M w2 hm hM (k10.below h2) s10
 have hcw := fun w2 (h2 : Below w.heap.size w w2) => fewS work ⟨A9, c9⟩ most M w2 hm hM hMM (k8.all (keeps_below h2)) s8
 have hcp := fun (y : Pr Loc) (hy : y ∈ procs) w2 (h2 : Below w.heap.size w w2) => fewS y.body y.lb most M w2 hm hM hMM ((k7.2 y hy).2.all (keeps_below h2)) (s7' y hy).2.2.2
 have hcv := fun w2 (h2 : Below w.heap.size w w2) => fewS recov ⟨A10, c10⟩ most M w2 hm hM hMM (k9.all (keeps_below h2)) s9
 have hr1 := xr.sz_wt
 have hr2 := xr.sz_pos
 rw [← ht] at hMM hcw hcv
 simp only [← ht] at hcp
 have hax : aggX xr = .agg #[.int .u8 rk, .int .u8 ro, .int .u32 rv, .int .i64 rwd, .string rn, .slice rA rs.length rc] := by rw [hxr]; rfl
 have hay : aggX xi = .agg #[.int .u8 ik, .int .u8 io, .int .u32 iv, .int .i64 iwd, .string inn, .slice iA is.length ic] := by rw [hxi]; rfl
 rw [hax] at hcr
 rw [hay] at hci
 obtain ⟨n2, hn2⟩ : ∃ n, n = ins.length := ⟨_, rfl⟩
 have n2b : (n2 : Int) ≤ 9223372036854775807 := by have h1 := k1.2.1; have h2 := k1.2.2.1; dsimp only at h1 h2; omega
 obtain ⟨n3, hn3⟩ : ∃ n, n = gh.length := ⟨_, rfl⟩
 have n3b : (n3 : Int) ≤ 9223372036854775807 := by have h1 := k2.2.1; have h2 := k2.2.2.1; dsimp only at h1 h2; omega
 obtain ⟨n4, hn4⟩ : ∃ n, n = va.length := ⟨_, rfl⟩
 have n4b : (n4 : Int) ≤ 9223372036854775807 := by have h1 := k3.2.1; have h2 := k3.2.2.1; dsimp only at h1 h2; omega
 obtain ⟨n5, hn5⟩ : ∃ n, n = ar.length := ⟨_, rfl⟩
 have n5b : (n5 : Int) ≤ 9223372036854775807 := by have h1 := k4.2.1; have h2 := k4.2.2.1; dsimp only at h1 h2; omega
 obtain ⟨n7, hn7⟩ : ∃ n, n = inits.length := ⟨_, rfl⟩
 have n7b : (n7 : Int) ≤ 9223372036854775807 := by have h1 := k6.1.2.1; have h2 := k6.1.2.2.1; dsimp only at h1 h2; omega
 obtain ⟨n8, hn8⟩ : ∃ n, n = procs.length := ⟨_, rfl⟩
 have n8b : (n8 : Int) ≤ 9223372036854775807 := by have h1 := k7.1.2.1; have h2 := k7.1.2.2.1; dsimp only at h1 h2; omega
 obtain ⟨n9, hn9⟩ : ∃ n, n = work.length := ⟨_, rfl⟩
 obtain ⟨n10, hn10⟩ : ∃ n, n = recov.length := ⟨_, rfl⟩
 obtain ⟨nr, hnr⟩ : ∃ n, n = rs.length := ⟨_, rfl⟩
 obtain ⟨ni, hni⟩ : ∃ n, n = is.length := ⟨_, rfl⟩
 rw [← hn2, ← hn3, ← hn4, ← hn5, ← hn7, ← hn8, ← hn9, ← hn10, ← hnr, ← hni]
 rw [← hn9] at hcw
 rw [← hn10] at hcv
 rw [← hnr] at hcr
 rw [← hni] at hci
 rw [← hn7] at s6
 rw [← hn8] at s7
 have n7c : (n7 : Int) ≤ 140737488355327 := by omega
 have n8c : (n8 : Int) ≤ 140737488355327 := by omega
 have m1 : (most : Int) ≤ 60000 := by omega
 have m0 : 0 ≤ (most : Int) := by omega
 have tb : t ≤ 288230376151711744 := by omega
 clear hMM hax hay
 have hb := Blk.new w 35 #[.int .i64 bl, .int .i64 wd, .slice A2 n2 c2, .slice A3 n3 c3, .slice A4 n4 c4, .slice A5 n5 c5, .int .u8 rk, .int .u8 ro, .int .u32 rv, .int .i64 rwd, .string rn, .slice rA nr rc, .slice A7 n7 c7, .slice A8 n8 c8, .slice A9 n9 c9, .slice A10 n10 c10, .int .u8 ik, .int .u8 io, .int .u32 iv, .int .i64 iwd, .string inn, .slice iA ni ic]
 have hB := (Below.refl _ w).alloc (Nat.le_refl _) (.cells #[.int .i64 bl, .int .i64 wd, .slice A2 n2 c2, .slice A3 n3 c3, .slice A4 n4 c4, .slice A5 n5 c5, .int .u8 rk, .int .u8 ro, .int .u32 rv, .int .i64 rwd, .string rn, .slice rA nr rc, .slice A7 n7 c7, .slice A8 n8 c8, .slice A9 n9 c9, .slice A10 n10 c10, .int .u8 ik, .int .u8 io, .int .u32 iv, .int .i64 iwd, .string inn, .slice iA ni ic] 35)
 replace hcr := Lib.hid hcr
 replace hci := Lib.hid hci
 replace hcw := Lib.hid hcw
 replace hcv := Lib.hid hcv
 replace hcp := Lib.hid hcp
 replace htk := Lib.hid htk
 replace htn := Lib.hid htn
 replace htm := Lib.hid htm
 replace hW := Lib.hid hW
 replace ht := Lib.hid ht
 replace hxr := Lib.hid hxr
 replace hxi := Lib.hid hxi
 replace hn2 := Lib.hid hn2
 replace hn3 := Lib.hid hn3
 replace hn4 := Lib.hid hn4
 replace hn5 := Lib.hid hn5
 replace hn7 := Lib.hid hn7
 replace hn8 := Lib.hid hn8
 replace hn9 := Lib.hid hn9
 replace hn10 := Lib.hid hn10
 replace hnr := Lib.hid hnr
 replace hni := Lib.hid hni
 replace k1 := Lib.hid k1
 replace k2 := Lib.hid k2
 replace k3 := Lib.hid k3
 replace k4 := Lib.hid k4
 replace k6 := Lib.hid k6
 replace k7 := Lib.hid k7
 replace s1 := Lib.hid s1
 replace s2 := Lib.hid s2
 replace s3 := Lib.hid s3
 replace s4 := Lib.hid s4
 replace s6' := Lib.hid s6'
 replace s7' := Lib.hid s7'
 replace hr1 := Lib.hid hr1
 replace hr2 := Lib.hid hr2
 clear k5 k8 k9 k10 s5 s8 s9 s10 s6 s7
 replace hb := Lib.hid hb
 replace hB := Lib.hid hB
 go_enter Tryz.func54, Tryz.ntmps54
 go_upto_region 1 with (fail)
 generalize w.alloc (.cells #[.int .i64 bl, .int .i64 wd, .slice A2 n2 c2, .slice A3 n3 c3, .slice A4 n4 c4, .slice A5 n5 c5, .int .u8 rk, .int .u8 ro, .int .u32 rv, .int .i64 rwd, .string rn, .slice rA nr rc, .slice A7 n7 c7, .slice A8 n8 c8, .slice A9 n9 c9, .slice A10 n10 c10, .int .u8 ik, .int .u8 io, .int .u32 iv, .int .i64 iwd, .string inn, .slice iA ni ic] 35) = W1 at *
 obtain ⟨g, hg⟩ : ∃ g, g = w.heap.size := ⟨_, rfl⟩
 rw [← hg] at hb ⊢
 replace hg := Lib.hid hg
 have hbd := Lib.hid (hb.out.below ((Below.refl _ W1).drew) hb.out.lt)
 obtain ⟨S, hSi, hSe⟩ : ∃ S : World → Prop, (∀ W, (W.cell? ⟨g, 6, none⟩ = some (.int .u8 rk) ∧ W.cell? ⟨g, 7, none⟩ = some (.int .u8 ro) ∧ W.cell? ⟨g, 8, none⟩ = some (.int .u32 rv) ∧ W.cell? ⟨g, 9, none⟩ = some (.int .i64 rwd) ∧ W.cell? ⟨g, 10, none⟩ = some (.string rn) ∧ W.cell? ⟨g, 11, none⟩ = some (.slice rA nr rc) ∧ W.cell? ⟨g, 16, none⟩ = some (.int .u8 ik) ∧ W.cell? ⟨g, 17, none⟩ = some (.int .u8 io) ∧ W.cell? ⟨g, 18, none⟩ = some (.int .u32 iv) ∧ W.cell? ⟨g, 19, none⟩ = some (.int .i64 iwd) ∧ W.cell? ⟨g, 20, none⟩ = some (.string inn) ∧ W.cell? ⟨g, 21, none⟩ = some (.slice iA ni ic) ∧ W.cell? ⟨g, 12, none⟩ = some (.slice A7 n7 c7) ∧ W.cell? ⟨g, 13, none⟩ = some (.slice A8 n8 c8)) → S W) ∧ (∀ W, S W → (W.cell? ⟨g, 6, none⟩ = some (.int .u8 rk) ∧ W.cell? ⟨g, 7, none⟩ = some (.int .u8 ro) ∧ W.cell? ⟨g, 8, none⟩ = some (.int .u32 rv) ∧ W.cell? ⟨g, 9, none⟩ = some (.int .i64 rwd) ∧ W.cell? ⟨g, 10, none⟩ = some (.string rn) ∧ W.cell? ⟨g, 11, none⟩ = some (.slice rA nr rc) ∧ W.cell? ⟨g, 16, none⟩ = some (.int .u8 ik) ∧ W.cell? ⟨g, 17, none⟩ = some (.int .u8 io) ∧ W.cell? ⟨g, 18, none⟩ = some (.int .u32 iv) ∧ W.cell? ⟨g, 19, none⟩ = some (.int .i64 iwd) ∧ W.cell? ⟨g, 20, none⟩ = some (.string inn) ∧ W.cell? ⟨g, 21, none⟩ = some (.slice iA ni ic) ∧ W.cell? ⟨g, 12, none⟩ = some (.slice A7 n7 c7) ∧ W.cell? ⟨g, 13, none⟩ = some (.slice A8 n8 c8))) := ⟨fun W => W.cell? ⟨g, 6, none⟩ = some (.int .u8 rk) ∧ W.cell? ⟨g, 7, none⟩ = some (.int .u8 ro) ∧ W.cell? ⟨g, 8, none⟩ = some (.int .u32 rv) ∧ W.cell? ⟨g, 9, none⟩ = some (.int .i64 rwd) ∧ W.cell? ⟨g, 10, none⟩ = some (.string rn) ∧ W.cell? ⟨g, 11, none⟩ = some (.slice rA nr rc) ∧ W.cell? ⟨g, 16, none⟩ = some (.int .u8 ik) ∧ W.cell? ⟨g, 17, none⟩ = some (.int .u8 io) ∧ W.cell? ⟨g, 18, none⟩ = some (.int .u32 iv) ∧ W.cell? ⟨g, 19, none⟩ = some (.int .i64 iwd) ∧ W.cell? ⟨g, 20, none⟩ = some (.string inn) ∧ W.cell? ⟨g, 21, none⟩ = some (.slice iA ni ic) ∧ W.cell? ⟨g, 12, none⟩ = some (.slice A7 n7 c7) ∧ W.cell? ⟨g, 13, none⟩ = some (.slice A8 n8 c8), fun _ h => h, fun _ h => h⟩
 have hS : S W1.drew := hSi _ ⟨hb.out.cell 6, hb.out.cell 7, hb.out.cell 8, hb.out.cell 9, hb.out.cell 10, hb.out.cell 11, hb.out.cell 16, hb.out.cell 17, hb.out.cell 18, hb.out.cell 19, hb.out.cell 20, hb.out.cell 21, hb.out.cell 12, hb.out.cell 13⟩
 replace hSi := Lib.hid hSi
 replace hSe := Lib.hid hSe
 refine wp_region_held (S := S) (by kernel_rfl) ?_
 change wpAnyH _ _ _ _ _ _ _ _ (World.drew _)
 refine takeH 0 (v := ?_) rfl (by kernel_rfl) (by kernel_rfl) (by kernel_rfl) (fun _ _ _ h => h) (by rfl) hS ?_ ?_
 rotate_left
 ·(intro wz hSw; obtain ⟨z0, z1, z2, z3, z4, z5, z6, z7, z8, z9, z10, z11, z12, z13⟩ := hSe.out _ hSw; go_simp; try with_reducible rfl)
 try simp only [Act.put, List.setIfInBounds_toArray, List.set_cons_zero, List.set_cons_succ]
 refine takeH 2 (v := ?_) rfl (by kernel_rfl) (by kernel_rfl) (by kernel_rfl) (fun _ _ _ h => h) (by rfl) hS ?_ ?_
 rotate_left
 ·(intro wz hSw; obtain ⟨z0, z1, z2, z3, z4, z5, z6, z7, z8, z9, z10, z11, z12, z13⟩ := hSe.out _ hSw; go_simp; try with_reducible rfl)
 try simp only [Act.put, List.setIfInBounds_toArray, List.set_cons_zero, List.set_cons_succ]
 refine takeH 4 (v := ?_) rfl (by kernel_rfl) (by kernel_rfl) (by kernel_rfl) (fun _ _ _ h => h) (by rfl) hS ?_ ?_
 rotate_left
 ·(intro wz hSw; obtain ⟨z0, z1, z2, z3, z4, z5, z6, z7, z8, z9, z10, z11, z12, z13⟩ := hSe.out _ hSw; go_simp; try with_reducible rfl)
 try simp only [Act.put, List.setIfInBounds_toArray, List.set_cons_zero, List.set_cons_succ]
 refine takeH 6 (v := ?_) rfl (by kernel_rfl) (by kernel_rfl) (by kernel_rfl) (fun _ _ _ h => h) (by rfl) hS ?_ ?_
 rotate_left
 ·(intro wz hSw; obtain ⟨z0, z1, z2, z3, z4, z5, z6, z7, z8, z9, z10, z11, z12, z13⟩ := hSe.out _ hSw; go_simp; try with_reducible rfl)
 try simp only [Act.put, List.setIfInBounds_toArray, List.set_cons_zero, List.set_cons_succ]
 refine takeH 9 (v := ?_) rfl (by kernel_rfl) (by kernel_rfl) (by kernel_rfl) (fun _ _ _ h => h) (by rfl) hS ?_ ?_
 rotate_left
 ·(intro wz hSw; obtain ⟨z0, z1, z2, z3, z4, z5, z6, z7, z8, z9, z10, z11, z12, z13⟩ := hSe.out _ hSw; go_simp; try with_reducible rfl)
 try simp only [Act.put, List.setIfInBounds_toArray, List.set_cons_zero, List.set_cons_succ]
 refine takeH 13 (v := ?_) rfl (by kernel_rfl) (by kernel_rfl) (by kernel_rfl) (fun _ _ _ h => h) (by rfl) hS ?_ ?_
 rotate_left
 ·(intro wz hSw; obtain ⟨z0, z1, z2, z3, z4, z5, z6, z7, z8, z9, z10, z11, z12, z13⟩ := hSe.out _ hSw; go_simp; try with_reducible rfl)
 try simp only [Act.put, List.setIfInBounds_toArray, List.set_cons_zero, List.set_cons_succ]
 refine takeH 1 (v := .agg #[.int .u8 rk, .int .u8 ro, .int .u32 rv, .int .i64 rwd, .string rn, .slice rA nr rc]) rfl (by kernel_rfl) (by kernel_rfl) (by kernel_rfl) (fun _ _ _ h => h) (by rfl) hS ?_ ?_
 ·(intro wz hSw; obtain ⟨z0, z1, z2, z3, z4, z5, z6, z7, z8, z9, z10, z11, z12, z13⟩ := hSe.out _ hSw; go_simp)
 try simp only [Act.put, List.setIfInBounds_toArray, List.set_cons_zero, List.set_cons_succ]
 refine takeH 5 (v := .agg #[.int .u8 ik, .int .u8 io, .int .u32 iv, .int .i64 iwd, .string inn, .slice iA ni ic]) rfl (by kernel_rfl) (by kernel_rfl) (by kernel_rfl) (fun _ _ _ h => h) (by rfl) hS ?_ ?_
 ·(intro wz hSw; obtain ⟨z0, z1, z2, z3, z4, z5, z6, z7, z8, z9, z10, z11, z12, z13⟩ := hSe.out _ hSw; go_simp)
 try simp only [Act.put, List.setIfInBounds_toArray, List.set_cons_zero, List.set_cons_succ]
 refine takeH 10 (v := .slice A8 n8 c8) rfl (by kernel_rfl) (by kernel_rfl) (by kernel_rfl) (fun _ _ _ h => h) (by rfl) hS ?_ ?_
 ·(intro wz hSw; obtain ⟨z0, z1, z2, z3, z4, z5, z6, z7, z8, z9, z10, z11, z12, z13⟩ := hSe.out _ hSw; go_simp)
 try simp only [Act.put, List.setIfInBounds_toArray, List.set_cons_zero, List.set_cons_succ]
 refine takeH 11 (v := .int .i64 n8) rfl (by kernel_rfl) (by kernel_rfl) (by kernel_rfl) (fun _ _ _ h => h) (by rfl) hS ?_ ?_
 ·(intro wz hSw; obtain ⟨z0, z1, z2, z3, z4, z5, z6, z7, z8, z9, z10, z11, z12, z13⟩ := hSe.out _ hSw; go_simp)
 try simp only [Act.put, List.setIfInBounds_toArray, List.set_cons_zero, List.set_cons_succ]
 refine takeH 14 (v := .slice A7 n7 c7) rfl (by kernel_rfl) (by kernel_rfl) (by kernel_rfl) (fun _ _ _ h => h) (by rfl) hS ?_ ?_
 ·(intro wz hSw; obtain ⟨z0, z1, z2, z3, z4, z5, z6, z7, z8, z9, z10, z11, z12, z13⟩ := hSe.out _ hSw; go_simp)
 try simp only [Act.put, List.setIfInBounds_toArray, List.set_cons_zero, List.set_cons_succ]
 refine takeH 15 (v := .int .i64 n7) rfl (by kernel_rfl) (by kernel_rfl) (by kernel_rfl) (fun _ _ _ h => h) (by rfl) hS ?_ ?_
 ·(intro wz hSw; obtain ⟨z0, z1, z2, z3, z4, z5, z6, z7, z8, z9, z10, z11, z12, z13⟩ := hSe.out _ hSw; go_simp)
 try simp only [Act.put, List.setIfInBounds_toArray, List.set_cons_zero, List.set_cons_succ]
 refine callH 3 rfl (by kernel_rfl) (fun K hK => ?_)
 go_simp
 have hB1 := hB.out.drew
 refine (hcr.out _ hB1).mono ?_
 rintro e U1 ⟨⟨x1, rfl, hx1, hx1b⟩, hC1⟩
 have hb2 := hbd.out.below hC1 hbd.out.lt
 replace hbd := Lib.hid hb2
 have hB2 := below_and hB1 hC1
 clear hC1 hB1
 refine hK.out _ _ (hSi.out _ ⟨(hb2.cell 6), (hb2.cell 7), (hb2.cell 8), (hb2.cell 9), (hb2.cell 10), (hb2.cell 11), (hb2.cell 16), (hb2.cell 17), (hb2.cell 18), (hb2.cell 19), (hb2.cell 20), (hb2.cell 21), (hb2.cell 12), (hb2.cell 13)⟩) (fun hSn => ?_)
 clear hK K hS
 have hS := hSn
 clear hSn
 refine callH 7 rfl (by kernel_rfl) (fun K hK => ?_)
 go_simp
 refine (hci.out _ hB2).mono ?_
 rintro e U2 ⟨⟨x2, rfl, hx2, hx2b⟩, hC2⟩
 have hb2 := hbd.out.below hC2 hbd.out.lt
 replace hbd := Lib.hid hb2
 have hB3 := below_and hB2 hC2
 clear hC2
 refine hK.out _ _ (hSi.out _ ⟨(hb2.cell 6), (hb2.cell 7), (hb2.cell 8), (hb2.cell 9), (hb2.cell 10), (hb2.cell 11), (hb2.cell 16), (hb2.cell 17), (hb2.cell 18), (hb2.cell 19), (hb2.cell 20), (hb2.cell 21), (hb2.cell 12), (hb2.cell 13)⟩) (fun hSn => ?_)
 clear hK K hS
 have hS := hSn
 clear hSn
 refine takeH 8 (v := ?_) rfl (by kernel_rfl) (by kernel_rfl) (by kernel_rfl) (fun _ _ _ h => h) (by rfl) hS ?_ ?_
 rotate_left
 ·(intro wz hSw; obtain ⟨z0, z1, z2, z3, z4, z5, z6, z7, z8, z9, z10, z11, z12, z13⟩ := hSe.out _ hSw; go_simp; try with_reducible rfl)
 try simp only [Act.put, List.setIfInBounds_toArray, List.set_cons_zero, List.set_cons_succ]
 refine takeH 12 (v := ?_) rfl (by kernel_rfl) (by kernel_rfl) (by kernel_rfl) (fun _ _ _ h => h) (by rfl) hS ?_ ?_
 rotate_left
 ·(intro wz hSw; obtain ⟨z0, z1, z2, z3, z4, z5, z6, z7, z8, z9, z10, z11, z12, z13⟩ := hSe.out _ hSw; go_simp; try with_reducible rfl)
 try simp only [Act.put, List.setIfInBounds_toArray, List.set_cons_zero, List.set_cons_succ]
 refine takeH 16 (v := ?_) rfl (by kernel_rfl) (by kernel_rfl) (by kernel_rfl) (fun _ _ _ h => h) (by rfl) hS ?_ ?_
 rotate_left
 ·(intro wz hSw; obtain ⟨z0, z1, z2, z3, z4, z5, z6, z7, z8, z9, z10, z11, z12, z13⟩ := hSe.out _ hSw; go_simp; try with_reducible rfl)
 try simp only [Act.put, List.setIfInBounds_toArray, List.set_cons_zero, List.set_cons_succ]
 refine takeH 17 (v := ?_) rfl (by kernel_rfl) (by kernel_rfl) (by kernel_rfl) (fun _ _ _ h => h) (by rfl) hS ?_ ?_
 rotate_left
 ·(intro wz hSw; obtain ⟨z0, z1, z2, z3, z4, z5, z6, z7, z8, z9, z10, z11, z12, z13⟩ := hSe.out _ hSw; go_simp; try with_reducible rfl)
 try simp only [Act.put, List.setIfInBounds_toArray, List.set_cons_zero, List.set_cons_succ]
 refine wpAnyH_done (by kernel_rfl) ?_ _
 clear hSi hSe hS
 rename World => W2
 obtain ⟨q1, hq1⟩ : ∃ q, q = x1 + x2 + n8 + n7 := ⟨_, rfl⟩
 obtain ⟨dl, hdl⟩ : ∃ d : List (Loc × List Dc), d = [(⟨A2, c2⟩, ins), (⟨A3, c3⟩, gh), (⟨A4, c4⟩, va), (⟨A5, c5⟩, ar)] := ⟨_, rfl⟩
 have hdp : ∀ x ∈ dl, RowIn w 3 x.1 x.2.length (cellsD x.2) ∧ ∀ d ∈ x.2, d.nm.size ≤ M := fun x hx => by
  rw [hdl] at hx
  simp only [List.mem_cons, List.not_mem_nil, or_false] at hx
  rcases hx with rfl | rfl | rfl | rfl
  ·exact ⟨k1.out, s1.out⟩
  ·exact ⟨k2.out, s2.out⟩
  ·exact ⟨k3.out, s3.out⟩
  ·exact ⟨k4.out, s4.out⟩
 have hcd : cutD most dl = wtD (ins.take (min ins.length most)) + wtD (gh.take (min gh.length most)) + wtD (va.take (min va.length most)) + wtD (ar.take (min ar.length most)) := by
  rw [hdl]
  simp only [cutD, List.map_cons, List.map_nil, List.sum_cons, List.sum_nil]
  omega
 obtain ⟨CD, hCD⟩ : ∃ C, C = cutD most dl := ⟨_, rfl⟩
 have hCDb : CD ≤ 4 * t := by
  have h1 := htk.out ins s1.out (min ins.length most) (by omega)
  have h2 := htk.out gh s2.out (min gh.length most) (by omega)
  have h3 := htk.out va s3.out (min va.length most) (by omega)
  have h4 := htk.out ar s4.out (min ar.length most) (by omega)
  omega
 obtain ⟨P1, hP1⟩ : ∃ P, P = xr.wt + xi.wt + procs.length + inits.length + wtD ins + wtD gh + wtD va + wtD ar := ⟨_, rfl⟩
 have hfull : (q1 + CD ≤ most ∨ W ≤ most) → q1 + CD = P1 := fun h => by
  have h1 := hx1 (by have := hW.out; omega)
  have h2 := hx2 (by have := hW.out; omega)
  have h3 := hr1.out
  have h4 := hr2.out
  have e1 := wtD_min (l := ins) (most := most) rfl (by have := hW.out; omega)
  have e2 := wtD_min (l := gh) (most := most) rfl (by have := hW.out; omega)
  have e3 := wtD_min (l := va) (most := most) rfl (by have := hW.out; omega)
  have e4 := wtD_min (l := ar) (most := most) rfl (by have := hW.out; omega)
  have h5 := hn7.out
  have h6 := hn8.out
  omega
 have hle7 : n7 + n8 ≤ q1 := by omega
 have x1i : (x1 : Int) ≤ 140737488500000 := by omega
 have x2i : (x2 : Int) ≤ 140737488500000 := by omega
 have q1i : (q1 : Int) ≤ 600000000000000 := by omega
 have hbl := Blk.new W2 24 #[.slice A2 n2 c2, .slice A3 n3 c3, .slice A4 n4 c4, .slice A5 n5 c5]
 have hBl := (Below.refl _ W2).alloc (Nat.le_refl _) (.cells #[.slice A2 n2 c2, .slice A3 n3 c3, .slice A4 n4 c4, .slice A5 n5 c5] 24)
 have l2 := hbd.out.lt
 have v2 := hbd.out.cell 2
 have v3 := hbd.out.cell 3
 have v4 := hbd.out.cell 4
 have v5 := hbd.out.cell 5
 simp only [List.getElem?_toArray, List.getElem?_cons_zero, List.getElem?_cons_succ] at v2 v3 v4 v5
 clear hx1b hx2b hcd
 replace hq1 := Lib.hid hq1
 replace hdl := Lib.hid hdl
 replace hdp := Lib.hid hdp
 replace hCD := Lib.hid hCD
 replace hP1 := Lib.hid hP1
 replace hfull := Lib.hid hfull
 replace hle7 := Lib.hid hle7
 replace hx1 := Lib.hid hx1
 replace hx2 := Lib.hid hx2
 replace hbl := Lib.hid hbl
 replace hBl := Lib.hid hBl
 replace hB3 := Lib.hid hB3
 clear hcr hci htk
 go_wp2_with fail
 generalize W2.alloc (.cells #[.slice A2 n2 c2, .slice A3 n3 c3, .slice A4 n4 c4, .slice A5 n5 c5] 24) = W3 at *
 obtain ⟨g4, hg4⟩ : ∃ g, W2.heap.size = g := ⟨_, rfl⟩
 rw [hg4] at hbl ⊢
 replace hg4 := Lib.hid hg4
 have hbd3 := Lib.hid (hbd.out.below hBl.out hbd.out.lt)
 have hB4 := Lib.hid (below_and hB3.out hBl.out)
 clear hBl hB3 hbd v2 v3 v4 v5 l2
 have hb4 : ∀ k x, dl[k]? = some x → W3.cell? ((⟨g4, 0, none⟩ : Addr).add k) = some (.slice x.1.A x.2.length x.1.c) := fun k x hx => by
  have h1 := hbl.out.cell k
  rw [hdl.out] at hx
  rw [Addr.add_mid, Nat.zero_add]
  match k with
  | 0 => cases hx; rw [h1, hn2.out]; rfl
  | 1 => cases hx; rw [h1, hn3.out]; rfl
  | 2 => cases hx; rw [h1, hn4.out]; rfl
  | 3 => cases hx; rw [h1, hn5.out]; rfl
  | k + 4 => simp at hx
 have hdlen : dl.length = 4 := by rw [hdl.out]; rfl
 have hgl : g4 < W3.heap.size := hbl.out.lt
 obtain ⟨ad, had⟩ : ∃ ad : Addr, ad = ⟨g4, 0, none⟩ := ⟨_, rfl⟩
 have hadb : ad.block = g4 := by rw [had]
 rw [← had] at hb4 ⊢
 replace hb4 := Lib.hid hb4
 replace hdlen := Lib.hid hdlen
 replace had := Lib.hid had
 replace hadb := Lib.hid hadb
 go_loopw [5, 43] (fun v5 v43 wr => ∃ (k q : Nat), v43 = .int .i64 k ∧ v5 = .int .i64 q ∧ k ≤ 4 ∧ q = q1 + cutD most (dl.take k) ∧ Below W3.heap.size W3 wr) (fun _ v43 _ => 4 - (intOf v43).toNat)
 case atStart => exact ⟨0, q1, rfl, by rw [i64_idF (x := (x1 : Int) + x2) (by omega) (by omega), i64_idF (x := (x1 : Int) + x2 + n8) (by omega) (by omega), i64_idF (x := (x1 : Int) + x2 + n8 + n7) (by omega) (by omega), hq1.out]; rfl, Nat.zero_le _, rfl, Below.refl _ _⟩
 case round =>
  obtain ⟨k, q, rfl, rfl, hk, hq, hB⟩ := hrel
  have k0 : 0 ≤ (k : Int) := by omega
  have hqb : q ≤ q1 + CD := by have := cutD_take_le (most := most) dl k; have := hCD.out; omega
  have qi : (q : Int) ≤ 2000000000000000000 := by omega
  by_cases hlt : k < 4
  ·have hx : dl[k]? = some (dl[k]'(by have := hdlen.out; omega)) := List.getElem?_eq_getElem (by have := hdlen.out; omega)
   generalize dl[k]'(by have := hdlen.out; omega) = x at hx
   obtain ⟨hro, hnm⟩ := hdp.out x (List.mem_of_getElem? hx)
   have hcell := hb4.out k x hx
   have hcell' : wr.cell? (ad.add k) = some (.slice x.1.A x.2.length x.1.c) := (hB.cell (by rw [block_of_add, hadb.out]; exact hgl)).trans hcell
   have hnext := cutD_take (most := most) hx
   have hnle := cutD_take_le (most := most) dl (k + 1)
   obtain ⟨⟨lA, lc⟩, ds⟩ := x
   dsimp only at hro hnm hcell' hnext
   obtain ⟨nl, hnl⟩ : ∃ n, n = ds.length := ⟨_, rfl⟩
   have hnlb : (nl : Int) ≤ 9223372036854775807 := by have h1 := hro.2.1; have h2 := hro.2.2.1; dsimp only at h1 h2; omega
   have hnlc : (nl : Int) ≤ (lc : Int) := by have h1 := hro.2.1; dsimp only at h1; omega
   have hlcb : (lc : Int) ≤ 9223372036854775807 := by have h2 := hro.2.2.1; dsimp only at h2; omega
   rw [← hnl] at hcell'
   have k1 : (k : Int) < 4 := by omega
   have hab := cell_lt hcell'
   clear hcell
   obtain ⟨c, hc⟩ : ∃ c, c = min nl most := ⟨_, rfl⟩
   have cb : (c : Int) ≤ (most : Int) := by omega
   replace hro := Lib.hid hro
   replace hnm := Lib.hid hnm
   replace hnext := Lib.hid hnext
   replace hnle := Lib.hid hnle
   replace hnl := Lib.hid hnl
   replace hx := Lib.hid hx
   replace hq := Lib.hid hq
   replace hqb := Lib.hid hqb
   replace hc := Lib.hid hc
   go_upto_region 5 with (fail)
   go_cut [52, 53, 54] (fun v52 v53 v54 wx => v52 = .slice lA c lc ∧ v53 = .int .i64 c ∧ v54 = .int .i64 0 ∧ wx = wr)
   case first =>
    by_cases h2 : nl ≤ most
    ·obtain rfl : c = nl := by have := hc.out; omega
     have h3 : (c : Int) ≤ (most : Int) := by omega
     go_wp2_with fail
     go_meet
     exact ⟨rfl, rfl, rfl, rfl⟩
    ·obtain rfl : c = most := by have := hc.out; omega
     have h3 : ¬ (nl : Int) ≤ (c : Int) := by omega
     have h4 : (c : Int) ≤ (nl : Int) := by omega
     go_wp2_with fail
     go_meet
     exact ⟨rfl, rfl, rfl, rfl⟩
   case rest =>
   obtain ⟨rfl, rfl, rfl, hwc⟩ := hcut
   subst hwc
   go_wp2_with fail
   go_loopw [5, 54] (fun v5 v54 wr => ∃ (j p : Nat), v54 = .int .i64 j ∧ v5 = .int .i64 p ∧ j ≤ c ∧ p = q + wtD (ds.take j) ∧ Below W3.heap.size W3 wr) (fun _ v54 _ => c - (intOf v54).toNat)
   case atStart => exact ⟨0, q, rfl, rfl, Nat.zero_le _, by simp [wtD], hB⟩
   case round =>
    obtain ⟨j, p, rfl, rfl, hj, hp, hB5⟩ := hrel
    have j0 : 0 ≤ (j : Int) := by omega
    clear hcell' hab hB
    by_cases hjl : j < c
    ·have hy : ds[j]? = some (ds[j]'(by have := hnl.out; have := hc.out; omega)) := List.getElem?_eq_getElem (by have := hnl.out; have := hc.out; omega)
     generalize ds[j]'(by have := hnl.out; have := hc.out; omega) = y at hy
     obtain ⟨ad2, hA2, _, hcy⟩ := row_take (hro.out.all (keeps_below (below_and hB4.out hB5))) hy
     have hym := hnm.out y (List.mem_of_getElem? hy)
     have hyn := wtD_take hy
     have hpb : p + (1 + y.nm.size) ≤ q + c * (M + 1) + M + 1 ∨ True := .inr trivial
     have hpl : wtD (ds.take (j + 1)) ≤ wtD (ds.take c) := by
      have h1 := wtD_take_le (ds.take c) (j + 1)
      rw [List.take_take] at h1
      rw [show min (j + 1) c = j + 1 by omega] at h1
      exact h1
     have hpf : p + (1 + y.nm.size) ≤ q1 + CD := by
      have h1 := hnext.out
      have h2 := hnle.out
      have h3 := hCD.out
      have h4 := hc.out
      have h5 := hq.out
      have h6 := hnl.out
      rw [← h6, ← h4] at h1
      omega
     have hpi : (p : Int) + (1 + (y.nm.size : Int)) ≤ 2000000000000000000 := by omega
     obtain ⟨yn, yw, ys⟩ := y
     obtain ⟨d0, d1, d2⟩ := CellsAt.c3 hcy
     dsimp only at hA2 hym hyn hpi
     subst hA2
     have j1 : (j : Int) < (c : Int) := by omega
     have hab2 := cell_lt d0
     have z1 : (yn.size : Int) ≤ 140737488355327 := by omega
     have hB6 := hB5.alloc hB5.size (.cells #[.string yn, .int .i64 yw, .int .i64 ys] 60)
     clear hpb
     replace hyn := Lib.hid hyn
     replace hy := Lib.hid hy
     replace hB6 := Lib.hid hB6
     replace hp := Lib.hid hp
     replace hpf := Lib.hid hpf
     replace hpl := Lib.hid hpl
     go_wp2_with fail
     go_roundw
     case rel => exact ⟨j + 1, p + (1 + yn.size), by go_num, by go_num, by omega, by have h1 := hyn.out; have h2 := hp.out; omega, hB6.out⟩
     case measure => simp [intOf]; omega
    ·obtain rfl : j = c := by omega
     have hq' : p = q1 + cutD most (dl.take (k + 1)) := by
      have h1 := hnext.out
      have h4 := hc.out
      have h5 := hq.out
      have h6 := hnl.out
      rw [← h6, ← h4] at h1
      omega
     replace hq' := Lib.hid hq'
     go_wp2_with fail
     go_roundw
     case rel => exact ⟨k + 1, p, by go_num, rfl, by omega, hq'.out, hB5⟩
     case measure => simp [intOf]; omega
  ·obtain rfl : k = 4 := by omega
   have hall : dl.take 4 = dl := List.take_of_length_le (by have := hdlen.out; omega)
   rw [hall, ← hCD.out] at hq
   clear hall hk hdp hb4 hdlen had hadb hgl hdl
   obtain ⟨W4, hW4⟩ : ∃ x, x = wr := ⟨_, rfl⟩
   subst hW4
   have hbd4 := hbd3.out.below hB hbd3.out.lt
   have hB04 := below_and hB4.out hB
   have l4 := hbd4.lt
   have v12 := hbd4.cell 12
   simp only [List.getElem?_toArray, List.getElem?_cons_zero, List.getElem?_cons_succ] at v12
   obtain ⟨c, hc⟩ : ∃ c, c = min n7 most := ⟨_, rfl⟩
   have cb : (c : Int) ≤ (most : Int) := by omega
   have h77 : (n7 : Int) ≤ (c7 : Int) := by have h1 := k6.out.1.2.1; have h2 := hn7.out; dsimp only at h1; omega
   have h7c : (c7 : Int) ≤ 9223372036854775807 := by have h1 := k6.out.1.2.2.1; dsimp only at h1; omega
   have hP0 : (q ≤ most ∨ W ≤ most) → q = P1 := by rw [hq]; exact hfull.out
   have hq7 : n7 + n8 ≤ q := by have := hle7.out; omega
   have hqb : q ≤ 1800000000000000000 := by omega
   clear hq hB hB4 hbd3 hfull hle7 hCD hbl
   replace hbd4 := Lib.hid hbd4
   replace hB04 := Lib.hid hB04
   replace hc := Lib.hid hc
   replace hP0 := Lib.hid hP0
   replace hq7 := Lib.hid hq7
   rw [show ((4 : Nat) : Int) = 4 from rfl]
   go_upto_region 11 with (fail)
   go_cut [73, 74, 75] (fun v73 v74 v75 wx => v73 = .slice A7 c c7 ∧ v74 = .int .i64 c ∧ v75 = .int .i64 0 ∧ wx = W4)
   case first =>
    by_cases h2 : n7 ≤ most
    ·obtain rfl : c = n7 := by have := hc.out; omega
     have h3 : (c : Int) ≤ (most : Int) := by omega
     go_wp2_with fail
     go_meet
     exact ⟨rfl, rfl, rfl, rfl⟩
    ·obtain rfl : c = most := by have := hc.out; omega
     have h3 : ¬ (n7 : Int) ≤ (c : Int) := by omega
     have h4 : (c : Int) ≤ (n7 : Int) := by omega
     go_wp2_with fail
     go_meet
     exact ⟨rfl, rfl, rfl, rfl⟩
   case rest =>
    obtain ⟨rfl, rfl, rfl, hwc⟩ := hcut
    subst hwc
    rename World => W4
    clear v12 l4
    obtain ⟨u, hu⟩ : ∃ u, u = most + 1 + M := ⟨_, rfl⟩
    have hju : ∀ j, j ≤ c → j * u ≤ t + 3600000000 := fun j hj => by rw [hu]; exact htm.out j (by omega)
    have hjs : ∀ j : Nat, (j + 1) * u = j * u + u := fun j => Nat.succ_mul j u
    have ub : (u : Int) ≤ 140737488500000 := by omega
    replace hju := Lib.hid hju
    replace hjs := Lib.hid hjs
    replace hu := Lib.hid hu
    go_wp2_with fail
    go_loopw [5, 75] (fun v5 v75 wr => ∃ (j p : Nat), v75 = .int .i64 j ∧ v5 = .int .i64 p ∧ j ≤ c ∧ ((p ≤ most ∨ W ≤ most) → p = P1 + wtI (inits.take j)) ∧ q ≤ p ∧ p ≤ q + j * u ∧ Below W4.heap.size W4 wr) (fun _ v75 _ => c - (intOf v75).toNat)
    case atStart => exact ⟨0, q, rfl, rfl, Nat.zero_le _, fun h => by rw [hP0.out h]; simp [wtI], Nat.le_refl _, by omega, Below.refl _ _⟩
    case round =>
     obtain ⟨j, p, rfl, rfl, hj, hp, hqp, hpb, hB5⟩ := hrel
     have j0 : 0 ≤ (j : Int) := by omega
     by_cases hjl : j < c
     ·have hy : inits[j]? = some (inits[j]'(by have := hn7.out; have := hc.out; omega)) := List.getElem?_eq_getElem (by have := hn7.out; have := hc.out; omega)
      generalize inits[j]'(by have := hn7.out; have := hc.out; omega) = y at hy
      obtain ⟨ad2, hA2, _, hyok, hcy⟩ := (k6.out.keep (keeps_below (below_and hB04.out hB5)) (fun _ _ => trivial)).at hy
      have hym := s6'.out y (List.mem_of_getElem? hy)
      have hyn := wtI_take hy
      have hyl := wtI_take_le inits (j + 1)
      have hpc : p ≤ q + (t + 3600000000) := by have := hju.out j (by omega); omega
      have hpi : (p : Int) ≤ 2100000000000000000 := by omega
      have hcall := fun w2 (h2 : Below wr.heap.size wr w2) => fewE y.val most M w2 hm hM (hyok.below h2) hym
      obtain ⟨yb, ⟨⟨yk, yo, yv, yw, yn⟩, ⟨yA, yc⟩, ys⟩⟩ := y
      obtain ⟨d0, d1, d2, d3, d4, d5, d6⟩ := CellsAt.c7 hcy
      dsimp only at hA2 hym hyn
      simp only [eT, aggX, Ex.cells] at d1 d2 d3 hcall
      subst hA2
      have j1 : (j : Int) < (c : Int) := by omega
      have hab2 := cell_lt d0
      have hB6 := (Below.refl _ wr).alloc (Nat.le_refl _) (.cells #[.int .i64 yb, .int .u8 yk, .int .u8 yo, .int .u32 yv, .int .i64 yw, .string yn, .slice yA ys.length yc] 62)
      have hcall2 := hcall _ hB6
      replace hcall2 := Lib.hid hcall2
      clear hcall hyok
      replace hyn := Lib.hid hyn
      replace hyl := Lib.hid hyl
      replace hy := Lib.hid hy
      replace hB6 := Lib.hid hB6
      replace hp := Lib.hid hp
      replace hym := Lib.hid hym
      go_wp2_with fail
      refine hcall2.out.mono ?_
      rintro e w2 ⟨⟨q2, rfl, hq2, hqm2⟩, hB7⟩
      have hB8 := below_and hB5 (below_and hB6.out hB7)
      replace hB8 := Lib.hid hB8
      have q2b : (q2 : Int) ≤ 140737488500000 := by omega
      have q2u : q2 ≤ u := by have := hu.out; omega
      go_wp2_with fail
      go_roundw
      case rel => exact ⟨j + 1, p + q2, by go_num, by go_num, by omega, fun h => by have h1 := hyn.out; have h2 := hyl.out; have h3 := hW.out; have h5 := hP1.out; have h4 := hp.out (by omega); have h6 := hq2 (by omega); omega, by omega, by rw [hjs.out]; omega, hB8.out⟩
      case measure => simp [intOf]; omega
     ·obtain rfl : j = c := by omega
      obtain ⟨P2, hP2⟩ : ∃ P, P = P1 + wtI inits := ⟨_, rfl⟩
      have hP2' : (p ≤ most ∨ W ≤ most) → p = P2 := fun h => by
       have h1 := hp h
       have h2 := hW.out
       have h3 := hq7.out
       have h4 := hc.out
       have h5 := hn7.out
       rw [List.take_of_length_le (by omega)] at h1
       omega
      have hpq : n7 + n8 ≤ p := by have := hq7.out; omega
      have hpbb : p ≤ 2100000000000000000 := by have := hju.out j (Nat.le_refl _); omega
      obtain ⟨W5, hW5⟩ : ∃ x, x = wr := ⟨_, rfl⟩
      subst hW5
      have hbd5 := hbd4.out.below hB5 hbd4.out.lt
      have hB05 := below_and hB04.out hB5
      have l5 := hbd5.lt
      have v13 := hbd5.cell 13
      simp only [List.getElem?_toArray, List.getElem?_cons_zero, List.getElem?_cons_succ] at v13
      obtain ⟨c', hc'⟩ : ∃ c, c = min n8 most := ⟨_, rfl⟩
      have cb' : (c' : Int) ≤ (most : Int) := by omega
      have h88 : (n8 : Int) ≤ (c8 : Int) := by have h1 := k7.out.1.2.1; have h2 := hn8.out; dsimp only at h1; omega
      have h8c : (c8 : Int) ≤ 9223372036854775807 := by have h1 := k7.out.1.2.2.1; dsimp only at h1; omega
      clear hB5 hp hqp hpb hP0 hq7 hju hjs hu hB04 hbd4
      replace hbd5 := Lib.hid hbd5
      replace hB05 := Lib.hid hB05
      replace hc' := Lib.hid hc'
      replace hP2' := Lib.hid hP2'
      replace hP2 := Lib.hid hP2
      replace hpq := Lib.hid hpq
      go_upto_region 16 with (fail)
      go_cut [93, 94, 95] (fun v93 v94 v95 wx => v93 = .slice A8 c' c8 ∧ v94 = .int .i64 c' ∧ v95 = .int .i64 0 ∧ wx = W5)
      case first =>
       by_cases h2 : n8 ≤ most
       ·obtain rfl : c' = n8 := by have := hc'.out; omega
        have h3 : (c' : Int) ≤ (most : Int) := by omega
        go_wp2_with fail
        go_meet
        exact ⟨rfl, rfl, rfl, rfl⟩
       ·obtain rfl : c' = most := by have := hc'.out; omega
        have h3 : ¬ (n8 : Int) ≤ (c' : Int) := by omega
        have h4 : (c' : Int) ≤ (n8 : Int) := by omega
        go_wp2_with fail
        go_meet
        exact ⟨rfl, rfl, rfl, rfl⟩
      case rest =>
       obtain ⟨rfl, rfl, rfl, hwc⟩ := hcut
       subst hwc
       rename World => W5
       clear v13 l5
       go_wp2_with fail
       go_loopw [5, 95] (fun v5 v95 wr => ∃ (i r : Nat), v95 = .int .i64 i ∧ v5 = .int .i64 r ∧ i ≤ c' ∧ ((r ≤ most ∨ W ≤ most) → r = P2 + wtPr (procs.take i)) ∧ r ≤ 2100000000000000000 ∧ Below W5.heap.size W5 wr) (fun _ v95 _ => c' - (intOf v95).toNat)
       case atStart => exact ⟨0, p, rfl, rfl, Nat.zero_le _, fun h => by rw [hP2'.out h]; simp [wtPr], hpbb, Below.refl _ _⟩
       case round =>
        obtain ⟨i, r, rfl, rfl, hi, hr, hrb, hB6⟩ := hrel
        have i0 : 0 ≤ (i : Int) := by omega
        by_cases hil : i < c'
        ·have hy : procs[i]? = some (procs[i]'(by have := hn8.out; have := hc'.out; omega)) := List.getElem?_eq_getElem (by have := hn8.out; have := hc'.out; omega)
         generalize procs[i]'(by have := hn8.out; have := hc'.out; omega) = y at hy
         obtain ⟨ad2, hA2, _, hyok, hcy⟩ := (k7.out.keep (keeps_below (below_and hB05.out hB6)) (fun _ _ => trivial)).at hy
         obtain ⟨hm1, hm2, hm3, _⟩ := s7'.out y (List.mem_of_getElem? hy)
         have hyn := wtPr_take hy
         have hyl := wtPr_take_le procs (i + 1)
         have hcall := fun w2 (h2 : Below W5.heap.size W5 w2) => hcp.out y (List.mem_of_getElem? hy) w2 (below_and hB05.out h2)
         have hro := (k7.out.2 y (List.mem_of_getElem? hy)).1
         clear hyok
         obtain ⟨yn, ⟨pA, pc⟩, ps, ⟨bA, bc⟩, body⟩ := y
         dsimp only at hA2 hm1 hm2 hm3 hyn hcall hro
         subst hA2
         obtain ⟨np, hnp⟩ : ∃ n, n = ps.length := ⟨_, rfl⟩
         obtain ⟨nb, hnb⟩ : ∃ n, n = body.length := ⟨_, rfl⟩
         simp only [Pr.cells] at hcy
         rw [← hnp, ← hnb] at hcy
         rw [← hnp] at hm3
         rw [← hnb] at hcall
         have hnpc : (np : Int) ≤ (pc : Int) := by have h1 := hro.2.1; dsimp only at h1; omega
         have hpcb : (pc : Int) ≤ 9223372036854775807 := by have h1 := hro.2.2.1; dsimp only at h1; omega
         obtain ⟨d0, d1, d2⟩ := CellsAt.c3 hcy
         have i1 : (i : Int) < (c' : Int) := by omega
         have hab2 := cell_lt d0
         have z1 : (yn.size : Int) ≤ 140737488355327 := by omega
         have z2 : (np : Int) ≤ 140737488355327 := by omega
         have hbp := Blk.new wr 64 #[.string yn, .slice pA np pc, .slice bA nb bc]
         have hBp := below_and hB6 ((Below.refl _ wr).alloc (Nat.le_refl _) (.cells #[.string yn, .slice pA np pc, .slice bA nb bc] 64))
         replace hyn := Lib.hid hyn
         replace hyl := Lib.hid hyl
         replace hy := Lib.hid hy
         replace hr := Lib.hid hr
         replace hm2 := Lib.hid hm2
         replace hcall := Lib.hid hcall
         replace hro := Lib.hid hro
         replace hnp := Lib.hid hnp
         replace hnb := Lib.hid hnb
         replace hbp := Lib.hid hbp
         replace hBp := Lib.hid hBp
         clear hcy hB6
         go_upto_region 19 with (fail)
         clear d0 d1 d2 hab2
         generalize wr.alloc (.cells #[.string yn, .slice pA np pc, .slice bA nb bc] 64) = V1 at *
         obtain ⟨gp, hgp⟩ : ∃ g, wr.heap.size = g := ⟨_, rfl⟩
         rw [hgp] at hbp ⊢
         replace hgp := Lib.hid hgp
         have hbq := Lib.hid (hbp.out.below ((Below.refl _ V1).drew) hbp.out.lt)
         have r1 : (r : Int) ≤ 2100000000000000000 := by omega
         obtain ⟨S, hSi, hSe⟩ : ∃ S : World → Prop, (∀ W, (W.cell? ⟨gp, 0, none⟩ = some (.string yn) ∧ W.cell? ⟨gp, 1, none⟩ = some (.slice pA np pc) ∧ W.cell? ⟨gp, 2, none⟩ = some (.slice bA nb bc)) → S W) ∧ (∀ W, S W → (W.cell? ⟨gp, 0, none⟩ = some (.string yn) ∧ W.cell? ⟨gp, 1, none⟩ = some (.slice pA np pc) ∧ W.cell? ⟨gp, 2, none⟩ = some (.slice bA nb bc))) := ⟨fun W => W.cell? ⟨gp, 0, none⟩ = some (.string yn) ∧ W.cell? ⟨gp, 1, none⟩ = some (.slice pA np pc) ∧ W.cell? ⟨gp, 2, none⟩ = some (.slice bA nb bc), fun _ h => h, fun _ h => h⟩
         have hS : S V1.drew := hSi _ ⟨hbp.out.cell 0, hbp.out.cell 1, hbp.out.cell 2⟩
         replace hSi := Lib.hid hSi
         replace hSe := Lib.hid hSe
         refine wp_region_held (S := S) (by kernel_rfl) ?_
         change wpAnyH _ _ _ _ _ _ _ _ (World.drew _)
         refine takeH 0 (v := ?_) rfl (by kernel_rfl) (by kernel_rfl) (by kernel_rfl) (fun _ _ _ h => h) (by rfl) hS ?_ ?_
         rotate_left
         ·(intro wz hSw; obtain ⟨z0, z1, z2⟩ := hSe.out _ hSw; go_simp; try with_reducible rfl)
         try simp only [Act.put, List.setIfInBounds_toArray, List.set_cons_zero, List.set_cons_succ]
         refine takeH 1 (v := ?_) rfl (by kernel_rfl) (by kernel_rfl) (by kernel_rfl) (fun _ _ _ h => h) (by rfl) hS ?_ ?_
         rotate_left
         ·(intro wz hSw; obtain ⟨z0, z1, z2⟩ := hSe.out _ hSw; go_simp; try with_reducible rfl)
         try simp only [Act.put, List.setIfInBounds_toArray, List.set_cons_zero, List.set_cons_succ]
         refine takeH 4 (v := ?_) rfl (by kernel_rfl) (by kernel_rfl) (by kernel_rfl) (fun _ _ _ h => h) (by rfl) hS ?_ ?_
         rotate_left
         ·(intro wz hSw; obtain ⟨z0, z1, z2⟩ := hSe.out _ hSw; go_simp; try with_reducible rfl)
         try simp only [Act.put, List.setIfInBounds_toArray, List.set_cons_zero, List.set_cons_succ]
         refine takeH 8 (v := ?_) rfl (by kernel_rfl) (by kernel_rfl) (by kernel_rfl) (fun _ _ _ h => h) (by rfl) hS ?_ ?_
         rotate_left
         ·(intro wz hSw; obtain ⟨z0, z1, z2⟩ := hSe.out _ hSw; go_simp; try with_reducible rfl)
         try simp only [Act.put, List.setIfInBounds_toArray, List.set_cons_zero, List.set_cons_succ]
         refine takeH 10 (v := ?_) rfl (by kernel_rfl) (by kernel_rfl) (by kernel_rfl) (fun _ _ _ h => h) (by rfl) hS ?_ ?_
         rotate_left
         ·(intro wz hSw; obtain ⟨z0, z1, z2⟩ := hSe.out _ hSw; go_simp; try with_reducible rfl)
         try simp only [Act.put, List.setIfInBounds_toArray, List.set_cons_zero, List.set_cons_succ]
         refine takeH 2 (v := ?_) rfl (by kernel_rfl) (by kernel_rfl) (by kernel_rfl) (fun _ _ _ h => h) (by rfl) hS ?_ ?_
         rotate_left
         ·(intro wz hSw; obtain ⟨z0, z1, z2⟩ := hSe.out _ hSw; go_simp; try with_reducible rfl)
         try simp only [Act.put, List.setIfInBounds_toArray, List.set_cons_zero, List.set_cons_succ]
         refine takeH 3 (v := .int .i64 yn.size) rfl (by kernel_rfl) (by kernel_rfl) (by kernel_rfl) (fun _ _ _ h => h) (by rfl) hS ?_ ?_
         ·(intro wz hSw; obtain ⟨z0, z1, z2⟩ := hSe.out _ hSw; go_simp)
         try simp only [Act.put, List.setIfInBounds_toArray, List.set_cons_zero, List.set_cons_succ]
         refine takeH 5 (v := ?_) rfl (by kernel_rfl) (by kernel_rfl) (by kernel_rfl) (fun _ _ _ h => h) (by rfl) hS ?_ ?_
         rotate_left
         ·(intro wz hSw; obtain ⟨z0, z1, z2⟩ := hSe.out _ hSw; go_simp; try with_reducible rfl)
         try simp only [Act.put, List.setIfInBounds_toArray, List.set_cons_zero, List.set_cons_succ]
         refine takeH 6 (v := .int .i64 np) rfl (by kernel_rfl) (by kernel_rfl) (by kernel_rfl) (fun _ _ _ h => h) (by rfl) hS ?_ ?_
         ·(intro wz hSw; obtain ⟨z0, z1, z2⟩ := hSe.out _ hSw; go_simp)
         try simp only [Act.put, List.setIfInBounds_toArray, List.set_cons_zero, List.set_cons_succ]
         refine takeH 7 (v := .int .i64 ((yn.size : Int) + np)) rfl (by kernel_rfl) (by kernel_rfl) (by kernel_rfl) (fun _ _ _ h => h) (by rfl) hS ?_ ?_
         ·(intro wz hSw; obtain ⟨z0, z1, z2⟩ := hSe.out _ hSw; go_simp; try exact i64_idF (by omega) (by omega))
         try simp only [Act.put, List.setIfInBounds_toArray, List.set_cons_zero, List.set_cons_succ]
         refine takeH 9 (v := ?_) rfl (by kernel_rfl) (by kernel_rfl) (by kernel_rfl) (fun _ _ _ h => h) (by rfl) hS ?_ ?_
         rotate_left
         ·(intro wz hSw; obtain ⟨z0, z1, z2⟩ := hSe.out _ hSw; go_simp; try with_reducible rfl)
         try simp only [Act.put, List.setIfInBounds_toArray, List.set_cons_zero, List.set_cons_succ]
         refine callH 11 rfl (by kernel_rfl) (fun K hK => ?_)
         go_simp
         have hBq := hBp.out.drew
         refine (hcall.out _ hBq).mono ?_
         rintro e V2 ⟨⟨f1, rfl, hf1, hf1b⟩, hC1⟩
         have hbq2 := Lib.hid (hbq.out.below hC1 hbq.out.lt)
         have hBr := below_and hBq hC1
         have f1i : (f1 : Int) ≤ 300000000000000000 := by omega
         clear hC1 hBq
         refine hK.out _ _ (hSi.out _ ⟨hbq2.out.cell 0, hbq2.out.cell 1, hbq2.out.cell 2⟩) (fun hSn => ?_)
         clear hK K hS
         have hS := hSn
         clear hSn
         refine takeH 12 (v := .int .i64 ((yn.size : Int) + np + f1)) rfl (by kernel_rfl) (by kernel_rfl) (by kernel_rfl) (fun _ _ _ h => h) (by rfl) hS ?_ ?_
         ·(intro wz hSw; obtain ⟨z0, z1, z2⟩ := hSe.out _ hSw; go_simp; try exact i64_idF (by omega) (by omega))
         try simp only [Act.put, List.setIfInBounds_toArray, List.set_cons_zero, List.set_cons_succ]
         refine takeH 13 (v := .int .i64 ((r : Int) + ((yn.size : Int) + np + f1))) rfl (by kernel_rfl) (by kernel_rfl) (by kernel_rfl) (fun _ _ _ h => h) (by rfl) hS ?_ ?_
         ·(intro wz hSw; obtain ⟨z0, z1, z2⟩ := hSe.out _ hSw; go_simp; try exact i64_idF (by omega) (by omega))
         try simp only [Act.put, List.setIfInBounds_toArray, List.set_cons_zero, List.set_cons_succ]
         refine takeH 14 (v := ?_) rfl (by kernel_rfl) (by kernel_rfl) (by kernel_rfl) (fun _ _ _ h => h) (by rfl) hS ?_ ?_
         rotate_left
         ·(intro wz hSw; obtain ⟨z0, z1, z2⟩ := hSe.out _ hSw; go_simp; try with_reducible rfl)
         try simp only [Act.put, List.setIfInBounds_toArray, List.set_cons_zero, List.set_cons_succ]
         refine wpAnyH_done (by kernel_rfl) ?_ _
         clear hSi hSe hS
         rename World => V3
         obtain ⟨c2', hc2⟩ : ∃ c, c = min np most := ⟨_, rfl⟩
         have cb2 : (c2' : Int) ≤ (most : Int) := by omega
         obtain ⟨r2, hr2⟩ : ∃ x, x = r + (yn.size + np + f1) := ⟨_, rfl⟩
         have hr2i : (r : Int) + ((yn.size : Int) + np + f1) = (r2 : Int) := by omega
         have r2b : (r2 : Int) ≤ 2500000000000000000 := by omega
         have hnt := htn.out ps hm2.out
         have w1 := hbq2.out.cell 1
         simp only [List.getElem?_toArray, List.getElem?_cons_zero, List.getElem?_cons_succ] at w1
         have l6 := hbq2.out.lt
         replace hr2 := Lib.hid hr2
         replace hc2 := Lib.hid hc2
         replace hnt := Lib.hid hnt
         replace hBr := Lib.hid hBr
         replace hf1 := Lib.hid hf1
         clear hbq hbp hBp hf1b hcall
         rw [hr2i]
         replace hr2i := Lib.hid hr2i
         go_upto_region 20 with (fail)
         go_cut [120, 121, 122] (fun v120 v121 v122 wx => v120 = .slice pA c2' pc ∧ v121 = .int .i64 c2' ∧ v122 = .int .i64 0 ∧ wx = V3)
         case first =>
          by_cases h2 : np ≤ most
          ·obtain rfl : c2' = np := by have := hc2.out; omega
           have h3 : (c2' : Int) ≤ (most : Int) := by omega
           go_wp2_with fail
           go_meet
           exact ⟨rfl, rfl, rfl, rfl⟩
          ·obtain rfl : c2' = most := by have := hc2.out; omega
           have h3 : ¬ (np : Int) ≤ (c2' : Int) := by omega
           have h4 : (c2' : Int) ≤ (np : Int) := by omega
           go_wp2_with fail
           go_meet
           exact ⟨rfl, rfl, rfl, rfl⟩
         case rest =>
          obtain ⟨rfl, rfl, rfl, hwc⟩ := hcut
          subst hwc
          rename World => V3
          clear w1 l6
          go_wp2_with fail
          go_loopw [5, 122] (fun v5 v122 wr => ∃ (k s : Nat), v122 = .int .i64 k ∧ v5 = .int .i64 s ∧ k ≤ c2' ∧ s = r2 + wtN (ps.take k) ∧ Below V3.heap.size V3 wr) (fun _ v122 _ => c2' - (intOf v122).toNat)
          case atStart => exact ⟨0, r2, rfl, rfl, Nat.zero_le _, by simp [wtN], Below.refl _ _⟩
          case round =>
           obtain ⟨k, s, rfl, rfl, hk, hs, hB7⟩ := hrel
           have k0 : 0 ≤ (k : Int) := by omega
           have hsb : s ≤ r2 + t := by have := hnt.out k (by omega); omega
           have si : (s : Int) ≤ 2900000000000000000 := by omega
           by_cases hkl : k < c2'
           ·have hz : ps[k]? = some (ps[k]'(by have := hnp.out; have := hc2.out; omega)) := List.getElem?_eq_getElem (by have := hnp.out; have := hc2.out; omega)
            generalize ps[k]'(by have := hnp.out; have := hc2.out; omega) = z at hz
            obtain ⟨ad3, hA3, _, hcz⟩ := row_take (hro.out.all (keeps_below (below_and hB05.out (below_and hBr.out hB7)))) hz
            have hzm := hm2.out z (List.mem_of_getElem? hz)
            have hzn := wtN_take hz
            obtain ⟨zn, zw, zs⟩ := z
            obtain ⟨d0, d1, d2⟩ := CellsAt.c3 hcz
            dsimp only at hA3 hzm hzn
            subst hA3
            have kk1 : (k : Int) < (c2' : Int) := by omega
            have hab2 := cell_lt d0
            have z3 : (zn.size : Int) ≤ 140737488355327 := by omega
            have hB8 := hB7.alloc hB7.size (.cells #[.string zn, .int .i64 zw, .int .i64 zs] 60)
            replace hzn := Lib.hid hzn
            replace hz := Lib.hid hz
            replace hB8 := Lib.hid hB8
            replace hs := Lib.hid hs
            replace hzm := Lib.hid hzm
            clear hcz
            go_wp2_with fail
            go_roundw
            case rel => exact ⟨k + 1, s + zn.size, by go_num, by go_num, by omega, by have h1 := hzn.out; have h2 := hs.out; omega, hB8.out⟩
            case measure => simp [intOf]; omega
           ·obtain rfl : k = c2' := by omega
            have hex : (s ≤ most ∨ W ≤ most) → s = P2 + wtPr (procs.take (i + 1)) := fun h => by
             have h1 := hyn.out
             have h2 := hyl.out
             have h3 := hW.out
             have h4 := hP1.out
             have h5 := hP2.out
             have h6 := hr2.out
             have h7 := hr.out (by omega)
             have h8 := hf1.out (by omega)
             have h9 := hc2.out
             have h10 := hnp.out
             rw [List.take_of_length_le (by omega)] at hs
             omega
            have hWs : W ≤ most → s ≤ W := fun h => by
             have h1 := hex (.inr h)
             have h2 := hyl.out
             have h3 := hW.out
             have h4 := hP1.out
             have h5 := hP2.out
             omega
            replace hs := Lib.hid hs
            replace hex := Lib.hid hex
            by_cases hgt : most < s
            ·have hg : (most : Int) < (s : Int) := by omega
             have hWn : ¬ W ≤ most := fun h => by have := hWs h; omega
             replace hWn := Lib.hid hWn
             clear hWs
             go_wp2_with fail
             go_ret
             exact ⟨ret_b (decide_eq_false hWn.out).symm, below_and hB05.out (below_and hBr.out hB7)⟩
            ·have hg : ¬ (most : Int) < (s : Int) := by omega
             have hBs := Lib.hid (below_and hBr.out hB7)
             clear hWs
             go_wp2_with fail
             go_roundw
             case rel => exact ⟨i + 1, s, by go_num, rfl, by omega, hex.out, by omega, hBs.out⟩
             case measure => simp [intOf]; omega
        ·obtain rfl : i = c' := by omega
         have hfin : (r ≤ most ∨ W ≤ most) → r + wtL work + wtL recov = W := fun h => by
          have h1 := hr h
          have h3 := hW.out
          have h4 := hP1.out
          have h5 := hP2.out
          have h6 := hc'.out
          have h7 := hn8.out
          rw [List.take_of_length_le (by omega)] at h1
          omega
         obtain ⟨W6, hW6⟩ : ∃ x, x = wr := ⟨_, rfl⟩
         subst hW6
         have hbd6 := hbd5.out.below hB6 hbd5.out.lt
         have hB06 := Lib.hid (below_and hB05.out hB6)
         have hbd7 := Lib.hid (hbd6.below ((Below.refl _ W6).drew) hbd6.lt)
         replace hbd6 := Lib.hid hbd6
         have r1 : (r : Int) ≤ 2100000000000000000 := by omega
         clear hB6 hr hB05 hbd5
         go_upto_region 28 with (fail)
         replace hfin := Lib.hid hfin
         obtain ⟨S, hSi, hSe⟩ : ∃ S : World → Prop, (∀ W, (W.cell? ⟨g, 14, none⟩ = some (.slice A9 n9 c9) ∧ W.cell? ⟨g, 15, none⟩ = some (.slice A10 n10 c10)) → S W) ∧ (∀ W, S W → (W.cell? ⟨g, 14, none⟩ = some (.slice A9 n9 c9) ∧ W.cell? ⟨g, 15, none⟩ = some (.slice A10 n10 c10))) := ⟨fun W => W.cell? ⟨g, 14, none⟩ = some (.slice A9 n9 c9) ∧ W.cell? ⟨g, 15, none⟩ = some (.slice A10 n10 c10), fun _ h => h, fun _ h => h⟩
         have hS : S W6.drew := hSi _ ⟨hbd6.out.cell 14, hbd6.out.cell 15⟩
         replace hSi := Lib.hid hSi
         replace hSe := Lib.hid hSe
         refine wp_region_held (S := S) (by kernel_rfl) ?_
         change wpAnyH _ _ _ _ _ _ _ _ (World.drew _)
         refine takeH 0 (v := ?_) rfl (by kernel_rfl) (by kernel_rfl) (by kernel_rfl) (fun _ _ _ h => h) (by rfl) hS ?_ ?_
         rotate_left
         ·(intro wz hSw; obtain ⟨z0, z1⟩ := hSe.out _ hSw; go_simp; try with_reducible rfl)
         try simp only [Act.put, List.setIfInBounds_toArray, List.set_cons_zero, List.set_cons_succ]
         refine takeH 1 (v := ?_) rfl (by kernel_rfl) (by kernel_rfl) (by kernel_rfl) (fun _ _ _ h => h) (by rfl) hS ?_ ?_
         rotate_left
         ·(intro wz hSw; obtain ⟨z0, z1⟩ := hSe.out _ hSw; go_simp; try with_reducible rfl)
         try simp only [Act.put, List.setIfInBounds_toArray, List.set_cons_zero, List.set_cons_succ]
         refine takeH 3 (v := ?_) rfl (by kernel_rfl) (by kernel_rfl) (by kernel_rfl) (fun _ _ _ h => h) (by rfl) hS ?_ ?_
         rotate_left
         ·(intro wz hSw; obtain ⟨z0, z1⟩ := hSe.out _ hSw; go_simp; try with_reducible rfl)
         try simp only [Act.put, List.setIfInBounds_toArray, List.set_cons_zero, List.set_cons_succ]
         refine takeH 6 (v := ?_) rfl (by kernel_rfl) (by kernel_rfl) (by kernel_rfl) (fun _ _ _ h => h) (by rfl) hS ?_ ?_
         rotate_left
         ·(intro wz hSw; obtain ⟨z0, z1⟩ := hSe.out _ hSw; go_simp; try with_reducible rfl)
         try simp only [Act.put, List.setIfInBounds_toArray, List.set_cons_zero, List.set_cons_succ]
         refine takeH 8 (v := ?_) rfl (by kernel_rfl) (by kernel_rfl) (by kernel_rfl) (fun _ _ _ h => h) (by rfl) hS ?_ ?_
         rotate_left
         ·(intro wz hSw; obtain ⟨z0, z1⟩ := hSe.out _ hSw; go_simp; try with_reducible rfl)
         try simp only [Act.put, List.setIfInBounds_toArray, List.set_cons_zero, List.set_cons_succ]
         refine takeH 11 (v := ?_) rfl (by kernel_rfl) (by kernel_rfl) (by kernel_rfl) (fun _ _ _ h => h) (by rfl) hS ?_ ?_
         rotate_left
         ·(intro wz hSw; obtain ⟨z0, z1⟩ := hSe.out _ hSw; go_simp; try with_reducible rfl)
         try simp only [Act.put, List.setIfInBounds_toArray, List.set_cons_zero, List.set_cons_succ]
         refine takeH 2 (v := .slice A9 n9 c9) rfl (by kernel_rfl) (by kernel_rfl) (by kernel_rfl) (fun _ _ _ h => h) (by rfl) hS ?_ ?_
         ·(intro wz hSw; obtain ⟨z0, z1⟩ := hSe.out _ hSw; go_simp)
         try simp only [Act.put, List.setIfInBounds_toArray, List.set_cons_zero, List.set_cons_succ]
         refine takeH 7 (v := .slice A10 n10 c10) rfl (by kernel_rfl) (by kernel_rfl) (by kernel_rfl) (fun _ _ _ h => h) (by rfl) hS ?_ ?_
         ·(intro wz hSw; obtain ⟨z0, z1⟩ := hSe.out _ hSw; go_simp)
         try simp only [Act.put, List.setIfInBounds_toArray, List.set_cons_zero, List.set_cons_succ]
         refine callH 4 rfl (by kernel_rfl) (fun K hK => ?_)
         go_simp
         have hB1 := hB06.out.drew
         refine (hcw.out _ hB1).mono ?_
         rintro e U1 ⟨⟨fw, rfl, hfw, hfwb⟩, hC1⟩
         have hbd8 := Lib.hid (hbd7.out.below hC1 hbd7.out.lt)
         have hB07 := below_and hB1 hC1
         have fwi : (fw : Int) ≤ 300000000000000000 := by omega
         clear hC1 hB1
         refine hK.out _ _ (hSi.out _ ⟨hbd8.out.cell 14, hbd8.out.cell 15⟩) (fun hSn => ?_)
         clear hK K hS
         have hS := hSn
         clear hSn
         refine takeH 5 (v := .int .i64 ((r : Int) + fw)) rfl (by kernel_rfl) (by kernel_rfl) (by kernel_rfl) (fun _ _ _ h => h) (by rfl) hS ?_ ?_
         ·(intro wz hSw; obtain ⟨z0, z1⟩ := hSe.out _ hSw; go_simp; try exact i64_idF (by omega) (by omega))
         try simp only [Act.put, List.setIfInBounds_toArray, List.set_cons_zero, List.set_cons_succ]
         refine callH 9 rfl (by kernel_rfl) (fun K hK => ?_)
         go_simp
         refine (hcv.out _ hB07).mono ?_
         rintro e U2 ⟨⟨fv, rfl, hfv, hfvb⟩, hC2⟩
         have hbd9 := Lib.hid (hbd8.out.below hC2 hbd8.out.lt)
         have hB08 := below_and hB07 hC2
         have fvi : (fv : Int) ≤ 300000000000000000 := by omega
         obtain ⟨Z, hZ⟩ : ∃ Z, decide ((r : Int) + fw + fv ≤ (most : Int)) = Z := ⟨_, rfl⟩
         have hZW : Z = decide (W ≤ most) := by
          rw [← hZ]
          refine decide_eq_decide.2 ⟨fun h => ?_, fun h => ?_⟩
          ·have h1 := hfin.out (by omega)
           have h2 := hfw (by omega)
           have h3 := hfv (by omega)
           omega
          ·have h1 := hfin.out (by omega)
           have h2 := hfw (by omega)
           have h3 := hfv (by omega)
           omega
         replace hZW := Lib.hid hZW
         clear hC2 hB07 hfw hfv
         refine hK.out _ _ (hSi.out _ ⟨hbd9.out.cell 14, hbd9.out.cell 15⟩) (fun hSn => ?_)
         clear hK K hS
         have hS := hSn
         clear hSn
         refine takeH 10 (v := .int .i64 ((r : Int) + fw + fv)) rfl (by kernel_rfl) (by kernel_rfl) (by kernel_rfl) (fun _ _ _ h => h) (by rfl) hS ?_ ?_
         ·(intro wz hSw; obtain ⟨z0, z1⟩ := hSe.out _ hSw; go_simp; try exact i64_idF (by omega) (by omega))
         try simp only [Act.put, List.setIfInBounds_toArray, List.set_cons_zero, List.set_cons_succ]
         refine takeH 12 (v := .bool Z) rfl (by kernel_rfl) (by kernel_rfl) (by kernel_rfl) (fun _ _ _ h => h) (by rfl) hS ?_ ?_
         ·(intro wz hSw; obtain ⟨z0, z1⟩ := hSe.out _ hSw; go_simp)
         try simp only [Act.put, List.setIfInBounds_toArray, List.set_cons_zero, List.set_cons_succ]
         refine takeH 13 (v := ?_) rfl (by kernel_rfl) (by kernel_rfl) (by kernel_rfl) (fun _ _ _ h => h) (by rfl) hS ?_ ?_
         rotate_left
         ·(intro wz hSw; obtain ⟨z0, z1⟩ := hSe.out _ hSw; go_simp; try with_reducible rfl)
         try simp only [Act.put, List.setIfInBounds_toArray, List.set_cons_zero, List.set_cons_succ]
         refine wpAnyH_done (by kernel_rfl) ?_ _
         clear hSi hSe hS
         go_wp2_with fail
         go_ret
         exact ⟨ret_b hZW.out, hB08⟩
end Go.Proofs.YtnldbplphgfpeaaGreat
