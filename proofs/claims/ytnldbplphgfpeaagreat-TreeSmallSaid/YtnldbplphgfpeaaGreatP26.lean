/- Lemmas for salvor/salvorlaw29.TreeSmall (part 26); no condition. -/
import Derived.Test.YtnldbplphgfpeaaGreatP20
import Derived.Test.YtnldbplphgfpeaaGreatP22
import Derived.Test.YtnldbplphgfpeaaGreatP23
import Derived.Test.YtnldbplphgfpeaaGreatP25
import Derived.Test.YtnldbplphgfpeaaGreatP11
import Derived.Test.YtnldbplphgfpeaaGreatP18
import Derived.Test.YtnldbplphgfpeaaGreatP21
import Derived.Test.YtnldbplphgfpeaaGreatP19
import Derived.Test.YtnldbplphgfpeaaGreatP24
namespace Go.Proofs.YtnldbplphgfpeaaGreat
open Go Go.RowKit Go.Shelf
set_option linter.unusedVariables false
set_option linter.unusedSimpArgs false
set_option maxHeartbeats 16000000
structure Bx2 (g1 g2 : Nat) (cp cq : Array Value) (lo : Nat) (p q : Pg Loc) (W : World) : Prop where
 b1 : Blk W g1 35 cp
 b2 : Blk W g2 75 cq
 p : p.ok eT W
 q : q.ok eR W
theorem Pg.ok.new {E : Enc} {W W' : World} {p : Pg Loc} (h : p.ok E W) (hb : Below W.heap.size W W') : p.ok E W' := h.below hb
theorem Bx2.new {g1 g2 : Nat} {cp cq : Array Value} {lo : Nat} {p q : Pg Loc} {W W' : World} (h : Bx2 g1 g2 cp cq lo p q W) (hb : Below W.heap.size W W') : Bx2 g1 g2 cp cq lo p q W' :=
 ⟨h.b1.below hb h.b1.lt, h.b2.below hb h.b2.lt, h.p.new hb, h.q.new hb⟩
theorem cellsT_size (E : Enc) (p : Pg Loc) : (p.cells E).toArray.size = 22 := Pg.cells_len E p
set_option maxRecDepth 100000 in
theorem alike_ok (p q : Pg Loc) (w : World) (hp : p.ok eT w) (hr : p.rng) (hw : p.wt ≤ 1500) (hq : q.ok eR w) : Calls Tryz.prog 57 #[aggP p, aggRP q] w fun r w' => r = .returned (.bool (p.same q)) ∧ Below w.heap.size w w' := by
 obtain ⟨R, hR⟩ : ∃ R, R = p.same q := ⟨_, rfl⟩
 rw [← hR]
 unfold aggP aggRP
 have hcp := cellsT_size eT p
 have hcq := cellsT_size eR q
 have hsz := p.sz_wt
 have hF : ∀ W, p.ok eT W → Calls Tryz.prog 54 #[aggP p, .int .i64 60000] W fun r w' => r = .returned (.bool true) ∧ Below W.heap.size W w' := fun W h =>
  (few_ok p 60000 1500 W (by omega) (by omega) (by omega) h (Pg.fit_wt hw)).mono fun r w' ⟨h1, h2⟩ => ⟨by rw [h1, decide_eq_true (by omega)], h2⟩
 have hT : ∀ W, p.ok eT W → Calls Tryz.prog 55 #[aggP p] W fun r w' => (∃ L : Pg Loc, r = .returned (aggRP L) ∧ L.plain = p.plain ∧ L.ok eR w' ∧ ∀ b ∈ L.blks, W.heap.size ≤ b) ∧ Below W.heap.size W w' := fun W h => theirP p W h hr (by omega)
 unfold aggP at hF hT
 obtain ⟨cp, hcpe⟩ : ∃ c, c = (p.cells eT).toArray := ⟨_, rfl⟩
 obtain ⟨cq, hcqe⟩ : ∃ c, c = (q.cells eR).toArray := ⟨_, rfl⟩
 rw [← hcpe] at hF hT hcp ⊢
 rw [← hcqe] at hcq ⊢
 have hB := ((Below.refl _ w).alloc (Nat.le_refl _) (.cells cp 35)).alloc (by simp) (.cells cq 75)
 have hb1 := (Blk.new w 35 cp).alloc (.cells cq 75)
 have hb2 := Blk.new (w.alloc (.cells cp 35)) 75 cq
 rw [World.size_alloc] at hb2
 have hS0 : Bx2 w.heap.size (w.heap.size + 1) cp cq 0 p q ((w.alloc (.cells cp 35)).alloc (.cells cq 75)).drew := Bx2.new ⟨hb1, hb2, hp.new hB, hq.new hB⟩ ((Below.refl _ _).drew)
 have hBd := hB.drew
 replace hS0 := Lib.hid hS0
 replace hBd := Lib.hid hBd
 replace hF := Lib.hid hF
 replace hT := Lib.hid hT
 replace hR := Lib.hid hR
 replace hcpe := Lib.hid hcpe
 replace hcqe := Lib.hid hcqe
 clear hB hb1 hb2 hp hq hw hsz
 go_enter Tryz.func57, Tryz.ntmps57
 go_upto_region 1 with (fail)
 have hS := hS0.out
 have hB := hBd.out
 clear hS0 hBd
 refine wp_region_held (S := Bx2 w.heap.size (w.heap.size + 1) cp cq 0 p q) (by kernel_rfl) ?_
 change wpAnyH _ _ _ _ _ _ _ _ (World.drew _)
 generalize ((w.alloc (.cells cp 35)).alloc (.cells cq 75)).drew = U0 at *
 refine takeH 0 (v := .agg cp) rfl (by kernel_rfl) (by kernel_rfl) (by kernel_rfl) (fun _ _ _ h => h) (by rfl) hS (load_rowA (S := Bx2 w.heap.size (w.heap.size + 1) cp cq 0 p q) 35 (.tmp 2) rfl w.heap.size rfl cp _ (fun W h => h.b1) Tryz.underlying35 rfl (by rw [hcp]; kernel_rfl)) ?_
 try simp only [Act.put, List.setIfInBounds_toArray, List.set_cons_zero, List.set_cons_succ]
 refine callH 1 rfl (by kernel_rfl) (fun K hK => ?_)
 go_simp
 refine (hF.out _ hS.p).mono ?_
 rintro e U1 ⟨rfl, hB1⟩
 have hB2 := below_and hB hB1
 refine hK.out _ _ (hS.new hB1) (fun hSn => ?_)
 clear hK K hS
 have hS := hSn
 clear hSn
 refine takeH 2 (v := ?_) rfl (by kernel_rfl) (by kernel_rfl) (by kernel_rfl) (fun _ _ _ h => h) (by rfl) hS ?_ ?_
 rotate_left
 ·(intro wz hSw; clear hSw; go_simp; try with_reducible rfl)
 try simp only [Act.put, List.setIfInBounds_toArray, List.set_cons_zero, List.set_cons_succ]
 refine takeH 3 (v := .agg cp) rfl (by kernel_rfl) (by kernel_rfl) (by kernel_rfl) (fun _ _ _ h => h) (by rfl) hS (load_rowA (S := Bx2 w.heap.size (w.heap.size + 1) cp cq 0 p q) 35 (.tmp 2) rfl w.heap.size rfl cp _ (fun W h => h.b1) Tryz.underlying35 rfl (by rw [hcp]; kernel_rfl)) ?_
 try simp only [Act.put, List.setIfInBounds_toArray, List.set_cons_zero, List.set_cons_succ]
 refine takeH 5 (v := .agg cq) rfl (by kernel_rfl) (by kernel_rfl) (by kernel_rfl) (fun _ _ _ h => h) (by rfl) hS (load_rowA (S := Bx2 w.heap.size (w.heap.size + 1) cp cq 0 p q) 75 (.tmp 3) rfl (w.heap.size + 1) rfl cq _ (fun W h => h.b2) Tryz.underlying75 rfl (by rw [hcq]; kernel_rfl)) ?_
 try simp only [Act.put, List.setIfInBounds_toArray, List.set_cons_zero, List.set_cons_succ]
 refine callH 4 rfl (by kernel_rfl) (fun K hK => ?_)
 go_simp
 refine (hT.out _ hS.p).mono ?_
 rintro e U2 ⟨⟨L, rfl, hLp, hLo, hLb⟩, hB3⟩
 have hB4 := below_and hB2 hB3
 refine hK.out _ _ (hS.new hB3) (fun hSn => ?_)
 clear hK K hS
 have hS := hSn
 clear hSn
 have hc := rsameP L q U2 hLo hS.q
 unfold aggRP at hc
 rw [← hcqe.out] at hc
 unfold aggRP
 replace hc := Lib.hid hc
 obtain ⟨cL, hcL⟩ : ∃ c, c = (L.cells eR).toArray := ⟨_, rfl⟩
 rw [← hcL] at hc ⊢
 replace hcL := Lib.hid hcL
 refine callH 6 rfl (by kernel_rfl) (fun K hK => ?_)
 go_simp
 refine hc.out.mono ?_
 rintro e U3 ⟨rfl, hB5⟩
 have hB6 := below_and hB4 hB5
 refine hK.out _ _ (hS.new hB5) (fun hSn => ?_)
 clear hK K hS
 have hS := hSn
 clear hSn
 refine takeH 7 (v := ?_) rfl (by kernel_rfl) (by kernel_rfl) (by kernel_rfl) (fun _ _ _ h => h) (by rfl) hS ?_ ?_
 rotate_left
 ·(intro wz hSw; clear hSw; go_simp; try with_reducible rfl)
 try simp only [Act.put, List.setIfInBounds_toArray, List.set_cons_zero, List.set_cons_succ]
 refine takeH 8 (v := ?_) rfl (by kernel_rfl) (by kernel_rfl) (by kernel_rfl) (fun _ _ _ h => h) (by rfl) hS ?_ ?_
 rotate_left
 ·(intro wz hSw; clear hSw; go_simp; try with_reducible rfl)
 try simp only [Act.put, List.setIfInBounds_toArray, List.set_cons_zero, List.set_cons_succ]
 refine wpAnyH_done (by kernel_rfl) ?_ _
 clear hS
 have hRL : L.same q = R := by
  rw [hR.out, Bool.eq_iff_iff, Pg.same_iff, Pg.same_iff, hLp]
 replace hRL := Lib.hid hRL
 go_wp2_with fail
 go_ret
 exact ⟨ret_b hRL.out, hB6⟩
structure Tb (g1 g2 : Nat) (ca cb : Array Value) (a b : Pg Loc) (W : World) : Prop where
 b1 : Blk W g1 35 ca
 b2 : Blk W g2 35 cb
 a : a.ok eT W
 b : b.ok eT W
theorem Tb.new {g1 g2 : Nat} {ca cb : Array Value} {a b : Pg Loc} {W W' : World} (h : Tb g1 g2 ca cb a b W) (hb : Below W.heap.size W W') : Tb g1 g2 ca cb a b W' :=
 ⟨h.b1.below hb h.b1.lt, h.b2.below hb h.b2.lt, h.a.below hb, h.b.below hb⟩
theorem cells_oneE (E : Enc) (p : Pg Loc) : (p.cells E).toArray.all (·.oneCell') = true := by
 refine all_oneCell_toArray fun u hu => ?_
 obtain ⟨bl, wd, li, ins, lg, gh, lv, va, la, ar, req, ln, inits, lpr, procs, lw, work, lr, recov, inv⟩ := p
 simp only [Pg.cells, List.mem_cons, List.mem_append] at hu
 rcases hu with rfl | rfl | rfl | rfl | rfl | rfl | hu | rfl | rfl | rfl | rfl | hu
 ·rfl
 ·rfl
 ·rfl
 ·rfl
 ·rfl
 ·rfl
 ·exact req.cells_one E u hu
 ·rfl
 ·rfl
 ·rfl
 ·rfl
 ·exact inv.cells_one E u hu
theorem Pg.ok.onlyG {E : Enc} {W W' : World} {p : Pg Loc} {fp : List Nat} (h : p.ok E W) (ho : Only fp W W') (hn : ∀ b ∈ p.blks, b ∉ fp) : p.ok E W' :=
 h.keep (S := fun b => b ∈ p.blks) (fun q u hq hc => by
  have h1 := ho.block q.block (cell_lt hc) (hn _ hq)
  exact (World.cell?_of_block h1).trans hc) fun b hb => hb
structure Tc (g1 g2 g5 g6 g7 : Nat) (ca cb cx cy cc : Array Value) (a b x y c : Pg Loc) (base : Nat) (W : World) : Prop where
 t : Tb g1 g2 ca cb a b W
 b5 : Blk W g5 75 cx
 b6 : Blk W g6 75 cy
 b7 : Blk W g7 35 cc
 x : x.ok eR W
 y : y.ok eR W
 c : c.own W base
theorem Tc.new {g1 g2 g5 g6 g7 : Nat} {ca cb cx cy cc : Array Value} {a b x y c : Pg Loc} {base : Nat} {W W' : World} (h : Tc g1 g2 g5 g6 g7 ca cb cx cy cc a b x y c base W) (hb : Below W.heap.size W W') : Tc g1 g2 g5 g6 g7 ca cb cx cy cc a b x y c base W' :=
 ⟨h.t.new hb, h.b5.below hb h.b5.lt, h.b6.below hb h.b6.lt, h.b7.below hb h.b7.lt, h.x.below hb, h.y.below hb, (keep_pg _ c).new h.c hb⟩
theorem same_of {α β γ δ : Type} {p : Pg α} {q : Pg β} {p' : Pg γ} {q' : Pg δ} (h : p.plain = p'.plain) (k : q.plain = q'.plain) : p.same q = p'.same q' := by
 rw [Bool.eq_iff_iff, Pg.same_iff, Pg.same_iff, h, k]
theorem same_yes {α β : Type} {p : Pg α} {q : Pg β} (h : p.plain = q.plain) : p.same q = true := Pg.same_iff.2 h
def pgR (p : Pg Unit) (v : Value) (lo hi : Nat) (W : World) : Prop := ∃ L : Pg Loc, v = aggRP L ∧ L.plain = p ∧ L.ok eR W ∧ ∀ b ∈ L.blks, lo ≤ b ∧ b < hi
def bPg (i k : Nat) (p : Pg Unit) : BagOp := ⟨i, [], fun x lo hi W => pgR p (x k) lo hi W, fun _ _ _ _ _ _ hb ⟨e, h1, h2, h3, h4⟩ => ⟨e, h1, h2, h3.below hb, h4⟩⟩
set_option maxRecDepth 100000 in
theorem tells_ok (a b : Pg Loc) (w : World) (ha : a.ok eT w) (hb : b.ok eT w) (fa : a.fit reachBytes) (fb : b.fit reachBytes) (ra : a.rng) (rb : b.rng) :
  Calls Tryz.prog 5 #[aggP a, aggP b] w fun e w' => e = .returned (.bool true) ∧ Below w.heap.size w w' := by
 have hF : ∀ (p : Pg Loc), p.fit reachBytes → ∀ W, p.ok eT W → Calls Tryz.prog 54 #[aggP p, .int .i64 1500] W fun r w' => r = .returned (.bool (decide (p.wt ≤ 1500))) ∧ Below W.heap.size W w' := fun p hf W h => few_ok p 1500 reachBytes W (by omega) (by decide) (by decide) h hf
 have hFa := hF a fa
 have hFb := hF b fb
 clear hF
 have hca := cellsT_size eT a
 have hcb := cellsT_size eT b
 unfold aggP at hFa hFb
 unfold aggP
 obtain ⟨ca, hcae⟩ : ∃ c, c = (a.cells eT).toArray := ⟨_, rfl⟩
 obtain ⟨cb, hcbe⟩ : ∃ c, c = (b.cells eT).toArray := ⟨_, rfl⟩
 rw [← hcae] at hFa hca ⊢
 rw [← hcbe] at hFb hcb ⊢
 have hB := ((Below.refl _ w).alloc (Nat.le_refl _) (.cells ca 35)).alloc (by simp) (.cells cb 35)
 have hb1 := (Blk.new w 35 ca).alloc (.cells cb 35)
 have hb2 := Blk.new (w.alloc (.cells ca 35)) 35 cb
 rw [World.size_alloc] at hb2
 have hS : Tb w.heap.size (w.heap.size + 1) ca cb a b ((w.alloc (.cells ca 35)).alloc (.cells cb 35)) := ⟨hb1, hb2, ha.below hB, hb.below hB⟩
 have hsa := a.sz_wt
 have hsb := b.sz_wt
 replace hS := Lib.hid hS
 replace hB := Lib.hid hB
 replace hFa := Lib.hid hFa
 replace hFb := Lib.hid hFb
 replace hcae := Lib.hid hcae
 replace hcbe := Lib.hid hcbe
 replace hsa := Lib.hid hsa
 replace hsb := Lib.hid hsb
 replace ra := Lib.hid ra
 replace rb := Lib.hid rb
 clear hb1 hb2 ha hb fa fb
 go_enter Tryz.func5, Tryz.ntmps5
 go_upto_region 1 with (fail)
 generalize (w.alloc (.cells ca 35)).alloc (.cells cb 35) = W0 at *
 obtain ⟨g1, hg1⟩ : ∃ g, w.heap.size = g := ⟨_, rfl⟩
 obtain ⟨g2, hg2⟩ : ∃ g, w.heap.size + 1 = g := ⟨_, rfl⟩
 rw [hg2, hg1]
 rw [hg2, hg1] at hS
 replace hg1 := Lib.hid hg1
 replace hg2 := Lib.hid hg2
 have hS1 := hS.out
 have h1 := hS1.b1
 go_wp2_with (refine wpList_load_rowW 35 (.tmp 2) rfl (by rfl) g1 rfl 35 ca (0, 0) _ h1 Tryz.underlying35 rfl (by rw [hca]; kernel_rfl) ?_; refine Shut.out ?_)
 refine shut_mkP ?_
 try simp only [Act.put, List.setIfInBounds_toArray, List.set_cons_zero, List.set_cons_succ]
 clear h1
 obtain ⟨ba, hba⟩ : ∃ q, q = decide (a.wt ≤ 1500) := ⟨_, rfl⟩
 obtain ⟨bb, hbb⟩ : ∃ q, q = decide (b.wt ≤ 1500) := ⟨_, rfl⟩
 rw [← hba] at hFa
 rw [← hbb] at hFb
 replace hba := Lib.hid hba
 replace hbb := Lib.hid hbb
 have hc := Lib.hid (hFa.out _ hS1.a)
 clear hS1
 go_wp2_with fail
 refine hc.out.mono ?_
 rintro e W1 ⟨rfl, hB1⟩
 clear hc
 replace hS := Lib.hid (hS.out.new hB1)
 replace hB := Lib.hid (below_and hB.out hB1)
 clear hB1
 cases ba
 ·go_wp2
  go_ret
  exact ⟨rfl, hB.out⟩
 have hS1 := hS.out
 have h1 := hS1.b2
 go_wp2_with (refine wpList_load_rowW 35 (.tmp 3) rfl (by rfl) g2 rfl 35 cb (0, 0) _ h1 Tryz.underlying35 rfl (by rw [hcb]; kernel_rfl) ?_; refine Shut.out ?_)
 refine shut_mkP ?_
 try simp only [Act.put, List.setIfInBounds_toArray, List.set_cons_zero, List.set_cons_succ]
 clear h1
 have hc := Lib.hid (hFb.out _ hS1.b)
 clear hS1
 go_wp2_with fail
 refine hc.out.mono ?_
 rintro e W2 ⟨rfl, hB1⟩
 clear hc
 replace hS := Lib.hid (hS.out.new hB1)
 replace hB := Lib.hid (below_and hB.out hB1)
 clear hB1
 cases bb
 ·go_wp2
  go_ret
  exact ⟨rfl, hB.out⟩
 have wa : a.wt ≤ 1500 := by have := hba.out; simpa using this.symm
 have wb : b.wt ≤ 1500 := by have := hbb.out; simpa using this.symm
 clear hba hbb hFa hFb
 have hTa : ∀ W, a.ok eT W → Calls Tryz.prog 55 #[.agg ca] W fun r w' => (∃ L : Pg Loc, r = .returned (aggRP L) ∧ L.plain = a.plain ∧ L.ok eR w' ∧ ∀ b ∈ L.blks, W.heap.size ≤ b) ∧ Below W.heap.size W w' := fun W h => by
  have h1 := theirP a W h ra.out (by have := hsa.out; omega)
  unfold aggP at h1
  rw [← hcae.out] at h1
  exact h1
 have hTb : ∀ W, b.ok eT W → Calls Tryz.prog 55 #[.agg cb] W fun r w' => (∃ L : Pg Loc, r = .returned (aggRP L) ∧ L.plain = b.plain ∧ L.ok eR w' ∧ ∀ b ∈ L.blks, W.heap.size ≤ b) ∧ Below W.heap.size W w' := fun W h => by
  have h1 := theirP b W h rb.out (by have := hsb.out; omega)
  unfold aggP at h1
  rw [← hcbe.out] at h1
  exact h1
 replace hTa := Lib.hid hTa
 replace hTb := Lib.hid hTb
 go_upto_region 3 with (fail)
 go_cut [5, 6] (fun v5 v6 wx => ∃ (g5 g6 : Nat) (x y : Pg Loc) (cx cy : Array Value), v5 = .pointer (some ⟨g5, 0, none⟩) ∧ v6 = .pointer (some ⟨g6, 0, none⟩) ∧ cx = (x.cells eR).toArray ∧ cy = (y.cells eR).toArray ∧ Blk wx g5 75 cx ∧ Blk wx g6 75 cy ∧ x.ok eR wx ∧ y.ok eR wx ∧ x.plain = a.plain ∧ y.plain = b.plain ∧ Tb g1 g2 ca cb a b wx ∧ Below W2.heap.size W2 wx)
 case first =>
  have hBd := (Below.refl W2.heap.size W2).drew
  have hS1 := hS.out
  refine wp_region_held (S := fun W => Below W2.heap.size W2 W) (by kernel_rfl) ?_
  change wpAnyH _ _ _ _ _ _ _ _ (World.drew _)
  refine takes [0, 2] (fuel := 6) (by kernel_rfl) (fun _ _ _ _ h => h) hBd (by kernel_rfl) (fun K hK => ?_)
  refine TakesG.cons rfl (load_rowA 35 (.tmp 2) rfl g1 rfl ca _ (fun W h => hS1.b1.below h hS1.b1.lt) Tryz.underlying35 rfl (by rw [hca]; kernel_rfl)) ?_
  refine TakesG.cons rfl (load_rowA 35 (.tmp 3) rfl g2 rfl cb _ (fun W h => hS1.b2.below h hS1.b2.lt) Tryz.underlying35 rfl (by rw [hcb]; kernel_rfl)) ?_
  simp only [Act.put, List.setIfInBounds_toArray, List.set_cons_zero, List.set_cons_succ]
  refine hK.out _ ?_
  clear hK K
  refine bag_any [1, 3, 4, 5] [some 17, some 19, some 5, some 6] [bPg 1 0 a.plain, bPg 3 1 b.plain, bNw 4 2 75 #[.int .i64 0, .int .i64 0, .slice none 0 0, .slice none 0 0, .slice none 0 0, .slice none 0 0, .int .i64 0, .int .i64 0, .int .i64 0, .int .i64 0, .string ⟨#[]⟩, .slice none 0 0, .slice none 0 0, .slice none 0 0, .slice none 0 0, .slice none 0 0, .int .i64 0, .int .i64 0, .int .i64 0, .int .i64 0, .string ⟨#[]⟩, .slice none 0 0], bNw 5 3 75 #[.int .i64 0, .int .i64 0, .slice none 0 0, .slice none 0 0, .slice none 0 0, .slice none 0 0, .int .i64 0, .int .i64 0, .int .i64 0, .int .i64 0, .string ⟨#[]⟩, .slice none 0 0, .slice none 0 0, .slice none 0 0, .slice none 0 0, .slice none 0 0, .int .i64 0, .int .i64 0, .int .i64 0, .int .i64 0, .string ⟨#[]⟩, .slice none 0 0]] (fuel := 2) rfl rfl (by kernel_rfl) (fun W h => hBd.trans h)
   (.cons rfl rfl (fun x lo hi W hW hd K hK => ?_) (.cons rfl rfl (fun x lo hi W hW hd K hK => ?_) (.cons rfl rfl (fun x lo hi W hW hd K hK => ?_) (.cons rfl rfl (fun x lo hi W hW hd K hK => ?_) .nil)))) ?_
  all_goals (try (simp only [bagAct, puts, Act.put, List.setIfInBounds_toArray, List.set_cons_zero, List.set_cons_succ] at hK ⊢; go_simp))
  ·refine (hTa.out W (hS.out.a.below (hBd.trans hW))).mono ?_
   rintro e W' ⟨⟨L, rfl, hp, ho, hl⟩, hb⟩
   exact hK.out _ _ hb ⟨L, rfl, hp, ho, fun b hm => ⟨hl b hm, ho.lt b hm⟩⟩
  ·refine (hTb.out W (hS.out.b.below (hBd.trans hW))).mono ?_
   rintro e W' ⟨⟨L, rfl, hp, ho, hl⟩, hb⟩
   exact hK.out _ _ hb ⟨L, rfl, hp, ho, fun b hm => ⟨hl b hm, ho.lt b hm⟩⟩
  ·exact hK.out _ _ (new_below W _) (nwR_new W _ _)
  ·exact hK.out _ _ (new_below W _) (nwR_new W _ _)
  ·intro v lo hi W hE hBW
   obtain ⟨x, e0, px, ox, ux⟩ : pgR _ (v 0) (lo 0) (hi 0) W := (hE.f 0 _ rfl).2.2
   obtain ⟨y, e1, py, oy, uy⟩ : pgR _ (v 1) (lo 1) (hi 1) W := (hE.f 1 _ rfl).2.2
   obtain ⟨g5, e2, hG5, l5, u5⟩ : nwR _ _ (v 2) (lo 2) (hi 2) W := (hE.f 2 _ rfl).2.2
   obtain ⟨g6, e3, hG6, l6, u6⟩ : nwR _ _ (v 3) (lo 3) (hi 3) W := (hE.f 3 _ rfl).2.2
   have k5 : W2.heap.size ≤ lo 2 := (hE.f 2 _ rfl).1
   have k6 : W2.heap.size ≤ lo 3 := (hE.f 3 _ rfl).1
   obtain ⟨cx, hcx⟩ : ∃ c, c = (x.cells eR).toArray := ⟨_, rfl⟩
   obtain ⟨cy, hcy⟩ : ∃ c, c = (y.cells eR).toArray := ⟨_, rfl⟩
   unfold aggRP at e0 e1
   rw [← hcx] at e0
   rw [← hcy] at e1
   have sx : cx.size = 22 := by rw [hcx]; exact cellsT_size eR x
   have sy : cy.size = 22 := by rw [hcy]; exact cellsT_size eR y
   simp only [bagAct, puts, List.setIfInBounds_toArray, List.set_cons_zero, List.set_cons_succ]
   simp only [e0, e1, e2, e3]
   refine putH 6 rfl (by kernel_rfl) (.tmp 5) (.tmp 17) rfl rfl g5 cx hG5 rfl rfl (by rw [sx]; rfl) (by rw [sx]; kernel_rfl) (by rw [hcx]; exact cells_oneE eR x) (fun W' hN5 h5 => ⟨hBW.trans (h5.below hBW.size (by simp; omega)), ?_⟩)
   refine putH 7 rfl (by kernel_rfl) (.tmp 6) (.tmp 19) rfl rfl g6 cy (hG6.only h5 (by simp; exact hE.apart 2 3 rfl l5 u5 l6 u6)) rfl rfl (by rw [sy]; rfl) (by rw [sy]; kernel_rfl) (by rw [hcy]; exact cells_oneE eR y) (fun W'' hN6 h6 => ?_)
   have hB' : Below W2.heap.size W2 W'' := (hBW.trans (h5.below hBW.size (by simp; omega))).trans (h6.below (Nat.le_trans hBW.size h5.size) (by simp; omega))
   refine ⟨hB', wpAnyH_done (by kernel_rfl) ?_ _⟩
   have n5 := hN5.only h6 (by simp; exact hE.apart 3 2 rfl l6 u6 l5 u5)
   have ox' := (ox.onlyG h5 fun b hm h => hE.apart 2 0 rfl l5 u5 (ux b hm).1 (ux b hm).2 (List.mem_singleton.1 h)).onlyG h6 fun b hm h => hE.apart 3 0 rfl l6 u6 (ux b hm).1 (ux b hm).2 (List.mem_singleton.1 h)
   have oy' := (oy.onlyG h5 fun b hm h => hE.apart 2 1 rfl l5 u5 (uy b hm).1 (uy b hm).2 (List.mem_singleton.1 h)).onlyG h6 fun b hm h => hE.apart 3 1 rfl l6 u6 (uy b hm).1 (uy b hm).2 (List.mem_singleton.1 h)
   replace hN6 := Lib.hid hN6
   replace n5 := Lib.hid n5
   replace ox' := Lib.hid ox'
   replace oy' := Lib.hid oy'
   replace hB' := Lib.hid hB'
   replace hcx := Lib.hid hcx
   replace hcy := Lib.hid hcy
   replace hS := Lib.hid (hS.out.new hB'.out)
   clear hE e0 e1 e2 e3 h5 h6 hN5 hG5 hG6 ox oy hBW hBd hS1
   go_wp2_with fail
   go_meet
   exact ⟨g5, g6, x, y, cx, cy, rfl, rfl, hcx.out, hcy.out, n5.out, hN6.out, ox'.out, oy'.out, px, py, hS.out, hB'.out⟩
 case rest =>
  obtain ⟨g5, g6, x, y, cx, cy, rfl, rfl, hcx, hcy, h5, h6, hx, hy, hpx, hpy, hS3, hB3⟩ := hcut
  rename World => W3
  have sx : cx.size = 22 := by rw [hcx]; exact cellsT_size eR x
  have sy : cy.size = 22 := by rw [hcy]; exact cellsT_size eR y
  have hcc := copy_yes a W3 hS3.a (by have := hsa.out; omega)
  unfold aggP at hcc
  rw [← hcae.out] at hcc
  have h1 := hS3.b1
  replace hcc := Lib.hid hcc
  replace hB := Lib.hid (below_and hB.out hB3)
  have hB3w : w.heap.size ≤ W3.heap.size := hB.out.size
  clear hB3 hTa hTb hS
  have hal := Lib.hid hS3.a.lt
  have hbl := Lib.hid hS3.b.lt
  have hxl := Lib.hid hx.lt
  have hyl := Lib.hid hy.lt
  have l1 := hS3.b1.lt
  have l2 := hS3.b2.lt
  have l5 := h5.lt
  have l6 := h6.lt
  replace hS3 := Lib.hid hS3
  replace h5 := Lib.hid h5
  replace h6 := Lib.hid h6
  replace hx := Lib.hid hx
  replace hy := Lib.hid hy
  replace hcx := Lib.hid hcx
  replace hcy := Lib.hid hcy
  replace hpx := Lib.hid hpx
  replace hpy := Lib.hid hpy
  go_wp2_with (refine wpList_load_rowW 35 (.tmp 2) rfl (by rfl) g1 rfl 35 ca (0, 0) _ h1 Tryz.underlying35 rfl (by rw [hca]; kernel_rfl) ?_; refine Shut.out ?_)
  refine shut_mkP ?_
  try simp only [Act.put, List.setIfInBounds_toArray, List.set_cons_zero, List.set_cons_succ]
  clear h1
  go_wp2_with fail
  refine hcc.out.mono ?_
  rintro e W4 ⟨c, rfl, hpc, hco, hcn, hB4⟩
  clear hcc
  obtain ⟨cc, hcce⟩ : ∃ q, q = (c.cells eT).toArray := ⟨_, rfl⟩
  rw [← hcce]
  have scc : cc.size = 22 := by rw [hcce]; exact cellsT_size eT c
  have occ : cc.all (·.oneCell') = true := by rw [hcce]; exact cells_oneE eT c
  have hz := Blk.new W4 35 #[.int .i64 0, .int .i64 0, .slice none 0 0, .slice none 0 0, .slice none 0 0, .slice none 0 0, .int .u8 0, .int .u8 0, .int .u32 0, .int .i64 0, .string ⟨#[]⟩, .slice none 0 0, .slice none 0 0, .slice none 0 0, .slice none 0 0, .slice none 0 0, .int .u8 0, .int .u8 0, .int .u32 0, .int .i64 0, .string ⟨#[]⟩, .slice none 0 0]
  have hth := there_blk_at hz (o := 0) (n := 22) (by decide)
  have hN7 := blk_put6 hz (vs := cc) (by rw [scc]; rfl)
  have hoS := only_setCells (b := W4.heap.size) cc.toList 0 (W4.alloc (.cells #[.int .i64 0, .int .i64 0, .slice none 0 0, .slice none 0 0, .slice none 0 0, .slice none 0 0, .int .u8 0, .int .u8 0, .int .u32 0, .int .i64 0, .string ⟨#[]⟩, .slice none 0 0, .slice none 0 0, .slice none 0 0, .slice none 0 0, .slice none 0 0, .int .u8 0, .int .u8 0, .int .u32 0, .int .i64 0, .string ⟨#[]⟩, .slice none 0 0] 35))
  have hB5 : Below W4.heap.size W4 (World.setCells (W4.alloc (.cells #[.int .i64 0, .int .i64 0, .slice none 0 0, .slice none 0 0, .slice none 0 0, .slice none 0 0, .int .u8 0, .int .u8 0, .int .u32 0, .int .i64 0, .string ⟨#[]⟩, .slice none 0 0, .slice none 0 0, .slice none 0 0, .slice none 0 0, .slice none 0 0, .int .u8 0, .int .u8 0, .int .u32 0, .int .i64 0, .string ⟨#[]⟩, .slice none 0 0] 35)) W4.heap.size 0 cc.toList) := ((Below.refl _ W4).alloc (Nat.le_refl _) (.cells #[.int .i64 0, .int .i64 0, .slice none 0 0, .slice none 0 0, .slice none 0 0, .slice none 0 0, .int .u8 0, .int .u8 0, .int .u32 0, .int .i64 0, .string ⟨#[]⟩, .slice none 0 0, .slice none 0 0, .slice none 0 0, .slice none 0 0, .slice none 0 0, .int .u8 0, .int .u8 0, .int .u32 0, .int .i64 0, .string ⟨#[]⟩, .slice none 0 0] 35)).trans (hoS.below (by simp) (by simp))
  have hB45 := below_and hB4 hB5
  have hTc : Tc g1 g2 g5 g6 W4.heap.size ca cb cx cy cc a b x y c W3.heap.size (World.setCells (W4.alloc (.cells #[.int .i64 0, .int .i64 0, .slice none 0 0, .slice none 0 0, .slice none 0 0, .slice none 0 0, .int .u8 0, .int .u8 0, .int .u32 0, .int .i64 0, .string ⟨#[]⟩, .slice none 0 0, .slice none 0 0, .slice none 0 0, .slice none 0 0, .slice none 0 0, .int .u8 0, .int .u8 0, .int .u32 0, .int .i64 0, .string ⟨#[]⟩, .slice none 0 0] 35)) W4.heap.size 0 cc.toList) := ⟨hS3.out.new hB45, h5.out.below hB45 h5.out.lt, h6.out.below hB45 h6.out.lt, hN7, hx.out.below hB45, hy.out.below hB45, (keep_pg _ c).new hco hB5⟩
  have hB' := Lib.hid (below_and hB.out hB45)
  replace hTc := Lib.hid hTc
  replace hpc := Lib.hid hpc
  replace hcn := Lib.hid hcn
  replace hcce := Lib.hid hcce
  clear hz hN7 hoS hB5 hB45 hco hB4 hS3 h5 h6 hx hy hB
  go_wp2_with (refine wpList_store_mid rfl 35 (.tmp 7) (.tmp 21) rfl W4.heap.size 0 cc rfl rfl (by rw [scc]; exact hth) (by rw [scc]; kernel_rfl) occ ?_; refine Shut.out ?_)
  refine shut_mkP ?_
  try simp only [Act.put, List.setIfInBounds_toArray, List.set_cons_zero, List.set_cons_succ]
  clear hth
  go_upto_region 5 with (fail)
  generalize World.setCells (W4.alloc (.cells #[.int .i64 0, .int .i64 0, .slice none 0 0, .slice none 0 0, .slice none 0 0, .slice none 0 0, .int .u8 0, .int .u8 0, .int .u32 0, .int .i64 0, .string ⟨#[]⟩, .slice none 0 0, .slice none 0 0, .slice none 0 0, .slice none 0 0, .slice none 0 0, .int .u8 0, .int .u8 0, .int .u32 0, .int .i64 0, .string ⟨#[]⟩, .slice none 0 0] 35)) W4.heap.size 0 cc.toList = W5 at *
  obtain ⟨g7, hg7⟩ : ∃ g, W4.heap.size = g := ⟨_, rfl⟩
  rw [hg7] at hTc ⊢
  replace hg7 := Lib.hid hg7
  have za : a.sz ≤ 20000 := by have := hsa.out; omega
  have zb : b.sz ≤ 20000 := by have := hsb.out; omega
  have hl : ∀ W, Tc g1 g2 g5 g6 g7 ca cb cx cy cc a b x y c W3.heap.size W → Calls Tryz.prog 20 #[.agg ca] W fun r w' => r = .returned (.bool true) ∧ Below W.heap.size W w' := fun W h => by
   have h1 := lightP_ok a W h.t.a (slim_of za)
   unfold aggP at h1
   rw [← hcae.out, decide_eq_true za] at h1
   exact h1
  obtain ⟨R1, hR1⟩ : ∃ r, r = a.same b := ⟨_, rfl⟩
  obtain ⟨R2, hR2⟩ : ∃ r, r = b.same a := ⟨_, rfl⟩
  obtain ⟨nz, hnz⟩ : ∃ n, n = a.sz := ⟨_, rfl⟩
  have hs1 : ∀ W, Tc g1 g2 g5 g6 g7 ca cb cx cy cc a b x y c W3.heap.size W → Calls Tryz.prog 22 #[.agg ca, .agg cb] W fun r w' => r = .returned (.bool R1) ∧ Below W.heap.size W w' := fun W h => by
   have h1 := sameP_yes a b W h.t.a h.t.b za zb
   unfold aggP at h1
   rw [← hcae.out, ← hcbe.out, ← hR1] at h1
   exact h1
  have hs2 : ∀ W, Tc g1 g2 g5 g6 g7 ca cb cx cy cc a b x y c W3.heap.size W → Calls Tryz.prog 22 #[.agg cb, .agg ca] W fun r w' => r = .returned (.bool R2) ∧ Below W.heap.size W w' := fun W h => by
   have h1 := sameP_yes b a W h.t.b h.t.a zb za
   unfold aggP at h1
   rw [← hcae.out, ← hcbe.out, ← hR2] at h1
   exact h1
  have hr1 : ∀ W, Tc g1 g2 g5 g6 g7 ca cb cx cy cc a b x y c W3.heap.size W → Calls Tryz.prog 56 #[.agg cx, .agg cy] W fun r w' => r = .returned (.bool R1) ∧ Below W.heap.size W w' := fun W h => by
   have h1 := rsameP x y W h.x h.y
   unfold aggRP at h1
   rw [← hcx.out, ← hcy.out, same_of hpx.out hpy.out, ← hR1] at h1
   exact h1
  have hr2 : ∀ W, Tc g1 g2 g5 g6 g7 ca cb cx cy cc a b x y c W3.heap.size W → Calls Tryz.prog 56 #[.agg cy, .agg cx] W fun r w' => r = .returned (.bool R2) ∧ Below W.heap.size W w' := fun W h => by
   have h1 := rsameP y x W h.y h.x
   unfold aggRP at h1
   rw [← hcx.out, ← hcy.out, same_of hpy.out hpx.out, ← hR2] at h1
   exact h1
  have hal1 : ∀ W, Tc g1 g2 g5 g6 g7 ca cb cx cy cc a b x y c W3.heap.size W → Calls Tryz.prog 57 #[.agg cc, .agg cx] W fun r w' => r = .returned (.bool true) ∧ Below W.heap.size W w' := fun W h => by
   have h1 := alike_ok c x W h.c.ok (Pg.rng_plain.1 (by rw [hpc.out]; exact Pg.rng_plain.2 ra.out)) (by rw [← Pg.wt_plain, hpc.out, Pg.wt_plain]; exact wa) h.x
   unfold aggP aggRP at h1
   rw [← hcce.out, ← hcx.out, same_yes (hpc.out.trans hpx.out.symm)] at h1
   exact h1
  have hsz1 : ∀ W, Tc g1 g2 g5 g6 g7 ca cb cx cy cc a b x y c W3.heap.size W → Calls Tryz.prog 21 #[.agg ca] W fun r w' => r = .returned (.int .i64 (nz : Nat)) ∧ Below W.heap.size W w' := fun W h => by
   have h1 := sizeP_ok a W h.t.a (slim_of za) a.sz (by rw [if_pos za])
   unfold aggP at h1
   rw [← hcae.out, ← hnz] at h1
   exact h1
  have hct1 : ∀ W, Tc g1 g2 g5 g6 g7 ca cb cx cy cc a b x y c W3.heap.size W → Calls Tryz.prog 58 #[.agg cx] W fun r w' => r = .returned (.int .i64 (nz : Nat)) ∧ Below W.heap.size W w' := fun W h => by
   have hxs : x.sz = a.sz := by rw [← Pg.sz_plain x, hpx.out, Pg.sz_plain]
   have h1 := rcountP x W (by omega) h.x
   unfold aggRP at h1
   rw [← hcx.out, hxs, ← hnz] at h1
   exact h1
  replace hl := Lib.hid hl
  replace hs1 := Lib.hid hs1
  replace hs2 := Lib.hid hs2
  replace hr1 := Lib.hid hr1
  replace hr2 := Lib.hid hr2
  replace hal1 := Lib.hid hal1
  replace hsz1 := Lib.hid hsz1
  replace hct1 := Lib.hid hct1
  replace hR1 := Lib.hid hR1
  replace hR2 := Lib.hid hR2
  replace hnz := Lib.hid hnz
  have hS := hTc.out.new ((Below.refl _ W5).drew)
  have hBd := Lib.hid (hB'.out.drew)
  clear hTc hB'
  refine wp_region_held (S := Tc g1 g2 g5 g6 g7 ca cb cx cy cc a b x y c W3.heap.size) (by kernel_rfl) ?_
  change wpAnyH _ _ _ _ _ _ _ _ (World.drew _)
  refine takeH 0 (v := .agg ca) rfl (by kernel_rfl) (by kernel_rfl) (by kernel_rfl) (fun _ _ _ h => h) (by rfl) hS (load_rowA (S := Tc g1 g2 g5 g6 g7 ca cb cx cy cc a b x y c W3.heap.size) 35 (.tmp 2) rfl g1 rfl ca _ (fun W h => h.t.b1) Tryz.underlying35 rfl (by rw [hca]; kernel_rfl)) ?_
  try simp only [Act.put, List.setIfInBounds_toArray, List.set_cons_zero, List.set_cons_succ]
  refine callH 1 rfl (by kernel_rfl) (fun K hK => ?_)
  go_simp
  refine (hl.out _ hS).mono ?_
  rintro e V59 ⟨rfl, hB2⟩
  have hBN59 := Lib.hid (below_and hBd.out hB2)
  have hS' := hS.new hB2
  clear hB2
  refine hK.out _ _ (hS') (fun hSn => ?_)
  clear hK K hS
  have hS := hSn
  clear hSn
  refine takeH 2 (v := ?_) rfl (by kernel_rfl) (by kernel_rfl) (by kernel_rfl) (fun _ _ _ h => h) (by rfl) hS ?_ ?_
  rotate_left
  ·(intro wz hSw; clear hSw; go_simp; try with_reducible rfl)
  try simp only [Act.put, List.setIfInBounds_toArray, List.set_cons_zero, List.set_cons_succ]
  refine takeH 3 (v := ?_) rfl (by kernel_rfl) (by kernel_rfl) (by kernel_rfl) (fun _ _ _ h => h) (by rfl) hS ?_ ?_
  rotate_left
  ·(intro wz hSw; clear hSw; go_simp; try with_reducible rfl)
  try simp only [Act.put, List.setIfInBounds_toArray, List.set_cons_zero, List.set_cons_succ]
  refine takeH 4 (v := .agg ca) rfl (by kernel_rfl) (by kernel_rfl) (by kernel_rfl) (fun _ _ _ h => h) (by rfl) hS (load_rowA (S := Tc g1 g2 g5 g6 g7 ca cb cx cy cc a b x y c W3.heap.size) 35 (.tmp 2) rfl g1 rfl ca _ (fun W h => h.t.b1) Tryz.underlying35 rfl (by rw [hca]; kernel_rfl)) ?_
  try simp only [Act.put, List.setIfInBounds_toArray, List.set_cons_zero, List.set_cons_succ]
  refine takeH 5 (v := .agg cb) rfl (by kernel_rfl) (by kernel_rfl) (by kernel_rfl) (fun _ _ _ h => h) (by rfl) hS (load_rowA (S := Tc g1 g2 g5 g6 g7 ca cb cx cy cc a b x y c W3.heap.size) 35 (.tmp 3) rfl g2 rfl cb _ (fun W h => h.t.b2) Tryz.underlying35 rfl (by rw [hcb]; kernel_rfl)) ?_
  try simp only [Act.put, List.setIfInBounds_toArray, List.set_cons_zero, List.set_cons_succ]
  refine takeH 7 (v := .agg cx) rfl (by kernel_rfl) (by kernel_rfl) (by kernel_rfl) (fun _ _ _ h => h) (by rfl) hS (load_rowA (S := Tc g1 g2 g5 g6 g7 ca cb cx cy cc a b x y c W3.heap.size) 75 (.tmp 5) rfl g5 rfl cx _ (fun W h => h.b5) Tryz.underlying75 rfl (by rw [sx]; kernel_rfl)) ?_
  try simp only [Act.put, List.setIfInBounds_toArray, List.set_cons_zero, List.set_cons_succ]
  refine takeH 8 (v := .agg cy) rfl (by kernel_rfl) (by kernel_rfl) (by kernel_rfl) (fun _ _ _ h => h) (by rfl) hS (load_rowA (S := Tc g1 g2 g5 g6 g7 ca cb cx cy cc a b x y c W3.heap.size) 75 (.tmp 6) rfl g6 rfl cy _ (fun W h => h.b6) Tryz.underlying75 rfl (by rw [sy]; kernel_rfl)) ?_
  try simp only [Act.put, List.setIfInBounds_toArray, List.set_cons_zero, List.set_cons_succ]
  refine callH 6 rfl (by kernel_rfl) (fun K hK => ?_)
  go_simp
  refine (hs1.out _ hS).mono ?_
  rintro e V60 ⟨rfl, hB2⟩
  have hBN60 := Lib.hid (below_and hBN59.out hB2)
  have hS' := hS.new hB2
  clear hB2
  refine hK.out _ _ (hS') (fun hSn => ?_)
  clear hK K hS
  have hS := hSn
  clear hSn
  refine callH 9 rfl (by kernel_rfl) (fun K hK => ?_)
  go_simp
  refine (hr1.out _ hS).mono ?_
  rintro e V61 ⟨rfl, hB2⟩
  have hBN61 := Lib.hid (below_and hBN60.out hB2)
  have hS' := hS.new hB2
  clear hB2
  refine hK.out _ _ (hS') (fun hSn => ?_)
  clear hK K hS
  have hS := hSn
  clear hSn
  refine takeH 10 (v := .bool false) rfl (by kernel_rfl) (by kernel_rfl) (by kernel_rfl) (fun _ _ _ h => h) (by rfl) hS ?_ ?_
  ·(intro wz hSw; clear hSw; go_simp; try simp)
  try simp only [Act.put, List.setIfInBounds_toArray, List.set_cons_zero, List.set_cons_succ]
  refine takeH 11 (v := ?_) rfl (by kernel_rfl) (by kernel_rfl) (by kernel_rfl) (fun _ _ _ h => h) (by rfl) hS ?_ ?_
  rotate_left
  ·(intro wz hSw; clear hSw; go_simp; try with_reducible rfl)
  try simp only [Act.put, List.setIfInBounds_toArray, List.set_cons_zero, List.set_cons_succ]
  refine takeH 12 (v := ?_) rfl (by kernel_rfl) (by kernel_rfl) (by kernel_rfl) (fun _ _ _ h => h) (by rfl) hS ?_ ?_
  rotate_left
  ·(intro wz hSw; clear hSw; go_simp; try with_reducible rfl)
  try simp only [Act.put, List.setIfInBounds_toArray, List.set_cons_zero, List.set_cons_succ]
  refine takeH 13 (v := .agg cb) rfl (by kernel_rfl) (by kernel_rfl) (by kernel_rfl) (fun _ _ _ h => h) (by rfl) hS (load_rowA (S := Tc g1 g2 g5 g6 g7 ca cb cx cy cc a b x y c W3.heap.size) 35 (.tmp 3) rfl g2 rfl cb _ (fun W h => h.t.b2) Tryz.underlying35 rfl (by rw [hcb]; kernel_rfl)) ?_
  try simp only [Act.put, List.setIfInBounds_toArray, List.set_cons_zero, List.set_cons_succ]
  refine takeH 14 (v := .agg ca) rfl (by kernel_rfl) (by kernel_rfl) (by kernel_rfl) (fun _ _ _ h => h) (by rfl) hS (load_rowA (S := Tc g1 g2 g5 g6 g7 ca cb cx cy cc a b x y c W3.heap.size) 35 (.tmp 2) rfl g1 rfl ca _ (fun W h => h.t.b1) Tryz.underlying35 rfl (by rw [hca]; kernel_rfl)) ?_
  try simp only [Act.put, List.setIfInBounds_toArray, List.set_cons_zero, List.set_cons_succ]
  refine takeH 16 (v := .agg cy) rfl (by kernel_rfl) (by kernel_rfl) (by kernel_rfl) (fun _ _ _ h => h) (by rfl) hS (load_rowA (S := Tc g1 g2 g5 g6 g7 ca cb cx cy cc a b x y c W3.heap.size) 75 (.tmp 6) rfl g6 rfl cy _ (fun W h => h.b6) Tryz.underlying75 rfl (by rw [sy]; kernel_rfl)) ?_
  try simp only [Act.put, List.setIfInBounds_toArray, List.set_cons_zero, List.set_cons_succ]
  refine takeH 17 (v := .agg cx) rfl (by kernel_rfl) (by kernel_rfl) (by kernel_rfl) (fun _ _ _ h => h) (by rfl) hS (load_rowA (S := Tc g1 g2 g5 g6 g7 ca cb cx cy cc a b x y c W3.heap.size) 75 (.tmp 5) rfl g5 rfl cx _ (fun W h => h.b5) Tryz.underlying75 rfl (by rw [sx]; kernel_rfl)) ?_
  try simp only [Act.put, List.setIfInBounds_toArray, List.set_cons_zero, List.set_cons_succ]
  refine callH 15 rfl (by kernel_rfl) (fun K hK => ?_)
  go_simp
  refine (hs2.out _ hS).mono ?_
  rintro e V62 ⟨rfl, hB2⟩
  have hBN62 := Lib.hid (below_and hBN61.out hB2)
  have hS' := hS.new hB2
  clear hB2
  refine hK.out _ _ (hS') (fun hSn => ?_)
  clear hK K hS
  have hS := hSn
  clear hSn
  refine callH 18 rfl (by kernel_rfl) (fun K hK => ?_)
  go_simp
  refine (hr2.out _ hS).mono ?_
  rintro e V63 ⟨rfl, hB2⟩
  have hBN63 := Lib.hid (below_and hBN62.out hB2)
  have hS' := hS.new hB2
  clear hB2
  refine hK.out _ _ (hS') (fun hSn => ?_)
  clear hK K hS
  have hS := hSn
  clear hSn
  refine takeH 19 (v := .bool false) rfl (by kernel_rfl) (by kernel_rfl) (by kernel_rfl) (fun _ _ _ h => h) (by rfl) hS ?_ ?_
  ·(intro wz hSw; clear hSw; go_simp; try simp)
  try simp only [Act.put, List.setIfInBounds_toArray, List.set_cons_zero, List.set_cons_succ]
  refine takeH 20 (v := ?_) rfl (by kernel_rfl) (by kernel_rfl) (by kernel_rfl) (fun _ _ _ h => h) (by rfl) hS ?_ ?_
  rotate_left
  ·(intro wz hSw; clear hSw; go_simp; try with_reducible rfl)
  try simp only [Act.put, List.setIfInBounds_toArray, List.set_cons_zero, List.set_cons_succ]
  refine takeH 21 (v := ?_) rfl (by kernel_rfl) (by kernel_rfl) (by kernel_rfl) (fun _ _ _ h => h) (by rfl) hS ?_ ?_
  rotate_left
  ·(intro wz hSw; clear hSw; go_simp; try with_reducible rfl)
  try simp only [Act.put, List.setIfInBounds_toArray, List.set_cons_zero, List.set_cons_succ]
  refine takeH 22 (v := .agg cc) rfl (by kernel_rfl) (by kernel_rfl) (by kernel_rfl) (fun _ _ _ h => h) (by rfl) hS (load_rowA (S := Tc g1 g2 g5 g6 g7 ca cb cx cy cc a b x y c W3.heap.size) 35 (.tmp 7) rfl g7 rfl cc _ (fun W h => h.b7) Tryz.underlying35 rfl (by rw [scc]; kernel_rfl)) ?_
  try simp only [Act.put, List.setIfInBounds_toArray, List.set_cons_zero, List.set_cons_succ]
  refine takeH 23 (v := .agg cx) rfl (by kernel_rfl) (by kernel_rfl) (by kernel_rfl) (fun _ _ _ h => h) (by rfl) hS (load_rowA (S := Tc g1 g2 g5 g6 g7 ca cb cx cy cc a b x y c W3.heap.size) 75 (.tmp 5) rfl g5 rfl cx _ (fun W h => h.b5) Tryz.underlying75 rfl (by rw [sx]; kernel_rfl)) ?_
  try simp only [Act.put, List.setIfInBounds_toArray, List.set_cons_zero, List.set_cons_succ]
  refine callH 24 rfl (by kernel_rfl) (fun K hK => ?_)
  go_simp
  refine (hal1.out _ hS).mono ?_
  rintro e V64 ⟨rfl, hB2⟩
  have hBN64 := Lib.hid (below_and hBN63.out hB2)
  have hS' := hS.new hB2
  clear hB2
  refine hK.out _ _ (hS') (fun hSn => ?_)
  clear hK K hS
  have hS := hSn
  clear hSn
  refine takeH 25 (v := ?_) rfl (by kernel_rfl) (by kernel_rfl) (by kernel_rfl) (fun _ _ _ h => h) (by rfl) hS ?_ ?_
  rotate_left
  ·(intro wz hSw; clear hSw; go_simp; try with_reducible rfl)
  try simp only [Act.put, List.setIfInBounds_toArray, List.set_cons_zero, List.set_cons_succ]
  refine takeH 26 (v := ?_) rfl (by kernel_rfl) (by kernel_rfl) (by kernel_rfl) (fun _ _ _ h => h) (by rfl) hS ?_ ?_
  rotate_left
  ·(intro wz hSw; clear hSw; go_simp; try with_reducible rfl)
  try simp only [Act.put, List.setIfInBounds_toArray, List.set_cons_zero, List.set_cons_succ]
  refine takeH 27 (v := ?_) rfl (by kernel_rfl) (by kernel_rfl) (by kernel_rfl) (fun _ _ _ h => h) (by rfl) hS ?_ ?_
  rotate_left
  ·(intro wz hSw; clear hSw; go_simp; try with_reducible rfl)
  try simp only [Act.put, List.setIfInBounds_toArray, List.set_cons_zero, List.set_cons_succ]
  refine takeH 28 (v := .agg ca) rfl (by kernel_rfl) (by kernel_rfl) (by kernel_rfl) (fun _ _ _ h => h) (by rfl) hS (load_rowA (S := Tc g1 g2 g5 g6 g7 ca cb cx cy cc a b x y c W3.heap.size) 35 (.tmp 2) rfl g1 rfl ca _ (fun W h => h.t.b1) Tryz.underlying35 rfl (by rw [hca]; kernel_rfl)) ?_
  try simp only [Act.put, List.setIfInBounds_toArray, List.set_cons_zero, List.set_cons_succ]
  refine takeH 30 (v := .agg cx) rfl (by kernel_rfl) (by kernel_rfl) (by kernel_rfl) (fun _ _ _ h => h) (by rfl) hS (load_rowA (S := Tc g1 g2 g5 g6 g7 ca cb cx cy cc a b x y c W3.heap.size) 75 (.tmp 5) rfl g5 rfl cx _ (fun W h => h.b5) Tryz.underlying75 rfl (by rw [sx]; kernel_rfl)) ?_
  try simp only [Act.put, List.setIfInBounds_toArray, List.set_cons_zero, List.set_cons_succ]
  refine callH 29 rfl (by kernel_rfl) (fun K hK => ?_)
  go_simp
  refine (hsz1.out _ hS).mono ?_
  rintro e V65 ⟨rfl, hB2⟩
  have hBN65 := Lib.hid (below_and hBN64.out hB2)
  have hS' := hS.new hB2
  clear hB2
  refine hK.out _ _ (hS') (fun hSn => ?_)
  clear hK K hS
  have hS := hSn
  clear hSn
  refine callH 31 rfl (by kernel_rfl) (fun K hK => ?_)
  go_simp
  refine (hct1.out _ hS).mono ?_
  rintro e V66 ⟨rfl, hB2⟩
  have hBN66 := Lib.hid (below_and hBN65.out hB2)
  have hS' := hS.new hB2
  clear hB2
  refine hK.out _ _ (hS') (fun hSn => ?_)
  clear hK K hS
  have hS := hSn
  clear hSn
  refine takeH 32 (v := .bool false) rfl (by kernel_rfl) (by kernel_rfl) (by kernel_rfl) (fun _ _ _ h => h) (by rfl) hS ?_ ?_
  ·(intro wz hSw; clear hSw; go_simp; try simp)
  try simp only [Act.put, List.setIfInBounds_toArray, List.set_cons_zero, List.set_cons_succ]
  refine takeH 33 (v := ?_) rfl (by kernel_rfl) (by kernel_rfl) (by kernel_rfl) (fun _ _ _ h => h) (by rfl) hS ?_ ?_
  rotate_left
  ·(intro wz hSw; clear hSw; go_simp; try with_reducible rfl)
  try simp only [Act.put, List.setIfInBounds_toArray, List.set_cons_zero, List.set_cons_succ]
  refine wpAnyH_done (by kernel_rfl) ?_ _
  have hS9 := Lib.hid hS
  have hB9 := Lib.hid hBN66.out
  have h7 := hS.b7
  have hov := over_ok c W3.heap.size _ hS.c hcn.out
  unfold aggP at hov
  rw [← hcce.out] at hov
  replace hov := Lib.hid hov
  clear hS hl hs1 hs2 hr1 hr2 hal1 hsz1 hct1
  rename World => W8
  go_wp2_with (refine wpList_load_rowW 35 (.tmp 7) rfl (by rfl) g7 rfl 35 cc (0, 0) _ h7 Tryz.underlying35 rfl (by rw [scc]; kernel_rfl) ?_; refine Shut.out ?_)
  refine shut_mkP ?_
  try simp only [Act.put, List.setIfInBounds_toArray, List.set_cons_zero, List.set_cons_succ]
  clear h7
  go_wp2_with fail
  refine hov.out.mono ?_
  rintro e W9 ⟨rfl, hov2, hO⟩
  clear hov hov2
  have hge := Lib.hid hS9.out.c.ge
  have hS := hS9.out
  have hBO := Lib.hid (hB9.out.trans (hO.below (by have := hB9.out.size; omega) (fun b hb => by have := (hge.out b hb).1; omega)))
  have a9 : a.ok eT W9 := hS.t.a.onlyG hO (fun b hb hm => by have h1 := hal.out b hb; have h2 := (hge.out b hm).1; omega)
  have b9 : b.ok eT W9 := hS.t.b.onlyG hO (fun b' hb hm => by have h1 := hbl.out b' hb; have h2 := (hge.out b' hm).1; omega)
  have x9 : x.ok eR W9 := hS.x.onlyG hO (fun b hb hm => by have h1 := hxl.out b hb; have h2 := (hge.out b hm).1; omega)
  have y9 : y.ok eR W9 := hS.y.onlyG hO (fun b hb hm => by have h1 := hyl.out b hb; have h2 := (hge.out b hm).1; omega)
  have n1 := hS.t.b1.only hO (fun hm => by have h2 := (hge.out g1 hm).1; omega)
  have n2 := hS.t.b2.only hO (fun hm => by have h2 := (hge.out g2 hm).1; omega)
  have n5 := hS.b5.only hO (fun hm => by have h2 := (hge.out g5 hm).1; omega)
  have n6 := hS.b6.only hO (fun hm => by have h2 := (hge.out g6 hm).1; omega)
  have hk1 := alike_ok a x W9 a9 ra.out wa x9
  unfold aggP aggRP at hk1
  rw [← hcae.out, ← hcx.out, same_yes hpx.out.symm] at hk1
  replace hk1 := Lib.hid hk1
  have n2' := Lib.hid n2
  have n6' := Lib.hid n6
  replace b9 := Lib.hid b9
  replace y9 := Lib.hid y9
  clear hS hS9 hO a9 x9 n2 n6
  go_upto_region 8 with (fail)
  go_wp2_with (refine wpList_load_rowW 35 (.tmp 2) rfl (by rfl) g1 rfl 35 ca (0, 0) _ n1 Tryz.underlying35 rfl (by rw [hca]; kernel_rfl) ?_; refine Shut.out ?_)
  refine shut_mkP ?_
  try simp only [Act.put, List.setIfInBounds_toArray, List.set_cons_zero, List.set_cons_succ]
  go_wp2_with (refine wpList_load_rowW 75 (.tmp 5) rfl (by rfl) g5 rfl 75 cx (0, 0) _ n5 Tryz.underlying75 rfl (by rw [sx]; kernel_rfl) ?_; refine Shut.out ?_)
  refine shut_mkP ?_
  try simp only [Act.put, List.setIfInBounds_toArray, List.set_cons_zero, List.set_cons_succ]
  clear n1 n5
  go_wp2_with fail
  refine hk1.out.mono ?_
  rintro e W10 ⟨rfl, hB10⟩
  have hk2 := alike_ok b y W10 (b9.out.below hB10) rb.out wb (y9.out.below hB10)
  unfold aggP aggRP at hk2
  rw [← hcbe.out, ← hcy.out, same_yes hpy.out.symm] at hk2
  replace hk2 := Lib.hid hk2
  have n2 := n2'.out.below hB10 n2'.out.lt
  have n6 := n6'.out.below hB10 n6'.out.lt
  replace hBO := Lib.hid (below_and hBO.out hB10)
  clear hB10 hk1
  go_wp2_with (refine wpList_load_rowW 35 (.tmp 3) rfl (by rfl) g2 rfl 35 cb (0, 0) _ n2 Tryz.underlying35 rfl (by rw [hcb]; kernel_rfl) ?_; refine Shut.out ?_)
  refine shut_mkP ?_
  try simp only [Act.put, List.setIfInBounds_toArray, List.set_cons_zero, List.set_cons_succ]
  go_wp2_with (refine wpList_load_rowW 75 (.tmp 6) rfl (by rfl) g6 rfl 75 cy (0, 0) _ n6 Tryz.underlying75 rfl (by rw [sy]; kernel_rfl) ?_; refine Shut.out ?_)
  refine shut_mkP ?_
  try simp only [Act.put, List.setIfInBounds_toArray, List.set_cons_zero, List.set_cons_succ]
  clear n2 n6
  go_wp2_with fail
  refine hk2.out.mono ?_
  rintro e W11 ⟨rfl, hB11⟩
  have hBF := Lib.hid (below_and hBO.out hB11)
  clear hk2 hB11
  go_wp2
  go_ret
  exact ⟨rfl, hBF.out⟩
end Go.Proofs.YtnldbplphgfpeaaGreat
namespace Go.Proofs.YtnldbplphgfpeaaGreat
open Go Go.RowKit Go.Shelf
set_option linter.unusedVariables false
set_option linter.unusedSimpArgs false
set_option maxHeartbeats 16000000
def TakesW (P : Program) (y : Array Value → Nat → Option Bool) (S : World → Prop) : List Oper → Act → (Act → Prop) → Prop
 | [], a, K => K a
 | o :: r, a, K => Region.wanted o (y a.tmps) = true ∧ ∃ v, (∀ w, S w → (execOp a.eval o).run P w = .ok (.value v) w) ∧ TakesW P y S r (a.put o.dst v) K
theorem TakesW.cons {P : Program} {y : Array Value → Nat → Option Bool} {S : World → Prop} {o : Oper} {r : List Oper} {a : Act} {K : Act → Prop} {v : Value} (hg : Region.wanted o (y a.tmps) = true) (hv : ∀ w, S w → (execOp a.eval o).run P w = .ok (.value v) w) (h : TakesW P y S r (a.put o.dst v) K) : TakesW P y S (o :: r) a K := ⟨hg, v, hv, h⟩
theorem TakesW.mono {P : Program} {y : Array Value → Nat → Option Bool} {S : World → Prop} : ∀ {r : List Oper} {a : Act} {K K' : Act → Prop}, TakesW P y S r a K → (∀ a, K a → K' a) → TakesW P y S r a K'
 | [], _, _, _, h, hk => hk _ h
 | o :: r, _, _, _, ⟨hg, v, hv, h⟩, hk => ⟨hg, v, hv, TakesW.mono h hk⟩
theorem takesW (is : List Nat) {P : Program} {md : Region.Mode} {L : List Oper} {Q : Exit → Act → World → Prop} {S : World → Prop} {fuel : Nat} {w : World} (hs : Region.noSelect L.toArray = true) (hQ : ∀ c (a : Act) t w, Q (.panic c) ⟨t, a.defers⟩ w → Q (.panic c) a w) (hS : S w) : ∀ {listed : Array Bool} {a : Act}, takesOk md L is listed = true →
  (∀ K : Act → Prop, Shut (∀ a', wpAnyH P md L.toArray Q S fuel (sets listed is) a' w → K a') → TakesW P (yielded L.toArray) S (is.filterMap fun i => L[i]?) a K) → wpAnyH P md L.toArray Q S (fuel + is.length) listed a w := by
 induction is with
 | nil => exact fun _ h => h (fun a' => wpAnyH P md L.toArray Q S fuel _ a' w) (fun _ h => h)
 | cons i r ih =>
  intro listed a hok h
  unfold takesOk at hok
  simp only [Bool.and_eq_true] at hok
  obtain ⟨⟨hf, hr⟩, hok⟩ := hok
  cases hi : L[i]? with
  | none => exact absurd hr (by
    rw [List.contains_iff_mem, mem_ready]
    rintro ⟨_, o, ho, _⟩
    rw [List.getElem?_toArray, hi] at ho
    cases ho)
  | some o =>
   have h1 := h (fun a' => wpAnyH P md L.toArray Q S fuel (sets listed (i :: r)) a' w) (fun _ h => h)
   simp only [List.filterMap_cons, hi] at h1
   obtain ⟨hg, v, hv, h2⟩ := h1
   exact takeH i hi hs hf hr (fun c a w h => hQ c a _ w (by rw [put_form] at h; exact h)) hg hS hv (ih hok fun K hK => h2.mono fun a' h => hK a' h)
theorem fewX_ok (e : Ex Loc) (m : Nat) (mi : Int) (hmi : (m : Int) = mi) (w : World) (hm : m ≤ 60000) (hok : e.ok eT w) (hw : e.wt ≤ m) : Calls Tryz.prog 60 #[aggX e, .int .i64 mi] w fun r w' => r = .returned (.bool true) ∧ Below w.heap.size w w' := by
 have hc := fun w2 (h2 : Below w.heap.size w w2) => (fewE e m m w2 hm (by omega) (hok.below h2) (Ex.short_wt hw)).mono fun r w' ⟨⟨n, h1, h2, _⟩, h3⟩ => (⟨by rw [h1, h2 (.inr hw)], h3⟩ : r = Ending.returned (.int .i64 (e.wt : Nat)) ∧ _)
 have h6 := cellsE_size eT e
 obtain ⟨q, hq⟩ : ∃ q, q = e.wt := ⟨_, rfl⟩
 rw [← hq, hmi] at hc
 rw [← hq] at hw
 unfold aggX at hc ⊢
 obtain ⟨ce, hce⟩ : ∃ c, c = (e.cells eT).toArray := ⟨_, rfl⟩
 rw [← hce] at hc h6 ⊢
 have hB := new_below w (.cells ce 30)
 have hb := Blk.new w 30 ce
 have hi : (q : Int) ≤ mi := by omega
 replace hq := Lib.hid hq
 replace hce := Lib.hid hce
 replace hc := Lib.hid hc
 clear hok hmi
 go_enter Tryz.func60, Tryz.ntmps60
 go_upto_region 1 with (fail)
 generalize w.alloc (.cells ce 30) = W0 at *
 go_wp2_with (first
  | (refine wpList_load_rowW 30 (.tmp 2) rfl (by rfl) w.heap.size rfl 30 ce (0, 0) _ hb Tryz.underlying30 rfl (by rw [h6]; kernel_rfl) ?_; simp only [Act.put, List.setIfInBounds_toArray, List.set_cons_zero, List.set_cons_succ])
  | (go_at_call 100; refine (hc.out _ hB).mono ?_; rintro e w1 ⟨rfl, hB1⟩))
 go_ret
 exact ⟨rfl, below_and hB hB1⟩
theorem fewL_ok (ls : List (St Loc)) (lc : Loc) (m : Nat) (mi : Int) (hmi : (m : Int) = mi) (w : World) (hm : m ≤ 60000) (hok : Lst.ok eT w lc ls) (hw : wtL ls ≤ m) : Calls Tryz.prog 61 #[.slice lc.A ls.length lc.c, .int .i64 mi] w fun r w' => r = .returned (.bool true) ∧ Below w.heap.size w w' := by
 have hc := (fewS ls lc m m w hm (by omega) (Nat.le_trans (Nat.mul_le_mul (Nat.add_le_add_right hm 2) (Nat.add_le_add_right hm 1)) (by decide)) hok (allL_wt hw)).mono fun r w' ⟨⟨n, h1, h2, _⟩, h3⟩ => (⟨by rw [h1, h2 (.inr hw)], h3⟩ : r = Ending.returned (.int .i64 (wtL ls : Nat)) ∧ _)
 obtain ⟨q, hq⟩ : ∃ q, q = wtL ls := ⟨_, rfl⟩
 rw [← hq, hmi] at hc
 rw [← hq] at hw
 have hi : (q : Int) ≤ mi := by omega
 replace hq := Lib.hid hq
 replace hc := Lib.hid hc
 clear hmi
 go_enter Tryz.func61, Tryz.ntmps61
 go_wp2_with (go_at_call 101; refine hc.out.mono ?_; rintro e w1 ⟨rfl, hB1⟩)
 go_ret
 exact ⟨rfl, hB1⟩
section
variable {α : Type} {g : ByteArray → ByteArray}
mutual
theorem Ex.ren_plain : ∀ e : Ex α, e.plain.ren g = e.ren g
 | .mk h l s => by simp only [Ex.ren, Ex.plain, rens_plain s]
theorem rens_plain : ∀ l : List (Ex α), rens g (plains l) = rens g l
 | [] => rfl
 | x :: r => by simp only [rens, plains, x.ren_plain, rens_plain r]
end
mutual
theorem St.ren_plain : ∀ e : St α, e.plain.ren g = e.ren g
 | .mk h a b c ex th el => by simp only [St.ren, St.plain, rens_plain ex, renS_plain th, renS_plain el]
theorem renS_plain : ∀ l : List (St α), renS g (plainS l) = renS g l
 | [] => rfl
 | x :: r => by simp only [renS, plainS, x.ren_plain, renS_plain r]
end
theorem Hd.ren_kd (h : Hd) : (h.ren g).kd = h.kd ∧ (h.ren g).op = h.op ∧ (h.ren g).va = h.va := by unfold Hd.ren; split <;> exact ⟨rfl, rfl, rfl⟩
theorem Hd.ren_rng {h : Hd} (k : h.rng) : (h.ren g).rng := by
 obtain ⟨e1, e2, e3⟩ := h.ren_kd (g := g)
 unfold Hd.rng at *
 rw [e1, e2, e3]; exact k
theorem SHd.ren_rng {h : SHd} (k : h.rng) : (h.ren g).rng := by
 unfold SHd.rng SHd.ren at *
 split <;> exact k
mutual
theorem Ex.ren_rng : ∀ e : Ex α, e.all Hd.rng → (e.ren g).all Hd.rng
 | .mk h l s, k => ⟨Hd.ren_rng k.1, rens_rng s k.2⟩
theorem rens_rng : ∀ l : List (Ex α), allX Hd.rng l → allX Hd.rng (rens g l)
 | [], _ => trivial
 | x :: r, k => ⟨x.ren_rng k.1, rens_rng r k.2⟩
end
mutual
theorem St.ren_rng : ∀ e : St α, e.all Hd.rng SHd.rng → (e.ren g).all Hd.rng SHd.rng
 | .mk h a b c ex th el, k => ⟨SHd.ren_rng k.1, rens_rng ex k.2.1, renS_rng th k.2.2.1, renS_rng el k.2.2.2⟩
theorem renS_rng : ∀ l : List (St α), allL Hd.rng SHd.rng l → allL Hd.rng SHd.rng (renS g l)
 | [], _ => trivial
 | x :: r, k => ⟨x.ren_rng k.1, renS_rng r k.2⟩
end
theorem Hd.ren_sz (hg : ∀ s, (g s).size ≤ s.size + 1) (h : Hd) : (h.ren g).nm.size ≤ h.nm.size + 1 := by
 unfold Hd.ren
 split
 ·exact hg _
 ·omega
theorem SHd.ren_sz (hg : ∀ s, (g s).size ≤ s.size + 1) (h : SHd) : (h.ren g).nm.size ≤ h.nm.size + 1 := by
 unfold SHd.ren
 split
 ·exact hg _
 ·omega
mutual
theorem Ex.wt_ren (hg : ∀ s, (g s).size ≤ s.size + 1) : ∀ e : Ex α, (e.ren g).wt ≤ 2 * e.wt
 | .mk h l s => by have h1 := wtX_ren hg s; have h2 := h.ren_sz hg; simp only [Ex.ren, Ex.wt]; omega
theorem wtX_ren (hg : ∀ s, (g s).size ≤ s.size + 1) : ∀ l : List (Ex α), wtX (rens g l) ≤ 2 * wtX l
 | [] => Nat.le_refl _
 | x :: r => by have h1 := x.wt_ren hg; have h2 := wtX_ren hg r; simp only [rens, wtX]; omega
end
mutual
theorem St.wt_ren (hg : ∀ s, (g s).size ≤ s.size + 1) : ∀ e : St α, (e.ren g).wt ≤ 2 * e.wt
 | .mk h a b c ex th el => by have h1 := wtX_ren hg ex; have h2 := wtL_ren hg th; have h3 := wtL_ren hg el; have h4 := h.ren_sz hg; simp only [St.ren, St.wt]; omega
theorem wtL_ren (hg : ∀ s, (g s).size ≤ s.size + 1) : ∀ l : List (St α), wtL (renS g l) ≤ 2 * wtL l
 | [] => Nat.le_refl _
 | x :: r => by have h1 := x.wt_ren hg; have h2 := wtL_ren hg r; simp only [renS, wtL]; omega
end
end
theorem chg_sz {f t : ByteArray} (h : t.size ≤ 1) (s : ByteArray) : (chg f t s).size ≤ s.size + 1 := by
 unfold chg
 split <;> omega
def stepCh (acc : List ByteArray) (h : SHd) : List ByteArray := if h.kd = 8 then withL acc h.nm else acc
def stepNh (acc : List ByteArray) (h : Hd) : List ByteArray := if h.kd = 2 ∨ h.kd = 3 then withL acc h.nm else acc
section
variable {α β : Type}
theorem foldC_heads : ∀ (l : List (St α)) (acc : List ByteArray), l.foldl stepC acc = (l.map St.h).foldl stepCh acc
 | [], _ => rfl
 | x :: l, acc => by simp only [List.foldl_cons, List.map_cons]; exact foldC_heads l _
mutual
theorem St.heads_plain : ∀ e : St α, e.plain.nodes.map St.h = e.nodes.map St.h
 | .mk h a b c ex th el => by simp only [St.plain, St.nodes, List.map_cons, List.map_append, headsS_plain th, headsS_plain el]; rfl
theorem headsS_plain : ∀ l : List (St α), (nodesS (plainS l)).map St.h = (nodesS l).map St.h
 | [] => rfl
 | x :: r => by simp only [plainS, nodesS, List.map_append, x.heads_plain, headsS_plain r]
end
mutual
theorem Ex.heads_plain : ∀ e : Ex α, e.plain.nodes.map Ex.h = e.nodes.map Ex.h
 | .mk h l s => by simp only [Ex.plain, Ex.nodes, List.map_cons, headss_plain s]; rfl
theorem headss_plain : ∀ l : List (Ex α), (nodess (plains l)).map Ex.h = (nodess l).map Ex.h
 | [] => rfl
 | x :: r => by simp only [plains, nodess, List.map_append, x.heads_plain, headss_plain r]
end
theorem foldN_heads : ∀ (l : List (Ex α)) (acc : List ByteArray), l.foldl stepN acc = (l.map Ex.h).foldl stepNh acc
 | [], _ => rfl
 | x :: l, acc => by simp only [List.foldl_cons, List.map_cons]; exact foldN_heads l _
theorem names_of {a : Ex α} {b : Ex β} (h : a.plain = b.plain) : namesE a = namesE b := by
 unfold namesE
 rw [foldN_heads, foldN_heads, ← Ex.heads_plain a, h, Ex.heads_plain]
theorem calls_of {a : List (St α)} {b : List (St β)} (h : plainS a = plainS b) : callsS a = callsS b := by
 unfold callsS
 rw [foldC_heads, foldC_heads, ← headsS_plain a, h, headsS_plain]
theorem sameE_of {γ δ : Type} {a : Ex α} {b : Ex β} {c : Ex γ} {d : Ex δ} (h : a.plain = c.plain) (k : b.plain = d.plain) : a.same b = c.same d := by rw [Bool.eq_iff_iff, Ex.same_iff, Ex.same_iff, h, k]
theorem sameS_of {γ δ : Type} {a : List (St α)} {b : List (St β)} {c : List (St γ)} {d : List (St δ)} (h : plainS a = plainS c) (k : plainS b = plainS d) : sameS a b = sameS c d := by rw [Bool.eq_iff_iff, sameS_iff, sameS_iff, h, k]
end
def exN (p : Ex Unit) (v : Value) (lo hi : Nat) (W : World) : Prop := ∃ e : Ex Loc, v = .agg (e.cells eT).toArray ∧ e.plain = p ∧ e.own eT W lo ∧ e.fp.Nodup ∧ ∀ b ∈ e.fp, b < hi
def stN (p : List (St Unit)) (v : Value) (lo hi : Nat) (W : World) : Prop := ∃ (A : Option Addr) (c : Nat) (os : List (St Loc)), v = .slice A os.length c ∧ plainS os = p ∧ Lst.own eT W lo ⟨A, c⟩ os ∧ (Lst.fp ⟨A, c⟩ os).Nodup ∧ ∀ b ∈ Lst.fp ⟨A, c⟩ os, b < hi
def bXn (i k : Nat) (p : Ex Unit) : BagOp := ⟨i, [], fun x lo hi W => exN p (x k) lo hi W, fun _ _ _ _ _ _ hb ⟨e, h1, h2, h3, h4⟩ => ⟨e, h1, h2, (keep_ex eT _ e).new h3 hb, h4⟩⟩
def bSn (i k : Nat) (p : List (St Unit)) : BagOp := ⟨i, [], fun x lo hi W => stN p (x k) lo hi W, fun _ _ _ _ _ _ hb ⟨A, c, os, h1, h2, h3, h4⟩ => ⟨A, c, os, h1, h2, h3.new hb, h4⟩⟩
theorem theirXR (e : Ex Loc) (w : World) (hok : e.ok eT w) (hr : e.all Hd.rng) (hs : e.sz ≤ 60000) : Calls Tryz.prog 62 #[aggX e] w fun r w' => (∃ v, r = .returned v ∧ exR eR e.plain v w.heap.size w'.heap.size w') ∧ Below w.heap.size w w' :=
 (theirX e w hok hr hs).mono fun r w' ⟨⟨k, o, v, wd, n, A, c, s, h1, h2, h3⟩, hb⟩ => ⟨⟨_, h1, Ex.mk ⟨k, o, v, wd, n⟩ (⟨A, c⟩ : Loc) s, rfl, h2, h3, fun b hm => (h3.ge b hm).2⟩, hb⟩
theorem theirSR (l : List (St Loc)) (lc : Loc) (w : World) (hok : Lst.ok eT w lc l) (hr : allL Hd.rng SHd.rng l) (hs : szS l ≤ 60000) : Calls Tryz.prog 63 #[.slice lc.A l.length lc.c] w fun r w' => (∃ v, r = .returned v ∧ stR eR (plainS l) v w.heap.size w'.heap.size w') ∧ Below w.heap.size w w' :=
 (theirS l lc w hok hr hs).mono fun r w' ⟨⟨A, c, os, h1, h2, h3⟩, hb⟩ => ⟨⟨_, h1, A, c, os, rfl, h2, h3, fun b hm => (h3.ge b hm).2⟩, hb⟩
theorem copyEN (e : Ex Loc) (w : World) (hok : e.ok eT w) (hs : e.sz ≤ 20000) : Calls Tryz.prog 12 #[aggX e] w fun r w' => (∃ v, r = .returned v ∧ exN e.plain v w.heap.size w'.heap.size w') ∧ Below w.heap.size w w' :=
 (copyE_yes e w hok hs).mono fun r w' ⟨L, h1, h2, h3, h4, hb⟩ => ⟨⟨_, h1, L, rfl, h2, h3, h4, fun b hm => (h3.ge b hm).2⟩, hb⟩
theorem renEN (e : Ex Loc) (f t : ByteArray) (w : World) (hok : e.ok eT w) (hs : e.sz ≤ 20000) : Calls Tryz.prog 13 #[aggX e, .string f, .string t] w fun r w' => (∃ v, r = .returned v ∧ exN (e.ren (chg f t)) v w.heap.size w'.heap.size w') ∧ Below w.heap.size w w' :=
 (rename_yes e f t w hok hs).mono fun r w' ⟨L, h1, h2, h3, h4, hb⟩ => ⟨⟨_, h1, L, rfl, h2, h3, h4, fun b hm => (h3.ge b hm).2⟩, hb⟩
theorem copySN (l : List (St Loc)) (lc : Loc) (w : World) (hok : Lst.ok eT w lc l) (hs : szS l ≤ 20000) : Calls Tryz.prog 16 #[.slice lc.A l.length lc.c] w fun r w' => (∃ v, r = .returned v ∧ stN (plainS l) v w.heap.size w'.heap.size w') ∧ Below w.heap.size w w' :=
 (copyS_yes l lc w hok hs).mono fun r w' ⟨A, c, os, h1, hl, h2, h3, h4, hb⟩ => ⟨⟨_, h1, A, c, os, by rw [hl], h2, h3, h4, fun b hm => (h3.ge b hm).2⟩, hb⟩
theorem renSN (l : List (St Loc)) (lc : Loc) (f t : ByteArray) (w : World) (hok : Lst.ok eT w lc l) (hs : szS l ≤ 20000) : Calls Tryz.prog 17 #[.slice lc.A l.length lc.c, .string f, .string t] w fun r w' => (∃ v, r = .returned v ∧ stN (renS (chg f t) l) v w.heap.size w'.heap.size w') ∧ Below w.heap.size w w' :=
 (renameS_yes l lc f t w hok hs).mono fun r w' ⟨A, c, os, h1, hl, h2, h3, h4, hb⟩ => ⟨⟨_, h1, A, c, os, by rw [hl], h2, h3, h4, fun b hm => (h3.ge b hm).2⟩, hb⟩
theorem namesR (e : Ex Loc) (w : World) (hok : e.ok eT w) (hs : e.sz ≤ 20000) : Calls Tryz.prog 11 #[aggX e] w fun r w' => (∃ v, r = .returned v ∧ NmR (namesE e) v w') ∧ Below w.heap.size w w' :=
 (names_ok e w hok hs).mono fun r w' ⟨⟨v, h1, h2⟩, hb⟩ => ⟨⟨v, h1, NmR.of_own h2⟩, hb⟩
theorem callsR (l : List (St Loc)) (lc : Loc) (w : World) (hok : Lst.ok eT w lc l) (hs : szS l ≤ 20000) : Calls Tryz.prog 18 #[.slice lc.A l.length lc.c] w fun r w' => (∃ v, r = .returned v ∧ NmR (callsS l) v w') ∧ Below w.heap.size w w' :=
 (calls_ok l lc w hok hs).mono fun r w' ⟨⟨v, h1, h2⟩, hb⟩ => ⟨⟨v, h1, NmR.of_own h2⟩, hb⟩
end Go.Proofs.YtnldbplphgfpeaaGreat
