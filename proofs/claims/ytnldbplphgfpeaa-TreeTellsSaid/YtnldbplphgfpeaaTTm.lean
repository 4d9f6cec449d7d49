/- Alike: a program against one of the reference; tells. -/
import Derived.Test.YtnldbplphgfpeaaTTp
import Derived.Test.YtnldbplphgfpeaaTFp
import Derived.Test.YtnldbplphgfpeaaTQb
import Derived.Test.YtnldbplphgfpeaaTOy
import Derived.Test.YtnldbplphgfpeaaTPy
namespace Go.Proofs.Ytnldbplphgfpeaa
open Go Go.RowKit Go.Shelf
set_option linter.unusedVariables false
set_option linter.unusedSimpArgs false
set_option maxHeartbeats 16000000
theorem range_blkA {W : World} {g t : Nat} {cs : Array Value} (h : Blk W g t cs) : W.rangeAt g 0 cs.toList := fun j v hv => by
  have h1 := h.cell j
  rw [Nat.zero_add, h1]
  simpa using hv
theorem load_rowA {P : Program} {S : World → Prop} {oi : Oper} {a : Act} (ty : TypeId) (x : Operand) (ho : oi.op = .load ty x) (b : Nat) (hx : a.eval x = .pointer (some ⟨b, 0, none⟩)) (cs : Array Value) (d : TypeDesc) {t : Nat} (hS : ∀ w, S w → Blk w b t cs)
    (hu : P.underlying ty = some d) (hd : d.isRow = true) (hi : (P.info? ty).map (·.size) = some cs.size) : ∀ w, S w → (execOp a.eval oi).run P w = .ok (.value (.agg cs)) w := fun w hw => by
  unfold execOp
  simp only [ho, hx, Instr.loadAt, Instr.sureAddr, Sem.run_bind, Sem.run_pure, Result.andThen_ok, run_loadVar_mid w b 0 ty cs.toList d (range_blkA (hS w hw)) hu hd (by rw [Array.length_toList]; exact hi)]
/-- The two boxes of programs. -/
structure Bx2 (g1 g2 : Nat) (cp cq : Array Value) (lo : Nat) (p q : Pg Loc) (W : World) : Prop where
  b1 : Blk W g1 35 cp
  b2 : Blk W g2 113 cq
  p : p.ok eT W
  q : q.ok eR W
theorem Pg.ok.new {E : Enc} {W W' : World} {p : Pg Loc} (h : p.ok E W) (hb : Below W.heap.size W W') : p.ok E W' := h.below hb
theorem Bx2.new {g1 g2 : Nat} {cp cq : Array Value} {lo : Nat} {p q : Pg Loc} {W W' : World} (h : Bx2 g1 g2 cp cq lo p q W) (hb : Below W.heap.size W W') : Bx2 g1 g2 cp cq lo p q W' :=
  ⟨h.b1.below hb h.b1.lt, h.b2.below hb h.b2.lt, h.p.new hb, h.q.new hb⟩
theorem cellsT_size (E : Enc) (p : Pg Loc) : (p.cells E).toArray.size = 22 := Pg.cells_len E p
set_option maxRecDepth 100000 in
theorem alike_ok (p q : Pg Loc) (w : World) (hp : p.ok eT w) (hr : p.rng) (hw : p.wt ≤ 1500) (hq : q.ok eR w) : Calls Try.prog 66 #[aggP p, aggRP q] w fun r w' => r = .returned (.bool (p.same q)) ∧ Below w.heap.size w w' := by
  obtain ⟨R, hR⟩ : ∃ R, R = p.same q := ⟨_, rfl⟩
  rw [← hR]
  unfold aggP aggRP
  have hcp := cellsT_size eT p
  have hcq := cellsT_size eR q
  have hsz := p.sz_wt
  have hF : ∀ W, p.ok eT W → Calls Try.prog 63 #[aggP p, .int .i64 60000] W fun r w' => r = .returned (.bool true) ∧ Below W.heap.size W w' := fun W h =>
    (few_ok p 60000 1500 W (by omega) (by omega) (by omega) h (Pg.fit_wt hw)).mono fun r w' ⟨h1, h2⟩ => ⟨by rw [h1, decide_eq_true (by omega)], h2⟩
  have hT : ∀ W, p.ok eT W → Calls Try.prog 64 #[aggP p] W fun r w' => (∃ L : Pg Loc, r = .returned (aggRP L) ∧ L.plain = p.plain ∧ L.ok eR w' ∧ ∀ b ∈ L.blks, W.heap.size ≤ b) ∧ Below W.heap.size W w' := fun W h => theirP p W h hr (by omega)
  unfold aggP at hF hT
  obtain ⟨cp, hcpe⟩ : ∃ c, c = (p.cells eT).toArray := ⟨_, rfl⟩
  obtain ⟨cq, hcqe⟩ : ∃ c, c = (q.cells eR).toArray := ⟨_, rfl⟩
  rw [← hcpe] at hF hT hcp ⊢
  rw [← hcqe] at hcq ⊢
  have hB := ((Below.refl _ w).alloc (Nat.le_refl _) (.cells cp 35)).alloc (by simp) (.cells cq 113)
  have hb1 := (Blk.new w 35 cp).alloc (.cells cq 113)
  have hb2 := Blk.new (w.alloc (.cells cp 35)) 113 cq
  rw [World.size_alloc] at hb2
  have hS0 : Bx2 w.heap.size (w.heap.size + 1) cp cq 0 p q ((w.alloc (.cells cp 35)).alloc (.cells cq 113)).drew := Bx2.new ⟨hb1, hb2, hp.new hB, hq.new hB⟩ ((Below.refl _ _).drew)
  have hBd := hB.drew
  replace hS0 := Lib.hid hS0
  replace hBd := Lib.hid hBd
  replace hF := Lib.hid hF
  replace hT := Lib.hid hT
  replace hR := Lib.hid hR
  replace hcpe := Lib.hid hcpe
  replace hcqe := Lib.hid hcqe
  clear hB hb1 hb2 hp hq hw hsz
  go_enter Try.func66, Try.ntmps66
  go_upto_region 1 with (fail)
  have hS := hS0.out
  have hB := hBd.out
  clear hS0 hBd
  refine wp_region_held (S := Bx2 w.heap.size (w.heap.size + 1) cp cq 0 p q) (by kernel_rfl) ?_
  change wpAnyH _ _ _ _ _ _ _ _ (World.drew _)
  generalize ((w.alloc (.cells cp 35)).alloc (.cells cq 113)).drew = U0 at *
  refine takeH 0 (v := .agg cp) rfl (by kernel_rfl) (by kernel_rfl) (by kernel_rfl) (fun _ _ _ h => h) (by rfl) hS (load_rowA (S := Bx2 w.heap.size (w.heap.size + 1) cp cq 0 p q) 35 (.tmp 2) rfl w.heap.size rfl cp _ (fun W h => h.b1) Try.underlying35 rfl (by rw [hcp]; kernel_rfl)) ?_
  try simp only [Act.put, List.setIfInBounds_toArray, List.set_cons_zero, List.set_cons_succ]
  refine callH 1 rfl (by kernel_rfl) (fun K hK => ?_)
  go_simp
  refine (hF.out _ hS.p).mono ?_
  rintro e U1 ⟨rfl, hB1⟩
  have hB2 := below_and hB hB1
  refine hK.out _ _ (hS.new hB1) (fun hSn => ?_)
  clear hK K hS
  have hS := hSn
  clear hSn
  refine takeH 2 (v := ?_) rfl (by kernel_rfl) (by kernel_rfl) (by kernel_rfl) (fun _ _ _ h => h) (by rfl) hS ?_ ?_
  rotate_left
  · (intro wz hSw; clear hSw; go_simp; try with_reducible rfl)
  try simp only [Act.put, List.setIfInBounds_toArray, List.set_cons_zero, List.set_cons_succ]
  refine takeH 3 (v := .agg cp) rfl (by kernel_rfl) (by kernel_rfl) (by kernel_rfl) (fun _ _ _ h => h) (by rfl) hS (load_rowA (S := Bx2 w.heap.size (w.heap.size + 1) cp cq 0 p q) 35 (.tmp 2) rfl w.heap.size rfl cp _ (fun W h => h.b1) Try.underlying35 rfl (by rw [hcp]; kernel_rfl)) ?_
  try simp only [Act.put, List.setIfInBounds_toArray, List.set_cons_zero, List.set_cons_succ]
  refine takeH 5 (v := .agg cq) rfl (by kernel_rfl) (by kernel_rfl) (by kernel_rfl) (fun _ _ _ h => h) (by rfl) hS (load_rowA (S := Bx2 w.heap.size (w.heap.size + 1) cp cq 0 p q) 113 (.tmp 3) rfl (w.heap.size + 1) rfl cq _ (fun W h => h.b2) Try.underlying113 rfl (by rw [hcq]; kernel_rfl)) ?_
  try simp only [Act.put, List.setIfInBounds_toArray, List.set_cons_zero, List.set_cons_succ]
  refine callH 4 rfl (by kernel_rfl) (fun K hK => ?_)
  go_simp
  refine (hT.out _ hS.p).mono ?_
  rintro e U2 ⟨⟨L, rfl, hLp, hLo, hLb⟩, hB3⟩
  have hB4 := below_and hB2 hB3
  refine hK.out _ _ (hS.new hB3) (fun hSn => ?_)
  clear hK K hS
  have hS := hSn
  clear hSn
  have hc := rsameP L q U2 hLo hS.q
  unfold aggRP at hc
  rw [← hcqe.out] at hc
  unfold aggRP
  replace hc := Lib.hid hc
  obtain ⟨cL, hcL⟩ : ∃ c, c = (L.cells eR).toArray := ⟨_, rfl⟩
  rw [← hcL] at hc ⊢
  replace hcL := Lib.hid hcL
  refine callH 6 rfl (by kernel_rfl) (fun K hK => ?_)
  go_simp
  refine hc.out.mono ?_
  rintro e U3 ⟨rfl, hB5⟩
  have hB6 := below_and hB4 hB5
  refine hK.out _ _ (hS.new hB5) (fun hSn => ?_)
  clear hK K hS
  have hS := hSn
  clear hSn
  refine takeH 7 (v := ?_) rfl (by kernel_rfl) (by kernel_rfl) (by kernel_rfl) (fun _ _ _ h => h) (by rfl) hS ?_ ?_
  rotate_left
  · (intro wz hSw; clear hSw; go_simp; try with_reducible rfl)
  try simp only [Act.put, List.setIfInBounds_toArray, List.set_cons_zero, List.set_cons_succ]
  refine takeH 8 (v := ?_) rfl (by kernel_rfl) (by kernel_rfl) (by kernel_rfl) (fun _ _ _ h => h) (by rfl) hS ?_ ?_
  rotate_left
  · (intro wz hSw; clear hSw; go_simp; try with_reducible rfl)
  try simp only [Act.put, List.setIfInBounds_toArray, List.set_cons_zero, List.set_cons_succ]
  refine wpAnyH_done (by kernel_rfl) ?_ _
  clear hS
  have hRL : L.same q = R := by
    rw [hR.out, Bool.eq_iff_iff, Pg.same_iff, Pg.same_iff, hLp]
  replace hRL := Lib.hid hRL
  go_wp2_with fail
  go_ret
  exact ⟨ret_b hRL.out, hB6⟩
/-- What stays: the two programs, in their boxes. -/
structure Tb (g1 g2 : Nat) (ca cb : Array Value) (a b : Pg Loc) (W : World) : Prop where
  b1 : Blk W g1 35 ca
  b2 : Blk W g2 35 cb
  a : a.ok eT W
  b : b.ok eT W
theorem Tb.new {g1 g2 : Nat} {ca cb : Array Value} {a b : Pg Loc} {W W' : World} (h : Tb g1 g2 ca cb a b W) (hb : Below W.heap.size W W') : Tb g1 g2 ca cb a b W' :=
  ⟨h.b1.below hb h.b1.lt, h.b2.below hb h.b2.lt, h.a.below hb, h.b.below hb⟩
theorem cells_oneE (E : Enc) (p : Pg Loc) : (p.cells E).toArray.all (·.oneCell') = true := by
  refine all_oneCell_toArray fun u hu => ?_
  obtain ⟨bl, wd, li, ins, lg, gh, lv, va, la, ar, req, ln, inits, lpr, procs, lw, work, lr, recov, inv⟩ := p
  simp only [Pg.cells, List.mem_cons, List.mem_append] at hu
  rcases hu with rfl | rfl | rfl | rfl | rfl | rfl | hu | rfl | rfl | rfl | rfl | hu
  · rfl
  · rfl
  · rfl
  · rfl
  · rfl
  · rfl
  · exact req.cells_one E u hu
  · rfl
  · rfl
  · rfl
  · rfl
  · exact inv.cells_one E u hu
/-- A program that lies in memory, whatever happens in a block that is none of its own. -/
theorem Pg.ok.onlyG {E : Enc} {W W' : World} {p : Pg Loc} {fp : List Nat} (h : p.ok E W) (ho : Only fp W W') (hn : ∀ b ∈ p.blks, b ∉ fp) : p.ok E W' :=
  h.keep (S := fun b => b ∈ p.blks) (fun q u hq hc => by
    have h1 := ho.block q.block (cell_lt hc) (hn _ hq)
    exact (World.cell?_of_block h1).trans hc) fun b hb => hb
/-- What stays while programs are compared. -/
structure Tc (g1 g2 g5 g6 g7 : Nat) (ca cb cx cy cc : Array Value) (a b x y c : Pg Loc) (base : Nat) (W : World) : Prop where
  t : Tb g1 g2 ca cb a b W
  b5 : Blk W g5 113 cx
  b6 : Blk W g6 113 cy
  b7 : Blk W g7 35 cc
  x : x.ok eR W
  y : y.ok eR W
  c : c.own W base
theorem Tc.new {g1 g2 g5 g6 g7 : Nat} {ca cb cx cy cc : Array Value} {a b x y c : Pg Loc} {base : Nat} {W W' : World} (h : Tc g1 g2 g5 g6 g7 ca cb cx cy cc a b x y c base W) (hb : Below W.heap.size W W') : Tc g1 g2 g5 g6 g7 ca cb cx cy cc a b x y c base W' :=
  ⟨h.t.new hb, h.b5.below hb h.b5.lt, h.b6.below hb h.b6.lt, h.b7.below hb h.b7.lt, h.x.below hb, h.y.below hb, (keep_pg _ c).new h.c hb⟩
theorem same_of {α β γ δ : Type} {p : Pg α} {q : Pg β} {p' : Pg γ} {q' : Pg δ} (h : p.plain = p'.plain) (k : q.plain = q'.plain) : p.same q = p'.same q' := by
  rw [Bool.eq_iff_iff, Pg.same_iff, Pg.same_iff, h, k]
theorem same_yes {α β : Type} {p : Pg α} {q : Pg β} (h : p.plain = q.plain) : p.same q = true := Pg.same_iff.2 h
set_option maxRecDepth 100000 in
theorem tells_ok (a b : Pg Loc) (w : World) (ha : a.ok eT w) (hb : b.ok eT w) (fa : a.fit reachBytes) (fb : b.fit reachBytes) (ra : a.rng) (rb : b.rng) :
    Calls Try.prog 29 #[aggP a, aggP b] w fun e w' => e = .returned (.bool true) ∧ Below w.heap.size w w' := by
  have hF : ∀ (p : Pg Loc), p.fit reachBytes → ∀ W, p.ok eT W → Calls Try.prog 63 #[aggP p, .int .i64 1500] W fun r w' => r = .returned (.bool (decide (p.wt ≤ 1500))) ∧ Below W.heap.size W w' := fun p hf W h => few_ok p 1500 reachBytes W (by omega) (by decide) (by decide) h hf
  have hFa := hF a fa
  have hFb := hF b fb
  clear hF
  have hca := cellsT_size eT a
  have hcb := cellsT_size eT b
  unfold aggP at hFa hFb
  unfold aggP
  obtain ⟨ca, hcae⟩ : ∃ c, c = (a.cells eT).toArray := ⟨_, rfl⟩
  obtain ⟨cb, hcbe⟩ : ∃ c, c = (b.cells eT).toArray := ⟨_, rfl⟩
  rw [← hcae] at hFa hca ⊢
  rw [← hcbe] at hFb hcb ⊢
  have hB := ((Below.refl _ w).alloc (Nat.le_refl _) (.cells ca 35)).alloc (by simp) (.cells cb 35)
  have hb1 := (Blk.new w 35 ca).alloc (.cells cb 35)
  have hb2 := Blk.new (w.alloc (.cells ca 35)) 35 cb
  rw [World.size_alloc] at hb2
  have hS : Tb w.heap.size (w.heap.size + 1) ca cb a b ((w.alloc (.cells ca 35)).alloc (.cells cb 35)) := ⟨hb1, hb2, ha.below hB, hb.below hB⟩
  have hsa := a.sz_wt
  have hsb := b.sz_wt
  replace hS := Lib.hid hS
  replace hB := Lib.hid hB
  replace hFa := Lib.hid hFa
  replace hFb := Lib.hid hFb
  replace hcae := Lib.hid hcae
  replace hcbe := Lib.hid hcbe
  replace hsa := Lib.hid hsa
  replace hsb := Lib.hid hsb
  replace ra := Lib.hid ra
  replace rb := Lib.hid rb
  clear hb1 hb2 ha hb fa fb
  go_enter Try.func29, Try.ntmps29
  go_upto_region 1 with (fail)
  generalize (w.alloc (.cells ca 35)).alloc (.cells cb 35) = W0 at *
  obtain ⟨g1, hg1⟩ : ∃ g, w.heap.size = g := ⟨_, rfl⟩
  obtain ⟨g2, hg2⟩ : ∃ g, w.heap.size + 1 = g := ⟨_, rfl⟩
  rw [hg2, hg1]
  rw [hg2, hg1] at hS
  replace hg1 := Lib.hid hg1
  replace hg2 := Lib.hid hg2
  have hS1 := hS.out
  have h1 := hS1.b1
  go_wp2_with (refine wpList_load_rowW 35 (.tmp 2) rfl (by rfl) g1 rfl 35 ca (0, 0) _ h1 Try.underlying35 rfl (by rw [hca]; kernel_rfl) ?_; refine Shut.out ?_)
  refine shut_mkP ?_
  try simp only [Act.put, List.setIfInBounds_toArray, List.set_cons_zero, List.set_cons_succ]
  clear h1
  obtain ⟨ba, hba⟩ : ∃ q, q = decide (a.wt ≤ 1500) := ⟨_, rfl⟩
  obtain ⟨bb, hbb⟩ : ∃ q, q = decide (b.wt ≤ 1500) := ⟨_, rfl⟩
  rw [← hba] at hFa
  rw [← hbb] at hFb
  replace hba := Lib.hid hba
  replace hbb := Lib.hid hbb
  have hc := Lib.hid (hFa.out _ hS1.a)
  clear hS1
  go_wp2_with fail
  refine hc.out.mono ?_
  rintro e W1 ⟨rfl, hB1⟩
  clear hc
  replace hS := Lib.hid (hS.out.new hB1)
  replace hB := Lib.hid (below_and hB.out hB1)
  clear hB1
  cases ba
  · go_wp2
    go_ret
    exact ⟨rfl, hB.out⟩
  have hS1 := hS.out
  have h1 := hS1.b2
  go_wp2_with (refine wpList_load_rowW 35 (.tmp 3) rfl (by rfl) g2 rfl 35 cb (0, 0) _ h1 Try.underlying35 rfl (by rw [hcb]; kernel_rfl) ?_; refine Shut.out ?_)
  refine shut_mkP ?_
  try simp only [Act.put, List.setIfInBounds_toArray, List.set_cons_zero, List.set_cons_succ]
  clear h1
  have hc := Lib.hid (hFb.out _ hS1.b)
  clear hS1
  go_wp2_with fail
  refine hc.out.mono ?_
  rintro e W2 ⟨rfl, hB1⟩
  clear hc
  replace hS := Lib.hid (hS.out.new hB1)
  replace hB := Lib.hid (below_and hB.out hB1)
  clear hB1
  cases bb
  · go_wp2
    go_ret
    exact ⟨rfl, hB.out⟩
  have wa : a.wt ≤ 1500 := by have := hba.out; simpa using this.symm
  have wb : b.wt ≤ 1500 := by have := hbb.out; simpa using this.symm
  clear hba hbb hFa hFb
  have hTa : ∀ W, a.ok eT W → Calls Try.prog 64 #[.agg ca] W fun r w' => (∃ L : Pg Loc, r = .returned (aggRP L) ∧ L.plain = a.plain ∧ L.ok eR w' ∧ ∀ b ∈ L.blks, W.heap.size ≤ b) ∧ Below W.heap.size W w' := fun W h => by
    have h1 := theirP a W h ra.out (by have := hsa.out; omega)
    unfold aggP at h1
    rw [← hcae.out] at h1
    exact h1
  have hTb : ∀ W, b.ok eT W → Calls Try.prog 64 #[.agg cb] W fun r w' => (∃ L : Pg Loc, r = .returned (aggRP L) ∧ L.plain = b.plain ∧ L.ok eR w' ∧ ∀ b ∈ L.blks, W.heap.size ≤ b) ∧ Below W.heap.size W w' := fun W h => by
    have h1 := theirP b W h rb.out (by have := hsb.out; omega)
    unfold aggP at h1
    rw [← hcbe.out] at h1
    exact h1
  replace hTa := Lib.hid hTa
  replace hTb := Lib.hid hTb
  go_upto_region 3 with (fail)
  go_cut [5, 6] (fun v5 v6 wx => ∃ (g5 g6 : Nat) (x y : Pg Loc) (cx cy : Array Value), v5 = .pointer (some ⟨g5, 0, none⟩) ∧ v6 = .pointer (some ⟨g6, 0, none⟩) ∧ cx = (x.cells eR).toArray ∧ cy = (y.cells eR).toArray ∧ Blk wx g5 113 cx ∧ Blk wx g6 113 cy ∧ x.ok eR wx ∧ y.ok eR wx ∧ x.plain = a.plain ∧ y.plain = b.plain ∧ Tb g1 g2 ca cb a b wx ∧ Below W2.heap.size W2 wx)
  case first =>
    have hS0 := hS.out.new ((Below.refl _ W2).drew)
    have hBd := Lib.hid ((Below.refl W2.heap.size W2).drew)
    have hsl := Lib.hid hS.out.b1.lt
    have hsl2 := Lib.hid hS.out.b2.lt
    have hS := hS0
    clear hS0
    refine wp_region_held (S := Tb g1 g2 ca cb a b) (by kernel_rfl) ?_
    change wpAnyH _ _ _ _ _ _ _ _ (World.drew _)
    have haL := Lib.hid (fun b hm => (hS.a.lt b hm : b < W2.drew.heap.size))
    have hbL := Lib.hid (fun b hm => (hS.b.lt b hm : b < W2.drew.heap.size))
    replace haL : Hid (∀ b ∈ a.blks, b < W2.heap.size) := haL
    replace hbL : Hid (∀ b' ∈ b.blks, b' < W2.heap.size) := hbL
    refine takeH 0 (v := .agg ca) rfl (by kernel_rfl) (by kernel_rfl) (by kernel_rfl) (fun _ _ _ h => h) (by rfl) hS (load_rowA (S := Tb g1 g2 ca cb a b) 35 (.tmp 2) rfl g1 rfl ca _ (fun W h => h.b1) Try.underlying35 rfl (by rw [hca]; kernel_rfl)) ?_
    try simp only [Act.put, List.setIfInBounds_toArray, List.set_cons_zero, List.set_cons_succ]
    refine takeH 2 (v := .agg cb) rfl (by kernel_rfl) (by kernel_rfl) (by kernel_rfl) (fun _ _ _ h => h) (by rfl) hS (load_rowA (S := Tb g1 g2 ca cb a b) 35 (.tmp 3) rfl g2 rfl cb _ (fun W h => h.b2) Try.underlying35 rfl (by rw [hcb]; kernel_rfl)) ?_
    try simp only [Act.put, List.setIfInBounds_toArray, List.set_cons_zero, List.set_cons_succ]
    refine callH3 1 4 5 rfl rfl rfl (by kernel_rfl) (fun K hK => ?_) (fun K hK => ?_) (fun K hK => ?_)
    · go_simp
      have hcc := Lib.hid (hTa.out _ hS.a)
      refine hcc.out.mono ?_
      rintro e U1 ⟨⟨x, rfl, hpx, hox, hlx⟩, hB2⟩
      clear hcc
      have hS' := hS.new hB2
      have hBN1 := Lib.hid (below_and hBd.out hB2)
      have hx0 := Lib.hid hox
      have hlox := Lib.hid (fun b hm => Nat.le_trans hBd.out.size (hlx b hm))
      clear hB2 hox hlx
      refine hK.out _ _ (hS') (fun hSn => ?_)
      clear hK K hS
      have hS := hSn
      clear hSn
      refine callH3 3 4 5 rfl rfl rfl (by kernel_rfl) (fun K hK => ?_) (fun K hK => ?_) (fun K hK => ?_)
      · go_simp
        have hcc := Lib.hid (hTb.out _ hS.b)
        refine hcc.out.mono ?_
        rintro e U2 ⟨⟨y, rfl, hpy, hoy, hly⟩, hB2⟩
        clear hcc
        have hS' := hS.new hB2
        have hBN2 := Lib.hid (below_and hBN1.out hB2)
        have hxN2 := Lib.hid (hx0.out.below hB2)
        have hy0 := Lib.hid hoy
        have hloy := Lib.hid (fun b hm => Nat.le_trans hBN1.out.size (hly b hm))
        clear hB2 hoy hly
        refine hK.out _ _ (hS') (fun hSn => ?_)
        clear hK K hS
        have hS := hSn
        clear hSn
        refine callH2 4 5 rfl rfl (by kernel_rfl) (fun K hK => ?_) (fun K hK => ?_)
        · go_simp
          have hBz := (Below.refl _ (U2)).alloc (Nat.le_refl _) (.cells #[.int .i64 0, .int .i64 0, .slice none 0 0, .slice none 0 0, .slice none 0 0, .slice none 0 0, .int .i64 0, .int .i64 0, .int .i64 0, .int .i64 0, .string ⟨#[]⟩, .slice none 0 0, .slice none 0 0, .slice none 0 0, .slice none 0 0, .slice none 0 0, .int .i64 0, .int .i64 0, .int .i64 0, .int .i64 0, .string ⟨#[]⟩, .slice none 0 0] 113)
          have hG50 := Blk.new (U2) 113 #[.int .i64 0, .int .i64 0, .slice none 0 0, .slice none 0 0, .slice none 0 0, .slice none 0 0, .int .i64 0, .int .i64 0, .int .i64 0, .int .i64 0, .string ⟨#[]⟩, .slice none 0 0, .slice none 0 0, .slice none 0 0, .slice none 0 0, .slice none 0 0, .int .i64 0, .int .i64 0, .int .i64 0, .int .i64 0, .string ⟨#[]⟩, .slice none 0 0]
          obtain ⟨g5, hg5⟩ : ∃ g, (U2).heap.size = g := ⟨_, rfl⟩
          rw [hg5] at hG50
          try rw [hg5]
          have hgw5 : W2.heap.size ≤ g5 := by have := hBN2.out.size; omega
          have hS' := hS.new hBz
          have hnx5 : Hid (g5 ∈ x.blks → False) := Lib.hid (fun hm => by have h1 := hxN2.out.lt _ hm; omega)
          have hny5 : Hid (g5 ∈ y.blks → False) := Lib.hid (fun hm => by have h1 := hy0.out.lt _ hm; omega)
          have hBN3 := Lib.hid (below_and hBN2.out hBz)
          have hxN3 := Lib.hid (hxN2.out.below hBz)
          have hyN3 := Lib.hid (hy0.out.below hBz)
          replace hG50 := Lib.hid hG50
          generalize (U2).alloc (.cells #[.int .i64 0, .int .i64 0, .slice none 0 0, .slice none 0 0, .slice none 0 0, .slice none 0 0, .int .i64 0, .int .i64 0, .int .i64 0, .int .i64 0, .string ⟨#[]⟩, .slice none 0 0, .slice none 0 0, .slice none 0 0, .slice none 0 0, .slice none 0 0, .int .i64 0, .int .i64 0, .int .i64 0, .int .i64 0, .string ⟨#[]⟩, .slice none 0 0] 113) = U3 at *
          clear hBz hg5
          refine hK.out _ _ (hS') (fun hSn => ?_)
          clear hK K hS
          have hS := hSn
          clear hSn
          refine callH 5 rfl (by kernel_rfl) (fun K hK => ?_)
          go_simp
          have hBz := (Below.refl _ (U3)).alloc (Nat.le_refl _) (.cells #[.int .i64 0, .int .i64 0, .slice none 0 0, .slice none 0 0, .slice none 0 0, .slice none 0 0, .int .i64 0, .int .i64 0, .int .i64 0, .int .i64 0, .string ⟨#[]⟩, .slice none 0 0, .slice none 0 0, .slice none 0 0, .slice none 0 0, .slice none 0 0, .int .i64 0, .int .i64 0, .int .i64 0, .int .i64 0, .string ⟨#[]⟩, .slice none 0 0] 113)
          have hG60 := Blk.new (U3) 113 #[.int .i64 0, .int .i64 0, .slice none 0 0, .slice none 0 0, .slice none 0 0, .slice none 0 0, .int .i64 0, .int .i64 0, .int .i64 0, .int .i64 0, .string ⟨#[]⟩, .slice none 0 0, .slice none 0 0, .slice none 0 0, .slice none 0 0, .slice none 0 0, .int .i64 0, .int .i64 0, .int .i64 0, .int .i64 0, .string ⟨#[]⟩, .slice none 0 0]
          obtain ⟨g6, hg6⟩ : ∃ g, (U3).heap.size = g := ⟨_, rfl⟩
          rw [hg6] at hG60
          try rw [hg6]
          have hgw6 : W2.heap.size ≤ g6 := by have := hBN3.out.size; omega
          have hS' := hS.new hBz
          have hnx6 : Hid (g6 ∈ x.blks → False) := Lib.hid (fun hm => by have h1 := hxN3.out.lt _ hm; omega)
          have hny6 : Hid (g6 ∈ y.blks → False) := Lib.hid (fun hm => by have h1 := hyN3.out.lt _ hm; omega)
          have hne : g5 ≠ g6 := by have h1 := hG50.out.lt; omega
          have hBN4 := Lib.hid (below_and hBN3.out hBz)
          have hxN4 := Lib.hid (hxN3.out.below hBz)
          have hyN4 := Lib.hid (hyN3.out.below hBz)
          have hG5N4 := Lib.hid (hG50.out.below hBz hG50.out.lt)
          replace hG60 := Lib.hid hG60
          generalize (U3).alloc (.cells #[.int .i64 0, .int .i64 0, .slice none 0 0, .slice none 0 0, .slice none 0 0, .slice none 0 0, .int .i64 0, .int .i64 0, .int .i64 0, .int .i64 0, .string ⟨#[]⟩, .slice none 0 0, .slice none 0 0, .slice none 0 0, .slice none 0 0, .slice none 0 0, .int .i64 0, .int .i64 0, .int .i64 0, .int .i64 0, .string ⟨#[]⟩, .slice none 0 0] 113) = U4 at *
          clear hBz hg6
          refine hK.out _ _ (hS') (fun hSn => ?_)
          clear hK K hS
          have hS := hSn
          clear hSn
          refine callH 6 rfl (by kernel_rfl) (fun K hK => ?_)
          rw [if_pos (by rfl)]
          obtain ⟨cx, hcx⟩ : ∃ c, c = (x.cells eR).toArray := ⟨_, rfl⟩
          obtain ⟨cy, hcy⟩ : ∃ c, c = (y.cells eR).toArray := ⟨_, rfl⟩
          have sx : cx.size = 22 := by rw [hcx]; exact cellsT_size eR x
          have sy : cy.size = 22 := by rw [hcy]; exact cellsT_size eR y
          have ox : cx.all (·.oneCell') = true := by rw [hcx]; exact cells_oneE eR x
          have oy : cy.all (·.oneCell') = true := by rw [hcy]; exact cells_oneE eR y
          have hth := there_blk_at hG5N4.out (o := 0) (n := 22) (by decide)
          have hNb5 := Lib.hid (blk_put6 hG5N4.out (vs := cx) (by rw [sx]; rfl))
          have hoS : Only [g5] (U4) (World.setCells (U4) g5 0 cx.toList) := only_setCells (b := g5) cx.toList 0 (U4)
          have hBF := Lib.hid (hBN4.out.trans (hoS.below (by have := hBN4.out.size; omega) (by simp; omega)))
          have hO5 := Lib.hid (hG60.out.only hoS (by simp; omega))
          have hx5 := Lib.hid (hxN4.out.onlyG hoS (fun b hm he => hnx5.out (by rw [← List.mem_singleton.1 he]; exact hm)))
          have hy5 := Lib.hid (hyN4.out.onlyG hoS (fun b hm he => hny5.out (by rw [← List.mem_singleton.1 he]; exact hm)))
          have hS' : Tb g1 g2 ca cb a b (World.setCells (U4) g5 0 cx.toList) := ⟨hS.b1.only hoS (by have := hsl.out; simp; omega), hS.b2.only hoS (by have := hsl2.out; simp; omega), hS.a.onlyG hoS (fun b hm he => by have h1 := haL.out b hm; rw [List.mem_singleton.1 he] at h1; omega), hS.b.onlyG hoS (fun b hm he => by have h1 := hbL.out b hm; rw [List.mem_singleton.1 he] at h1; omega)⟩
          refine wp_store_mid 113 (.tmp 5) (.tmp 17) rfl g5 0 cx rfl (by rw [hcx]; rfl) (by rw [sx]; exact hth) (by rw [sx]; kernel_rfl) ox ?_
          clear hoS hth
          replace hcx := Lib.hid hcx
          replace hcy := Lib.hid hcy
          generalize World.setCells _ g5 0 cx.toList = U99 at *
          refine hK.out _ _ (hS') (fun hSn => ?_)
          clear hK K hS
          have hS := hSn
          clear hSn
          refine callH 7 rfl (by kernel_rfl) (fun K hK => ?_)
          rw [if_pos (by rfl)]
          have hth := there_blk_at hO5.out (o := 0) (n := 22) (by decide)
          have hNb6 := Lib.hid (blk_put6 hO5.out (vs := cy) (by rw [sy]; rfl))
          have hoS : Only [g6] (U99) (World.setCells (U99) g6 0 cy.toList) := only_setCells (b := g6) cy.toList 0 (U99)
          have hBF := Lib.hid (hBF.out.trans (hoS.below (by have := hBF.out.size; omega) (by simp; omega)))
          have hO6 := Lib.hid (hNb5.out.only hoS (by simp; omega))
          have hx6 := Lib.hid (hx5.out.onlyG hoS (fun b hm he => hnx6.out (by rw [← List.mem_singleton.1 he]; exact hm)))
          have hy6 := Lib.hid (hy5.out.onlyG hoS (fun b hm he => hny6.out (by rw [← List.mem_singleton.1 he]; exact hm)))
          have hS' : Tb g1 g2 ca cb a b (World.setCells (U99) g6 0 cy.toList) := ⟨hS.b1.only hoS (by have := hsl.out; simp; omega), hS.b2.only hoS (by have := hsl2.out; simp; omega), hS.a.onlyG hoS (fun b hm he => by have h1 := haL.out b hm; rw [List.mem_singleton.1 he] at h1; omega), hS.b.onlyG hoS (fun b hm he => by have h1 := hbL.out b hm; rw [List.mem_singleton.1 he] at h1; omega)⟩
          refine wp_store_mid 113 (.tmp 6) (.tmp 19) rfl g6 0 cy rfl (by rw [hcy]; rfl) (by rw [sy]; exact hth) (by rw [sy]; kernel_rfl) oy ?_
          clear hoS hth
          generalize World.setCells _ g6 0 cy.toList = U98 at *
          refine hK.out _ _ (hS') (fun hSn => ?_)
          clear hK K hS
          have hS := hSn
          clear hSn
          refine wpAnyH_done (by kernel_rfl) ?_ _
          have hSf := Lib.hid hS
          clear hS
          go_wp2_with fail
          go_meet
          exact ⟨g5, g6, x, y, cx, cy, rfl, rfl, hcx.out, hcy.out, hO6.out, hNb6.out, hx6.out, hy6.out, hpx, hpy, hSf.out, hBF.out⟩
        · go_simp
          have hBz := (Below.refl _ (U2)).alloc (Nat.le_refl _) (.cells #[.int .i64 0, .int .i64 0, .slice none 0 0, .slice none 0 0, .slice none 0 0, .slice none 0 0, .int .i64 0, .int .i64 0, .int .i64 0, .int .i64 0, .string ⟨#[]⟩, .slice none 0 0, .slice none 0 0, .slice none 0 0, .slice none 0 0, .slice none 0 0, .int .i64 0, .int .i64 0, .int .i64 0, .int .i64 0, .string ⟨#[]⟩, .slice none 0 0] 113)
          have hG60 := Blk.new (U2) 113 #[.int .i64 0, .int .i64 0, .slice none 0 0, .slice none 0 0, .slice none 0 0, .slice none 0 0, .int .i64 0, .int .i64 0, .int .i64 0, .int .i64 0, .string ⟨#[]⟩, .slice none 0 0, .slice none 0 0, .slice none 0 0, .slice none 0 0, .slice none 0 0, .int .i64 0, .int .i64 0, .int .i64 0, .int .i64 0, .string ⟨#[]⟩, .slice none 0 0]
          obtain ⟨g6, hg6⟩ : ∃ g, (U2).heap.size = g := ⟨_, rfl⟩
          rw [hg6] at hG60
          try rw [hg6]
          have hgw6 : W2.heap.size ≤ g6 := by have := hBN2.out.size; omega
          have hS' := hS.new hBz
          have hnx6 : Hid (g6 ∈ x.blks → False) := Lib.hid (fun hm => by have h1 := hxN2.out.lt _ hm; omega)
          have hny6 : Hid (g6 ∈ y.blks → False) := Lib.hid (fun hm => by have h1 := hy0.out.lt _ hm; omega)
          have hBN7 := Lib.hid (below_and hBN2.out hBz)
          have hxN7 := Lib.hid (hxN2.out.below hBz)
          have hyN7 := Lib.hid (hy0.out.below hBz)
          replace hG60 := Lib.hid hG60
          generalize (U2).alloc (.cells #[.int .i64 0, .int .i64 0, .slice none 0 0, .slice none 0 0, .slice none 0 0, .slice none 0 0, .int .i64 0, .int .i64 0, .int .i64 0, .int .i64 0, .string ⟨#[]⟩, .slice none 0 0, .slice none 0 0, .slice none 0 0, .slice none 0 0, .slice none 0 0, .int .i64 0, .int .i64 0, .int .i64 0, .int .i64 0, .string ⟨#[]⟩, .slice none 0 0] 113) = U7 at *
          clear hBz hg6
          refine hK.out _ _ (hS') (fun hSn => ?_)
          clear hK K hS
          have hS := hSn
          clear hSn
          refine callH 4 rfl (by kernel_rfl) (fun K hK => ?_)
          go_simp
          have hBz := (Below.refl _ (U7)).alloc (Nat.le_refl _) (.cells #[.int .i64 0, .int .i64 0, .slice none 0 0, .slice none 0 0, .slice none 0 0, .slice none 0 0, .int .i64 0, .int .i64 0, .int .i64 0, .int .i64 0, .string ⟨#[]⟩, .slice none 0 0, .slice none 0 0, .slice none 0 0, .slice none 0 0, .slice none 0 0, .int .i64 0, .int .i64 0, .int .i64 0, .int .i64 0, .string ⟨#[]⟩, .slice none 0 0] 113)
          have hG50 := Blk.new (U7) 113 #[.int .i64 0, .int .i64 0, .slice none 0 0, .slice none 0 0, .slice none 0 0, .slice none 0 0, .int .i64 0, .int .i64 0, .int .i64 0, .int .i64 0, .string ⟨#[]⟩, .slice none 0 0, .slice none 0 0, .slice none 0 0, .slice none 0 0, .slice none 0 0, .int .i64 0, .int .i64 0, .int .i64 0, .int .i64 0, .string ⟨#[]⟩, .slice none 0 0]
          obtain ⟨g5, hg5⟩ : ∃ g, (U7).heap.size = g := ⟨_, rfl⟩
          rw [hg5] at hG50
          try rw [hg5]
          have hgw5 : W2.heap.size ≤ g5 := by have := hBN7.out.size; omega
          have hS' := hS.new hBz
          have hnx5 : Hid (g5 ∈ x.blks → False) := Lib.hid (fun hm => by have h1 := hxN7.out.lt _ hm; omega)
          have hny5 : Hid (g5 ∈ y.blks → False) := Lib.hid (fun hm => by have h1 := hyN7.out.lt _ hm; omega)
          have hne : g5 ≠ g6 := by have h1 := hG60.out.lt; omega
          have hBN8 := Lib.hid (below_and hBN7.out hBz)
          have hxN8 := Lib.hid (hxN7.out.below hBz)
          have hyN8 := Lib.hid (hyN7.out.below hBz)
          have hG6N8 := Lib.hid (hG60.out.below hBz hG60.out.lt)
          replace hG50 := Lib.hid hG50
          generalize (U7).alloc (.cells #[.int .i64 0, .int .i64 0, .slice none 0 0, .slice none 0 0, .slice none 0 0, .slice none 0 0, .int .i64 0, .int .i64 0, .int .i64 0, .int .i64 0, .string ⟨#[]⟩, .slice none 0 0, .slice none 0 0, .slice none 0 0, .slice none 0 0, .slice none 0 0, .int .i64 0, .int .i64 0, .int .i64 0, .int .i64 0, .string ⟨#[]⟩, .slice none 0 0] 113) = U8 at *
          clear hBz hg5
          refine hK.out _ _ (hS') (fun hSn => ?_)
          clear hK K hS
          have hS := hSn
          clear hSn
          refine callH 6 rfl (by kernel_rfl) (fun K hK => ?_)
          rw [if_pos (by rfl)]
          obtain ⟨cx, hcx⟩ : ∃ c, c = (x.cells eR).toArray := ⟨_, rfl⟩
          obtain ⟨cy, hcy⟩ : ∃ c, c = (y.cells eR).toArray := ⟨_, rfl⟩
          have sx : cx.size = 22 := by rw [hcx]; exact cellsT_size eR x
          have sy : cy.size = 22 := by rw [hcy]; exact cellsT_size eR y
          have ox : cx.all (·.oneCell') = true := by rw [hcx]; exact cells_oneE eR x
          have oy : cy.all (·.oneCell') = true := by rw [hcy]; exact cells_oneE eR y
          have hth := there_blk_at hG50.out (o := 0) (n := 22) (by decide)
          have hNb5 := Lib.hid (blk_put6 hG50.out (vs := cx) (by rw [sx]; rfl))
          have hoS : Only [g5] (U8) (World.setCells (U8) g5 0 cx.toList) := only_setCells (b := g5) cx.toList 0 (U8)
          have hBF := Lib.hid (hBN8.out.trans (hoS.below (by have := hBN8.out.size; omega) (by simp; omega)))
          have hO5 := Lib.hid (hG6N8.out.only hoS (by simp; omega))
          have hx5 := Lib.hid (hxN8.out.onlyG hoS (fun b hm he => hnx5.out (by rw [← List.mem_singleton.1 he]; exact hm)))
          have hy5 := Lib.hid (hyN8.out.onlyG hoS (fun b hm he => hny5.out (by rw [← List.mem_singleton.1 he]; exact hm)))
          have hS' : Tb g1 g2 ca cb a b (World.setCells (U8) g5 0 cx.toList) := ⟨hS.b1.only hoS (by have := hsl.out; simp; omega), hS.b2.only hoS (by have := hsl2.out; simp; omega), hS.a.onlyG hoS (fun b hm he => by have h1 := haL.out b hm; rw [List.mem_singleton.1 he] at h1; omega), hS.b.onlyG hoS (fun b hm he => by have h1 := hbL.out b hm; rw [List.mem_singleton.1 he] at h1; omega)⟩
          refine wp_store_mid 113 (.tmp 5) (.tmp 17) rfl g5 0 cx rfl (by rw [hcx]; rfl) (by rw [sx]; exact hth) (by rw [sx]; kernel_rfl) ox ?_
          clear hoS hth
          replace hcx := Lib.hid hcx
          replace hcy := Lib.hid hcy
          generalize World.setCells _ g5 0 cx.toList = U99 at *
          refine hK.out _ _ (hS') (fun hSn => ?_)
          clear hK K hS
          have hS := hSn
          clear hSn
          refine callH 7 rfl (by kernel_rfl) (fun K hK => ?_)
          rw [if_pos (by rfl)]
          have hth := there_blk_at hO5.out (o := 0) (n := 22) (by decide)
          have hNb6 := Lib.hid (blk_put6 hO5.out (vs := cy) (by rw [sy]; rfl))
          have hoS : Only [g6] (U99) (World.setCells (U99) g6 0 cy.toList) := only_setCells (b := g6) cy.toList 0 (U99)
          have hBF := Lib.hid (hBF.out.trans (hoS.below (by have := hBF.out.size; omega) (by simp; omega)))
          have hO6 := Lib.hid (hNb5.out.only hoS (by simp; omega))
          have hx6 := Lib.hid (hx5.out.onlyG hoS (fun b hm he => hnx6.out (by rw [← List.mem_singleton.1 he]; exact hm)))
          have hy6 := Lib.hid (hy5.out.onlyG hoS (fun b hm he => hny6.out (by rw [← List.mem_singleton.1 he]; exact hm)))
          have hS' : Tb g1 g2 ca cb a b (World.setCells (U99) g6 0 cy.toList) := ⟨hS.b1.only hoS (by have := hsl.out; simp; omega), hS.b2.only hoS (by have := hsl2.out; simp; omega), hS.a.onlyG hoS (fun b hm he => by have h1 := haL.out b hm; rw [List.mem_singleton.1 he] at h1; omega), hS.b.onlyG hoS (fun b hm he => by have h1 := hbL.out b hm; rw [List.mem_singleton.1 he] at h1; omega)⟩
          refine wp_store_mid 113 (.tmp 6) (.tmp 19) rfl g6 0 cy rfl (by rw [hcy]; rfl) (by rw [sy]; exact hth) (by rw [sy]; kernel_rfl) oy ?_
          clear hoS hth
          generalize World.setCells _ g6 0 cy.toList = U98 at *
          refine hK.out _ _ (hS') (fun hSn => ?_)
          clear hK K hS
          have hS := hSn
          clear hSn
          refine wpAnyH_done (by kernel_rfl) ?_ _
          have hSf := Lib.hid hS
          clear hS
          go_wp2_with fail
          go_meet
          exact ⟨g5, g6, x, y, cx, cy, rfl, rfl, hcx.out, hcy.out, hO6.out, hNb6.out, hx6.out, hy6.out, hpx, hpy, hSf.out, hBF.out⟩
      · go_simp
        have hBz := (Below.refl _ (U1)).alloc (Nat.le_refl _) (.cells #[.int .i64 0, .int .i64 0, .slice none 0 0, .slice none 0 0, .slice none 0 0, .slice none 0 0, .int .i64 0, .int .i64 0, .int .i64 0, .int .i64 0, .string ⟨#[]⟩, .slice none 0 0, .slice none 0 0, .slice none 0 0, .slice none 0 0, .slice none 0 0, .int .i64 0, .int .i64 0, .int .i64 0, .int .i64 0, .string ⟨#[]⟩, .slice none 0 0] 113)
        have hG50 := Blk.new (U1) 113 #[.int .i64 0, .int .i64 0, .slice none 0 0, .slice none 0 0, .slice none 0 0, .slice none 0 0, .int .i64 0, .int .i64 0, .int .i64 0, .int .i64 0, .string ⟨#[]⟩, .slice none 0 0, .slice none 0 0, .slice none 0 0, .slice none 0 0, .slice none 0 0, .int .i64 0, .int .i64 0, .int .i64 0, .int .i64 0, .string ⟨#[]⟩, .slice none 0 0]
        obtain ⟨g5, hg5⟩ : ∃ g, (U1).heap.size = g := ⟨_, rfl⟩
        rw [hg5] at hG50
        try rw [hg5]
        have hgw5 : W2.heap.size ≤ g5 := by have := hBN1.out.size; omega
        have hS' := hS.new hBz
        have hnx5 : Hid (g5 ∈ x.blks → False) := Lib.hid (fun hm => by have h1 := hx0.out.lt _ hm; omega)
        have hBN11 := Lib.hid (below_and hBN1.out hBz)
        have hxN11 := Lib.hid (hx0.out.below hBz)
        replace hG50 := Lib.hid hG50
        generalize (U1).alloc (.cells #[.int .i64 0, .int .i64 0, .slice none 0 0, .slice none 0 0, .slice none 0 0, .slice none 0 0, .int .i64 0, .int .i64 0, .int .i64 0, .int .i64 0, .string ⟨#[]⟩, .slice none 0 0, .slice none 0 0, .slice none 0 0, .slice none 0 0, .slice none 0 0, .int .i64 0, .int .i64 0, .int .i64 0, .int .i64 0, .string ⟨#[]⟩, .slice none 0 0] 113) = U11 at *
        clear hBz hg5
        refine hK.out _ _ (hS') (fun hSn => ?_)
        clear hK K hS
        have hS := hSn
        clear hSn
        refine callH2 3 5 rfl rfl (by kernel_rfl) (fun K hK => ?_) (fun K hK => ?_)
        · go_simp
          have hcc := Lib.hid (hTb.out _ hS.b)
          refine hcc.out.mono ?_
          rintro e U12 ⟨⟨y, rfl, hpy, hoy, hly⟩, hB2⟩
          clear hcc
          have hS' := hS.new hB2
          have hBN12 := Lib.hid (below_and hBN11.out hB2)
          have hxN12 := Lib.hid (hxN11.out.below hB2)
          have hG5N12 := Lib.hid (hG50.out.below hB2 hG50.out.lt)
          have hy0 := Lib.hid hoy
          have hny5 : Hid (g5 ∈ y.blks → False) := Lib.hid (fun hm => Nat.not_le.2 hG50.out.lt (hly _ hm))
          have hloy := Lib.hid (fun b hm => Nat.le_trans hBN11.out.size (hly b hm))
          clear hB2 hoy hly
          refine hK.out _ _ (hS') (fun hSn => ?_)
          clear hK K hS
          have hS := hSn
          clear hSn
          refine callH 5 rfl (by kernel_rfl) (fun K hK => ?_)
          go_simp
          have hBz := (Below.refl _ (U12)).alloc (Nat.le_refl _) (.cells #[.int .i64 0, .int .i64 0, .slice none 0 0, .slice none 0 0, .slice none 0 0, .slice none 0 0, .int .i64 0, .int .i64 0, .int .i64 0, .int .i64 0, .string ⟨#[]⟩, .slice none 0 0, .slice none 0 0, .slice none 0 0, .slice none 0 0, .slice none 0 0, .int .i64 0, .int .i64 0, .int .i64 0, .int .i64 0, .string ⟨#[]⟩, .slice none 0 0] 113)
          have hG60 := Blk.new (U12) 113 #[.int .i64 0, .int .i64 0, .slice none 0 0, .slice none 0 0, .slice none 0 0, .slice none 0 0, .int .i64 0, .int .i64 0, .int .i64 0, .int .i64 0, .string ⟨#[]⟩, .slice none 0 0, .slice none 0 0, .slice none 0 0, .slice none 0 0, .slice none 0 0, .int .i64 0, .int .i64 0, .int .i64 0, .int .i64 0, .string ⟨#[]⟩, .slice none 0 0]
          obtain ⟨g6, hg6⟩ : ∃ g, (U12).heap.size = g := ⟨_, rfl⟩
          rw [hg6] at hG60
          try rw [hg6]
          have hgw6 : W2.heap.size ≤ g6 := by have := hBN12.out.size; omega
          have hS' := hS.new hBz
          have hnx6 : Hid (g6 ∈ x.blks → False) := Lib.hid (fun hm => by have h1 := hxN12.out.lt _ hm; omega)
          have hny6 : Hid (g6 ∈ y.blks → False) := Lib.hid (fun hm => by have h1 := hy0.out.lt _ hm; omega)
          have hne : g5 ≠ g6 := by have h1 := hG5N12.out.lt; omega
          have hBN13 := Lib.hid (below_and hBN12.out hBz)
          have hxN13 := Lib.hid (hxN12.out.below hBz)
          have hyN13 := Lib.hid (hy0.out.below hBz)
          have hG5N13 := Lib.hid (hG5N12.out.below hBz hG5N12.out.lt)
          replace hG60 := Lib.hid hG60
          generalize (U12).alloc (.cells #[.int .i64 0, .int .i64 0, .slice none 0 0, .slice none 0 0, .slice none 0 0, .slice none 0 0, .int .i64 0, .int .i64 0, .int .i64 0, .int .i64 0, .string ⟨#[]⟩, .slice none 0 0, .slice none 0 0, .slice none 0 0, .slice none 0 0, .slice none 0 0, .int .i64 0, .int .i64 0, .int .i64 0, .int .i64 0, .string ⟨#[]⟩, .slice none 0 0] 113) = U13 at *
          clear hBz hg6
          refine hK.out _ _ (hS') (fun hSn => ?_)
          clear hK K hS
          have hS := hSn
          clear hSn
          refine callH 6 rfl (by kernel_rfl) (fun K hK => ?_)
          rw [if_pos (by rfl)]
          obtain ⟨cx, hcx⟩ : ∃ c, c = (x.cells eR).toArray := ⟨_, rfl⟩
          obtain ⟨cy, hcy⟩ : ∃ c, c = (y.cells eR).toArray := ⟨_, rfl⟩
          have sx : cx.size = 22 := by rw [hcx]; exact cellsT_size eR x
          have sy : cy.size = 22 := by rw [hcy]; exact cellsT_size eR y
          have ox : cx.all (·.oneCell') = true := by rw [hcx]; exact cells_oneE eR x
          have oy : cy.all (·.oneCell') = true := by rw [hcy]; exact cells_oneE eR y
          have hth := there_blk_at hG5N13.out (o := 0) (n := 22) (by decide)
          have hNb5 := Lib.hid (blk_put6 hG5N13.out (vs := cx) (by rw [sx]; rfl))
          have hoS : Only [g5] (U13) (World.setCells (U13) g5 0 cx.toList) := only_setCells (b := g5) cx.toList 0 (U13)
          have hBF := Lib.hid (hBN13.out.trans (hoS.below (by have := hBN13.out.size; omega) (by simp; omega)))
          have hO5 := Lib.hid (hG60.out.only hoS (by simp; omega))
          have hx5 := Lib.hid (hxN13.out.onlyG hoS (fun b hm he => hnx5.out (by rw [← List.mem_singleton.1 he]; exact hm)))
          have hy5 := Lib.hid (hyN13.out.onlyG hoS (fun b hm he => hny5.out (by rw [← List.mem_singleton.1 he]; exact hm)))
          have hS' : Tb g1 g2 ca cb a b (World.setCells (U13) g5 0 cx.toList) := ⟨hS.b1.only hoS (by have := hsl.out; simp; omega), hS.b2.only hoS (by have := hsl2.out; simp; omega), hS.a.onlyG hoS (fun b hm he => by have h1 := haL.out b hm; rw [List.mem_singleton.1 he] at h1; omega), hS.b.onlyG hoS (fun b hm he => by have h1 := hbL.out b hm; rw [List.mem_singleton.1 he] at h1; omega)⟩
          refine wp_store_mid 113 (.tmp 5) (.tmp 17) rfl g5 0 cx rfl (by rw [hcx]; rfl) (by rw [sx]; exact hth) (by rw [sx]; kernel_rfl) ox ?_
          clear hoS hth
          replace hcx := Lib.hid hcx
          replace hcy := Lib.hid hcy
          generalize World.setCells _ g5 0 cx.toList = U99 at *
          refine hK.out _ _ (hS') (fun hSn => ?_)
          clear hK K hS
          have hS := hSn
          clear hSn
          refine callH 7 rfl (by kernel_rfl) (fun K hK => ?_)
          rw [if_pos (by rfl)]
          have hth := there_blk_at hO5.out (o := 0) (n := 22) (by decide)
          have hNb6 := Lib.hid (blk_put6 hO5.out (vs := cy) (by rw [sy]; rfl))
          have hoS : Only [g6] (U99) (World.setCells (U99) g6 0 cy.toList) := only_setCells (b := g6) cy.toList 0 (U99)
          have hBF := Lib.hid (hBF.out.trans (hoS.below (by have := hBF.out.size; omega) (by simp; omega)))
          have hO6 := Lib.hid (hNb5.out.only hoS (by simp; omega))
          have hx6 := Lib.hid (hx5.out.onlyG hoS (fun b hm he => hnx6.out (by rw [← List.mem_singleton.1 he]; exact hm)))
          have hy6 := Lib.hid (hy5.out.onlyG hoS (fun b hm he => hny6.out (by rw [← List.mem_singleton.1 he]; exact hm)))
          have hS' : Tb g1 g2 ca cb a b (World.setCells (U99) g6 0 cy.toList) := ⟨hS.b1.only hoS (by have := hsl.out; simp; omega), hS.b2.only hoS (by have := hsl2.out; simp; omega), hS.a.onlyG hoS (fun b hm he => by have h1 := haL.out b hm; rw [List.mem_singleton.1 he] at h1; omega), hS.b.onlyG hoS (fun b hm he => by have h1 := hbL.out b hm; rw [List.mem_singleton.1 he] at h1; omega)⟩
          refine wp_store_mid 113 (.tmp 6) (.tmp 19) rfl g6 0 cy rfl (by rw [hcy]; rfl) (by rw [sy]; exact hth) (by rw [sy]; kernel_rfl) oy ?_
          clear hoS hth
          generalize World.setCells _ g6 0 cy.toList = U98 at *
          refine hK.out _ _ (hS') (fun hSn => ?_)
          clear hK K hS
          have hS := hSn
          clear hSn
          refine wpAnyH_done (by kernel_rfl) ?_ _
          have hSf := Lib.hid hS
          clear hS
          go_wp2_with fail
          go_meet
          exact ⟨g5, g6, x, y, cx, cy, rfl, rfl, hcx.out, hcy.out, hO6.out, hNb6.out, hx6.out, hy6.out, hpx, hpy, hSf.out, hBF.out⟩
        · go_simp
          have hBz := (Below.refl _ (U11)).alloc (Nat.le_refl _) (.cells #[.int .i64 0, .int .i64 0, .slice none 0 0, .slice none 0 0, .slice none 0 0, .slice none 0 0, .int .i64 0, .int .i64 0, .int .i64 0, .int .i64 0, .string ⟨#[]⟩, .slice none 0 0, .slice none 0 0, .slice none 0 0, .slice none 0 0, .slice none 0 0, .int .i64 0, .int .i64 0, .int .i64 0, .int .i64 0, .string ⟨#[]⟩, .slice none 0 0] 113)
          have hG60 := Blk.new (U11) 113 #[.int .i64 0, .int .i64 0, .slice none 0 0, .slice none 0 0, .slice none 0 0, .slice none 0 0, .int .i64 0, .int .i64 0, .int .i64 0, .int .i64 0, .string ⟨#[]⟩, .slice none 0 0, .slice none 0 0, .slice none 0 0, .slice none 0 0, .slice none 0 0, .int .i64 0, .int .i64 0, .int .i64 0, .int .i64 0, .string ⟨#[]⟩, .slice none 0 0]
          obtain ⟨g6, hg6⟩ : ∃ g, (U11).heap.size = g := ⟨_, rfl⟩
          rw [hg6] at hG60
          try rw [hg6]
          have hgw6 : W2.heap.size ≤ g6 := by have := hBN11.out.size; omega
          have hS' := hS.new hBz
          have hnx6 : Hid (g6 ∈ x.blks → False) := Lib.hid (fun hm => by have h1 := hxN11.out.lt _ hm; omega)
          have hne : g5 ≠ g6 := by have h1 := hG50.out.lt; omega
          have hBN16 := Lib.hid (below_and hBN11.out hBz)
          have hxN16 := Lib.hid (hxN11.out.below hBz)
          have hG5N16 := Lib.hid (hG50.out.below hBz hG50.out.lt)
          replace hG60 := Lib.hid hG60
          generalize (U11).alloc (.cells #[.int .i64 0, .int .i64 0, .slice none 0 0, .slice none 0 0, .slice none 0 0, .slice none 0 0, .int .i64 0, .int .i64 0, .int .i64 0, .int .i64 0, .string ⟨#[]⟩, .slice none 0 0, .slice none 0 0, .slice none 0 0, .slice none 0 0, .slice none 0 0, .int .i64 0, .int .i64 0, .int .i64 0, .int .i64 0, .string ⟨#[]⟩, .slice none 0 0] 113) = U16 at *
          clear hBz hg6
          refine hK.out _ _ (hS') (fun hSn => ?_)
          clear hK K hS
          have hS := hSn
          clear hSn
          refine callH 3 rfl (by kernel_rfl) (fun K hK => ?_)
          go_simp
          have hcc := Lib.hid (hTb.out _ hS.b)
          refine hcc.out.mono ?_
          rintro e U17 ⟨⟨y, rfl, hpy, hoy, hly⟩, hB2⟩
          clear hcc
          have hS' := hS.new hB2
          have hBN17 := Lib.hid (below_and hBN16.out hB2)
          have hxN17 := Lib.hid (hxN16.out.below hB2)
          have hG5N17 := Lib.hid (hG5N16.out.below hB2 hG5N16.out.lt)
          have hG6N17 := Lib.hid (hG60.out.below hB2 hG60.out.lt)
          have hy0 := Lib.hid hoy
          have hny5 : Hid (g5 ∈ y.blks → False) := Lib.hid (fun hm => Nat.not_le.2 hG5N16.out.lt (hly _ hm))
          have hny6 : Hid (g6 ∈ y.blks → False) := Lib.hid (fun hm => Nat.not_le.2 hG60.out.lt (hly _ hm))
          have hloy := Lib.hid (fun b hm => Nat.le_trans hBN16.out.size (hly b hm))
          clear hB2 hoy hly
          refine hK.out _ _ (hS') (fun hSn => ?_)
          clear hK K hS
          have hS := hSn
          clear hSn
          refine callH 6 rfl (by kernel_rfl) (fun K hK => ?_)
          rw [if_pos (by rfl)]
          obtain ⟨cx, hcx⟩ : ∃ c, c = (x.cells eR).toArray := ⟨_, rfl⟩
          obtain ⟨cy, hcy⟩ : ∃ c, c = (y.cells eR).toArray := ⟨_, rfl⟩
          have sx : cx.size = 22 := by rw [hcx]; exact cellsT_size eR x
          have sy : cy.size = 22 := by rw [hcy]; exact cellsT_size eR y
          have ox : cx.all (·.oneCell') = true := by rw [hcx]; exact cells_oneE eR x
          have oy : cy.all (·.oneCell') = true := by rw [hcy]; exact cells_oneE eR y
          have hth := there_blk_at hG5N17.out (o := 0) (n := 22) (by decide)
          have hNb5 := Lib.hid (blk_put6 hG5N17.out (vs := cx) (by rw [sx]; rfl))
          have hoS : Only [g5] (U17) (World.setCells (U17) g5 0 cx.toList) := only_setCells (b := g5) cx.toList 0 (U17)
          have hBF := Lib.hid (hBN17.out.trans (hoS.below (by have := hBN17.out.size; omega) (by simp; omega)))
          have hO5 := Lib.hid (hG6N17.out.only hoS (by simp; omega))
          have hx5 := Lib.hid (hxN17.out.onlyG hoS (fun b hm he => hnx5.out (by rw [← List.mem_singleton.1 he]; exact hm)))
          have hy5 := Lib.hid (hy0.out.onlyG hoS (fun b hm he => hny5.out (by rw [← List.mem_singleton.1 he]; exact hm)))
          have hS' : Tb g1 g2 ca cb a b (World.setCells (U17) g5 0 cx.toList) := ⟨hS.b1.only hoS (by have := hsl.out; simp; omega), hS.b2.only hoS (by have := hsl2.out; simp; omega), hS.a.onlyG hoS (fun b hm he => by have h1 := haL.out b hm; rw [List.mem_singleton.1 he] at h1; omega), hS.b.onlyG hoS (fun b hm he => by have h1 := hbL.out b hm; rw [List.mem_singleton.1 he] at h1; omega)⟩
          refine wp_store_mid 113 (.tmp 5) (.tmp 17) rfl g5 0 cx rfl (by rw [hcx]; rfl) (by rw [sx]; exact hth) (by rw [sx]; kernel_rfl) ox ?_
          clear hoS hth
          replace hcx := Lib.hid hcx
          replace hcy := Lib.hid hcy
          generalize World.setCells _ g5 0 cx.toList = U99 at *
          refine hK.out _ _ (hS') (fun hSn => ?_)
          clear hK K hS
          have hS := hSn
          clear hSn
          refine callH 7 rfl (by kernel_rfl) (fun K hK => ?_)
          rw [if_pos (by rfl)]
          have hth := there_blk_at hO5.out (o := 0) (n := 22) (by decide)
          have hNb6 := Lib.hid (blk_put6 hO5.out (vs := cy) (by rw [sy]; rfl))
          have hoS : Only [g6] (U99) (World.setCells (U99) g6 0 cy.toList) := only_setCells (b := g6) cy.toList 0 (U99)
          have hBF := Lib.hid (hBF.out.trans (hoS.below (by have := hBF.out.size; omega) (by simp; omega)))
          have hO6 := Lib.hid (hNb5.out.only hoS (by simp; omega))
          have hx6 := Lib.hid (hx5.out.onlyG hoS (fun b hm he => hnx6.out (by rw [← List.mem_singleton.1 he]; exact hm)))
          have hy6 := Lib.hid (hy5.out.onlyG hoS (fun b hm he => hny6.out (by rw [← List.mem_singleton.1 he]; exact hm)))
          have hS' : Tb g1 g2 ca cb a b (World.setCells (U99) g6 0 cy.toList) := ⟨hS.b1.only hoS (by have := hsl.out; simp; omega), hS.b2.only hoS (by have := hsl2.out; simp; omega), hS.a.onlyG hoS (fun b hm he => by have h1 := haL.out b hm; rw [List.mem_singleton.1 he] at h1; omega), hS.b.onlyG hoS (fun b hm he => by have h1 := hbL.out b hm; rw [List.mem_singleton.1 he] at h1; omega)⟩
          refine wp_store_mid 113 (.tmp 6) (.tmp 19) rfl g6 0 cy rfl (by rw [hcy]; rfl) (by rw [sy]; exact hth) (by rw [sy]; kernel_rfl) oy ?_
          clear hoS hth
          generalize World.setCells _ g6 0 cy.toList = U98 at *
          refine hK.out _ _ (hS') (fun hSn => ?_)
          clear hK K hS
          have hS := hSn
          clear hSn
          refine wpAnyH_done (by kernel_rfl) ?_ _
          have hSf := Lib.hid hS
          clear hS
          go_wp2_with fail
          go_meet
          exact ⟨g5, g6, x, y, cx, cy, rfl, rfl, hcx.out, hcy.out, hO6.out, hNb6.out, hx6.out, hy6.out, hpx, hpy, hSf.out, hBF.out⟩
      · go_simp
        have hBz := (Below.refl _ (U1)).alloc (Nat.le_refl _) (.cells #[.int .i64 0, .int .i64 0, .slice none 0 0, .slice none 0 0, .slice none 0 0, .slice none 0 0, .int .i64 0, .int .i64 0, .int .i64 0, .int .i64 0, .string ⟨#[]⟩, .slice none 0 0, .slice none 0 0, .slice none 0 0, .slice none 0 0, .slice none 0 0, .int .i64 0, .int .i64 0, .int .i64 0, .int .i64 0, .string ⟨#[]⟩, .slice none 0 0] 113)
        have hG60 := Blk.new (U1) 113 #[.int .i64 0, .int .i64 0, .slice none 0 0, .slice none 0 0, .slice none 0 0, .slice none 0 0, .int .i64 0, .int .i64 0, .int .i64 0, .int .i64 0, .string ⟨#[]⟩, .slice none 0 0, .slice none 0 0, .slice none 0 0, .slice none 0 0, .slice none 0 0, .int .i64 0, .int .i64 0, .int .i64 0, .int .i64 0, .string ⟨#[]⟩, .slice none 0 0]
        obtain ⟨g6, hg6⟩ : ∃ g, (U1).heap.size = g := ⟨_, rfl⟩
        rw [hg6] at hG60
        try rw [hg6]
        have hgw6 : W2.heap.size ≤ g6 := by have := hBN1.out.size; omega
        have hS' := hS.new hBz
        have hnx6 : Hid (g6 ∈ x.blks → False) := Lib.hid (fun hm => by have h1 := hx0.out.lt _ hm; omega)
        have hBN20 := Lib.hid (below_and hBN1.out hBz)
        have hxN20 := Lib.hid (hx0.out.below hBz)
        replace hG60 := Lib.hid hG60
        generalize (U1).alloc (.cells #[.int .i64 0, .int .i64 0, .slice none 0 0, .slice none 0 0, .slice none 0 0, .slice none 0 0, .int .i64 0, .int .i64 0, .int .i64 0, .int .i64 0, .string ⟨#[]⟩, .slice none 0 0, .slice none 0 0, .slice none 0 0, .slice none 0 0, .slice none 0 0, .int .i64 0, .int .i64 0, .int .i64 0, .int .i64 0, .string ⟨#[]⟩, .slice none 0 0] 113) = U20 at *
        clear hBz hg6
        refine hK.out _ _ (hS') (fun hSn => ?_)
        clear hK K hS
        have hS := hSn
        clear hSn
        refine callH2 3 4 rfl rfl (by kernel_rfl) (fun K hK => ?_) (fun K hK => ?_)
        · go_simp
          have hcc := Lib.hid (hTb.out _ hS.b)
          refine hcc.out.mono ?_
          rintro e U21 ⟨⟨y, rfl, hpy, hoy, hly⟩, hB2⟩
          clear hcc
          have hS' := hS.new hB2
          have hBN21 := Lib.hid (below_and hBN20.out hB2)
          have hxN21 := Lib.hid (hxN20.out.below hB2)
          have hG6N21 := Lib.hid (hG60.out.below hB2 hG60.out.lt)
          have hy0 := Lib.hid hoy
          have hny6 : Hid (g6 ∈ y.blks → False) := Lib.hid (fun hm => Nat.not_le.2 hG60.out.lt (hly _ hm))
          have hloy := Lib.hid (fun b hm => Nat.le_trans hBN20.out.size (hly b hm))
          clear hB2 hoy hly
          refine hK.out _ _ (hS') (fun hSn => ?_)
          clear hK K hS
          have hS := hSn
          clear hSn
          refine callH 4 rfl (by kernel_rfl) (fun K hK => ?_)
          go_simp
          have hBz := (Below.refl _ (U21)).alloc (Nat.le_refl _) (.cells #[.int .i64 0, .int .i64 0, .slice none 0 0, .slice none 0 0, .slice none 0 0, .slice none 0 0, .int .i64 0, .int .i64 0, .int .i64 0, .int .i64 0, .string ⟨#[]⟩, .slice none 0 0, .slice none 0 0, .slice none 0 0, .slice none 0 0, .slice none 0 0, .int .i64 0, .int .i64 0, .int .i64 0, .int .i64 0, .string ⟨#[]⟩, .slice none 0 0] 113)
          have hG50 := Blk.new (U21) 113 #[.int .i64 0, .int .i64 0, .slice none 0 0, .slice none 0 0, .slice none 0 0, .slice none 0 0, .int .i64 0, .int .i64 0, .int .i64 0, .int .i64 0, .string ⟨#[]⟩, .slice none 0 0, .slice none 0 0, .slice none 0 0, .slice none 0 0, .slice none 0 0, .int .i64 0, .int .i64 0, .int .i64 0, .int .i64 0, .string ⟨#[]⟩, .slice none 0 0]
          obtain ⟨g5, hg5⟩ : ∃ g, (U21).heap.size = g := ⟨_, rfl⟩
          rw [hg5] at hG50
          try rw [hg5]
          have hgw5 : W2.heap.size ≤ g5 := by have := hBN21.out.size; omega
          have hS' := hS.new hBz
          have hnx5 : Hid (g5 ∈ x.blks → False) := Lib.hid (fun hm => by have h1 := hxN21.out.lt _ hm; omega)
          have hny5 : Hid (g5 ∈ y.blks → False) := Lib.hid (fun hm => by have h1 := hy0.out.lt _ hm; omega)
          have hne : g5 ≠ g6 := by have h1 := hG6N21.out.lt; omega
          have hBN22 := Lib.hid (below_and hBN21.out hBz)
          have hxN22 := Lib.hid (hxN21.out.below hBz)
          have hyN22 := Lib.hid (hy0.out.below hBz)
          have hG6N22 := Lib.hid (hG6N21.out.below hBz hG6N21.out.lt)
          replace hG50 := Lib.hid hG50
          generalize (U21).alloc (.cells #[.int .i64 0, .int .i64 0, .slice none 0 0, .slice none 0 0, .slice none 0 0, .slice none 0 0, .int .i64 0, .int .i64 0, .int .i64 0, .int .i64 0, .string ⟨#[]⟩, .slice none 0 0, .slice none 0 0, .slice none 0 0, .slice none 0 0, .slice none 0 0, .int .i64 0, .int .i64 0, .int .i64 0, .int .i64 0, .string ⟨#[]⟩, .slice none 0 0] 113) = U22 at *
          clear hBz hg5
          refine hK.out _ _ (hS') (fun hSn => ?_)
          clear hK K hS
          have hS := hSn
          clear hSn
          refine callH 6 rfl (by kernel_rfl) (fun K hK => ?_)
          rw [if_pos (by rfl)]
          obtain ⟨cx, hcx⟩ : ∃ c, c = (x.cells eR).toArray := ⟨_, rfl⟩
          obtain ⟨cy, hcy⟩ : ∃ c, c = (y.cells eR).toArray := ⟨_, rfl⟩
          have sx : cx.size = 22 := by rw [hcx]; exact cellsT_size eR x
          have sy : cy.size = 22 := by rw [hcy]; exact cellsT_size eR y
          have ox : cx.all (·.oneCell') = true := by rw [hcx]; exact cells_oneE eR x
          have oy : cy.all (·.oneCell') = true := by rw [hcy]; exact cells_oneE eR y
          have hth := there_blk_at hG50.out (o := 0) (n := 22) (by decide)
          have hNb5 := Lib.hid (blk_put6 hG50.out (vs := cx) (by rw [sx]; rfl))
          have hoS : Only [g5] (U22) (World.setCells (U22) g5 0 cx.toList) := only_setCells (b := g5) cx.toList 0 (U22)
          have hBF := Lib.hid (hBN22.out.trans (hoS.below (by have := hBN22.out.size; omega) (by simp; omega)))
          have hO5 := Lib.hid (hG6N22.out.only hoS (by simp; omega))
          have hx5 := Lib.hid (hxN22.out.onlyG hoS (fun b hm he => hnx5.out (by rw [← List.mem_singleton.1 he]; exact hm)))
          have hy5 := Lib.hid (hyN22.out.onlyG hoS (fun b hm he => hny5.out (by rw [← List.mem_singleton.1 he]; exact hm)))
          have hS' : Tb g1 g2 ca cb a b (World.setCells (U22) g5 0 cx.toList) := ⟨hS.b1.only hoS (by have := hsl.out; simp; omega), hS.b2.only hoS (by have := hsl2.out; simp; omega), hS.a.onlyG hoS (fun b hm he => by have h1 := haL.out b hm; rw [List.mem_singleton.1 he] at h1; omega), hS.b.onlyG hoS (fun b hm he => by have h1 := hbL.out b hm; rw [List.mem_singleton.1 he] at h1; omega)⟩
          refine wp_store_mid 113 (.tmp 5) (.tmp 17) rfl g5 0 cx rfl (by rw [hcx]; rfl) (by rw [sx]; exact hth) (by rw [sx]; kernel_rfl) ox ?_
          clear hoS hth
          replace hcx := Lib.hid hcx
          replace hcy := Lib.hid hcy
          generalize World.setCells _ g5 0 cx.toList = U99 at *
          refine hK.out _ _ (hS') (fun hSn => ?_)
          clear hK K hS
          have hS := hSn
          clear hSn
          refine callH 7 rfl (by kernel_rfl) (fun K hK => ?_)
          rw [if_pos (by rfl)]
          have hth := there_blk_at hO5.out (o := 0) (n := 22) (by decide)
          have hNb6 := Lib.hid (blk_put6 hO5.out (vs := cy) (by rw [sy]; rfl))
          have hoS : Only [g6] (U99) (World.setCells (U99) g6 0 cy.toList) := only_setCells (b := g6) cy.toList 0 (U99)
          have hBF := Lib.hid (hBF.out.trans (hoS.below (by have := hBF.out.size; omega) (by simp; omega)))
          have hO6 := Lib.hid (hNb5.out.only hoS (by simp; omega))
          have hx6 := Lib.hid (hx5.out.onlyG hoS (fun b hm he => hnx6.out (by rw [← List.mem_singleton.1 he]; exact hm)))
          have hy6 := Lib.hid (hy5.out.onlyG hoS (fun b hm he => hny6.out (by rw [← List.mem_singleton.1 he]; exact hm)))
          have hS' : Tb g1 g2 ca cb a b (World.setCells (U99) g6 0 cy.toList) := ⟨hS.b1.only hoS (by have := hsl.out; simp; omega), hS.b2.only hoS (by have := hsl2.out; simp; omega), hS.a.onlyG hoS (fun b hm he => by have h1 := haL.out b hm; rw [List.mem_singleton.1 he] at h1; omega), hS.b.onlyG hoS (fun b hm he => by have h1 := hbL.out b hm; rw [List.mem_singleton.1 he] at h1; omega)⟩
          refine wp_store_mid 113 (.tmp 6) (.tmp 19) rfl g6 0 cy rfl (by rw [hcy]; rfl) (by rw [sy]; exact hth) (by rw [sy]; kernel_rfl) oy ?_
          clear hoS hth
          generalize World.setCells _ g6 0 cy.toList = U98 at *
          refine hK.out _ _ (hS') (fun hSn => ?_)
          clear hK K hS
          have hS := hSn
          clear hSn
          refine wpAnyH_done (by kernel_rfl) ?_ _
          have hSf := Lib.hid hS
          clear hS
          go_wp2_with fail
          go_meet
          exact ⟨g5, g6, x, y, cx, cy, rfl, rfl, hcx.out, hcy.out, hO6.out, hNb6.out, hx6.out, hy6.out, hpx, hpy, hSf.out, hBF.out⟩
        · go_simp
          have hBz := (Below.refl _ (U20)).alloc (Nat.le_refl _) (.cells #[.int .i64 0, .int .i64 0, .slice none 0 0, .slice none 0 0, .slice none 0 0, .slice none 0 0, .int .i64 0, .int .i64 0, .int .i64 0, .int .i64 0, .string ⟨#[]⟩, .slice none 0 0, .slice none 0 0, .slice none 0 0, .slice none 0 0, .slice none 0 0, .int .i64 0, .int .i64 0, .int .i64 0, .int .i64 0, .string ⟨#[]⟩, .slice none 0 0] 113)
          have hG50 := Blk.new (U20) 113 #[.int .i64 0, .int .i64 0, .slice none 0 0, .slice none 0 0, .slice none 0 0, .slice none 0 0, .int .i64 0, .int .i64 0, .int .i64 0, .int .i64 0, .string ⟨#[]⟩, .slice none 0 0, .slice none 0 0, .slice none 0 0, .slice none 0 0, .slice none 0 0, .int .i64 0, .int .i64 0, .int .i64 0, .int .i64 0, .string ⟨#[]⟩, .slice none 0 0]
          obtain ⟨g5, hg5⟩ : ∃ g, (U20).heap.size = g := ⟨_, rfl⟩
          rw [hg5] at hG50
          try rw [hg5]
          have hgw5 : W2.heap.size ≤ g5 := by have := hBN20.out.size; omega
          have hS' := hS.new hBz
          have hnx5 : Hid (g5 ∈ x.blks → False) := Lib.hid (fun hm => by have h1 := hxN20.out.lt _ hm; omega)
          have hne : g5 ≠ g6 := by have h1 := hG60.out.lt; omega
          have hBN25 := Lib.hid (below_and hBN20.out hBz)
          have hxN25 := Lib.hid (hxN20.out.below hBz)
          have hG6N25 := Lib.hid (hG60.out.below hBz hG60.out.lt)
          replace hG50 := Lib.hid hG50
          generalize (U20).alloc (.cells #[.int .i64 0, .int .i64 0, .slice none 0 0, .slice none 0 0, .slice none 0 0, .slice none 0 0, .int .i64 0, .int .i64 0, .int .i64 0, .int .i64 0, .string ⟨#[]⟩, .slice none 0 0, .slice none 0 0, .slice none 0 0, .slice none 0 0, .slice none 0 0, .int .i64 0, .int .i64 0, .int .i64 0, .int .i64 0, .string ⟨#[]⟩, .slice none 0 0] 113) = U25 at *
          clear hBz hg5
          refine hK.out _ _ (hS') (fun hSn => ?_)
          clear hK K hS
          have hS := hSn
          clear hSn
          refine callH 3 rfl (by kernel_rfl) (fun K hK => ?_)
          go_simp
          have hcc := Lib.hid (hTb.out _ hS.b)
          refine hcc.out.mono ?_
          rintro e U26 ⟨⟨y, rfl, hpy, hoy, hly⟩, hB2⟩
          clear hcc
          have hS' := hS.new hB2
          have hBN26 := Lib.hid (below_and hBN25.out hB2)
          have hxN26 := Lib.hid (hxN25.out.below hB2)
          have hG5N26 := Lib.hid (hG50.out.below hB2 hG50.out.lt)
          have hG6N26 := Lib.hid (hG6N25.out.below hB2 hG6N25.out.lt)
          have hy0 := Lib.hid hoy
          have hny5 : Hid (g5 ∈ y.blks → False) := Lib.hid (fun hm => Nat.not_le.2 hG50.out.lt (hly _ hm))
          have hny6 : Hid (g6 ∈ y.blks → False) := Lib.hid (fun hm => Nat.not_le.2 hG6N25.out.lt (hly _ hm))
          have hloy := Lib.hid (fun b hm => Nat.le_trans hBN25.out.size (hly b hm))
          clear hB2 hoy hly
          refine hK.out _ _ (hS') (fun hSn => ?_)
          clear hK K hS
          have hS := hSn
          clear hSn
          refine callH 6 rfl (by kernel_rfl) (fun K hK => ?_)
          rw [if_pos (by rfl)]
          obtain ⟨cx, hcx⟩ : ∃ c, c = (x.cells eR).toArray := ⟨_, rfl⟩
          obtain ⟨cy, hcy⟩ : ∃ c, c = (y.cells eR).toArray := ⟨_, rfl⟩
          have sx : cx.size = 22 := by rw [hcx]; exact cellsT_size eR x
          have sy : cy.size = 22 := by rw [hcy]; exact cellsT_size eR y
          have ox : cx.all (·.oneCell') = true := by rw [hcx]; exact cells_oneE eR x
          have oy : cy.all (·.oneCell') = true := by rw [hcy]; exact cells_oneE eR y
          have hth := there_blk_at hG5N26.out (o := 0) (n := 22) (by decide)
          have hNb5 := Lib.hid (blk_put6 hG5N26.out (vs := cx) (by rw [sx]; rfl))
          have hoS : Only [g5] (U26) (World.setCells (U26) g5 0 cx.toList) := only_setCells (b := g5) cx.toList 0 (U26)
          have hBF := Lib.hid (hBN26.out.trans (hoS.below (by have := hBN26.out.size; omega) (by simp; omega)))
          have hO5 := Lib.hid (hG6N26.out.only hoS (by simp; omega))
          have hx5 := Lib.hid (hxN26.out.onlyG hoS (fun b hm he => hnx5.out (by rw [← List.mem_singleton.1 he]; exact hm)))
          have hy5 := Lib.hid (hy0.out.onlyG hoS (fun b hm he => hny5.out (by rw [← List.mem_singleton.1 he]; exact hm)))
          have hS' : Tb g1 g2 ca cb a b (World.setCells (U26) g5 0 cx.toList) := ⟨hS.b1.only hoS (by have := hsl.out; simp; omega), hS.b2.only hoS (by have := hsl2.out; simp; omega), hS.a.onlyG hoS (fun b hm he => by have h1 := haL.out b hm; rw [List.mem_singleton.1 he] at h1; omega), hS.b.onlyG hoS (fun b hm he => by have h1 := hbL.out b hm; rw [List.mem_singleton.1 he] at h1; omega)⟩
          refine wp_store_mid 113 (.tmp 5) (.tmp 17) rfl g5 0 cx rfl (by rw [hcx]; rfl) (by rw [sx]; exact hth) (by rw [sx]; kernel_rfl) ox ?_
          clear hoS hth
          replace hcx := Lib.hid hcx
          replace hcy := Lib.hid hcy
          generalize World.setCells _ g5 0 cx.toList = U99 at *
          refine hK.out _ _ (hS') (fun hSn => ?_)
          clear hK K hS
          have hS := hSn
          clear hSn
          refine callH 7 rfl (by kernel_rfl) (fun K hK => ?_)
          rw [if_pos (by rfl)]
          have hth := there_blk_at hO5.out (o := 0) (n := 22) (by decide)
          have hNb6 := Lib.hid (blk_put6 hO5.out (vs := cy) (by rw [sy]; rfl))
          have hoS : Only [g6] (U99) (World.setCells (U99) g6 0 cy.toList) := only_setCells (b := g6) cy.toList 0 (U99)
          have hBF := Lib.hid (hBF.out.trans (hoS.below (by have := hBF.out.size; omega) (by simp; omega)))
          have hO6 := Lib.hid (hNb5.out.only hoS (by simp; omega))
          have hx6 := Lib.hid (hx5.out.onlyG hoS (fun b hm he => hnx6.out (by rw [← List.mem_singleton.1 he]; exact hm)))
          have hy6 := Lib.hid (hy5.out.onlyG hoS (fun b hm he => hny6.out (by rw [← List.mem_singleton.1 he]; exact hm)))
          have hS' : Tb g1 g2 ca cb a b (World.setCells (U99) g6 0 cy.toList) := ⟨hS.b1.only hoS (by have := hsl.out; simp; omega), hS.b2.only hoS (by have := hsl2.out; simp; omega), hS.a.onlyG hoS (fun b hm he => by have h1 := haL.out b hm; rw [List.mem_singleton.1 he] at h1; omega), hS.b.onlyG hoS (fun b hm he => by have h1 := hbL.out b hm; rw [List.mem_singleton.1 he] at h1; omega)⟩
          refine wp_store_mid 113 (.tmp 6) (.tmp 19) rfl g6 0 cy rfl (by rw [hcy]; rfl) (by rw [sy]; exact hth) (by rw [sy]; kernel_rfl) oy ?_
          clear hoS hth
          generalize World.setCells _ g6 0 cy.toList = U98 at *
          refine hK.out _ _ (hS') (fun hSn => ?_)
          clear hK K hS
          have hS := hSn
          clear hSn
          refine wpAnyH_done (by kernel_rfl) ?_ _
          have hSf := Lib.hid hS
          clear hS
          go_wp2_with fail
          go_meet
          exact ⟨g5, g6, x, y, cx, cy, rfl, rfl, hcx.out, hcy.out, hO6.out, hNb6.out, hx6.out, hy6.out, hpx, hpy, hSf.out, hBF.out⟩
    · go_simp
      rw [show (W2.alloc (.cells #[.int .i64 0, .int .i64 0, .slice none 0 0, .slice none 0 0, .slice none 0 0, .slice none 0 0, .int .i64 0, .int .i64 0, .int .i64 0, .int .i64 0, .string ⟨#[]⟩, .slice none 0 0, .slice none 0 0, .slice none 0 0, .slice none 0 0, .slice none 0 0, .int .i64 0, .int .i64 0, .int .i64 0, .int .i64 0, .string ⟨#[]⟩, .slice none 0 0] 113)).drew = W2.drew.alloc (.cells #[.int .i64 0, .int .i64 0, .slice none 0 0, .slice none 0 0, .slice none 0 0, .slice none 0 0, .int .i64 0, .int .i64 0, .int .i64 0, .int .i64 0, .string ⟨#[]⟩, .slice none 0 0, .slice none 0 0, .slice none 0 0, .slice none 0 0, .slice none 0 0, .int .i64 0, .int .i64 0, .int .i64 0, .int .i64 0, .string ⟨#[]⟩, .slice none 0 0] 113) from rfl]
      have hBz := (Below.refl _ (W2.drew)).alloc (Nat.le_refl _) (.cells #[.int .i64 0, .int .i64 0, .slice none 0 0, .slice none 0 0, .slice none 0 0, .slice none 0 0, .int .i64 0, .int .i64 0, .int .i64 0, .int .i64 0, .string ⟨#[]⟩, .slice none 0 0, .slice none 0 0, .slice none 0 0, .slice none 0 0, .slice none 0 0, .int .i64 0, .int .i64 0, .int .i64 0, .int .i64 0, .string ⟨#[]⟩, .slice none 0 0] 113)
      have hG50 := Blk.new (W2.drew) 113 #[.int .i64 0, .int .i64 0, .slice none 0 0, .slice none 0 0, .slice none 0 0, .slice none 0 0, .int .i64 0, .int .i64 0, .int .i64 0, .int .i64 0, .string ⟨#[]⟩, .slice none 0 0, .slice none 0 0, .slice none 0 0, .slice none 0 0, .slice none 0 0, .int .i64 0, .int .i64 0, .int .i64 0, .int .i64 0, .string ⟨#[]⟩, .slice none 0 0]
      obtain ⟨g5, hg5⟩ : ∃ g, (W2.drew).heap.size = g := ⟨_, rfl⟩
      rw [hg5] at hG50
      try rw [hg5]
      rw [show W2.heap.size = g5 from hg5]
      have hgw5 : W2.heap.size ≤ g5 := by have := hBd.out.size; omega
      have hS' := hS.new hBz
      have hBN29 := Lib.hid (below_and hBd.out hBz)
      replace hG50 := Lib.hid hG50
      generalize (W2.drew).alloc (.cells #[.int .i64 0, .int .i64 0, .slice none 0 0, .slice none 0 0, .slice none 0 0, .slice none 0 0, .int .i64 0, .int .i64 0, .int .i64 0, .int .i64 0, .string ⟨#[]⟩, .slice none 0 0, .slice none 0 0, .slice none 0 0, .slice none 0 0, .slice none 0 0, .int .i64 0, .int .i64 0, .int .i64 0, .int .i64 0, .string ⟨#[]⟩, .slice none 0 0] 113) = U29 at *
      clear hBz hg5
      refine hK.out _ _ (hS') (fun hSn => ?_)
      clear hK K hS
      have hS := hSn
      clear hSn
      refine callH2 1 5 rfl rfl (by kernel_rfl) (fun K hK => ?_) (fun K hK => ?_)
      · go_simp
        have hcc := Lib.hid (hTa.out _ hS.a)
        refine hcc.out.mono ?_
        rintro e U30 ⟨⟨x, rfl, hpx, hox, hlx⟩, hB2⟩
        clear hcc
        have hS' := hS.new hB2
        have hBN30 := Lib.hid (below_and hBN29.out hB2)
        have hG5N30 := Lib.hid (hG50.out.below hB2 hG50.out.lt)
        have hx0 := Lib.hid hox
        have hnx5 : Hid (g5 ∈ x.blks → False) := Lib.hid (fun hm => Nat.not_le.2 hG50.out.lt (hlx _ hm))
        have hlox := Lib.hid (fun b hm => Nat.le_trans hBN29.out.size (hlx b hm))
        clear hB2 hox hlx
        refine hK.out _ _ (hS') (fun hSn => ?_)
        clear hK K hS
        have hS := hSn
        clear hSn
        refine callH2 3 5 rfl rfl (by kernel_rfl) (fun K hK => ?_) (fun K hK => ?_)
        · go_simp
          have hcc := Lib.hid (hTb.out _ hS.b)
          refine hcc.out.mono ?_
          rintro e U31 ⟨⟨y, rfl, hpy, hoy, hly⟩, hB2⟩
          clear hcc
          have hS' := hS.new hB2
          have hBN31 := Lib.hid (below_and hBN30.out hB2)
          have hxN31 := Lib.hid (hx0.out.below hB2)
          have hG5N31 := Lib.hid (hG5N30.out.below hB2 hG5N30.out.lt)
          have hy0 := Lib.hid hoy
          have hny5 : Hid (g5 ∈ y.blks → False) := Lib.hid (fun hm => Nat.not_le.2 hG5N30.out.lt (hly _ hm))
          have hloy := Lib.hid (fun b hm => Nat.le_trans hBN30.out.size (hly b hm))
          clear hB2 hoy hly
          refine hK.out _ _ (hS') (fun hSn => ?_)
          clear hK K hS
          have hS := hSn
          clear hSn
          refine callH 5 rfl (by kernel_rfl) (fun K hK => ?_)
          go_simp
          have hBz := (Below.refl _ (U31)).alloc (Nat.le_refl _) (.cells #[.int .i64 0, .int .i64 0, .slice none 0 0, .slice none 0 0, .slice none 0 0, .slice none 0 0, .int .i64 0, .int .i64 0, .int .i64 0, .int .i64 0, .string ⟨#[]⟩, .slice none 0 0, .slice none 0 0, .slice none 0 0, .slice none 0 0, .slice none 0 0, .int .i64 0, .int .i64 0, .int .i64 0, .int .i64 0, .string ⟨#[]⟩, .slice none 0 0] 113)
          have hG60 := Blk.new (U31) 113 #[.int .i64 0, .int .i64 0, .slice none 0 0, .slice none 0 0, .slice none 0 0, .slice none 0 0, .int .i64 0, .int .i64 0, .int .i64 0, .int .i64 0, .string ⟨#[]⟩, .slice none 0 0, .slice none 0 0, .slice none 0 0, .slice none 0 0, .slice none 0 0, .int .i64 0, .int .i64 0, .int .i64 0, .int .i64 0, .string ⟨#[]⟩, .slice none 0 0]
          obtain ⟨g6, hg6⟩ : ∃ g, (U31).heap.size = g := ⟨_, rfl⟩
          rw [hg6] at hG60
          try rw [hg6]
          have hgw6 : W2.heap.size ≤ g6 := by have := hBN31.out.size; omega
          have hS' := hS.new hBz
          have hnx6 : Hid (g6 ∈ x.blks → False) := Lib.hid (fun hm => by have h1 := hxN31.out.lt _ hm; omega)
          have hny6 : Hid (g6 ∈ y.blks → False) := Lib.hid (fun hm => by have h1 := hy0.out.lt _ hm; omega)
          have hne : g5 ≠ g6 := by have h1 := hG5N31.out.lt; omega
          have hBN32 := Lib.hid (below_and hBN31.out hBz)
          have hxN32 := Lib.hid (hxN31.out.below hBz)
          have hyN32 := Lib.hid (hy0.out.below hBz)
          have hG5N32 := Lib.hid (hG5N31.out.below hBz hG5N31.out.lt)
          replace hG60 := Lib.hid hG60
          generalize (U31).alloc (.cells #[.int .i64 0, .int .i64 0, .slice none 0 0, .slice none 0 0, .slice none 0 0, .slice none 0 0, .int .i64 0, .int .i64 0, .int .i64 0, .int .i64 0, .string ⟨#[]⟩, .slice none 0 0, .slice none 0 0, .slice none 0 0, .slice none 0 0, .slice none 0 0, .int .i64 0, .int .i64 0, .int .i64 0, .int .i64 0, .string ⟨#[]⟩, .slice none 0 0] 113) = U32 at *
          clear hBz hg6
          refine hK.out _ _ (hS') (fun hSn => ?_)
          clear hK K hS
          have hS := hSn
          clear hSn
          refine callH 6 rfl (by kernel_rfl) (fun K hK => ?_)
          rw [if_pos (by rfl)]
          obtain ⟨cx, hcx⟩ : ∃ c, c = (x.cells eR).toArray := ⟨_, rfl⟩
          obtain ⟨cy, hcy⟩ : ∃ c, c = (y.cells eR).toArray := ⟨_, rfl⟩
          have sx : cx.size = 22 := by rw [hcx]; exact cellsT_size eR x
          have sy : cy.size = 22 := by rw [hcy]; exact cellsT_size eR y
          have ox : cx.all (·.oneCell') = true := by rw [hcx]; exact cells_oneE eR x
          have oy : cy.all (·.oneCell') = true := by rw [hcy]; exact cells_oneE eR y
          have hth := there_blk_at hG5N32.out (o := 0) (n := 22) (by decide)
          have hNb5 := Lib.hid (blk_put6 hG5N32.out (vs := cx) (by rw [sx]; rfl))
          have hoS : Only [g5] (U32) (World.setCells (U32) g5 0 cx.toList) := only_setCells (b := g5) cx.toList 0 (U32)
          have hBF := Lib.hid (hBN32.out.trans (hoS.below (by have := hBN32.out.size; omega) (by simp; omega)))
          have hO5 := Lib.hid (hG60.out.only hoS (by simp; omega))
          have hx5 := Lib.hid (hxN32.out.onlyG hoS (fun b hm he => hnx5.out (by rw [← List.mem_singleton.1 he]; exact hm)))
          have hy5 := Lib.hid (hyN32.out.onlyG hoS (fun b hm he => hny5.out (by rw [← List.mem_singleton.1 he]; exact hm)))
          have hS' : Tb g1 g2 ca cb a b (World.setCells (U32) g5 0 cx.toList) := ⟨hS.b1.only hoS (by have := hsl.out; simp; omega), hS.b2.only hoS (by have := hsl2.out; simp; omega), hS.a.onlyG hoS (fun b hm he => by have h1 := haL.out b hm; rw [List.mem_singleton.1 he] at h1; omega), hS.b.onlyG hoS (fun b hm he => by have h1 := hbL.out b hm; rw [List.mem_singleton.1 he] at h1; omega)⟩
          refine wp_store_mid 113 (.tmp 5) (.tmp 17) rfl g5 0 cx rfl (by rw [hcx]; rfl) (by rw [sx]; exact hth) (by rw [sx]; kernel_rfl) ox ?_
          clear hoS hth
          replace hcx := Lib.hid hcx
          replace hcy := Lib.hid hcy
          generalize World.setCells _ g5 0 cx.toList = U99 at *
          refine hK.out _ _ (hS') (fun hSn => ?_)
          clear hK K hS
          have hS := hSn
          clear hSn
          refine callH 7 rfl (by kernel_rfl) (fun K hK => ?_)
          rw [if_pos (by rfl)]
          have hth := there_blk_at hO5.out (o := 0) (n := 22) (by decide)
          have hNb6 := Lib.hid (blk_put6 hO5.out (vs := cy) (by rw [sy]; rfl))
          have hoS : Only [g6] (U99) (World.setCells (U99) g6 0 cy.toList) := only_setCells (b := g6) cy.toList 0 (U99)
          have hBF := Lib.hid (hBF.out.trans (hoS.below (by have := hBF.out.size; omega) (by simp; omega)))
          have hO6 := Lib.hid (hNb5.out.only hoS (by simp; omega))
          have hx6 := Lib.hid (hx5.out.onlyG hoS (fun b hm he => hnx6.out (by rw [← List.mem_singleton.1 he]; exact hm)))
          have hy6 := Lib.hid (hy5.out.onlyG hoS (fun b hm he => hny6.out (by rw [← List.mem_singleton.1 he]; exact hm)))
          have hS' : Tb g1 g2 ca cb a b (World.setCells (U99) g6 0 cy.toList) := ⟨hS.b1.only hoS (by have := hsl.out; simp; omega), hS.b2.only hoS (by have := hsl2.out; simp; omega), hS.a.onlyG hoS (fun b hm he => by have h1 := haL.out b hm; rw [List.mem_singleton.1 he] at h1; omega), hS.b.onlyG hoS (fun b hm he => by have h1 := hbL.out b hm; rw [List.mem_singleton.1 he] at h1; omega)⟩
          refine wp_store_mid 113 (.tmp 6) (.tmp 19) rfl g6 0 cy rfl (by rw [hcy]; rfl) (by rw [sy]; exact hth) (by rw [sy]; kernel_rfl) oy ?_
          clear hoS hth
          generalize World.setCells _ g6 0 cy.toList = U98 at *
          refine hK.out _ _ (hS') (fun hSn => ?_)
          clear hK K hS
          have hS := hSn
          clear hSn
          refine wpAnyH_done (by kernel_rfl) ?_ _
          have hSf := Lib.hid hS
          clear hS
          go_wp2_with fail
          go_meet
          exact ⟨g5, g6, x, y, cx, cy, rfl, rfl, hcx.out, hcy.out, hO6.out, hNb6.out, hx6.out, hy6.out, hpx, hpy, hSf.out, hBF.out⟩
        · go_simp
          have hBz := (Below.refl _ (U30)).alloc (Nat.le_refl _) (.cells #[.int .i64 0, .int .i64 0, .slice none 0 0, .slice none 0 0, .slice none 0 0, .slice none 0 0, .int .i64 0, .int .i64 0, .int .i64 0, .int .i64 0, .string ⟨#[]⟩, .slice none 0 0, .slice none 0 0, .slice none 0 0, .slice none 0 0, .slice none 0 0, .int .i64 0, .int .i64 0, .int .i64 0, .int .i64 0, .string ⟨#[]⟩, .slice none 0 0] 113)
          have hG60 := Blk.new (U30) 113 #[.int .i64 0, .int .i64 0, .slice none 0 0, .slice none 0 0, .slice none 0 0, .slice none 0 0, .int .i64 0, .int .i64 0, .int .i64 0, .int .i64 0, .string ⟨#[]⟩, .slice none 0 0, .slice none 0 0, .slice none 0 0, .slice none 0 0, .slice none 0 0, .int .i64 0, .int .i64 0, .int .i64 0, .int .i64 0, .string ⟨#[]⟩, .slice none 0 0]
          obtain ⟨g6, hg6⟩ : ∃ g, (U30).heap.size = g := ⟨_, rfl⟩
          rw [hg6] at hG60
          try rw [hg6]
          have hgw6 : W2.heap.size ≤ g6 := by have := hBN30.out.size; omega
          have hS' := hS.new hBz
          have hnx6 : Hid (g6 ∈ x.blks → False) := Lib.hid (fun hm => by have h1 := hx0.out.lt _ hm; omega)
          have hne : g5 ≠ g6 := by have h1 := hG5N30.out.lt; omega
          have hBN35 := Lib.hid (below_and hBN30.out hBz)
          have hxN35 := Lib.hid (hx0.out.below hBz)
          have hG5N35 := Lib.hid (hG5N30.out.below hBz hG5N30.out.lt)
          replace hG60 := Lib.hid hG60
          generalize (U30).alloc (.cells #[.int .i64 0, .int .i64 0, .slice none 0 0, .slice none 0 0, .slice none 0 0, .slice none 0 0, .int .i64 0, .int .i64 0, .int .i64 0, .int .i64 0, .string ⟨#[]⟩, .slice none 0 0, .slice none 0 0, .slice none 0 0, .slice none 0 0, .slice none 0 0, .int .i64 0, .int .i64 0, .int .i64 0, .int .i64 0, .string ⟨#[]⟩, .slice none 0 0] 113) = U35 at *
          clear hBz hg6
          refine hK.out _ _ (hS') (fun hSn => ?_)
          clear hK K hS
          have hS := hSn
          clear hSn
          refine callH 3 rfl (by kernel_rfl) (fun K hK => ?_)
          go_simp
          have hcc := Lib.hid (hTb.out _ hS.b)
          refine hcc.out.mono ?_
          rintro e U36 ⟨⟨y, rfl, hpy, hoy, hly⟩, hB2⟩
          clear hcc
          have hS' := hS.new hB2
          have hBN36 := Lib.hid (below_and hBN35.out hB2)
          have hxN36 := Lib.hid (hxN35.out.below hB2)
          have hG5N36 := Lib.hid (hG5N35.out.below hB2 hG5N35.out.lt)
          have hG6N36 := Lib.hid (hG60.out.below hB2 hG60.out.lt)
          have hy0 := Lib.hid hoy
          have hny5 : Hid (g5 ∈ y.blks → False) := Lib.hid (fun hm => Nat.not_le.2 hG5N35.out.lt (hly _ hm))
          have hny6 : Hid (g6 ∈ y.blks → False) := Lib.hid (fun hm => Nat.not_le.2 hG60.out.lt (hly _ hm))
          have hloy := Lib.hid (fun b hm => Nat.le_trans hBN35.out.size (hly b hm))
          clear hB2 hoy hly
          refine hK.out _ _ (hS') (fun hSn => ?_)
          clear hK K hS
          have hS := hSn
          clear hSn
          refine callH 6 rfl (by kernel_rfl) (fun K hK => ?_)
          rw [if_pos (by rfl)]
          obtain ⟨cx, hcx⟩ : ∃ c, c = (x.cells eR).toArray := ⟨_, rfl⟩
          obtain ⟨cy, hcy⟩ : ∃ c, c = (y.cells eR).toArray := ⟨_, rfl⟩
          have sx : cx.size = 22 := by rw [hcx]; exact cellsT_size eR x
          have sy : cy.size = 22 := by rw [hcy]; exact cellsT_size eR y
          have ox : cx.all (·.oneCell') = true := by rw [hcx]; exact cells_oneE eR x
          have oy : cy.all (·.oneCell') = true := by rw [hcy]; exact cells_oneE eR y
          have hth := there_blk_at hG5N36.out (o := 0) (n := 22) (by decide)
          have hNb5 := Lib.hid (blk_put6 hG5N36.out (vs := cx) (by rw [sx]; rfl))
          have hoS : Only [g5] (U36) (World.setCells (U36) g5 0 cx.toList) := only_setCells (b := g5) cx.toList 0 (U36)
          have hBF := Lib.hid (hBN36.out.trans (hoS.below (by have := hBN36.out.size; omega) (by simp; omega)))
          have hO5 := Lib.hid (hG6N36.out.only hoS (by simp; omega))
          have hx5 := Lib.hid (hxN36.out.onlyG hoS (fun b hm he => hnx5.out (by rw [← List.mem_singleton.1 he]; exact hm)))
          have hy5 := Lib.hid (hy0.out.onlyG hoS (fun b hm he => hny5.out (by rw [← List.mem_singleton.1 he]; exact hm)))
          have hS' : Tb g1 g2 ca cb a b (World.setCells (U36) g5 0 cx.toList) := ⟨hS.b1.only hoS (by have := hsl.out; simp; omega), hS.b2.only hoS (by have := hsl2.out; simp; omega), hS.a.onlyG hoS (fun b hm he => by have h1 := haL.out b hm; rw [List.mem_singleton.1 he] at h1; omega), hS.b.onlyG hoS (fun b hm he => by have h1 := hbL.out b hm; rw [List.mem_singleton.1 he] at h1; omega)⟩
          refine wp_store_mid 113 (.tmp 5) (.tmp 17) rfl g5 0 cx rfl (by rw [hcx]; rfl) (by rw [sx]; exact hth) (by rw [sx]; kernel_rfl) ox ?_
          clear hoS hth
          replace hcx := Lib.hid hcx
          replace hcy := Lib.hid hcy
          generalize World.setCells _ g5 0 cx.toList = U99 at *
          refine hK.out _ _ (hS') (fun hSn => ?_)
          clear hK K hS
          have hS := hSn
          clear hSn
          refine callH 7 rfl (by kernel_rfl) (fun K hK => ?_)
          rw [if_pos (by rfl)]
          have hth := there_blk_at hO5.out (o := 0) (n := 22) (by decide)
          have hNb6 := Lib.hid (blk_put6 hO5.out (vs := cy) (by rw [sy]; rfl))
          have hoS : Only [g6] (U99) (World.setCells (U99) g6 0 cy.toList) := only_setCells (b := g6) cy.toList 0 (U99)
          have hBF := Lib.hid (hBF.out.trans (hoS.below (by have := hBF.out.size; omega) (by simp; omega)))
          have hO6 := Lib.hid (hNb5.out.only hoS (by simp; omega))
          have hx6 := Lib.hid (hx5.out.onlyG hoS (fun b hm he => hnx6.out (by rw [← List.mem_singleton.1 he]; exact hm)))
          have hy6 := Lib.hid (hy5.out.onlyG hoS (fun b hm he => hny6.out (by rw [← List.mem_singleton.1 he]; exact hm)))
          have hS' : Tb g1 g2 ca cb a b (World.setCells (U99) g6 0 cy.toList) := ⟨hS.b1.only hoS (by have := hsl.out; simp; omega), hS.b2.only hoS (by have := hsl2.out; simp; omega), hS.a.onlyG hoS (fun b hm he => by have h1 := haL.out b hm; rw [List.mem_singleton.1 he] at h1; omega), hS.b.onlyG hoS (fun b hm he => by have h1 := hbL.out b hm; rw [List.mem_singleton.1 he] at h1; omega)⟩
          refine wp_store_mid 113 (.tmp 6) (.tmp 19) rfl g6 0 cy rfl (by rw [hcy]; rfl) (by rw [sy]; exact hth) (by rw [sy]; kernel_rfl) oy ?_
          clear hoS hth
          generalize World.setCells _ g6 0 cy.toList = U98 at *
          refine hK.out _ _ (hS') (fun hSn => ?_)
          clear hK K hS
          have hS := hSn
          clear hSn
          refine wpAnyH_done (by kernel_rfl) ?_ _
          have hSf := Lib.hid hS
          clear hS
          go_wp2_with fail
          go_meet
          exact ⟨g5, g6, x, y, cx, cy, rfl, rfl, hcx.out, hcy.out, hO6.out, hNb6.out, hx6.out, hy6.out, hpx, hpy, hSf.out, hBF.out⟩
      · go_simp
        have hBz := (Below.refl _ (U29)).alloc (Nat.le_refl _) (.cells #[.int .i64 0, .int .i64 0, .slice none 0 0, .slice none 0 0, .slice none 0 0, .slice none 0 0, .int .i64 0, .int .i64 0, .int .i64 0, .int .i64 0, .string ⟨#[]⟩, .slice none 0 0, .slice none 0 0, .slice none 0 0, .slice none 0 0, .slice none 0 0, .int .i64 0, .int .i64 0, .int .i64 0, .int .i64 0, .string ⟨#[]⟩, .slice none 0 0] 113)
        have hG60 := Blk.new (U29) 113 #[.int .i64 0, .int .i64 0, .slice none 0 0, .slice none 0 0, .slice none 0 0, .slice none 0 0, .int .i64 0, .int .i64 0, .int .i64 0, .int .i64 0, .string ⟨#[]⟩, .slice none 0 0, .slice none 0 0, .slice none 0 0, .slice none 0 0, .slice none 0 0, .int .i64 0, .int .i64 0, .int .i64 0, .int .i64 0, .string ⟨#[]⟩, .slice none 0 0]
        obtain ⟨g6, hg6⟩ : ∃ g, (U29).heap.size = g := ⟨_, rfl⟩
        rw [hg6] at hG60
        try rw [hg6]
        have hgw6 : W2.heap.size ≤ g6 := by have := hBN29.out.size; omega
        have hS' := hS.new hBz
        have hne : g5 ≠ g6 := by have h1 := hG50.out.lt; omega
        have hBN39 := Lib.hid (below_and hBN29.out hBz)
        have hG5N39 := Lib.hid (hG50.out.below hBz hG50.out.lt)
        replace hG60 := Lib.hid hG60
        generalize (U29).alloc (.cells #[.int .i64 0, .int .i64 0, .slice none 0 0, .slice none 0 0, .slice none 0 0, .slice none 0 0, .int .i64 0, .int .i64 0, .int .i64 0, .int .i64 0, .string ⟨#[]⟩, .slice none 0 0, .slice none 0 0, .slice none 0 0, .slice none 0 0, .slice none 0 0, .int .i64 0, .int .i64 0, .int .i64 0, .int .i64 0, .string ⟨#[]⟩, .slice none 0 0] 113) = U39 at *
        clear hBz hg6
        refine hK.out _ _ (hS') (fun hSn => ?_)
        clear hK K hS
        have hS := hSn
        clear hSn
        refine callH 1 rfl (by kernel_rfl) (fun K hK => ?_)
        go_simp
        have hcc := Lib.hid (hTa.out _ hS.a)
        refine hcc.out.mono ?_
        rintro e U40 ⟨⟨x, rfl, hpx, hox, hlx⟩, hB2⟩
        clear hcc
        have hS' := hS.new hB2
        have hBN40 := Lib.hid (below_and hBN39.out hB2)
        have hG5N40 := Lib.hid (hG5N39.out.below hB2 hG5N39.out.lt)
        have hG6N40 := Lib.hid (hG60.out.below hB2 hG60.out.lt)
        have hx0 := Lib.hid hox
        have hnx5 : Hid (g5 ∈ x.blks → False) := Lib.hid (fun hm => Nat.not_le.2 hG5N39.out.lt (hlx _ hm))
        have hnx6 : Hid (g6 ∈ x.blks → False) := Lib.hid (fun hm => Nat.not_le.2 hG60.out.lt (hlx _ hm))
        have hlox := Lib.hid (fun b hm => Nat.le_trans hBN39.out.size (hlx b hm))
        clear hB2 hox hlx
        refine hK.out _ _ (hS') (fun hSn => ?_)
        clear hK K hS
        have hS := hSn
        clear hSn
        refine callH 3 rfl (by kernel_rfl) (fun K hK => ?_)
        go_simp
        have hcc := Lib.hid (hTb.out _ hS.b)
        refine hcc.out.mono ?_
        rintro e U41 ⟨⟨y, rfl, hpy, hoy, hly⟩, hB2⟩
        clear hcc
        have hS' := hS.new hB2
        have hBN41 := Lib.hid (below_and hBN40.out hB2)
        have hxN41 := Lib.hid (hx0.out.below hB2)
        have hG5N41 := Lib.hid (hG5N40.out.below hB2 hG5N40.out.lt)
        have hG6N41 := Lib.hid (hG6N40.out.below hB2 hG6N40.out.lt)
        have hy0 := Lib.hid hoy
        have hny5 : Hid (g5 ∈ y.blks → False) := Lib.hid (fun hm => Nat.not_le.2 hG5N40.out.lt (hly _ hm))
        have hny6 : Hid (g6 ∈ y.blks → False) := Lib.hid (fun hm => Nat.not_le.2 hG6N40.out.lt (hly _ hm))
        have hloy := Lib.hid (fun b hm => Nat.le_trans hBN40.out.size (hly b hm))
        clear hB2 hoy hly
        refine hK.out _ _ (hS') (fun hSn => ?_)
        clear hK K hS
        have hS := hSn
        clear hSn
        refine callH 6 rfl (by kernel_rfl) (fun K hK => ?_)
        rw [if_pos (by rfl)]
        obtain ⟨cx, hcx⟩ : ∃ c, c = (x.cells eR).toArray := ⟨_, rfl⟩
        obtain ⟨cy, hcy⟩ : ∃ c, c = (y.cells eR).toArray := ⟨_, rfl⟩
        have sx : cx.size = 22 := by rw [hcx]; exact cellsT_size eR x
        have sy : cy.size = 22 := by rw [hcy]; exact cellsT_size eR y
        have ox : cx.all (·.oneCell') = true := by rw [hcx]; exact cells_oneE eR x
        have oy : cy.all (·.oneCell') = true := by rw [hcy]; exact cells_oneE eR y
        have hth := there_blk_at hG5N41.out (o := 0) (n := 22) (by decide)
        have hNb5 := Lib.hid (blk_put6 hG5N41.out (vs := cx) (by rw [sx]; rfl))
        have hoS : Only [g5] (U41) (World.setCells (U41) g5 0 cx.toList) := only_setCells (b := g5) cx.toList 0 (U41)
        have hBF := Lib.hid (hBN41.out.trans (hoS.below (by have := hBN41.out.size; omega) (by simp; omega)))
        have hO5 := Lib.hid (hG6N41.out.only hoS (by simp; omega))
        have hx5 := Lib.hid (hxN41.out.onlyG hoS (fun b hm he => hnx5.out (by rw [← List.mem_singleton.1 he]; exact hm)))
        have hy5 := Lib.hid (hy0.out.onlyG hoS (fun b hm he => hny5.out (by rw [← List.mem_singleton.1 he]; exact hm)))
        have hS' : Tb g1 g2 ca cb a b (World.setCells (U41) g5 0 cx.toList) := ⟨hS.b1.only hoS (by have := hsl.out; simp; omega), hS.b2.only hoS (by have := hsl2.out; simp; omega), hS.a.onlyG hoS (fun b hm he => by have h1 := haL.out b hm; rw [List.mem_singleton.1 he] at h1; omega), hS.b.onlyG hoS (fun b hm he => by have h1 := hbL.out b hm; rw [List.mem_singleton.1 he] at h1; omega)⟩
        refine wp_store_mid 113 (.tmp 5) (.tmp 17) rfl g5 0 cx rfl (by rw [hcx]; rfl) (by rw [sx]; exact hth) (by rw [sx]; kernel_rfl) ox ?_
        clear hoS hth
        replace hcx := Lib.hid hcx
        replace hcy := Lib.hid hcy
        generalize World.setCells _ g5 0 cx.toList = U99 at *
        refine hK.out _ _ (hS') (fun hSn => ?_)
        clear hK K hS
        have hS := hSn
        clear hSn
        refine callH 7 rfl (by kernel_rfl) (fun K hK => ?_)
        rw [if_pos (by rfl)]
        have hth := there_blk_at hO5.out (o := 0) (n := 22) (by decide)
        have hNb6 := Lib.hid (blk_put6 hO5.out (vs := cy) (by rw [sy]; rfl))
        have hoS : Only [g6] (U99) (World.setCells (U99) g6 0 cy.toList) := only_setCells (b := g6) cy.toList 0 (U99)
        have hBF := Lib.hid (hBF.out.trans (hoS.below (by have := hBF.out.size; omega) (by simp; omega)))
        have hO6 := Lib.hid (hNb5.out.only hoS (by simp; omega))
        have hx6 := Lib.hid (hx5.out.onlyG hoS (fun b hm he => hnx6.out (by rw [← List.mem_singleton.1 he]; exact hm)))
        have hy6 := Lib.hid (hy5.out.onlyG hoS (fun b hm he => hny6.out (by rw [← List.mem_singleton.1 he]; exact hm)))
        have hS' : Tb g1 g2 ca cb a b (World.setCells (U99) g6 0 cy.toList) := ⟨hS.b1.only hoS (by have := hsl.out; simp; omega), hS.b2.only hoS (by have := hsl2.out; simp; omega), hS.a.onlyG hoS (fun b hm he => by have h1 := haL.out b hm; rw [List.mem_singleton.1 he] at h1; omega), hS.b.onlyG hoS (fun b hm he => by have h1 := hbL.out b hm; rw [List.mem_singleton.1 he] at h1; omega)⟩
        refine wp_store_mid 113 (.tmp 6) (.tmp 19) rfl g6 0 cy rfl (by rw [hcy]; rfl) (by rw [sy]; exact hth) (by rw [sy]; kernel_rfl) oy ?_
        clear hoS hth
        generalize World.setCells _ g6 0 cy.toList = U98 at *
        refine hK.out _ _ (hS') (fun hSn => ?_)
        clear hK K hS
        have hS := hSn
        clear hSn
        refine wpAnyH_done (by kernel_rfl) ?_ _
        have hSf := Lib.hid hS
        clear hS
        go_wp2_with fail
        go_meet
        exact ⟨g5, g6, x, y, cx, cy, rfl, rfl, hcx.out, hcy.out, hO6.out, hNb6.out, hx6.out, hy6.out, hpx, hpy, hSf.out, hBF.out⟩
    · go_simp
      rw [show (W2.alloc (.cells #[.int .i64 0, .int .i64 0, .slice none 0 0, .slice none 0 0, .slice none 0 0, .slice none 0 0, .int .i64 0, .int .i64 0, .int .i64 0, .int .i64 0, .string ⟨#[]⟩, .slice none 0 0, .slice none 0 0, .slice none 0 0, .slice none 0 0, .slice none 0 0, .int .i64 0, .int .i64 0, .int .i64 0, .int .i64 0, .string ⟨#[]⟩, .slice none 0 0] 113)).drew = W2.drew.alloc (.cells #[.int .i64 0, .int .i64 0, .slice none 0 0, .slice none 0 0, .slice none 0 0, .slice none 0 0, .int .i64 0, .int .i64 0, .int .i64 0, .int .i64 0, .string ⟨#[]⟩, .slice none 0 0, .slice none 0 0, .slice none 0 0, .slice none 0 0, .slice none 0 0, .int .i64 0, .int .i64 0, .int .i64 0, .int .i64 0, .string ⟨#[]⟩, .slice none 0 0] 113) from rfl]
      have hBz := (Below.refl _ (W2.drew)).alloc (Nat.le_refl _) (.cells #[.int .i64 0, .int .i64 0, .slice none 0 0, .slice none 0 0, .slice none 0 0, .slice none 0 0, .int .i64 0, .int .i64 0, .int .i64 0, .int .i64 0, .string ⟨#[]⟩, .slice none 0 0, .slice none 0 0, .slice none 0 0, .slice none 0 0, .slice none 0 0, .int .i64 0, .int .i64 0, .int .i64 0, .int .i64 0, .string ⟨#[]⟩, .slice none 0 0] 113)
      have hG60 := Blk.new (W2.drew) 113 #[.int .i64 0, .int .i64 0, .slice none 0 0, .slice none 0 0, .slice none 0 0, .slice none 0 0, .int .i64 0, .int .i64 0, .int .i64 0, .int .i64 0, .string ⟨#[]⟩, .slice none 0 0, .slice none 0 0, .slice none 0 0, .slice none 0 0, .slice none 0 0, .int .i64 0, .int .i64 0, .int .i64 0, .int .i64 0, .string ⟨#[]⟩, .slice none 0 0]
      obtain ⟨g6, hg6⟩ : ∃ g, (W2.drew).heap.size = g := ⟨_, rfl⟩
      rw [hg6] at hG60
      try rw [hg6]
      rw [show W2.heap.size = g6 from hg6]
      have hgw6 : W2.heap.size ≤ g6 := by have := hBd.out.size; omega
      have hS' := hS.new hBz
      have hBN44 := Lib.hid (below_and hBd.out hBz)
      replace hG60 := Lib.hid hG60
      generalize (W2.drew).alloc (.cells #[.int .i64 0, .int .i64 0, .slice none 0 0, .slice none 0 0, .slice none 0 0, .slice none 0 0, .int .i64 0, .int .i64 0, .int .i64 0, .int .i64 0, .string ⟨#[]⟩, .slice none 0 0, .slice none 0 0, .slice none 0 0, .slice none 0 0, .slice none 0 0, .int .i64 0, .int .i64 0, .int .i64 0, .int .i64 0, .string ⟨#[]⟩, .slice none 0 0] 113) = U44 at *
      clear hBz hg6
      refine hK.out _ _ (hS') (fun hSn => ?_)
      clear hK K hS
      have hS := hSn
      clear hSn
      refine callH2 1 4 rfl rfl (by kernel_rfl) (fun K hK => ?_) (fun K hK => ?_)
      · go_simp
        have hcc := Lib.hid (hTa.out _ hS.a)
        refine hcc.out.mono ?_
        rintro e U45 ⟨⟨x, rfl, hpx, hox, hlx⟩, hB2⟩
        clear hcc
        have hS' := hS.new hB2
        have hBN45 := Lib.hid (below_and hBN44.out hB2)
        have hG6N45 := Lib.hid (hG60.out.below hB2 hG60.out.lt)
        have hx0 := Lib.hid hox
        have hnx6 : Hid (g6 ∈ x.blks → False) := Lib.hid (fun hm => Nat.not_le.2 hG60.out.lt (hlx _ hm))
        have hlox := Lib.hid (fun b hm => Nat.le_trans hBN44.out.size (hlx b hm))
        clear hB2 hox hlx
        refine hK.out _ _ (hS') (fun hSn => ?_)
        clear hK K hS
        have hS := hSn
        clear hSn
        refine callH2 3 4 rfl rfl (by kernel_rfl) (fun K hK => ?_) (fun K hK => ?_)
        · go_simp
          have hcc := Lib.hid (hTb.out _ hS.b)
          refine hcc.out.mono ?_
          rintro e U46 ⟨⟨y, rfl, hpy, hoy, hly⟩, hB2⟩
          clear hcc
          have hS' := hS.new hB2
          have hBN46 := Lib.hid (below_and hBN45.out hB2)
          have hxN46 := Lib.hid (hx0.out.below hB2)
          have hG6N46 := Lib.hid (hG6N45.out.below hB2 hG6N45.out.lt)
          have hy0 := Lib.hid hoy
          have hny6 : Hid (g6 ∈ y.blks → False) := Lib.hid (fun hm => Nat.not_le.2 hG6N45.out.lt (hly _ hm))
          have hloy := Lib.hid (fun b hm => Nat.le_trans hBN45.out.size (hly b hm))
          clear hB2 hoy hly
          refine hK.out _ _ (hS') (fun hSn => ?_)
          clear hK K hS
          have hS := hSn
          clear hSn
          refine callH 4 rfl (by kernel_rfl) (fun K hK => ?_)
          go_simp
          have hBz := (Below.refl _ (U46)).alloc (Nat.le_refl _) (.cells #[.int .i64 0, .int .i64 0, .slice none 0 0, .slice none 0 0, .slice none 0 0, .slice none 0 0, .int .i64 0, .int .i64 0, .int .i64 0, .int .i64 0, .string ⟨#[]⟩, .slice none 0 0, .slice none 0 0, .slice none 0 0, .slice none 0 0, .slice none 0 0, .int .i64 0, .int .i64 0, .int .i64 0, .int .i64 0, .string ⟨#[]⟩, .slice none 0 0] 113)
          have hG50 := Blk.new (U46) 113 #[.int .i64 0, .int .i64 0, .slice none 0 0, .slice none 0 0, .slice none 0 0, .slice none 0 0, .int .i64 0, .int .i64 0, .int .i64 0, .int .i64 0, .string ⟨#[]⟩, .slice none 0 0, .slice none 0 0, .slice none 0 0, .slice none 0 0, .slice none 0 0, .int .i64 0, .int .i64 0, .int .i64 0, .int .i64 0, .string ⟨#[]⟩, .slice none 0 0]
          obtain ⟨g5, hg5⟩ : ∃ g, (U46).heap.size = g := ⟨_, rfl⟩
          rw [hg5] at hG50
          try rw [hg5]
          have hgw5 : W2.heap.size ≤ g5 := by have := hBN46.out.size; omega
          have hS' := hS.new hBz
          have hnx5 : Hid (g5 ∈ x.blks → False) := Lib.hid (fun hm => by have h1 := hxN46.out.lt _ hm; omega)
          have hny5 : Hid (g5 ∈ y.blks → False) := Lib.hid (fun hm => by have h1 := hy0.out.lt _ hm; omega)
          have hne : g5 ≠ g6 := by have h1 := hG6N46.out.lt; omega
          have hBN47 := Lib.hid (below_and hBN46.out hBz)
          have hxN47 := Lib.hid (hxN46.out.below hBz)
          have hyN47 := Lib.hid (hy0.out.below hBz)
          have hG6N47 := Lib.hid (hG6N46.out.below hBz hG6N46.out.lt)
          replace hG50 := Lib.hid hG50
          generalize (U46).alloc (.cells #[.int .i64 0, .int .i64 0, .slice none 0 0, .slice none 0 0, .slice none 0 0, .slice none 0 0, .int .i64 0, .int .i64 0, .int .i64 0, .int .i64 0, .string ⟨#[]⟩, .slice none 0 0, .slice none 0 0, .slice none 0 0, .slice none 0 0, .slice none 0 0, .int .i64 0, .int .i64 0, .int .i64 0, .int .i64 0, .string ⟨#[]⟩, .slice none 0 0] 113) = U47 at *
          clear hBz hg5
          refine hK.out _ _ (hS') (fun hSn => ?_)
          clear hK K hS
          have hS := hSn
          clear hSn
          refine callH 6 rfl (by kernel_rfl) (fun K hK => ?_)
          rw [if_pos (by rfl)]
          obtain ⟨cx, hcx⟩ : ∃ c, c = (x.cells eR).toArray := ⟨_, rfl⟩
          obtain ⟨cy, hcy⟩ : ∃ c, c = (y.cells eR).toArray := ⟨_, rfl⟩
          have sx : cx.size = 22 := by rw [hcx]; exact cellsT_size eR x
          have sy : cy.size = 22 := by rw [hcy]; exact cellsT_size eR y
          have ox : cx.all (·.oneCell') = true := by rw [hcx]; exact cells_oneE eR x
          have oy : cy.all (·.oneCell') = true := by rw [hcy]; exact cells_oneE eR y
          have hth := there_blk_at hG50.out (o := 0) (n := 22) (by decide)
          have hNb5 := Lib.hid (blk_put6 hG50.out (vs := cx) (by rw [sx]; rfl))
          have hoS : Only [g5] (U47) (World.setCells (U47) g5 0 cx.toList) := only_setCells (b := g5) cx.toList 0 (U47)
          have hBF := Lib.hid (hBN47.out.trans (hoS.below (by have := hBN47.out.size; omega) (by simp; omega)))
          have hO5 := Lib.hid (hG6N47.out.only hoS (by simp; omega))
          have hx5 := Lib.hid (hxN47.out.onlyG hoS (fun b hm he => hnx5.out (by rw [← List.mem_singleton.1 he]; exact hm)))
          have hy5 := Lib.hid (hyN47.out.onlyG hoS (fun b hm he => hny5.out (by rw [← List.mem_singleton.1 he]; exact hm)))
          have hS' : Tb g1 g2 ca cb a b (World.setCells (U47) g5 0 cx.toList) := ⟨hS.b1.only hoS (by have := hsl.out; simp; omega), hS.b2.only hoS (by have := hsl2.out; simp; omega), hS.a.onlyG hoS (fun b hm he => by have h1 := haL.out b hm; rw [List.mem_singleton.1 he] at h1; omega), hS.b.onlyG hoS (fun b hm he => by have h1 := hbL.out b hm; rw [List.mem_singleton.1 he] at h1; omega)⟩
          refine wp_store_mid 113 (.tmp 5) (.tmp 17) rfl g5 0 cx rfl (by rw [hcx]; rfl) (by rw [sx]; exact hth) (by rw [sx]; kernel_rfl) ox ?_
          clear hoS hth
          replace hcx := Lib.hid hcx
          replace hcy := Lib.hid hcy
          generalize World.setCells _ g5 0 cx.toList = U99 at *
          refine hK.out _ _ (hS') (fun hSn => ?_)
          clear hK K hS
          have hS := hSn
          clear hSn
          refine callH 7 rfl (by kernel_rfl) (fun K hK => ?_)
          rw [if_pos (by rfl)]
          have hth := there_blk_at hO5.out (o := 0) (n := 22) (by decide)
          have hNb6 := Lib.hid (blk_put6 hO5.out (vs := cy) (by rw [sy]; rfl))
          have hoS : Only [g6] (U99) (World.setCells (U99) g6 0 cy.toList) := only_setCells (b := g6) cy.toList 0 (U99)
          have hBF := Lib.hid (hBF.out.trans (hoS.below (by have := hBF.out.size; omega) (by simp; omega)))
          have hO6 := Lib.hid (hNb5.out.only hoS (by simp; omega))
          have hx6 := Lib.hid (hx5.out.onlyG hoS (fun b hm he => hnx6.out (by rw [← List.mem_singleton.1 he]; exact hm)))
          have hy6 := Lib.hid (hy5.out.onlyG hoS (fun b hm he => hny6.out (by rw [← List.mem_singleton.1 he]; exact hm)))
          have hS' : Tb g1 g2 ca cb a b (World.setCells (U99) g6 0 cy.toList) := ⟨hS.b1.only hoS (by have := hsl.out; simp; omega), hS.b2.only hoS (by have := hsl2.out; simp; omega), hS.a.onlyG hoS (fun b hm he => by have h1 := haL.out b hm; rw [List.mem_singleton.1 he] at h1; omega), hS.b.onlyG hoS (fun b hm he => by have h1 := hbL.out b hm; rw [List.mem_singleton.1 he] at h1; omega)⟩
          refine wp_store_mid 113 (.tmp 6) (.tmp 19) rfl g6 0 cy rfl (by rw [hcy]; rfl) (by rw [sy]; exact hth) (by rw [sy]; kernel_rfl) oy ?_
          clear hoS hth
          generalize World.setCells _ g6 0 cy.toList = U98 at *
          refine hK.out _ _ (hS') (fun hSn => ?_)
          clear hK K hS
          have hS := hSn
          clear hSn
          refine wpAnyH_done (by kernel_rfl) ?_ _
          have hSf := Lib.hid hS
          clear hS
          go_wp2_with fail
          go_meet
          exact ⟨g5, g6, x, y, cx, cy, rfl, rfl, hcx.out, hcy.out, hO6.out, hNb6.out, hx6.out, hy6.out, hpx, hpy, hSf.out, hBF.out⟩
        · go_simp
          have hBz := (Below.refl _ (U45)).alloc (Nat.le_refl _) (.cells #[.int .i64 0, .int .i64 0, .slice none 0 0, .slice none 0 0, .slice none 0 0, .slice none 0 0, .int .i64 0, .int .i64 0, .int .i64 0, .int .i64 0, .string ⟨#[]⟩, .slice none 0 0, .slice none 0 0, .slice none 0 0, .slice none 0 0, .slice none 0 0, .int .i64 0, .int .i64 0, .int .i64 0, .int .i64 0, .string ⟨#[]⟩, .slice none 0 0] 113)
          have hG50 := Blk.new (U45) 113 #[.int .i64 0, .int .i64 0, .slice none 0 0, .slice none 0 0, .slice none 0 0, .slice none 0 0, .int .i64 0, .int .i64 0, .int .i64 0, .int .i64 0, .string ⟨#[]⟩, .slice none 0 0, .slice none 0 0, .slice none 0 0, .slice none 0 0, .slice none 0 0, .int .i64 0, .int .i64 0, .int .i64 0, .int .i64 0, .string ⟨#[]⟩, .slice none 0 0]
          obtain ⟨g5, hg5⟩ : ∃ g, (U45).heap.size = g := ⟨_, rfl⟩
          rw [hg5] at hG50
          try rw [hg5]
          have hgw5 : W2.heap.size ≤ g5 := by have := hBN45.out.size; omega
          have hS' := hS.new hBz
          have hnx5 : Hid (g5 ∈ x.blks → False) := Lib.hid (fun hm => by have h1 := hx0.out.lt _ hm; omega)
          have hne : g5 ≠ g6 := by have h1 := hG6N45.out.lt; omega
          have hBN50 := Lib.hid (below_and hBN45.out hBz)
          have hxN50 := Lib.hid (hx0.out.below hBz)
          have hG6N50 := Lib.hid (hG6N45.out.below hBz hG6N45.out.lt)
          replace hG50 := Lib.hid hG50
          generalize (U45).alloc (.cells #[.int .i64 0, .int .i64 0, .slice none 0 0, .slice none 0 0, .slice none 0 0, .slice none 0 0, .int .i64 0, .int .i64 0, .int .i64 0, .int .i64 0, .string ⟨#[]⟩, .slice none 0 0, .slice none 0 0, .slice none 0 0, .slice none 0 0, .slice none 0 0, .int .i64 0, .int .i64 0, .int .i64 0, .int .i64 0, .string ⟨#[]⟩, .slice none 0 0] 113) = U50 at *
          clear hBz hg5
          refine hK.out _ _ (hS') (fun hSn => ?_)
          clear hK K hS
          have hS := hSn
          clear hSn
          refine callH 3 rfl (by kernel_rfl) (fun K hK => ?_)
          go_simp
          have hcc := Lib.hid (hTb.out _ hS.b)
          refine hcc.out.mono ?_
          rintro e U51 ⟨⟨y, rfl, hpy, hoy, hly⟩, hB2⟩
          clear hcc
          have hS' := hS.new hB2
          have hBN51 := Lib.hid (below_and hBN50.out hB2)
          have hxN51 := Lib.hid (hxN50.out.below hB2)
          have hG5N51 := Lib.hid (hG50.out.below hB2 hG50.out.lt)
          have hG6N51 := Lib.hid (hG6N50.out.below hB2 hG6N50.out.lt)
          have hy0 := Lib.hid hoy
          have hny5 : Hid (g5 ∈ y.blks → False) := Lib.hid (fun hm => Nat.not_le.2 hG50.out.lt (hly _ hm))
          have hny6 : Hid (g6 ∈ y.blks → False) := Lib.hid (fun hm => Nat.not_le.2 hG6N50.out.lt (hly _ hm))
          have hloy := Lib.hid (fun b hm => Nat.le_trans hBN50.out.size (hly b hm))
          clear hB2 hoy hly
          refine hK.out _ _ (hS') (fun hSn => ?_)
          clear hK K hS
          have hS := hSn
          clear hSn
          refine callH 6 rfl (by kernel_rfl) (fun K hK => ?_)
          rw [if_pos (by rfl)]
          obtain ⟨cx, hcx⟩ : ∃ c, c = (x.cells eR).toArray := ⟨_, rfl⟩
          obtain ⟨cy, hcy⟩ : ∃ c, c = (y.cells eR).toArray := ⟨_, rfl⟩
          have sx : cx.size = 22 := by rw [hcx]; exact cellsT_size eR x
          have sy : cy.size = 22 := by rw [hcy]; exact cellsT_size eR y
          have ox : cx.all (·.oneCell') = true := by rw [hcx]; exact cells_oneE eR x
          have oy : cy.all (·.oneCell') = true := by rw [hcy]; exact cells_oneE eR y
          have hth := there_blk_at hG5N51.out (o := 0) (n := 22) (by decide)
          have hNb5 := Lib.hid (blk_put6 hG5N51.out (vs := cx) (by rw [sx]; rfl))
          have hoS : Only [g5] (U51) (World.setCells (U51) g5 0 cx.toList) := only_setCells (b := g5) cx.toList 0 (U51)
          have hBF := Lib.hid (hBN51.out.trans (hoS.below (by have := hBN51.out.size; omega) (by simp; omega)))
          have hO5 := Lib.hid (hG6N51.out.only hoS (by simp; omega))
          have hx5 := Lib.hid (hxN51.out.onlyG hoS (fun b hm he => hnx5.out (by rw [← List.mem_singleton.1 he]; exact hm)))
          have hy5 := Lib.hid (hy0.out.onlyG hoS (fun b hm he => hny5.out (by rw [← List.mem_singleton.1 he]; exact hm)))
          have hS' : Tb g1 g2 ca cb a b (World.setCells (U51) g5 0 cx.toList) := ⟨hS.b1.only hoS (by have := hsl.out; simp; omega), hS.b2.only hoS (by have := hsl2.out; simp; omega), hS.a.onlyG hoS (fun b hm he => by have h1 := haL.out b hm; rw [List.mem_singleton.1 he] at h1; omega), hS.b.onlyG hoS (fun b hm he => by have h1 := hbL.out b hm; rw [List.mem_singleton.1 he] at h1; omega)⟩
          refine wp_store_mid 113 (.tmp 5) (.tmp 17) rfl g5 0 cx rfl (by rw [hcx]; rfl) (by rw [sx]; exact hth) (by rw [sx]; kernel_rfl) ox ?_
          clear hoS hth
          replace hcx := Lib.hid hcx
          replace hcy := Lib.hid hcy
          generalize World.setCells _ g5 0 cx.toList = U99 at *
          refine hK.out _ _ (hS') (fun hSn => ?_)
          clear hK K hS
          have hS := hSn
          clear hSn
          refine callH 7 rfl (by kernel_rfl) (fun K hK => ?_)
          rw [if_pos (by rfl)]
          have hth := there_blk_at hO5.out (o := 0) (n := 22) (by decide)
          have hNb6 := Lib.hid (blk_put6 hO5.out (vs := cy) (by rw [sy]; rfl))
          have hoS : Only [g6] (U99) (World.setCells (U99) g6 0 cy.toList) := only_setCells (b := g6) cy.toList 0 (U99)
          have hBF := Lib.hid (hBF.out.trans (hoS.below (by have := hBF.out.size; omega) (by simp; omega)))
          have hO6 := Lib.hid (hNb5.out.only hoS (by simp; omega))
          have hx6 := Lib.hid (hx5.out.onlyG hoS (fun b hm he => hnx6.out (by rw [← List.mem_singleton.1 he]; exact hm)))
          have hy6 := Lib.hid (hy5.out.onlyG hoS (fun b hm he => hny6.out (by rw [← List.mem_singleton.1 he]; exact hm)))
          have hS' : Tb g1 g2 ca cb a b (World.setCells (U99) g6 0 cy.toList) := ⟨hS.b1.only hoS (by have := hsl.out; simp; omega), hS.b2.only hoS (by have := hsl2.out; simp; omega), hS.a.onlyG hoS (fun b hm he => by have h1 := haL.out b hm; rw [List.mem_singleton.1 he] at h1; omega), hS.b.onlyG hoS (fun b hm he => by have h1 := hbL.out b hm; rw [List.mem_singleton.1 he] at h1; omega)⟩
          refine wp_store_mid 113 (.tmp 6) (.tmp 19) rfl g6 0 cy rfl (by rw [hcy]; rfl) (by rw [sy]; exact hth) (by rw [sy]; kernel_rfl) oy ?_
          clear hoS hth
          generalize World.setCells _ g6 0 cy.toList = U98 at *
          refine hK.out _ _ (hS') (fun hSn => ?_)
          clear hK K hS
          have hS := hSn
          clear hSn
          refine wpAnyH_done (by kernel_rfl) ?_ _
          have hSf := Lib.hid hS
          clear hS
          go_wp2_with fail
          go_meet
          exact ⟨g5, g6, x, y, cx, cy, rfl, rfl, hcx.out, hcy.out, hO6.out, hNb6.out, hx6.out, hy6.out, hpx, hpy, hSf.out, hBF.out⟩
      · go_simp
        have hBz := (Below.refl _ (U44)).alloc (Nat.le_refl _) (.cells #[.int .i64 0, .int .i64 0, .slice none 0 0, .slice none 0 0, .slice none 0 0, .slice none 0 0, .int .i64 0, .int .i64 0, .int .i64 0, .int .i64 0, .string ⟨#[]⟩, .slice none 0 0, .slice none 0 0, .slice none 0 0, .slice none 0 0, .slice none 0 0, .int .i64 0, .int .i64 0, .int .i64 0, .int .i64 0, .string ⟨#[]⟩, .slice none 0 0] 113)
        have hG50 := Blk.new (U44) 113 #[.int .i64 0, .int .i64 0, .slice none 0 0, .slice none 0 0, .slice none 0 0, .slice none 0 0, .int .i64 0, .int .i64 0, .int .i64 0, .int .i64 0, .string ⟨#[]⟩, .slice none 0 0, .slice none 0 0, .slice none 0 0, .slice none 0 0, .slice none 0 0, .int .i64 0, .int .i64 0, .int .i64 0, .int .i64 0, .string ⟨#[]⟩, .slice none 0 0]
        obtain ⟨g5, hg5⟩ : ∃ g, (U44).heap.size = g := ⟨_, rfl⟩
        rw [hg5] at hG50
        try rw [hg5]
        have hgw5 : W2.heap.size ≤ g5 := by have := hBN44.out.size; omega
        have hS' := hS.new hBz
        have hne : g5 ≠ g6 := by have h1 := hG60.out.lt; omega
        have hBN54 := Lib.hid (below_and hBN44.out hBz)
        have hG6N54 := Lib.hid (hG60.out.below hBz hG60.out.lt)
        replace hG50 := Lib.hid hG50
        generalize (U44).alloc (.cells #[.int .i64 0, .int .i64 0, .slice none 0 0, .slice none 0 0, .slice none 0 0, .slice none 0 0, .int .i64 0, .int .i64 0, .int .i64 0, .int .i64 0, .string ⟨#[]⟩, .slice none 0 0, .slice none 0 0, .slice none 0 0, .slice none 0 0, .slice none 0 0, .int .i64 0, .int .i64 0, .int .i64 0, .int .i64 0, .string ⟨#[]⟩, .slice none 0 0] 113) = U54 at *
        clear hBz hg5
        refine hK.out _ _ (hS') (fun hSn => ?_)
        clear hK K hS
        have hS := hSn
        clear hSn
        refine callH 1 rfl (by kernel_rfl) (fun K hK => ?_)
        go_simp
        have hcc := Lib.hid (hTa.out _ hS.a)
        refine hcc.out.mono ?_
        rintro e U55 ⟨⟨x, rfl, hpx, hox, hlx⟩, hB2⟩
        clear hcc
        have hS' := hS.new hB2
        have hBN55 := Lib.hid (below_and hBN54.out hB2)
        have hG5N55 := Lib.hid (hG50.out.below hB2 hG50.out.lt)
        have hG6N55 := Lib.hid (hG6N54.out.below hB2 hG6N54.out.lt)
        have hx0 := Lib.hid hox
        have hnx5 : Hid (g5 ∈ x.blks → False) := Lib.hid (fun hm => Nat.not_le.2 hG50.out.lt (hlx _ hm))
        have hnx6 : Hid (g6 ∈ x.blks → False) := Lib.hid (fun hm => Nat.not_le.2 hG6N54.out.lt (hlx _ hm))
        have hlox := Lib.hid (fun b hm => Nat.le_trans hBN54.out.size (hlx b hm))
        clear hB2 hox hlx
        refine hK.out _ _ (hS') (fun hSn => ?_)
        clear hK K hS
        have hS := hSn
        clear hSn
        refine callH 3 rfl (by kernel_rfl) (fun K hK => ?_)
        go_simp
        have hcc := Lib.hid (hTb.out _ hS.b)
        refine hcc.out.mono ?_
        rintro e U56 ⟨⟨y, rfl, hpy, hoy, hly⟩, hB2⟩
        clear hcc
        have hS' := hS.new hB2
        have hBN56 := Lib.hid (below_and hBN55.out hB2)
        have hxN56 := Lib.hid (hx0.out.below hB2)
        have hG5N56 := Lib.hid (hG5N55.out.below hB2 hG5N55.out.lt)
        have hG6N56 := Lib.hid (hG6N55.out.below hB2 hG6N55.out.lt)
        have hy0 := Lib.hid hoy
        have hny5 : Hid (g5 ∈ y.blks → False) := Lib.hid (fun hm => Nat.not_le.2 hG5N55.out.lt (hly _ hm))
        have hny6 : Hid (g6 ∈ y.blks → False) := Lib.hid (fun hm => Nat.not_le.2 hG6N55.out.lt (hly _ hm))
        have hloy := Lib.hid (fun b hm => Nat.le_trans hBN55.out.size (hly b hm))
        clear hB2 hoy hly
        refine hK.out _ _ (hS') (fun hSn => ?_)
        clear hK K hS
        have hS := hSn
        clear hSn
        refine callH 6 rfl (by kernel_rfl) (fun K hK => ?_)
        rw [if_pos (by rfl)]
        obtain ⟨cx, hcx⟩ : ∃ c, c = (x.cells eR).toArray := ⟨_, rfl⟩
        obtain ⟨cy, hcy⟩ : ∃ c, c = (y.cells eR).toArray := ⟨_, rfl⟩
        have sx : cx.size = 22 := by rw [hcx]; exact cellsT_size eR x
        have sy : cy.size = 22 := by rw [hcy]; exact cellsT_size eR y
        have ox : cx.all (·.oneCell') = true := by rw [hcx]; exact cells_oneE eR x
        have oy : cy.all (·.oneCell') = true := by rw [hcy]; exact cells_oneE eR y
        have hth := there_blk_at hG5N56.out (o := 0) (n := 22) (by decide)
        have hNb5 := Lib.hid (blk_put6 hG5N56.out (vs := cx) (by rw [sx]; rfl))
        have hoS : Only [g5] (U56) (World.setCells (U56) g5 0 cx.toList) := only_setCells (b := g5) cx.toList 0 (U56)
        have hBF := Lib.hid (hBN56.out.trans (hoS.below (by have := hBN56.out.size; omega) (by simp; omega)))
        have hO5 := Lib.hid (hG6N56.out.only hoS (by simp; omega))
        have hx5 := Lib.hid (hxN56.out.onlyG hoS (fun b hm he => hnx5.out (by rw [← List.mem_singleton.1 he]; exact hm)))
        have hy5 := Lib.hid (hy0.out.onlyG hoS (fun b hm he => hny5.out (by rw [← List.mem_singleton.1 he]; exact hm)))
        have hS' : Tb g1 g2 ca cb a b (World.setCells (U56) g5 0 cx.toList) := ⟨hS.b1.only hoS (by have := hsl.out; simp; omega), hS.b2.only hoS (by have := hsl2.out; simp; omega), hS.a.onlyG hoS (fun b hm he => by have h1 := haL.out b hm; rw [List.mem_singleton.1 he] at h1; omega), hS.b.onlyG hoS (fun b hm he => by have h1 := hbL.out b hm; rw [List.mem_singleton.1 he] at h1; omega)⟩
        refine wp_store_mid 113 (.tmp 5) (.tmp 17) rfl g5 0 cx rfl (by rw [hcx]; rfl) (by rw [sx]; exact hth) (by rw [sx]; kernel_rfl) ox ?_
        clear hoS hth
        replace hcx := Lib.hid hcx
        replace hcy := Lib.hid hcy
        generalize World.setCells _ g5 0 cx.toList = U99 at *
        refine hK.out _ _ (hS') (fun hSn => ?_)
        clear hK K hS
        have hS := hSn
        clear hSn
        refine callH 7 rfl (by kernel_rfl) (fun K hK => ?_)
        rw [if_pos (by rfl)]
        have hth := there_blk_at hO5.out (o := 0) (n := 22) (by decide)
        have hNb6 := Lib.hid (blk_put6 hO5.out (vs := cy) (by rw [sy]; rfl))
        have hoS : Only [g6] (U99) (World.setCells (U99) g6 0 cy.toList) := only_setCells (b := g6) cy.toList 0 (U99)
        have hBF := Lib.hid (hBF.out.trans (hoS.below (by have := hBF.out.size; omega) (by simp; omega)))
        have hO6 := Lib.hid (hNb5.out.only hoS (by simp; omega))
        have hx6 := Lib.hid (hx5.out.onlyG hoS (fun b hm he => hnx6.out (by rw [← List.mem_singleton.1 he]; exact hm)))
        have hy6 := Lib.hid (hy5.out.onlyG hoS (fun b hm he => hny6.out (by rw [← List.mem_singleton.1 he]; exact hm)))
        have hS' : Tb g1 g2 ca cb a b (World.setCells (U99) g6 0 cy.toList) := ⟨hS.b1.only hoS (by have := hsl.out; simp; omega), hS.b2.only hoS (by have := hsl2.out; simp; omega), hS.a.onlyG hoS (fun b hm he => by have h1 := haL.out b hm; rw [List.mem_singleton.1 he] at h1; omega), hS.b.onlyG hoS (fun b hm he => by have h1 := hbL.out b hm; rw [List.mem_singleton.1 he] at h1; omega)⟩
        refine wp_store_mid 113 (.tmp 6) (.tmp 19) rfl g6 0 cy rfl (by rw [hcy]; rfl) (by rw [sy]; exact hth) (by rw [sy]; kernel_rfl) oy ?_
        clear hoS hth
        generalize World.setCells _ g6 0 cy.toList = U98 at *
        refine hK.out _ _ (hS') (fun hSn => ?_)
        clear hK K hS
        have hS := hSn
        clear hSn
        refine wpAnyH_done (by kernel_rfl) ?_ _
        have hSf := Lib.hid hS
        clear hS
        go_wp2_with fail
        go_meet
        exact ⟨g5, g6, x, y, cx, cy, rfl, rfl, hcx.out, hcy.out, hO6.out, hNb6.out, hx6.out, hy6.out, hpx, hpy, hSf.out, hBF.out⟩
  case rest =>
    obtain ⟨g5, g6, x, y, cx, cy, rfl, rfl, hcx, hcy, h5, h6, hx, hy, hpx, hpy, hS3, hB3⟩ := hcut
    rename World => W3
    have sx : cx.size = 22 := by rw [hcx]; exact cellsT_size eR x
    have sy : cy.size = 22 := by rw [hcy]; exact cellsT_size eR y
    have hcc := copy_yes a W3 hS3.a (by have := hsa.out; omega)
    unfold aggP at hcc
    rw [← hcae.out] at hcc
    have h1 := hS3.b1
    replace hcc := Lib.hid hcc
    replace hB := Lib.hid (below_and hB.out hB3)
    have hB3w : w.heap.size ≤ W3.heap.size := hB.out.size
    clear hB3 hTa hTb hS
    have hal := Lib.hid hS3.a.lt
    have hbl := Lib.hid hS3.b.lt
    have hxl := Lib.hid hx.lt
    have hyl := Lib.hid hy.lt
    have l1 := hS3.b1.lt
    have l2 := hS3.b2.lt
    have l5 := h5.lt
    have l6 := h6.lt
    replace hS3 := Lib.hid hS3
    replace h5 := Lib.hid h5
    replace h6 := Lib.hid h6
    replace hx := Lib.hid hx
    replace hy := Lib.hid hy
    replace hcx := Lib.hid hcx
    replace hcy := Lib.hid hcy
    replace hpx := Lib.hid hpx
    replace hpy := Lib.hid hpy
    go_wp2_with (refine wpList_load_rowW 35 (.tmp 2) rfl (by rfl) g1 rfl 35 ca (0, 0) _ h1 Try.underlying35 rfl (by rw [hca]; kernel_rfl) ?_; refine Shut.out ?_)
    refine shut_mkP ?_
    try simp only [Act.put, List.setIfInBounds_toArray, List.set_cons_zero, List.set_cons_succ]
    clear h1
    go_wp2_with fail
    refine hcc.out.mono ?_
    rintro e W4 ⟨c, rfl, hpc, hco, hcn, hB4⟩
    clear hcc
    obtain ⟨cc, hcce⟩ : ∃ q, q = (c.cells eT).toArray := ⟨_, rfl⟩
    rw [← hcce]
    have scc : cc.size = 22 := by rw [hcce]; exact cellsT_size eT c
    have occ : cc.all (·.oneCell') = true := by rw [hcce]; exact cells_oneE eT c
    have hz := Blk.new W4 35 #[.int .i64 0, .int .i64 0, .slice none 0 0, .slice none 0 0, .slice none 0 0, .slice none 0 0, .int .u8 0, .int .u8 0, .int .u32 0, .int .i64 0, .string ⟨#[]⟩, .slice none 0 0, .slice none 0 0, .slice none 0 0, .slice none 0 0, .slice none 0 0, .int .u8 0, .int .u8 0, .int .u32 0, .int .i64 0, .string ⟨#[]⟩, .slice none 0 0]
    have hth := there_blk_at hz (o := 0) (n := 22) (by decide)
    have hN7 := blk_put6 hz (vs := cc) (by rw [scc]; rfl)
    have hoS := only_setCells (b := W4.heap.size) cc.toList 0 (W4.alloc (.cells #[.int .i64 0, .int .i64 0, .slice none 0 0, .slice none 0 0, .slice none 0 0, .slice none 0 0, .int .u8 0, .int .u8 0, .int .u32 0, .int .i64 0, .string ⟨#[]⟩, .slice none 0 0, .slice none 0 0, .slice none 0 0, .slice none 0 0, .slice none 0 0, .int .u8 0, .int .u8 0, .int .u32 0, .int .i64 0, .string ⟨#[]⟩, .slice none 0 0] 35))
    have hB5 : Below W4.heap.size W4 (World.setCells (W4.alloc (.cells #[.int .i64 0, .int .i64 0, .slice none 0 0, .slice none 0 0, .slice none 0 0, .slice none 0 0, .int .u8 0, .int .u8 0, .int .u32 0, .int .i64 0, .string ⟨#[]⟩, .slice none 0 0, .slice none 0 0, .slice none 0 0, .slice none 0 0, .slice none 0 0, .int .u8 0, .int .u8 0, .int .u32 0, .int .i64 0, .string ⟨#[]⟩, .slice none 0 0] 35)) W4.heap.size 0 cc.toList) := ((Below.refl _ W4).alloc (Nat.le_refl _) (.cells #[.int .i64 0, .int .i64 0, .slice none 0 0, .slice none 0 0, .slice none 0 0, .slice none 0 0, .int .u8 0, .int .u8 0, .int .u32 0, .int .i64 0, .string ⟨#[]⟩, .slice none 0 0, .slice none 0 0, .slice none 0 0, .slice none 0 0, .slice none 0 0, .int .u8 0, .int .u8 0, .int .u32 0, .int .i64 0, .string ⟨#[]⟩, .slice none 0 0] 35)).trans (hoS.below (by simp) (by simp))
    have hB45 := below_and hB4 hB5
    have hTc : Tc g1 g2 g5 g6 W4.heap.size ca cb cx cy cc a b x y c W3.heap.size (World.setCells (W4.alloc (.cells #[.int .i64 0, .int .i64 0, .slice none 0 0, .slice none 0 0, .slice none 0 0, .slice none 0 0, .int .u8 0, .int .u8 0, .int .u32 0, .int .i64 0, .string ⟨#[]⟩, .slice none 0 0, .slice none 0 0, .slice none 0 0, .slice none 0 0, .slice none 0 0, .int .u8 0, .int .u8 0, .int .u32 0, .int .i64 0, .string ⟨#[]⟩, .slice none 0 0] 35)) W4.heap.size 0 cc.toList) := ⟨hS3.out.new hB45, h5.out.below hB45 h5.out.lt, h6.out.below hB45 h6.out.lt, hN7, hx.out.below hB45, hy.out.below hB45, (keep_pg _ c).new hco hB5⟩
    have hB' := Lib.hid (below_and hB.out hB45)
    replace hTc := Lib.hid hTc
    replace hpc := Lib.hid hpc
    replace hcn := Lib.hid hcn
    replace hcce := Lib.hid hcce
    clear hz hN7 hoS hB5 hB45 hco hB4 hS3 h5 h6 hx hy hB
    go_wp2_with (refine wpList_store_mid rfl 35 (.tmp 7) (.tmp 21) rfl W4.heap.size 0 cc rfl rfl (by rw [scc]; exact hth) (by rw [scc]; kernel_rfl) occ ?_; refine Shut.out ?_)
    refine shut_mkP ?_
    try simp only [Act.put, List.setIfInBounds_toArray, List.set_cons_zero, List.set_cons_succ]
    clear hth
    go_upto_region 5 with (fail)
    generalize World.setCells (W4.alloc (.cells #[.int .i64 0, .int .i64 0, .slice none 0 0, .slice none 0 0, .slice none 0 0, .slice none 0 0, .int .u8 0, .int .u8 0, .int .u32 0, .int .i64 0, .string ⟨#[]⟩, .slice none 0 0, .slice none 0 0, .slice none 0 0, .slice none 0 0, .slice none 0 0, .int .u8 0, .int .u8 0, .int .u32 0, .int .i64 0, .string ⟨#[]⟩, .slice none 0 0] 35)) W4.heap.size 0 cc.toList = W5 at *
    obtain ⟨g7, hg7⟩ : ∃ g, W4.heap.size = g := ⟨_, rfl⟩
    rw [hg7] at hTc ⊢
    replace hg7 := Lib.hid hg7
    have za : a.sz ≤ 20000 := by have := hsa.out; omega
    have zb : b.sz ≤ 20000 := by have := hsb.out; omega
    have hl : ∀ W, Tc g1 g2 g5 g6 g7 ca cb cx cy cc a b x y c W3.heap.size W → Calls Try.prog 11 #[.agg ca] W fun r w' => r = .returned (.bool true) ∧ Below W.heap.size W w' := fun W h => by
      have h1 := lightP_ok a W h.t.a (slim_of za)
      unfold aggP at h1
      rw [← hcae.out, decide_eq_true za] at h1
      exact h1
    obtain ⟨R1, hR1⟩ : ∃ r, r = a.same b := ⟨_, rfl⟩
    obtain ⟨R2, hR2⟩ : ∃ r, r = b.same a := ⟨_, rfl⟩
    obtain ⟨nz, hnz⟩ : ∃ n, n = a.sz := ⟨_, rfl⟩
    have hs1 : ∀ W, Tc g1 g2 g5 g6 g7 ca cb cx cy cc a b x y c W3.heap.size W → Calls Try.prog 12 #[.agg ca, .agg cb] W fun r w' => r = .returned (.bool R1) ∧ Below W.heap.size W w' := fun W h => by
      have h1 := sameP_yes a b W h.t.a h.t.b za zb
      unfold aggP at h1
      rw [← hcae.out, ← hcbe.out, ← hR1] at h1
      exact h1
    have hs2 : ∀ W, Tc g1 g2 g5 g6 g7 ca cb cx cy cc a b x y c W3.heap.size W → Calls Try.prog 12 #[.agg cb, .agg ca] W fun r w' => r = .returned (.bool R2) ∧ Below W.heap.size W w' := fun W h => by
      have h1 := sameP_yes b a W h.t.b h.t.a zb za
      unfold aggP at h1
      rw [← hcae.out, ← hcbe.out, ← hR2] at h1
      exact h1
    have hr1 : ∀ W, Tc g1 g2 g5 g6 g7 ca cb cx cy cc a b x y c W3.heap.size W → Calls Try.prog 65 #[.agg cx, .agg cy] W fun r w' => r = .returned (.bool R1) ∧ Below W.heap.size W w' := fun W h => by
      have h1 := rsameP x y W h.x h.y
      unfold aggRP at h1
      rw [← hcx.out, ← hcy.out, same_of hpx.out hpy.out, ← hR1] at h1
      exact h1
    have hr2 : ∀ W, Tc g1 g2 g5 g6 g7 ca cb cx cy cc a b x y c W3.heap.size W → Calls Try.prog 65 #[.agg cy, .agg cx] W fun r w' => r = .returned (.bool R2) ∧ Below W.heap.size W w' := fun W h => by
      have h1 := rsameP y x W h.y h.x
      unfold aggRP at h1
      rw [← hcx.out, ← hcy.out, same_of hpy.out hpx.out, ← hR2] at h1
      exact h1
    have hal1 : ∀ W, Tc g1 g2 g5 g6 g7 ca cb cx cy cc a b x y c W3.heap.size W → Calls Try.prog 66 #[.agg cc, .agg cx] W fun r w' => r = .returned (.bool true) ∧ Below W.heap.size W w' := fun W h => by
      have h1 := alike_ok c x W h.c.ok (Pg.rng_plain.1 (by rw [hpc.out]; exact Pg.rng_plain.2 ra.out)) (by rw [← Pg.wt_plain, hpc.out, Pg.wt_plain]; exact wa) h.x
      unfold aggP aggRP at h1
      rw [← hcce.out, ← hcx.out, same_yes (hpc.out.trans hpx.out.symm)] at h1
      exact h1
    have hsz1 : ∀ W, Tc g1 g2 g5 g6 g7 ca cb cx cy cc a b x y c W3.heap.size W → Calls Try.prog 13 #[.agg ca] W fun r w' => r = .returned (.int .i64 (nz : Nat)) ∧ Below W.heap.size W w' := fun W h => by
      have h1 := sizeP_ok a W h.t.a (slim_of za) a.sz (by rw [if_pos za])
      unfold aggP at h1
      rw [← hcae.out, ← hnz] at h1
      exact h1
    have hct1 : ∀ W, Tc g1 g2 g5 g6 g7 ca cb cx cy cc a b x y c W3.heap.size W → Calls Try.prog 67 #[.agg cx] W fun r w' => r = .returned (.int .i64 (nz : Nat)) ∧ Below W.heap.size W w' := fun W h => by
      have hxs : x.sz = a.sz := by rw [← Pg.sz_plain x, hpx.out, Pg.sz_plain]
      have h1 := rcountP x W (by omega) h.x
      unfold aggRP at h1
      rw [← hcx.out, hxs, ← hnz] at h1
      exact h1
    replace hl := Lib.hid hl
    replace hs1 := Lib.hid hs1
    replace hs2 := Lib.hid hs2
    replace hr1 := Lib.hid hr1
    replace hr2 := Lib.hid hr2
    replace hal1 := Lib.hid hal1
    replace hsz1 := Lib.hid hsz1
    replace hct1 := Lib.hid hct1
    replace hR1 := Lib.hid hR1
    replace hR2 := Lib.hid hR2
    replace hnz := Lib.hid hnz
    have hS := hTc.out.new ((Below.refl _ W5).drew)
    have hBd := Lib.hid (hB'.out.drew)
    clear hTc hB'
    refine wp_region_held (S := Tc g1 g2 g5 g6 g7 ca cb cx cy cc a b x y c W3.heap.size) (by kernel_rfl) ?_
    change wpAnyH _ _ _ _ _ _ _ _ (World.drew _)
    refine takeH 0 (v := .agg ca) rfl (by kernel_rfl) (by kernel_rfl) (by kernel_rfl) (fun _ _ _ h => h) (by rfl) hS (load_rowA (S := Tc g1 g2 g5 g6 g7 ca cb cx cy cc a b x y c W3.heap.size) 35 (.tmp 2) rfl g1 rfl ca _ (fun W h => h.t.b1) Try.underlying35 rfl (by rw [hca]; kernel_rfl)) ?_
    try simp only [Act.put, List.setIfInBounds_toArray, List.set_cons_zero, List.set_cons_succ]
    refine callH 1 rfl (by kernel_rfl) (fun K hK => ?_)
    go_simp
    refine (hl.out _ hS).mono ?_
    rintro e V59 ⟨rfl, hB2⟩
    have hBN59 := Lib.hid (below_and hBd.out hB2)
    have hS' := hS.new hB2
    clear hB2
    refine hK.out _ _ (hS') (fun hSn => ?_)
    clear hK K hS
    have hS := hSn
    clear hSn
    refine takeH 2 (v := ?_) rfl (by kernel_rfl) (by kernel_rfl) (by kernel_rfl) (fun _ _ _ h => h) (by rfl) hS ?_ ?_
    rotate_left
    · (intro wz hSw; clear hSw; go_simp; try with_reducible rfl)
    try simp only [Act.put, List.setIfInBounds_toArray, List.set_cons_zero, List.set_cons_succ]
    refine takeH 3 (v := ?_) rfl (by kernel_rfl) (by kernel_rfl) (by kernel_rfl) (fun _ _ _ h => h) (by rfl) hS ?_ ?_
    rotate_left
    · (intro wz hSw; clear hSw; go_simp; try with_reducible rfl)
    try simp only [Act.put, List.setIfInBounds_toArray, List.set_cons_zero, List.set_cons_succ]
    refine takeH 4 (v := .agg ca) rfl (by kernel_rfl) (by kernel_rfl) (by kernel_rfl) (fun _ _ _ h => h) (by rfl) hS (load_rowA (S := Tc g1 g2 g5 g6 g7 ca cb cx cy cc a b x y c W3.heap.size) 35 (.tmp 2) rfl g1 rfl ca _ (fun W h => h.t.b1) Try.underlying35 rfl (by rw [hca]; kernel_rfl)) ?_
    try simp only [Act.put, List.setIfInBounds_toArray, List.set_cons_zero, List.set_cons_succ]
    refine takeH 5 (v := .agg cb) rfl (by kernel_rfl) (by kernel_rfl) (by kernel_rfl) (fun _ _ _ h => h) (by rfl) hS (load_rowA (S := Tc g1 g2 g5 g6 g7 ca cb cx cy cc a b x y c W3.heap.size) 35 (.tmp 3) rfl g2 rfl cb _ (fun W h => h.t.b2) Try.underlying35 rfl (by rw [hcb]; kernel_rfl)) ?_
    try simp only [Act.put, List.setIfInBounds_toArray, List.set_cons_zero, List.set_cons_succ]
    refine takeH 7 (v := .agg cx) rfl (by kernel_rfl) (by kernel_rfl) (by kernel_rfl) (fun _ _ _ h => h) (by rfl) hS (load_rowA (S := Tc g1 g2 g5 g6 g7 ca cb cx cy cc a b x y c W3.heap.size) 113 (.tmp 5) rfl g5 rfl cx _ (fun W h => h.b5) Try.underlying113 rfl (by rw [sx]; kernel_rfl)) ?_
    try simp only [Act.put, List.setIfInBounds_toArray, List.set_cons_zero, List.set_cons_succ]
    refine takeH 8 (v := .agg cy) rfl (by kernel_rfl) (by kernel_rfl) (by kernel_rfl) (fun _ _ _ h => h) (by rfl) hS (load_rowA (S := Tc g1 g2 g5 g6 g7 ca cb cx cy cc a b x y c W3.heap.size) 113 (.tmp 6) rfl g6 rfl cy _ (fun W h => h.b6) Try.underlying113 rfl (by rw [sy]; kernel_rfl)) ?_
    try simp only [Act.put, List.setIfInBounds_toArray, List.set_cons_zero, List.set_cons_succ]
    refine callH 6 rfl (by kernel_rfl) (fun K hK => ?_)
    go_simp
    refine (hs1.out _ hS).mono ?_
    rintro e V60 ⟨rfl, hB2⟩
    have hBN60 := Lib.hid (below_and hBN59.out hB2)
    have hS' := hS.new hB2
    clear hB2
    refine hK.out _ _ (hS') (fun hSn => ?_)
    clear hK K hS
    have hS := hSn
    clear hSn
    refine callH 9 rfl (by kernel_rfl) (fun K hK => ?_)
    go_simp
    refine (hr1.out _ hS).mono ?_
    rintro e V61 ⟨rfl, hB2⟩
    have hBN61 := Lib.hid (below_and hBN60.out hB2)
    have hS' := hS.new hB2
    clear hB2
    refine hK.out _ _ (hS') (fun hSn => ?_)
    clear hK K hS
    have hS := hSn
    clear hSn
    refine takeH 10 (v := .bool false) rfl (by kernel_rfl) (by kernel_rfl) (by kernel_rfl) (fun _ _ _ h => h) (by rfl) hS ?_ ?_
    · (intro wz hSw; clear hSw; go_simp; try simp)
    try simp only [Act.put, List.setIfInBounds_toArray, List.set_cons_zero, List.set_cons_succ]
    refine takeH 11 (v := ?_) rfl (by kernel_rfl) (by kernel_rfl) (by kernel_rfl) (fun _ _ _ h => h) (by rfl) hS ?_ ?_
    rotate_left
    · (intro wz hSw; clear hSw; go_simp; try with_reducible rfl)
    try simp only [Act.put, List.setIfInBounds_toArray, List.set_cons_zero, List.set_cons_succ]
    refine takeH 12 (v := ?_) rfl (by kernel_rfl) (by kernel_rfl) (by kernel_rfl) (fun _ _ _ h => h) (by rfl) hS ?_ ?_
    rotate_left
    · (intro wz hSw; clear hSw; go_simp; try with_reducible rfl)
    try simp only [Act.put, List.setIfInBounds_toArray, List.set_cons_zero, List.set_cons_succ]
    refine takeH 13 (v := .agg cb) rfl (by kernel_rfl) (by kernel_rfl) (by kernel_rfl) (fun _ _ _ h => h) (by rfl) hS (load_rowA (S := Tc g1 g2 g5 g6 g7 ca cb cx cy cc a b x y c W3.heap.size) 35 (.tmp 3) rfl g2 rfl cb _ (fun W h => h.t.b2) Try.underlying35 rfl (by rw [hcb]; kernel_rfl)) ?_
    try simp only [Act.put, List.setIfInBounds_toArray, List.set_cons_zero, List.set_cons_succ]
    refine takeH 14 (v := .agg ca) rfl (by kernel_rfl) (by kernel_rfl) (by kernel_rfl) (fun _ _ _ h => h) (by rfl) hS (load_rowA (S := Tc g1 g2 g5 g6 g7 ca cb cx cy cc a b x y c W3.heap.size) 35 (.tmp 2) rfl g1 rfl ca _ (fun W h => h.t.b1) Try.underlying35 rfl (by rw [hca]; kernel_rfl)) ?_
    try simp only [Act.put, List.setIfInBounds_toArray, List.set_cons_zero, List.set_cons_succ]
    refine takeH 16 (v := .agg cy) rfl (by kernel_rfl) (by kernel_rfl) (by kernel_rfl) (fun _ _ _ h => h) (by rfl) hS (load_rowA (S := Tc g1 g2 g5 g6 g7 ca cb cx cy cc a b x y c W3.heap.size) 113 (.tmp 6) rfl g6 rfl cy _ (fun W h => h.b6) Try.underlying113 rfl (by rw [sy]; kernel_rfl)) ?_
    try simp only [Act.put, List.setIfInBounds_toArray, List.set_cons_zero, List.set_cons_succ]
    refine takeH 17 (v := .agg cx) rfl (by kernel_rfl) (by kernel_rfl) (by kernel_rfl) (fun _ _ _ h => h) (by rfl) hS (load_rowA (S := Tc g1 g2 g5 g6 g7 ca cb cx cy cc a b x y c W3.heap.size) 113 (.tmp 5) rfl g5 rfl cx _ (fun W h => h.b5) Try.underlying113 rfl (by rw [sx]; kernel_rfl)) ?_
    try simp only [Act.put, List.setIfInBounds_toArray, List.set_cons_zero, List.set_cons_succ]
    refine callH 15 rfl (by kernel_rfl) (fun K hK => ?_)
    go_simp
    refine (hs2.out _ hS).mono ?_
    rintro e V62 ⟨rfl, hB2⟩
    have hBN62 := Lib.hid (below_and hBN61.out hB2)
    have hS' := hS.new hB2
    clear hB2
    refine hK.out _ _ (hS') (fun hSn => ?_)
    clear hK K hS
    have hS := hSn
    clear hSn
    refine callH 18 rfl (by kernel_rfl) (fun K hK => ?_)
    go_simp
    refine (hr2.out _ hS).mono ?_
    rintro e V63 ⟨rfl, hB2⟩
    have hBN63 := Lib.hid (below_and hBN62.out hB2)
    have hS' := hS.new hB2
    clear hB2
    refine hK.out _ _ (hS') (fun hSn => ?_)
    clear hK K hS
    have hS := hSn
    clear hSn
    refine takeH 19 (v := .bool false) rfl (by kernel_rfl) (by kernel_rfl) (by kernel_rfl) (fun _ _ _ h => h) (by rfl) hS ?_ ?_
    · (intro wz hSw; clear hSw; go_simp; try simp)
    try simp only [Act.put, List.setIfInBounds_toArray, List.set_cons_zero, List.set_cons_succ]
    refine takeH 20 (v := ?_) rfl (by kernel_rfl) (by kernel_rfl) (by kernel_rfl) (fun _ _ _ h => h) (by rfl) hS ?_ ?_
    rotate_left
    · (intro wz hSw; clear hSw; go_simp; try with_reducible rfl)
    try simp only [Act.put, List.setIfInBounds_toArray, List.set_cons_zero, List.set_cons_succ]
    refine takeH 21 (v := ?_) rfl (by kernel_rfl) (by kernel_rfl) (by kernel_rfl) (fun _ _ _ h => h) (by rfl) hS ?_ ?_
    rotate_left
    · (intro wz hSw; clear hSw; go_simp; try with_reducible rfl)
    try simp only [Act.put, List.setIfInBounds_toArray, List.set_cons_zero, List.set_cons_succ]
    refine takeH 22 (v := .agg cc) rfl (by kernel_rfl) (by kernel_rfl) (by kernel_rfl) (fun _ _ _ h => h) (by rfl) hS (load_rowA (S := Tc g1 g2 g5 g6 g7 ca cb cx cy cc a b x y c W3.heap.size) 35 (.tmp 7) rfl g7 rfl cc _ (fun W h => h.b7) Try.underlying35 rfl (by rw [scc]; kernel_rfl)) ?_
    try simp only [Act.put, List.setIfInBounds_toArray, List.set_cons_zero, List.set_cons_succ]
    refine takeH 23 (v := .agg cx) rfl (by kernel_rfl) (by kernel_rfl) (by kernel_rfl) (fun _ _ _ h => h) (by rfl) hS (load_rowA (S := Tc g1 g2 g5 g6 g7 ca cb cx cy cc a b x y c W3.heap.size) 113 (.tmp 5) rfl g5 rfl cx _ (fun W h => h.b5) Try.underlying113 rfl (by rw [sx]; kernel_rfl)) ?_
    try simp only [Act.put, List.setIfInBounds_toArray, List.set_cons_zero, List.set_cons_succ]
    refine callH 24 rfl (by kernel_rfl) (fun K hK => ?_)
    go_simp
    refine (hal1.out _ hS).mono ?_
    rintro e V64 ⟨rfl, hB2⟩
    have hBN64 := Lib.hid (below_and hBN63.out hB2)
    have hS' := hS.new hB2
    clear hB2
    refine hK.out _ _ (hS') (fun hSn => ?_)
    clear hK K hS
    have hS := hSn
    clear hSn
    refine takeH 25 (v := ?_) rfl (by kernel_rfl) (by kernel_rfl) (by kernel_rfl) (fun _ _ _ h => h) (by rfl) hS ?_ ?_
    rotate_left
    · (intro wz hSw; clear hSw; go_simp; try with_reducible rfl)
    try simp only [Act.put, List.setIfInBounds_toArray, List.set_cons_zero, List.set_cons_succ]
    refine takeH 26 (v := ?_) rfl (by kernel_rfl) (by kernel_rfl) (by kernel_rfl) (fun _ _ _ h => h) (by rfl) hS ?_ ?_
    rotate_left
    · (intro wz hSw; clear hSw; go_simp; try with_reducible rfl)
    try simp only [Act.put, List.setIfInBounds_toArray, List.set_cons_zero, List.set_cons_succ]
    refine takeH 27 (v := ?_) rfl (by kernel_rfl) (by kernel_rfl) (by kernel_rfl) (fun _ _ _ h => h) (by rfl) hS ?_ ?_
    rotate_left
    · (intro wz hSw; clear hSw; go_simp; try with_reducible rfl)
    try simp only [Act.put, List.setIfInBounds_toArray, List.set_cons_zero, List.set_cons_succ]
    refine takeH 28 (v := .agg ca) rfl (by kernel_rfl) (by kernel_rfl) (by kernel_rfl) (fun _ _ _ h => h) (by rfl) hS (load_rowA (S := Tc g1 g2 g5 g6 g7 ca cb cx cy cc a b x y c W3.heap.size) 35 (.tmp 2) rfl g1 rfl ca _ (fun W h => h.t.b1) Try.underlying35 rfl (by rw [hca]; kernel_rfl)) ?_
    try simp only [Act.put, List.setIfInBounds_toArray, List.set_cons_zero, List.set_cons_succ]
    refine takeH 30 (v := .agg cx) rfl (by kernel_rfl) (by kernel_rfl) (by kernel_rfl) (fun _ _ _ h => h) (by rfl) hS (load_rowA (S := Tc g1 g2 g5 g6 g7 ca cb cx cy cc a b x y c W3.heap.size) 113 (.tmp 5) rfl g5 rfl cx _ (fun W h => h.b5) Try.underlying113 rfl (by rw [sx]; kernel_rfl)) ?_
    try simp only [Act.put, List.setIfInBounds_toArray, List.set_cons_zero, List.set_cons_succ]
    refine callH 29 rfl (by kernel_rfl) (fun K hK => ?_)
    go_simp
    refine (hsz1.out _ hS).mono ?_
    rintro e V65 ⟨rfl, hB2⟩
    have hBN65 := Lib.hid (below_and hBN64.out hB2)
    have hS' := hS.new hB2
    clear hB2
    refine hK.out _ _ (hS') (fun hSn => ?_)
    clear hK K hS
    have hS := hSn
    clear hSn
    refine callH 31 rfl (by kernel_rfl) (fun K hK => ?_)
    go_simp
    refine (hct1.out _ hS).mono ?_
    rintro e V66 ⟨rfl, hB2⟩
    have hBN66 := Lib.hid (below_and hBN65.out hB2)
    have hS' := hS.new hB2
    clear hB2
    refine hK.out _ _ (hS') (fun hSn => ?_)
    clear hK K hS
    have hS := hSn
    clear hSn
    refine takeH 32 (v := .bool false) rfl (by kernel_rfl) (by kernel_rfl) (by kernel_rfl) (fun _ _ _ h => h) (by rfl) hS ?_ ?_
    · (intro wz hSw; clear hSw; go_simp; try simp)
    try simp only [Act.put, List.setIfInBounds_toArray, List.set_cons_zero, List.set_cons_succ]
    refine takeH 33 (v := ?_) rfl (by kernel_rfl) (by kernel_rfl) (by kernel_rfl) (fun _ _ _ h => h) (by rfl) hS ?_ ?_
    rotate_left
    · (intro wz hSw; clear hSw; go_simp; try with_reducible rfl)
    try simp only [Act.put, List.setIfInBounds_toArray, List.set_cons_zero, List.set_cons_succ]
    refine wpAnyH_done (by kernel_rfl) ?_ _
    have hS9 := Lib.hid hS
    have hB9 := Lib.hid hBN66.out
    have h7 := hS.b7
    have hov := over_ok c W3.heap.size _ hS.c hcn.out
    unfold aggP at hov
    rw [← hcce.out] at hov
    replace hov := Lib.hid hov
    clear hS hl hs1 hs2 hr1 hr2 hal1 hsz1 hct1
    rename World => W8
    go_wp2_with (refine wpList_load_rowW 35 (.tmp 7) rfl (by rfl) g7 rfl 35 cc (0, 0) _ h7 Try.underlying35 rfl (by rw [scc]; kernel_rfl) ?_; refine Shut.out ?_)
    refine shut_mkP ?_
    try simp only [Act.put, List.setIfInBounds_toArray, List.set_cons_zero, List.set_cons_succ]
    clear h7
    go_wp2_with fail
    refine hov.out.mono ?_
    rintro e W9 ⟨rfl, hov2, hO⟩
    clear hov hov2
    have hge := Lib.hid hS9.out.c.ge
    have hS := hS9.out
    have hBO := Lib.hid (hB9.out.trans (hO.below (by have := hB9.out.size; omega) (fun b hb => by have := (hge.out b hb).1; omega)))
    have a9 : a.ok eT W9 := hS.t.a.onlyG hO (fun b hb hm => by have h1 := hal.out b hb; have h2 := (hge.out b hm).1; omega)
    have b9 : b.ok eT W9 := hS.t.b.onlyG hO (fun b' hb hm => by have h1 := hbl.out b' hb; have h2 := (hge.out b' hm).1; omega)
    have x9 : x.ok eR W9 := hS.x.onlyG hO (fun b hb hm => by have h1 := hxl.out b hb; have h2 := (hge.out b hm).1; omega)
    have y9 : y.ok eR W9 := hS.y.onlyG hO (fun b hb hm => by have h1 := hyl.out b hb; have h2 := (hge.out b hm).1; omega)
    have n1 := hS.t.b1.only hO (fun hm => by have h2 := (hge.out g1 hm).1; omega)
    have n2 := hS.t.b2.only hO (fun hm => by have h2 := (hge.out g2 hm).1; omega)
    have n5 := hS.b5.only hO (fun hm => by have h2 := (hge.out g5 hm).1; omega)
    have n6 := hS.b6.only hO (fun hm => by have h2 := (hge.out g6 hm).1; omega)
    have hk1 := alike_ok a x W9 a9 ra.out wa x9
    unfold aggP aggRP at hk1
    rw [← hcae.out, ← hcx.out, same_yes hpx.out.symm] at hk1
    replace hk1 := Lib.hid hk1
    have n2' := Lib.hid n2
    have n6' := Lib.hid n6
    replace b9 := Lib.hid b9
    replace y9 := Lib.hid y9
    clear hS hS9 hO a9 x9 n2 n6
    go_upto_region 8 with (fail)
    go_wp2_with (refine wpList_load_rowW 35 (.tmp 2) rfl (by rfl) g1 rfl 35 ca (0, 0) _ n1 Try.underlying35 rfl (by rw [hca]; kernel_rfl) ?_; refine Shut.out ?_)
    refine shut_mkP ?_
    try simp only [Act.put, List.setIfInBounds_toArray, List.set_cons_zero, List.set_cons_succ]
    go_wp2_with (refine wpList_load_rowW 113 (.tmp 5) rfl (by rfl) g5 rfl 113 cx (0, 0) _ n5 Try.underlying113 rfl (by rw [sx]; kernel_rfl) ?_; refine Shut.out ?_)
    refine shut_mkP ?_
    try simp only [Act.put, List.setIfInBounds_toArray, List.set_cons_zero, List.set_cons_succ]
    clear n1 n5
    go_wp2_with fail
    refine hk1.out.mono ?_
    rintro e W10 ⟨rfl, hB10⟩
    have hk2 := alike_ok b y W10 (b9.out.below hB10) rb.out wb (y9.out.below hB10)
    unfold aggP aggRP at hk2
    rw [← hcbe.out, ← hcy.out, same_yes hpy.out.symm] at hk2
    replace hk2 := Lib.hid hk2
    have n2 := n2'.out.below hB10 n2'.out.lt
    have n6 := n6'.out.below hB10 n6'.out.lt
    replace hBO := Lib.hid (below_and hBO.out hB10)
    clear hB10 hk1
    go_wp2_with (refine wpList_load_rowW 35 (.tmp 3) rfl (by rfl) g2 rfl 35 cb (0, 0) _ n2 Try.underlying35 rfl (by rw [hcb]; kernel_rfl) ?_; refine Shut.out ?_)
    refine shut_mkP ?_
    try simp only [Act.put, List.setIfInBounds_toArray, List.set_cons_zero, List.set_cons_succ]
    go_wp2_with (refine wpList_load_rowW 113 (.tmp 6) rfl (by rfl) g6 rfl 113 cy (0, 0) _ n6 Try.underlying113 rfl (by rw [sy]; kernel_rfl) ?_; refine Shut.out ?_)
    refine shut_mkP ?_
    try simp only [Act.put, List.setIfInBounds_toArray, List.set_cons_zero, List.set_cons_succ]
    clear n2 n6
    go_wp2_with fail
    refine hk2.out.mono ?_
    rintro e W11 ⟨rfl, hB11⟩
    have hBF := Lib.hid (below_and hBO.out hB11)
    clear hk2 hB11
    go_wp2
    go_ret
    exact ⟨rfl, hBF.out⟩
end Go.Proofs.Ytnldbplphgfpeaa
