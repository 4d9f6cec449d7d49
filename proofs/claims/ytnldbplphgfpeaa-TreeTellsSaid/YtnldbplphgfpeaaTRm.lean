/- Trees: Rename, RenameStmts. -/
import Derived.Test.YtnldbplphgfpeaaTRs
namespace Go.Proofs.Ytnldbplphgfpeaa
open Go Go.RowKit Go.Shelf
set_option linter.unusedVariables false
set_option linter.unusedSimpArgs false
set_option maxHeartbeats 4000000
theorem there_blk {w : World} {g t : Nat} {cs : Array Value} (h : Blk w g t cs) {n : Nat} (hn : n ≤ cs.size) : w.there g 0 n := fun j hj => ⟨by rw [Nat.zero_add, h.cell j, Array.getElem?_eq_getElem (by omega)]; rfl, h.frozen _⟩
set_option maxRecDepth 100000 in
theorem rename_yes (e : Ex Loc) (from_ to_ : ByteArray) (w : World) (hok : e.ok eT w) (hs : e.sz ≤ 20000) :
    Calls Try.prog 27 #[aggX e, .string from_, .string to_] w fun r w' => ∃ L : Ex Loc, r = .returned (aggX L) ∧ L.plain = e.ren (chg from_ to_) ∧ L.own eT w' w.heap.size ∧ L.fp.Nodup ∧ Below w.heap.size w w' := by
  have hc := fun w2 (hB2 : Below w.heap.size w w2) => countE0 e w2 (hok.below hB2)
  have hl := lightE e hs
  have hcall : ∀ w2 (Bf Bt : Nat), Below w.heap.size w w2 → Blk w2 Bf 9 #[.string from_] → Blk w2 Bt 9 #[.string to_] → Calls Try.prog 37 #[aggX e, .func (.func 75) #[] #[.pointer (some ⟨Bf, 0, none⟩), .pointer (some ⟨Bt, 0, none⟩)]] w2 fun r w' =>
      ∃ zk zo zv zw zn zA zc zs, r = .returned (.agg #[.int .u8 zk, .int .u8 zo, .int .u32 zv, .int .i64 zw, .string zn, .slice zA (zs : List (Ex Loc)).length zc]) ∧ (Ex.mk ⟨zk, zo, zv, zw, zn⟩ (⟨zA, zc⟩ : Loc) zs).plain = e.ren (chg from_ to_) ∧ (Ex.mk ⟨zk, zo, zv, zw, zn⟩ ⟨zA, zc⟩ zs).own eT w' w2.heap.size ∧ (Ex.mk ⟨zk, zo, zv, zw, zn⟩ ⟨zA, zc⟩ zs).fp.Nodup ∧ Below w2.heap.size w2 w' := fun w2 Bf Bt h2 hf ht =>
    (named_chg Bf Bt from_ to_ e w2 (hok.below h2) hs hf ht).mono fun r w' ⟨L, h1, h2, h3, h4, h5⟩ => by
      obtain ⟨⟨zk, zo, zv, zw, zn⟩, ⟨zA, zc⟩, zs⟩ := L
      exact ⟨zk, zo, zv, zw, zn, zA, zc, zs, h1, h2, h3, h4, h5⟩
  obtain ⟨P, hP⟩ : ∃ P, P = e.ren (chg from_ to_) := ⟨_, rfl⟩
  rw [← hP] at hcall ⊢
  obtain ⟨⟨xk, xo, xv, xw, xn⟩, ⟨xA, xc⟩, xs⟩ := e
  obtain ⟨c, hcc⟩ : ∃ c, c = capE 0 (Ex.mk ⟨xk, xo, xv, xw, xn⟩ ⟨xA, xc⟩ xs).sz := ⟨_, rfl⟩
  rw [← hcc] at hc hl
  replace hcc := Lib.hid hcc
  replace hP := Lib.hid hP
  replace hs := Lib.hid hs
  simp only [aggX, Ex.cells, eT] at hc hcall
  simp only [show aggX (Ex.mk ⟨xk, xo, xv, xw, xn⟩ ⟨xA, xc⟩ xs) = .agg #[.int .u8 xk, .int .u8 xo, .int .u32 xv, .int .i64 xw, .string xn, .slice xA xs.length xc] from rfl]
  replace hc := Lib.hid hc
  replace hl := Lib.hid hl
  replace hcall := Lib.hid hcall
  have hB0 : Below w.heap.size w ((w.alloc (.cells #[.int .u8 xk, .int .u8 xo, .int .u32 xv, .int .i64 xw, .string xn, .slice xA xs.length xc] 30)).alloc (.cells #[.int .u8 0, .int .u8 0, .int .u32 0, .int .i64 0, .string ⟨#[]⟩, .slice none 0 0] 30)) := ((Below.refl _ _).alloc (Nat.le_refl _) _).alloc (by simp) _
  have hb0 := (Blk.new w 30 #[.int .u8 xk, .int .u8 xo, .int .u32 xv, .int .i64 xw, .string xn, .slice xA xs.length xc]).alloc (.cells #[.int .u8 0, .int .u8 0, .int .u32 0, .int .i64 0, .string ⟨#[]⟩, .slice none 0 0] 30)
  have hr0 := Blk.new (w.alloc (.cells #[.int .u8 xk, .int .u8 xo, .int .u32 xv, .int .i64 xw, .string xn, .slice xA xs.length xc] 30)) 30 #[.int .u8 0, .int .u8 0, .int .u32 0, .int .i64 0, .string ⟨#[]⟩, .slice none 0 0]
  rw [World.size_alloc] at hr0
  go_enter Try.func27, Try.ntmps27
  go_wp2_with fail
  have hbl := hb0.lt
  have hrl := hr0.lt
  generalize (w.alloc (.cells #[.int .u8 xk, .int .u8 xo, .int .u32 xv, .int .i64 xw, .string xn, .slice xA xs.length xc] 30)).alloc (.cells #[.int .u8 0, .int .u8 0, .int .u32 0, .int .i64 0, .string ⟨#[]⟩, .slice none 0 0] 30) = W0 at *
  refine (hc.out _ hB0).mono ?_
  rintro e w1 ⟨rfl, hB1⟩
  have hB01 := below_and hB0 hB1
  have hb1 := hb0.below hB1 hbl
  have hr1 := hr0.below hB1 hrl
  go_wp2_with (go_at_call 40; with_reducible refine (hl.out _).mono ?_; rintro e w' ⟨rfl, rfl⟩)
  have hbl1 := hb1.lt
  have hrl1 := hr1.lt
  obtain ⟨S, hSi, hSe⟩ : ∃ S : World → Prop, (∀ W, (W.cell? ⟨w.heap.size, 0, none⟩ = some (.int .u8 xk) ∧ W.cell? ⟨w.heap.size, 1, none⟩ = some (.int .u8 xo) ∧ W.cell? ⟨w.heap.size, 2, none⟩ = some (.int .u32 xv) ∧ W.cell? ⟨w.heap.size, 3, none⟩ = some (.int .i64 xw) ∧ W.cell? ⟨w.heap.size, 4, none⟩ = some (.string xn) ∧ W.cell? ⟨w.heap.size, 5, none⟩ = some (.slice xA xs.length xc)) → S W) ∧ (∀ W, S W → (W.cell? ⟨w.heap.size, 0, none⟩ = some (.int .u8 xk) ∧ W.cell? ⟨w.heap.size, 1, none⟩ = some (.int .u8 xo) ∧ W.cell? ⟨w.heap.size, 2, none⟩ = some (.int .u32 xv) ∧ W.cell? ⟨w.heap.size, 3, none⟩ = some (.int .i64 xw) ∧ W.cell? ⟨w.heap.size, 4, none⟩ = some (.string xn) ∧ W.cell? ⟨w.heap.size, 5, none⟩ = some (.slice xA xs.length xc))) := ⟨fun W => W.cell? ⟨w.heap.size, 0, none⟩ = some (.int .u8 xk) ∧ W.cell? ⟨w.heap.size, 1, none⟩ = some (.int .u8 xo) ∧ W.cell? ⟨w.heap.size, 2, none⟩ = some (.int .u32 xv) ∧ W.cell? ⟨w.heap.size, 3, none⟩ = some (.int .i64 xw) ∧ W.cell? ⟨w.heap.size, 4, none⟩ = some (.string xn) ∧ W.cell? ⟨w.heap.size, 5, none⟩ = some (.slice xA xs.length xc), fun _ h => h, fun _ h => h⟩
  have hS : S w1.drew := hSi _ ⟨hb1.cell 0, hb1.cell 1, hb1.cell 2, hb1.cell 3, hb1.cell 4, hb1.cell 5⟩
  replace hSi := Lib.hid hSi
  replace hSe := Lib.hid hSe
  refine wp_region_held (S := S) (by kernel_rfl) ?_
  change wpAnyH _ _ _ _ _ _ _ _ (World.drew _)
  refine takeH 0 (v := .agg #[.int .u8 xk, .int .u8 xo, .int .u32 xv, .int .i64 xw, .string xn, .slice xA xs.length xc]) rfl (by kernel_rfl) (by kernel_rfl) (by kernel_rfl) (fun _ _ _ h => h) (by rfl) hS ?_ ?_
  · (intro wz hSw; obtain ⟨z0, z1, z2, z3, z4, z5⟩ := hSe.out _ hSw; go_simp)
  try simp only [Act.put, List.setIfInBounds_toArray, List.set_cons_zero, List.set_cons_succ]
  refine takeH 1 (v := ?_) rfl (by kernel_rfl) (by kernel_rfl) (by kernel_rfl) (fun _ _ _ h => h) (by rfl) hS ?_ ?_
  rotate_left
  · (intro wz hSw; obtain ⟨z0, z1, z2, z3, z4, z5⟩ := hSe.out _ hSw; go_simp; try with_reducible rfl)
  try simp only [Act.put, List.setIfInBounds_toArray, List.set_cons_zero, List.set_cons_succ]
  refine takeH 2 (v := ?_) rfl (by kernel_rfl) (by kernel_rfl) (by kernel_rfl) (fun _ _ _ h => h) (by rfl) hS ?_ ?_
  rotate_left
  · (intro wz hSw; obtain ⟨z0, z1, z2, z3, z4, z5⟩ := hSe.out _ hSw; go_simp; try with_reducible rfl)
  try simp only [Act.put, List.setIfInBounds_toArray, List.set_cons_zero, List.set_cons_succ]
  refine callH 3 rfl (by kernel_rfl) (fun K hK => ?_)
  go_simp
  go_wp2_with (go_at_call 62; refine (change_ok _ _ _).mono ?_; rintro e w2 ⟨rfl, rfl⟩)
  have hB2 : Below w1.heap.size w1 ((w1.alloc (.cells #[.string from_] 9)).alloc (.cells #[.string to_] 9)) := ((Below.refl _ w1).alloc (Nat.le_refl _) _).alloc (by simp) _
  have hf2 := (Blk.new w1 9 #[.string from_]).alloc (.cells #[.string to_] 9)
  have ht2 := Blk.new (w1.alloc (.cells #[.string from_] 9)) 9 #[.string to_]
  rw [World.size_alloc] at ht2
  have hb2 := hb1.below hB2 hbl1
  have hr2 := hr1.below hB2 hrl1
  generalize (w1.alloc (.cells #[.string from_] 9)).alloc (.cells #[.string to_] 9) = w2 at *
  have hB02 := below_and hB01 hB2
  refine hK.out _ _ (hSi.out _ ⟨hb2.cell 0, hb2.cell 1, hb2.cell 2, hb2.cell 3, hb2.cell 4, hb2.cell 5⟩) (fun hSn => ?_)
  clear hK K hS
  have hS := hSn
  clear hSn
  refine callH 4 rfl (by kernel_rfl) (fun K hK => ?_)
  go_simp
  go_wp2_with (go_at_call 37; refine (hcall.out w2.drew _ _ hB02.drew hf2.drew ht2.drew).mono ?_; rintro e w3 ⟨zk, zo, zv, zw, zn, zA, zc, zs, rfl, hLp, hLo, hLn, hB3'⟩)
  have hB3 := below_undrew hB3'
  have hb3 := hb2.below hB3 hb2.lt
  have hr3 := hr2.below hB3 hr2.lt
  refine hK.out _ _ (hSi.out _ ⟨hb3.cell 0, hb3.cell 1, hb3.cell 2, hb3.cell 3, hb3.cell 4, hb3.cell 5⟩) (fun hSn => ?_)
  clear hK K hS
  have hS := hSn
  clear hSn
  have hof : Only [w.heap.size + 1] w3 ((((((w3.setCell ⟨w.heap.size + 1, 0, none⟩ (.int .u8 zk)).setCell ⟨w.heap.size + 1, 1, none⟩ (.int .u8 zo)).setCell ⟨w.heap.size + 1, 2, none⟩ (.int .u32 zv)).setCell ⟨w.heap.size + 1, 3, none⟩ (.int .i64 zw)).setCell ⟨w.heap.size + 1, 4, none⟩ (.string zn)).setCell ⟨w.heap.size + 1, 5, none⟩ (.slice zA zs.length zc)) := Only.six (i := 0) (Only.refl _ _) (.inl (by simp)) _ _ _ _ _ _
  have hbf := (((((hr3.set_ 0 (.int .u8 zk)).set_ 1 (.int .u8 zo)).set_ 2 (.int .u32 zv)).set_ 3 (.int .i64 zw)).set_ 4 (.string zn)).set_ 5 (.slice zA zs.length zc)
  simp only [List.setIfInBounds_toArray, List.set_cons_zero, List.set_cons_succ] at hbf
  have hb4 := hb3.only hof (by simp)
  refine callH 5 rfl (by kernel_rfl) (fun K hK => ?_)
  rw [if_pos (by rfl)]
  refine wp_store_six 30 (.tmp 6) (.tmp 16) rfl (w.heap.size + 1) 0 (.int .u8 zk) (.int .u8 zo) (.int .u32 zv) (.int .i64 zw) (.string zn) (.slice zA zs.length zc) rfl rfl (there_blk hr3 (by simp)) (by kernel_rfl) (by simp [Value.oneCell']) ?_
  refine hK.out _ _ (hSi.out _ ⟨hb4.cell 0, hb4.cell 1, hb4.cell 2, hb4.cell 3, hb4.cell 4, hb4.cell 5⟩) (fun hSn => ?_)
  clear hK K hS
  have hS := hSn
  clear hSn
  refine wpAnyH_done (by kernel_rfl) ?_ _
  go_wp2
  refine bodyPost_ret (results_cell_row rfl _ _ (w.heap.size + 1) 30 _ (0, 0) _ rfl hbf Try.underlying30 rfl (by kernel_rfl)) rfl ?_
  have hw2 : w.heap.size + 1 < w2.heap.size := hr2.lt
  have hB03 := below_and hB02 hB3
  refine ⟨Ex.mk ⟨zk, zo, zv, zw, zn⟩ ⟨zA, zc⟩ zs, rfl, hLp, (hLo.keep hof fun q hq hm => ?_).base_le hB02.size, hLn, hB03.trans (hof.below hB03.size (by simp))⟩
  have h1 : w2.heap.size ≤ q := (hLo.ge q hq).1
  simp at hm
  omega
set_option maxRecDepth 100000 in
theorem renameS_yes (ls : List (St Loc)) (lc : Loc) (from_ to_ : ByteArray) (w : World) (hok : Lst.ok eT w lc ls) (hs : szS ls ≤ 20000) :
    Calls Try.prog 26 #[.slice lc.A ls.length lc.c, .string from_, .string to_] w fun r w' => ∃ (tA : Option Addr) (tc : Nat) (news : List (St Loc)), r = .returned (.slice tA ls.length tc) ∧ news.length = ls.length ∧ plainS news = renS (chg from_ to_) ls ∧ Lst.own eT w' w.heap.size ⟨tA, tc⟩ news ∧ (Lst.fp ⟨tA, tc⟩ news).Nodup ∧ Below w.heap.size w w' := by
  have hc := countS0 ls lc (thin_of hs) w hok
  have hl := lightS ls hs
  have hcall := fun w2 (Bf Bt : Nat) (h2 : Below w.heap.size w w2) (hf : Blk w2 Bf 9 #[.string from_]) (ht : Blk w2 Bt 9 #[.string to_]) => namedS_chg Bf Bt from_ to_ ls lc w2 (hok.all (keeps_below h2)) hs hf ht
  obtain ⟨P, hP⟩ : ∃ P, P = renS (chg from_ to_) ls := ⟨_, rfl⟩
  rw [← hP] at hcall ⊢
  obtain ⟨c, hcc⟩ : ∃ c, c = cntL (nodesS ls) 0 := ⟨_, rfl⟩
  rw [← hcc] at hc hl
  obtain ⟨n, hn⟩ : ∃ n, n = ls.length := ⟨_, rfl⟩
  rw [← hn] at hc hcall ⊢
  replace hn := Lib.hid hn
  replace hcc := Lib.hid hcc
  replace hP := Lib.hid hP
  replace hs := Lib.hid hs
  replace hc := Lib.hid hc
  replace hl := Lib.hid hl
  replace hcall := Lib.hid hcall
  go_enter Try.func26, Try.ntmps26
  go_wp2_with fail
  refine hc.out.mono ?_
  rintro e w1 ⟨rfl, hB1⟩
  go_wp2_with (first | (go_at_call 40; with_reducible refine (hl.out _).mono ?_; rintro e w' ⟨rfl, rfl⟩) | (go_at_call 62; refine (change_ok _ _ _).mono ?_; rintro e w2 ⟨rfl, rfl⟩))
  have hB2 : Below w1.heap.size w1 ((w1.alloc (.cells #[.string from_] 9)).alloc (.cells #[.string to_] 9)) := ((Below.refl _ w1).alloc (Nat.le_refl _) _).alloc (by simp) _
  have hf2 := (Blk.new w1 9 #[.string from_]).alloc (.cells #[.string to_] 9)
  have ht2 := Blk.new (w1.alloc (.cells #[.string from_] 9)) 9 #[.string to_]
  rw [World.size_alloc] at ht2
  generalize (w1.alloc (.cells #[.string from_] 9)).alloc (.cells #[.string to_] 9) = w2 at *
  have hB02 := below_and hB1 hB2
  refine (hcall.out w2 _ _ hB02 hf2 ht2).mono ?_
  rintro e w3 ⟨tA, tc, news, rfl, h1, h2, h3, h4, hB3⟩
  go_wp2
  go_ret
  exact ⟨tA, tc, news, rfl, h1, h2, h3.base_le hB02.size, h4, below_and hB02 hB3⟩
end Go.Proofs.Ytnldbplphgfpeaa
