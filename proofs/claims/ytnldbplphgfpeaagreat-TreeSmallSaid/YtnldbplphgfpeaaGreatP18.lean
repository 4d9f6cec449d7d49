/- Lemmas for salvor/salvorlaw29.TreeSmall (part 18); no condition. -/
import Derived.Test.YtnldbplphgfpeaaGreatP17
import Derived.Test.YtnldbplphgfpeaaGreatP11
import Derived.Test.YtnldbplphgfpeaaGreatP12
import Derived.Test.YtnldbplphgfpeaaGreatP13
namespace Go.Proofs.YtnldbplphgfpeaaGreat
open Go Go.RowKit Go.Shelf
set_option linter.unusedVariables false
set_option linter.unusedSimpArgs false
set_option maxHeartbeats 8000000
def zE : Array Value := #[.int .u8 0, .int .u8 0, .int .u32 0, .int .i64 0, .string ⟨#[]⟩, .slice none 0 0]
theorem cellsE_size (E : Enc) (e : Ex Loc) : (e.cells E).toArray.size = 6 := by cases e; rfl
theorem cellsE_one (E : Enc) (e : Ex Loc) : (e.cells E).toArray.all (·.oneCell') = true := all_oneCell_toArray fun u hu => e.cells_one E u hu
set_option maxRecDepth 100000 in
theorem copyE_yes (e : Ex Loc) (w : World) (hok : e.ok eT w) (hs : e.sz ≤ 20000) : Calls Tryz.prog 12 #[aggX e] w fun r w' => ∃ L : Ex Loc, r = .returned (aggX L) ∧ L.plain = e.plain ∧ L.own eT w' w.heap.size ∧ L.fp.Nodup ∧ Below w.heap.size w w' := by
 have hc := fun w2 (h2 : Below w.heap.size w w2) => countE0 e w2 (hok.below h2)
 have hl := lightE e hs
 have hcall := fun w2 (h2 : Below w.heap.size w w2) => named_keep e w2 (hok.below h2) hs
 have h6 := cellsE_size eT e
 obtain ⟨P, hP⟩ : ∃ P, P = e.plain := ⟨_, rfl⟩
 rw [Ex.ren_id, ← hP] at hcall
 rw [← hP]
 obtain ⟨c, hcc⟩ : ∃ c, c = capE 0 e.sz := ⟨_, rfl⟩
 rw [← hcc] at hc hl
 unfold aggX at hc hcall ⊢
 obtain ⟨ce, hce⟩ : ∃ c, c = (e.cells eT).toArray := ⟨_, rfl⟩
 rw [← hce] at hc hcall h6 ⊢
 have hB0 := (new_below w (.cells ce 30)).alloc (by simp) (.cells #[.int .u8 0, .int .u8 0, .int .u32 0, .int .i64 0, .string ⟨#[]⟩, .slice none 0 0] 30)
 have hb1 := (Blk.new w 30 ce).alloc (.cells #[.int .u8 0, .int .u8 0, .int .u32 0, .int .i64 0, .string ⟨#[]⟩, .slice none 0 0] 30)
 have hb2 := Blk.new (w.alloc (.cells ce 30)) 30 #[.int .u8 0, .int .u8 0, .int .u32 0, .int .i64 0, .string ⟨#[]⟩, .slice none 0 0]
 rw [World.size_alloc] at hb2
 replace hcc := Lib.hid hcc
 replace hP := Lib.hid hP
 replace hce := Lib.hid hce
 replace hc := Lib.hid hc
 replace hl := Lib.hid hl
 replace hcall := Lib.hid hcall
 replace hB0 := Lib.hid hB0
 clear hok hs
 go_enter Tryz.func12, Tryz.ntmps12
 go_upto_region 1 with (fail)
 generalize (w.alloc (.cells ce 30)).alloc (.cells #[.int .u8 0, .int .u8 0, .int .u32 0, .int .i64 0, .string ⟨#[]⟩, .slice none 0 0] 30) = W0 at *
 go_wp2_with (refine wpList_load_rowW 30 (.tmp 1) rfl (by rfl) w.heap.size rfl 30 ce (0, 0) _ hb1 Tryz.underlying30 rfl (by rw [h6]; kernel_rfl) ?_; refine Shut.out ?_)
 refine shut_mkX ?_
 try simp only [Act.put, List.setIfInBounds_toArray, List.set_cons_zero, List.set_cons_succ]
 go_upto_region 3 with (first | (go_at_call 77; refine (hc.out _ hB0.out).mono ?_; rintro e w1 ⟨rfl, hB1⟩) | (go_at_call 78; with_reducible refine (hl.out _).mono ?_; rintro e w' ⟨rfl, rfl⟩))
 have hB01 := below_and hB0.out hB1
 have hb1' := hb1.below hB1 hb1.lt
 have hb2' := hb2.below hB1 hb2.lt
 clear hb1 hb2 hB1 hB0
 go_wp2_with (refine wpList_load_rowW 30 (.tmp 1) rfl (by rfl) w.heap.size rfl 30 ce (0, 0) _ hb1' Tryz.underlying30 rfl (by rw [h6]; kernel_rfl) ?_; refine Shut.out ?_)
 refine shut_mkX ?_
 try simp only [Act.put, List.setIfInBounds_toArray, List.set_cons_zero, List.set_cons_succ]
 go_wp2_with (go_at_call 82; refine (hcall.out _ hB01).mono ?_; rintro e w3 ⟨L, rfl, hLp, hLo, hLn, hB3⟩; refine Shut.out ?_)
 obtain ⟨cl, hcl⟩ : ∃ c, c = (L.cells eT).toArray := ⟨_, rfl⟩
 refine shut_mkX ?_
 have hb := hb2'.below hB3 hb2'.lt
 have h6' : cl.size = 6 := by rw [hcl]; exact cellsE_size eT L
 have ho' : cl.all (·.oneCell') = true := by rw [hcl]; exact cellsE_one eT L
 have hoS : Only [w.heap.size + 1] w3 (World.setCells w3 (w.heap.size + 1) 0 cl.toList) := only_setCells (b := w.heap.size + 1) cl.toList 0 w3
 have hfin := blk_put6 hb (vs := cl) (by rw [h6']; rfl)
 have hth := there_blk_at hb (o := 0) (n := 6) (by decide)
 have hB03 := below_and hB01 hB3
 have hw1 : w.heap.size + 1 < w1.heap.size := hb2'.lt
 have hBF := hB03.trans (hoS.below (B := w.heap.size) hB03.size (by simp))
 have hLF := hLo.keep hoS (fun b hm h => by have := (hLo.ge b hm).1; simp at h; omega)
 replace hLF := hLF.base_le (base' := w.heap.size) hB01.size
 replace hLF := Lib.hid hLF
 replace hBF := Lib.hid hBF
 replace hfin := Lib.hid hfin
 replace hcl := Lib.hid hcl
 clear hB01 hB3 hB03 hoS hb hb1' hb2' hLo
 rename (∀ a w, wpList _ _ _ _ a w → _) => hk
 refine hk _ _ ?_
 clear hk
 refine wpList_store_mid rfl 30 (.tmp 2) (.tmp 9) rfl (w.heap.size + 1) 0 cl rfl (by rw [hcl.out]; rfl) (by rw [h6']; exact hth) (by rw [h6']; kernel_rfl) ho' ?_
 clear hth
 go_wp2_with fail
 refine bodyPost_ret (results_cell_row rfl _ _ (w.heap.size + 1) 30 _ (0, 0) _ rfl hfin.out Tryz.underlying30 rfl (by rw [h6']; kernel_rfl)) rfl ?_
 exact ⟨L, by rw [hcl.out], by rw [hLp, hP.out], hLF.out, hLn, hBF.out⟩
set_option maxRecDepth 100000 in
theorem copyE_no (e : Ex Loc) (w : World) (hok : e.ok eT w) (hs : 20000 < e.sz) : Calls Tryz.prog 12 #[aggX e] w fun r w' => r = .returned (.agg #[.int .u8 0, .int .u8 0, .int .u32 0, .int .i64 0, .string ⟨#[]⟩, .slice none 0 0]) ∧ Below w.heap.size w w' := by
 have hc := fun w2 (h2 : Below w.heap.size w w2) => countE0 e w2 (hok.below h2)
 have hl := darkE e hs
 have h6 := cellsE_size eT e
 obtain ⟨c, hcc⟩ : ∃ c, c = capE 0 e.sz := ⟨_, rfl⟩
 rw [← hcc] at hc hl
 unfold aggX at hc ⊢
 obtain ⟨ce, hce⟩ : ∃ c, c = (e.cells eT).toArray := ⟨_, rfl⟩
 rw [← hce] at hc h6 ⊢
 have hB0 := (new_below w (.cells ce 30)).alloc (by simp) (.cells #[.int .u8 0, .int .u8 0, .int .u32 0, .int .i64 0, .string ⟨#[]⟩, .slice none 0 0] 30)
 have hb1 := (Blk.new w 30 ce).alloc (.cells #[.int .u8 0, .int .u8 0, .int .u32 0, .int .i64 0, .string ⟨#[]⟩, .slice none 0 0] 30)
 have hb2 := Blk.new (w.alloc (.cells ce 30)) 30 #[.int .u8 0, .int .u8 0, .int .u32 0, .int .i64 0, .string ⟨#[]⟩, .slice none 0 0]
 rw [World.size_alloc] at hb2
 replace hcc := Lib.hid hcc
 replace hce := Lib.hid hce
 replace hc := Lib.hid hc
 replace hl := Lib.hid hl
 replace hB0 := Lib.hid hB0
 clear hok hs
 go_enter Tryz.func12, Tryz.ntmps12
 go_upto_region 1 with (fail)
 generalize (w.alloc (.cells ce 30)).alloc (.cells #[.int .u8 0, .int .u8 0, .int .u32 0, .int .i64 0, .string ⟨#[]⟩, .slice none 0 0] 30) = W0 at *
 go_wp2_with (refine wpList_load_rowW 30 (.tmp 1) rfl (by rfl) w.heap.size rfl 30 ce (0, 0) _ hb1 Tryz.underlying30 rfl (by rw [h6]; kernel_rfl) ?_; refine Shut.out ?_)
 refine shut_mkX ?_
 try simp only [Act.put, List.setIfInBounds_toArray, List.set_cons_zero, List.set_cons_succ]
 go_upto_region 2 with (first | (go_at_call 77; refine (hc.out _ hB0.out).mono ?_; rintro e w1 ⟨rfl, hB1⟩) | (go_at_call 78; with_reducible refine (hl.out _).mono ?_; rintro e w' ⟨rfl, rfl⟩))
 have hB01 := below_and hB0.out hB1
 have hb := hb2.below hB1 hb2.lt
 have hoS : Only [w.heap.size + 1] w1 (World.setCells w1 (w.heap.size + 1) 0 (#[.int .u8 0, .int .u8 0, .int .u32 0, .int .i64 0, .string ⟨#[]⟩, .slice none 0 0] : Array Value).toList) := only_setCells (b := w.heap.size + 1) _ 0 w1
 have hfin := blk_put6 hb (vs := #[.int .u8 0, .int .u8 0, .int .u32 0, .int .i64 0, .string ⟨#[]⟩, .slice none 0 0]) rfl
 have hth := there_blk_at hb (o := 0) (n := 6) (by decide)
 have hBF := hB01.trans (hoS.below (B := w.heap.size) hB01.size (by simp))
 replace hBF := Lib.hid hBF
 replace hfin := Lib.hid hfin
 clear hb1 hb2 hB1 hB0 hB01 hoS hb
 go_step
 go_step
 go_step
 rename (∀ a w, wpList _ _ _ _ a w → _) => hk
 refine hk _ _ ?_
 clear hk
 refine wpList_store_mid rfl 30 (.tmp 2) (.tmp 7) rfl (w.heap.size + 1) 0 #[.int .u8 0, .int .u8 0, .int .u32 0, .int .i64 0, .string ⟨#[]⟩, .slice none 0 0] rfl (by rfl) hth (by kernel_rfl) (by simp [Value.oneCell']) ?_
 clear hth
 generalize World.setCells w1 (w.heap.size + 1) 0 _ = W2 at *
 go_wp2_with fail
 refine bodyPost_ret (results_cell_row rfl _ _ (w.heap.size + 1) 30 _ (0, 0) _ rfl hfin.out Tryz.underlying30 rfl (by kernel_rfl)) rfl ?_
 exact ⟨rfl, hBF.out⟩
set_option maxRecDepth 100000 in
theorem renE_no (e : Ex Loc) (f t : ByteArray) (w : World) (hok : e.ok eT w) (hs : 20000 < e.sz) : Calls Tryz.prog 13 #[aggX e, .string f, .string t] w fun r w' => r = .returned (.agg #[.int .u8 0, .int .u8 0, .int .u32 0, .int .i64 0, .string ⟨#[]⟩, .slice none 0 0]) ∧ Below w.heap.size w w' := by
 have hc := fun w2 (h2 : Below w.heap.size w w2) => countE0 e w2 (hok.below h2)
 have hl := darkE e hs
 have h6 := cellsE_size eT e
 obtain ⟨c, hcc⟩ : ∃ c, c = capE 0 e.sz := ⟨_, rfl⟩
 rw [← hcc] at hc hl
 unfold aggX at hc ⊢
 obtain ⟨ce, hce⟩ : ∃ c, c = (e.cells eT).toArray := ⟨_, rfl⟩
 rw [← hce] at hc h6 ⊢
 have hB0 := (new_below w (.cells ce 30)).alloc (by simp) (.cells #[.int .u8 0, .int .u8 0, .int .u32 0, .int .i64 0, .string ⟨#[]⟩, .slice none 0 0] 30)
 have hb1 := (Blk.new w 30 ce).alloc (.cells #[.int .u8 0, .int .u8 0, .int .u32 0, .int .i64 0, .string ⟨#[]⟩, .slice none 0 0] 30)
 have hb2 := Blk.new (w.alloc (.cells ce 30)) 30 #[.int .u8 0, .int .u8 0, .int .u32 0, .int .i64 0, .string ⟨#[]⟩, .slice none 0 0]
 rw [World.size_alloc] at hb2
 replace hcc := Lib.hid hcc
 replace hce := Lib.hid hce
 replace hc := Lib.hid hc
 replace hl := Lib.hid hl
 replace hB0 := Lib.hid hB0
 clear hok hs
 go_enter Tryz.func13, Tryz.ntmps13
 go_upto_region 1 with (fail)
 generalize (w.alloc (.cells ce 30)).alloc (.cells #[.int .u8 0, .int .u8 0, .int .u32 0, .int .i64 0, .string ⟨#[]⟩, .slice none 0 0] 30) = W0 at *
 go_wp2_with (refine wpList_load_rowW 30 (.tmp 3) rfl (by rfl) w.heap.size rfl 30 ce (0, 0) _ hb1 Tryz.underlying30 rfl (by rw [h6]; kernel_rfl) ?_; refine Shut.out ?_)
 refine shut_mkX ?_
 try simp only [Act.put, List.setIfInBounds_toArray, List.set_cons_zero, List.set_cons_succ]
 go_upto_region 2 with (first | (go_at_call 77; refine (hc.out _ hB0.out).mono ?_; rintro e w1 ⟨rfl, hB1⟩) | (go_at_call 78; with_reducible refine (hl.out _).mono ?_; rintro e w' ⟨rfl, rfl⟩))
 have hB01 := below_and hB0.out hB1
 have hb := hb2.below hB1 hb2.lt
 have hoS : Only [w.heap.size + 1] w1 (World.setCells w1 (w.heap.size + 1) 0 (#[.int .u8 0, .int .u8 0, .int .u32 0, .int .i64 0, .string ⟨#[]⟩, .slice none 0 0] : Array Value).toList) := only_setCells (b := w.heap.size + 1) _ 0 w1
 have hfin := blk_put6 hb (vs := #[.int .u8 0, .int .u8 0, .int .u32 0, .int .i64 0, .string ⟨#[]⟩, .slice none 0 0]) rfl
 have hth := there_blk_at hb (o := 0) (n := 6) (by decide)
 have hBF := hB01.trans (hoS.below (B := w.heap.size) hB01.size (by simp))
 replace hBF := Lib.hid hBF
 replace hfin := Lib.hid hfin
 clear hb1 hb2 hB1 hB0 hB01 hoS hb
 go_step
 go_step
 go_step
 rename (∀ a w, wpList _ _ _ _ a w → _) => hk
 refine hk _ _ ?_
 clear hk
 refine wpList_store_mid rfl 30 (.tmp 6) (.tmp 11) rfl (w.heap.size + 1) 0 #[.int .u8 0, .int .u8 0, .int .u32 0, .int .i64 0, .string ⟨#[]⟩, .slice none 0 0] rfl (by rfl) hth (by kernel_rfl) (by simp [Value.oneCell']) ?_
 clear hth
 generalize World.setCells w1 (w.heap.size + 1) 0 _ = W2 at *
 go_wp2_with fail
 refine bodyPost_ret (results_cell_row rfl _ _ (w.heap.size + 1) 30 _ (0, 0) _ rfl hfin.out Tryz.underlying30 rfl (by kernel_rfl)) rfl ?_
 exact ⟨rfl, hBF.out⟩
theorem copyS_no (ls : List (St Loc)) (lc : Loc) (w : World) (ht : Thin ls) (hok : Lst.ok eT w lc ls) (hs : 20000 < szS ls) : Calls Tryz.prog 16 #[.slice lc.A ls.length lc.c] w fun r w' => r = .returned (.slice none 0 0) ∧ Below w.heap.size w w' := by
 have hc := countS0 ls lc ht w hok
 have hl := darkS ls hs
 obtain ⟨c, hcc⟩ : ∃ c, c = cntL (nodesS ls) 0 := ⟨_, rfl⟩
 rw [← hcc] at hc hl
 replace hcc := Lib.hid hcc
 replace hc := Lib.hid hc
 replace hl := Lib.hid hl
 go_enter Tryz.func16, Tryz.ntmps16
 go_wp2_with (first | (go_at_call 85; refine (hc.out).mono ?_; rintro e w1 ⟨rfl, hB1⟩) | (go_at_call 78; with_reducible refine (hl.out _).mono ?_; rintro e w' ⟨rfl, rfl⟩))
 go_ret
 exact ⟨rfl, hB1⟩
theorem renS_no (ls : List (St Loc)) (lc : Loc) (f t : ByteArray) (w : World) (ht : Thin ls) (hok : Lst.ok eT w lc ls) (hs : 20000 < szS ls) : Calls Tryz.prog 17 #[.slice lc.A ls.length lc.c, .string f, .string t] w fun r w' => r = .returned (.slice none 0 0) ∧ Below w.heap.size w w' := by
 have hc := countS0 ls lc ht w hok
 have hl := darkS ls hs
 obtain ⟨c, hcc⟩ : ∃ c, c = cntL (nodesS ls) 0 := ⟨_, rfl⟩
 rw [← hcc] at hc hl
 replace hcc := Lib.hid hcc
 replace hc := Lib.hid hc
 replace hl := Lib.hid hl
 go_enter Tryz.func17, Tryz.ntmps17
 go_wp2_with (first | (go_at_call 85; refine (hc.out).mono ?_; rintro e w1 ⟨rfl, hB1⟩) | (go_at_call 78; with_reducible refine (hl.out _).mono ?_; rintro e w' ⟨rfl, rfl⟩))
 go_ret
 exact ⟨rfl, hB1⟩
theorem depth_no (ls : List (St Loc)) (lc : Loc) (w : World) (ht : Thin ls) (hok : Lst.ok eT w lc ls) (hs : 20000 < szS ls) : Calls Tryz.prog 19 #[.slice lc.A ls.length lc.c] w fun r w' => r = .returned (.int .i64 0) ∧ Below w.heap.size w w' := by
 have hc := countS0 ls lc ht w hok
 have hl := darkS ls hs
 obtain ⟨c, hcc⟩ : ∃ c, c = cntL (nodesS ls) 0 := ⟨_, rfl⟩
 rw [← hcc] at hc hl
 replace hcc := Lib.hid hcc
 replace hc := Lib.hid hc
 replace hl := Lib.hid hl
 go_enter Tryz.func19, Tryz.ntmps19
 go_wp2_with (first | (go_at_call 85; refine (hc.out).mono ?_; rintro e w1 ⟨rfl, hB1⟩) | (go_at_call 78; with_reducible refine (hl.out _).mono ?_; rintro e w' ⟨rfl, rfl⟩))
 go_ret
 exact ⟨rfl, hB1⟩
theorem copyS_yes (ls : List (St Loc)) (lc : Loc) (w : World) (hok : Lst.ok eT w lc ls) (hs : szS ls ≤ 20000) : Calls Tryz.prog 16 #[.slice lc.A ls.length lc.c] w fun r w' => ∃ (tA : Option Addr) (tc : Nat) (news : List (St Loc)), r = .returned (.slice tA ls.length tc) ∧ news.length = ls.length ∧ plainS news = plainS ls ∧ Lst.own eT w' w.heap.size ⟨tA, tc⟩ news ∧ (Lst.fp ⟨tA, tc⟩ news).Nodup ∧ Below w.heap.size w w' := by
 have hc := countS0 ls lc (thin_of hs) w hok
 have hl := lightS ls hs
 have hcall := fun w2 (h2 : Below w.heap.size w w2) => namedS_keep' ls lc w2 (hok.all (keeps_below h2)) hs
 obtain ⟨P, hP⟩ : ∃ P, P = plainS ls := ⟨_, rfl⟩
 rw [← hP] at hcall ⊢
 obtain ⟨c, hcc⟩ : ∃ c, c = cntL (nodesS ls) 0 := ⟨_, rfl⟩
 rw [← hcc] at hc hl
 replace hcc := Lib.hid hcc
 replace hP := Lib.hid hP
 replace hc := Lib.hid hc
 replace hl := Lib.hid hl
 replace hcall := Lib.hid hcall
 go_enter Tryz.func16, Tryz.ntmps16
 go_wp2_with (first | (go_at_call 85; refine (hc.out).mono ?_; rintro e w1 ⟨rfl, hB1⟩) | (go_at_call 78; with_reducible refine (hl.out _).mono ?_; rintro e w' ⟨rfl, rfl⟩) | (go_at_call 88; refine (hcall.out _ hB1).mono ?_; rintro e w3 ⟨tA, tc, news, rfl, h1, h2, h3, h4, hB3⟩))
 go_ret
 exact ⟨tA, tc, news, rfl, h1, h2, h3.base_le hB1.size, h4, below_and hB1 hB3⟩
theorem calls_no (ls : List (St Loc)) (lc : Loc) (w : World) (ht : Thin ls) (hok : Lst.ok eT w lc ls) (hs : 20000 < szS ls) : Calls Tryz.prog 18 #[.slice lc.A ls.length lc.c] w fun r w' => r = .returned (.slice none 0 0) ∧ Below w.heap.size w w' := by
 have hc := fun w2 (h2 : Below w.heap.size w w2) => countS0 ls lc ht w2 (hok.all (keeps_below h2))
 have hl := darkS ls hs
 obtain ⟨c, hcc⟩ : ∃ c, c = cntL (nodesS ls) 0 := ⟨_, rfl⟩
 rw [← hcc] at hc hl
 have hB0 := new_below w (.cells #[.slice none 0 0] 44)
 have hb := Blk.new w 44 #[.slice none 0 0]
 replace hcc := Lib.hid hcc
 replace hc := Lib.hid hc
 replace hl := Lib.hid hl
 clear hok hs ht
 go_enter Tryz.func18, Tryz.ntmps18
 go_upto_region 2 with (fail)
 generalize w.alloc (.cells #[.slice none 0 0] 44) = W0 at *
 go_upto_region 7 with (first | (go_at_call 85; refine (hc.out _ hB0).mono ?_; rintro e w1 ⟨rfl, hB1⟩) | (go_at_call 78; with_reducible refine (hl.out _).mono ?_; rintro e w' ⟨rfl, rfl⟩))
 have c0 := (hb.below hB1 hb.lt).cell 0
 simp only [List.getElem?_toArray, List.getElem?_cons_zero] at c0
 have hB := below_and hB0 hB1
 clear hb hB0 hB1
 go_wp2
 go_ret
 exact ⟨rfl, hB⟩
theorem names_no (e : Ex Loc) (w : World) (hok : e.ok eT w) (hs : 20000 < e.sz) : Calls Tryz.prog 11 #[aggX e] w fun r w' => r = .returned (.slice none 0 0) ∧ Below w.heap.size w w' := by
 have hc := fun w2 (h2 : Below w.heap.size w w2) => countE0 e w2 (hok.below h2)
 have hl := darkE e hs
 have h6 := cellsE_size eT e
 obtain ⟨c, hcc⟩ : ∃ c, c = capE 0 e.sz := ⟨_, rfl⟩
 rw [← hcc] at hc hl
 unfold aggX at hc ⊢
 obtain ⟨ce, hce⟩ : ∃ c, c = (e.cells eT).toArray := ⟨_, rfl⟩
 rw [← hce] at hc h6 ⊢
 have hB0 := (new_below w (.cells ce 30)).alloc (by simp) (.cells #[.slice none 0 0] 44)
 have hb1 := (Blk.new w 30 ce).alloc (.cells #[.slice none 0 0] 44)
 have hb := Blk.new (w.alloc (.cells ce 30)) 44 #[.slice none 0 0]
 rw [World.size_alloc] at hb
 replace hcc := Lib.hid hcc
 replace hce := Lib.hid hce
 replace hc := Lib.hid hc
 replace hl := Lib.hid hl
 clear hok hs
 go_enter Tryz.func11, Tryz.ntmps11
 go_upto_region 2 with (fail)
 generalize (w.alloc (.cells ce 30)).alloc (.cells #[.slice none 0 0] 44) = W0 at *
 go_wp2_with (refine wpList_load_rowW 30 (.tmp 1) rfl (by rfl) w.heap.size rfl 30 ce (0, 0) _ hb1 Tryz.underlying30 rfl (by rw [h6]; kernel_rfl) ?_; refine Shut.out ?_)
 refine shut_mkX ?_
 try simp only [Act.put, List.setIfInBounds_toArray, List.set_cons_zero, List.set_cons_succ]
 go_upto_region 7 with (first | (go_at_call 77; refine (hc.out _ hB0).mono ?_; rintro e w1 ⟨rfl, hB1⟩) | (go_at_call 78; with_reducible refine (hl.out _).mono ?_; rintro e w' ⟨rfl, rfl⟩))
 have c0 := (hb.below hB1 hb.lt).cell 0
 simp only [List.getElem?_toArray, List.getElem?_cons_zero] at c0
 have hB := below_and hB0 hB1
 clear hb hB0 hB1 hb1
 go_wp2
 go_ret
 exact ⟨rfl, hB⟩
end Go.Proofs.YtnldbplphgfpeaaGreat
namespace Go.Proofs.YtnldbplphgfpeaaGreat
open Go Go.RowKit Go.Shelf
set_option linter.unusedVariables false
set_option linter.unusedSimpArgs false
set_option maxHeartbeats 8000000
def bT : List TypeId := [35, 60, 60, 60, 60, 30, 62, 60, 40, 64, 30, 40, 30, 40, 40, 30, 30, 40, 40]
def bC (g : Nat → Nat) : List (Array Value) :=
 let s := fun (i n : Nat) => Value.slice (some ⟨g i, 0, none⟩) n n
 [#[.int .i64 2, .int .i64 2, s 1 1, s 2 1, s 3 1, s 4 1, .int .u8 6, .int .u8 15, .int .u32 0, .int .i64 0, .string ⟨#[]⟩, s 5 2, s 6 1, s 9 1, s 14 1, s 18 1, .int .u8 1, .int .u8 0, .int .u32 1, .int .i64 2, .string ⟨#[]⟩, .slice none 0 0],
 #[.string ⟨#[105]⟩, .int .i64 2, .int .i64 0], #[.string ⟨#[103]⟩, .int .i64 1, .int .i64 0], #[.string ⟨#[120]⟩, .int .i64 2, .int .i64 0], #[.string ⟨#[97]⟩, .int .i64 2, .int .i64 3],
 #[.int .u8 2, .int .u8 0, .int .u32 0, .int .i64 0, .string ⟨#[105]⟩, .slice none 0 0, .int .u8 1, .int .u8 0, .int .u32 1, .int .i64 2, .string ⟨#[]⟩, .slice none 0 0],
 #[.int .i64 1, .int .u8 2, .int .u8 0, .int .u32 0, .int .i64 0, .string ⟨#[105]⟩, .slice none 0 0],
 #[.string ⟨#[121]⟩, .int .i64 2, .int .i64 0], #[.int .u8 4, .string ⟨#[]⟩, .slice none 0 0, .int .i64 0, .slice none 0 0, .slice none 0 0], #[.string ⟨#[112]⟩, s 7 1, s 8 1],
 #[.int .u8 2, .int .u8 0, .int .u32 0, .int .i64 0, .string ⟨#[120]⟩, .slice none 0 0], #[.int .u8 5, .string ⟨#[]⟩, .slice none 0 0, .int .i64 0, .slice none 0 0, .slice none 0 0],
 #[.int .u8 2, .int .u8 0, .int .u32 0, .int .i64 0, .string ⟨#[120]⟩, .slice none 0 0], #[.int .u8 8, .string ⟨#[112]⟩, s 12 1, .int .i64 0, .slice none 0 0, .slice none 0 0],
 #[.int .u8 6, .string ⟨#[]⟩, s 10 1, .int .i64 0, s 11 1, s 13 1],
 #[.int .u8 2, .int .u8 0, .int .u32 0, .int .i64 0, .string ⟨#[120]⟩, .slice none 0 0], #[.int .u8 1, .int .u8 0, .int .u32 1, .int .i64 2, .string ⟨#[]⟩, .slice none 0 0],
 #[.int .u8 1, .string ⟨#[120]⟩, s 16 1, .int .i64 0, .slice none 0 0, .slice none 0 0], #[.int .u8 7, .string ⟨#[]⟩, s 15 1, .int .i64 2, s 17 1, .slice none 0 0]]
structure Bm (B : Nat) (g : Nat → Nat) (C : List (Array Value)) (X : Nat) (W : World) : Prop where
 blk : ∀ i T cs, (i == X) = false → bT[i]? = some T → C[i]? = some cs → Blk W (g i) T cs
 lo : ∀ i, Nat.blt i 19 = true → B ≤ g i
 ne : ∀ i j, i < 19 → j < 19 → i ≠ j → g i ≠ g j
section
variable {B : Nat} {g : Nat → Nat} {C : List (Array Value)} {X : Nat} {W : World}
theorem Bm.set (h : Bm B g C X W) (i o : Nat) (v : Value) (hi : i < 19) : Bm B g (C.modify i (·.setIfInBounds o v)) X (W.setCell ⟨g i, o, none⟩ v) :=
 ⟨fun j T cs hx hT hC => by
  rw [List.getElem?_modify] at hC
  cases hc : C[j]? with
  | none => rw [hc] at hC; cases hC
  | some c0 =>
   rw [hc] at hC
   have h1 := h.blk j T c0 hx hT hc
   by_cases hij : i = j
   ·subst hij
    have hC : c0.setIfInBounds o v = cs := by simpa using hC
    rw [← hC]
    exact h1.set_ o v
   ·have hC : c0 = cs := by simpa [hij] using hC
    rw [← hC]
    have hj : j < 19 := (List.getElem?_eq_some_iff.1 hT).1
    exact h1.far (h.ne j i hj hi (Ne.symm hij)) v, h.lo, h.ne⟩
theorem Bm.drew (h : Bm B g C X W) : Bm B g C X W.drew := ⟨h.blk, h.lo, h.ne⟩
theorem Bm.grown {W' : World} (h : Bm B g C 99 W) {v : Value} (hg : W.grownBy W' v.ownBlock) (i : Nat) (hi : i < 19) (hv : v.ownBlock = some (g i)) : Bm B g C i W' :=
 ⟨fun j T cs hx hT hC => by
  have hj : j < 19 := (List.getElem?_eq_some_iff.1 hT).1
  have hne : j ≠ i := by simpa using hx
  exact (h.blk j T cs (by simp; omega) hT hC).grown hg (by rw [hv]; intro e; exact h.ne j i hj hi hne (by simpa using e)), h.lo, h.ne⟩
def Left_ (B g0 : Nat) (W W' : World) : Prop := ∃ p : Pg Loc, Blk W' g0 35 (p.cells eT).toArray ∧ GoodP B p W' ∧ Below B W W'
theorem left_mk {W' : World} {g0 : Nat} {bl wd : Int} {v2 v3 v4 v5 v12 v13 v14 v15 x0 x1 x2 x3 x4 x5 y0 y1 y2 y3 y4 y5 : Value} (hb : Blk W' g0 35 #[.int .i64 bl, .int .i64 wd, v2, v3, v4, v5, x0, x1, x2, x3, x4, x5, v12, v13, v14, v15, y0, y1, y2, y3, y4, y5]) (hw : Below B W W')
  (h2 : fD B v2 W') (h3 : fD B v3 W') (h4 : fD B v4 W') (h5 : fD B v5 W') (hx : fX B [x0, x1, x2, x3, x4, x5] W') (h12 : fI B v12 W') (h13 : fP B v13 W') (h14 : fS B 100 v14 W') (h15 : fS B 100 v15 W') (hy : fX B [y0, y1, y2, y3, y4, y5] W') : Left_ B g0 W W' := by
 obtain ⟨p, hp, hg⟩ := good_mk (bl := bl) (wd := wd) h2 h3 h4 h5 hx h12 h13 h14 h15 hy (by omega)
 refine ⟨p, ?_, hg, hw⟩
 rw [← hp]
 exact hb
end
section
variable {B : Nat} {g : Nat → Nat} {W : World}
theorem Bm.cell {C : List (Array Value)} {X : Nat} (h : Bm B g C X W) (i : Nat) {T : TypeId} {cs : Array Value} (hx : (i == X) = false) (hT : bT[i]? = some T) (hC : C[i]? = some cs) (o : Nat) : W.cell? ⟨g i, o, none⟩ = cs[o]? := (h.blk i T cs hx hT hC).cell o
theorem fS_two {v : Value} {m n : Nat} {k bd : Int} {nm : ByteArray} {ve vt vl : Value} (h : W.ownsRow B 40 6 v 2 ([.int .u8 k, .string nm, ve, .int .i64 bd, vt, vl] ++ [.int .u8 k, .string nm, ve, .int .i64 bd, vt, vl])) (hk : 0 ≤ k ∧ k < 256) (hn : nm.size ≤ 1) (he : fL B ve W) (ht : fS B m vt W) (hl : fS B n vl W) : fS B (44 + 2 * m + 2 * n) v W := by
 obtain ⟨l1, es, rfl, o1, r1, w1⟩ := he
 obtain ⟨l2, ts, rfl, o2, r2, w2⟩ := ht
 obtain ⟨l3, ss, rfl, o3, r3, w3⟩ := hl
 obtain ⟨A, c, rfl⟩ := own_form h
 exact ⟨⟨A, c⟩, [.mk ⟨k, nm, bd⟩ l1 l2 l3 es ts ss, .mk ⟨k, nm, bd⟩ l1 l2 l3 es ts ss], rfl, ⟨h, ⟨o1, o2, o3⟩, ⟨o1, o2, o3⟩, trivial⟩, ⟨⟨hk, r1, r2, r3⟩, ⟨hk, r1, r2, r3⟩, trivial⟩, by simp [St.wt, wtL]; omega⟩
theorem left_std {C : List (Array Value)} {X : Nat} {W' : World} {bl wd : Int} {v2 v3 v4 v5 v12 v13 v14 v15 x0 x1 x2 x3 x4 x5 y0 y1 y2 y3 y4 y5 : Value} (H : Bm B g C X W') (hb : Blk W' (g 0) 35 #[.int .i64 bl, .int .i64 wd, v2, v3, v4, v5, x0, x1, x2, x3, x4, x5, v12, v13, v14, v15, y0, y1, y2, y3, y4, y5]) (hw : Below B W W')
  (h2 : fD B v2 W' := by first | exact fD_nil | exact fD_one (H.blk 1 _ _ rfl rfl rfl) (H.lo 1 rfl) (by decide))
  (h3 : fD B v3 W' := by exact fD_one (H.blk 2 _ _ rfl rfl rfl) (H.lo 2 rfl) (by decide))
  (h4 : fD B v4 W' := by exact fD_one (H.blk 3 _ _ rfl rfl rfl) (H.lo 3 rfl) (by decide))
  (h5 : fD B v5 W' := by exact fD_one (H.blk 4 _ _ rfl rfl rfl) (H.lo 4 rfl) (by decide))
  (hx : fX B [x0, x1, x2, x3, x4, x5] W' := by first | exact fX_two (H.blk 5 _ _ rfl rfl rfl) (H.lo 5 rfl) (by simp [Hd.rng]) (by simp [Hd.rng]) (by simp [Hd.rng]) (by decide) (by decide) (by decide) | exact fX_cut (H.blk 5 _ _ rfl rfl rfl) (H.lo 5 rfl) (by simp [Hd.rng]) (by simp [Hd.rng]) (by decide) (by decide))
  (h12 : fI B v12 W' := by first | exact fI_nil | exact fI_one (H.blk 6 _ _ rfl rfl rfl) (H.lo 6 rfl) (by simp [Hd.rng]) (by decide))
  (h13 : fP B v13 W' := by first | exact fP_nil | exact fP_one (H.blk 9 _ _ rfl rfl rfl) (H.lo 9 rfl) (by decide) (by first | exact fD_nil | exact fD_one (H.blk 7 _ _ rfl rfl rfl) (H.lo 7 rfl) (by decide)) (fS_one (m := 0) (n := 0) (H.blk 8 _ _ rfl rfl rfl) (H.lo 8 rfl) (by decide) (by decide) fL_nil fS_nil fS_nil) (by decide))
  (h14 : fS B 100 v14 W' := by first | exact fS_nil | exact fS_le (fS_one (m := 22) (n := 22) (H.blk 14 _ _ rfl rfl rfl) (H.lo 14 rfl) (by decide) (by decide) (fL_one (H.blk 10 _ _ rfl rfl rfl) (H.lo 10 rfl) (by simp [Hd.rng]) (by decide)) (by first | exact fS_one (m := 0) (n := 0) (H.blk 11 _ _ rfl rfl rfl) (H.lo 11 rfl) (by decide) (by decide) fL_nil fS_nil fS_nil | exact fS_one (m := 0) (n := 0) (H.blk 13 _ _ rfl rfl rfl) (H.lo 13 rfl) (by decide) (by decide) (fL_one (H.blk 12 _ _ rfl rfl rfl) (H.lo 12 rfl) (by simp [Hd.rng]) (by decide)) fS_nil fS_nil) (by first | exact fS_one (m := 0) (n := 0) (H.blk 11 _ _ rfl rfl rfl) (H.lo 11 rfl) (by decide) (by decide) fL_nil fS_nil fS_nil | exact fS_one (m := 0) (n := 0) (H.blk 13 _ _ rfl rfl rfl) (H.lo 13 rfl) (by decide) (by decide) (fL_one (H.blk 12 _ _ rfl rfl rfl) (H.lo 12 rfl) (by simp [Hd.rng]) (by decide)) fS_nil fS_nil)) (by decide))
  (h15 : fS B 100 v15 W' := by first | exact fS_nil | exact fS_le (fS_one (m := 22) (n := 0) (H.blk 18 _ _ rfl rfl rfl) (H.lo 18 rfl) (by decide) (by decide) (fL_one (H.blk 15 _ _ rfl rfl rfl) (H.lo 15 rfl) (by simp [Hd.rng]) (by decide)) (fS_one (m := 0) (n := 0) (H.blk 17 _ _ rfl rfl rfl) (H.lo 17 rfl) (by decide) (by decide) (by first | exact fL_nil | exact fL_one (H.blk 16 _ _ rfl rfl rfl) (H.lo 16 rfl) (by simp [Hd.rng]) (by decide)) fS_nil fS_nil) fS_nil) (by decide))
  (hy : fX B [y0, y1, y2, y3, y4, y5] W' := by exact fX_leaf (by simp [Hd.rng]) (by decide)) : Left_ B (g 0) W W' := left_mk hb hw h2 h3 h4 h5 hx h12 h13 h14 h15 hy
theorem chg0 (h : Bm B g (bC g) 99 W) (hW : B ≤ W.heap.size) : Calls Tryz.prog 26 #[] W fun r W' => r = .returned (.tuple #[]) ∧ Left_ B (g 0) W W' := by
 have H := h
 have hB := (Below.refl B W)
 replace H := Lib.hid H
 replace hB := Lib.hid hB
 clear h
 go_enter Tryz.func26, Tryz.ntmps26
 go_wp2_with fail
 go_end0
 refine ⟨rfl, ?_⟩
 replace H := H.out
 replace hB := hB.out
 try generalize World.setCell _ _ _ = W' at H hB ⊢
 simp only [bC, List.modify_cons, List.setIfInBounds_toArray, List.set_cons_zero, List.set_cons_succ] at H
 exact left_std H (H.blk 0 _ _ rfl rfl rfl) hB
theorem chg1 (h : Bm B g (bC g) 99 W) (hW : B ≤ W.heap.size) : Calls Tryz.prog 27 #[.pointer (some ⟨g 0, 0, none⟩)] W fun r W' => r = .returned (.tuple #[]) ∧ Left_ B (g 0) W W' := by
 have q0 := h.cell 0 rfl rfl rfl
 have f0 := (h.blk 0 _ _ rfl rfl rfl).frozen
 have l0 := (h.blk 0 _ _ rfl rfl rfl).lt
 have H := h.set 0 0 (.int .i64 3) (by decide)
 have hB := ((Below.refl B W).setCell (p := ⟨g 0, 0, none⟩) (h.lo 0 rfl) (.int .i64 3))
 replace H := Lib.hid H
 replace hB := Lib.hid hB
 clear h
 go_enter Tryz.func27, Tryz.ntmps27
 go_wp2_with fail
 go_end0
 refine ⟨rfl, ?_⟩
 replace H := H.out
 replace hB := hB.out
 try generalize World.setCell _ _ _ = W' at H hB ⊢
 simp only [bC, List.modify_cons, List.setIfInBounds_toArray, List.set_cons_zero, List.set_cons_succ] at H
 exact left_std H (H.blk 0 _ _ rfl rfl rfl) hB
theorem chg2 (h : Bm B g (bC g) 99 W) (hW : B ≤ W.heap.size) : Calls Tryz.prog 28 #[.pointer (some ⟨g 0, 0, none⟩)] W fun r W' => r = .returned (.tuple #[]) ∧ Left_ B (g 0) W W' := by
 have q0 := h.cell 0 rfl rfl rfl
 have f0 := (h.blk 0 _ _ rfl rfl rfl).frozen
 have l0 := (h.blk 0 _ _ rfl rfl rfl).lt
 have H := h.set 0 1 (.int .i64 1) (by decide)
 have hB := ((Below.refl B W).setCell (p := ⟨g 0, 1, none⟩) (h.lo 0 rfl) (.int .i64 1))
 replace H := Lib.hid H
 replace hB := Lib.hid hB
 clear h
 go_enter Tryz.func28, Tryz.ntmps28
 go_wp2_with fail
 go_end0
 refine ⟨rfl, ?_⟩
 replace H := H.out
 replace hB := hB.out
 try generalize World.setCell _ _ _ = W' at H hB ⊢
 simp only [bC, List.modify_cons, List.setIfInBounds_toArray, List.set_cons_zero, List.set_cons_succ] at H
 exact left_std H (H.blk 0 _ _ rfl rfl rfl) hB
theorem chg3 (h : Bm B g (bC g) 99 W) (hW : B ≤ W.heap.size) : Calls Tryz.prog 29 #[.pointer (some ⟨g 0, 0, none⟩)] W fun r W' => r = .returned (.tuple #[]) ∧ Left_ B (g 0) W W' := by
 have q0 := h.cell 0 rfl rfl rfl
 have f0 := (h.blk 0 _ _ rfl rfl rfl).frozen
 have l0 := (h.blk 0 _ _ rfl rfl rfl).lt
 have H := h.set 0 2 (.slice none 0 0) (by decide)
 have hB := ((Below.refl B W).setCell (p := ⟨g 0, 2, none⟩) (h.lo 0 rfl) (.slice none 0 0))
 replace H := Lib.hid H
 replace hB := Lib.hid hB
 clear h
 go_enter Tryz.func29, Tryz.ntmps29
 go_wp2_with fail
 go_end0
 refine ⟨rfl, ?_⟩
 replace H := H.out
 replace hB := hB.out
 try generalize World.setCell _ _ _ = W' at H hB ⊢
 simp only [bC, List.modify_cons, List.setIfInBounds_toArray, List.set_cons_zero, List.set_cons_succ] at H
 exact left_std H (H.blk 0 _ _ rfl rfl rfl) hB
theorem chg4 (h : Bm B g (bC g) 99 W) (hW : B ≤ W.heap.size) : Calls Tryz.prog 30 #[.pointer (some ⟨g 0, 0, none⟩)] W fun r W' => r = .returned (.tuple #[]) ∧ Left_ B (g 0) W W' := by
 have q0 := h.cell 0 rfl rfl rfl
 have f0 := (h.blk 0 _ _ rfl rfl rfl).frozen
 have l0 := (h.blk 0 _ _ rfl rfl rfl).lt
 have q1 := h.cell 1 rfl rfl rfl
 have f1 := (h.blk 1 _ _ rfl rfl rfl).frozen
 have l1 := (h.blk 1 _ _ rfl rfl rfl).lt
 have H := h.set 1 0 (.string ⟨#[107]⟩) (by decide)
 have hB := ((Below.refl B W).setCell (p := ⟨g 1, 0, none⟩) (h.lo 1 rfl) (.string ⟨#[107]⟩))
 replace H := Lib.hid H
 replace hB := Lib.hid hB
 clear h
 go_enter Tryz.func30, Tryz.ntmps30
 go_wp2_with fail
 go_end0
 refine ⟨rfl, ?_⟩
 replace H := H.out
 replace hB := hB.out
 try generalize World.setCell _ _ _ = W' at H hB ⊢
 simp only [bC, List.modify_cons, List.setIfInBounds_toArray, List.set_cons_zero, List.set_cons_succ] at H
 exact left_std H (H.blk 0 _ _ rfl rfl rfl) hB
theorem chg5 (h : Bm B g (bC g) 99 W) (hW : B ≤ W.heap.size) : Calls Tryz.prog 31 #[.pointer (some ⟨g 0, 0, none⟩)] W fun r W' => r = .returned (.tuple #[]) ∧ Left_ B (g 0) W W' := by
 have q0 := h.cell 0 rfl rfl rfl
 have f0 := (h.blk 0 _ _ rfl rfl rfl).frozen
 have l0 := (h.blk 0 _ _ rfl rfl rfl).lt
 have q2 := h.cell 2 rfl rfl rfl
 have f2 := (h.blk 2 _ _ rfl rfl rfl).frozen
 have l2 := (h.blk 2 _ _ rfl rfl rfl).lt
 have H := h.set 2 1 (.int .i64 2) (by decide)
 have hB := ((Below.refl B W).setCell (p := ⟨g 2, 1, none⟩) (h.lo 2 rfl) (.int .i64 2))
 replace H := Lib.hid H
 replace hB := Lib.hid hB
 clear h
 go_enter Tryz.func31, Tryz.ntmps31
 go_wp2_with fail
 go_end0
 refine ⟨rfl, ?_⟩
 replace H := H.out
 replace hB := hB.out
 try generalize World.setCell _ _ _ = W' at H hB ⊢
 simp only [bC, List.modify_cons, List.setIfInBounds_toArray, List.set_cons_zero, List.set_cons_succ] at H
 exact left_std H (H.blk 0 _ _ rfl rfl rfl) hB
theorem chg7 (h : Bm B g (bC g) 99 W) (hW : B ≤ W.heap.size) : Calls Tryz.prog 33 #[.pointer (some ⟨g 0, 0, none⟩)] W fun r W' => r = .returned (.tuple #[]) ∧ Left_ B (g 0) W W' := by
 have q0 := h.cell 0 rfl rfl rfl
 have f0 := (h.blk 0 _ _ rfl rfl rfl).frozen
 have l0 := (h.blk 0 _ _ rfl rfl rfl).lt
 have q4 := h.cell 4 rfl rfl rfl
 have f4 := (h.blk 4 _ _ rfl rfl rfl).frozen
 have l4 := (h.blk 4 _ _ rfl rfl rfl).lt
 have H := h.set 4 2 (.int .i64 4) (by decide)
 have hB := ((Below.refl B W).setCell (p := ⟨g 4, 2, none⟩) (h.lo 4 rfl) (.int .i64 4))
 replace H := Lib.hid H
 replace hB := Lib.hid hB
 clear h
 go_enter Tryz.func33, Tryz.ntmps33
 go_wp2_with fail
 go_end0
 refine ⟨rfl, ?_⟩
 replace H := H.out
 replace hB := hB.out
 try generalize World.setCell _ _ _ = W' at H hB ⊢
 simp only [bC, List.modify_cons, List.setIfInBounds_toArray, List.set_cons_zero, List.set_cons_succ] at H
 exact left_std H (H.blk 0 _ _ rfl rfl rfl) hB
theorem chg8 (h : Bm B g (bC g) 99 W) (hW : B ≤ W.heap.size) : Calls Tryz.prog 34 #[.pointer (some ⟨g 0, 0, none⟩)] W fun r W' => r = .returned (.tuple #[]) ∧ Left_ B (g 0) W W' := by
 have q0 := h.cell 0 rfl rfl rfl
 have f0 := (h.blk 0 _ _ rfl rfl rfl).frozen
 have l0 := (h.blk 0 _ _ rfl rfl rfl).lt
 have H := h.set 0 7 (.int .u8 16) (by decide)
 have hB := ((Below.refl B W).setCell (p := ⟨g 0, 7, none⟩) (h.lo 0 rfl) (.int .u8 16))
 replace H := Lib.hid H
 replace hB := Lib.hid hB
 clear h
 go_enter Tryz.func34, Tryz.ntmps34
 go_wp2_with fail
 go_end0
 refine ⟨rfl, ?_⟩
 replace H := H.out
 replace hB := hB.out
 try generalize World.setCell _ _ _ = W' at H hB ⊢
 simp only [bC, List.modify_cons, List.setIfInBounds_toArray, List.set_cons_zero, List.set_cons_succ] at H
 exact left_std H (H.blk 0 _ _ rfl rfl rfl) hB
theorem chg9 (h : Bm B g (bC g) 99 W) (hW : B ≤ W.heap.size) : Calls Tryz.prog 35 #[.pointer (some ⟨g 0, 0, none⟩)] W fun r W' => r = .returned (.tuple #[]) ∧ Left_ B (g 0) W W' := by
 have q0 := h.cell 0 rfl rfl rfl
 have f0 := (h.blk 0 _ _ rfl rfl rfl).frozen
 have l0 := (h.blk 0 _ _ rfl rfl rfl).lt
 have q5 := h.cell 5 rfl rfl rfl
 have f5 := (h.blk 5 _ _ rfl rfl rfl).frozen
 have l5 := (h.blk 5 _ _ rfl rfl rfl).lt
 have H := h.set 5 8 (.int .u32 2) (by decide)
 have hB := ((Below.refl B W).setCell (p := ⟨g 5, 8, none⟩) (h.lo 5 rfl) (.int .u32 2))
 replace H := Lib.hid H
 replace hB := Lib.hid hB
 clear h
 go_enter Tryz.func35, Tryz.ntmps35
 go_wp2_with fail
 go_end0
 refine ⟨rfl, ?_⟩
 replace H := H.out
 replace hB := hB.out
 try generalize World.setCell _ _ _ = W' at H hB ⊢
 simp only [bC, List.modify_cons, List.setIfInBounds_toArray, List.set_cons_zero, List.set_cons_succ] at H
 exact left_std H (H.blk 0 _ _ rfl rfl rfl) hB
theorem chg10 (h : Bm B g (bC g) 99 W) (hW : B ≤ W.heap.size) : Calls Tryz.prog 36 #[.pointer (some ⟨g 0, 0, none⟩)] W fun r W' => r = .returned (.tuple #[]) ∧ Left_ B (g 0) W W' := by
 have q0 := h.cell 0 rfl rfl rfl
 have f0 := (h.blk 0 _ _ rfl rfl rfl).frozen
 have l0 := (h.blk 0 _ _ rfl rfl rfl).lt
 have H := h.set 0 11 (.slice (some ⟨g 5, 0, none⟩) 1 2) (by decide)
 have hB := ((Below.refl B W).setCell (p := ⟨g 0, 11, none⟩) (h.lo 0 rfl) (.slice (some ⟨g 5, 0, none⟩) 1 2))
 replace H := Lib.hid H
 replace hB := Lib.hid hB
 clear h
 go_enter Tryz.func36, Tryz.ntmps36
 go_wp2_with fail
 go_end0
 refine ⟨rfl, ?_⟩
 replace H := H.out
 replace hB := hB.out
 try generalize World.setCell _ _ _ = W' at H hB ⊢
 simp only [bC, List.modify_cons, List.setIfInBounds_toArray, List.set_cons_zero, List.set_cons_succ] at H
 exact left_std H (H.blk 0 _ _ rfl rfl rfl) hB
theorem chg11 (h : Bm B g (bC g) 99 W) (hW : B ≤ W.heap.size) : Calls Tryz.prog 37 #[.pointer (some ⟨g 0, 0, none⟩)] W fun r W' => r = .returned (.tuple #[]) ∧ Left_ B (g 0) W W' := by
 have q0 := h.cell 0 rfl rfl rfl
 have f0 := (h.blk 0 _ _ rfl rfl rfl).frozen
 have l0 := (h.blk 0 _ _ rfl rfl rfl).lt
 have q6 := h.cell 6 rfl rfl rfl
 have f6 := (h.blk 6 _ _ rfl rfl rfl).frozen
 have l6 := (h.blk 6 _ _ rfl rfl rfl).lt
 have H := h.set 6 0 (.int .i64 0) (by decide)
 have hB := ((Below.refl B W).setCell (p := ⟨g 6, 0, none⟩) (h.lo 6 rfl) (.int .i64 0))
 replace H := Lib.hid H
 replace hB := Lib.hid hB
 clear h
 go_enter Tryz.func37, Tryz.ntmps37
 go_wp2_with fail
 go_end0
 refine ⟨rfl, ?_⟩
 replace H := H.out
 replace hB := hB.out
 try generalize World.setCell _ _ _ = W' at H hB ⊢
 simp only [bC, List.modify_cons, List.setIfInBounds_toArray, List.set_cons_zero, List.set_cons_succ] at H
 exact left_std H (H.blk 0 _ _ rfl rfl rfl) hB
theorem chg13 (h : Bm B g (bC g) 99 W) (hW : B ≤ W.heap.size) : Calls Tryz.prog 39 #[.pointer (some ⟨g 0, 0, none⟩)] W fun r W' => r = .returned (.tuple #[]) ∧ Left_ B (g 0) W W' := by
 have q0 := h.cell 0 rfl rfl rfl
 have f0 := (h.blk 0 _ _ rfl rfl rfl).frozen
 have l0 := (h.blk 0 _ _ rfl rfl rfl).lt
 have H := h.set 0 12 (.slice none 0 0) (by decide)
 have hB := ((Below.refl B W).setCell (p := ⟨g 0, 12, none⟩) (h.lo 0 rfl) (.slice none 0 0))
 replace H := Lib.hid H
 replace hB := Lib.hid hB
 clear h
 go_enter Tryz.func39, Tryz.ntmps39
 go_wp2_with fail
 go_end0
 refine ⟨rfl, ?_⟩
 replace H := H.out
 replace hB := hB.out
 try generalize World.setCell _ _ _ = W' at H hB ⊢
 simp only [bC, List.modify_cons, List.setIfInBounds_toArray, List.set_cons_zero, List.set_cons_succ] at H
 exact left_std H (H.blk 0 _ _ rfl rfl rfl) hB
theorem chg14 (h : Bm B g (bC g) 99 W) (hW : B ≤ W.heap.size) : Calls Tryz.prog 40 #[.pointer (some ⟨g 0, 0, none⟩)] W fun r W' => r = .returned (.tuple #[]) ∧ Left_ B (g 0) W W' := by
 have q0 := h.cell 0 rfl rfl rfl
 have f0 := (h.blk 0 _ _ rfl rfl rfl).frozen
 have l0 := (h.blk 0 _ _ rfl rfl rfl).lt
 have q9 := h.cell 9 rfl rfl rfl
 have f9 := (h.blk 9 _ _ rfl rfl rfl).frozen
 have l9 := (h.blk 9 _ _ rfl rfl rfl).lt
 have H := h.set 9 0 (.string ⟨#[113]⟩) (by decide)
 have hB := ((Below.refl B W).setCell (p := ⟨g 9, 0, none⟩) (h.lo 9 rfl) (.string ⟨#[113]⟩))
 replace H := Lib.hid H
 replace hB := Lib.hid hB
 clear h
 go_enter Tryz.func40, Tryz.ntmps40
 go_wp2_with fail
 go_end0
 refine ⟨rfl, ?_⟩
 replace H := H.out
 replace hB := hB.out
 try generalize World.setCell _ _ _ = W' at H hB ⊢
 simp only [bC, List.modify_cons, List.setIfInBounds_toArray, List.set_cons_zero, List.set_cons_succ] at H
 exact left_std H (H.blk 0 _ _ rfl rfl rfl) hB
theorem chg15 (h : Bm B g (bC g) 99 W) (hW : B ≤ W.heap.size) : Calls Tryz.prog 41 #[.pointer (some ⟨g 0, 0, none⟩)] W fun r W' => r = .returned (.tuple #[]) ∧ Left_ B (g 0) W W' := by
 have q0 := h.cell 0 rfl rfl rfl
 have f0 := (h.blk 0 _ _ rfl rfl rfl).frozen
 have l0 := (h.blk 0 _ _ rfl rfl rfl).lt
 have q7 := h.cell 7 rfl rfl rfl
 have f7 := (h.blk 7 _ _ rfl rfl rfl).frozen
 have l7 := (h.blk 7 _ _ rfl rfl rfl).lt
 have q9 := h.cell 9 rfl rfl rfl
 have f9 := (h.blk 9 _ _ rfl rfl rfl).frozen
 have l9 := (h.blk 9 _ _ rfl rfl rfl).lt
 have H := h.set 7 0 (.string ⟨#[122]⟩) (by decide)
 have hB := ((Below.refl B W).setCell (p := ⟨g 7, 0, none⟩) (h.lo 7 rfl) (.string ⟨#[122]⟩))
 replace H := Lib.hid H
 replace hB := Lib.hid hB
 clear h
 go_enter Tryz.func41, Tryz.ntmps41
 go_wp2_with fail
 go_end0
 refine ⟨rfl, ?_⟩
 replace H := H.out
 replace hB := hB.out
 try generalize World.setCell _ _ _ = W' at H hB ⊢
 simp only [bC, List.modify_cons, List.setIfInBounds_toArray, List.set_cons_zero, List.set_cons_succ] at H
 exact left_std H (H.blk 0 _ _ rfl rfl rfl) hB
theorem chg16 (h : Bm B g (bC g) 99 W) (hW : B ≤ W.heap.size) : Calls Tryz.prog 42 #[.pointer (some ⟨g 0, 0, none⟩)] W fun r W' => r = .returned (.tuple #[]) ∧ Left_ B (g 0) W W' := by
 have q0 := h.cell 0 rfl rfl rfl
 have f0 := (h.blk 0 _ _ rfl rfl rfl).frozen
 have l0 := (h.blk 0 _ _ rfl rfl rfl).lt
 have q9 := h.cell 9 rfl rfl rfl
 have f9 := (h.blk 9 _ _ rfl rfl rfl).frozen
 have l9 := (h.blk 9 _ _ rfl rfl rfl).lt
 have H := h.set 9 1 (.slice none 0 0) (by decide)
 have hB := ((Below.refl B W).setCell (p := ⟨g 9, 1, none⟩) (h.lo 9 rfl) (.slice none 0 0))
 replace H := Lib.hid H
 replace hB := Lib.hid hB
 clear h
 go_enter Tryz.func42, Tryz.ntmps42
 go_wp2_with fail
 go_end0
 refine ⟨rfl, ?_⟩
 replace H := H.out
 replace hB := hB.out
 try generalize World.setCell _ _ _ = W' at H hB ⊢
 simp only [bC, List.modify_cons, List.setIfInBounds_toArray, List.set_cons_zero, List.set_cons_succ] at H
 exact left_std H (H.blk 0 _ _ rfl rfl rfl) hB
theorem chg17 (h : Bm B g (bC g) 99 W) (hW : B ≤ W.heap.size) : Calls Tryz.prog 43 #[.pointer (some ⟨g 0, 0, none⟩)] W fun r W' => r = .returned (.tuple #[]) ∧ Left_ B (g 0) W W' := by
 have q0 := h.cell 0 rfl rfl rfl
 have f0 := (h.blk 0 _ _ rfl rfl rfl).frozen
 have l0 := (h.blk 0 _ _ rfl rfl rfl).lt
 have q8 := h.cell 8 rfl rfl rfl
 have f8 := (h.blk 8 _ _ rfl rfl rfl).frozen
 have l8 := (h.blk 8 _ _ rfl rfl rfl).lt
 have q9 := h.cell 9 rfl rfl rfl
 have f9 := (h.blk 9 _ _ rfl rfl rfl).frozen
 have l9 := (h.blk 9 _ _ rfl rfl rfl).lt
 have H := h.set 8 0 (.int .u8 5) (by decide)
 have hB := ((Below.refl B W).setCell (p := ⟨g 8, 0, none⟩) (h.lo 8 rfl) (.int .u8 5))
 replace H := Lib.hid H
 replace hB := Lib.hid hB
 clear h
 go_enter Tryz.func43, Tryz.ntmps43
 go_wp2_with fail
 go_end0
 refine ⟨rfl, ?_⟩
 replace H := H.out
 replace hB := hB.out
 try generalize World.setCell _ _ _ = W' at H hB ⊢
 simp only [bC, List.modify_cons, List.setIfInBounds_toArray, List.set_cons_zero, List.set_cons_succ] at H
 exact left_std H (H.blk 0 _ _ rfl rfl rfl) hB
theorem chg18 (h : Bm B g (bC g) 99 W) (hW : B ≤ W.heap.size) : Calls Tryz.prog 44 #[.pointer (some ⟨g 0, 0, none⟩)] W fun r W' => r = .returned (.tuple #[]) ∧ Left_ B (g 0) W W' := by
 have q0 := h.cell 0 rfl rfl rfl
 have f0 := (h.blk 0 _ _ rfl rfl rfl).frozen
 have l0 := (h.blk 0 _ _ rfl rfl rfl).lt
 have H := h.set 0 13 (.slice none 0 0) (by decide)
 have hB := ((Below.refl B W).setCell (p := ⟨g 0, 13, none⟩) (h.lo 0 rfl) (.slice none 0 0))
 replace H := Lib.hid H
 replace hB := Lib.hid hB
 clear h
 go_enter Tryz.func44, Tryz.ntmps44
 go_wp2_with fail
 go_end0
 refine ⟨rfl, ?_⟩
 replace H := H.out
 replace hB := hB.out
 try generalize World.setCell _ _ _ = W' at H hB ⊢
 simp only [bC, List.modify_cons, List.setIfInBounds_toArray, List.set_cons_zero, List.set_cons_succ] at H
 exact left_std H (H.blk 0 _ _ rfl rfl rfl) hB
theorem chg21 (h : Bm B g (bC g) 99 W) (hW : B ≤ W.heap.size) : Calls Tryz.prog 47 #[.pointer (some ⟨g 0, 0, none⟩)] W fun r W' => r = .returned (.tuple #[]) ∧ Left_ B (g 0) W W' := by
 have q0 := h.cell 0 rfl rfl rfl
 have f0 := (h.blk 0 _ _ rfl rfl rfl).frozen
 have l0 := (h.blk 0 _ _ rfl rfl rfl).lt
 have q13 := h.cell 13 rfl rfl rfl
 have f13 := (h.blk 13 _ _ rfl rfl rfl).frozen
 have l13 := (h.blk 13 _ _ rfl rfl rfl).lt
 have q14 := h.cell 14 rfl rfl rfl
 have f14 := (h.blk 14 _ _ rfl rfl rfl).frozen
 have l14 := (h.blk 14 _ _ rfl rfl rfl).lt
 have H := h.set 13 1 (.string ⟨#[113]⟩) (by decide)
 have hB := ((Below.refl B W).setCell (p := ⟨g 13, 1, none⟩) (h.lo 13 rfl) (.string ⟨#[113]⟩))
 replace H := Lib.hid H
 replace hB := Lib.hid hB
 clear h
 go_enter Tryz.func47, Tryz.ntmps47
 go_wp2_with fail
 go_end0
 refine ⟨rfl, ?_⟩
 replace H := H.out
 replace hB := hB.out
 try generalize World.setCell _ _ _ = W' at H hB ⊢
 simp only [bC, List.modify_cons, List.setIfInBounds_toArray, List.set_cons_zero, List.set_cons_succ] at H
 exact left_std H (H.blk 0 _ _ rfl rfl rfl) hB
theorem chg22 (h : Bm B g (bC g) 99 W) (hW : B ≤ W.heap.size) : Calls Tryz.prog 48 #[.pointer (some ⟨g 0, 0, none⟩)] W fun r W' => r = .returned (.tuple #[]) ∧ Left_ B (g 0) W W' := by
 have q0 := h.cell 0 rfl rfl rfl
 have f0 := (h.blk 0 _ _ rfl rfl rfl).frozen
 have l0 := (h.blk 0 _ _ rfl rfl rfl).lt
 have H := h.set 0 14 (.slice none 0 0) (by decide)
 have hB := ((Below.refl B W).setCell (p := ⟨g 0, 14, none⟩) (h.lo 0 rfl) (.slice none 0 0))
 replace H := Lib.hid H
 replace hB := Lib.hid hB
 clear h
 go_enter Tryz.func48, Tryz.ntmps48
 go_wp2_with fail
 go_end0
 refine ⟨rfl, ?_⟩
 replace H := H.out
 replace hB := hB.out
 try generalize World.setCell _ _ _ = W' at H hB ⊢
 simp only [bC, List.modify_cons, List.setIfInBounds_toArray, List.set_cons_zero, List.set_cons_succ] at H
 exact left_std H (H.blk 0 _ _ rfl rfl rfl) hB
theorem chg23 (h : Bm B g (bC g) 99 W) (hW : B ≤ W.heap.size) : Calls Tryz.prog 49 #[.pointer (some ⟨g 0, 0, none⟩)] W fun r W' => r = .returned (.tuple #[]) ∧ Left_ B (g 0) W W' := by
 have q0 := h.cell 0 rfl rfl rfl
 have f0 := (h.blk 0 _ _ rfl rfl rfl).frozen
 have l0 := (h.blk 0 _ _ rfl rfl rfl).lt
 have q18 := h.cell 18 rfl rfl rfl
 have f18 := (h.blk 18 _ _ rfl rfl rfl).frozen
 have l18 := (h.blk 18 _ _ rfl rfl rfl).lt
 have H := h.set 18 3 (.int .i64 3) (by decide)
 have hB := ((Below.refl B W).setCell (p := ⟨g 18, 3, none⟩) (h.lo 18 rfl) (.int .i64 3))
 replace H := Lib.hid H
 replace hB := Lib.hid hB
 clear h
 go_enter Tryz.func49, Tryz.ntmps49
 go_wp2_with fail
 go_end0
 refine ⟨rfl, ?_⟩
 replace H := H.out
 replace hB := hB.out
 try generalize World.setCell _ _ _ = W' at H hB ⊢
 simp only [bC, List.modify_cons, List.setIfInBounds_toArray, List.set_cons_zero, List.set_cons_succ] at H
 exact left_std H (H.blk 0 _ _ rfl rfl rfl) hB
theorem chg24 (h : Bm B g (bC g) 99 W) (hW : B ≤ W.heap.size) : Calls Tryz.prog 50 #[.pointer (some ⟨g 0, 0, none⟩)] W fun r W' => r = .returned (.tuple #[]) ∧ Left_ B (g 0) W W' := by
 have q0 := h.cell 0 rfl rfl rfl
 have f0 := (h.blk 0 _ _ rfl rfl rfl).frozen
 have l0 := (h.blk 0 _ _ rfl rfl rfl).lt
 have q17 := h.cell 17 rfl rfl rfl
 have f17 := (h.blk 17 _ _ rfl rfl rfl).frozen
 have l17 := (h.blk 17 _ _ rfl rfl rfl).lt
 have q18 := h.cell 18 rfl rfl rfl
 have f18 := (h.blk 18 _ _ rfl rfl rfl).frozen
 have l18 := (h.blk 18 _ _ rfl rfl rfl).lt
 have H := h.set 17 2 (.slice none 0 0) (by decide)
 have hB := ((Below.refl B W).setCell (p := ⟨g 17, 2, none⟩) (h.lo 17 rfl) (.slice none 0 0))
 replace H := Lib.hid H
 replace hB := Lib.hid hB
 clear h
 go_enter Tryz.func50, Tryz.ntmps50
 go_wp2_with fail
 go_end0
 refine ⟨rfl, ?_⟩
 replace H := H.out
 replace hB := hB.out
 try generalize World.setCell _ _ _ = W' at H hB ⊢
 simp only [bC, List.modify_cons, List.setIfInBounds_toArray, List.set_cons_zero, List.set_cons_succ] at H
 exact left_std H (H.blk 0 _ _ rfl rfl rfl) hB
theorem chg26 (h : Bm B g (bC g) 99 W) (hW : B ≤ W.heap.size) : Calls Tryz.prog 52 #[.pointer (some ⟨g 0, 0, none⟩)] W fun r W' => r = .returned (.tuple #[]) ∧ Left_ B (g 0) W W' := by
 have q0 := h.cell 0 rfl rfl rfl
 have f0 := (h.blk 0 _ _ rfl rfl rfl).frozen
 have l0 := (h.blk 0 _ _ rfl rfl rfl).lt
 have H := h.set 0 19 (.int .i64 3) (by decide)
 have hB := ((Below.refl B W).setCell (p := ⟨g 0, 19, none⟩) (h.lo 0 rfl) (.int .i64 3))
 replace H := Lib.hid H
 replace hB := Lib.hid hB
 clear h
 go_enter Tryz.func52, Tryz.ntmps52
 go_wp2_with fail
 go_end0
 refine ⟨rfl, ?_⟩
 replace H := H.out
 replace hB := hB.out
 try generalize World.setCell _ _ _ = W' at H hB ⊢
 simp only [bC, List.modify_cons, List.setIfInBounds_toArray, List.set_cons_zero, List.set_cons_succ] at H
 exact left_std H (H.blk 0 _ _ rfl rfl rfl) hB
set_option maxRecDepth 100000 in
theorem chg12 (h : Bm B g (bC g) 99 W) (hW : B ≤ W.heap.size) (e : Nat) (he : Blk W e 30 #[.int .u8 1, .int .u8 0, .int .u32 1, .int .i64 2, .string ⟨#[]⟩, .slice none 0 0]) : Calls Tryz.prog 38 #[.pointer (some ⟨e, 0, none⟩), .pointer (some ⟨g 0, 0, none⟩)] W fun r W' => r = .returned (.tuple #[]) ∧ Left_ B (g 0) W W' := by
 have q0 := h.cell 0 rfl rfl rfl
 have f0 := (h.blk 0 _ _ rfl rfl rfl).frozen
 have l0 := (h.blk 0 _ _ rfl rfl rfl).lt
 have q6 := h.cell 6 rfl rfl rfl
 have f6 := (h.blk 6 _ _ rfl rfl rfl).frozen
 have l6 := (h.blk 6 _ _ rfl rfl rfl).lt
 have e0 := he.cell
 have el := he.lt
 have H := h.set 6 1 (.int .u8 1) (by decide)
 have H := H.set 6 2 (.int .u8 0) (by decide)
 have H := H.set 6 3 (.int .u32 1) (by decide)
 have H := H.set 6 4 (.int .i64 2) (by decide)
 have H := H.set 6 5 (.string ⟨#[]⟩) (by decide)
 have H := H.set 6 6 (.slice none 0 0) (by decide)
 have hB := (((((((Below.refl B W).setCell (p := ⟨g 6, 1, none⟩) (h.lo 6 rfl) (.int .u8 1)).setCell (p := ⟨g 6, 2, none⟩) (h.lo 6 rfl) (.int .u8 0)).setCell (p := ⟨g 6, 3, none⟩) (h.lo 6 rfl) (.int .u32 1)).setCell (p := ⟨g 6, 4, none⟩) (h.lo 6 rfl) (.int .i64 2)).setCell (p := ⟨g 6, 5, none⟩) (h.lo 6 rfl) (.string ⟨#[]⟩)).setCell (p := ⟨g 6, 6, none⟩) (h.lo 6 rfl) (.slice none 0 0))
 replace H := Lib.hid H
 replace hB := Lib.hid hB
 clear h
 go_enter Tryz.func38, Tryz.ntmps38
 go_wp2_with fail
 go_end0
 refine ⟨rfl, ?_⟩
 replace H := H.out
 replace hB := hB.out
 try generalize World.setCell _ _ _ = W' at H hB ⊢
 simp only [bC, List.modify_cons, List.setIfInBounds_toArray, List.set_cons_zero, List.set_cons_succ] at H
 exact left_std H (H.blk 0 _ _ rfl rfl rfl) hB
set_option maxRecDepth 100000 in
theorem chg27 (h : Bm B g (bC g) 99 W) (hW : B ≤ W.heap.size) (e : Nat) (he : Blk W e 30 #[.int .u8 2, .int .u8 0, .int .u32 0, .int .i64 0, .string ⟨#[120]⟩, .slice none 0 0]) : Calls Tryz.prog 53 #[.pointer (some ⟨e, 0, none⟩), .pointer (some ⟨g 0, 0, none⟩)] W fun r W' => r = .returned (.tuple #[]) ∧ Left_ B (g 0) W W' := by
 have q0 := h.cell 0 rfl rfl rfl
 have f0 := (h.blk 0 _ _ rfl rfl rfl).frozen
 have l0 := (h.blk 0 _ _ rfl rfl rfl).lt
 have e0 := he.cell
 have el := he.lt
 have H := h.set 0 16 (.int .u8 2) (by decide)
 have H := H.set 0 17 (.int .u8 0) (by decide)
 have H := H.set 0 18 (.int .u32 0) (by decide)
 have H := H.set 0 19 (.int .i64 0) (by decide)
 have H := H.set 0 20 (.string ⟨#[120]⟩) (by decide)
 have H := H.set 0 21 (.slice none 0 0) (by decide)
 have hB := (((((((Below.refl B W).setCell (p := ⟨g 0, 16, none⟩) (h.lo 0 rfl) (.int .u8 2)).setCell (p := ⟨g 0, 17, none⟩) (h.lo 0 rfl) (.int .u8 0)).setCell (p := ⟨g 0, 18, none⟩) (h.lo 0 rfl) (.int .u32 0)).setCell (p := ⟨g 0, 19, none⟩) (h.lo 0 rfl) (.int .i64 0)).setCell (p := ⟨g 0, 20, none⟩) (h.lo 0 rfl) (.string ⟨#[120]⟩)).setCell (p := ⟨g 0, 21, none⟩) (h.lo 0 rfl) (.slice none 0 0))
 replace H := Lib.hid H
 replace hB := Lib.hid hB
 clear h
 go_enter Tryz.func53, Tryz.ntmps53
 go_wp2_with fail
 go_end0
 refine ⟨rfl, ?_⟩
 replace H := H.out
 replace hB := hB.out
 try generalize World.setCell _ _ _ = W' at H hB ⊢
 simp only [bC, List.modify_cons, List.setIfInBounds_toArray, List.set_cons_zero, List.set_cons_succ] at H
 exact left_std H (H.blk 0 _ _ rfl rfl rfl) hB
set_option maxRecDepth 100000 in
theorem chg20 (h : Bm B g (bC g) 99 W) (hW : B ≤ W.heap.size) (e : Nat) (he : Blk W e 30 #[.int .u8 1, .int .u8 0, .int .u32 1, .int .i64 2, .string ⟨#[]⟩, .slice none 0 0]) : Calls Tryz.prog 46 #[.pointer (some ⟨e, 0, none⟩), .pointer (some ⟨g 0, 0, none⟩)] W fun r W' => r = .returned (.tuple #[]) ∧ Left_ B (g 0) W W' := by
 have q0 := h.cell 0 rfl rfl rfl
 have f0 := (h.blk 0 _ _ rfl rfl rfl).frozen
 have l0 := (h.blk 0 _ _ rfl rfl rfl).lt
 have q10 := h.cell 10 rfl rfl rfl
 have f10 := (h.blk 10 _ _ rfl rfl rfl).frozen
 have l10 := (h.blk 10 _ _ rfl rfl rfl).lt
 have q14 := h.cell 14 rfl rfl rfl
 have f14 := (h.blk 14 _ _ rfl rfl rfl).frozen
 have l14 := (h.blk 14 _ _ rfl rfl rfl).lt
 have e0 := he.cell
 have el := he.lt
 have H := h.set 10 0 (.int .u8 1) (by decide)
 have H := H.set 10 1 (.int .u8 0) (by decide)
 have H := H.set 10 2 (.int .u32 1) (by decide)
 have H := H.set 10 3 (.int .i64 2) (by decide)
 have H := H.set 10 4 (.string ⟨#[]⟩) (by decide)
 have H := H.set 10 5 (.slice none 0 0) (by decide)
 have hB := (((((((Below.refl B W).setCell (p := ⟨g 10, 0, none⟩) (h.lo 10 rfl) (.int .u8 1)).setCell (p := ⟨g 10, 1, none⟩) (h.lo 10 rfl) (.int .u8 0)).setCell (p := ⟨g 10, 2, none⟩) (h.lo 10 rfl) (.int .u32 1)).setCell (p := ⟨g 10, 3, none⟩) (h.lo 10 rfl) (.int .i64 2)).setCell (p := ⟨g 10, 4, none⟩) (h.lo 10 rfl) (.string ⟨#[]⟩)).setCell (p := ⟨g 10, 5, none⟩) (h.lo 10 rfl) (.slice none 0 0))
 replace H := Lib.hid H
 replace hB := Lib.hid hB
 clear h
 go_enter Tryz.func46, Tryz.ntmps46
 go_still_tail 7, (by kernel_rfl)
 repeat still_step
 try refine wpStill_nil ?_
 change wpList _ _ _ _ _ W.drew
 go_wp2_with fail
 go_end0
 refine ⟨rfl, ?_⟩
 replace H := H.out
 replace hB := hB.out
 replace H := H.drew
 replace hB := hB.drew
 generalize World.drew _ = W' at H hB ⊢
 simp only [bC, List.modify_cons, List.setIfInBounds_toArray, List.set_cons_zero, List.set_cons_succ] at H
 exact left_std H (H.blk 0 _ _ rfl rfl rfl) hB
set_option maxRecDepth 100000 in
theorem chg19 (h : Bm B g (bC g) 99 W) (hW : B ≤ W.heap.size) : Calls Tryz.prog 45 #[.pointer (some ⟨g 0, 0, none⟩)] W fun r W' => r = .returned (.tuple #[]) ∧ Left_ B (g 0) W W' := by
 have q0 := h.cell 0 rfl rfl rfl
 have f0 := (h.blk 0 _ _ rfl rfl rfl).frozen
 have l0 := (h.blk 0 _ _ rfl rfl rfl).lt
 have q14 := h.cell 14 rfl rfl rfl
 have f14 := (h.blk 14 _ _ rfl rfl rfl).frozen
 have l14 := (h.blk 14 _ _ rfl rfl rfl).lt
 have H := h.set 14 4 (.slice (some ⟨g 13, 0, none⟩) 1 1) (by decide)
 have H := H.set 14 5 (.slice (some ⟨g 11, 0, none⟩) 1 1) (by decide)
 have hB := (((Below.refl B W).setCell (p := ⟨g 14, 4, none⟩) (h.lo 14 rfl) (.slice (some ⟨g 13, 0, none⟩) 1 1)).setCell (p := ⟨g 14, 5, none⟩) (h.lo 14 rfl) (.slice (some ⟨g 11, 0, none⟩) 1 1))
 replace H := Lib.hid H
 replace hB := Lib.hid hB
 clear h
 go_enter Tryz.func45, Tryz.ntmps45
 go_still_tail 16, (by kernel_rfl)
 repeat still_step
 try refine wpStill_nil ?_
 change wpList _ _ _ _ _ W.drew
 go_wp2_with fail
 go_end0
 refine ⟨rfl, ?_⟩
 replace H := H.out
 replace hB := hB.out
 replace H := H.drew
 replace hB := hB.drew
 generalize World.drew _ = W' at H hB ⊢
 simp only [bC, List.modify_cons, List.setIfInBounds_toArray, List.set_cons_zero, List.set_cons_succ] at H
 exact left_std H (H.blk 0 _ _ rfl rfl rfl) hB
set_option maxRecDepth 100000 in
theorem chg6 (h : Bm B g (bC g) 99 W) (hW : B ≤ W.heap.size) : Calls Tryz.prog 32 #[.pointer (some ⟨g 0, 0, none⟩)] W fun r W' => r = .returned (.tuple #[]) ∧ Left_ B (g 0) W W' := by
 obtain ⟨i0, hi, hz0, hz1, hz2⟩ := info_parts infoDecl
 have q0 := h.cell 0 rfl rfl rfl
 have l0 := (h.blk 0 _ _ rfl rfl rfl).lt
 have ho := own_blk (n := 1) (cap := 1) (size := 3) (h.blk 3 _ _ rfl rfl rfl) (h.lo 3 rfl) (by decide) (by decide) rfl
 have hr := Reads.of_own ho
 have h' := Lib.hid h
 clear h
 go_enter Tryz.func32, Tryz.ntmps32
 go_wp2_with (at_builtin; refine wpList_append_any _ rfl (.tmp 2) (.tmp 4) 24 rfl B 60 i0 _ 3 32 Tryz.underlying24 hi hz0 hz1 hz2 rfl (by omega) (.slice (some ⟨g 3, 0, none⟩) 1 1) 1 [.string ⟨#[120]⟩, .int .i64 2, .int .i64 0] rfl ho _ (some ⟨g 3, 0, none⟩) 1 1 [.string ⟨#[120]⟩, .int .i64 2, .int .i64 0] rfl hr (by simp [Value.oneCell']) (by simp [maxLen]) (by omega) hW ?_; intro v2 W1 hw2 hg2 hv2; obtain ⟨A2, c2, rfl⟩ := own_form hw2; refine Shut.out ?_)
 refine shut_mkX ?_
 have H1 := h'.out.grown (v := .slice (some ⟨g 3, 0, none⟩) 1 1) hg2 3 (by decide) rfl
 have hB := (Below.refl B W).grown hg2 hW (fun k hk => by simp [Value.ownBlock] at hk; rw [← hk]; exact h'.out.lo 3 rfl)
 have q0 := H1.cell 0 rfl rfl rfl
 have f0 := (H1.blk 0 _ _ rfl rfl rfl).frozen
 have l0 := (H1.blk 0 _ _ rfl rfl rfl).lt
 have H := H1.set 0 4 (.slice A2 (1 + 1) c2) (by decide)
 replace hB := hB.setCell (p := ⟨g 0, 4, none⟩) (h'.out.lo 0 rfl) (.slice A2 (1 + 1) c2)
 have hw3 := own_only hw2 ((Only.refl [g 0] W1).setCell (p := ⟨g 0, 4, none⟩) (.inl (by simp)) (.slice A2 (1 + 1) c2)) (fun k hk hm => by
  rw [List.mem_singleton] at hm
  rcases hv2 with e | e
  ·rw [e] at hk
   simp [Value.ownBlock] at hk
   exact h'.out.ne 3 0 (by decide) (by decide) (by decide) (hk.trans hm)
  ·rw [e] at hk
   have := (h'.out.blk 0 _ _ rfl rfl rfl).lt
   simp at hk
   omega)
 replace H := Lib.hid H
 replace hB := Lib.hid hB
 replace hw3 := Lib.hid hw3
 clear H1 ho hr hw2 hg2 hv2
 go_wp2_with fail
 go_end0
 refine ⟨rfl, ?_⟩
 replace H := H.out
 replace hB := hB.out
 replace hw3 := hw3.out
 generalize World.setCell _ _ _ = W' at H hB hw3 ⊢
 simp only [bC, List.modify_cons, List.setIfInBounds_toArray, List.set_cons_zero, List.set_cons_succ] at H
 exact left_std H (H.blk 0 _ _ rfl rfl rfl) hB (h4 := fD_own (ds := [⟨⟨#[120]⟩, 2, 0⟩, ⟨⟨#[120]⟩, 2, 0⟩]) hw3 (by decide) (by decide) (by decide))
set_option maxRecDepth 100000 in
theorem chg25 (h : Bm B g (bC g) 99 W) (hW : B ≤ W.heap.size) : Calls Tryz.prog 51 #[.pointer (some ⟨g 0, 0, none⟩)] W fun r W' => r = .returned (.tuple #[]) ∧ Left_ B (g 0) W W' := by
 obtain ⟨i0, hi, hz0, hz1, hz2⟩ := info_parts infoStmt
 have q0 := h.cell 0 rfl rfl rfl
 have l0 := (h.blk 0 _ _ rfl rfl rfl).lt
 have ho := own_blk (n := 1) (cap := 1) (size := 6) (h.blk 18 _ _ rfl rfl rfl) (h.lo 18 rfl) (by decide) (by decide) rfl
 have hr := Reads.of_own ho
 have h' := Lib.hid h
 clear h
 go_enter Tryz.func51, Tryz.ntmps51
 go_wp2_with (at_builtin; refine wpList_append_any _ rfl (.tmp 2) (.tmp 4) 33 rfl B 40 i0 _ 6 104 Tryz.underlying33 hi hz0 hz1 hz2 rfl (by omega) (.slice (some ⟨g 18, 0, none⟩) 1 1) 1 [.int .u8 7, .string ⟨#[]⟩, .slice (some ⟨g 15, 0, none⟩) 1 1, .int .i64 2, .slice (some ⟨g 17, 0, none⟩) 1 1, .slice none 0 0] rfl ho _ (some ⟨g 18, 0, none⟩) 1 1 [.int .u8 7, .string ⟨#[]⟩, .slice (some ⟨g 15, 0, none⟩) 1 1, .int .i64 2, .slice (some ⟨g 17, 0, none⟩) 1 1, .slice none 0 0] rfl hr (by simp [Value.oneCell']) (by simp [maxLen]) (by omega) hW ?_; intro v2 W1 hw2 hg2 hv2; obtain ⟨A2, c2, rfl⟩ := own_form hw2; refine Shut.out ?_)
 refine shut_mkX ?_
 have H1 := h'.out.grown (v := .slice (some ⟨g 18, 0, none⟩) 1 1) hg2 18 (by decide) rfl
 have hB := (Below.refl B W).grown hg2 hW (fun k hk => by simp [Value.ownBlock] at hk; rw [← hk]; exact h'.out.lo 18 rfl)
 have q0 := H1.cell 0 rfl rfl rfl
 have f0 := (H1.blk 0 _ _ rfl rfl rfl).frozen
 have l0 := (H1.blk 0 _ _ rfl rfl rfl).lt
 have H := H1.set 0 15 (.slice A2 (1 + 1) c2) (by decide)
 replace hB := hB.setCell (p := ⟨g 0, 15, none⟩) (h'.out.lo 0 rfl) (.slice A2 (1 + 1) c2)
 have hw3 := own_only hw2 ((Only.refl [g 0] W1).setCell (p := ⟨g 0, 15, none⟩) (.inl (by simp)) (.slice A2 (1 + 1) c2)) (fun k hk hm => by
  rw [List.mem_singleton] at hm
  rcases hv2 with e | e
  ·rw [e] at hk
   simp [Value.ownBlock] at hk
   exact h'.out.ne 18 0 (by decide) (by decide) (by decide) (hk.trans hm)
  ·rw [e] at hk
   have := (h'.out.blk 0 _ _ rfl rfl rfl).lt
   simp at hk
   omega)
 replace H := Lib.hid H
 replace hB := Lib.hid hB
 replace hw3 := Lib.hid hw3
 clear H1 ho hr hw2 hg2 hv2
 go_wp2_with fail
 go_end0
 refine ⟨rfl, ?_⟩
 replace H := H.out
 replace hB := hB.out
 replace hw3 := hw3.out
 generalize World.setCell _ _ _ = W' at H hB hw3 ⊢
 simp only [bC, List.modify_cons, List.setIfInBounds_toArray, List.set_cons_zero, List.set_cons_succ] at H
 exact left_std H (H.blk 0 _ _ rfl rfl rfl) hB (h15 := fS_le (fS_two (m := 22) (n := 0) hw3 (by decide) (by decide) (fL_one (H.blk 15 _ _ rfl rfl rfl) (H.lo 15 rfl) (by simp [Hd.rng]) (by decide)) (fS_one (m := 0) (n := 0) (H.blk 17 _ _ rfl rfl rfl) (H.lo 17 rfl) (by decide) (by decide) (fL_one (H.blk 16 _ _ rfl rfl rfl) (H.lo 16 rfl) (by simp [Hd.rng]) (by decide)) fS_nil fS_nil) fS_nil) (by decide))
end
end Go.Proofs.YtnldbplphgfpeaaGreat
