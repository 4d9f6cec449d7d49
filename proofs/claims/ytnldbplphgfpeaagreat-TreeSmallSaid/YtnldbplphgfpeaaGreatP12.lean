/- Lemmas for salvor/salvorlaw29.TreeSmall (part 12); no condition. -/
import Derived.Deep.CutRange
import Derived.Test.YtnldbplphgfpeaaGreatP11
import Derived.Test.YtnldbplphgfpeaaGreatP08
import Derived.Test.YtnldbplphgfpeaaGreatP10
namespace Go.Proofs.YtnldbplphgfpeaaGreat
open Go Go.RowKit Go.Shelf
set_option linter.unusedVariables false
set_option linter.unusedSimpArgs false
set_option maxHeartbeats 4000000
theorem own_of_blk {W : World} {g e n base size : Nat} {cs : Array Value} (h : Blk W g e cs) (hb : base ≤ g) (hm : n ≤ maxLen) (hs : cs.size = n * size) : W.ownsRow base e size (.slice (some ⟨g, 0, none⟩) n n) n cs.toList :=
 ⟨by simpa using hs, .inr ⟨g, n, cs, rfl, hb, h, Nat.le_refl _, hm, hs, List.take_of_length_le (by rw [Array.length_toList, hs]; exact Nat.le_refl _)⟩⟩
theorem name_ok (s : ByteArray) (w : World) : Calls Tryz.prog 7 #[.string s] w fun e w' => e = .returned (.agg #[.int .u8 2, .int .u8 0, .int .u32 0, .int .i64 0, .string s, .slice none 0 0]) ∧ Below w.heap.size w w' := by
 have hB := (Below.refl w.heap.size w).alloc (Nat.le_refl _) (.cells #[.int .u8 2, .int .u8 0, .int .u32 0, .int .i64 0, .string s, .slice none 0 0] 30)
 have hb := Blk.new w 30 #[.int .u8 2, .int .u8 0, .int .u32 0, .int .i64 0, .string s, .slice none 0 0]
 go_enter Tryz.func7, Tryz.ntmps7
 go_wp2
 refine bodyPost_ret (results_cell_row rfl _ _ w.heap.size 30 _ (0, 0) _ rfl hb Tryz.underlying30 rfl (by kernel_rfl)) rfl ?_
 exact ⟨rfl, hB⟩
theorem num_ok (v wd : Int) (w : World) : Calls Tryz.prog 25 #[.int .u32 v, .int .i64 wd] w fun e w' => e = .returned (.agg #[.int .u8 1, .int .u8 0, .int .u32 v, .int .i64 wd, .string ⟨#[]⟩, .slice none 0 0]) ∧ Below w.heap.size w w' := by
 have hB := (Below.refl w.heap.size w).alloc (Nat.le_refl _) (.cells #[.int .u8 1, .int .u8 0, .int .u32 v, .int .i64 wd, .string ⟨#[]⟩, .slice none 0 0] 30)
 have hb := Blk.new w 30 #[.int .u8 1, .int .u8 0, .int .u32 v, .int .i64 wd, .string ⟨#[]⟩, .slice none 0 0]
 go_enter Tryz.func25, Tryz.ntmps25
 go_wp2
 refine bodyPost_ret (results_cell_row rfl _ _ w.heap.size 30 _ (0, 0) _ rfl hb Tryz.underlying30 rfl (by kernel_rfl)) rfl ?_
 exact ⟨rfl, hB⟩
set_option maxRecDepth 100000 in
theorem bin_ok (op : Int) (x0 x1 x2 x3 x4 x5 y0 y1 y2 y3 y4 y5 : Value) (hx : #[x0, x1, x2, x3, x4, x5].all (·.oneCell') = true) (hy : #[y0, y1, y2, y3, y4, y5].all (·.oneCell') = true) (w : World) :
  Calls Tryz.prog 8 #[.int .u8 op, .agg #[x0, x1, x2, x3, x4, x5], .agg #[y0, y1, y2, y3, y4, y5]] w fun e w' => ∃ g, e = .returned (.agg #[.int .u8 6, .int .u8 op, .int .u32 0, .int .i64 0, .string ⟨#[]⟩, .slice (some ⟨g, 0, none⟩) 2 2]) ∧
   Blk w' g 30 #[x0, x1, x2, x3, x4, x5, y0, y1, y2, y3, y4, y5] ∧ w.heap.size ≤ g ∧ Below w.heap.size w w' := by
 have hB0 := (((Below.refl w.heap.size w).alloc (Nat.le_refl _) (.cells #[x0, x1, x2, x3, x4, x5] 30)).alloc (by simp) (.cells #[y0, y1, y2, y3, y4, y5] 30)).alloc (by simp; omega) (.cells #[.int .u8 6, .int .u8 op, .int .u32 0, .int .i64 0, .string ⟨#[]⟩, .slice (some ⟨w.heap.size + 1 + 1 + 1, 0, none⟩) 2 2] 30)
 have hr := (Blk.new ((w.alloc (.cells #[x0, x1, x2, x3, x4, x5] 30)).alloc (.cells #[y0, y1, y2, y3, y4, y5] 30)) 30 #[.int .u8 6, .int .u8 op, .int .u32 0, .int .i64 0, .string ⟨#[]⟩, .slice (some ⟨w.heap.size + 1 + 1 + 1, 0, none⟩) 2 2]).alloc (.cells #[x0, x1, x2, x3, x4, x5, y0, y1, y2, y3, y4, y5] 30)
 have hg := Blk.new (((w.alloc (.cells #[x0, x1, x2, x3, x4, x5] 30)).alloc (.cells #[y0, y1, y2, y3, y4, y5] 30)).alloc (.cells #[.int .u8 6, .int .u8 op, .int .u32 0, .int .i64 0, .string ⟨#[]⟩, .slice (some ⟨w.heap.size + 1 + 1 + 1, 0, none⟩) 2 2] 30)) 30 #[x0, x1, x2, x3, x4, x5, y0, y1, y2, y3, y4, y5]
 have hB1 := hB0.alloc (by simp; omega) (.cells #[x0, x1, x2, x3, x4, x5, y0, y1, y2, y3, y4, y5] 30)
 simp only [World.size_alloc] at hr hg
 replace hr := Lib.hid hr
 replace hg := Lib.hid hg
 replace hB1 := Lib.hid hB1
 clear hB0
 go_enter Tryz.func8, Tryz.ntmps8
 go_wp2
 refine bodyPost_ret (results_cell_row rfl _ _ (w.heap.size + 1 + 1) 30 _ (0, 0) _ rfl hr.out Tryz.underlying30 rfl (by kernel_rfl)) rfl ?_
 exact ⟨_, rfl, hg.out, by omega, hB1.out⟩
end Go.Proofs.YtnldbplphgfpeaaGreat
namespace Go.Proofs.YtnldbplphgfpeaaGreat
open Go Go.RowKit Go.Shelf
set_option linter.unusedVariables false
set_option linter.unusedSimpArgs false
set_option maxHeartbeats 4000000
theorem own_mk {W : World} {g base : Nat} (hd : Hd) (Ls : List (Ex Loc)) {cells : Array Value} (hb : Blk W g 30 cells) (hc : cells = (cellsL eT Ls).toArray) (hg : base ≤ g) (hn : Ls.length ≤ 1000) (ho : owns eT W base Ls) : (Ex.mk hd ⟨some ⟨g, 0, none⟩, Ls.length⟩ Ls).own eT W base := by
 subst hc
 have := own_of_blk (n := Ls.length) (base := base) (size := 6) hb hg (by simp [maxLen]; omega) (by simp [cellsL_len])
 refine ⟨show W.ownsRow base 30 6 (.slice (some ⟨g, 0, none⟩) Ls.length Ls.length) Ls.length (cellsL eT Ls) from ?_, ho⟩
 simpa using this
def xX : Ex Loc := .mk ⟨2, 0, 0, 0, ⟨#[120]⟩⟩ ⟨none, 0⟩ []
def xM (v wd : Int) : Ex Loc := .mk ⟨1, 0, v, wd, ⟨#[]⟩⟩ ⟨none, 0⟩ []
def awA (g : Nat) : Ex Loc := .mk ⟨3, 0, 0, 0, ⟨#[97]⟩⟩ ⟨some ⟨g, 0, none⟩, 1⟩ [xM 1 2]
def awE (gA g1 : Nat) : Ex Loc := .mk ⟨6, 3, 0, 0, ⟨#[]⟩⟩ ⟨some ⟨g1, 0, none⟩, 2⟩ [xX, awA gA]
theorem aw_names (gA g1 : Nat) : namesE (awE gA g1) = [⟨#[120]⟩, ⟨#[97]⟩] := by
 simp [namesE, awE, awA, xX, xM, Ex.nodes, nodess, stepN, withL, hasL, bl_toList, Ex.h]
def awB (g2 : Nat) : Ex Loc := .mk ⟨6, 15, 0, 0, ⟨#[]⟩⟩ ⟨some ⟨g2, 0, none⟩, 2⟩ [xX, xM 3 4]
def awW (gC : Nat) : St Loc := .mk ⟨3, ⟨#[]⟩, 0⟩ ⟨some ⟨gC, 0, none⟩, 2⟩ ⟨none, 0⟩ ⟨none, 0⟩ [xM 0 1, xX] [] []
def awS (g2 gB gC gD : Nat) : St Loc := .mk ⟨7, ⟨#[]⟩, 2⟩ ⟨some ⟨gB, 0, none⟩, 1⟩ ⟨some ⟨gD, 0, none⟩, 1⟩ ⟨none, 0⟩ [awB g2] [awW gC] []
section
variable {W : World} {base : Nat}
theorem xX_own : xX.own eT W base := ⟨World.ownsRow_nil _ _ _ _, trivial⟩
theorem xM_own (v wd : Int) : (xM v wd).own eT W base := ⟨World.ownsRow_nil _ _ _ _, trivial⟩
theorem lex_lit {g : Nat} (Ls : List (Ex Loc)) {cells : Array Value} (hb : Blk W g 30 cells) (hc : cells = (cellsL eT Ls).toArray) (hg : base ≤ g) (hn : Ls.length ≤ 1000) (ho : owns eT W base Ls) : Lex.own eT W base ⟨some ⟨g, 0, none⟩, Ls.length⟩ Ls := own_mk ⟨0, 0, 0, 0, ⟨#[]⟩⟩ Ls hb hc hg hn ho
theorem lst_lit {g : Nat} (Ls : List (St Loc)) {cells : Array Value} (hb : Blk W g 40 cells) (hc : cells = (cellsS eT Ls).toArray) (hg : base ≤ g) (hn : Ls.length ≤ 1000) (ho : ownS eT W base Ls) : Lst.own eT W base ⟨some ⟨g, 0, none⟩, Ls.length⟩ Ls := by
 subst hc
 have := own_of_blk (n := Ls.length) (base := base) (size := 6) hb hg (by simp [maxLen]; omega) (by simp [cellsS_len])
 refine ⟨show W.ownsRow base 40 6 (.slice (some ⟨g, 0, none⟩) Ls.length Ls.length) Ls.length (cellsS eT Ls) from ?_, ho⟩
 simpa using this
end
set_option maxRecDepth 100000 in
theorem awake_ok (w : World) : Calls Tryz.prog 24 #[] w fun x w' => x = .returned (.bool true) ∧ Below w.heap.size w w' := by
 go_enter Tryz.func24, Tryz.ntmps24
 go_wp2_with fail
 refine (name_ok _ w).mono ?_
 rintro e W1 ⟨rfl, hB1⟩
 go_wp2_with fail
 refine (num_ok _ _ W1).mono ?_
 rintro e W2 ⟨rfl, hB2⟩
 replace hB2 := below_and hB1 hB2
 have hBx := (Below.refl _ W2).alloc (Nat.le_refl _) (.cells #[.int .u8 1, .int .u8 0, .int .u32 1, .int .i64 2, .string ⟨#[]⟩, .slice none 0 0] 30)
 have hbA := Blk.new W2 30 #[.int .u8 1, .int .u8 0, .int .u32 1, .int .i64 2, .string ⟨#[]⟩, .slice none 0 0]
 have hw2 := hB2.size
 have hA3 := lex_lit (base := w.heap.size) [xM 1 2] hbA rfl (by omega) (by simp) ⟨xM_own _ _, trivial⟩
 have hB3 := below_and hB2 hBx
 replace hB3 := Lib.hid hB3
 replace hA3 := Lib.hid hA3
 clear hB1 hbA hBx hB2
 go_wp2_with fail
 obtain ⟨gA, hgA⟩ : ∃ g, W2.heap.size = g := ⟨_, rfl⟩
 refine (bin_ok _ _ _ _ _ _ _ _ _ _ _ _ _ (by simp [Value.oneCell']) (by simp [Value.oneCell']) _).mono ?_
 rintro e W4 ⟨g1, rfl, hb1, hg1, hB4⟩
 have hs3 := hB3.out.size
 rw [hgA] at hb1 hA3 ⊢
 have hA4 := hA3.out.keep (only_of_below [] hB4) (by simp)
 have hE4 : (awE gA g1).own eT W4 w.heap.size := own_mk ⟨6, 3, 0, 0, ⟨#[]⟩⟩ [xX, awA gA] hb1 rfl (by omega) (by simp) ⟨xX_own, hA4, trivial⟩
 have hB04 := below_and hB3.out hB4
 have hBy := (Below.refl _ W4).alloc (Nat.le_refl _) (.cells #[.int .u8 6, .int .u8 3, .int .u32 0, .int .i64 0, .string ⟨#[]⟩, .slice (some ⟨g1, 0, none⟩) 2 2] 30)
 have hbe := Blk.new W4 30 #[.int .u8 6, .int .u8 3, .int .u32 0, .int .i64 0, .string ⟨#[]⟩, .slice (some ⟨g1, 0, none⟩) 2 2]
 have hE5 := hE4.keep (only_of_below [] hBy) (by simp)
 have hB05 := below_and hB04 hBy
 replace hE5 := Lib.hid hE5
 replace hB05 := Lib.hid hB05
 replace hgA := Lib.hid hgA
 clear hB3 hA3 hs3 hA4 hE4 hB04 hBy hb1 hg1 hB4 hw2
 go_upto_region 2 with (fail)
 generalize W4.alloc (.cells #[.int .u8 6, .int .u8 3, .int .u32 0, .int .i64 0, .string ⟨#[]⟩, .slice (some ⟨g1, 0, none⟩) 2 2] 30) = W5 at *
 obtain ⟨be, hbe'⟩ : ∃ g, W4.heap.size = g := ⟨_, rfl⟩
 rw [hbe'] at hbe ⊢
 replace hbe' := Lib.hid hbe'
 have c0 := hbe.cell 0
 have c1 := hbe.cell 1
 have c2 := hbe.cell 2
 have c3 := hbe.cell 3
 have c4 := hbe.cell 4
 have c5 := hbe.cell 5
 simp only [List.getElem?_toArray, List.getElem?_cons_zero, List.getElem?_cons_succ] at c0 c1 c2 c3 c4 c5
 have hbl := hbe.lt
 go_wp2_with fail
 refine (names_ok (awE gA g1) W5 hE5.out.ok (by simp [awE, awA, xX, xM, Ex.sz, szs])).mono ?_
 rintro e W6 ⟨⟨v, rfl, hv⟩, hB6⟩
 rw [aw_names] at hv
 obtain ⟨gl, lc, rfl, _, hgl⟩ := hv.form (by simp)
 replace hbe := hbe.below hB6 hbl
 have hE6 := hE5.out.keep (only_of_below [] hB6) (by simp)
 have hB06 := below_and hB05.out hB6
 replace hE6 := Lib.hid hE6
 replace hB06 := Lib.hid hB06
 have hv' := Lib.hid hv
 clear c0 c1 c2 c3 c4 c5 hbl hE5 hB05 hB6 hv
 go_wp2_with fail
 refine (name_ok _ W6).mono ?_
 rintro e W7 ⟨rfl, hB7⟩
 go_wp2_with fail
 refine (num_ok _ _ W7).mono ?_
 rintro e W8 ⟨rfl, hB8⟩
 replace hB8 := below_and hB7 hB8
 replace hB8 := Lib.hid hB8
 clear hB7
 go_wp2_with fail
 refine (bin_ok _ _ _ _ _ _ _ _ _ _ _ _ _ (by simp [Value.oneCell']) (by simp [Value.oneCell']) _).mono ?_
 rintro e W9 ⟨g2, rfl, hb2, hg2, hB9⟩
 have hw6 := hB06.out.size
 have hw8 := hB8.out.size
 have hw9 := hB9.size
 have hC9 : (awB g2).own eT W9 w.heap.size := own_mk ⟨6, 15, 0, 0, ⟨#[]⟩⟩ [xX, xM 3 4] hb2 rfl (by omega) (by simp) ⟨xX_own, xM_own _ _, trivial⟩
 have hBz := (Below.refl _ W9).alloc (Nat.le_refl _) (.cells #[.int .u8 6, .int .u8 15, .int .u32 0, .int .i64 0, .string ⟨#[]⟩, .slice (some ⟨g2, 0, none⟩) 2 2] 30)
 have hbz := Blk.new W9 30 #[.int .u8 6, .int .u8 15, .int .u32 0, .int .i64 0, .string ⟨#[]⟩, .slice (some ⟨g2, 0, none⟩) 2 2]
 have hD := lex_lit (base := w.heap.size) [awB g2] hbz rfl (by omega) (by simp) ⟨hC9.keep (only_of_below [] hBz) (by simp), trivial⟩
 have hB69 := below_and (below_and hB8.out hB9) hBz
 replace hD := Lib.hid hD
 replace hB69 := Lib.hid hB69
 clear hC9 hbz hBz hb2 hg2 hB8 hB9
 go_wp2_with fail
 refine (num_ok _ _ _).mono ?_
 rintro e W10 ⟨rfl, hB10⟩
 replace hB10 := Lib.hid hB10
 go_wp2_with fail
 refine (name_ok _ W10).mono ?_
 rintro e W11 ⟨rfl, hB11⟩
 obtain ⟨gB, hgB⟩ : ∃ g, W9.heap.size = g := ⟨_, rfl⟩
 rw [hgB] at hD ⊢
 have hB611 := below_and hB69.out (below_and hB10.out hB11)
 have hD11 := hD.out.keep (only_of_below [] (below_and hB10.out hB11)) (by simp)
 have hw11 := hB611.size
 have hBp := (Below.refl _ W11).alloc (Nat.le_refl _) (.cells #[.int .u8 1, .int .u8 0, .int .u32 0, .int .i64 1, .string ⟨#[]⟩, .slice none 0 0, .int .u8 2, .int .u8 0, .int .u32 0, .int .i64 0, .string ⟨#[120]⟩, .slice none 0 0] 30)
 have hbp := Blk.new W11 30 #[.int .u8 1, .int .u8 0, .int .u32 0, .int .i64 1, .string ⟨#[]⟩, .slice none 0 0, .int .u8 2, .int .u8 0, .int .u32 0, .int .i64 0, .string ⟨#[120]⟩, .slice none 0 0]
 have hX := lex_lit (base := w.heap.size) [xM 0 1, xX] hbp rfl (by omega) (by simp) ⟨xM_own _ _, xX_own, trivial⟩
 obtain ⟨gC, hgC⟩ : ∃ g, W11.heap.size = g := ⟨_, rfl⟩
 rw [hgC] at hX
 have hD12 := hD11.keep (only_of_below [] hBp) (by simp)
 have hs12 : (W11.alloc (.cells #[.int .u8 1, .int .u8 0, .int .u32 0, .int .i64 1, .string ⟨#[]⟩, .slice none 0 0, .int .u8 2, .int .u8 0, .int .u32 0, .int .i64 0, .string ⟨#[120]⟩, .slice none 0 0] 30)).heap.size = W11.heap.size + 1 := by simp
 have hB612 := below_and hB611 hBp
 replace hgC := Lib.hid hgC
 replace hgB := Lib.hid hgB
 replace hX := Lib.hid hX
 replace hD12 := Lib.hid hD12
 replace hB612 := Lib.hid hB612
 clear hB10 hB11 hD hB69 hB611 hD11 hBp hbp hw8 hw9
 obtain ⟨W12, hW12⟩ : ∃ W, W = W11.alloc (.cells #[.int .u8 1, .int .u8 0, .int .u32 0, .int .i64 1, .string ⟨#[]⟩, .slice none 0 0, .int .u8 2, .int .u8 0, .int .u32 0, .int .i64 0, .string ⟨#[120]⟩, .slice none 0 0] 30) := ⟨_, rfl⟩
 rw [← hW12] at hX hD12 hB612 hs12
 have hBq := (Below.refl _ W12).alloc (Nat.le_refl _) (.cells #[.int .u8 3, .string ⟨#[]⟩, .slice (some ⟨gC, 0, none⟩) 2 2, .int .i64 0, .slice none 0 0, .slice none 0 0] 40)
 have hbq := Blk.new W12 40 #[.int .u8 3, .string ⟨#[]⟩, .slice (some ⟨gC, 0, none⟩) 2 2, .int .i64 0, .slice none 0 0, .slice none 0 0]
 have hY := lst_lit (base := w.heap.size) [awW gC] hbq rfl (by omega) (by simp) ⟨⟨hX.out.keep (only_of_below [] hBq) (by simp), ⟨World.ownsRow_nil _ _ _ _, trivial⟩, ⟨World.ownsRow_nil _ _ _ _, trivial⟩⟩, trivial⟩
 obtain ⟨gD, hgD⟩ : ∃ g, W12.heap.size = g := ⟨_, rfl⟩
 rw [hgD] at hY
 have hD13 := hD12.out.keep (only_of_below [] hBq) (by simp)
 have hB613 := below_and hB612.out hBq
 have hs13 : (W12.alloc (.cells #[.int .u8 3, .string ⟨#[]⟩, .slice (some ⟨gC, 0, none⟩) 2 2, .int .i64 0, .slice none 0 0, .slice none 0 0] 40)).heap.size = W12.heap.size + 1 := by simp
 obtain ⟨W13, hW13⟩ : ∃ W, W = W12.alloc (.cells #[.int .u8 3, .string ⟨#[]⟩, .slice (some ⟨gC, 0, none⟩) 2 2, .int .i64 0, .slice none 0 0, .slice none 0 0] 40) := ⟨_, rfl⟩
 rw [← hW13] at hY hD13 hB613 hs13
 have hBr := (Below.refl _ W13).alloc (Nat.le_refl _) (.cells #[.int .u8 7, .string ⟨#[]⟩, .slice (some ⟨gB, 0, none⟩) 1 1, .int .i64 2, .slice (some ⟨gD, 0, none⟩) 1 1, .slice none 0 0] 40)
 have hbr := Blk.new W13 40 #[.int .u8 7, .string ⟨#[]⟩, .slice (some ⟨gB, 0, none⟩) 1 1, .int .i64 2, .slice (some ⟨gD, 0, none⟩) 1 1, .slice none 0 0]
 have hZ := lst_lit (base := w.heap.size) [awS g2 gB gC gD] hbr rfl (by omega) (by simp) ⟨⟨hD13.keep (only_of_below [] hBr) (by simp), hY.keep (only_of_below [] hBr) (by simp), ⟨World.ownsRow_nil _ _ _ _, trivial⟩⟩, trivial⟩
 obtain ⟨gE, hgE⟩ : ∃ g, W13.heap.size = g := ⟨_, rfl⟩
 rw [hgE] at hZ
 have hB614 := below_and hB613 hBr
 have hE14 := hE6.out.keep (only_of_below [] hB614) (by simp)
 have hbe14 := hbe.below hB614 hbe.lt
 have hv14 := own_only hv'.out (only_of_below [] hB614) (by simp)
 have hB014 := below_and hB06.out hB614
 have hl0 := hgC.out
 have e1 : W11.heap.size = gC := hl0
 rw [e1] at hs12
 have e2 : gC + 1 = gD := by omega
 have e3 : gD + 1 = gE := by omega
 replace hE14 := Lib.hid hE14
 replace hB014 := Lib.hid hB014
 replace hZ := Lib.hid hZ
 subst e3
 subst e2
 clear hB614 hB613 hD13 hD12 hX hY hBr hbr hBq hbq hB612 hgE hs13 hgD hs12 hbe hE6 hB06 hv'
 go_upto_region 4 with (fail)
 try rw [hgC.out]
 subst hW13
 subst hW12
 generalize ((W11.alloc (.cells #[.int .u8 1, .int .u8 0, .int .u32 0, .int .i64 1, .string ⟨#[]⟩, .slice none 0 0, .int .u8 2, .int .u8 0, .int .u32 0, .int .i64 0, .string ⟨#[120]⟩, .slice none 0 0] 30)).alloc (.cells #[.int .u8 3, .string ⟨#[]⟩, .slice (some ⟨gC, 0, none⟩) 2 2, .int .i64 0, .slice none 0 0, .slice none 0 0] 40)).alloc (.cells #[.int .u8 7, .string ⟨#[]⟩, .slice (some ⟨gB, 0, none⟩) 1 1, .int .i64 2, .slice (some ⟨gC + 1, 0, none⟩) 1 1, .slice none 0 0] 40) = W14 at *
 have c0 := hbe14.cell 0
 have c1 := hbe14.cell 1
 have c2 := hbe14.cell 2
 have c3 := hbe14.cell 3
 have c4 := hbe14.cell 4
 have c5 := hbe14.cell 5
 simp only [List.getElem?_toArray, List.getElem?_cons_zero, List.getElem?_cons_succ] at c0 c1 c2 c3 c4 c5
 have hbl := hbe14.lt
 go_wp2_with fail
 refine (sizeE (awE gA g1) W14 hE14.out.ok 4 (by simp [awE, awA, xX, xM, Ex.sz, szs])).mono ?_
 rintro e W15 ⟨rfl, hB15⟩
 have hv15 := own_only hv14 (only_of_below [] hB15) (by simp)
 have s0 := hv15.cells (g := gl) rfl 0 _ rfl
 have s1 := hv15.cells (g := gl) rfl 1 _ rfl
 rw [Addr.add_lit] at s0 s1
 have hgl15 := cell_lt s0
 simp only [Nat.zero_add] at s0 s1
 dsimp only at hgl15
 have hZ15 := hZ.out.keep (only_of_below [] hB15) (by simp)
 have hB015 := below_and hB014.out hB15
 replace hZ15 := Lib.hid hZ15
 replace hB015 := Lib.hid hB015
 clear c0 c1 c2 c3 c4 c5 hbl hB15 hv15 hE14 hB014 hZ hv14 hbe14
 go_wp2_with fail
 refine (sizeS [awS g2 gB gC (gC + 1)] ⟨some ⟨gC + 1 + 1, 0, none⟩, 1⟩ (thin_of (by simp [awS, awB, awW, xX, xM, St.sz, szS, Ex.sz, szs])) W15 hZ15.out.ok 7 (by simp [awS, awB, awW, xX, xM, St.sz, szS, Ex.sz, szs])).mono ?_
 rintro e W16 ⟨rfl, hB16⟩
 have hZ16 := hZ15.out.keep (only_of_below [] hB16) (by simp)
 have hB016 := below_and hB015.out hB16
 replace hZ16 := Lib.hid hZ16
 replace hB016 := Lib.hid hB016
 clear hZ15 hB015 hB16 s0 s1
 go_wp2_with fail
 refine (depth_yes [awS g2 gB gC (gC + 1)] ⟨some ⟨gC + 1 + 1, 0, none⟩, 1⟩ W16 hZ16.out.ok (by simp [awS, awB, awW, xX, xM, St.sz, szS, Ex.sz, szs])).mono ?_
 rintro e W17 ⟨rfl, hB17⟩
 have hdp : dpS [awS g2 gB gC (gC + 1)] = 2 := by simp [awS, awW, dpS, St.dp]
 rw [hdp]
 have hB017 := below_and hB016.out hB17
 replace hB017 := Lib.hid hB017
 go_wp2_with fail
 go_ret
 exact ⟨rfl, hB017.out⟩
end Go.Proofs.YtnldbplphgfpeaaGreat
namespace Go.Proofs.YtnldbplphgfpeaaGreat
open Go Go.RowKit Go.Shelf
set_option linter.unusedVariables false
set_option linter.unusedSimpArgs false
section
variable {α β : Type}
mutual
def Ex.wt : Ex α → Nat
 | .mk h _ s => 1 + h.nm.size + wtX s
def wtX : List (Ex α) → Nat
 | [] => 0
 | x :: r => x.wt + wtX r
end
mutual
def St.wt : St α → Nat
 | .mk h _ _ _ ex th el => 1 + h.nm.size + wtX ex + wtL th + wtL el
def wtL : List (St α) → Nat
 | [] => 0
 | x :: r => x.wt + wtL r
end
theorem wtX_append : ∀ (a b : List (Ex α)), wtX (a ++ b) = wtX a + wtX b
 | [], b => by simp [wtX]
 | x :: a, b => by simp only [List.cons_append, wtX, wtX_append a b]; omega
theorem wtL_append : ∀ (a b : List (St α)), wtL (a ++ b) = wtL a + wtL b
 | [], b => by simp [wtL]
 | x :: a, b => by simp only [List.cons_append, wtL, wtL_append a b]; omega
theorem wtX_take {l : List (Ex α)} {k : Nat} {x : Ex α} (hx : l[k]? = some x) : wtX (l.take (k + 1)) = wtX (l.take k) + x.wt := by
 obtain ⟨q1, q2⟩ := List.getElem?_eq_some_iff.1 hx
 rw [List.take_succ_eq_append_getElem q1, q2, wtX_append]
 simp [wtX]
theorem wtL_take {l : List (St α)} {k : Nat} {x : St α} (hx : l[k]? = some x) : wtL (l.take (k + 1)) = wtL (l.take k) + x.wt := by
 obtain ⟨q1, q2⟩ := List.getElem?_eq_some_iff.1 hx
 rw [List.take_succ_eq_append_getElem q1, q2, wtL_append]
 simp [wtL]
theorem wtX_take_le (l : List (Ex α)) (k : Nat) : wtX (l.take k) ≤ wtX l := by
 have h := wtX_append (l.take k) (l.drop k)
 rw [List.take_append_drop] at h
 omega
theorem wtL_take_le (l : List (St α)) (k : Nat) : wtL (l.take k) ≤ wtL l := by
 have h := wtL_append (l.take k) (l.drop k)
 rw [List.take_append_drop] at h
 omega
mutual
theorem Ex.sz_wt : ∀ e : Ex α, e.sz ≤ e.wt
 | .mk _ _ s => by simp only [Ex.sz, Ex.wt]; have := szs_wt s; omega
theorem szs_wt : ∀ l : List (Ex α), szs l ≤ wtX l
 | [] => Nat.le_refl _
 | x :: r => by simp only [szs, wtX]; have := x.sz_wt; have := szs_wt r; omega
end
mutual
theorem St.sz_wt : ∀ e : St α, e.sz ≤ e.wt
 | .mk _ _ _ _ ex th el => by simp only [St.sz, St.wt]; have := szs_wt ex; have := szS_wt th; have := szS_wt el; omega
theorem szS_wt : ∀ l : List (St α), szS l ≤ wtL l
 | [] => Nat.le_refl _
 | x :: r => by simp only [szS, wtL]; have := x.sz_wt; have := szS_wt r; omega
end
mutual
theorem Ex.wt_plain : ∀ e : Ex α, e.plain.wt = e.wt
 | .mk _ _ s => by simp only [Ex.plain, Ex.wt, wtX_plain s]
theorem wtX_plain : ∀ l : List (Ex α), wtX (plains l) = wtX l
 | [] => rfl
 | x :: r => by simp only [plains, wtX, x.wt_plain, wtX_plain r]
end
mutual
theorem St.wt_plain : ∀ e : St α, e.plain.wt = e.wt
 | .mk _ _ _ _ ex th el => by simp only [St.plain, St.wt, wtX_plain ex, wtL_plain th, wtL_plain el]
theorem wtL_plain : ∀ l : List (St α), wtL (plainS l) = wtL l
 | [] => rfl
 | x :: r => by simp only [plainS, wtL, x.wt_plain, wtL_plain r]
end
mutual
def Ex.all (P : Hd → Prop) : Ex α → Prop
 | .mk h _ s => P h ∧ allX P s
def allX (P : Hd → Prop) : List (Ex α) → Prop
 | [] => True
 | x :: r => x.all P ∧ allX P r
end
mutual
def St.all (P : Hd → Prop) (Q : SHd → Prop) : St α → Prop
 | .mk h _ _ _ ex th el => Q h ∧ allX P ex ∧ allL P Q th ∧ allL P Q el
def allL (P : Hd → Prop) (Q : SHd → Prop) : List (St α) → Prop
 | [] => True
 | x :: r => x.all P Q ∧ allL P Q r
end
theorem allX_iff {P : Hd → Prop} : ∀ {l : List (Ex α)}, allX P l ↔ ∀ x ∈ l, x.all P
 | [] => by simp [allX]
 | x :: r => by simp [allX, allX_iff (l := r)]
theorem allL_iff {P : Hd → Prop} {Q : SHd → Prop} : ∀ {l : List (St α)}, allL P Q l ↔ ∀ x ∈ l, x.all P Q
 | [] => by simp [allL]
 | x :: r => by simp [allL, allL_iff (l := r)]
mutual
theorem Ex.all_plain {P : Hd → Prop} : ∀ e : Ex α, e.plain.all P ↔ e.all P
 | .mk _ _ s => by simp only [Ex.plain, Ex.all, allX_plain s]
theorem allX_plain {P : Hd → Prop} : ∀ l : List (Ex α), allX P (plains l) ↔ allX P l
 | [] => Iff.rfl
 | x :: r => by simp only [plains, allX, x.all_plain, allX_plain r]
end
mutual
theorem St.all_plain {P : Hd → Prop} {Q : SHd → Prop} : ∀ e : St α, e.plain.all P Q ↔ e.all P Q
 | .mk _ _ _ _ ex th el => by simp only [St.plain, St.all, allX_plain ex, allL_plain th, allL_plain el]
theorem allL_plain {P : Hd → Prop} {Q : SHd → Prop} : ∀ l : List (St α), allL P Q (plainS l) ↔ allL P Q l
 | [] => Iff.rfl
 | x :: r => by simp only [plainS, allL, x.all_plain, allL_plain r]
end
def Hd.short (M : Nat) (h : Hd) : Prop := h.nm.size ≤ M
def SHd.short (M : Nat) (h : SHd) : Prop := h.nm.size ≤ M
def Hd.rng (h : Hd) : Prop := (0 ≤ h.kd ∧ h.kd < 256) ∧ (0 ≤ h.op ∧ h.op < 256) ∧ (0 ≤ h.va ∧ h.va < 4294967296)
def SHd.rng (h : SHd) : Prop := 0 ≤ h.kd ∧ h.kd < 256
mutual
theorem Ex.short_wt {M : Nat} : ∀ {e : Ex α}, e.wt ≤ M → e.all (Hd.short M)
 | .mk h _ s, hh => by simp only [Ex.wt] at hh; exact ⟨(by unfold Hd.short; omega), allX_wt (by omega)⟩
theorem allX_wt {M : Nat} : ∀ {l : List (Ex α)}, wtX l ≤ M → allX (Hd.short M) l
 | [], _ => trivial
 | x :: r, h => by simp only [wtX] at h; exact ⟨Ex.short_wt (by omega), allX_wt (by omega)⟩
end
mutual
theorem St.short_wt {M : Nat} : ∀ {e : St α}, e.wt ≤ M → e.all (Hd.short M) (SHd.short M)
 | .mk h _ _ _ ex th el, hh => by simp only [St.wt] at hh; exact ⟨(by unfold SHd.short; omega), allX_wt (by omega), allL_wt (by omega), allL_wt (by omega)⟩
theorem allL_wt {M : Nat} : ∀ {l : List (St α)}, wtL l ≤ M → allL (Hd.short M) (SHd.short M) l
 | [], _ => trivial
 | x :: r, h => by simp only [wtL] at h; exact ⟨St.short_wt (by omega), allL_wt (by omega)⟩
end
def wtD : List Dc → Nat
 | [] => 0
 | x :: r => 1 + x.nm.size + wtD r
def wtN : List Dc → Nat
 | [] => 0
 | x :: r => x.nm.size + wtN r
def wtI : List (In α) → Nat
 | [] => 0
 | x :: r => x.val.wt + wtI r
def wtPr : List (Pr α) → Nat
 | [] => 0
 | x :: r => x.nm.size + x.ps.length + wtL x.body + wtN x.ps + wtPr r
def Pg.wt (p : Pg α) : Nat := p.req.wt + p.inv.wt + p.procs.length + p.inits.length + wtD p.ins + wtD p.gh + wtD p.va + wtD p.ar + wtI p.inits + wtPr p.procs + wtL p.work + wtL p.recov
theorem wtD_append : ∀ (a b : List Dc), wtD (a ++ b) = wtD a + wtD b
 | [], b => by simp [wtD]
 | x :: a, b => by simp only [List.cons_append, wtD, wtD_append a b]; omega
theorem wtN_append : ∀ (a b : List Dc), wtN (a ++ b) = wtN a + wtN b
 | [], b => by simp [wtN]
 | x :: a, b => by simp only [List.cons_append, wtN, wtN_append a b]; omega
theorem wtI_append : ∀ (a b : List (In α)), wtI (a ++ b) = wtI a + wtI b
 | [], b => by simp [wtI]
 | x :: a, b => by simp only [List.cons_append, wtI, wtI_append a b]; omega
theorem wtPr_append : ∀ (a b : List (Pr α)), wtPr (a ++ b) = wtPr a + wtPr b
 | [], b => by simp [wtPr]
 | x :: a, b => by simp only [List.cons_append, wtPr, wtPr_append a b]; omega
theorem wtD_take {l : List Dc} {k : Nat} {x : Dc} (hx : l[k]? = some x) : wtD (l.take (k + 1)) = wtD (l.take k) + (1 + x.nm.size) := by
 obtain ⟨q1, q2⟩ := List.getElem?_eq_some_iff.1 hx
 rw [List.take_succ_eq_append_getElem q1, q2, wtD_append]
 simp [wtD]
theorem wtN_take {l : List Dc} {k : Nat} {x : Dc} (hx : l[k]? = some x) : wtN (l.take (k + 1)) = wtN (l.take k) + x.nm.size := by
 obtain ⟨q1, q2⟩ := List.getElem?_eq_some_iff.1 hx
 rw [List.take_succ_eq_append_getElem q1, q2, wtN_append]
 simp [wtN]
theorem wtI_take {l : List (In α)} {k : Nat} {x : In α} (hx : l[k]? = some x) : wtI (l.take (k + 1)) = wtI (l.take k) + x.val.wt := by
 obtain ⟨q1, q2⟩ := List.getElem?_eq_some_iff.1 hx
 rw [List.take_succ_eq_append_getElem q1, q2, wtI_append]
 simp [wtI]
theorem wtPr_take {l : List (Pr α)} {k : Nat} {x : Pr α} (hx : l[k]? = some x) : wtPr (l.take (k + 1)) = wtPr (l.take k) + (x.nm.size + x.ps.length + wtL x.body + wtN x.ps) := by
 obtain ⟨q1, q2⟩ := List.getElem?_eq_some_iff.1 hx
 rw [List.take_succ_eq_append_getElem q1, q2, wtPr_append]
 simp [wtPr]
theorem wtD_len : ∀ l : List Dc, l.length ≤ wtD l
 | [] => Nat.le_refl _
 | x :: r => by have := wtD_len r; simp only [List.length_cons, wtD]; omega
theorem wtD_take_le (l : List Dc) (k : Nat) : wtD (l.take k) ≤ wtD l := by
 have h := wtD_append (l.take k) (l.drop k)
 rw [List.take_append_drop] at h
 omega
theorem wtI_take_le (l : List (In α)) (k : Nat) : wtI (l.take k) ≤ wtI l := by
 have h := wtI_append (l.take k) (l.drop k)
 rw [List.take_append_drop] at h
 omega
theorem wtPr_take_le (l : List (Pr α)) (k : Nat) : wtPr (l.take k) ≤ wtPr l := by
 have h := wtPr_append (l.take k) (l.drop k)
 rw [List.take_append_drop] at h
 omega
theorem szI_wt : ∀ l : List (In α), szI l ≤ l.length + wtI l
 | [] => Nat.le_refl _
 | x :: r => by
  have h1 := szI_wt r
  have h2 := x.val.sz_wt
  simp only [szI, List.map_cons, List.sum_cons, List.length_cons, wtI] at h1 ⊢
  omega
theorem szPr_wt : ∀ l : List (Pr α), szPr l ≤ l.length + wtPr l
 | [] => Nat.le_refl _
 | x :: r => by
  have h1 := szPr_wt r
  have h2 := szS_wt x.body
  simp only [szPr, List.map_cons, List.sum_cons, List.length_cons, wtPr] at h1 ⊢
  omega
theorem Pg.sz_wt (p : Pg α) : p.sz ≤ p.wt + 1 := by
 have h1 := szI_wt p.inits
 have h2 := szPr_wt p.procs
 have h3 := szS_wt p.work
 have h4 := szS_wt p.recov
 have h5 := p.req.sz_wt
 have h6 := p.inv.sz_wt
 have h7 := wtD_len p.ins
 have h8 := wtD_len p.gh
 have h9 := wtD_len p.va
 have h10 := wtD_len p.ar
 unfold Pg.sz Pg.wt
 omega
theorem wtI_plain : ∀ l : List (In α), wtI (l.map In.plain) = wtI l
 | [] => rfl
 | x :: r => by simp only [List.map_cons, wtI, In.plain, Ex.wt_plain, wtI_plain r]
theorem wtPr_plain : ∀ l : List (Pr α), wtPr (l.map Pr.plain) = wtPr l
 | [] => rfl
 | x :: r => by simp only [List.map_cons, wtPr, Pr.plain, wtL_plain, wtPr_plain r]
theorem Pg.wt_plain (p : Pg α) : p.plain.wt = p.wt := by
 simp only [Pg.wt, Pg.plain, wtI_plain, wtPr_plain, wtL_plain, Ex.wt_plain, List.length_map]
structure Pg.fit (M : Nat) (p : Pg α) : Prop where
 ins : ∀ d ∈ p.ins, d.nm.size ≤ M
 gh : ∀ d ∈ p.gh, d.nm.size ≤ M
 va : ∀ d ∈ p.va, d.nm.size ≤ M
 ar : ∀ d ∈ p.ar, d.nm.size ≤ M
 req : p.req.all (Hd.short M)
 inits : p.inits.length ≤ M ∧ ∀ d ∈ p.inits, d.val.all (Hd.short M)
 procs : p.procs.length ≤ M ∧ ∀ x ∈ p.procs, x.nm.size ≤ M ∧ (∀ d ∈ x.ps, d.nm.size ≤ M) ∧ x.ps.length ≤ M ∧ allL (Hd.short M) (SHd.short M) x.body
 work : allL (Hd.short M) (SHd.short M) p.work
 recov : allL (Hd.short M) (SHd.short M) p.recov
 inv : p.inv.all (Hd.short M)
structure Pg.rng (p : Pg α) : Prop where
 req : p.req.all Hd.rng
 inits : ∀ d ∈ p.inits, d.val.all Hd.rng
 procs : ∀ x ∈ p.procs, allL Hd.rng SHd.rng x.body
 work : allL Hd.rng SHd.rng p.work
 recov : allL Hd.rng SHd.rng p.recov
 inv : p.inv.all Hd.rng
theorem Pg.rng_plain {p : Pg α} : p.plain.rng ↔ p.rng := by
 constructor
 ·intro h
  exact ⟨(Ex.all_plain _).1 h.req, fun d hd => (Ex.all_plain _).1 (h.inits d.plain (List.mem_map_of_mem hd)), fun d hd => (allL_plain _).1 (h.procs d.plain (List.mem_map_of_mem hd)), (allL_plain _).1 h.work, (allL_plain _).1 h.recov, (Ex.all_plain _).1 h.inv⟩
 ·intro h
  refine ⟨(Ex.all_plain _).2 h.req, fun d hd => ?_, fun d hd => ?_, (allL_plain _).2 h.work, (allL_plain _).2 h.recov, (Ex.all_plain _).2 h.inv⟩
  ·obtain ⟨y, hy, rfl⟩ := List.mem_map.1 hd
   exact (Ex.all_plain _).2 (h.inits y hy)
  ·obtain ⟨y, hy, rfl⟩ := List.mem_map.1 hd
   exact (allL_plain _).2 (h.procs y hy)
theorem wtD_mem {l : List Dc} {x : Dc} (h : x ∈ l) : x.nm.size ≤ wtD l := by
 induction l with
 | nil => cases h
 | cons y r ih =>
  simp only [wtD]
  rcases List.mem_cons.1 h with e | h
  ·rw [e]; omega
  ·have := ih h; omega
theorem wtN_mem {l : List Dc} {x : Dc} (h : x ∈ l) : x.nm.size ≤ wtN l := by
 induction l with
 | nil => cases h
 | cons y r ih =>
  simp only [wtN]
  rcases List.mem_cons.1 h with e | h
  ·rw [e]; omega
  ·have := ih h; omega
theorem wtI_mem {l : List (In α)} {x : In α} (h : x ∈ l) : x.val.wt ≤ wtI l := by
 induction l with
 | nil => cases h
 | cons y r ih =>
  simp only [wtI]
  rcases List.mem_cons.1 h with e | h
  ·rw [e]; omega
  ·have := ih h; omega
theorem wtPr_mem {l : List (Pr α)} {x : Pr α} (h : x ∈ l) : x.nm.size + x.ps.length + wtL x.body + wtN x.ps ≤ wtPr l := by
 induction l with
 | nil => cases h
 | cons y r ih =>
  simp only [wtPr]
  rcases List.mem_cons.1 h with e | h
  ·rw [e]; omega
  ·have := ih h; omega
theorem Pg.fit_wt {p : Pg α} {M : Nat} (h : p.wt ≤ M) : p.fit M := by
 unfold Pg.wt at h
 exact ⟨fun d hd => by have := wtD_mem hd; omega, fun d hd => by have := wtD_mem hd; omega, fun d hd => by have := wtD_mem hd; omega, fun d hd => by have := wtD_mem hd; omega, Ex.short_wt (by omega),
  ⟨by omega, fun d hd => Ex.short_wt (by have := wtI_mem hd; omega)⟩, ⟨by omega, fun x hx => by
   have h1 := wtPr_mem hx
   exact ⟨by omega, fun d hd => by have := wtN_mem hd; omega, by omega, allL_wt (by omega)⟩⟩, allL_wt (by omega), allL_wt (by omega), Ex.short_wt (by omega)⟩
end
end Go.Proofs.YtnldbplphgfpeaaGreat
namespace Go.Proofs.YtnldbplphgfpeaaGreat
open Go Go.RowKit Go.Shelf
set_option linter.unusedVariables false
set_option linter.unusedSimpArgs false
section
variable {W : World} {B : Nat}
def fD (B : Nat) (v : Value) (W : World) : Prop := ∃ (l : Loc) (ds : List Dc), v = .slice l.A ds.length l.c ∧ Ldc.own W B l ds ∧ wtD ds ≤ 20 ∧ wtN ds ≤ 20 ∧ ds.length ≤ 9
def fX (B : Nat) (cs : List Value) (W : World) : Prop := ∃ e : Ex Loc, cs = e.cells eT ∧ e.own eT W B ∧ e.all Hd.rng ∧ e.wt ≤ 20
def fL (B : Nat) (v : Value) (W : World) : Prop := ∃ (l : Loc) (es : List (Ex Loc)), v = .slice l.A es.length l.c ∧ Lex.own eT W B l es ∧ allX Hd.rng es ∧ wtX es ≤ 20
def fS (B m : Nat) (v : Value) (W : World) : Prop := ∃ (l : Loc) (ss : List (St Loc)), v = .slice l.A ss.length l.c ∧ Lst.own eT W B l ss ∧ allL Hd.rng SHd.rng ss ∧ wtL ss ≤ m
def fI (B : Nat) (v : Value) (W : World) : Prop := ∃ (l : Loc) (is : List (In Loc)), v = .slice l.A is.length l.c ∧ Lin.own W B l is ∧ (∀ d ∈ is, d.val.all Hd.rng) ∧ wtI is ≤ 20 ∧ is.length ≤ 9
def fP (B : Nat) (v : Value) (W : World) : Prop := ∃ (l : Loc) (ps : List (Pr Loc)), v = .slice l.A ps.length l.c ∧ Lpr.own W B l ps ∧ (∀ x ∈ ps, allL Hd.rng SHd.rng x.body) ∧ wtPr ps ≤ 100 ∧ ps.length ≤ 9
def GoodP (B : Nat) (p : Pg Loc) (W : World) : Prop := p.own W B ∧ p.rng ∧ p.wt ≤ 500
theorem good_mk {bl wd : Int} {v2 v3 v4 v5 v12 v13 v14 v15 : Value} {xs ys : List Value} (h2 : fD B v2 W) (h3 : fD B v3 W) (h4 : fD B v4 W) (h5 : fD B v5 W) (hx : fX B xs W) (h12 : fI B v12 W) (h13 : fP B v13 W) {m n : Nat} (h14 : fS B m v14 W) (h15 : fS B n v15 W) (hy : fX B ys W) (hmn : m + n ≤ 200) :
  ∃ p : Pg Loc, .int .i64 bl :: .int .i64 wd :: v2 :: v3 :: v4 :: v5 :: (xs ++ (v12 :: v13 :: v14 :: v15 :: ys)) = p.cells eT ∧ GoodP B p W := by
 obtain ⟨l2, d2, rfl, o2, a2, _, _⟩ := h2
 obtain ⟨l3, d3, rfl, o3, a3, _, _⟩ := h3
 obtain ⟨l4, d4, rfl, o4, a4, _, _⟩ := h4
 obtain ⟨l5, d5, rfl, o5, a5, _, _⟩ := h5
 obtain ⟨x, rfl, ox, rx, wx⟩ := hx
 obtain ⟨l12, i12, rfl, o12, r12, w12, n12⟩ := h12
 obtain ⟨l13, p13, rfl, o13, r13, w13, n13⟩ := h13
 obtain ⟨l14, s14, rfl, o14, r14, w14⟩ := h14
 obtain ⟨l15, s15, rfl, o15, r15, w15⟩ := h15
 obtain ⟨y, rfl, oy, ry, wy⟩ := hy
 exact ⟨⟨bl, wd, l2, d2, l3, d3, l4, d4, l5, d5, x, l12, i12, l13, p13, l14, s14, l15, s15, y⟩, rfl, ⟨o2, o3, o4, o5, ox, o12, o13, o14, o15, oy⟩, ⟨rx, r12, r13, r14, r15, ry⟩, by simp only [Pg.wt]; omega⟩
theorem own_blk {g e n cap size : Nat} {cs : Array Value} (h : Blk W g e cs) (hb : B ≤ g) (hn : n ≤ cap) (hm : cap ≤ 9) (hs : cs.size = cap * size) : W.ownsRow B e size (.slice (some ⟨g, 0, none⟩) n cap) n (cs.toList.take (n * size)) :=
 ⟨by rw [List.length_take, Array.length_toList, hs]; exact Nat.min_eq_left (Nat.mul_le_mul_right _ hn), .inr ⟨g, cap, cs, rfl, hb, h, hn, by simp [maxLen]; omega, hs, rfl⟩⟩
theorem fD_nil : fD B (.slice none 0 0) W := ⟨⟨none, 0⟩, [], rfl, World.ownsRow_nil _ _ _ _, by simp [wtD], by simp [wtN], by simp⟩
theorem fD_own {v : Value} {ds : List Dc} (h : W.ownsRow B 60 3 v ds.length (cellsD ds)) (h1 : wtD ds ≤ 20) (h2 : wtN ds ≤ 20) (h3 : ds.length ≤ 9) : fD B v W := by
 obtain ⟨A, c, rfl⟩ := own_form h
 exact ⟨⟨A, c⟩, ds, rfl, h, h1, h2, h3⟩
theorem fD_one {g : Nat} {n : ByteArray} {wd sz : Int} (h : Blk W g 60 #[.string n, .int .i64 wd, .int .i64 sz]) (hb : B ≤ g) (hn : n.size ≤ 1) : fD B (.slice (some ⟨g, 0, none⟩) 1 1) W :=
 fD_own (ds := [⟨n, wd, sz⟩]) (own_blk (n := 1) (cap := 1) h hb (by decide) (by decide) rfl) (by simp [wtD]; omega) (by simp [wtN]; omega) (by simp)
theorem fX_leaf {k o va wd : Int} {nm : ByteArray} (hr : (Hd.mk k o va wd nm).rng) (hn : nm.size ≤ 1) : fX B [.int .u8 k, .int .u8 o, .int .u32 va, .int .i64 wd, .string nm, .slice none 0 0] W :=
 ⟨.mk ⟨k, o, va, wd, nm⟩ ⟨none, 0⟩ [], rfl, ⟨World.ownsRow_nil _ _ _ _, trivial⟩, ⟨hr, trivial⟩, by simp [Ex.wt, wtX]; omega⟩
theorem fL_nil : fL B (.slice none 0 0) W := ⟨⟨none, 0⟩, [], rfl, ⟨World.ownsRow_nil _ _ _ _, trivial⟩, trivial, by simp [wtX]⟩
theorem fL_one {g : Nat} {k o va wd : Int} {nm : ByteArray} (h : Blk W g 30 #[.int .u8 k, .int .u8 o, .int .u32 va, .int .i64 wd, .string nm, .slice none 0 0]) (hb : B ≤ g) (hr : (Hd.mk k o va wd nm).rng) (hn : nm.size ≤ 1) : fL B (.slice (some ⟨g, 0, none⟩) 1 1) W :=
 ⟨⟨some ⟨g, 0, none⟩, 1⟩, [.mk ⟨k, o, va, wd, nm⟩ ⟨none, 0⟩ []], rfl, ⟨own_blk (n := 1) (cap := 1) h hb (by decide) (by decide) rfl, ⟨World.ownsRow_nil _ _ _ _, trivial⟩, trivial⟩, ⟨⟨hr, trivial⟩, trivial⟩, by simp [Ex.wt, wtX]; omega⟩
theorem fX_two {g : Nat} {k o va wd k1 o1 va1 wd1 k2 o2 va2 wd2 : Int} {nm nm1 nm2 : ByteArray} (h : Blk W g 30 #[.int .u8 k1, .int .u8 o1, .int .u32 va1, .int .i64 wd1, .string nm1, .slice none 0 0, .int .u8 k2, .int .u8 o2, .int .u32 va2, .int .i64 wd2, .string nm2, .slice none 0 0]) (hb : B ≤ g)
  (hr : (Hd.mk k o va wd nm).rng) (hr1 : (Hd.mk k1 o1 va1 wd1 nm1).rng) (hr2 : (Hd.mk k2 o2 va2 wd2 nm2).rng) (hn : nm.size ≤ 1) (hn1 : nm1.size ≤ 1) (hn2 : nm2.size ≤ 1) : fX B [.int .u8 k, .int .u8 o, .int .u32 va, .int .i64 wd, .string nm, .slice (some ⟨g, 0, none⟩) 2 2] W :=
 ⟨.mk ⟨k, o, va, wd, nm⟩ ⟨some ⟨g, 0, none⟩, 2⟩ [.mk ⟨k1, o1, va1, wd1, nm1⟩ ⟨none, 0⟩ [], .mk ⟨k2, o2, va2, wd2, nm2⟩ ⟨none, 0⟩ []], rfl, ⟨own_blk (n := 2) (cap := 2) h hb (by decide) (by decide) rfl, ⟨World.ownsRow_nil _ _ _ _, trivial⟩, ⟨World.ownsRow_nil _ _ _ _, trivial⟩, trivial⟩, ⟨hr, ⟨hr1, trivial⟩, ⟨hr2, trivial⟩, trivial⟩, by simp [Ex.wt, wtX]; omega⟩
theorem fX_cut {g : Nat} {k o va wd k1 o1 va1 wd1 k2 o2 va2 wd2 : Int} {nm nm1 nm2 : ByteArray} (h : Blk W g 30 #[.int .u8 k1, .int .u8 o1, .int .u32 va1, .int .i64 wd1, .string nm1, .slice none 0 0, .int .u8 k2, .int .u8 o2, .int .u32 va2, .int .i64 wd2, .string nm2, .slice none 0 0]) (hb : B ≤ g)
  (hr : (Hd.mk k o va wd nm).rng) (hr1 : (Hd.mk k1 o1 va1 wd1 nm1).rng) (hn : nm.size ≤ 1) (hn1 : nm1.size ≤ 1) : fX B [.int .u8 k, .int .u8 o, .int .u32 va, .int .i64 wd, .string nm, .slice (some ⟨g, 0, none⟩) 1 2] W :=
 ⟨.mk ⟨k, o, va, wd, nm⟩ ⟨some ⟨g, 0, none⟩, 2⟩ [.mk ⟨k1, o1, va1, wd1, nm1⟩ ⟨none, 0⟩ []], rfl, ⟨own_blk (n := 1) (cap := 2) h hb (by decide) (by decide) rfl, ⟨World.ownsRow_nil _ _ _ _, trivial⟩, trivial⟩, ⟨hr, ⟨hr1, trivial⟩, trivial⟩, by simp [Ex.wt, wtX]; omega⟩
theorem fS_nil {m : Nat} : fS B m (.slice none 0 0) W := ⟨⟨none, 0⟩, [], rfl, ⟨World.ownsRow_nil _ _ _ _, trivial⟩, trivial, by simp [wtL]⟩
theorem fS_one {g m n : Nat} {k bd : Int} {nm : ByteArray} {ve vt vl : Value} (h : Blk W g 40 #[.int .u8 k, .string nm, ve, .int .i64 bd, vt, vl]) (hb : B ≤ g) (hk : 0 ≤ k ∧ k < 256) (hn : nm.size ≤ 1) (he : fL B ve W) (ht : fS B m vt W) (hl : fS B n vl W) : fS B (22 + m + n) (.slice (some ⟨g, 0, none⟩) 1 1) W := by
 obtain ⟨l1, es, rfl, o1, r1, w1⟩ := he
 obtain ⟨l2, ts, rfl, o2, r2, w2⟩ := ht
 obtain ⟨l3, ss, rfl, o3, r3, w3⟩ := hl
 exact ⟨⟨some ⟨g, 0, none⟩, 1⟩, [.mk ⟨k, nm, bd⟩ l1 l2 l3 es ts ss], rfl, ⟨own_blk (n := 1) (cap := 1) h hb (by decide) (by decide) rfl, ⟨o1, o2, o3⟩, trivial⟩, ⟨⟨hk, r1, r2, r3⟩, trivial⟩, by simp [St.wt, wtL]; omega⟩
theorem fS_le {m n : Nat} {v : Value} (h : fS B m v W) (hm : m ≤ n) : fS B n v W := by
 obtain ⟨l, s, h1, h2, h3, h4⟩ := h
 exact ⟨l, s, h1, h2, h3, by omega⟩
theorem fI_nil : fI B (.slice none 0 0) W := ⟨⟨none, 0⟩, [], rfl, ⟨World.ownsRow_nil _ _ _ _, by intro x hx; cases hx⟩, by simp, by simp [wtI], by simp⟩
theorem fI_one {g : Nat} {b k o va wd : Int} {nm : ByteArray} (h : Blk W g 62 #[.int .i64 b, .int .u8 k, .int .u8 o, .int .u32 va, .int .i64 wd, .string nm, .slice none 0 0]) (hb : B ≤ g) (hr : (Hd.mk k o va wd nm).rng) (hn : nm.size ≤ 1) : fI B (.slice (some ⟨g, 0, none⟩) 1 1) W :=
 ⟨⟨some ⟨g, 0, none⟩, 1⟩, [⟨b, .mk ⟨k, o, va, wd, nm⟩ ⟨none, 0⟩ []⟩], rfl, ⟨own_blk (n := 1) (cap := 1) h hb (by decide) (by decide) rfl, by intro x hx; rw [List.mem_singleton] at hx; subst hx; exact ⟨World.ownsRow_nil _ _ _ _, trivial⟩⟩, by intro x hx; rw [List.mem_singleton] at hx; subst hx; exact ⟨hr, trivial⟩, by simp [Ex.wt, wtX, wtI]; omega, by simp⟩
theorem fP_nil : fP B (.slice none 0 0) W := ⟨⟨none, 0⟩, [], rfl, ⟨World.ownsRow_nil _ _ _ _, by intro x hx; cases hx⟩, by simp, by simp [wtPr], by simp⟩
theorem fP_one {g m : Nat} {nm : ByteArray} {vp vb : Value} (h : Blk W g 64 #[.string nm, vp, vb]) (hb : B ≤ g) (hn : nm.size ≤ 1) (hp : fD B vp W) (hs : fS B m vb W) (hm : m ≤ 60) : fP B (.slice (some ⟨g, 0, none⟩) 1 1) W := by
 obtain ⟨l1, ds, rfl, o1, a1, b1, n1⟩ := hp
 obtain ⟨l2, ss, rfl, o2, r2, w2⟩ := hs
 exact ⟨⟨some ⟨g, 0, none⟩, 1⟩, [⟨nm, l1, ds, l2, ss⟩], rfl, ⟨own_blk (n := 1) (cap := 1) h hb (by decide) (by decide) rfl, by intro x hx; rw [List.mem_singleton] at hx; subst hx; exact ⟨o1, o2⟩⟩, by intro x hx; rw [List.mem_singleton] at hx; subst hx; exact r2, by simp [wtPr]; omega, by simp⟩
end
end Go.Proofs.YtnldbplphgfpeaaGreat
