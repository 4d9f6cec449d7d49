/- The examples of the chapter. -/
import Derived.Test.YtnldbplphgfpeaaTMl
namespace Go.Proofs.Ytnldbplphgfpeaa
open Go Go.RowKit Go.Shelf
set_option linter.unusedVariables false
set_option linter.unusedSimpArgs false
set_option maxHeartbeats 4000000
theorem own_mk {W : World} {g base : Nat} (hd : Hd) (Ls : List (Ex Loc)) {cells : Array Value} (hb : Blk W g 30 cells) (hc : cells = (cellsL eT Ls).toArray) (hg : base ≤ g) (hn : Ls.length ≤ 1000) (ho : owns eT W base Ls) : (Ex.mk hd ⟨some ⟨g, 0, none⟩, Ls.length⟩ Ls).own eT W base := by
  subst hc
  have := own_of_blk (n := Ls.length) (base := base) (size := 6) hb hg (by simp [maxLen]; omega) (by simp [cellsL_len])
  refine ⟨show W.ownsRow base 30 6 (.slice (some ⟨g, 0, none⟩) Ls.length Ls.length) Ls.length (cellsL eT Ls) from ?_, ho⟩
  simpa using this
def xX : Ex Loc := .mk ⟨2, 0, 0, 0, ⟨#[120]⟩⟩ ⟨none, 0⟩ []
def xM (v wd : Int) : Ex Loc := .mk ⟨1, 0, v, wd, ⟨#[]⟩⟩ ⟨none, 0⟩ []
def awA (g : Nat) : Ex Loc := .mk ⟨3, 0, 0, 0, ⟨#[97]⟩⟩ ⟨some ⟨g, 0, none⟩, 1⟩ [xM 1 2]
def awE (gA g1 : Nat) : Ex Loc := .mk ⟨6, 3, 0, 0, ⟨#[]⟩⟩ ⟨some ⟨g1, 0, none⟩, 2⟩ [xX, awA gA]
theorem aw_names (gA g1 : Nat) : namesE (awE gA g1) = [⟨#[120]⟩, ⟨#[97]⟩] := by
  simp [namesE, awE, awA, xX, xM, Ex.nodes, nodess, stepN, withL, hasL, bl_toList, Ex.h]
def awB (g2 : Nat) : Ex Loc := .mk ⟨6, 15, 0, 0, ⟨#[]⟩⟩ ⟨some ⟨g2, 0, none⟩, 2⟩ [xX, xM 3 4]
def awW (gC : Nat) : St Loc := .mk ⟨3, ⟨#[]⟩, 0⟩ ⟨some ⟨gC, 0, none⟩, 2⟩ ⟨none, 0⟩ ⟨none, 0⟩ [xM 0 1, xX] [] []
def awS (g2 gB gC gD : Nat) : St Loc := .mk ⟨7, ⟨#[]⟩, 2⟩ ⟨some ⟨gB, 0, none⟩, 1⟩ ⟨some ⟨gD, 0, none⟩, 1⟩ ⟨none, 0⟩ [awB g2] [awW gC] []
section
variable {W : World} {base : Nat}
theorem xX_own : xX.own eT W base := ⟨World.ownsRow_nil _ _ _ _, trivial⟩
theorem xM_own (v wd : Int) : (xM v wd).own eT W base := ⟨World.ownsRow_nil _ _ _ _, trivial⟩
theorem lex_lit {g : Nat} (Ls : List (Ex Loc)) {cells : Array Value} (hb : Blk W g 30 cells) (hc : cells = (cellsL eT Ls).toArray) (hg : base ≤ g) (hn : Ls.length ≤ 1000) (ho : owns eT W base Ls) : Lex.own eT W base ⟨some ⟨g, 0, none⟩, Ls.length⟩ Ls := own_mk ⟨0, 0, 0, 0, ⟨#[]⟩⟩ Ls hb hc hg hn ho
theorem lst_lit {g : Nat} (Ls : List (St Loc)) {cells : Array Value} (hb : Blk W g 51 cells) (hc : cells = (cellsS eT Ls).toArray) (hg : base ≤ g) (hn : Ls.length ≤ 1000) (ho : ownS eT W base Ls) : Lst.own eT W base ⟨some ⟨g, 0, none⟩, Ls.length⟩ Ls := by
  subst hc
  have := own_of_blk (n := Ls.length) (base := base) (size := 6) hb hg (by simp [maxLen]; omega) (by simp [cellsS_len])
  refine ⟨show W.ownsRow base 51 6 (.slice (some ⟨g, 0, none⟩) Ls.length Ls.length) Ls.length (cellsS eT Ls) from ?_, ho⟩
  simpa using this
end
set_option maxRecDepth 100000 in
theorem awake_ok (w : World) : Calls Try.prog 8 #[] w fun x w' => x = .returned (.bool true) ∧ Below w.heap.size w w' := by
  go_enter Try.func8, Try.ntmps8
  go_wp2_with fail
  refine (name_ok _ w).mono ?_
  rintro e W1 ⟨rfl, hB1⟩
  go_wp2_with fail
  refine (num_ok _ _ W1).mono ?_
  rintro e W2 ⟨rfl, hB2⟩
  replace hB2 := below_and hB1 hB2
  have hBx := (Below.refl _ W2).alloc (Nat.le_refl _) (.cells #[.int .u8 1, .int .u8 0, .int .u32 1, .int .i64 2, .string ⟨#[]⟩, .slice none 0 0] 30)
  have hbA := Blk.new W2 30 #[.int .u8 1, .int .u8 0, .int .u32 1, .int .i64 2, .string ⟨#[]⟩, .slice none 0 0]
  have hw2 := hB2.size
  have hA3 := lex_lit (base := w.heap.size) [xM 1 2] hbA rfl (by omega) (by simp) ⟨xM_own _ _, trivial⟩
  have hB3 := below_and hB2 hBx
  replace hB3 := Lib.hid hB3
  replace hA3 := Lib.hid hA3
  clear hB1 hbA hBx hB2
  go_wp2_with fail
  obtain ⟨gA, hgA⟩ : ∃ g, W2.heap.size = g := ⟨_, rfl⟩
  refine (bin_ok _ _ _ _ _ _ _ _ _ _ _ _ _ (by simp [Value.oneCell']) (by simp [Value.oneCell']) _).mono ?_
  rintro e W4 ⟨g1, rfl, hb1, hg1, hB4⟩
  have hs3 := hB3.out.size
  rw [hgA] at hb1 hA3 ⊢
  have hA4 := hA3.out.keep (only_of_below [] hB4) (by simp)
  have hE4 : (awE gA g1).own eT W4 w.heap.size := own_mk ⟨6, 3, 0, 0, ⟨#[]⟩⟩ [xX, awA gA] hb1 rfl (by omega) (by simp) ⟨xX_own, hA4, trivial⟩
  have hB04 := below_and hB3.out hB4
  have hBy := (Below.refl _ W4).alloc (Nat.le_refl _) (.cells #[.int .u8 6, .int .u8 3, .int .u32 0, .int .i64 0, .string ⟨#[]⟩, .slice (some ⟨g1, 0, none⟩) 2 2] 30)
  have hbe := Blk.new W4 30 #[.int .u8 6, .int .u8 3, .int .u32 0, .int .i64 0, .string ⟨#[]⟩, .slice (some ⟨g1, 0, none⟩) 2 2]
  have hE5 := hE4.keep (only_of_below [] hBy) (by simp)
  have hB05 := below_and hB04 hBy
  replace hE5 := Lib.hid hE5
  replace hB05 := Lib.hid hB05
  replace hgA := Lib.hid hgA
  clear hB3 hA3 hs3 hA4 hE4 hB04 hBy hb1 hg1 hB4 hw2
  go_upto_region 2 with (fail)
  generalize W4.alloc (.cells #[.int .u8 6, .int .u8 3, .int .u32 0, .int .i64 0, .string ⟨#[]⟩, .slice (some ⟨g1, 0, none⟩) 2 2] 30) = W5 at *
  obtain ⟨be, hbe'⟩ : ∃ g, W4.heap.size = g := ⟨_, rfl⟩
  rw [hbe'] at hbe ⊢
  replace hbe' := Lib.hid hbe'
  have c0 := hbe.cell 0
  have c1 := hbe.cell 1
  have c2 := hbe.cell 2
  have c3 := hbe.cell 3
  have c4 := hbe.cell 4
  have c5 := hbe.cell 5
  simp only [List.getElem?_toArray, List.getElem?_cons_zero, List.getElem?_cons_succ] at c0 c1 c2 c3 c4 c5
  have hbl := hbe.lt
  go_wp2_with fail
  refine (names_ok (awE gA g1) W5 hE5.out.ok (by simp [awE, awA, xX, xM, Ex.sz, szs])).mono ?_
  rintro e W6 ⟨⟨v, rfl, hv⟩, hB6⟩
  rw [aw_names] at hv
  obtain ⟨gl, lc, rfl, _, hgl⟩ := hv.form (by simp)
  replace hbe := hbe.below hB6 hbl
  have hE6 := hE5.out.keep (only_of_below [] hB6) (by simp)
  have hB06 := below_and hB05.out hB6
  replace hE6 := Lib.hid hE6
  replace hB06 := Lib.hid hB06
  have hv' := Lib.hid hv
  clear c0 c1 c2 c3 c4 c5 hbl hE5 hB05 hB6 hv
  go_wp2_with fail
  refine (name_ok _ W6).mono ?_
  rintro e W7 ⟨rfl, hB7⟩
  go_wp2_with fail
  refine (num_ok _ _ W7).mono ?_
  rintro e W8 ⟨rfl, hB8⟩
  replace hB8 := below_and hB7 hB8
  replace hB8 := Lib.hid hB8
  clear hB7
  go_wp2_with fail
  refine (bin_ok _ _ _ _ _ _ _ _ _ _ _ _ _ (by simp [Value.oneCell']) (by simp [Value.oneCell']) _).mono ?_
  rintro e W9 ⟨g2, rfl, hb2, hg2, hB9⟩
  have hw6 := hB06.out.size
  have hw8 := hB8.out.size
  have hw9 := hB9.size
  have hC9 : (awB g2).own eT W9 w.heap.size := own_mk ⟨6, 15, 0, 0, ⟨#[]⟩⟩ [xX, xM 3 4] hb2 rfl (by omega) (by simp) ⟨xX_own, xM_own _ _, trivial⟩
  have hBz := (Below.refl _ W9).alloc (Nat.le_refl _) (.cells #[.int .u8 6, .int .u8 15, .int .u32 0, .int .i64 0, .string ⟨#[]⟩, .slice (some ⟨g2, 0, none⟩) 2 2] 30)
  have hbz := Blk.new W9 30 #[.int .u8 6, .int .u8 15, .int .u32 0, .int .i64 0, .string ⟨#[]⟩, .slice (some ⟨g2, 0, none⟩) 2 2]
  have hD := lex_lit (base := w.heap.size) [awB g2] hbz rfl (by omega) (by simp) ⟨hC9.keep (only_of_below [] hBz) (by simp), trivial⟩
  have hB69 := below_and (below_and hB8.out hB9) hBz
  replace hD := Lib.hid hD
  replace hB69 := Lib.hid hB69
  clear hC9 hbz hBz hb2 hg2 hB8 hB9
  go_wp2_with fail
  refine (num_ok _ _ _).mono ?_
  rintro e W10 ⟨rfl, hB10⟩
  replace hB10 := Lib.hid hB10
  go_wp2_with fail
  refine (name_ok _ W10).mono ?_
  rintro e W11 ⟨rfl, hB11⟩
  obtain ⟨gB, hgB⟩ : ∃ g, W9.heap.size = g := ⟨_, rfl⟩
  rw [hgB] at hD ⊢
  have hB611 := below_and hB69.out (below_and hB10.out hB11)
  have hD11 := hD.out.keep (only_of_below [] (below_and hB10.out hB11)) (by simp)
  have hw11 := hB611.size
  -- the three literals
  have hBp := (Below.refl _ W11).alloc (Nat.le_refl _) (.cells #[.int .u8 1, .int .u8 0, .int .u32 0, .int .i64 1, .string ⟨#[]⟩, .slice none 0 0, .int .u8 2, .int .u8 0, .int .u32 0, .int .i64 0, .string ⟨#[120]⟩, .slice none 0 0] 30)
  have hbp := Blk.new W11 30 #[.int .u8 1, .int .u8 0, .int .u32 0, .int .i64 1, .string ⟨#[]⟩, .slice none 0 0, .int .u8 2, .int .u8 0, .int .u32 0, .int .i64 0, .string ⟨#[120]⟩, .slice none 0 0]
  have hX := lex_lit (base := w.heap.size) [xM 0 1, xX] hbp rfl (by omega) (by simp) ⟨xM_own _ _, xX_own, trivial⟩
  obtain ⟨gC, hgC⟩ : ∃ g, W11.heap.size = g := ⟨_, rfl⟩
  rw [hgC] at hX
  have hD12 := hD11.keep (only_of_below [] hBp) (by simp)
  have hs12 : (W11.alloc (.cells #[.int .u8 1, .int .u8 0, .int .u32 0, .int .i64 1, .string ⟨#[]⟩, .slice none 0 0, .int .u8 2, .int .u8 0, .int .u32 0, .int .i64 0, .string ⟨#[120]⟩, .slice none 0 0] 30)).heap.size = W11.heap.size + 1 := by simp
  have hB612 := below_and hB611 hBp
  replace hgC := Lib.hid hgC
  replace hgB := Lib.hid hgB
  replace hX := Lib.hid hX
  replace hD12 := Lib.hid hD12
  replace hB612 := Lib.hid hB612
  clear hB10 hB11 hD hB69 hB611 hD11 hBp hbp hw8 hw9
  obtain ⟨W12, hW12⟩ : ∃ W, W = W11.alloc (.cells #[.int .u8 1, .int .u8 0, .int .u32 0, .int .i64 1, .string ⟨#[]⟩, .slice none 0 0, .int .u8 2, .int .u8 0, .int .u32 0, .int .i64 0, .string ⟨#[120]⟩, .slice none 0 0] 30) := ⟨_, rfl⟩
  rw [← hW12] at hX hD12 hB612 hs12
  have hBq := (Below.refl _ W12).alloc (Nat.le_refl _) (.cells #[.int .u8 3, .string ⟨#[]⟩, .slice (some ⟨gC, 0, none⟩) 2 2, .int .i64 0, .slice none 0 0, .slice none 0 0] 51)
  have hbq := Blk.new W12 51 #[.int .u8 3, .string ⟨#[]⟩, .slice (some ⟨gC, 0, none⟩) 2 2, .int .i64 0, .slice none 0 0, .slice none 0 0]
  have hY := lst_lit (base := w.heap.size) [awW gC] hbq rfl (by omega) (by simp) ⟨⟨hX.out.keep (only_of_below [] hBq) (by simp), ⟨World.ownsRow_nil _ _ _ _, trivial⟩, ⟨World.ownsRow_nil _ _ _ _, trivial⟩⟩, trivial⟩
  obtain ⟨gD, hgD⟩ : ∃ g, W12.heap.size = g := ⟨_, rfl⟩
  rw [hgD] at hY
  have hD13 := hD12.out.keep (only_of_below [] hBq) (by simp)
  have hB613 := below_and hB612.out hBq
  have hs13 : (W12.alloc (.cells #[.int .u8 3, .string ⟨#[]⟩, .slice (some ⟨gC, 0, none⟩) 2 2, .int .i64 0, .slice none 0 0, .slice none 0 0] 51)).heap.size = W12.heap.size + 1 := by simp
  obtain ⟨W13, hW13⟩ : ∃ W, W = W12.alloc (.cells #[.int .u8 3, .string ⟨#[]⟩, .slice (some ⟨gC, 0, none⟩) 2 2, .int .i64 0, .slice none 0 0, .slice none 0 0] 51) := ⟨_, rfl⟩
  rw [← hW13] at hY hD13 hB613 hs13
  have hBr := (Below.refl _ W13).alloc (Nat.le_refl _) (.cells #[.int .u8 7, .string ⟨#[]⟩, .slice (some ⟨gB, 0, none⟩) 1 1, .int .i64 2, .slice (some ⟨gD, 0, none⟩) 1 1, .slice none 0 0] 51)
  have hbr := Blk.new W13 51 #[.int .u8 7, .string ⟨#[]⟩, .slice (some ⟨gB, 0, none⟩) 1 1, .int .i64 2, .slice (some ⟨gD, 0, none⟩) 1 1, .slice none 0 0]
  have hZ := lst_lit (base := w.heap.size) [awS g2 gB gC gD] hbr rfl (by omega) (by simp) ⟨⟨hD13.keep (only_of_below [] hBr) (by simp), hY.keep (only_of_below [] hBr) (by simp), ⟨World.ownsRow_nil _ _ _ _, trivial⟩⟩, trivial⟩
  obtain ⟨gE, hgE⟩ : ∃ g, W13.heap.size = g := ⟨_, rfl⟩
  rw [hgE] at hZ
  have hB614 := below_and hB613 hBr
  have hE14 := hE6.out.keep (only_of_below [] hB614) (by simp)
  have hbe14 := hbe.below hB614 hbe.lt
  have hv14 := own_only hv'.out (only_of_below [] hB614) (by simp)
  have hB014 := below_and hB06.out hB614
  have hl0 := hgC.out
  have e1 : W11.heap.size = gC := hl0
  rw [e1] at hs12
  have e2 : gC + 1 = gD := by omega
  have e3 : gD + 1 = gE := by omega
  replace hE14 := Lib.hid hE14
  replace hB014 := Lib.hid hB014
  replace hZ := Lib.hid hZ
  subst e3
  subst e2
  clear hB614 hB613 hD13 hD12 hX hY hBr hbr hBq hbq hB612 hgE hs13 hgD hs12 hbe hE6 hB06 hv'
  go_upto_region 4 with (fail)
  try rw [hgC.out]
  subst hW13
  subst hW12
  generalize ((W11.alloc (.cells #[.int .u8 1, .int .u8 0, .int .u32 0, .int .i64 1, .string ⟨#[]⟩, .slice none 0 0, .int .u8 2, .int .u8 0, .int .u32 0, .int .i64 0, .string ⟨#[120]⟩, .slice none 0 0] 30)).alloc (.cells #[.int .u8 3, .string ⟨#[]⟩, .slice (some ⟨gC, 0, none⟩) 2 2, .int .i64 0, .slice none 0 0, .slice none 0 0] 51)).alloc (.cells #[.int .u8 7, .string ⟨#[]⟩, .slice (some ⟨gB, 0, none⟩) 1 1, .int .i64 2, .slice (some ⟨gC + 1, 0, none⟩) 1 1, .slice none 0 0] 51) = W14 at *
  have c0 := hbe14.cell 0
  have c1 := hbe14.cell 1
  have c2 := hbe14.cell 2
  have c3 := hbe14.cell 3
  have c4 := hbe14.cell 4
  have c5 := hbe14.cell 5
  simp only [List.getElem?_toArray, List.getElem?_cons_zero, List.getElem?_cons_succ] at c0 c1 c2 c3 c4 c5
  have hbl := hbe14.lt
  go_wp2_with fail
  refine (sizeE (awE gA g1) W14 hE14.out.ok 4 (by simp [awE, awA, xX, xM, Ex.sz, szs])).mono ?_
  rintro e W15 ⟨rfl, hB15⟩
  have hv15 := own_only hv14 (only_of_below [] hB15) (by simp)
  have s0 := hv15.cells (g := gl) rfl 0 _ rfl
  have s1 := hv15.cells (g := gl) rfl 1 _ rfl
  rw [Addr.add_lit] at s0 s1
  have hgl15 := cell_lt s0
  simp only [Nat.zero_add] at s0 s1
  dsimp only at hgl15
  have hZ15 := hZ.out.keep (only_of_below [] hB15) (by simp)
  have hB015 := below_and hB014.out hB15
  replace hZ15 := Lib.hid hZ15
  replace hB015 := Lib.hid hB015
  clear c0 c1 c2 c3 c4 c5 hbl hB15 hv15 hE14 hB014 hZ hv14 hbe14
  go_wp2_with fail
  refine (sizeS [awS g2 gB gC (gC + 1)] ⟨some ⟨gC + 1 + 1, 0, none⟩, 1⟩ (thin_of (by simp [awS, awB, awW, xX, xM, St.sz, szS, Ex.sz, szs])) W15 hZ15.out.ok 7 (by simp [awS, awB, awW, xX, xM, St.sz, szS, Ex.sz, szs])).mono ?_
  rintro e W16 ⟨rfl, hB16⟩
  have hZ16 := hZ15.out.keep (only_of_below [] hB16) (by simp)
  have hB016 := below_and hB015.out hB16
  replace hZ16 := Lib.hid hZ16
  replace hB016 := Lib.hid hB016
  clear hZ15 hB015 hB16 s0 s1
  go_wp2_with fail
  refine (depth_yes [awS g2 gB gC (gC + 1)] ⟨some ⟨gC + 1 + 1, 0, none⟩, 1⟩ W16 hZ16.out.ok (by simp [awS, awB, awW, xX, xM, St.sz, szS, Ex.sz, szs])).mono ?_
  rintro e W17 ⟨rfl, hB17⟩
  have hdp : dpS [awS g2 gB gC (gC + 1)] = 2 := by simp [awS, awW, dpS, St.dp]
  rw [hdp]
  have hB017 := below_and hB016.out hB17
  replace hB017 := Lib.hid hB017
  go_wp2_with fail
  go_ret
  exact ⟨rfl, hB017.out⟩
end Go.Proofs.Ytnldbplphgfpeaa
