/- The maker: expr. -/
import Derived.Test.YtnldbplphgfpeaaTMf
namespace Go.Proofs.Ytnldbplphgfpeaa
open Go Go.RowKit Go.Shelf
set_option linter.unusedVariables false
set_option linter.unusedSimpArgs false
set_option maxHeartbeats 8000000
def zE : List Value := [.int .u8 0, .int .u8 0, .int .u32 0, .int .i64 0, .string ⟨#[]⟩, .slice none 0 0]
/-- A store of many cells, the operation written out: elsewhere it fails at once. -/
theorem wpList_store_at {P : Program} {ops : Array Oper} {rest : List Oper} {t0 : TypeId} {p0 : String} {af : Array Edge} {a : Act} {w : World} {Q : Exit → Act → World → Prop} (ty : TypeId) (x y : Operand) (b o : Nat) (cells : Array Value)
    (hx : a.eval x = .pointer (some ⟨b, o, none⟩)) (hy : a.eval y = .agg cells) (ht : w.there b o cells.size) (hi : (P.info? ty).map (·.size) = some cells.size) (h1 : cells.all (·.oneCell') = true)
    (h : wpList P ops Q rest (a.put none undef) (w.setCells b o cells.toList)) : wpList P ops Q ({ dst := none, op := .store ty x y, type := t0, pos := p0, after := af, guard := none } :: rest) a w :=
  wpList_store_mid rfl ty x y rfl b o cells hx hy ht hi h1 h
/-- What an expression's maker lays for itself: where the maker lies, where, how deep, the result. -/
structure EL (w : World) (M wh n b4 b6 b7 R : Nat) (W : World) : Prop where
  x4 : Blk W b4 69 #[.pointer (some ⟨M, 0, none⟩)]
  x6 : Blk W b6 3 #[.int .i64 wh]
  x7 : Blk W b7 3 #[.int .i64 n]
  xR : Blk W R 30 #[.int .u8 0, .int .u8 0, .int .u32 0, .int .i64 0, .string ⟨#[]⟩, .slice none 0 0]
  on : Only [M] w W
  ml : M < w.heap.size
  o1 : w.heap.size ≤ b4
  o2 : b4 < b6
  o3 : b6 < b7
  o4 : b7 < R
section
variable {w W W' : World} {M wh n b4 b6 b7 R : Nat}
theorem EL.step (h : EL w M wh n b4 b6 b7 R W) (ho : Only [M] W W') : EL w M wh n b4 b6 b7 R W' :=
  have l := h.ml; have l1 := h.o1; have l2 := h.o2; have l3 := h.o3; have l4 := h.o4
  ⟨h.x4.only ho (by simp; omega), h.x6.only ho (by simp; omega), h.x7.only ho (by simp; omega), h.xR.only ho (by simp; omega), h.on.trans ho, l, l1, l2, l3, l4⟩
theorem EL.new (h : EL w M wh n b4 b6 b7 R W) (hb : Below W.heap.size W W') : EL w M wh n b4 b6 b7 R W' := h.step (only_of_below [M] hb)
theorem EL.size (h : EL w M wh n b4 b6 b7 R W) : R < W.heap.size := h.xR.lt
theorem EL.le {B : Nat} (h : EL w M wh n b4 b6 b7 R W) (hB : B ≤ w.heap.size) : B ≤ W.heap.size := Nat.le_trans hB h.on.size
end
/-- What an expression's maker leaves. -/
def EPost (B : Nat) (w : World) (M : Nat) (cs : Array Value) (d : Rd) (e : Ev) (p : Ex Unit × List Nat) (x : Ending) (w' : World) : Prop :=
  ∃ zk zo zv zw zn zA zc zs, x = .returned (.agg #[.int .u8 zk, .int .u8 zo, .int .u32 zv, .int .i64 zw, .string zn, .slice zA (zs : List (Ex Loc)).length zc]) ∧ (Ex.mk ⟨zk, zo, zv, zw, zn⟩ (⟨zA, zc⟩ : Loc) zs).plain = p.1 ∧
    (Ex.mk ⟨zk, zo, zv, zw, zn⟩ ⟨zA, zc⟩ zs).own eT w' w.heap.size ∧ (Ex.mk ⟨zk, zo, zv, zw, zn⟩ ⟨zA, zc⟩ zs).fp.Nodup ∧ Mk B w' M cs d e p.2 ∧ Only [M] w w'
/-- expr answers as it is told, so deep. -/
def ExprOk (n : Nat) : Prop := ∀ (width wh : Nat), 1 ≤ width → width ≤ 3 → wh ≤ 2 → ∀ (B M : Nat) (cs : Array Value) (d : Rd) (e : Ev) (r : List Nat) (w : World), Mk B w M cs d e r → B ≤ w.heap.size →
  Calls Try.prog 33 #[.pointer (some ⟨M, 0, none⟩), .int .i64 width, .int .i64 wh, .int .i64 n] w (EPost B w M cs d e (exprM e.p n width wh r))
/-- The end: what is stored in the result's cells. -/
theorem expr_end {B M : Nat} {cs : Array Value} {d : Rd} {e : Ev} {r : List Nat} {w WF : World} {R : Nat} (L : Ex Loc) {t : Nat} (hbR : Blk WF R t #[.int .u8 0, .int .u8 0, .int .u32 0, .int .i64 0, .string ⟨#[]⟩, .slice none 0 0]) (hM : Mk B WF M cs d e r) (hO : Only [M] w WF) (hB : B ≤ w.heap.size) (hR : w.heap.size ≤ R) (hL : L.own eT WF (R + 1)) :
    Blk (WF.setCells R 0 (L.cells eT)) R t (L.cells eT).toArray ∧ Mk B (WF.setCells R 0 (L.cells eT)) M cs d e r ∧ Only [M] w (WF.setCells R 0 (L.cells eT)) ∧ L.own eT (WF.setCells R 0 (L.cells eT)) w.heap.size := by
  have hO8 := only_setCells (b := R) (L.cells eT) 0 WF
  have h1 := blk_setCells (L.cells eT) [.int .u8 0, .int .u8 0, .int .u32 0, .int .i64 0, .string ⟨#[]⟩, .slice none 0 0] [] [] 0 WF hbR rfl (by rw [L.cells_len]; rfl)
  refine ⟨by simpa using h1, hM.below (hO8.below (B := B) (by have := hO.size; omega) (by simp; omega)), hO.then hO8 (fun i hi hl => by simp at hi; omega), (hL.keep hO8 (fun b hb hm => ?_)).base_le (by omega)⟩
  rw [List.mem_singleton] at hm
  have := (hL.ge b hb).1
  omega
theorem own_mk {W : World} {g base : Nat} (hd : Hd) (Ls : List (Ex Loc)) {cells : Array Value} (hb : Blk W g 30 cells) (hc : cells = (cellsL eT Ls).toArray) (hg : base ≤ g) (hn : Ls.length ≤ 1000) (ho : owns eT W base Ls) : (Ex.mk hd ⟨some ⟨g, 0, none⟩, Ls.length⟩ Ls).own eT W base := by
  subst hc
  have := own_of_blk (n := Ls.length) (base := base) (size := 6) hb hg (by simp [maxLen]; omega) (by simp [cellsL_len])
  refine ⟨show W.ownsRow base 30 6 (.slice (some ⟨g, 0, none⟩) Ls.length Ls.length) Ls.length (cellsL eT Ls) from ?_, ho⟩
  simpa using this
set_option maxRecDepth 100000 in
/-- The closure within expr. -/
theorem sub_ok {n : Nat} (ih : ExprOk n) (width wh : Nat) (h1 : 1 ≤ width) (h3 : width ≤ 3) (hwh : wh ≤ 2) {B M : Nat} {cs : Array Value} {d : Rd} {e : Ev} {r : List Nat} {w W : World} {b4 b6 b7 R : Nat} (h : Mk B W M cs d e r) (hB : B ≤ w.heap.size) (hn : n ≤ 10) (hE : EL w M wh (n + 1) b4 b6 b7 R W) :
    Calls Try.prog 69 #[.int .i64 width, .pointer (some ⟨b4, 0, none⟩), .pointer (some ⟨b6, 0, none⟩), .pointer (some ⟨b7, 0, none⟩)] W (EPost B W M cs d e (exprM e.p n width wh r)) := by
  have hz := Blk.new W 30 #[.int .u8 0, .int .u8 0, .int .u32 0, .int .i64 0, .string ⟨#[]⟩, .slice none 0 0]
  have hBx := (Below.refl _ W).alloc (Nat.le_refl _) (.cells #[.int .u8 0, .int .u8 0, .int .u32 0, .int .i64 0, .string ⟨#[]⟩, .slice none 0 0] 30)
  have q4 := (hE.x4.alloc (.cells #[.int .u8 0, .int .u8 0, .int .u32 0, .int .i64 0, .string ⟨#[]⟩, .slice none 0 0] 30)).cell 0
  have q6 := (hE.x6.alloc (.cells #[.int .u8 0, .int .u8 0, .int .u32 0, .int .i64 0, .string ⟨#[]⟩, .slice none 0 0] 30)).cell 0
  have q7 := (hE.x7.alloc (.cells #[.int .u8 0, .int .u8 0, .int .u32 0, .int .i64 0, .string ⟨#[]⟩, .slice none 0 0] 30)).cell 0
  have p4 := hE.x4.cell 0
  have p6 := hE.x6.cell 0
  have p7 := hE.x7.cell 0
  have l4 := hE.x4.lt
  have l6 := hE.x6.lt
  have l7 := hE.x7.lt
  simp only [List.getElem?_toArray, List.getElem?_cons_zero] at q4 q6 q7 p4 p6 p7
  have hnn : ((n + 1 : Nat) : Int) - 1 = (n : Int) := by omega
  have hcall := ih width wh h1 h3 hwh B M cs d e r _ (h.new (hE.le hB) hBx) (Nat.le_trans (hE.le hB) hBx.size)
  have hs : (W.alloc (.cells #[.int .u8 0, .int .u8 0, .int .u32 0, .int .i64 0, .string ⟨#[]⟩, .slice none 0 0] 30)).heap.size = W.heap.size + 1 := by simp
  have hml := hE.ml
  have hos := hE.on.size
  obtain ⟨n1, hn1⟩ : ∃ n1 : Int, n1 = ((n + 1 : Nat) : Int) := ⟨_, rfl⟩
  rw [← hn1] at q7 p7 hnn
  have n1a : -10 ≤ n1 := by omega
  have n1b : n1 ≤ 12 := by omega
  replace hn1 := Lib.hid hn1
  replace hnn := Lib.hid hnn
  replace hcall := Lib.hid hcall
  replace hs := Lib.hid hs
  replace hE := Lib.hid hE
  replace hz := Lib.hid hz
  replace hBx := Lib.hid hBx
  go_enter Try.func69, Try.ntmps69
  go_wp2_with fail
  rw [hnn.out]
  refine hcall.out.mono ?_
  rintro x W1 ⟨zk, zo, zv, zw, zn, zA, zc, zs, rfl, hp, ho, hd, hm, hon⟩
  rw [hs.out] at ho
  have hz1 := hz.out.only hon (by simp; omega)
  have hOW : Only [M] W W1 := (only_of_below [M] hBx.out).trans hon
  obtain ⟨hbf, hM9, hO9, hL9⟩ := expr_end (w := W) (Ex.mk ⟨zk, zo, zv, zw, zn⟩ ⟨zA, zc⟩ zs) hz1 hm hOW (hE.out.le hB) (Nat.le_refl _) ho
  simp only [Ex.cells, eT] at hbf hM9 hO9 hL9
  replace hbf := Lib.hid hbf
  replace hM9 := Lib.hid hM9
  replace hO9 := Lib.hid hO9
  replace hL9 := Lib.hid hL9
  go_wp2_with (refine wpList_store_mid rfl 30 (.tmp 5) (.tmp 11) rfl W.heap.size 0 #[.int .u8 zk, .int .u8 zo, .int .u32 zv, .int .i64 zw, .string zn, .slice zA zs.length zc] rfl rfl (there_blk_at hz1 (by simp)) (by kernel_rfl) (by simp [Value.oneCell']) ?_; refine Shut.out ?_)
  refine shut_mk ?_
  refine wpList_nil ?_
  try simp only [Act.put, List.setIfInBounds_toArray, List.set_cons_zero, List.set_cons_succ]
  rename (∀ (a : Act) (w : World), Code.wp Try.prog Code.ret _ a w → _) => hkk
  refine hkk _ _ ?_
  refine wp_ret ?_
  try simp only [Exit.then]
  refine bodyPost_ret (results_cell_row rfl _ _ W.heap.size 30 _ (0, 0) _ rfl hbf.out Try.underlying30 rfl (by kernel_rfl)) rfl ?_
  exact ⟨zk, zo, zv, zw, zn, zA, zc, zs, rfl, hp, hL9.out, hd, hM9.out, hO9.out⟩
section
variable {e : EvP} {n width wh k a o : Nat} {r r1 r2 r3 r4 r5 : List Nat} {x y z : Ex Unit}
theorem exprM_leaf (hk : nx 9 r = (k, r1)) (h3 : ¬ (k = 3 ∧ width = 1)) (h5 : k < 3 ∨ ¬ k < 7) (h7 : ¬ (k = 7 ∧ width = e.w ∧ wh ≠ 1)) (h8 : ¬ (k = 8 ∧ width = e.w ∧ wh = 0)) : exprM e (n + 1) width wh r = leafM e width wh r1 := by
  simp only [exprM, hk]
  by_cases h : k < 3
  · rw [if_pos h]
  · rw [if_neg h, if_neg h3, if_neg (by omega), if_neg (by omega), if_neg (by omega), if_neg h7, if_neg h8]
theorem exprM_cmp (hk : nx 9 r = (k, r1)) (h3 : k = 3) (hw : width = 1) (ha : nx 3 r1 = (a, r2)) (ho : nx 4 r2 = (o, r3)) (hx : exprM e n (1 + a) wh r3 = (x, r4)) (hy : exprM e n (1 + a) wh r4 = (y, r5)) : exprM e (n + 1) width wh r = (binE (13 + o) x y, r5) := by
  simp only [exprM, hk]
  rw [if_neg (by omega), if_pos ⟨h3, hw⟩]
  simp only [ha, ho, hx, hy]
theorem exprM_bin (hk : nx 9 r = (k, r1)) (h3 : ¬ k < 3) (h5 : k < 5) (hw : ¬ (k = 3 ∧ width = 1)) (ho : nx 10 r1 = (o, r2)) (hx : exprM e n width wh r2 = (x, r3)) (hy : exprM e n width wh r3 = (y, r4)) : exprM e (n + 1) width wh r = (binE (3 + o) x y, r4) := by
  simp only [exprM, hk]
  rw [if_neg h3, if_neg hw, if_pos h5]
  simp only [ho, hx, hy]
theorem exprM_mux (hk : nx 9 r = (5, r1)) (hx : exprM e n 1 wh r1 = (x, r2)) (hy : exprM e n width wh r2 = (y, r3)) (hz : exprM e n width wh r3 = (z, r4)) : exprM e (n + 1) width wh r = (.mk ⟨7, 0, 0, 0, ⟨#[]⟩⟩ () [x, y, z], r4) := by
  simp [exprM, hk, hx, hy, hz]
theorem exprM_un (hk : nx 9 r = (6, r1)) (ha : nx 2 r1 = (0, r2)) (ho : nx 2 r2 = (o, r3)) (hx : exprM e n width wh r3 = (x, r4)) : exprM e (n + 1) width wh r = (.mk ⟨5, (1 + o : Nat), 0, 0, ⟨#[]⟩⟩ () [x], r4) := by
  simp [exprM, hk, ha, ho, hx]
theorem exprM_cast (hk : nx 9 r = (6, r1)) (ha : nx 2 r1 = (a, r2)) (h0 : a ≠ 0) (ho : nx 3 r2 = (o, r3)) (hx : exprM e n (1 + o) wh r3 = (x, r4)) : exprM e (n + 1) width wh r = (.mk ⟨8, 0, 0, width, ⟨#[]⟩⟩ () [x], r4) := by
  simp [exprM, hk, ha, h0, ho, hx]
theorem exprM_disk (hk : nx 9 r = (7, r1)) (hw : width = e.w) (hh : wh ≠ 1) (hx : exprM e n 2 wh r1 = (x, r2)) : exprM e (n + 1) width wh r = (.mk ⟨4, 0, 0, 0, ⟨#[]⟩⟩ () [x], r2) := by
  simp [exprM, hk, hw, hh, hx]
theorem exprM_elem (hk : nx 9 r = (8, r1)) (hw : width = e.w) (hh : wh = 0) (hx : exprM e n 2 wh r1 = (x, r2)) : exprM e (n + 1) width wh r = (.mk ⟨3, 0, 0, 0, sA⟩ () [x], r2) := by
  subst hh
  simp [exprM, hk, hw, hx]
end
set_option maxRecDepth 100000 in
theorem expr_zero : ExprOk (0) := by
  intro width wh hw1 hw3 hwh B M cs d e r w h hB
  obtain ⟨p, hp⟩ : ∃ p, p = exprM e.p (0) width wh r := ⟨_, rfl⟩
  rw [← hp]
  replace hp := Lib.hid hp
  obtain ⟨nI, hnI⟩ : ∃ nI : Int, nI = ((0 : Nat) : Int) := ⟨_, rfl⟩
  rw [← hnI]
  replace hnI := Lib.hid hnI
  have hMl := h.nx.lt_size
  have hB0 := ((((Below.refl w.heap.size w).alloc (Nat.le_refl _) (.cells #[.pointer (some ⟨M, 0, none⟩)] 69)).alloc (by simp) (.cells #[.int .i64 wh] 3)).alloc (by simp; omega) (.cells #[.int .i64 nI] 3)).alloc (by simp; omega) (.cells #[.int .u8 0, .int .u8 0, .int .u32 0, .int .i64 0, .string ⟨#[]⟩, .slice none 0 0] 30)
  have x4 := (((Blk.new w 69 #[.pointer (some ⟨M, 0, none⟩)]).alloc (.cells #[.int .i64 wh] 3)).alloc (.cells #[.int .i64 nI] 3)).alloc (.cells #[.int .u8 0, .int .u8 0, .int .u32 0, .int .i64 0, .string ⟨#[]⟩, .slice none 0 0] 30)
  have x6 := ((Blk.new (w.alloc (.cells #[.pointer (some ⟨M, 0, none⟩)] 69)) 3 #[.int .i64 wh]).alloc (.cells #[.int .i64 nI] 3)).alloc (.cells #[.int .u8 0, .int .u8 0, .int .u32 0, .int .i64 0, .string ⟨#[]⟩, .slice none 0 0] 30)
  have x7 := (Blk.new ((w.alloc (.cells #[.pointer (some ⟨M, 0, none⟩)] 69)).alloc (.cells #[.int .i64 wh] 3)) 3 #[.int .i64 nI]).alloc (.cells #[.int .u8 0, .int .u8 0, .int .u32 0, .int .i64 0, .string ⟨#[]⟩, .slice none 0 0] 30)
  have xR := Blk.new (((w.alloc (.cells #[.pointer (some ⟨M, 0, none⟩)] 69)).alloc (.cells #[.int .i64 wh] 3)).alloc (.cells #[.int .i64 nI] 3)) 30 #[.int .u8 0, .int .u8 0, .int .u32 0, .int .i64 0, .string ⟨#[]⟩, .slice none 0 0]
  simp only [World.size_alloc] at x6 x7 xR
  go_enter Try.func33, Try.ntmps33
  go_upto_region 1 with (fail)
  have hs0 : ((((w.alloc (.cells #[.pointer (some ⟨M, 0, none⟩)] 69)).alloc (.cells #[.int .i64 wh] 3)).alloc (.cells #[.int .i64 nI] 3)).alloc (.cells #[.int .u8 0, .int .u8 0, .int .u32 0, .int .i64 0, .string ⟨#[]⟩, .slice none 0 0] 30)).heap.size = w.heap.size + 1 + 1 + 1 + 1 := by simp
  generalize (((w.alloc (.cells #[.pointer (some ⟨M, 0, none⟩)] 69)).alloc (.cells #[.int .i64 wh] 3)).alloc (.cells #[.int .i64 nI] 3)).alloc (.cells #[.int .u8 0, .int .u8 0, .int .u32 0, .int .i64 0, .string ⟨#[]⟩, .slice none 0 0] 30) = W0 at *
  obtain ⟨b4, hb4⟩ : ∃ b, b = w.heap.size := ⟨_, rfl⟩
  obtain ⟨b6, hb6⟩ : ∃ b, b = b4 + 1 := ⟨_, rfl⟩
  obtain ⟨b7, hb7⟩ : ∃ b, b = b6 + 1 := ⟨_, rfl⟩
  obtain ⟨R, hR⟩ : ∃ b, b = b7 + 1 := ⟨_, rfl⟩
  rw [← hb4] at x4 x6 x7 xR ⊢
  rw [← hb6] at x6 x7 xR ⊢
  rw [← hb7] at x7 xR ⊢
  rw [← hR] at xR ⊢
  rw [hnI.out] at x7
  have hE0 : EL w M wh (0) b4 b6 b7 R W0 := ⟨x4, x6, x7, xR, only_of_below [M] hB0, hMl, by omega, by omega, by omega, by omega⟩
  rw [← hnI.out] at x7
  have hM0 := h.new hB hB0
  have hRs : R + 1 = W0.heap.size := by omega
  have hwR : w.heap.size ≤ R := by omega
  replace hRs := Lib.hid hRs
  replace hs0 := Lib.hid hs0
  replace hb4 := Lib.hid hb4
  replace hb6 := Lib.hid hb6
  replace hb7 := Lib.hid hb7
  replace hR := Lib.hid hR
  clear hB0 h hMl
  have q7 := x7.cell 0
  simp only [List.getElem?_toArray, List.getElem?_cons_zero] at q7
  have l7 := x7.lt
  clear x4 x6 x7 xR
  obtain rfl : nI = 0 := by simpa using hnI.out
  have q4 := hE0.x4.cell 0
  have q6 := hE0.x6.cell 0
  simp only [List.getElem?_toArray, List.getElem?_cons_zero] at q4 q6
  have l4 := hE0.x4.lt
  have l6 := hE0.x6.lt
  have hcall := leaf_ok width wh hw1 hw3 hwh hM0 (hE0.le hB)
  replace hcall := Lib.hid hcall
  replace hE0 := Lib.hid hE0
  replace hM0 := Lib.hid hM0
  go_wp2_with fail
  refine hcall.out.mono ?_
  rintro x W1 ⟨⟨zk, zo, zv, zw, zn⟩, rfl, hLp, hMF, hO1⟩
  have hE1 := hE0.out.step hO1
  have hOF := hE1.on
  have hxR := hE1.xR
  have hLF : (Ex.mk ⟨zk, zo, zv, zw, zn⟩ (⟨none, 0⟩ : Loc) []).own eT W1 (R + 1) := ⟨World.ownsRow_nil _ _ _ _, trivial⟩
  have hLd : (Ex.mk ⟨zk, zo, zv, zw, zn⟩ (⟨none, 0⟩ : Loc) []).fp.Nodup := List.nodup_nil
  clear q4 q6 q7 l4 l6 l7
  obtain ⟨hbf, hM9, hO9, hL9⟩ := expr_end (w := w) (Ex.mk ⟨zk, zo, zv, zw, zn⟩ (⟨none, 0⟩ : Loc) []) hxR hMF hOF hB hwR hLF
  simp only [Ex.cells, eT, List.length_cons, List.length_nil, Nat.reduceAdd] at hbf hM9 hO9 hL9
  replace hbf := Lib.hid hbf
  replace hM9 := Lib.hid hM9
  replace hO9 := Lib.hid hO9
  replace hL9 := Lib.hid hL9
  replace hLd := Lib.hid hLd
  try simp only []
  repeat ((fail_if_success (with_reducible refine wpList_store_at 30 (.tmp 8) (.tmp 18) R 0 #[.int .u8 zk, .int .u8 zo, .int .u32 zv, .int .i64 zw, .string zn, .slice none 0 0] ?_ ?_ ?_ ?_ ?_ ?_)); (first | go_skip | go_guarded | go_step | go_upon | go_simp))
  try rw [hg.out]
  refine wpList_store_at 30 (.tmp 8) (.tmp 18) R 0 #[.int .u8 zk, .int .u8 zo, .int .u32 zv, .int .i64 zw, .string zn, .slice none 0 0] rfl rfl (there_blk_at hxR (by simp)) (by kernel_rfl) (by simp [Value.oneCell']) ?_
  refine wpList_nil ?_
  try simp only [Act.put, List.setIfInBounds_toArray, List.set_cons_zero, List.set_cons_succ]
  rename (∀ (a : Act) (w : World), Code.wp Try.prog Code.ret _ a w → _) => hkk
  refine hkk _ _ ?_
  refine wp_ret ?_
  try simp only [Exit.then]
  refine bodyPost_ret (results_cell_row rfl _ _ R 30 _ (0, 0) _ rfl hbf.out Try.underlying30 rfl (by kernel_rfl)) rfl ?_
  exact ⟨zk, zo, zv, zw, zn, none, 0, [], rfl, by rw [hp.out]; exact hLp, hL9.out, hLd.out, by rw [hp.out]; exact hM9.out, hO9.out⟩
set_option maxRecDepth 100000 in
theorem expr_succ {n : Nat} (ih : ExprOk n) (hn10 : n ≤ 9) : ExprOk (n + 1) := by
  intro width wh hw1 hw3 hwh B M cs d e r w h hB
  obtain ⟨p, hp⟩ : ∃ p, p = exprM e.p (n + 1) width wh r := ⟨_, rfl⟩
  rw [← hp]
  replace hp := Lib.hid hp
  obtain ⟨nI, hnI⟩ : ∃ nI : Int, nI = ((n + 1 : Nat) : Int) := ⟨_, rfl⟩
  rw [← hnI]
  replace hnI := Lib.hid hnI
  have hMl := h.nx.lt_size
  have hB0 := ((((Below.refl w.heap.size w).alloc (Nat.le_refl _) (.cells #[.pointer (some ⟨M, 0, none⟩)] 69)).alloc (by simp) (.cells #[.int .i64 wh] 3)).alloc (by simp; omega) (.cells #[.int .i64 nI] 3)).alloc (by simp; omega) (.cells #[.int .u8 0, .int .u8 0, .int .u32 0, .int .i64 0, .string ⟨#[]⟩, .slice none 0 0] 30)
  have x4 := (((Blk.new w 69 #[.pointer (some ⟨M, 0, none⟩)]).alloc (.cells #[.int .i64 wh] 3)).alloc (.cells #[.int .i64 nI] 3)).alloc (.cells #[.int .u8 0, .int .u8 0, .int .u32 0, .int .i64 0, .string ⟨#[]⟩, .slice none 0 0] 30)
  have x6 := ((Blk.new (w.alloc (.cells #[.pointer (some ⟨M, 0, none⟩)] 69)) 3 #[.int .i64 wh]).alloc (.cells #[.int .i64 nI] 3)).alloc (.cells #[.int .u8 0, .int .u8 0, .int .u32 0, .int .i64 0, .string ⟨#[]⟩, .slice none 0 0] 30)
  have x7 := (Blk.new ((w.alloc (.cells #[.pointer (some ⟨M, 0, none⟩)] 69)).alloc (.cells #[.int .i64 wh] 3)) 3 #[.int .i64 nI]).alloc (.cells #[.int .u8 0, .int .u8 0, .int .u32 0, .int .i64 0, .string ⟨#[]⟩, .slice none 0 0] 30)
  have xR := Blk.new (((w.alloc (.cells #[.pointer (some ⟨M, 0, none⟩)] 69)).alloc (.cells #[.int .i64 wh] 3)).alloc (.cells #[.int .i64 nI] 3)) 30 #[.int .u8 0, .int .u8 0, .int .u32 0, .int .i64 0, .string ⟨#[]⟩, .slice none 0 0]
  simp only [World.size_alloc] at x6 x7 xR
  go_enter Try.func33, Try.ntmps33
  go_upto_region 1 with (fail)
  have hs0 : ((((w.alloc (.cells #[.pointer (some ⟨M, 0, none⟩)] 69)).alloc (.cells #[.int .i64 wh] 3)).alloc (.cells #[.int .i64 nI] 3)).alloc (.cells #[.int .u8 0, .int .u8 0, .int .u32 0, .int .i64 0, .string ⟨#[]⟩, .slice none 0 0] 30)).heap.size = w.heap.size + 1 + 1 + 1 + 1 := by simp
  generalize (((w.alloc (.cells #[.pointer (some ⟨M, 0, none⟩)] 69)).alloc (.cells #[.int .i64 wh] 3)).alloc (.cells #[.int .i64 nI] 3)).alloc (.cells #[.int .u8 0, .int .u8 0, .int .u32 0, .int .i64 0, .string ⟨#[]⟩, .slice none 0 0] 30) = W0 at *
  obtain ⟨b4, hb4⟩ : ∃ b, b = w.heap.size := ⟨_, rfl⟩
  obtain ⟨b6, hb6⟩ : ∃ b, b = b4 + 1 := ⟨_, rfl⟩
  obtain ⟨b7, hb7⟩ : ∃ b, b = b6 + 1 := ⟨_, rfl⟩
  obtain ⟨R, hR⟩ : ∃ b, b = b7 + 1 := ⟨_, rfl⟩
  rw [← hb4] at x4 x6 x7 xR ⊢
  rw [← hb6] at x6 x7 xR ⊢
  rw [← hb7] at x7 xR ⊢
  rw [← hR] at xR ⊢
  rw [hnI.out] at x7
  have hE0 : EL w M wh (n + 1) b4 b6 b7 R W0 := ⟨x4, x6, x7, xR, only_of_below [M] hB0, hMl, by omega, by omega, by omega, by omega⟩
  rw [← hnI.out] at x7
  have hM0 := h.new hB hB0
  have hRs : R + 1 = W0.heap.size := by omega
  have hwR : w.heap.size ≤ R := by omega
  replace hRs := Lib.hid hRs
  replace hs0 := Lib.hid hs0
  replace hb4 := Lib.hid hb4
  replace hb6 := Lib.hid hb6
  replace hb7 := Lib.hid hb7
  replace hR := Lib.hid hR
  clear hB0 h hMl
  have q7 := x7.cell 0
  simp only [List.getElem?_toArray, List.getElem?_cons_zero] at q7
  have l7 := x7.lt
  clear x4 x6 x7 xR
  have hnz : (nI == 0) = false := by have := hnI.out; simp; omega
  replace hn10 : n ≤ 10 := by omega
  have ih' := Lib.hid ih
  obtain ⟨⟨k, r1⟩, hxk⟩ : ∃ p, nx 9 r = p := ⟨_, rfl⟩
  have hltk := nx_lt (n := 9) (by omega) r
  have hc := nextM 9 (by omega) (by omega) hM0 (hE0.le hB)
  rw [hxk] at hc hltk
  dsimp only at hc hltk
  replace hxk := Lib.hid hxk
  replace hc := Lib.hid hc
  have q4 := hE0.x4.cell 0
  have q6 := hE0.x6.cell 0
  simp only [List.getElem?_toArray, List.getElem?_cons_zero] at q4 q6
  have l4 := hE0.x4.lt
  have l6 := hE0.x6.lt
  have l3 := hM0.nx.lt_size
  have c3 := hM0.cell (by omega) hM0.st.c3
  have hE0' := Lib.hid hE0
  have hM0' := Lib.hid hM0
  clear hE0 hM0
  go_wp2_with fail
  refine hc.out.mono ?_
  rintro xx W1 ⟨rfl, hM1, hO1⟩
  have hE1 := hE0'.out.step hO1
  clear q4 q6 l4 l6 l3 c3
  clear hc hE0' hM0' hO1
  clear q7 l7
  obtain ⟨kI, hkI⟩ : ∃ kI : Int, kI = (k : Int) := ⟨_, rfl⟩
  rw [← hkI]
  have hkI' := Lib.hid hkI
  clear hkI

  by_cases h3 : k < 3
  · have hk3 : kI < 3 := by have := hkI'.out; omega
    have hLeaf3 : ¬ (k = 3 ∧ width = 1) := by omega
    have hLeaf5 : k < 3 ∨ ¬ k < 7 := by omega
    have hLeaf7 : ¬ (k = 7 ∧ width = e.p.w ∧ wh ≠ 1) := by omega
    have hLeaf8 : ¬ (k = 8 ∧ width = e.p.w ∧ wh = 0) := by omega
    replace hLeaf3 := Lib.hid hLeaf3
    replace hLeaf5 := Lib.hid hLeaf5
    replace hLeaf7 := Lib.hid hLeaf7
    replace hLeaf8 := Lib.hid hLeaf8
    have q4 := hE1.x4.cell 0
    have q6 := hE1.x6.cell 0
    simp only [List.getElem?_toArray, List.getElem?_cons_zero] at q4 q6
    have l4 := hE1.x4.lt
    have l6 := hE1.x6.lt
    have l3 := hM1.nx.lt_size
    have c3 := hM1.cell (by omega) hM1.st.c3
    have hE1' := Lib.hid hE1
    have hM1' := Lib.hid hM1
    clear hE1 hM1
    have hcall := leaf_ok width wh hw1 hw3 hwh hM1'.out (hE1'.out.le hB)
    replace hcall := Lib.hid hcall
    go_wp2_with fail
    refine hcall.out.mono ?_
    rintro xx W2 ⟨⟨zk, zo, zv, zw, zn⟩, rfl, hLp, hMF, hO2⟩
    have hE2 := hE1'.out.step hO2
    have hOF := hE2.on
    have hxR := hE2.xR
    have hLF : (Ex.mk ⟨zk, zo, zv, zw, zn⟩ (⟨none, 0⟩ : Loc) []).own eT W2 (R + 1) := ⟨World.ownsRow_nil _ _ _ _, trivial⟩
    have hLd : (Ex.mk ⟨zk, zo, zv, zw, zn⟩ (⟨none, 0⟩ : Loc) []).fp.Nodup := List.nodup_nil
    clear q4 q6 l4 l6 l3 c3
    obtain ⟨hbf, hM9, hO9, hL9⟩ := expr_end (w := w) (Ex.mk ⟨zk, zo, zv, zw, zn⟩ (⟨none, 0⟩ : Loc) []) hxR hMF hOF hB hwR hLF
    simp only [Ex.cells, eT, List.length_cons, List.length_nil, Nat.reduceAdd] at hbf hM9 hO9 hL9
    replace hbf := Lib.hid hbf
    replace hM9 := Lib.hid hM9
    replace hO9 := Lib.hid hO9
    replace hL9 := Lib.hid hL9
    replace hLd := Lib.hid hLd
    try simp only []
    repeat ((fail_if_success (with_reducible refine wpList_store_at 30 (.tmp 8) (.tmp 140) R 0 #[.int .u8 zk, .int .u8 zo, .int .u32 zv, .int .i64 zw, .string zn, .slice none 0 0] ?_ ?_ ?_ ?_ ?_ ?_)); (first | go_skip | go_guarded | go_step | go_upon | go_simp))
    try rw [hg.out]
    refine wpList_store_at 30 (.tmp 8) (.tmp 140) R 0 #[.int .u8 zk, .int .u8 zo, .int .u32 zv, .int .i64 zw, .string zn, .slice none 0 0] rfl rfl (there_blk_at hxR (by simp)) (by kernel_rfl) (by simp [Value.oneCell']) ?_
    refine wpList_nil ?_
    try simp only [Act.put, List.setIfInBounds_toArray, List.set_cons_zero, List.set_cons_succ]
    rename (∀ (a : Act) (w : World), Code.wp Try.prog Code.ret _ a w → _) => hkk
    refine hkk _ _ ?_
    refine wp_ret ?_
    try simp only [Exit.then]
    refine bodyPost_ret (results_cell_row rfl _ _ R 30 _ (0, 0) _ rfl hbf.out Try.underlying30 rfl (by kernel_rfl)) rfl ?_
    have hpp := hp.out.trans (exprM_leaf hxk.out (by first | exact hLeaf3.out | (simp; done) | exact fun q => hLeaf3.out ⟨trivial, q.2⟩) (by first | exact hLeaf5.out | (simp; done) | exact fun q => hLeaf5.out ⟨trivial, q.2⟩) (by first | exact hLeaf7.out | (simp; done) | exact fun q => hLeaf7.out ⟨trivial, q.2⟩) (by first | exact hLeaf8.out | (simp; done) | exact fun q => hLeaf8.out ⟨trivial, q.2⟩))
    exact ⟨zk, zo, zv, zw, zn, none, 0, [], rfl, by rw [hpp]; exact hLp, hL9.out, hLd.out, by rw [hpp]; exact hM9.out, hO9.out⟩
  by_cases h3e : k = 3
  · skip
    obtain rfl : kI = 3 := by have := hkI'.out; omega
    by_cases hw : width = 1
    · have hwb : ((width : Int) == 1) = true := by simp; omega
      have hk3 := Lib.hid h3e
      replace hw := Lib.hid hw
      clear h3 h3e
      obtain ⟨⟨a, r2⟩, hxa⟩ : ∃ p, nx 3 r1 = p := ⟨_, rfl⟩
      have hlta := nx_lt (n := 3) (by omega) r1
      have hc := nextM 3 (by omega) (by omega) hM1 (hE1.le hB)
      rw [hxa] at hc hlta
      dsimp only at hc hlta
      replace hxa := Lib.hid hxa
      replace hc := Lib.hid hc
      have q4 := hE1.x4.cell 0
      have q6 := hE1.x6.cell 0
      simp only [List.getElem?_toArray, List.getElem?_cons_zero] at q4 q6
      have l4 := hE1.x4.lt
      have l6 := hE1.x6.lt
      have l3 := hM1.nx.lt_size
      have c3 := hM1.cell (by omega) hM1.st.c3
      have hE1' := Lib.hid hE1
      have hM1' := Lib.hid hM1
      clear hE1 hM1
      go_wp2_with fail
      refine hc.out.mono ?_
      rintro xx W2 ⟨rfl, hM2, hO2⟩
      have hE2 := hE1'.out.step hO2
      clear q4 q6 l4 l6 l3 c3
      clear hc hE1' hM1' hO2
      obtain ⟨⟨o, r3⟩, hxo⟩ : ∃ p, nx 4 r2 = p := ⟨_, rfl⟩
      have hlto := nx_lt (n := 4) (by omega) r2
      have hc := nextM 4 (by omega) (by omega) hM2 (hE2.le hB)
      rw [hxo] at hc hlto
      dsimp only at hc hlto
      replace hxo := Lib.hid hxo
      replace hc := Lib.hid hc
      have q4 := hE2.x4.cell 0
      have q6 := hE2.x6.cell 0
      simp only [List.getElem?_toArray, List.getElem?_cons_zero] at q4 q6
      have l4 := hE2.x4.lt
      have l6 := hE2.x6.lt
      have l3 := hM2.nx.lt_size
      have c3 := hM2.cell (by omega) hM2.st.c3
      have hE2' := Lib.hid hE2
      have hM2' := Lib.hid hM2
      clear hE2 hM2
      go_wp2_with fail
      refine hc.out.mono ?_
      rintro xx W3 ⟨rfl, hM3, hO3⟩
      have hE3 := hE2'.out.step hO3
      clear q4 q6 l4 l6 l3 c3
      clear hc hE2' hM2' hO3
      obtain ⟨⟨tx, r4⟩, hxx⟩ : ∃ p, exprM e.p n (1 + a) wh r3 = p := ⟨_, rfl⟩
      have hc : Calls Try.prog 69 #[.int .i64 (1 + (a : Int)), .pointer (some ⟨b4, 0, none⟩), .pointer (some ⟨b6, 0, none⟩), .pointer (some ⟨b7, 0, none⟩)] W3 (EPost B W3 M cs d e (exprM e.p n (1 + a) wh r3)) := by
        have hc0 := sub_ok ih (1 + a) wh (by omega) (by omega) hwh hM3 hB hn10 hE3
        have ew : ((1 + a : Nat) : Int) = (1 + (a : Int)) := by omega
        rw [ew] at hc0
        exact hc0
      rw [hxx] at hc
      replace hxx := Lib.hid hxx
      replace hc := Lib.hid hc
      have q4 := hE3.x4.cell 0
      have q6 := hE3.x6.cell 0
      simp only [List.getElem?_toArray, List.getElem?_cons_zero] at q4 q6
      have l4 := hE3.x4.lt
      have l6 := hE3.x6.lt
      have l3 := hM3.nx.lt_size
      have c3 := hM3.cell (by omega) hM3.st.c3
      have hE3' := Lib.hid hE3
      have hM3' := Lib.hid hM3
      clear hE3 hM3
      have hszx : R < W3.heap.size := hE3'.out.size
      go_wp2_with fail
      refine hc.out.mono ?_
      rintro xx W4 ⟨xk, xo, xv, xw, xn, xA, xc, xs, rfl, hpx, hLx, hdx, hM4, hO4⟩
      have hE4 := hE3'.out.step hO4
      have hGx := Lib.hid hLx.ge
      have hS4 := hO4.size
      replace hLx := Lib.hid hLx
      replace hdx := Lib.hid hdx
      dsimp only at hpx hM4
      replace hpx := Lib.hid hpx
      clear q4 q6 l4 l6 l3 c3
      clear hc hE3' hM3' hO4
      obtain ⟨⟨ty, r5⟩, hxy⟩ : ∃ p, exprM e.p n (1 + a) wh r4 = p := ⟨_, rfl⟩
      have hc : Calls Try.prog 69 #[.int .i64 (1 + (a : Int)), .pointer (some ⟨b4, 0, none⟩), .pointer (some ⟨b6, 0, none⟩), .pointer (some ⟨b7, 0, none⟩)] W4 (EPost B W4 M cs d e (exprM e.p n (1 + a) wh r4)) := by
        have hc0 := sub_ok ih (1 + a) wh (by omega) (by omega) hwh hM4 hB hn10 hE4
        have ew : ((1 + a : Nat) : Int) = (1 + (a : Int)) := by omega
        rw [ew] at hc0
        exact hc0
      rw [hxy] at hc
      replace hxy := Lib.hid hxy
      replace hc := Lib.hid hc
      have q4 := hE4.x4.cell 0
      have q6 := hE4.x6.cell 0
      simp only [List.getElem?_toArray, List.getElem?_cons_zero] at q4 q6
      have l4 := hE4.x4.lt
      have l6 := hE4.x6.lt
      have l3 := hM4.nx.lt_size
      have c3 := hM4.cell (by omega) hM4.st.c3
      have hE4' := Lib.hid hE4
      have hM4' := Lib.hid hM4
      clear hE4 hM4
      have hszy : R < W4.heap.size := hE4'.out.size
      go_wp2_with fail
      refine hc.out.mono ?_
      rintro xx W5 ⟨yk, yo, yv, yw, yn, yA, yc, ys, rfl, hpy, hLy, hdy, hM5, hO5⟩
      have hE5 := hE4'.out.step hO5
      have hGy := Lib.hid hLy.ge
      have hS5 := hO5.size
      replace hLy := Lib.hid hLy
      replace hdy := Lib.hid hdy
      dsimp only at hpy hM5
      replace hpy := Lib.hid hpy
      replace hLx := Lib.hid (hLx.out.keep hO5 (fun b hb hm => by rw [List.mem_singleton] at hm; have := (hGx.out b hb).1; have := hszx; have := hE4'.out.size; have := hE4'.out.ml; have := hwR; omega))
      clear q4 q6 l4 l6 l3 c3
      clear hc hE4' hM4' hO5
      have hcb := bin_ok (13 + (o : Int)) (.int .u8 xk) (.int .u8 xo) (.int .u32 xv) (.int .i64 xw) (.string xn) (.slice xA xs.length xc) (.int .u8 yk) (.int .u8 yo) (.int .u32 yv) (.int .i64 yw) (.string yn) (.slice yA ys.length yc) (by simp [Value.oneCell']) (by simp [Value.oneCell']) W5
      replace hcb := Lib.hid hcb
      have q4 := hE5.x4.cell 0
      have q6 := hE5.x6.cell 0
      simp only [List.getElem?_toArray, List.getElem?_cons_zero] at q4 q6
      have l4 := hE5.x4.lt
      have l6 := hE5.x6.lt
      have l3 := hM5.nx.lt_size
      have c3 := hM5.cell (by omega) hM5.st.c3
      have hE5' := Lib.hid hE5
      have hM5' := Lib.hid hM5
      clear hE5 hM5
      go_wp2_with fail
      refine hcb.out.mono ?_
      rintro xx WF ⟨g, rfl, hbg, hgg, hBx⟩
      have hE5 := hE5'.out
      have hM5 := hM5'.out
      clear q4 q6 l4 l6 l3 c3
      have hxR := hE5.xR.below hBx hE5.size
      have hMF := hM5.new (hE5.le hB) hBx
      have hOF := hE5.on.new hBx
      have hsRi := hE5.size
      have hLF : (Ex.mk ⟨6, (13 + (o : Int)), 0, 0, ⟨#[]⟩⟩ (⟨some ⟨g, 0, none⟩, 2⟩ : Loc) [(Ex.mk ⟨xk, xo, xv, xw, xn⟩ (⟨xA, xc⟩ : Loc) xs), (Ex.mk ⟨yk, yo, yv, yw, yn⟩ (⟨yA, yc⟩ : Loc) ys)]).own eT WF (R + 1) := own_mk ⟨6, (13 + (o : Int)), 0, 0, ⟨#[]⟩⟩ [(Ex.mk ⟨xk, xo, xv, xw, xn⟩ (⟨xA, xc⟩ : Loc) xs), (Ex.mk ⟨yk, yo, yv, yw, yn⟩ (⟨yA, yc⟩ : Loc) ys)] hbg rfl (by omega) (by simp) ⟨(hLx.out.keep (only_of_below [] hBx) (by simp)).base_le hszx, (hLy.out.keep (only_of_below [] hBx) (by simp)).base_le hszy, trivial⟩
      have hLd : (Ex.mk ⟨6, (13 + (o : Int)), 0, 0, ⟨#[]⟩⟩ (⟨some ⟨g, 0, none⟩, 2⟩ : Loc) [(Ex.mk ⟨xk, xo, xv, xw, xn⟩ (⟨xA, xc⟩ : Loc) xs), (Ex.mk ⟨yk, yo, yv, yw, yn⟩ (⟨yA, yc⟩ : Loc) ys)]).fp.Nodup := by
        show (g :: ((Ex.mk ⟨xk, xo, xv, xw, xn⟩ (⟨xA, xc⟩ : Loc) xs).fp ++ ((Ex.mk ⟨yk, yo, yv, yw, yn⟩ (⟨yA, yc⟩ : Loc) ys).fp ++ []))).Nodup
        rw [List.append_nil]
        refine List.nodup_cons.2 ⟨fun hm => ?_, ?_⟩
        · simp only [List.mem_append] at hm
          rcases hm with hm | hm
          · have := (hLx.out.ge g hm).2; omega
          · have := (hLy.out.ge g hm).2; omega
        · exact nodup_at hdx.out hdy.out (B := W4.heap.size) (fun b hb => (hGx.out b hb).2) (fun b hb => (hGy.out b hb).1)
      obtain ⟨hbf, hM9, hO9, hL9⟩ := expr_end (w := w) (Ex.mk ⟨6, (13 + (o : Int)), 0, 0, ⟨#[]⟩⟩ (⟨some ⟨g, 0, none⟩, 2⟩ : Loc) [(Ex.mk ⟨xk, xo, xv, xw, xn⟩ (⟨xA, xc⟩ : Loc) xs), (Ex.mk ⟨yk, yo, yv, yw, yn⟩ (⟨yA, yc⟩ : Loc) ys)]) hxR hMF hOF hB hwR hLF
      simp only [Ex.cells, eT, List.length_cons, List.length_nil, Nat.reduceAdd] at hbf hM9 hO9 hL9
      replace hbf := Lib.hid hbf
      replace hM9 := Lib.hid hM9
      replace hO9 := Lib.hid hO9
      replace hL9 := Lib.hid hL9
      replace hLd := Lib.hid hLd
      try simp only []
      repeat ((fail_if_success (with_reducible refine wpList_store_at 30 (.tmp 8) (.tmp 45) R 0 #[.int .u8 6, .int .u8 (13 + (o : Int)), .int .u32 0, .int .i64 0, .string ⟨#[]⟩, .slice (some ⟨g, 0, none⟩) 2 2] ?_ ?_ ?_ ?_ ?_ ?_)); (first | go_skip | go_guarded | go_step | go_upon | go_simp))
      try rw [hg.out]
      refine wpList_store_at 30 (.tmp 8) (.tmp 45) R 0 #[.int .u8 6, .int .u8 (13 + (o : Int)), .int .u32 0, .int .i64 0, .string ⟨#[]⟩, .slice (some ⟨g, 0, none⟩) 2 2] rfl rfl (there_blk_at hxR (by simp)) (by kernel_rfl) (by simp [Value.oneCell']) ?_
      refine wpList_nil ?_
      try simp only [Act.put, List.setIfInBounds_toArray, List.set_cons_zero, List.set_cons_succ]
      rename (∀ (a : Act) (w : World), Code.wp Try.prog Code.ret _ a w → _) => hkk
      refine hkk _ _ ?_
      refine wp_ret ?_
      try simp only [Exit.then]
      refine bodyPost_ret (results_cell_row rfl _ _ R 30 _ (0, 0) _ rfl hbf.out Try.underlying30 rfl (by kernel_rfl)) rfl ?_
      have hpp := hp.out.trans (exprM_cmp hxk.out hk3.out hw.out hxa.out hxo.out hxx.out hxy.out)
      refine ⟨6, (13 + (o : Int)), 0, 0, ⟨#[]⟩, some ⟨g, 0, none⟩, 2, [(Ex.mk ⟨xk, xo, xv, xw, xn⟩ (⟨xA, xc⟩ : Loc) xs), (Ex.mk ⟨yk, yo, yv, yw, yn⟩ (⟨yA, yc⟩ : Loc) ys)], rfl, ?_, hL9.out, hLd.out, by rw [hpp]; exact hM9.out, hO9.out⟩
      rw [hpp]
      have ex := hpx.out
      have ey := hpy.out
      show Ex.mk _ () (plains [(Ex.mk ⟨xk, xo, xv, xw, xn⟩ (⟨xA, xc⟩ : Loc) xs), (Ex.mk ⟨yk, yo, yv, yw, yn⟩ (⟨yA, yc⟩ : Loc) ys)]) = _
      simp only [plains, ex, ey]
      all_goals (first | rfl | (simp [binE]; done))
    · have hwb : ((width : Int) == 1) = false := by simp; omega
      have hlo := Lib.hid h3
      have hhi : k < 5 := by omega
      replace hhi := Lib.hid hhi
      replace hw : ¬ (k = 3 ∧ width = 1) := by omega
      replace hw := Lib.hid hw
      clear h3 h3e
      obtain ⟨⟨o, r2⟩, hxo⟩ : ∃ p, nx 10 r1 = p := ⟨_, rfl⟩
      have hlto := nx_lt (n := 10) (by omega) r1
      have hc := nextM 10 (by omega) (by omega) hM1 (hE1.le hB)
      rw [hxo] at hc hlto
      dsimp only at hc hlto
      replace hxo := Lib.hid hxo
      replace hc := Lib.hid hc
      have q4 := hE1.x4.cell 0
      have q6 := hE1.x6.cell 0
      simp only [List.getElem?_toArray, List.getElem?_cons_zero] at q4 q6
      have l4 := hE1.x4.lt
      have l6 := hE1.x6.lt
      have l3 := hM1.nx.lt_size
      have c3 := hM1.cell (by omega) hM1.st.c3
      have hE1' := Lib.hid hE1
      have hM1' := Lib.hid hM1
      clear hE1 hM1
      go_wp2_with fail
      refine hc.out.mono ?_
      rintro xx W2 ⟨rfl, hM2, hO2⟩
      have hE2 := hE1'.out.step hO2
      clear q4 q6 l4 l6 l3 c3
      clear hc hE1' hM1' hO2
      obtain ⟨⟨tx, r3⟩, hxx⟩ : ∃ p, exprM e.p n (width) wh r2 = p := ⟨_, rfl⟩
      have hc : Calls Try.prog 69 #[.int .i64 (width : Int), .pointer (some ⟨b4, 0, none⟩), .pointer (some ⟨b6, 0, none⟩), .pointer (some ⟨b7, 0, none⟩)] W2 (EPost B W2 M cs d e (exprM e.p n (width) wh r2)) := by
        have hc0 := sub_ok ih (width) wh (hw1) (hw3) hwh hM2 hB hn10 hE2
        have ew : ((width : Nat) : Int) = (width : Int) := by omega
        rw [ew] at hc0
        exact hc0
      rw [hxx] at hc
      replace hxx := Lib.hid hxx
      replace hc := Lib.hid hc
      have q4 := hE2.x4.cell 0
      have q6 := hE2.x6.cell 0
      simp only [List.getElem?_toArray, List.getElem?_cons_zero] at q4 q6
      have l4 := hE2.x4.lt
      have l6 := hE2.x6.lt
      have l3 := hM2.nx.lt_size
      have c3 := hM2.cell (by omega) hM2.st.c3
      have hE2' := Lib.hid hE2
      have hM2' := Lib.hid hM2
      clear hE2 hM2
      have hszx : R < W2.heap.size := hE2'.out.size
      go_wp2_with fail
      refine hc.out.mono ?_
      rintro xx W3 ⟨xk, xo, xv, xw, xn, xA, xc, xs, rfl, hpx, hLx, hdx, hM3, hO3⟩
      have hE3 := hE2'.out.step hO3
      have hGx := Lib.hid hLx.ge
      have hS3 := hO3.size
      replace hLx := Lib.hid hLx
      replace hdx := Lib.hid hdx
      dsimp only at hpx hM3
      replace hpx := Lib.hid hpx
      clear q4 q6 l4 l6 l3 c3
      clear hc hE2' hM2' hO3
      obtain ⟨⟨ty, r4⟩, hxy⟩ : ∃ p, exprM e.p n (width) wh r3 = p := ⟨_, rfl⟩
      have hc : Calls Try.prog 69 #[.int .i64 (width : Int), .pointer (some ⟨b4, 0, none⟩), .pointer (some ⟨b6, 0, none⟩), .pointer (some ⟨b7, 0, none⟩)] W3 (EPost B W3 M cs d e (exprM e.p n (width) wh r3)) := by
        have hc0 := sub_ok ih (width) wh (hw1) (hw3) hwh hM3 hB hn10 hE3
        have ew : ((width : Nat) : Int) = (width : Int) := by omega
        rw [ew] at hc0
        exact hc0
      rw [hxy] at hc
      replace hxy := Lib.hid hxy
      replace hc := Lib.hid hc
      have q4 := hE3.x4.cell 0
      have q6 := hE3.x6.cell 0
      simp only [List.getElem?_toArray, List.getElem?_cons_zero] at q4 q6
      have l4 := hE3.x4.lt
      have l6 := hE3.x6.lt
      have l3 := hM3.nx.lt_size
      have c3 := hM3.cell (by omega) hM3.st.c3
      have hE3' := Lib.hid hE3
      have hM3' := Lib.hid hM3
      clear hE3 hM3
      have hszy : R < W3.heap.size := hE3'.out.size
      go_wp2_with fail
      refine hc.out.mono ?_
      rintro xx W4 ⟨yk, yo, yv, yw, yn, yA, yc, ys, rfl, hpy, hLy, hdy, hM4, hO4⟩
      have hE4 := hE3'.out.step hO4
      have hGy := Lib.hid hLy.ge
      have hS4 := hO4.size
      replace hLy := Lib.hid hLy
      replace hdy := Lib.hid hdy
      dsimp only at hpy hM4
      replace hpy := Lib.hid hpy
      replace hLx := Lib.hid (hLx.out.keep hO4 (fun b hb hm => by rw [List.mem_singleton] at hm; have := (hGx.out b hb).1; have := hszx; have := hE3'.out.size; have := hE3'.out.ml; have := hwR; omega))
      clear q4 q6 l4 l6 l3 c3
      clear hc hE3' hM3' hO4
      have hcb := bin_ok (3 + (o : Int)) (.int .u8 xk) (.int .u8 xo) (.int .u32 xv) (.int .i64 xw) (.string xn) (.slice xA xs.length xc) (.int .u8 yk) (.int .u8 yo) (.int .u32 yv) (.int .i64 yw) (.string yn) (.slice yA ys.length yc) (by simp [Value.oneCell']) (by simp [Value.oneCell']) W4
      replace hcb := Lib.hid hcb
      have q4 := hE4.x4.cell 0
      have q6 := hE4.x6.cell 0
      simp only [List.getElem?_toArray, List.getElem?_cons_zero] at q4 q6
      have l4 := hE4.x4.lt
      have l6 := hE4.x6.lt
      have l3 := hM4.nx.lt_size
      have c3 := hM4.cell (by omega) hM4.st.c3
      have hE4' := Lib.hid hE4
      have hM4' := Lib.hid hM4
      clear hE4 hM4
      go_wp2_with fail
      refine hcb.out.mono ?_
      rintro xx WF ⟨g, rfl, hbg, hgg, hBx⟩
      have hE4 := hE4'.out
      have hM4 := hM4'.out
      clear q4 q6 l4 l6 l3 c3
      have hxR := hE4.xR.below hBx hE4.size
      have hMF := hM4.new (hE4.le hB) hBx
      have hOF := hE4.on.new hBx
      have hsRi := hE4.size
      have hLF : (Ex.mk ⟨6, (3 + (o : Int)), 0, 0, ⟨#[]⟩⟩ (⟨some ⟨g, 0, none⟩, 2⟩ : Loc) [(Ex.mk ⟨xk, xo, xv, xw, xn⟩ (⟨xA, xc⟩ : Loc) xs), (Ex.mk ⟨yk, yo, yv, yw, yn⟩ (⟨yA, yc⟩ : Loc) ys)]).own eT WF (R + 1) := own_mk ⟨6, (3 + (o : Int)), 0, 0, ⟨#[]⟩⟩ [(Ex.mk ⟨xk, xo, xv, xw, xn⟩ (⟨xA, xc⟩ : Loc) xs), (Ex.mk ⟨yk, yo, yv, yw, yn⟩ (⟨yA, yc⟩ : Loc) ys)] hbg rfl (by omega) (by simp) ⟨(hLx.out.keep (only_of_below [] hBx) (by simp)).base_le hszx, (hLy.out.keep (only_of_below [] hBx) (by simp)).base_le hszy, trivial⟩
      have hLd : (Ex.mk ⟨6, (3 + (o : Int)), 0, 0, ⟨#[]⟩⟩ (⟨some ⟨g, 0, none⟩, 2⟩ : Loc) [(Ex.mk ⟨xk, xo, xv, xw, xn⟩ (⟨xA, xc⟩ : Loc) xs), (Ex.mk ⟨yk, yo, yv, yw, yn⟩ (⟨yA, yc⟩ : Loc) ys)]).fp.Nodup := by
        show (g :: ((Ex.mk ⟨xk, xo, xv, xw, xn⟩ (⟨xA, xc⟩ : Loc) xs).fp ++ ((Ex.mk ⟨yk, yo, yv, yw, yn⟩ (⟨yA, yc⟩ : Loc) ys).fp ++ []))).Nodup
        rw [List.append_nil]
        refine List.nodup_cons.2 ⟨fun hm => ?_, ?_⟩
        · simp only [List.mem_append] at hm
          rcases hm with hm | hm
          · have := (hLx.out.ge g hm).2; omega
          · have := (hLy.out.ge g hm).2; omega
        · exact nodup_at hdx.out hdy.out (B := W3.heap.size) (fun b hb => (hGx.out b hb).2) (fun b hb => (hGy.out b hb).1)
      obtain ⟨hbf, hM9, hO9, hL9⟩ := expr_end (w := w) (Ex.mk ⟨6, (3 + (o : Int)), 0, 0, ⟨#[]⟩⟩ (⟨some ⟨g, 0, none⟩, 2⟩ : Loc) [(Ex.mk ⟨xk, xo, xv, xw, xn⟩ (⟨xA, xc⟩ : Loc) xs), (Ex.mk ⟨yk, yo, yv, yw, yn⟩ (⟨yA, yc⟩ : Loc) ys)]) hxR hMF hOF hB hwR hLF
      simp only [Ex.cells, eT, List.length_cons, List.length_nil, Nat.reduceAdd] at hbf hM9 hO9 hL9
      replace hbf := Lib.hid hbf
      replace hM9 := Lib.hid hM9
      replace hO9 := Lib.hid hO9
      replace hL9 := Lib.hid hL9
      replace hLd := Lib.hid hLd
      try simp only []
      repeat ((fail_if_success (with_reducible refine wpList_store_at 30 (.tmp 8) (.tmp 60) R 0 #[.int .u8 6, .int .u8 (3 + (o : Int)), .int .u32 0, .int .i64 0, .string ⟨#[]⟩, .slice (some ⟨g, 0, none⟩) 2 2] ?_ ?_ ?_ ?_ ?_ ?_)); (first | go_skip | go_guarded | go_step | go_upon | go_simp))
      try rw [hg.out]
      refine wpList_store_at 30 (.tmp 8) (.tmp 60) R 0 #[.int .u8 6, .int .u8 (3 + (o : Int)), .int .u32 0, .int .i64 0, .string ⟨#[]⟩, .slice (some ⟨g, 0, none⟩) 2 2] rfl rfl (there_blk_at hxR (by simp)) (by kernel_rfl) (by simp [Value.oneCell']) ?_
      refine wpList_nil ?_
      try simp only [Act.put, List.setIfInBounds_toArray, List.set_cons_zero, List.set_cons_succ]
      rename (∀ (a : Act) (w : World), Code.wp Try.prog Code.ret _ a w → _) => hkk
      refine hkk _ _ ?_
      refine wp_ret ?_
      try simp only [Exit.then]
      refine bodyPost_ret (results_cell_row rfl _ _ R 30 _ (0, 0) _ rfl hbf.out Try.underlying30 rfl (by kernel_rfl)) rfl ?_
      have hpp := hp.out.trans (exprM_bin hxk.out hlo.out hhi.out hw.out hxo.out hxx.out hxy.out)
      refine ⟨6, (3 + (o : Int)), 0, 0, ⟨#[]⟩, some ⟨g, 0, none⟩, 2, [(Ex.mk ⟨xk, xo, xv, xw, xn⟩ (⟨xA, xc⟩ : Loc) xs), (Ex.mk ⟨yk, yo, yv, yw, yn⟩ (⟨yA, yc⟩ : Loc) ys)], rfl, ?_, hL9.out, hLd.out, by rw [hpp]; exact hM9.out, hO9.out⟩
      rw [hpp]
      have ex := hpx.out
      have ey := hpy.out
      show Ex.mk _ () (plains [(Ex.mk ⟨xk, xo, xv, xw, xn⟩ (⟨xA, xc⟩ : Loc) xs), (Ex.mk ⟨yk, yo, yv, yw, yn⟩ (⟨yA, yc⟩ : Loc) ys)]) = _
      simp only [plains, ex, ey]
      all_goals (first | rfl | (simp [binE]; done))
  by_cases h4e : k = 4
  · obtain rfl : kI = 4 := by have := hkI'.out; omega
    have hlo := Lib.hid h3
    have hhi : k < 5 := by omega
    replace hhi := Lib.hid hhi
    have hw : ¬ (k = 3 ∧ width = 1) := by omega
    replace hw := Lib.hid hw
    clear h3 h3e h4e
    obtain ⟨⟨o, r2⟩, hxo⟩ : ∃ p, nx 10 r1 = p := ⟨_, rfl⟩
    have hlto := nx_lt (n := 10) (by omega) r1
    have hc := nextM 10 (by omega) (by omega) hM1 (hE1.le hB)
    rw [hxo] at hc hlto
    dsimp only at hc hlto
    replace hxo := Lib.hid hxo
    replace hc := Lib.hid hc
    have q4 := hE1.x4.cell 0
    have q6 := hE1.x6.cell 0
    simp only [List.getElem?_toArray, List.getElem?_cons_zero] at q4 q6
    have l4 := hE1.x4.lt
    have l6 := hE1.x6.lt
    have l3 := hM1.nx.lt_size
    have c3 := hM1.cell (by omega) hM1.st.c3
    have hE1' := Lib.hid hE1
    have hM1' := Lib.hid hM1
    clear hE1 hM1
    go_wp2_with fail
    refine hc.out.mono ?_
    rintro xx W2 ⟨rfl, hM2, hO2⟩
    have hE2 := hE1'.out.step hO2
    clear q4 q6 l4 l6 l3 c3
    clear hc hE1' hM1' hO2
    obtain ⟨⟨tx, r3⟩, hxx⟩ : ∃ p, exprM e.p n (width) wh r2 = p := ⟨_, rfl⟩
    have hc : Calls Try.prog 69 #[.int .i64 (width : Int), .pointer (some ⟨b4, 0, none⟩), .pointer (some ⟨b6, 0, none⟩), .pointer (some ⟨b7, 0, none⟩)] W2 (EPost B W2 M cs d e (exprM e.p n (width) wh r2)) := by
      have hc0 := sub_ok ih (width) wh (hw1) (hw3) hwh hM2 hB hn10 hE2
      have ew : ((width : Nat) : Int) = (width : Int) := by omega
      rw [ew] at hc0
      exact hc0
    rw [hxx] at hc
    replace hxx := Lib.hid hxx
    replace hc := Lib.hid hc
    have q4 := hE2.x4.cell 0
    have q6 := hE2.x6.cell 0
    simp only [List.getElem?_toArray, List.getElem?_cons_zero] at q4 q6
    have l4 := hE2.x4.lt
    have l6 := hE2.x6.lt
    have l3 := hM2.nx.lt_size
    have c3 := hM2.cell (by omega) hM2.st.c3
    have hE2' := Lib.hid hE2
    have hM2' := Lib.hid hM2
    clear hE2 hM2
    have hszx : R < W2.heap.size := hE2'.out.size
    go_wp2_with fail
    refine hc.out.mono ?_
    rintro xx W3 ⟨xk, xo, xv, xw, xn, xA, xc, xs, rfl, hpx, hLx, hdx, hM3, hO3⟩
    have hE3 := hE2'.out.step hO3
    have hGx := Lib.hid hLx.ge
    have hS3 := hO3.size
    replace hLx := Lib.hid hLx
    replace hdx := Lib.hid hdx
    dsimp only at hpx hM3
    replace hpx := Lib.hid hpx
    clear q4 q6 l4 l6 l3 c3
    clear hc hE2' hM2' hO3
    obtain ⟨⟨ty, r4⟩, hxy⟩ : ∃ p, exprM e.p n (width) wh r3 = p := ⟨_, rfl⟩
    have hc : Calls Try.prog 69 #[.int .i64 (width : Int), .pointer (some ⟨b4, 0, none⟩), .pointer (some ⟨b6, 0, none⟩), .pointer (some ⟨b7, 0, none⟩)] W3 (EPost B W3 M cs d e (exprM e.p n (width) wh r3)) := by
      have hc0 := sub_ok ih (width) wh (hw1) (hw3) hwh hM3 hB hn10 hE3
      have ew : ((width : Nat) : Int) = (width : Int) := by omega
      rw [ew] at hc0
      exact hc0
    rw [hxy] at hc
    replace hxy := Lib.hid hxy
    replace hc := Lib.hid hc
    have q4 := hE3.x4.cell 0
    have q6 := hE3.x6.cell 0
    simp only [List.getElem?_toArray, List.getElem?_cons_zero] at q4 q6
    have l4 := hE3.x4.lt
    have l6 := hE3.x6.lt
    have l3 := hM3.nx.lt_size
    have c3 := hM3.cell (by omega) hM3.st.c3
    have hE3' := Lib.hid hE3
    have hM3' := Lib.hid hM3
    clear hE3 hM3
    have hszy : R < W3.heap.size := hE3'.out.size
    go_wp2_with fail
    refine hc.out.mono ?_
    rintro xx W4 ⟨yk, yo, yv, yw, yn, yA, yc, ys, rfl, hpy, hLy, hdy, hM4, hO4⟩
    have hE4 := hE3'.out.step hO4
    have hGy := Lib.hid hLy.ge
    have hS4 := hO4.size
    replace hLy := Lib.hid hLy
    replace hdy := Lib.hid hdy
    dsimp only at hpy hM4
    replace hpy := Lib.hid hpy
    replace hLx := Lib.hid (hLx.out.keep hO4 (fun b hb hm => by rw [List.mem_singleton] at hm; have := (hGx.out b hb).1; have := hszx; have := hE3'.out.size; have := hE3'.out.ml; have := hwR; omega))
    clear q4 q6 l4 l6 l3 c3
    clear hc hE3' hM3' hO4
    have hcb := bin_ok (3 + (o : Int)) (.int .u8 xk) (.int .u8 xo) (.int .u32 xv) (.int .i64 xw) (.string xn) (.slice xA xs.length xc) (.int .u8 yk) (.int .u8 yo) (.int .u32 yv) (.int .i64 yw) (.string yn) (.slice yA ys.length yc) (by simp [Value.oneCell']) (by simp [Value.oneCell']) W4
    replace hcb := Lib.hid hcb
    have q4 := hE4.x4.cell 0
    have q6 := hE4.x6.cell 0
    simp only [List.getElem?_toArray, List.getElem?_cons_zero] at q4 q6
    have l4 := hE4.x4.lt
    have l6 := hE4.x6.lt
    have l3 := hM4.nx.lt_size
    have c3 := hM4.cell (by omega) hM4.st.c3
    have hE4' := Lib.hid hE4
    have hM4' := Lib.hid hM4
    clear hE4 hM4
    go_wp2_with fail
    refine hcb.out.mono ?_
    rintro xx WF ⟨g, rfl, hbg, hgg, hBx⟩
    have hE4 := hE4'.out
    have hM4 := hM4'.out
    clear q4 q6 l4 l6 l3 c3
    have hxR := hE4.xR.below hBx hE4.size
    have hMF := hM4.new (hE4.le hB) hBx
    have hOF := hE4.on.new hBx
    have hsRi := hE4.size
    have hLF : (Ex.mk ⟨6, (3 + (o : Int)), 0, 0, ⟨#[]⟩⟩ (⟨some ⟨g, 0, none⟩, 2⟩ : Loc) [(Ex.mk ⟨xk, xo, xv, xw, xn⟩ (⟨xA, xc⟩ : Loc) xs), (Ex.mk ⟨yk, yo, yv, yw, yn⟩ (⟨yA, yc⟩ : Loc) ys)]).own eT WF (R + 1) := own_mk ⟨6, (3 + (o : Int)), 0, 0, ⟨#[]⟩⟩ [(Ex.mk ⟨xk, xo, xv, xw, xn⟩ (⟨xA, xc⟩ : Loc) xs), (Ex.mk ⟨yk, yo, yv, yw, yn⟩ (⟨yA, yc⟩ : Loc) ys)] hbg rfl (by omega) (by simp) ⟨(hLx.out.keep (only_of_below [] hBx) (by simp)).base_le hszx, (hLy.out.keep (only_of_below [] hBx) (by simp)).base_le hszy, trivial⟩
    have hLd : (Ex.mk ⟨6, (3 + (o : Int)), 0, 0, ⟨#[]⟩⟩ (⟨some ⟨g, 0, none⟩, 2⟩ : Loc) [(Ex.mk ⟨xk, xo, xv, xw, xn⟩ (⟨xA, xc⟩ : Loc) xs), (Ex.mk ⟨yk, yo, yv, yw, yn⟩ (⟨yA, yc⟩ : Loc) ys)]).fp.Nodup := by
      show (g :: ((Ex.mk ⟨xk, xo, xv, xw, xn⟩ (⟨xA, xc⟩ : Loc) xs).fp ++ ((Ex.mk ⟨yk, yo, yv, yw, yn⟩ (⟨yA, yc⟩ : Loc) ys).fp ++ []))).Nodup
      rw [List.append_nil]
      refine List.nodup_cons.2 ⟨fun hm => ?_, ?_⟩
      · simp only [List.mem_append] at hm
        rcases hm with hm | hm
        · have := (hLx.out.ge g hm).2; omega
        · have := (hLy.out.ge g hm).2; omega
      · exact nodup_at hdx.out hdy.out (B := W3.heap.size) (fun b hb => (hGx.out b hb).2) (fun b hb => (hGy.out b hb).1)
    obtain ⟨hbf, hM9, hO9, hL9⟩ := expr_end (w := w) (Ex.mk ⟨6, (3 + (o : Int)), 0, 0, ⟨#[]⟩⟩ (⟨some ⟨g, 0, none⟩, 2⟩ : Loc) [(Ex.mk ⟨xk, xo, xv, xw, xn⟩ (⟨xA, xc⟩ : Loc) xs), (Ex.mk ⟨yk, yo, yv, yw, yn⟩ (⟨yA, yc⟩ : Loc) ys)]) hxR hMF hOF hB hwR hLF
    simp only [Ex.cells, eT, List.length_cons, List.length_nil, Nat.reduceAdd] at hbf hM9 hO9 hL9
    replace hbf := Lib.hid hbf
    replace hM9 := Lib.hid hM9
    replace hO9 := Lib.hid hO9
    replace hL9 := Lib.hid hL9
    replace hLd := Lib.hid hLd
    try simp only []
    repeat ((fail_if_success (with_reducible refine wpList_store_at 30 (.tmp 8) (.tmp 60) R 0 #[.int .u8 6, .int .u8 (3 + (o : Int)), .int .u32 0, .int .i64 0, .string ⟨#[]⟩, .slice (some ⟨g, 0, none⟩) 2 2] ?_ ?_ ?_ ?_ ?_ ?_)); (first | go_skip | go_guarded | go_step | go_upon | go_simp))
    try rw [hg.out]
    refine wpList_store_at 30 (.tmp 8) (.tmp 60) R 0 #[.int .u8 6, .int .u8 (3 + (o : Int)), .int .u32 0, .int .i64 0, .string ⟨#[]⟩, .slice (some ⟨g, 0, none⟩) 2 2] rfl rfl (there_blk_at hxR (by simp)) (by kernel_rfl) (by simp [Value.oneCell']) ?_
    refine wpList_nil ?_
    try simp only [Act.put, List.setIfInBounds_toArray, List.set_cons_zero, List.set_cons_succ]
    rename (∀ (a : Act) (w : World), Code.wp Try.prog Code.ret _ a w → _) => hkk
    refine hkk _ _ ?_
    refine wp_ret ?_
    try simp only [Exit.then]
    refine bodyPost_ret (results_cell_row rfl _ _ R 30 _ (0, 0) _ rfl hbf.out Try.underlying30 rfl (by kernel_rfl)) rfl ?_
    have hpp := hp.out.trans (exprM_bin hxk.out hlo.out hhi.out hw.out hxo.out hxx.out hxy.out)
    refine ⟨6, (3 + (o : Int)), 0, 0, ⟨#[]⟩, some ⟨g, 0, none⟩, 2, [(Ex.mk ⟨xk, xo, xv, xw, xn⟩ (⟨xA, xc⟩ : Loc) xs), (Ex.mk ⟨yk, yo, yv, yw, yn⟩ (⟨yA, yc⟩ : Loc) ys)], rfl, ?_, hL9.out, hLd.out, by rw [hpp]; exact hM9.out, hO9.out⟩
    rw [hpp]
    have ex := hpx.out
    have ey := hpy.out
    show Ex.mk _ () (plains [(Ex.mk ⟨xk, xo, xv, xw, xn⟩ (⟨xA, xc⟩ : Loc) xs), (Ex.mk ⟨yk, yo, yv, yw, yn⟩ (⟨yA, yc⟩ : Loc) ys)]) = _
    simp only [plains, ex, ey]
    all_goals (first | rfl | (simp [binE]; done))
  by_cases h5e : k = 5
  · obtain rfl : k = 5 := h5e
    obtain rfl : kI = 5 := by simpa using hkI'.out
    clear h3 h3e h4e
    obtain ⟨⟨tx, r2⟩, hxx⟩ : ∃ p, exprM e.p n (1) wh r1 = p := ⟨_, rfl⟩
    have hc : Calls Try.prog 69 #[.int .i64 1, .pointer (some ⟨b4, 0, none⟩), .pointer (some ⟨b6, 0, none⟩), .pointer (some ⟨b7, 0, none⟩)] W1 (EPost B W1 M cs d e (exprM e.p n (1) wh r1)) := by
      have hc0 := sub_ok ih (1) wh (by omega) (by omega) hwh hM1 hB hn10 hE1
      have ew : ((1 : Nat) : Int) = 1 := by omega
      rw [ew] at hc0
      exact hc0
    rw [hxx] at hc
    replace hxx := Lib.hid hxx
    replace hc := Lib.hid hc
    have q4 := hE1.x4.cell 0
    have q6 := hE1.x6.cell 0
    simp only [List.getElem?_toArray, List.getElem?_cons_zero] at q4 q6
    have l4 := hE1.x4.lt
    have l6 := hE1.x6.lt
    have l3 := hM1.nx.lt_size
    have c3 := hM1.cell (by omega) hM1.st.c3
    have hE1' := Lib.hid hE1
    have hM1' := Lib.hid hM1
    clear hE1 hM1
    have hszx : R < W1.heap.size := hE1'.out.size
    go_wp2_with fail
    refine hc.out.mono ?_
    rintro xx W2 ⟨xk, xo, xv, xw, xn, xA, xc, xs, rfl, hpx, hLx, hdx, hM2, hO2⟩
    have hE2 := hE1'.out.step hO2
    have hGx := Lib.hid hLx.ge
    have hS2 := hO2.size
    replace hLx := Lib.hid hLx
    replace hdx := Lib.hid hdx
    dsimp only at hpx hM2
    replace hpx := Lib.hid hpx
    clear q4 q6 l4 l6 l3 c3
    clear hc hE1' hM1' hO2
    obtain ⟨⟨ty, r3⟩, hxy⟩ : ∃ p, exprM e.p n (width) wh r2 = p := ⟨_, rfl⟩
    have hc : Calls Try.prog 69 #[.int .i64 (width : Int), .pointer (some ⟨b4, 0, none⟩), .pointer (some ⟨b6, 0, none⟩), .pointer (some ⟨b7, 0, none⟩)] W2 (EPost B W2 M cs d e (exprM e.p n (width) wh r2)) := by
      have hc0 := sub_ok ih (width) wh (hw1) (hw3) hwh hM2 hB hn10 hE2
      have ew : ((width : Nat) : Int) = (width : Int) := by omega
      rw [ew] at hc0
      exact hc0
    rw [hxy] at hc
    replace hxy := Lib.hid hxy
    replace hc := Lib.hid hc
    have q4 := hE2.x4.cell 0
    have q6 := hE2.x6.cell 0
    simp only [List.getElem?_toArray, List.getElem?_cons_zero] at q4 q6
    have l4 := hE2.x4.lt
    have l6 := hE2.x6.lt
    have l3 := hM2.nx.lt_size
    have c3 := hM2.cell (by omega) hM2.st.c3
    have hE2' := Lib.hid hE2
    have hM2' := Lib.hid hM2
    clear hE2 hM2
    have hszy : R < W2.heap.size := hE2'.out.size
    go_wp2_with fail
    refine hc.out.mono ?_
    rintro xx W3 ⟨yk, yo, yv, yw, yn, yA, yc, ys, rfl, hpy, hLy, hdy, hM3, hO3⟩
    have hE3 := hE2'.out.step hO3
    have hGy := Lib.hid hLy.ge
    have hS3 := hO3.size
    replace hLy := Lib.hid hLy
    replace hdy := Lib.hid hdy
    dsimp only at hpy hM3
    replace hpy := Lib.hid hpy
    replace hLx := Lib.hid (hLx.out.keep hO3 (fun b hb hm => by rw [List.mem_singleton] at hm; have := (hGx.out b hb).1; have := hszx; have := hE2'.out.size; have := hE2'.out.ml; have := hwR; omega))
    clear q4 q6 l4 l6 l3 c3
    clear hc hE2' hM2' hO3
    obtain ⟨⟨tz, r4⟩, hxz⟩ : ∃ p, exprM e.p n (width) wh r3 = p := ⟨_, rfl⟩
    have hc : Calls Try.prog 69 #[.int .i64 (width : Int), .pointer (some ⟨b4, 0, none⟩), .pointer (some ⟨b6, 0, none⟩), .pointer (some ⟨b7, 0, none⟩)] W3 (EPost B W3 M cs d e (exprM e.p n (width) wh r3)) := by
      have hc0 := sub_ok ih (width) wh (hw1) (hw3) hwh hM3 hB hn10 hE3
      have ew : ((width : Nat) : Int) = (width : Int) := by omega
      rw [ew] at hc0
      exact hc0
    rw [hxz] at hc
    replace hxz := Lib.hid hxz
    replace hc := Lib.hid hc
    have q4 := hE3.x4.cell 0
    have q6 := hE3.x6.cell 0
    simp only [List.getElem?_toArray, List.getElem?_cons_zero] at q4 q6
    have l4 := hE3.x4.lt
    have l6 := hE3.x6.lt
    have l3 := hM3.nx.lt_size
    have c3 := hM3.cell (by omega) hM3.st.c3
    have hE3' := Lib.hid hE3
    have hM3' := Lib.hid hM3
    clear hE3 hM3
    have hszz : R < W3.heap.size := hE3'.out.size
    go_wp2_with fail
    refine hc.out.mono ?_
    rintro xx W4 ⟨zk, zo, zv, zw, zn, zA, zc, zs, rfl, hpz, hLz, hdz, hM4, hO4⟩
    have hE4 := hE3'.out.step hO4
    have hGz := Lib.hid hLz.ge
    have hS4 := hO4.size
    replace hLz := Lib.hid hLz
    replace hdz := Lib.hid hdz
    dsimp only at hpz hM4
    replace hpz := Lib.hid hpz
    replace hLx := Lib.hid (hLx.out.keep hO4 (fun b hb hm => by rw [List.mem_singleton] at hm; have := (hGx.out b hb).1; have := hszx; have := hE3'.out.size; have := hE3'.out.ml; have := hwR; omega))
    replace hLy := Lib.hid (hLy.out.keep hO4 (fun b hb hm => by rw [List.mem_singleton] at hm; have := (hGy.out b hb).1; have := hszy; have := hE3'.out.size; have := hE3'.out.ml; have := hwR; omega))
    clear q4 q6 l4 l6 l3 c3
    clear hc hE3' hM3' hO4
    have hBx := (Below.refl _ W4).alloc (Nat.le_refl _) (.cells #[.int .u8 xk, .int .u8 xo, .int .u32 xv, .int .i64 xw, .string xn, .slice xA xs.length xc, .int .u8 yk, .int .u8 yo, .int .u32 yv, .int .i64 yw, .string yn, .slice yA ys.length yc, .int .u8 zk, .int .u8 zo, .int .u32 zv, .int .i64 zw, .string zn, .slice zA zs.length zc] 30)
    have hbg := Blk.new W4 30 #[.int .u8 xk, .int .u8 xo, .int .u32 xv, .int .i64 xw, .string xn, .slice xA xs.length xc, .int .u8 yk, .int .u8 yo, .int .u32 yv, .int .i64 yw, .string yn, .slice yA ys.length yc, .int .u8 zk, .int .u8 zo, .int .u32 zv, .int .i64 zw, .string zn, .slice zA zs.length zc]
    obtain ⟨g, hg⟩ : ∃ g, W4.heap.size = g := ⟨_, rfl⟩
    have hgg : W4.heap.size ≤ g := by omega
    rw [hg] at hbg
    replace hg := Lib.hid hg
    have hxR := hE4.xR.below hBx hE4.size
    have hMF := hM4.new (hE4.le hB) hBx
    have hOF := hE4.on.new hBx
    have hsRi := hE4.size
    have hLF : (Ex.mk ⟨7, 0, 0, 0, ⟨#[]⟩⟩ (⟨some ⟨g, 0, none⟩, 3⟩ : Loc) [(Ex.mk ⟨xk, xo, xv, xw, xn⟩ (⟨xA, xc⟩ : Loc) xs), (Ex.mk ⟨yk, yo, yv, yw, yn⟩ (⟨yA, yc⟩ : Loc) ys), (Ex.mk ⟨zk, zo, zv, zw, zn⟩ (⟨zA, zc⟩ : Loc) zs)]).own eT (W4.alloc (.cells #[.int .u8 xk, .int .u8 xo, .int .u32 xv, .int .i64 xw, .string xn, .slice xA xs.length xc, .int .u8 yk, .int .u8 yo, .int .u32 yv, .int .i64 yw, .string yn, .slice yA ys.length yc, .int .u8 zk, .int .u8 zo, .int .u32 zv, .int .i64 zw, .string zn, .slice zA zs.length zc] 30)) (R + 1) := own_mk ⟨7, 0, 0, 0, ⟨#[]⟩⟩ [(Ex.mk ⟨xk, xo, xv, xw, xn⟩ (⟨xA, xc⟩ : Loc) xs), (Ex.mk ⟨yk, yo, yv, yw, yn⟩ (⟨yA, yc⟩ : Loc) ys), (Ex.mk ⟨zk, zo, zv, zw, zn⟩ (⟨zA, zc⟩ : Loc) zs)] hbg rfl (by omega) (by simp) ⟨(hLx.out.keep (only_of_below [] hBx) (by simp)).base_le hszx, (hLy.out.keep (only_of_below [] hBx) (by simp)).base_le hszy, (hLz.out.keep (only_of_below [] hBx) (by simp)).base_le hszz, trivial⟩
    have hLd : (Ex.mk ⟨7, 0, 0, 0, ⟨#[]⟩⟩ (⟨some ⟨g, 0, none⟩, 3⟩ : Loc) [(Ex.mk ⟨xk, xo, xv, xw, xn⟩ (⟨xA, xc⟩ : Loc) xs), (Ex.mk ⟨yk, yo, yv, yw, yn⟩ (⟨yA, yc⟩ : Loc) ys), (Ex.mk ⟨zk, zo, zv, zw, zn⟩ (⟨zA, zc⟩ : Loc) zs)]).fp.Nodup := by
      show (g :: ((Ex.mk ⟨xk, xo, xv, xw, xn⟩ (⟨xA, xc⟩ : Loc) xs).fp ++ ((Ex.mk ⟨yk, yo, yv, yw, yn⟩ (⟨yA, yc⟩ : Loc) ys).fp ++ ((Ex.mk ⟨zk, zo, zv, zw, zn⟩ (⟨zA, zc⟩ : Loc) zs).fp ++ [])))).Nodup
      rw [List.append_nil]
      refine List.nodup_cons.2 ⟨fun hm => ?_, ?_⟩
      · simp only [List.mem_append] at hm
        rcases hm with hm | hm | hm
        · have := (hLx.out.ge g hm).2; omega
        · have := (hLy.out.ge g hm).2; omega
        · have := (hLz.out.ge g hm).2; omega
      · refine nodup_at hdx.out (nodup_at hdy.out hdz.out (B := W3.heap.size) (fun b hb => (hGy.out b hb).2) (fun b hb => (hGz.out b hb).1)) (B := W2.heap.size) (fun b hb => (hGx.out b hb).2) (fun b hb => ?_)
        rcases List.mem_append.1 hb with hb | hb
        · exact (hGy.out b hb).1
        · have := (hGz.out b hb).1; omega
    have q4 := hE4.x4.cell 0
    have q6 := hE4.x6.cell 0
    simp only [List.getElem?_toArray, List.getElem?_cons_zero] at q4 q6
    have l4 := hE4.x4.lt
    have l6 := hE4.x6.lt
    have l3 := hM4.nx.lt_size
    have c3 := hM4.cell (by omega) hM4.st.c3
    have hE4' := Lib.hid hE4
    have hM4' := Lib.hid hM4
    clear hE4 hM4
    obtain ⟨hbf, hM9, hO9, hL9⟩ := expr_end (w := w) (Ex.mk ⟨7, 0, 0, 0, ⟨#[]⟩⟩ (⟨some ⟨g, 0, none⟩, 3⟩ : Loc) [(Ex.mk ⟨xk, xo, xv, xw, xn⟩ (⟨xA, xc⟩ : Loc) xs), (Ex.mk ⟨yk, yo, yv, yw, yn⟩ (⟨yA, yc⟩ : Loc) ys), (Ex.mk ⟨zk, zo, zv, zw, zn⟩ (⟨zA, zc⟩ : Loc) zs)]) hxR hMF hOF hB hwR hLF
    simp only [Ex.cells, eT, List.length_cons, List.length_nil, Nat.reduceAdd] at hbf hM9 hO9 hL9
    replace hbf := Lib.hid hbf
    replace hM9 := Lib.hid hM9
    replace hO9 := Lib.hid hO9
    replace hL9 := Lib.hid hL9
    replace hLd := Lib.hid hLd
    try simp only []
    repeat ((fail_if_success (with_reducible refine wpList_store_at 30 (.tmp 8) (.tmp 73) R 0 #[.int .u8 7, .int .u8 0, .int .u32 0, .int .i64 0, .string ⟨#[]⟩, .slice (some ⟨g, 0, none⟩) 3 3] ?_ ?_ ?_ ?_ ?_ ?_)); (first | go_skip | go_guarded | go_step | go_upon | go_simp))
    try rw [hg.out]
    refine wpList_store_at 30 (.tmp 8) (.tmp 73) R 0 #[.int .u8 7, .int .u8 0, .int .u32 0, .int .i64 0, .string ⟨#[]⟩, .slice (some ⟨g, 0, none⟩) 3 3] rfl rfl (there_blk_at hxR (by simp)) (by kernel_rfl) (by simp [Value.oneCell']) ?_
    refine wpList_nil ?_
    try simp only [Act.put, List.setIfInBounds_toArray, List.set_cons_zero, List.set_cons_succ]
    rename (∀ (a : Act) (w : World), Code.wp Try.prog Code.ret _ a w → _) => hkk
    refine hkk _ _ ?_
    refine wp_ret ?_
    try simp only [Exit.then]
    refine bodyPost_ret (results_cell_row rfl _ _ R 30 _ (0, 0) _ rfl hbf.out Try.underlying30 rfl (by kernel_rfl)) rfl ?_
    have hpp := hp.out.trans (exprM_mux hxk.out hxx.out hxy.out hxz.out)
    refine ⟨7, 0, 0, 0, ⟨#[]⟩, some ⟨g, 0, none⟩, 3, [(Ex.mk ⟨xk, xo, xv, xw, xn⟩ (⟨xA, xc⟩ : Loc) xs), (Ex.mk ⟨yk, yo, yv, yw, yn⟩ (⟨yA, yc⟩ : Loc) ys), (Ex.mk ⟨zk, zo, zv, zw, zn⟩ (⟨zA, zc⟩ : Loc) zs)], rfl, ?_, hL9.out, hLd.out, by rw [hpp]; exact hM9.out, hO9.out⟩
    rw [hpp]
    have ex := hpx.out
    have ey := hpy.out
    have ez := hpz.out
    show Ex.mk _ () (plains [(Ex.mk ⟨xk, xo, xv, xw, xn⟩ (⟨xA, xc⟩ : Loc) xs), (Ex.mk ⟨yk, yo, yv, yw, yn⟩ (⟨yA, yc⟩ : Loc) ys), (Ex.mk ⟨zk, zo, zv, zw, zn⟩ (⟨zA, zc⟩ : Loc) zs)]) = _
    simp only [plains, ex, ey, ez]
    all_goals (first | rfl | (simp [binE]; done))
  by_cases h6e : k = 6
  · obtain rfl : k = 6 := h6e
    obtain rfl : kI = 6 := by simpa using hkI'.out
    clear h3 h3e h4e h5e
    obtain ⟨⟨a, r2⟩, hxa⟩ : ∃ p, nx 2 r1 = p := ⟨_, rfl⟩
    have hlta := nx_lt (n := 2) (by omega) r1
    have hc := nextM 2 (by omega) (by omega) hM1 (hE1.le hB)
    rw [hxa] at hc hlta
    dsimp only at hc hlta
    replace hxa := Lib.hid hxa
    replace hc := Lib.hid hc
    have q4 := hE1.x4.cell 0
    have q6 := hE1.x6.cell 0
    simp only [List.getElem?_toArray, List.getElem?_cons_zero] at q4 q6
    have l4 := hE1.x4.lt
    have l6 := hE1.x6.lt
    have l3 := hM1.nx.lt_size
    have c3 := hM1.cell (by omega) hM1.st.c3
    have hE1' := Lib.hid hE1
    have hM1' := Lib.hid hM1
    clear hE1 hM1
    go_wp2_with fail
    refine hc.out.mono ?_
    rintro xx W2 ⟨rfl, hM2, hO2⟩
    have hE2 := hE1'.out.step hO2
    clear q4 q6 l4 l6 l3 c3
    clear hc hE1' hM1' hO2
    obtain ⟨aI, haI⟩ : ∃ aI : Int, aI = (a : Int) := ⟨_, rfl⟩
    rw [← haI]
    replace haI := Lib.hid haI
    by_cases ha0 : a = 0
    · obtain rfl : a = 0 := ha0
      obtain rfl : aI = 0 := by simpa using haI.out
      obtain ⟨⟨o, r3⟩, hxo⟩ : ∃ p, nx 2 r2 = p := ⟨_, rfl⟩
      have hlto := nx_lt (n := 2) (by omega) r2
      have hc := nextM 2 (by omega) (by omega) hM2 (hE2.le hB)
      rw [hxo] at hc hlto
      dsimp only at hc hlto
      replace hxo := Lib.hid hxo
      replace hc := Lib.hid hc
      have q4 := hE2.x4.cell 0
      have q6 := hE2.x6.cell 0
      simp only [List.getElem?_toArray, List.getElem?_cons_zero] at q4 q6
      have l4 := hE2.x4.lt
      have l6 := hE2.x6.lt
      have l3 := hM2.nx.lt_size
      have c3 := hM2.cell (by omega) hM2.st.c3
      have hE2' := Lib.hid hE2
      have hM2' := Lib.hid hM2
      clear hE2 hM2
      go_wp2_with fail
      refine hc.out.mono ?_
      rintro xx W3 ⟨rfl, hM3, hO3⟩
      have hE3 := hE2'.out.step hO3
      clear q4 q6 l4 l6 l3 c3
      clear hc hE2' hM2' hO3
      obtain ⟨⟨tx, r4⟩, hxx⟩ : ∃ p, exprM e.p n (width) wh r3 = p := ⟨_, rfl⟩
      have hc : Calls Try.prog 69 #[.int .i64 (width : Int), .pointer (some ⟨b4, 0, none⟩), .pointer (some ⟨b6, 0, none⟩), .pointer (some ⟨b7, 0, none⟩)] W3 (EPost B W3 M cs d e (exprM e.p n (width) wh r3)) := by
        have hc0 := sub_ok ih (width) wh (hw1) (hw3) hwh hM3 hB hn10 hE3
        have ew : ((width : Nat) : Int) = (width : Int) := by omega
        rw [ew] at hc0
        exact hc0
      rw [hxx] at hc
      replace hxx := Lib.hid hxx
      replace hc := Lib.hid hc
      have q4 := hE3.x4.cell 0
      have q6 := hE3.x6.cell 0
      simp only [List.getElem?_toArray, List.getElem?_cons_zero] at q4 q6
      have l4 := hE3.x4.lt
      have l6 := hE3.x6.lt
      have l3 := hM3.nx.lt_size
      have c3 := hM3.cell (by omega) hM3.st.c3
      have hE3' := Lib.hid hE3
      have hM3' := Lib.hid hM3
      clear hE3 hM3
      have hszx : R < W3.heap.size := hE3'.out.size
      go_wp2_with fail
      refine hc.out.mono ?_
      rintro xx W4 ⟨xk, xo, xv, xw, xn, xA, xc, xs, rfl, hpx, hLx, hdx, hM4, hO4⟩
      have hE4 := hE3'.out.step hO4
      have hGx := Lib.hid hLx.ge
      have hS4 := hO4.size
      replace hLx := Lib.hid hLx
      replace hdx := Lib.hid hdx
      dsimp only at hpx hM4
      replace hpx := Lib.hid hpx
      clear q4 q6 l4 l6 l3 c3
      clear hc hE3' hM3' hO4
      have hBx := (Below.refl _ W4).alloc (Nat.le_refl _) (.cells #[.int .u8 xk, .int .u8 xo, .int .u32 xv, .int .i64 xw, .string xn, .slice xA xs.length xc] 30)
      have hbg := Blk.new W4 30 #[.int .u8 xk, .int .u8 xo, .int .u32 xv, .int .i64 xw, .string xn, .slice xA xs.length xc]
      obtain ⟨g, hg⟩ : ∃ g, W4.heap.size = g := ⟨_, rfl⟩
      have hgg : W4.heap.size ≤ g := by omega
      rw [hg] at hbg
      replace hg := Lib.hid hg
      have hxR := hE4.xR.below hBx hE4.size
      have hMF := hM4.new (hE4.le hB) hBx
      have hOF := hE4.on.new hBx
      have hsRi := hE4.size
      have hLF : (Ex.mk ⟨5, (1 + (o : Int)), 0, 0, ⟨#[]⟩⟩ (⟨some ⟨g, 0, none⟩, 1⟩ : Loc) [(Ex.mk ⟨xk, xo, xv, xw, xn⟩ (⟨xA, xc⟩ : Loc) xs)]).own eT (W4.alloc (.cells #[.int .u8 xk, .int .u8 xo, .int .u32 xv, .int .i64 xw, .string xn, .slice xA xs.length xc] 30)) (R + 1) := own_mk ⟨5, (1 + (o : Int)), 0, 0, ⟨#[]⟩⟩ [(Ex.mk ⟨xk, xo, xv, xw, xn⟩ (⟨xA, xc⟩ : Loc) xs)] hbg rfl (by omega) (by simp) ⟨(hLx.out.keep (only_of_below [] hBx) (by simp)).base_le hszx, trivial⟩
      have hLd : (Ex.mk ⟨5, (1 + (o : Int)), 0, 0, ⟨#[]⟩⟩ (⟨some ⟨g, 0, none⟩, 1⟩ : Loc) [(Ex.mk ⟨xk, xo, xv, xw, xn⟩ (⟨xA, xc⟩ : Loc) xs)]).fp.Nodup := by
        show (g :: ((Ex.mk ⟨xk, xo, xv, xw, xn⟩ (⟨xA, xc⟩ : Loc) xs).fp ++ [])).Nodup
        rw [List.append_nil]
        exact List.nodup_cons.2 ⟨fun hm => by have := (hLx.out.ge g hm).2; omega, hdx.out⟩
      have q4 := hE4.x4.cell 0
      have q6 := hE4.x6.cell 0
      simp only [List.getElem?_toArray, List.getElem?_cons_zero] at q4 q6
      have l4 := hE4.x4.lt
      have l6 := hE4.x6.lt
      have l3 := hM4.nx.lt_size
      have c3 := hM4.cell (by omega) hM4.st.c3
      have hE4' := Lib.hid hE4
      have hM4' := Lib.hid hM4
      clear hE4 hM4
      obtain ⟨hbf, hM9, hO9, hL9⟩ := expr_end (w := w) (Ex.mk ⟨5, (1 + (o : Int)), 0, 0, ⟨#[]⟩⟩ (⟨some ⟨g, 0, none⟩, 1⟩ : Loc) [(Ex.mk ⟨xk, xo, xv, xw, xn⟩ (⟨xA, xc⟩ : Loc) xs)]) hxR hMF hOF hB hwR hLF
      simp only [Ex.cells, eT, List.length_cons, List.length_nil, Nat.reduceAdd] at hbf hM9 hO9 hL9
      replace hbf := Lib.hid hbf
      replace hM9 := Lib.hid hM9
      replace hO9 := Lib.hid hO9
      replace hL9 := Lib.hid hL9
      replace hLd := Lib.hid hLd
      try simp only []
      repeat ((fail_if_success (with_reducible refine wpList_store_at 30 (.tmp 8) (.tmp 88) R 0 #[.int .u8 5, .int .u8 (1 + (o : Int)), .int .u32 0, .int .i64 0, .string ⟨#[]⟩, .slice (some ⟨g, 0, none⟩) 1 1] ?_ ?_ ?_ ?_ ?_ ?_)); (first | go_skip | go_guarded | go_step | go_upon | go_simp))
      try rw [hg.out]
      refine wpList_store_at 30 (.tmp 8) (.tmp 88) R 0 #[.int .u8 5, .int .u8 (1 + (o : Int)), .int .u32 0, .int .i64 0, .string ⟨#[]⟩, .slice (some ⟨g, 0, none⟩) 1 1] rfl rfl (there_blk_at hxR (by simp)) (by kernel_rfl) (by simp [Value.oneCell']) ?_
      refine wpList_nil ?_
      try simp only [Act.put, List.setIfInBounds_toArray, List.set_cons_zero, List.set_cons_succ]
      rename (∀ (a : Act) (w : World), Code.wp Try.prog Code.ret _ a w → _) => hkk
      refine hkk _ _ ?_
      refine wp_ret ?_
      try simp only [Exit.then]
      refine bodyPost_ret (results_cell_row rfl _ _ R 30 _ (0, 0) _ rfl hbf.out Try.underlying30 rfl (by kernel_rfl)) rfl ?_
      have hpp := hp.out.trans (exprM_un hxk.out hxa.out hxo.out hxx.out)
      refine ⟨5, (1 + (o : Int)), 0, 0, ⟨#[]⟩, some ⟨g, 0, none⟩, 1, [(Ex.mk ⟨xk, xo, xv, xw, xn⟩ (⟨xA, xc⟩ : Loc) xs)], rfl, ?_, hL9.out, hLd.out, by rw [hpp]; exact hM9.out, hO9.out⟩
      rw [hpp]
      have ex := hpx.out
      show Ex.mk _ () (plains [(Ex.mk ⟨xk, xo, xv, xw, xn⟩ (⟨xA, xc⟩ : Loc) xs)]) = _
      simp only [plains, ex]
      all_goals (first | rfl | (simp [binE]; done))
    · have haz : (aI == 0) = false := by have := haI.out; simp; omega
      replace ha0 := Lib.hid ha0
      obtain ⟨⟨o, r3⟩, hxo⟩ : ∃ p, nx 3 r2 = p := ⟨_, rfl⟩
      have hlto := nx_lt (n := 3) (by omega) r2
      have hc := nextM 3 (by omega) (by omega) hM2 (hE2.le hB)
      rw [hxo] at hc hlto
      dsimp only at hc hlto
      replace hxo := Lib.hid hxo
      replace hc := Lib.hid hc
      have q4 := hE2.x4.cell 0
      have q6 := hE2.x6.cell 0
      simp only [List.getElem?_toArray, List.getElem?_cons_zero] at q4 q6
      have l4 := hE2.x4.lt
      have l6 := hE2.x6.lt
      have l3 := hM2.nx.lt_size
      have c3 := hM2.cell (by omega) hM2.st.c3
      have hE2' := Lib.hid hE2
      have hM2' := Lib.hid hM2
      clear hE2 hM2
      go_wp2_with fail
      refine hc.out.mono ?_
      rintro xx W3 ⟨rfl, hM3, hO3⟩
      have hE3 := hE2'.out.step hO3
      clear q4 q6 l4 l6 l3 c3
      clear hc hE2' hM2' hO3
      obtain ⟨⟨tx, r4⟩, hxx⟩ : ∃ p, exprM e.p n (1 + o) wh r3 = p := ⟨_, rfl⟩
      have hc : Calls Try.prog 69 #[.int .i64 (1 + (o : Int)), .pointer (some ⟨b4, 0, none⟩), .pointer (some ⟨b6, 0, none⟩), .pointer (some ⟨b7, 0, none⟩)] W3 (EPost B W3 M cs d e (exprM e.p n (1 + o) wh r3)) := by
        have hc0 := sub_ok ih (1 + o) wh (by omega) (by omega) hwh hM3 hB hn10 hE3
        have ew : ((1 + o : Nat) : Int) = (1 + (o : Int)) := by omega
        rw [ew] at hc0
        exact hc0
      rw [hxx] at hc
      replace hxx := Lib.hid hxx
      replace hc := Lib.hid hc
      have q4 := hE3.x4.cell 0
      have q6 := hE3.x6.cell 0
      simp only [List.getElem?_toArray, List.getElem?_cons_zero] at q4 q6
      have l4 := hE3.x4.lt
      have l6 := hE3.x6.lt
      have l3 := hM3.nx.lt_size
      have c3 := hM3.cell (by omega) hM3.st.c3
      have hE3' := Lib.hid hE3
      have hM3' := Lib.hid hM3
      clear hE3 hM3
      have hszx : R < W3.heap.size := hE3'.out.size
      go_wp2_with fail
      refine hc.out.mono ?_
      rintro xx W4 ⟨xk, xo, xv, xw, xn, xA, xc, xs, rfl, hpx, hLx, hdx, hM4, hO4⟩
      have hE4 := hE3'.out.step hO4
      have hGx := Lib.hid hLx.ge
      have hS4 := hO4.size
      replace hLx := Lib.hid hLx
      replace hdx := Lib.hid hdx
      dsimp only at hpx hM4
      replace hpx := Lib.hid hpx
      clear q4 q6 l4 l6 l3 c3
      clear hc hE3' hM3' hO4
      have hBx := (Below.refl _ W4).alloc (Nat.le_refl _) (.cells #[.int .u8 xk, .int .u8 xo, .int .u32 xv, .int .i64 xw, .string xn, .slice xA xs.length xc] 30)
      have hbg := Blk.new W4 30 #[.int .u8 xk, .int .u8 xo, .int .u32 xv, .int .i64 xw, .string xn, .slice xA xs.length xc]
      obtain ⟨g, hg⟩ : ∃ g, W4.heap.size = g := ⟨_, rfl⟩
      have hgg : W4.heap.size ≤ g := by omega
      rw [hg] at hbg
      replace hg := Lib.hid hg
      have hxR := hE4.xR.below hBx hE4.size
      have hMF := hM4.new (hE4.le hB) hBx
      have hOF := hE4.on.new hBx
      have hsRi := hE4.size
      have hLF : (Ex.mk ⟨8, 0, 0, (width : Int), ⟨#[]⟩⟩ (⟨some ⟨g, 0, none⟩, 1⟩ : Loc) [(Ex.mk ⟨xk, xo, xv, xw, xn⟩ (⟨xA, xc⟩ : Loc) xs)]).own eT (W4.alloc (.cells #[.int .u8 xk, .int .u8 xo, .int .u32 xv, .int .i64 xw, .string xn, .slice xA xs.length xc] 30)) (R + 1) := own_mk ⟨8, 0, 0, (width : Int), ⟨#[]⟩⟩ [(Ex.mk ⟨xk, xo, xv, xw, xn⟩ (⟨xA, xc⟩ : Loc) xs)] hbg rfl (by omega) (by simp) ⟨(hLx.out.keep (only_of_below [] hBx) (by simp)).base_le hszx, trivial⟩
      have hLd : (Ex.mk ⟨8, 0, 0, (width : Int), ⟨#[]⟩⟩ (⟨some ⟨g, 0, none⟩, 1⟩ : Loc) [(Ex.mk ⟨xk, xo, xv, xw, xn⟩ (⟨xA, xc⟩ : Loc) xs)]).fp.Nodup := by
        show (g :: ((Ex.mk ⟨xk, xo, xv, xw, xn⟩ (⟨xA, xc⟩ : Loc) xs).fp ++ [])).Nodup
        rw [List.append_nil]
        exact List.nodup_cons.2 ⟨fun hm => by have := (hLx.out.ge g hm).2; omega, hdx.out⟩
      have q4 := hE4.x4.cell 0
      have q6 := hE4.x6.cell 0
      simp only [List.getElem?_toArray, List.getElem?_cons_zero] at q4 q6
      have l4 := hE4.x4.lt
      have l6 := hE4.x6.lt
      have l3 := hM4.nx.lt_size
      have c3 := hM4.cell (by omega) hM4.st.c3
      have hE4' := Lib.hid hE4
      have hM4' := Lib.hid hM4
      clear hE4 hM4
      obtain ⟨hbf, hM9, hO9, hL9⟩ := expr_end (w := w) (Ex.mk ⟨8, 0, 0, (width : Int), ⟨#[]⟩⟩ (⟨some ⟨g, 0, none⟩, 1⟩ : Loc) [(Ex.mk ⟨xk, xo, xv, xw, xn⟩ (⟨xA, xc⟩ : Loc) xs)]) hxR hMF hOF hB hwR hLF
      simp only [Ex.cells, eT, List.length_cons, List.length_nil, Nat.reduceAdd] at hbf hM9 hO9 hL9
      replace hbf := Lib.hid hbf
      replace hM9 := Lib.hid hM9
      replace hO9 := Lib.hid hO9
      replace hL9 := Lib.hid hL9
      replace hLd := Lib.hid hLd
      try simp only []
      repeat ((fail_if_success (with_reducible refine wpList_store_at 30 (.tmp 8) (.tmp 96) R 0 #[.int .u8 8, .int .u8 0, .int .u32 0, .int .i64 (width : Int), .string ⟨#[]⟩, .slice (some ⟨g, 0, none⟩) 1 1] ?_ ?_ ?_ ?_ ?_ ?_)); (first | go_skip | go_guarded | go_step | go_upon | go_simp))
      try rw [hg.out]
      refine wpList_store_at 30 (.tmp 8) (.tmp 96) R 0 #[.int .u8 8, .int .u8 0, .int .u32 0, .int .i64 (width : Int), .string ⟨#[]⟩, .slice (some ⟨g, 0, none⟩) 1 1] rfl rfl (there_blk_at hxR (by simp)) (by kernel_rfl) (by simp [Value.oneCell']) ?_
      refine wpList_nil ?_
      try simp only [Act.put, List.setIfInBounds_toArray, List.set_cons_zero, List.set_cons_succ]
      rename (∀ (a : Act) (w : World), Code.wp Try.prog Code.ret _ a w → _) => hkk
      refine hkk _ _ ?_
      refine wp_ret ?_
      try simp only [Exit.then]
      refine bodyPost_ret (results_cell_row rfl _ _ R 30 _ (0, 0) _ rfl hbf.out Try.underlying30 rfl (by kernel_rfl)) rfl ?_
      have hpp := hp.out.trans (exprM_cast hxk.out hxa.out ha0.out hxo.out hxx.out)
      refine ⟨8, 0, 0, (width : Int), ⟨#[]⟩, some ⟨g, 0, none⟩, 1, [(Ex.mk ⟨xk, xo, xv, xw, xn⟩ (⟨xA, xc⟩ : Loc) xs)], rfl, ?_, hL9.out, hLd.out, by rw [hpp]; exact hM9.out, hO9.out⟩
      rw [hpp]
      have ex := hpx.out
      show Ex.mk _ () (plains [(Ex.mk ⟨xk, xo, xv, xw, xn⟩ (⟨xA, xc⟩ : Loc) xs)]) = _
      simp only [plains, ex]
      all_goals (first | rfl | (simp [binE]; done))
  by_cases h7e : k = 7
  · obtain rfl : k = 7 := h7e
    obtain rfl : kI = 7 := by simpa using hkI'.out
    clear h3 h3e h4e h5e h6e
    by_cases hww : width = e.p.w
    · have hwb : ((width : Int) == (e.p.w : Int)) = true := by simp; omega
      by_cases hwh1 : wh = 1
      · have hwhb : ((wh : Int) != 1) = false := by simp; omega
        have hLeaf3 : ¬ (7 = 3 ∧ width = 1) := by omega
        have hLeaf5 : 7 < 3 ∨ ¬ 7 < 7 := by omega
        have hLeaf7 : ¬ (7 = 7 ∧ width = e.p.w ∧ wh ≠ 1) := fun h => h.2.2 hwh1
        have hLeaf8 : ¬ (7 = 8 ∧ width = e.p.w ∧ wh = 0) := by omega
        replace hwh1 := Lib.hid hwh1
        replace hww := Lib.hid hww
        replace hLeaf3 := Lib.hid hLeaf3
        replace hLeaf5 := Lib.hid hLeaf5
        replace hLeaf7 := Lib.hid hLeaf7
        replace hLeaf8 := Lib.hid hLeaf8
        have q4 := hE1.x4.cell 0
        have q6 := hE1.x6.cell 0
        simp only [List.getElem?_toArray, List.getElem?_cons_zero] at q4 q6
        have l4 := hE1.x4.lt
        have l6 := hE1.x6.lt
        have l3 := hM1.nx.lt_size
        have c3 := hM1.cell (by omega) hM1.st.c3
        have hE1' := Lib.hid hE1
        have hM1' := Lib.hid hM1
        clear hE1 hM1
        have hcall := leaf_ok width wh hw1 hw3 hwh hM1'.out (hE1'.out.le hB)
        replace hcall := Lib.hid hcall
        go_wp2_with fail
        refine hcall.out.mono ?_
        rintro xx W2 ⟨⟨zk, zo, zv, zw, zn⟩, rfl, hLp, hMF, hO2⟩
        have hE2 := hE1'.out.step hO2
        have hOF := hE2.on
        have hxR := hE2.xR
        have hLF : (Ex.mk ⟨zk, zo, zv, zw, zn⟩ (⟨none, 0⟩ : Loc) []).own eT W2 (R + 1) := ⟨World.ownsRow_nil _ _ _ _, trivial⟩
        have hLd : (Ex.mk ⟨zk, zo, zv, zw, zn⟩ (⟨none, 0⟩ : Loc) []).fp.Nodup := List.nodup_nil
        clear q4 q6 l4 l6 l3 c3
        obtain ⟨hbf, hM9, hO9, hL9⟩ := expr_end (w := w) (Ex.mk ⟨zk, zo, zv, zw, zn⟩ (⟨none, 0⟩ : Loc) []) hxR hMF hOF hB hwR hLF
        simp only [Ex.cells, eT, List.length_cons, List.length_nil, Nat.reduceAdd] at hbf hM9 hO9 hL9
        replace hbf := Lib.hid hbf
        replace hM9 := Lib.hid hM9
        replace hO9 := Lib.hid hO9
        replace hL9 := Lib.hid hL9
        replace hLd := Lib.hid hLd
        try simp only []
        repeat ((fail_if_success (with_reducible refine wpList_store_at 30 (.tmp 8) (.tmp 140) R 0 #[.int .u8 zk, .int .u8 zo, .int .u32 zv, .int .i64 zw, .string zn, .slice none 0 0] ?_ ?_ ?_ ?_ ?_ ?_)); (first | go_skip | go_guarded | go_step | go_upon | go_simp))
        try rw [hg.out]
        refine wpList_store_at 30 (.tmp 8) (.tmp 140) R 0 #[.int .u8 zk, .int .u8 zo, .int .u32 zv, .int .i64 zw, .string zn, .slice none 0 0] rfl rfl (there_blk_at hxR (by simp)) (by kernel_rfl) (by simp [Value.oneCell']) ?_
        refine wpList_nil ?_
        try simp only [Act.put, List.setIfInBounds_toArray, List.set_cons_zero, List.set_cons_succ]
        rename (∀ (a : Act) (w : World), Code.wp Try.prog Code.ret _ a w → _) => hkk
        refine hkk _ _ ?_
        refine wp_ret ?_
        try simp only [Exit.then]
        refine bodyPost_ret (results_cell_row rfl _ _ R 30 _ (0, 0) _ rfl hbf.out Try.underlying30 rfl (by kernel_rfl)) rfl ?_
        have hpp := hp.out.trans (exprM_leaf hxk.out (by first | exact hLeaf3.out | (simp; done) | exact fun q => hLeaf3.out ⟨trivial, q.2⟩) (by first | exact hLeaf5.out | (simp; done) | exact fun q => hLeaf5.out ⟨trivial, q.2⟩) (by first | exact hLeaf7.out | (simp; done) | exact fun q => hLeaf7.out ⟨trivial, q.2⟩) (by first | exact hLeaf8.out | (simp; done) | exact fun q => hLeaf8.out ⟨trivial, q.2⟩))
        exact ⟨zk, zo, zv, zw, zn, none, 0, [], rfl, by rw [hpp]; exact hLp, hL9.out, hLd.out, by rw [hpp]; exact hM9.out, hO9.out⟩
      · have hwhb : ((wh : Int) != 1) = true := by simp; omega
        replace hwh1 := Lib.hid hwh1
        replace hww := Lib.hid hww
        obtain ⟨⟨tx, r2⟩, hxx⟩ : ∃ p, exprM e.p n (2) wh r1 = p := ⟨_, rfl⟩
        have hc : Calls Try.prog 69 #[.int .i64 2, .pointer (some ⟨b4, 0, none⟩), .pointer (some ⟨b6, 0, none⟩), .pointer (some ⟨b7, 0, none⟩)] W1 (EPost B W1 M cs d e (exprM e.p n (2) wh r1)) := by
          have hc0 := sub_ok ih (2) wh (by omega) (by omega) hwh hM1 hB hn10 hE1
          have ew : ((2 : Nat) : Int) = 2 := by omega
          rw [ew] at hc0
          exact hc0
        rw [hxx] at hc
        replace hxx := Lib.hid hxx
        replace hc := Lib.hid hc
        have q4 := hE1.x4.cell 0
        have q6 := hE1.x6.cell 0
        simp only [List.getElem?_toArray, List.getElem?_cons_zero] at q4 q6
        have l4 := hE1.x4.lt
        have l6 := hE1.x6.lt
        have l3 := hM1.nx.lt_size
        have c3 := hM1.cell (by omega) hM1.st.c3
        have hE1' := Lib.hid hE1
        have hM1' := Lib.hid hM1
        clear hE1 hM1
        have hszx : R < W1.heap.size := hE1'.out.size
        go_wp2_with fail
        refine hc.out.mono ?_
        rintro xx W2 ⟨xk, xo, xv, xw, xn, xA, xc, xs, rfl, hpx, hLx, hdx, hM2, hO2⟩
        have hE2 := hE1'.out.step hO2
        have hGx := Lib.hid hLx.ge
        have hS2 := hO2.size
        replace hLx := Lib.hid hLx
        replace hdx := Lib.hid hdx
        dsimp only at hpx hM2
        replace hpx := Lib.hid hpx
        clear q4 q6 l4 l6 l3 c3
        clear hc hE1' hM1' hO2
        have hBx := (Below.refl _ W2).alloc (Nat.le_refl _) (.cells #[.int .u8 xk, .int .u8 xo, .int .u32 xv, .int .i64 xw, .string xn, .slice xA xs.length xc] 30)
        have hbg := Blk.new W2 30 #[.int .u8 xk, .int .u8 xo, .int .u32 xv, .int .i64 xw, .string xn, .slice xA xs.length xc]
        obtain ⟨g, hg⟩ : ∃ g, W2.heap.size = g := ⟨_, rfl⟩
        have hgg : W2.heap.size ≤ g := by omega
        rw [hg] at hbg
        replace hg := Lib.hid hg
        have hxR := hE2.xR.below hBx hE2.size
        have hMF := hM2.new (hE2.le hB) hBx
        have hOF := hE2.on.new hBx
        have hsRi := hE2.size
        have hLF : (Ex.mk ⟨4, 0, 0, 0, ⟨#[]⟩⟩ (⟨some ⟨g, 0, none⟩, 1⟩ : Loc) [(Ex.mk ⟨xk, xo, xv, xw, xn⟩ (⟨xA, xc⟩ : Loc) xs)]).own eT (W2.alloc (.cells #[.int .u8 xk, .int .u8 xo, .int .u32 xv, .int .i64 xw, .string xn, .slice xA xs.length xc] 30)) (R + 1) := own_mk ⟨4, 0, 0, 0, ⟨#[]⟩⟩ [(Ex.mk ⟨xk, xo, xv, xw, xn⟩ (⟨xA, xc⟩ : Loc) xs)] hbg rfl (by omega) (by simp) ⟨(hLx.out.keep (only_of_below [] hBx) (by simp)).base_le hszx, trivial⟩
        have hLd : (Ex.mk ⟨4, 0, 0, 0, ⟨#[]⟩⟩ (⟨some ⟨g, 0, none⟩, 1⟩ : Loc) [(Ex.mk ⟨xk, xo, xv, xw, xn⟩ (⟨xA, xc⟩ : Loc) xs)]).fp.Nodup := by
          show (g :: ((Ex.mk ⟨xk, xo, xv, xw, xn⟩ (⟨xA, xc⟩ : Loc) xs).fp ++ [])).Nodup
          rw [List.append_nil]
          exact List.nodup_cons.2 ⟨fun hm => by have := (hLx.out.ge g hm).2; omega, hdx.out⟩
        have q4 := hE2.x4.cell 0
        have q6 := hE2.x6.cell 0
        simp only [List.getElem?_toArray, List.getElem?_cons_zero] at q4 q6
        have l4 := hE2.x4.lt
        have l6 := hE2.x6.lt
        have l3 := hM2.nx.lt_size
        have c3 := hM2.cell (by omega) hM2.st.c3
        have hE2' := Lib.hid hE2
        have hM2' := Lib.hid hM2
        clear hE2 hM2
        obtain ⟨hbf, hM9, hO9, hL9⟩ := expr_end (w := w) (Ex.mk ⟨4, 0, 0, 0, ⟨#[]⟩⟩ (⟨some ⟨g, 0, none⟩, 1⟩ : Loc) [(Ex.mk ⟨xk, xo, xv, xw, xn⟩ (⟨xA, xc⟩ : Loc) xs)]) hxR hMF hOF hB hwR hLF
        simp only [Ex.cells, eT, List.length_cons, List.length_nil, Nat.reduceAdd] at hbf hM9 hO9 hL9
        replace hbf := Lib.hid hbf
        replace hM9 := Lib.hid hM9
        replace hO9 := Lib.hid hO9
        replace hL9 := Lib.hid hL9
        replace hLd := Lib.hid hLd
        try simp only []
        repeat ((fail_if_success (with_reducible refine wpList_store_at 30 (.tmp 8) (.tmp 116) R 0 #[.int .u8 4, .int .u8 0, .int .u32 0, .int .i64 0, .string ⟨#[]⟩, .slice (some ⟨g, 0, none⟩) 1 1] ?_ ?_ ?_ ?_ ?_ ?_)); (first | go_skip | go_guarded | go_step | go_upon | go_simp))
        try rw [hg.out]
        refine wpList_store_at 30 (.tmp 8) (.tmp 116) R 0 #[.int .u8 4, .int .u8 0, .int .u32 0, .int .i64 0, .string ⟨#[]⟩, .slice (some ⟨g, 0, none⟩) 1 1] rfl rfl (there_blk_at hxR (by simp)) (by kernel_rfl) (by simp [Value.oneCell']) ?_
        refine wpList_nil ?_
        try simp only [Act.put, List.setIfInBounds_toArray, List.set_cons_zero, List.set_cons_succ]
        rename (∀ (a : Act) (w : World), Code.wp Try.prog Code.ret _ a w → _) => hkk
        refine hkk _ _ ?_
        refine wp_ret ?_
        try simp only [Exit.then]
        refine bodyPost_ret (results_cell_row rfl _ _ R 30 _ (0, 0) _ rfl hbf.out Try.underlying30 rfl (by kernel_rfl)) rfl ?_
        have hpp := hp.out.trans (exprM_disk hxk.out hww.out hwh1.out hxx.out)
        refine ⟨4, 0, 0, 0, ⟨#[]⟩, some ⟨g, 0, none⟩, 1, [(Ex.mk ⟨xk, xo, xv, xw, xn⟩ (⟨xA, xc⟩ : Loc) xs)], rfl, ?_, hL9.out, hLd.out, by rw [hpp]; exact hM9.out, hO9.out⟩
        rw [hpp]
        have ex := hpx.out
        show Ex.mk _ () (plains [(Ex.mk ⟨xk, xo, xv, xw, xn⟩ (⟨xA, xc⟩ : Loc) xs)]) = _
        simp only [plains, ex]
        all_goals (first | rfl | (simp [binE]; done))
    · have hwb : ((width : Int) == (e.p.w : Int)) = false := by simp; omega
      have hLeaf3 : ¬ (7 = 3 ∧ width = 1) := by omega
      have hLeaf5 : 7 < 3 ∨ ¬ 7 < 7 := by omega
      have hLeaf7 : ¬ (7 = 7 ∧ width = e.p.w ∧ wh ≠ 1) := fun h => hww h.2.1
      have hLeaf8 : ¬ (7 = 8 ∧ width = e.p.w ∧ wh = 0) := by omega
      replace hww := Lib.hid hww
      replace hLeaf3 := Lib.hid hLeaf3
      replace hLeaf5 := Lib.hid hLeaf5
      replace hLeaf7 := Lib.hid hLeaf7
      replace hLeaf8 := Lib.hid hLeaf8
      have q4 := hE1.x4.cell 0
      have q6 := hE1.x6.cell 0
      simp only [List.getElem?_toArray, List.getElem?_cons_zero] at q4 q6
      have l4 := hE1.x4.lt
      have l6 := hE1.x6.lt
      have l3 := hM1.nx.lt_size
      have c3 := hM1.cell (by omega) hM1.st.c3
      have hE1' := Lib.hid hE1
      have hM1' := Lib.hid hM1
      clear hE1 hM1
      have hcall := leaf_ok width wh hw1 hw3 hwh hM1'.out (hE1'.out.le hB)
      replace hcall := Lib.hid hcall
      go_wp2_with fail
      refine hcall.out.mono ?_
      rintro xx W2 ⟨⟨zk, zo, zv, zw, zn⟩, rfl, hLp, hMF, hO2⟩
      have hE2 := hE1'.out.step hO2
      have hOF := hE2.on
      have hxR := hE2.xR
      have hLF : (Ex.mk ⟨zk, zo, zv, zw, zn⟩ (⟨none, 0⟩ : Loc) []).own eT W2 (R + 1) := ⟨World.ownsRow_nil _ _ _ _, trivial⟩
      have hLd : (Ex.mk ⟨zk, zo, zv, zw, zn⟩ (⟨none, 0⟩ : Loc) []).fp.Nodup := List.nodup_nil
      clear q4 q6 l4 l6 l3 c3
      obtain ⟨hbf, hM9, hO9, hL9⟩ := expr_end (w := w) (Ex.mk ⟨zk, zo, zv, zw, zn⟩ (⟨none, 0⟩ : Loc) []) hxR hMF hOF hB hwR hLF
      simp only [Ex.cells, eT, List.length_cons, List.length_nil, Nat.reduceAdd] at hbf hM9 hO9 hL9
      replace hbf := Lib.hid hbf
      replace hM9 := Lib.hid hM9
      replace hO9 := Lib.hid hO9
      replace hL9 := Lib.hid hL9
      replace hLd := Lib.hid hLd
      try simp only []
      repeat ((fail_if_success (with_reducible refine wpList_store_at 30 (.tmp 8) (.tmp 140) R 0 #[.int .u8 zk, .int .u8 zo, .int .u32 zv, .int .i64 zw, .string zn, .slice none 0 0] ?_ ?_ ?_ ?_ ?_ ?_)); (first | go_skip | go_guarded | go_step | go_upon | go_simp))
      try rw [hg.out]
      refine wpList_store_at 30 (.tmp 8) (.tmp 140) R 0 #[.int .u8 zk, .int .u8 zo, .int .u32 zv, .int .i64 zw, .string zn, .slice none 0 0] rfl rfl (there_blk_at hxR (by simp)) (by kernel_rfl) (by simp [Value.oneCell']) ?_
      refine wpList_nil ?_
      try simp only [Act.put, List.setIfInBounds_toArray, List.set_cons_zero, List.set_cons_succ]
      rename (∀ (a : Act) (w : World), Code.wp Try.prog Code.ret _ a w → _) => hkk
      refine hkk _ _ ?_
      refine wp_ret ?_
      try simp only [Exit.then]
      refine bodyPost_ret (results_cell_row rfl _ _ R 30 _ (0, 0) _ rfl hbf.out Try.underlying30 rfl (by kernel_rfl)) rfl ?_
      have hpp := hp.out.trans (exprM_leaf hxk.out (by first | exact hLeaf3.out | (simp; done) | exact fun q => hLeaf3.out ⟨trivial, q.2⟩) (by first | exact hLeaf5.out | (simp; done) | exact fun q => hLeaf5.out ⟨trivial, q.2⟩) (by first | exact hLeaf7.out | (simp; done) | exact fun q => hLeaf7.out ⟨trivial, q.2⟩) (by first | exact hLeaf8.out | (simp; done) | exact fun q => hLeaf8.out ⟨trivial, q.2⟩))
      exact ⟨zk, zo, zv, zw, zn, none, 0, [], rfl, by rw [hpp]; exact hLp, hL9.out, hLd.out, by rw [hpp]; exact hM9.out, hO9.out⟩
  obtain rfl : k = 8 := by omega
  obtain rfl : kI = 8 := by simpa using hkI'.out
  clear h3 h3e h4e h5e h6e h7e
  by_cases hww : width = e.p.w
  · have hwb : ((width : Int) == (e.p.w : Int)) = true := by simp; omega
    by_cases hwh0 : wh = 0
    · have hwhb : ((wh : Int) == 0) = true := by simp; omega
      replace hwh0 := Lib.hid hwh0
      replace hww := Lib.hid hww
      obtain ⟨⟨tx, r2⟩, hxx⟩ : ∃ p, exprM e.p n (2) wh r1 = p := ⟨_, rfl⟩
      have hc : Calls Try.prog 69 #[.int .i64 2, .pointer (some ⟨b4, 0, none⟩), .pointer (some ⟨b6, 0, none⟩), .pointer (some ⟨b7, 0, none⟩)] W1 (EPost B W1 M cs d e (exprM e.p n (2) wh r1)) := by
        have hc0 := sub_ok ih (2) wh (by omega) (by omega) hwh hM1 hB hn10 hE1
        have ew : ((2 : Nat) : Int) = 2 := by omega
        rw [ew] at hc0
        exact hc0
      rw [hxx] at hc
      replace hxx := Lib.hid hxx
      replace hc := Lib.hid hc
      have q4 := hE1.x4.cell 0
      have q6 := hE1.x6.cell 0
      simp only [List.getElem?_toArray, List.getElem?_cons_zero] at q4 q6
      have l4 := hE1.x4.lt
      have l6 := hE1.x6.lt
      have l3 := hM1.nx.lt_size
      have c3 := hM1.cell (by omega) hM1.st.c3
      have hE1' := Lib.hid hE1
      have hM1' := Lib.hid hM1
      clear hE1 hM1
      have hszx : R < W1.heap.size := hE1'.out.size
      go_wp2_with fail
      refine hc.out.mono ?_
      rintro xx W2 ⟨xk, xo, xv, xw, xn, xA, xc, xs, rfl, hpx, hLx, hdx, hM2, hO2⟩
      have hE2 := hE1'.out.step hO2
      have hGx := Lib.hid hLx.ge
      have hS2 := hO2.size
      replace hLx := Lib.hid hLx
      replace hdx := Lib.hid hdx
      dsimp only at hpx hM2
      replace hpx := Lib.hid hpx
      clear q4 q6 l4 l6 l3 c3
      clear hc hE1' hM1' hO2
      have hBx := (Below.refl _ W2).alloc (Nat.le_refl _) (.cells #[.int .u8 xk, .int .u8 xo, .int .u32 xv, .int .i64 xw, .string xn, .slice xA xs.length xc] 30)
      have hbg := Blk.new W2 30 #[.int .u8 xk, .int .u8 xo, .int .u32 xv, .int .i64 xw, .string xn, .slice xA xs.length xc]
      obtain ⟨g, hg⟩ : ∃ g, W2.heap.size = g := ⟨_, rfl⟩
      have hgg : W2.heap.size ≤ g := by omega
      rw [hg] at hbg
      replace hg := Lib.hid hg
      have hxR := hE2.xR.below hBx hE2.size
      have hMF := hM2.new (hE2.le hB) hBx
      have hOF := hE2.on.new hBx
      have hsRi := hE2.size
      have hLF : (Ex.mk ⟨3, 0, 0, 0, ⟨#[97]⟩⟩ (⟨some ⟨g, 0, none⟩, 1⟩ : Loc) [(Ex.mk ⟨xk, xo, xv, xw, xn⟩ (⟨xA, xc⟩ : Loc) xs)]).own eT (W2.alloc (.cells #[.int .u8 xk, .int .u8 xo, .int .u32 xv, .int .i64 xw, .string xn, .slice xA xs.length xc] 30)) (R + 1) := own_mk ⟨3, 0, 0, 0, ⟨#[97]⟩⟩ [(Ex.mk ⟨xk, xo, xv, xw, xn⟩ (⟨xA, xc⟩ : Loc) xs)] hbg rfl (by omega) (by simp) ⟨(hLx.out.keep (only_of_below [] hBx) (by simp)).base_le hszx, trivial⟩
      have hLd : (Ex.mk ⟨3, 0, 0, 0, ⟨#[97]⟩⟩ (⟨some ⟨g, 0, none⟩, 1⟩ : Loc) [(Ex.mk ⟨xk, xo, xv, xw, xn⟩ (⟨xA, xc⟩ : Loc) xs)]).fp.Nodup := by
        show (g :: ((Ex.mk ⟨xk, xo, xv, xw, xn⟩ (⟨xA, xc⟩ : Loc) xs).fp ++ [])).Nodup
        rw [List.append_nil]
        exact List.nodup_cons.2 ⟨fun hm => by have := (hLx.out.ge g hm).2; omega, hdx.out⟩
      have q4 := hE2.x4.cell 0
      have q6 := hE2.x6.cell 0
      simp only [List.getElem?_toArray, List.getElem?_cons_zero] at q4 q6
      have l4 := hE2.x4.lt
      have l6 := hE2.x6.lt
      have l3 := hM2.nx.lt_size
      have c3 := hM2.cell (by omega) hM2.st.c3
      have hE2' := Lib.hid hE2
      have hM2' := Lib.hid hM2
      clear hE2 hM2
      obtain ⟨hbf, hM9, hO9, hL9⟩ := expr_end (w := w) (Ex.mk ⟨3, 0, 0, 0, ⟨#[97]⟩⟩ (⟨some ⟨g, 0, none⟩, 1⟩ : Loc) [(Ex.mk ⟨xk, xo, xv, xw, xn⟩ (⟨xA, xc⟩ : Loc) xs)]) hxR hMF hOF hB hwR hLF
      simp only [Ex.cells, eT, List.length_cons, List.length_nil, Nat.reduceAdd] at hbf hM9 hO9 hL9
      replace hbf := Lib.hid hbf
      replace hM9 := Lib.hid hM9
      replace hO9 := Lib.hid hO9
      replace hL9 := Lib.hid hL9
      replace hLd := Lib.hid hLd
      try simp only []
      repeat ((fail_if_success (with_reducible refine wpList_store_at 30 (.tmp 8) (.tmp 136) R 0 #[.int .u8 3, .int .u8 0, .int .u32 0, .int .i64 0, .string ⟨#[97]⟩, .slice (some ⟨g, 0, none⟩) 1 1] ?_ ?_ ?_ ?_ ?_ ?_)); (first | go_skip | go_guarded | go_step | go_upon | go_simp))
      try rw [hg.out]
      refine wpList_store_at 30 (.tmp 8) (.tmp 136) R 0 #[.int .u8 3, .int .u8 0, .int .u32 0, .int .i64 0, .string ⟨#[97]⟩, .slice (some ⟨g, 0, none⟩) 1 1] rfl rfl (there_blk_at hxR (by simp)) (by kernel_rfl) (by simp [Value.oneCell']) ?_
      refine wpList_nil ?_
      try simp only [Act.put, List.setIfInBounds_toArray, List.set_cons_zero, List.set_cons_succ]
      rename (∀ (a : Act) (w : World), Code.wp Try.prog Code.ret _ a w → _) => hkk
      refine hkk _ _ ?_
      refine wp_ret ?_
      try simp only [Exit.then]
      refine bodyPost_ret (results_cell_row rfl _ _ R 30 _ (0, 0) _ rfl hbf.out Try.underlying30 rfl (by kernel_rfl)) rfl ?_
      have hpp := hp.out.trans (exprM_elem hxk.out hww.out hwh0.out hxx.out)
      refine ⟨3, 0, 0, 0, ⟨#[97]⟩, some ⟨g, 0, none⟩, 1, [(Ex.mk ⟨xk, xo, xv, xw, xn⟩ (⟨xA, xc⟩ : Loc) xs)], rfl, ?_, hL9.out, hLd.out, by rw [hpp]; exact hM9.out, hO9.out⟩
      rw [hpp]
      have ex := hpx.out
      show Ex.mk _ () (plains [(Ex.mk ⟨xk, xo, xv, xw, xn⟩ (⟨xA, xc⟩ : Loc) xs)]) = _
      simp only [plains, ex]
      all_goals (first | rfl | (simp [binE]; done))
    · have hwhb : ((wh : Int) == 0) = false := by simp; omega
      have hLeaf3 : ¬ (8 = 3 ∧ width = 1) := by omega
      have hLeaf5 : 8 < 3 ∨ ¬ 8 < 7 := by omega
      have hLeaf7 : ¬ (8 = 7 ∧ width = e.p.w ∧ wh ≠ 1) := by omega
      have hLeaf8 : ¬ (8 = 8 ∧ width = e.p.w ∧ wh = 0) := fun h => hwh0 h.2.2
      replace hwh0 := Lib.hid hwh0
      replace hww := Lib.hid hww
      replace hLeaf3 := Lib.hid hLeaf3
      replace hLeaf5 := Lib.hid hLeaf5
      replace hLeaf7 := Lib.hid hLeaf7
      replace hLeaf8 := Lib.hid hLeaf8
      have q4 := hE1.x4.cell 0
      have q6 := hE1.x6.cell 0
      simp only [List.getElem?_toArray, List.getElem?_cons_zero] at q4 q6
      have l4 := hE1.x4.lt
      have l6 := hE1.x6.lt
      have l3 := hM1.nx.lt_size
      have c3 := hM1.cell (by omega) hM1.st.c3
      have hE1' := Lib.hid hE1
      have hM1' := Lib.hid hM1
      clear hE1 hM1
      have hcall := leaf_ok width wh hw1 hw3 hwh hM1'.out (hE1'.out.le hB)
      replace hcall := Lib.hid hcall
      go_wp2_with fail
      refine hcall.out.mono ?_
      rintro xx W2 ⟨⟨zk, zo, zv, zw, zn⟩, rfl, hLp, hMF, hO2⟩
      have hE2 := hE1'.out.step hO2
      have hOF := hE2.on
      have hxR := hE2.xR
      have hLF : (Ex.mk ⟨zk, zo, zv, zw, zn⟩ (⟨none, 0⟩ : Loc) []).own eT W2 (R + 1) := ⟨World.ownsRow_nil _ _ _ _, trivial⟩
      have hLd : (Ex.mk ⟨zk, zo, zv, zw, zn⟩ (⟨none, 0⟩ : Loc) []).fp.Nodup := List.nodup_nil
      clear q4 q6 l4 l6 l3 c3
      obtain ⟨hbf, hM9, hO9, hL9⟩ := expr_end (w := w) (Ex.mk ⟨zk, zo, zv, zw, zn⟩ (⟨none, 0⟩ : Loc) []) hxR hMF hOF hB hwR hLF
      simp only [Ex.cells, eT, List.length_cons, List.length_nil, Nat.reduceAdd] at hbf hM9 hO9 hL9
      replace hbf := Lib.hid hbf
      replace hM9 := Lib.hid hM9
      replace hO9 := Lib.hid hO9
      replace hL9 := Lib.hid hL9
      replace hLd := Lib.hid hLd
      try simp only []
      repeat ((fail_if_success (with_reducible refine wpList_store_at 30 (.tmp 8) (.tmp 140) R 0 #[.int .u8 zk, .int .u8 zo, .int .u32 zv, .int .i64 zw, .string zn, .slice none 0 0] ?_ ?_ ?_ ?_ ?_ ?_)); (first | go_skip | go_guarded | go_step | go_upon | go_simp))
      try rw [hg.out]
      refine wpList_store_at 30 (.tmp 8) (.tmp 140) R 0 #[.int .u8 zk, .int .u8 zo, .int .u32 zv, .int .i64 zw, .string zn, .slice none 0 0] rfl rfl (there_blk_at hxR (by simp)) (by kernel_rfl) (by simp [Value.oneCell']) ?_
      refine wpList_nil ?_
      try simp only [Act.put, List.setIfInBounds_toArray, List.set_cons_zero, List.set_cons_succ]
      rename (∀ (a : Act) (w : World), Code.wp Try.prog Code.ret _ a w → _) => hkk
      refine hkk _ _ ?_
      refine wp_ret ?_
      try simp only [Exit.then]
      refine bodyPost_ret (results_cell_row rfl _ _ R 30 _ (0, 0) _ rfl hbf.out Try.underlying30 rfl (by kernel_rfl)) rfl ?_
      have hpp := hp.out.trans (exprM_leaf hxk.out (by first | exact hLeaf3.out | (simp; done) | exact fun q => hLeaf3.out ⟨trivial, q.2⟩) (by first | exact hLeaf5.out | (simp; done) | exact fun q => hLeaf5.out ⟨trivial, q.2⟩) (by first | exact hLeaf7.out | (simp; done) | exact fun q => hLeaf7.out ⟨trivial, q.2⟩) (by first | exact hLeaf8.out | (simp; done) | exact fun q => hLeaf8.out ⟨trivial, q.2⟩))
      exact ⟨zk, zo, zv, zw, zn, none, 0, [], rfl, by rw [hpp]; exact hLp, hL9.out, hLd.out, by rw [hpp]; exact hM9.out, hO9.out⟩
  · have hwb : ((width : Int) == (e.p.w : Int)) = false := by simp; omega
    have hLeaf3 : ¬ (8 = 3 ∧ width = 1) := by omega
    have hLeaf5 : 8 < 3 ∨ ¬ 8 < 7 := by omega
    have hLeaf7 : ¬ (8 = 7 ∧ width = e.p.w ∧ wh ≠ 1) := by omega
    have hLeaf8 : ¬ (8 = 8 ∧ width = e.p.w ∧ wh = 0) := fun h => hww h.2.1
    replace hww := Lib.hid hww
    replace hLeaf3 := Lib.hid hLeaf3
    replace hLeaf5 := Lib.hid hLeaf5
    replace hLeaf7 := Lib.hid hLeaf7
    replace hLeaf8 := Lib.hid hLeaf8
    have q4 := hE1.x4.cell 0
    have q6 := hE1.x6.cell 0
    simp only [List.getElem?_toArray, List.getElem?_cons_zero] at q4 q6
    have l4 := hE1.x4.lt
    have l6 := hE1.x6.lt
    have l3 := hM1.nx.lt_size
    have c3 := hM1.cell (by omega) hM1.st.c3
    have hE1' := Lib.hid hE1
    have hM1' := Lib.hid hM1
    clear hE1 hM1
    have hcall := leaf_ok width wh hw1 hw3 hwh hM1'.out (hE1'.out.le hB)
    replace hcall := Lib.hid hcall
    go_wp2_with fail
    refine hcall.out.mono ?_
    rintro xx W2 ⟨⟨zk, zo, zv, zw, zn⟩, rfl, hLp, hMF, hO2⟩
    have hE2 := hE1'.out.step hO2
    have hOF := hE2.on
    have hxR := hE2.xR
    have hLF : (Ex.mk ⟨zk, zo, zv, zw, zn⟩ (⟨none, 0⟩ : Loc) []).own eT W2 (R + 1) := ⟨World.ownsRow_nil _ _ _ _, trivial⟩
    have hLd : (Ex.mk ⟨zk, zo, zv, zw, zn⟩ (⟨none, 0⟩ : Loc) []).fp.Nodup := List.nodup_nil
    clear q4 q6 l4 l6 l3 c3
    obtain ⟨hbf, hM9, hO9, hL9⟩ := expr_end (w := w) (Ex.mk ⟨zk, zo, zv, zw, zn⟩ (⟨none, 0⟩ : Loc) []) hxR hMF hOF hB hwR hLF
    simp only [Ex.cells, eT, List.length_cons, List.length_nil, Nat.reduceAdd] at hbf hM9 hO9 hL9
    replace hbf := Lib.hid hbf
    replace hM9 := Lib.hid hM9
    replace hO9 := Lib.hid hO9
    replace hL9 := Lib.hid hL9
    replace hLd := Lib.hid hLd
    try simp only []
    repeat ((fail_if_success (with_reducible refine wpList_store_at 30 (.tmp 8) (.tmp 140) R 0 #[.int .u8 zk, .int .u8 zo, .int .u32 zv, .int .i64 zw, .string zn, .slice none 0 0] ?_ ?_ ?_ ?_ ?_ ?_)); (first | go_skip | go_guarded | go_step | go_upon | go_simp))
    try rw [hg.out]
    refine wpList_store_at 30 (.tmp 8) (.tmp 140) R 0 #[.int .u8 zk, .int .u8 zo, .int .u32 zv, .int .i64 zw, .string zn, .slice none 0 0] rfl rfl (there_blk_at hxR (by simp)) (by kernel_rfl) (by simp [Value.oneCell']) ?_
    refine wpList_nil ?_
    try simp only [Act.put, List.setIfInBounds_toArray, List.set_cons_zero, List.set_cons_succ]
    rename (∀ (a : Act) (w : World), Code.wp Try.prog Code.ret _ a w → _) => hkk
    refine hkk _ _ ?_
    refine wp_ret ?_
    try simp only [Exit.then]
    refine bodyPost_ret (results_cell_row rfl _ _ R 30 _ (0, 0) _ rfl hbf.out Try.underlying30 rfl (by kernel_rfl)) rfl ?_
    have hpp := hp.out.trans (exprM_leaf hxk.out (by first | exact hLeaf3.out | (simp; done) | exact fun q => hLeaf3.out ⟨trivial, q.2⟩) (by first | exact hLeaf5.out | (simp; done) | exact fun q => hLeaf5.out ⟨trivial, q.2⟩) (by first | exact hLeaf7.out | (simp; done) | exact fun q => hLeaf7.out ⟨trivial, q.2⟩) (by first | exact hLeaf8.out | (simp; done) | exact fun q => hLeaf8.out ⟨trivial, q.2⟩))
    exact ⟨zk, zo, zv, zw, zn, none, 0, [], rfl, by rw [hpp]; exact hLp, hL9.out, hLd.out, by rw [hpp]; exact hM9.out, hO9.out⟩
theorem expr_ok : ∀ n, n ≤ 10 → ExprOk n
  | 0, _ => expr_zero
  | n + 1, h => expr_succ (expr_ok n (by omega)) (by omega)
end Go.Proofs.Ytnldbplphgfpeaa
