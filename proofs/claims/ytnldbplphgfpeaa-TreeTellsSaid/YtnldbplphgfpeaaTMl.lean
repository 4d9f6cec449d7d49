/- The maker: small expressions; leaf. -/
import Derived.Test.YtnldbplphgfpeaaTMk
import Derived.Deep.CutRange
namespace Go.Proofs.Ytnldbplphgfpeaa
open Go Go.RowKit Go.Shelf
set_option linter.unusedVariables false
set_option linter.unusedSimpArgs false
set_option maxHeartbeats 4000000
theorem own_of_blk {W : World} {g e n base size : Nat} {cs : Array Value} (h : Blk W g e cs) (hb : base ≤ g) (hm : n ≤ maxLen) (hs : cs.size = n * size) : W.ownsRow base e size (.slice (some ⟨g, 0, none⟩) n n) n cs.toList :=
  ⟨by simpa using hs, .inr ⟨g, n, cs, rfl, hb, h, Nat.le_refl _, hm, hs, List.take_of_length_le (by rw [Array.length_toList, hs]; exact Nat.le_refl _)⟩⟩
theorem name_ok (s : ByteArray) (w : World) : Calls Try.prog 30 #[.string s] w fun e w' => e = .returned (.agg #[.int .u8 2, .int .u8 0, .int .u32 0, .int .i64 0, .string s, .slice none 0 0]) ∧ Below w.heap.size w w' := by
  have hB := (Below.refl w.heap.size w).alloc (Nat.le_refl _) (.cells #[.int .u8 2, .int .u8 0, .int .u32 0, .int .i64 0, .string s, .slice none 0 0] 30)
  have hb := Blk.new w 30 #[.int .u8 2, .int .u8 0, .int .u32 0, .int .i64 0, .string s, .slice none 0 0]
  go_enter Try.func30, Try.ntmps30
  go_wp2
  refine bodyPost_ret (results_cell_row rfl _ _ w.heap.size 30 _ (0, 0) _ rfl hb Try.underlying30 rfl (by kernel_rfl)) rfl ?_
  exact ⟨rfl, hB⟩
theorem num_ok (v wd : Int) (w : World) : Calls Try.prog 31 #[.int .u32 v, .int .i64 wd] w fun e w' => e = .returned (.agg #[.int .u8 1, .int .u8 0, .int .u32 v, .int .i64 wd, .string ⟨#[]⟩, .slice none 0 0]) ∧ Below w.heap.size w w' := by
  have hB := (Below.refl w.heap.size w).alloc (Nat.le_refl _) (.cells #[.int .u8 1, .int .u8 0, .int .u32 v, .int .i64 wd, .string ⟨#[]⟩, .slice none 0 0] 30)
  have hb := Blk.new w 30 #[.int .u8 1, .int .u8 0, .int .u32 v, .int .i64 wd, .string ⟨#[]⟩, .slice none 0 0]
  go_enter Try.func31, Try.ntmps31
  go_wp2
  refine bodyPost_ret (results_cell_row rfl _ _ w.heap.size 30 _ (0, 0) _ rfl hb Try.underlying30 rfl (by kernel_rfl)) rfl ?_
  exact ⟨rfl, hB⟩
set_option maxRecDepth 100000 in
theorem bin_ok (op : Int) (x0 x1 x2 x3 x4 x5 y0 y1 y2 y3 y4 y5 : Value) (hx : #[x0, x1, x2, x3, x4, x5].all (·.oneCell') = true) (hy : #[y0, y1, y2, y3, y4, y5].all (·.oneCell') = true) (w : World) :
    Calls Try.prog 21 #[.int .u8 op, .agg #[x0, x1, x2, x3, x4, x5], .agg #[y0, y1, y2, y3, y4, y5]] w fun e w' => ∃ g, e = .returned (.agg #[.int .u8 6, .int .u8 op, .int .u32 0, .int .i64 0, .string ⟨#[]⟩, .slice (some ⟨g, 0, none⟩) 2 2]) ∧
      Blk w' g 30 #[x0, x1, x2, x3, x4, x5, y0, y1, y2, y3, y4, y5] ∧ w.heap.size ≤ g ∧ Below w.heap.size w w' := by
  have hB0 := (((Below.refl w.heap.size w).alloc (Nat.le_refl _) (.cells #[x0, x1, x2, x3, x4, x5] 30)).alloc (by simp) (.cells #[y0, y1, y2, y3, y4, y5] 30)).alloc (by simp; omega) (.cells #[.int .u8 6, .int .u8 op, .int .u32 0, .int .i64 0, .string ⟨#[]⟩, .slice (some ⟨w.heap.size + 1 + 1 + 1, 0, none⟩) 2 2] 30)
  have hr := (Blk.new ((w.alloc (.cells #[x0, x1, x2, x3, x4, x5] 30)).alloc (.cells #[y0, y1, y2, y3, y4, y5] 30)) 30 #[.int .u8 6, .int .u8 op, .int .u32 0, .int .i64 0, .string ⟨#[]⟩, .slice (some ⟨w.heap.size + 1 + 1 + 1, 0, none⟩) 2 2]).alloc (.cells #[x0, x1, x2, x3, x4, x5, y0, y1, y2, y3, y4, y5] 30)
  have hg := Blk.new (((w.alloc (.cells #[x0, x1, x2, x3, x4, x5] 30)).alloc (.cells #[y0, y1, y2, y3, y4, y5] 30)).alloc (.cells #[.int .u8 6, .int .u8 op, .int .u32 0, .int .i64 0, .string ⟨#[]⟩, .slice (some ⟨w.heap.size + 1 + 1 + 1, 0, none⟩) 2 2] 30)) 30 #[x0, x1, x2, x3, x4, x5, y0, y1, y2, y3, y4, y5]
  have hB1 := hB0.alloc (by simp; omega) (.cells #[x0, x1, x2, x3, x4, x5, y0, y1, y2, y3, y4, y5] 30)
  simp only [World.size_alloc] at hr hg
  replace hr := Lib.hid hr
  replace hg := Lib.hid hg
  replace hB1 := Lib.hid hB1
  clear hB0
  go_enter Try.func21, Try.ntmps21
  go_wp2
  refine bodyPost_ret (results_cell_row rfl _ _ (w.heap.size + 1 + 1) 30 _ (0, 0) _ rfl hr.out Try.underlying30 rfl (by kernel_rfl)) rfl ?_
  exact ⟨_, rfl, hg.out, by omega, hB1.out⟩
/-- What the maker knows, and where it lies. -/
structure Ev where
  p : EvP
  li : Loc
  lg : Loc
  lv : Loc
  lp : Loc
  np : Nat
/-- The fixed part of the maker. -/
structure MkS (B : Nat) (W : World) (M : Nat) (cs : Array Value) (e : Ev) : Prop where
  c3 : cs[3]? = some (.int .i64 e.p.w)
  c4 : cs[4]? = some (.slice e.li.A e.p.ins.length e.li.c)
  c5 : cs[5]? = some (.slice e.lg.A e.p.gh.length e.lg.c)
  c6 : cs[6]? = some (.slice e.lv.A e.p.va.length e.lv.c)
  c15 : cs[15]? = some (.slice e.lp.A e.np e.lp.c)
  c24 : cs[24]? = some (.bool e.p.param)
  hP : e.p.hasP = decide (0 < e.np)
  ri : RowIn W 3 e.li e.p.ins.length (cellsD e.p.ins)
  rg : RowIn W 3 e.lg e.p.gh.length (cellsD e.p.gh)
  rv : RowIn W 3 e.lv e.p.va.length (cellsD e.p.va)
  bi : ∀ b ∈ e.li.blk e.p.ins.length, b < B ∧ b ≠ M
  bg : ∀ b ∈ e.lg.blk e.p.gh.length, b < B ∧ b ≠ M
  bv : ∀ b ∈ e.lv.blk e.p.va.length, b < B ∧ b ≠ M
  w1 : 1 ≤ e.p.w
  w3 : e.p.w ≤ 3
  ni : e.p.ins.length ≤ 2
  ng : e.p.gh.length ≤ 2
  nv : e.p.va.length ≤ 2
  np : e.np ≤ 1
structure Mk (B : Nat) (W : World) (M : Nat) (cs : Array Value) (d : Rd) (e : Ev) (r : List Nat) : Prop where
  nx : Nx B W M cs d r
  st : MkS B W M cs e
section
variable {B : Nat} {W W' : World} {M : Nat} {cs : Array Value} {d : Rd} {e : Ev} {r r' : List Nat}
theorem keeps_heap {S : Nat → Prop} (h : ∀ b, S b → W'.heap[b]? = W.heap[b]?) : KeepsOn S W W' := fun p u hs hc => by rw [World.cell?_of_block (w := W) (h p.block hs)]; exact hc
theorem MkS.below (h : MkS B W M cs e) (hb : Below B W W') : MkS B W' M cs e :=
  { h with ri := h.ri.keep (keeps_heap fun b hs => hb.block b hs) fun b hm => (h.bi b hm).1, rg := h.rg.keep (keeps_heap fun b hs => hb.block b hs) fun b hm => (h.bg b hm).1, rv := h.rv.keep (keeps_heap fun b hs => hb.block b hs) fun b hm => (h.bv b hm).1 }
theorem MkS.step (h : MkS B W M cs e) (hB : B ≤ W.heap.size) (ho : Only [M] W W') : MkS B W' M cs e :=
  have hk : ∀ b, (b < B ∧ b ≠ M) → W'.heap[b]? = W.heap[b]? := fun b hb => ho.block b (by omega) (by simpa using hb.2)
  { h with ri := h.ri.keep (keeps_heap hk) h.bi, rg := h.rg.keep (keeps_heap hk) h.bg, rv := h.rv.keep (keeps_heap hk) h.bv }
theorem Mk.below (h : Mk B W M cs d e r) (hb : Below B W W') : Mk B W' M cs d e r := ⟨h.nx.below hb, h.st.below hb⟩
theorem Mk.new (h : Mk B W M cs d e r) (hB : B ≤ W.heap.size) (hb : Below W.heap.size W W') : Mk B W' M cs d e r := h.below (hb.mono hB)
theorem Mk.next (h : Mk B W M cs d e r) (hB : B ≤ W.heap.size) (hn : Nx B W' M cs d r') (ho : Only [M] W W') : Mk B W' M cs d e r' := ⟨hn, h.st.step hB ho⟩
/-- A cell of the maker. -/
theorem Mk.cell (h : Mk B W M cs d e r) {i : Nat} {v : Value} (hi : i ≠ 1) (hc : cs[i]? = some v) : W.cell? ⟨M, i, none⟩ = some v := by
  obtain ⟨a, hb, _⟩ := h.nx.at_
  rw [hb.cell i, Array.getElem?_setIfInBounds_ne (by omega)]
  exact hc
end
theorem nextM (n : Nat) (hn : 0 < n) (hn2 : n ≤ 1000) {B M : Nat} {cs : Array Value} {d : Rd} {e : Ev} {r : List Nat} {w : World} (h : Mk B w M cs d e r) (hB : B ≤ w.heap.size) :
    Calls Try.prog 32 #[.pointer (some ⟨M, 0, none⟩), .int .i64 n] w fun x w' => x = .returned (.int .i64 (nx n r).1) ∧ Mk B w' M cs d e (nx n r).2 ∧ Only [M] w w' :=
  (next_ok n hn hn2 B M cs d r w h.nx).mono fun x w' ⟨h1, h2, h3⟩ => ⟨h1, h.next hB h2 h3, h3⟩
end Go.Proofs.Ytnldbplphgfpeaa
