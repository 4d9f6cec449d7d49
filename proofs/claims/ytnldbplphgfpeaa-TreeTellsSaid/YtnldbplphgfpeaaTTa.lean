/- Facts that gather; lists that grow, whatever their elements. -/
import Derived.Test.YtnldbplphgfpeaaTTs
namespace Go.Proofs.Ytnldbplphgfpeaa
open Go Go.RowKit Go.Shelf
set_option linter.unusedVariables false
set_option linter.unusedSimpArgs false
/-- Facts about some blocks. -/
structure Acc (D : World → Prop) (bs : List Nat) (W : World) : Prop where
  k : Keep D bs
  h : D W
section
variable {D X : World → Prop} {bs cs : List Nat} {W W' : World}
theorem Acc.new (h : Acc D bs W) (hb : Below W.heap.size W W') : Acc D bs W' := ⟨h.k, h.k.new h.h hb⟩
theorem Acc.only {g : Nat} (h : Acc D bs W) (ho : Only [g] W W') (hg : g ∉ bs) : Acc D bs W' := ⟨h.k, h.k.only h.h ho fun b hb hm => hg (by rw [← List.mem_singleton.1 hm]; exact hb)⟩
theorem Acc.add (h : Acc D bs W) (k : Keep X cs) (hX : X W) : Acc (fun W => D W ∧ X W) (bs ++ cs) W := ⟨h.k.and k, h.h, hX⟩
theorem Acc.lt (h : Acc D bs W) : ∀ b ∈ bs, b < W.heap.size := h.k.lt h.h
theorem Acc.grown {row : Option Nat} (h : Acc D bs W) (hg : W.grownBy W' row) (hr : ∀ b, row = some b → b ∉ bs) : Acc D bs W' := ⟨h.k, h.k.same h.h fun b hb => hg.block b (h.lt b hb) (fun e => hr b e.symm hb)⟩
theorem acc0 (W : World) : Acc (fun _ => True) [] W := ⟨Keep.true_, trivial⟩
theorem acc_new {g : Nat} (h : Acc D bs W) (hg : W.heap.size = g) : g ∉ bs := fun hm => by have := h.lt g hm; omega
end
/-- A list that grows: its row, in no block of its elements; what each of these is told to be. -/
structure RowB {α : Type} (own : World → α → Prop) (fp : α → List Nat) (cf : α → List Value) (base : Nat) (e : TypeId) (sz : Nat) (l : Loc) (xs : List α) (W : World) : Prop where
  row : W.ownsRow base e sz (.slice l.A xs.length l.c) xs.length (xs.flatMap cf)
  own : ∀ x ∈ xs, own W x
  ap : ∀ b ∈ l.fp, ∀ x ∈ xs, b ∉ fp x
section
variable {α : Type} {own : World → α → Prop} {fp : α → List Nat} {cf : α → List Value} {base : Nat} {e : TypeId} {sz : Nat} {l : Loc} {xs : List α} {W W' : World}
theorem RowB.new (h : RowB own fp cf base e sz l xs W) (kp : ∀ x, Keep (fun W => own W x) (fp x)) (hb : Below W.heap.size W W') : RowB own fp cf base e sz l xs W' :=
  ⟨own_only h.row (only_of_below [] hb) (by simp), fun x hx => (kp x).new (h.own x hx) hb, h.ap⟩
theorem RowB.ge (h : RowB own fp cf base e sz l xs W) : ∀ b ∈ l.fp, base ≤ b ∧ b < W.heap.size := fun b hb => h.row.lt b ((own_fp l xs.length b).1 hb)
theorem RowB.only {g : Nat} (h : RowB own fp cf base e sz l xs W) (kp : ∀ x, Keep (fun W => own W x) (fp x)) (ho : Only [g] W W') (hg : g < base) (hf : ∀ x ∈ xs, g ∉ fp x) : RowB own fp cf base e sz l xs W' :=
  ⟨own_only h.row ho (fun b hb hm => by have := (h.row.lt b hb).1; simp at hm; omega), fun x hx => (kp x).only (h.own x hx) ho fun b hb hm => hf x hx (by rw [← List.mem_singleton.1 hm]; exact hb), h.ap⟩
theorem RowB.nil (own : World → α → Prop) (fp : α → List Nat) (cf : α → List Value) (base : Nat) (e : TypeId) (sz : Nat) (W : World) : RowB own fp cf base e sz ⟨none, 0⟩ [] W :=
  ⟨World.ownsRow_nil _ _ _ _, (by intro x hx; cases hx), by intro b hb; cases hb⟩
/-- One more at the end. -/
theorem RowB.append {k : Nat} {A : Option Addr} {c : Nat} {x : α} {v : Value} (hk : xs.length = k) (ho : RowB own fp cf base e sz ⟨A, c⟩ xs W) (kp : ∀ x, Keep (fun W => own W x) (fp x)) (hx : own W x) (hdj : ∀ b ∈ (Loc.mk A c).fp, b ∉ fp x)
    (hrow : W'.ownsRow base e sz v (k + 1) (xs.flatMap cf ++ [x].flatMap cf)) (hg : W.grownBy W' (Value.slice A k c).ownBlock) (hb : v.ownBlock = (Value.slice A k c).ownBlock ∨ v.ownBlock = some W.heap.size) :
    ∃ A' c', v = .slice A' (k + 1) c' ∧ RowB own fp cf base e sz ⟨A', c'⟩ (xs ++ [x]) W' := by
  obtain ⟨A', c', rfl⟩ := own_form hrow
  have hof : ∀ b, b ∈ (Loc.mk A c).fp ↔ (Value.slice A k c).ownBlock = some b := fun b => own_fp ⟨A, c⟩ k b
  have hof' : ∀ b, b ∈ (Loc.mk A' c').fp ↔ (Value.slice A' (k + 1) c').ownBlock = some b := fun b => own_fp ⟨A', c'⟩ _ b
  have hall : ∀ y ∈ xs ++ [x], own W y ∧ ∀ b ∈ fp y, some b ≠ (Value.slice A k c).ownBlock := fun y hy => by
    rcases List.mem_append.1 hy with hy | hy
    · exact ⟨ho.own y hy, fun b hb' e => ho.ap b ((hof b).2 e.symm) y hy hb'⟩
    · rw [List.mem_singleton] at hy
      subst hy
      exact ⟨hx, fun b hb' e => hdj b ((hof b).2 e.symm) hb'⟩
  refine ⟨A', c', rfl, ⟨?_, fun y hy => (kp y).same (hall y hy).1 fun b hm => hg.block b ((kp y).lt (hall y hy).1 b hm) ((hall y hy).2 b hm), fun b hm y hy hf => ?_⟩⟩
  · rw [List.length_append, List.flatMap_append, hk]
    exact hrow
  · have h1 := (hof' b).1 hm
    rcases hb with hb | hb
    · rw [hb] at h1
      exact (hall y hy).2 b hf h1.symm
    · rw [hb] at h1
      cases h1
      have := (kp y).lt (hall y hy).1 _ hf
      omega
end
theorem RowB.keep_ {α : Type} {own : World → α → Prop} {fp : α → List Nat} (cf : α → List Value) (base : Nat) (e : TypeId) (sz : Nat) (l : Loc) (xs : List α) (kp : ∀ x, Keep (fun W => own W x) (fp x)) : Keep (fun W => RowB own fp cf base e sz l xs W) (l.fp ++ xs.flatMap fp) :=
  ⟨fun h hb => ⟨(keep_row base e sz xs.length l (xs.flatMap cf)).same h.row fun b hm => hb b (List.mem_append_left _ hm), fun x hx => (kp x).same (h.own x hx) fun b hm => hb b (List.mem_append_right _ (List.mem_flatMap.2 ⟨x, hx, hm⟩)), h.ap⟩,
    fun h b hb => by
      rcases List.mem_append.1 hb with hb | hb
      · exact (h.ge b hb).2
      · obtain ⟨x, hx, hm⟩ := List.mem_flatMap.1 hb
        exact (kp x).lt (h.own x hx) b hm⟩
def ownIR (base : Nat) (W : World) (x : In Loc) : Prop := x.val.own eR W base
def fpIR (x : In Loc) : List Nat := x.val.fp
theorem keepIR (base : Nat) (x : In Loc) : Keep (fun W => ownIR base W x) (fpIR x) := keep_ex eR base x.val
def ownPR (base : Nat) (W : World) (x : Pr Loc) : Prop := W.ownsRow base 138 3 (.slice x.lp.A x.ps.length x.lp.c) x.ps.length (cellsD x.ps) ∧ Lst.own eR W base x.lb x.body
def fpPR (x : Pr Loc) : List Nat := x.lp.fp ++ Lst.fp x.lb x.body
theorem keepPR (base : Nat) (x : Pr Loc) : Keep (fun W => ownPR base W x) (fpPR x) := (keep_row base _ 3 _ x.lp _).and (keep_lst eR base x.lb x.body)
theorem infoRI : (Try.prog.info? 130).map (fun i => (i.zero, i.size, i.bytes)) = some (some (.agg #[.int .i64 0, .int .i64 0, .int .i64 0, .int .i64 0, .int .i64 0, .string ⟨#[]⟩, .slice none 0 0]), 7, 80) := by kernel_rfl
theorem infoRP : (Try.prog.info? 132).map (fun i => (i.zero, i.size, i.bytes)) = some (some (.agg #[.string ⟨#[]⟩, .slice none 0 0, .slice none 0 0]), 3, 64) := by kernel_rfl
/-- A program for the reference that is begun: all but its first words and its procedures. -/
structure PBeg (W : World) (lo : Nat) (P : Pg Loc) : Prop where
  ins : W.ownsRow lo 138 3 (.slice P.li.A P.ins.length P.li.c) P.ins.length (cellsD P.ins)
  gh : W.ownsRow lo 138 3 (.slice P.lg.A P.gh.length P.lg.c) P.gh.length (cellsD P.gh)
  va : W.ownsRow lo 138 3 (.slice P.lv.A P.va.length P.lv.c) P.va.length (cellsD P.va)
  ar : W.ownsRow lo 138 3 (.slice P.la.A P.ar.length P.la.c) P.ar.length (cellsD P.ar)
  req : P.req.own eR W lo
  work : Lst.own eR W lo P.lw P.work
  recov : Lst.own eR W lo P.lr P.recov
  inv : P.inv.own eR W lo
theorem RowB.fp_ge {α : Type} {own : World → α → Prop} {fp : α → List Nat} {cf : α → List Value} {base n : Nat} {e : TypeId} {sz : Nat} {l : Loc} {xs : List α} {W : World} (h : RowB own fp cf base e sz l xs W) : ∀ b ∈ l.blk n, base ≤ b := fun b hb => (h.ge b (blk_fp hb)).1
/-- What is begun lies in blocks of its own. -/
theorem PBeg.blks_ge {W : World} {lo lo1 lo2 : Nat} {P : Pg Loc} (h : PBeg W lo P) (h1 : lo ≤ lo1) (h2 : lo ≤ lo2) (hI : RowB (ownIR lo1) fpIR (In.cells eR) lo1 130 7 P.ln P.inits W) (hP : RowB (ownPR lo2) fpPR Pr.cells lo2 132 3 P.lpr P.procs W) : ∀ b ∈ P.blks, lo ≤ b := fun b hb => by
  simp only [Pg.blks, List.mem_append] at hb
  rcases hb with hb | hb | hb | hb | hb | hb | hb | hb | hb | hb
  · exact (own_ge h.ins b (blk_fp hb)).1
  · exact (own_ge h.gh b (blk_fp hb)).1
  · exact (own_ge h.va b (blk_fp hb)).1
  · exact (own_ge h.ar b (blk_fp hb)).1
  · exact (h.req.ge b (Ex.blks_fp hb)).1
  · simp only [Lin.blks, List.mem_append] at hb
    rcases hb with hb | hb
    · have := hI.fp_ge b hb; omega
    · obtain ⟨x, hx, hm⟩ := List.mem_flatMap.1 hb
      have := ((hI.own x hx).ge b (Ex.blks_fp hm)).1; omega
  · simp only [Lpr.blks, List.mem_append] at hb
    rcases hb with hb | hb
    · have := hP.fp_ge b hb; omega
    · obtain ⟨x, hx, hm⟩ := List.mem_flatMap.1 hb
      simp only [Pr.blks, List.mem_append] at hm
      rcases hm with hm | hm | hm
      · have := (own_ge (l := x.lp) (hP.own x hx).1 b (blk_fp hm)).1; omega
      · have := ((hP.own x hx).2.ge b (List.mem_append_left _ (blk_fp hm))).1; omega
      · have := ((hP.own x hx).2.ge b (List.mem_append_right _ (blkS_fp hm))).1; omega
  · rcases hb with hb | hb
    · exact (h.work.ge b (List.mem_append_left _ (blk_fp hb))).1
    · exact (h.work.ge b (List.mem_append_right _ (blkS_fp hb))).1
  · rcases hb with hb | hb
    · exact (h.recov.ge b (List.mem_append_left _ (blk_fp hb))).1
    · exact (h.recov.ge b (List.mem_append_right _ (blkS_fp hb))).1
  · exact (h.inv.ge b (Ex.blks_fp hb)).1
/-- What lies in memory lies below its end. -/
theorem Pg.ok.lt {E : Enc} {W : World} {p : Pg Loc} (h : p.ok E W) : ∀ b ∈ p.blks, b < W.heap.size := fun b hb => by
  simp only [Pg.blks, List.mem_append] at hb
  rcases hb with hb | hb | hb | hb | hb | hb | hb | hb | hb | hb
  · exact h.ins.lt (by omega) b hb
  · exact h.gh.lt (by omega) b hb
  · exact h.va.lt (by omega) b hb
  · exact h.ar.lt (by omega) b hb
  · exact h.req.lt b hb
  · simp only [Lin.blks, List.mem_append] at hb
    rcases hb with hb | hb
    · exact h.inits.1.lt (by omega) b hb
    · obtain ⟨x, hx, hm⟩ := List.mem_flatMap.1 hb
      exact (h.inits.2 x hx).lt b hm
  · simp only [Lpr.blks, List.mem_append] at hb
    rcases hb with hb | hb
    · exact h.procs.1.lt (by omega) b hb
    · obtain ⟨x, hx, hm⟩ := List.mem_flatMap.1 hb
      simp only [Pr.blks, List.mem_append] at hm
      rcases hm with hm | hm | hm
      · exact (h.procs.2 x hx).1.lt (by omega) b hm
      · exact (h.procs.2 x hx).2.1.lt (by omega) b hm
      · exact okS_lt (h.procs.2 x hx).2.2 b hm
  · rcases hb with hb | hb
    · exact h.work.1.lt (by omega) b hb
    · exact okS_lt h.work.2 b hb
  · rcases hb with hb | hb
    · exact h.recov.1.lt (by omega) b hb
    · exact okS_lt h.recov.2 b hb
  · exact h.inv.lt b hb
end Go.Proofs.Ytnldbplphgfpeaa
