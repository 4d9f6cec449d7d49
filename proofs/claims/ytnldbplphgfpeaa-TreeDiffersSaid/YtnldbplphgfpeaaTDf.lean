/- The law on differences. -/
import Derived.Test.YtnldbplphgfpeaaTLd
import Derived.Deep.CutBlock
namespace Go.Proofs.Ytnldbplphgfpeaa
open Go Go.RowKit Go.Shelf
set_option linter.unusedVariables false
set_option linter.unusedSimpArgs false
set_option maxHeartbeats 8000000
/-- In the cells of g lies a program that is not pl. -/
def DX (g : Nat) (pl : Pg Unit) (W : World) : Prop := ∃ (p : Pg Loc) (cs : Array Value), Blk W g 35 cs ∧ cs = (p.cells eT).toArray ∧ p.ok eT W ∧ p.sz ≤ 20000 ∧ p.plain ≠ pl
theorem dx_put {W : World} {g i : Nat} {v : Value} {cs : Array Value} {p p' : Pg Loc} {pl : Pg Unit} (hb : Blk W g 35 cs) (hcs : cs = (p.cells eT).toArray) (hi : (p.cells eT).toArray.setIfInBounds i v = (p'.cells eT).toArray) (hok : p'.ok eT W) (hg : ∀ b ∈ p'.blks, b ≠ g) (hs : p'.sz ≤ 20000) (hne : p'.plain ≠ pl) : DX g pl (W.setCell ⟨g, i, none⟩ v) := by
  refine ⟨p', cs.setIfInBounds i v, hb.set_ i v, by rw [hcs, hi], ?_, hs, hne⟩
  exact hok.keep (keeps_only ((Only.refl [g] W).setCell (.inl (by simp)) v)) fun b hb => by simpa using hg b hb
section
variable {W : World} {base : Nat} {p : Pg Loc} {cs : Array Value} {l : List Nat}
theorem leafM_wd (e : EvP) (width wh : Nat) (r : List Nat) : 0 ≤ (leafM e width wh r).1.h.wd ∧ (leafM e width wh r).1.h.wd ≤ width := by
  unfold leafM
  split
  · simp only [nameE, Ex.h]; omega
  · simp only [numE, Ex.h]; omega
theorem exprM_wd (e : EvP) : ∀ (d width wh : Nat) (r : List Nat), 0 ≤ (exprM e d width wh r).1.h.wd ∧ (exprM e d width wh r).1.h.wd ≤ width
  | 0, width, wh, r => leafM_wd e width wh r
  | d + 1, width, wh, r => by
    simp only [exprM]
    split
    · exact leafM_wd e width wh _
    · split
      · simp only [binE, Ex.h]; omega
      · split
        · simp only [binE, Ex.h]; omega
        · split
          · simp only [Ex.h]; omega
          · split
            · split
              · simp only [Ex.h]; omega
              · simp only [Ex.h]; omega
            · split
              · simp only [Ex.h]; omega
              · split
                · simp only [Ex.h]; omega
                · exact leafM_wd e width wh _
theorem madeM_wd (l : List Nat) : 0 ≤ (madeM l).req.h.wd ∧ (madeM l).req.h.wd ≤ 1 := by
  unfold madeM
  simp only
  split
  · have := exprM_wd
    simpa using exprM_wd _ 2 1 1 _
  · simp [numE, Ex.h]
end
theorem madeM_wd' {p : Pg Loc} {l : List Nat} (h : p.plain = madeM l) : 0 ≤ p.req.h.wd ∧ p.req.h.wd ≤ 1 := by
  have := madeM_wd l
  rw [← h] at this
  obtain ⟨bl, wd, li, ins, lg, gh, lv, va, la, ar, ⟨rh, rl, rs⟩, ln, inits, lpr, procs, lw, work, lr, recov, inv⟩ := p
  exact this
theorem set_0 (p : Pg Loc) (x : Int) : (p.cells eT).toArray.setIfInBounds 0 (.int .i64 x) = (({ p with bl := x } : Pg Loc).cells eT).toArray := rfl
theorem set_1 (p : Pg Loc) (x : Int) : (p.cells eT).toArray.setIfInBounds 1 (.int .i64 x) = (({ p with wd := x } : Pg Loc).cells eT).toArray := rfl
theorem set_2 (p : Pg Loc) (L : Loc) (s : List Dc) : (p.cells eT).toArray.setIfInBounds 2 (.slice L.A s.length L.c) = (({ p with li := L, ins := s } : Pg Loc).cells eT).toArray := rfl
theorem set_4 (p : Pg Loc) (L : Loc) (s : List Dc) : (p.cells eT).toArray.setIfInBounds 4 (.slice L.A s.length L.c) = (({ p with lv := L, va := s } : Pg Loc).cells eT).toArray := rfl
theorem set_9 (p : Pg Loc) (x : Int) : (p.cells eT).toArray.setIfInBounds 9 (.int .i64 x) = (({ p with req := .mk { p.req.h with wd := x } p.req.l p.req.subs } : Pg Loc).cells eT).toArray := by
  obtain ⟨bl, wd, li, ins, lg, gh, lv, va, la, ar, ⟨rh, rl, rs⟩, ln, inits, lpr, procs, lw, work, lr, recov, inv⟩ := p
  rfl
theorem set_13 (p : Pg Loc) (L : Loc) (s : List (Pr Loc)) : (p.cells eT).toArray.setIfInBounds 13 (.slice L.A s.length L.c) = (({ p with lpr := L, procs := s } : Pg Loc).cells eT).toArray := by
  obtain ⟨bl, wd, li, ins, lg, gh, lv, va, la, ar, ⟨rh, rl, rs⟩, ln, inits, lpr, procs, lw, work, lr, recov, inv⟩ := p
  rfl
theorem set_14 (p : Pg Loc) (L : Loc) (s : List (St Loc)) : (p.cells eT).toArray.setIfInBounds 14 (.slice L.A s.length L.c) = (({ p with lw := L, work := s } : Pg Loc).cells eT).toArray := by
  obtain ⟨bl, wd, li, ins, lg, gh, lv, va, la, ar, ⟨rh, rl, rs⟩, ln, inits, lpr, procs, lw, work, lr, recov, inv⟩ := p
  rfl
theorem set_15 (p : Pg Loc) (L : Loc) (s : List (St Loc)) : (p.cells eT).toArray.setIfInBounds 15 (.slice L.A s.length L.c) = (({ p with lr := L, recov := s } : Pg Loc).cells eT).toArray := by
  obtain ⟨bl, wd, li, ins, lg, gh, lv, va, la, ar, ⟨rh, rl, rs⟩, ln, inits, lpr, procs, lw, work, lr, recov, inv⟩ := p
  rfl
theorem set_20 (p : Pg Loc) (x : ByteArray) : (p.cells eT).toArray.setIfInBounds 20 (.string x) = (({ p with inv := .mk { p.inv.h with nm := x } p.inv.l p.inv.subs } : Pg Loc).cells eT).toArray := by
  obtain ⟨bl, wd, li, ins, lg, gh, lv, va, la, ar, ⟨rh, rl, rs⟩, ln, inits, lpr, procs, lw, work, lr, recov, ⟨ih, il, is⟩⟩ := p
  rfl
/-- More cells of a program. -/
theorem cs_more {W : World} {base : Nat} {p : Pg Loc} {cs : Array Value} (h : Prg W base p cs) : cs[0]? = some (.int .i64 p.bl) ∧ cs[1]? = some (.int .i64 p.wd) ∧ cs[9]? = some (.int .i64 p.req.h.wd) ∧ cs[20]? = some (.string p.inv.h.nm) := by
  rw [h.cs]
  obtain ⟨bl, wd, li, ins, lg, gh, lv, va, la, ar, ⟨rh, rl, rs⟩, ln, inits, lpr, procs, lw, work, lr, recov, ⟨ih, il, is⟩⟩ := p
  exact ⟨rfl, rfl, rfl, rfl⟩
section
variable {W W' : World} {base g : Nat} {p : Pg Loc} {cs : Array Value} {l : List Nat}
theorem dx_0 (h : Prg W base p cs) (hb : Blk W g 35 cs) (hpl : p.plain = madeM l) (hlow : ∀ b ∈ p.fp, b ≠ g) (x : Int) (hx : x ≠ p.bl) : DX g (madeM l) (W.setCell ⟨g, 0, none⟩ (.int .i64 x)) := by
  have hs : p.sz ≤ 20000 := Nat.le_trans (made_sz hpl) (by omega)
  have k := h.own.ok
  refine dx_put hb h.cs (set_0 p x) ⟨k.1, k.2, k.3, k.4, k.5, k.6, k.7, k.8, k.9, k.10⟩ (fun b hb => hlow b (Pg.blks_fp (p := p) hb)) hs fun e => hx ?_
  exact (congrArg Pg.bl (e.trans hpl.symm) : x = p.bl)
theorem dx_1 (h : Prg W base p cs) (hb : Blk W g 35 cs) (hpl : p.plain = madeM l) (hlow : ∀ b ∈ p.fp, b ≠ g) (x : Int) (hx : x ≠ p.wd) : DX g (madeM l) (W.setCell ⟨g, 1, none⟩ (.int .i64 x)) := by
  have hs : p.sz ≤ 20000 := Nat.le_trans (made_sz hpl) (by omega)
  have k := h.own.ok
  refine dx_put hb h.cs (set_1 p x) ⟨k.1, k.2, k.3, k.4, k.5, k.6, k.7, k.8, k.9, k.10⟩ (fun b hb => hlow b (Pg.blks_fp (p := p) hb)) hs fun e => hx ?_
  exact (congrArg Pg.wd (e.trans hpl.symm) : x = p.wd)
theorem dx_9 (h : Prg W base p cs) (hb : Blk W g 35 cs) (hpl : p.plain = madeM l) (hlow : ∀ b ∈ p.fp, b ≠ g) (x : Int) (hx : x ≠ p.req.h.wd) : DX g (madeM l) (W.setCell ⟨g, 9, none⟩ (.int .i64 x)) := by
  have k := h.own.ok
  have hs := made_sz hpl
  refine dx_put hb h.cs (set_9 p x) ?_ ?_ ?_ fun e => hx ?_
  · obtain ⟨bl, wd, li, ins, lg, gh, lv, va, la, ar, ⟨rh, rl, rs⟩, ln, inits, lpr, procs, lw, work, lr, recov, inv⟩ := p
    exact ⟨k.1, k.2, k.3, k.4, k.5, k.6, k.7, k.8, k.9, k.10⟩
  · intro b hb
    obtain ⟨bl, wd, li, ins, lg, gh, lv, va, la, ar, ⟨rh, rl, rs⟩, ln, inits, lpr, procs, lw, work, lr, recov, inv⟩ := p
    exact hlow b (Pg.blks_fp hb)
  · obtain ⟨bl, wd, li, ins, lg, gh, lv, va, la, ar, ⟨rh, rl, rs⟩, ln, inits, lpr, procs, lw, work, lr, recov, inv⟩ := p
    exact Nat.le_trans hs (by omega)
  · have := congrArg (fun q : Pg Unit => q.req.h.wd) (e.trans hpl.symm)
    obtain ⟨bl, wd, li, ins, lg, gh, lv, va, la, ar, ⟨rh, rl, rs⟩, ln, inits, lpr, procs, lw, work, lr, recov, inv⟩ := p
    exact this
theorem dx_20 (h : Prg W base p cs) (hb : Blk W g 35 cs) (hpl : p.plain = madeM l) (hlow : ∀ b ∈ p.fp, b ≠ g) (x : ByteArray) (hx : x ≠ p.inv.h.nm) : DX g (madeM l) (W.setCell ⟨g, 20, none⟩ (.string x)) := by
  have k := h.own.ok
  have hs := made_sz hpl
  refine dx_put hb h.cs (set_20 p x) ?_ ?_ ?_ fun e => hx ?_
  · obtain ⟨bl, wd, li, ins, lg, gh, lv, va, la, ar, req, ln, inits, lpr, procs, lw, work, lr, recov, ⟨ih, il, is⟩⟩ := p
    exact ⟨k.1, k.2, k.3, k.4, k.5, k.6, k.7, k.8, k.9, k.10⟩
  · intro b hb
    obtain ⟨bl, wd, li, ins, lg, gh, lv, va, la, ar, req, ln, inits, lpr, procs, lw, work, lr, recov, ⟨ih, il, is⟩⟩ := p
    exact hlow b (Pg.blks_fp hb)
  · obtain ⟨bl, wd, li, ins, lg, gh, lv, va, la, ar, req, ln, inits, lpr, procs, lw, work, lr, recov, ⟨ih, il, is⟩⟩ := p
    exact Nat.le_trans hs (by omega)
  · have := congrArg (fun q : Pg Unit => q.inv.h.nm) (e.trans hpl.symm)
    obtain ⟨bl, wd, li, ins, lg, gh, lv, va, la, ar, req, ln, inits, lpr, procs, lw, work, lr, recov, ⟨ih, il, is⟩⟩ := p
    exact this
theorem dx_4 (h : Prg W base p cs) (hb : Blk W g 35 cs) (hpl : p.plain = madeM l) (hlow : ∀ b ∈ p.fp, b ≠ g) {gv c : Nat} (hl : p.lv = ⟨some ⟨gv, 0, none⟩, c⟩) : DX g (madeM l) (W.setCell ⟨g, 4, none⟩ (.slice (some ⟨gv, 3, none⟩) 1 (c - 1))) := by
  have k := h.own.ok
  have hs := made_sz hpl
  obtain ⟨_, _, ⟨w, hva⟩, _⟩ := madeM_sz l
  rw [← hpl] at hva
  have hva' : p.va = [⟨sV, w, 0⟩, ⟨sC, 2, 0⟩] := hva
  have k3 := k.3
  rw [hl, hva'] at k3
  obtain ⟨_, q2, q3, q4⟩ := k3
  obtain ⟨ad, hA, hc⟩ := q4 (by simp)
  injection hA with hA
  subst hA
  simp only [List.length_cons, List.length_nil] at q2
  refine dx_put hb h.cs (set_4 p ⟨some ⟨gv, 3, none⟩, c - 1⟩ [⟨sC, 2, 0⟩]) ⟨k.1, k.2, ⟨rfl, by show 1 ≤ c - 1; omega, by show c - 1 ≤ _; dsimp only at q3; omega, fun _ => ⟨_, rfl, fun j u hu => ?_⟩⟩, k.4, k.5, k.6, k.7, k.8, k.9, k.10⟩ ?_ ?_ ?_
  · have hj : j < 3 := (List.getElem?_eq_some_iff.1 hu).1
    have := hc (3 + j) u (by
      show ([Value.string sV, .int .i64 w, .int .i64 0] ++ cellsD [⟨sC, 2, 0⟩])[3 + j]? = some u
      rw [List.getElem?_append_right (by simp)]
      simpa using hu)
    rw [Addr.add_lit] at this ⊢
    simpa [Nat.add_assoc] using this
  · intro b hb
    refine hlow b ?_
    simp only [Pg.blks, List.mem_append] at hb
    have h4 : b ∈ (Loc.mk (some ⟨gv, 3, none⟩) (c - 1)).blk 1 → b ∈ p.fp := fun hm => by
      simp [Loc.blk] at hm
      subst hm
      simp [Pg.fp, hl, Loc.fp]
    rcases hb with hb | hb | hb | hb
    · exact Pg.blks_fp (by simp only [Pg.blks, List.mem_append]; exact .inl hb)
    · exact Pg.blks_fp (by simp only [Pg.blks, List.mem_append]; exact .inr (.inl hb))
    · exact h4 hb
    · exact Pg.blks_fp (by simp only [Pg.blks, List.mem_append]; exact .inr (.inr (.inr hb)))
  · simp only [Pg.sz, List.length_cons, List.length_nil] at hs ⊢
    omega
  · intro e
    have := congrArg (fun q : Pg Unit => q.va.length) (e.trans hpl.symm)
    simp only [Pg.plain, hva', List.length_cons, List.length_nil] at this
    omega
/-- A width in the ghosts' row. -/
theorem dx_g (h : Prg W base p cs) (hb : Blk W g 35 cs) (hpl : p.plain = madeM l) (hlow : ∀ b ∈ p.fp, b ≠ g) {gg c : Nat} (hl : p.lg = ⟨some ⟨gg, 0, none⟩, c⟩) (w : Int) (hgh : p.gh = [⟨sG, w, 0⟩, ⟨sH, 1, 0⟩]) (x : Int) (hx : x ≠ w) : DX g (madeM l) (W.setCell ⟨gg, 1, none⟩ (.int .i64 x)) := by
  have hs := made_sz hpl
  have hO : Only [gg] W (W.setCell ⟨gg, 1, none⟩ (.int .i64 x)) := (Only.refl [gg] W).setCell (.inl (by simp)) _
  have hgf : gg ∈ p.fp := by simp [Pg.fp, hl, Loc.fp]
  have hcnt : ∀ y, p.fp.count y = ({ p with lg := ⟨none, 0⟩, gh := [] } : Pg Loc).fp.count y + p.lg.fp.count y := fun y => by
    have e0 : (Loc.mk none 0).fp = [] := rfl
    simp only [Pg.fp, List.count_append, e0, List.count_nil]; omega
  obtain ⟨_, _, hdj⟩ := nodup_disj h.nd hcnt
  have hz : ({ p with lg := ⟨none, 0⟩, gh := [] } : Pg Loc).own W base := ⟨h.own.1, World.ownsRow_nil _ _ _ _, h.own.3, h.own.4, h.own.5, h.own.6, h.own.7, h.own.8, h.own.9, h.own.10⟩
  have k := ((keep_pg base _).only hz hO (fun b hb hm => by
    rw [List.mem_singleton] at hm
    subst hm
    exact hdj _ hb (by rw [hl]; simp [Loc.fp]))).ok
  have hrow := h.own.2
  unfold Ldc.own at hrow
  rw [hl, hgh] at hrow
  have hr2 := own_put_at (pre := []) (l := [.string sG, .int .i64 w, .int .i64 0]) (post := [.string sH, .int .i64 1, .int .i64 0]) hrow (i := 0) rfl 1 (by simp) (.int .i64 x)
  rw [Nat.zero_add] at hr2
  refine ⟨{ p with gh := [⟨sG, x, 0⟩, ⟨sH, 1, 0⟩] }, cs, hb.only hO (by simp; exact fun e => hlow gg hgf e.symm), ?_, ⟨k.1, ?_, k.3, k.4, k.5, k.6, k.7, k.8, k.9, k.10⟩, ?_, ?_⟩
  · rw [h.cs]
    simp only [Pg.cells, hgh, List.length_cons, List.length_nil]
  · show RowIn _ 3 p.lg 2 _
    rw [hl]
    exact own_row (l := ⟨some ⟨gg, 0, none⟩, c⟩) hr2
  · simp only [Pg.sz, hgh, List.length_cons, List.length_nil] at hs ⊢
    omega
  · intro e
    have := congrArg (fun q : Pg Unit => q.gh) (e.trans hpl.symm)
    simp only [Pg.plain, hgh, List.cons.injEq, Dc.mk.injEq] at this
    exact hx this.1.2.1
end
def zSt (k : Int) : St Loc := .mk ⟨k, ⟨#[]⟩, 0⟩ ⟨none, 0⟩ ⟨none, 0⟩ ⟨none, 0⟩ [] [] []
theorem zSt_own {W : World} {base : Nat} (k : Int) : (zSt k).own eT W base := ⟨⟨World.ownsRow_nil _ _ _ _, trivial⟩, ⟨World.ownsRow_nil _ _ _ _, trivial⟩, ⟨World.ownsRow_nil _ _ _ _, trivial⟩⟩
theorem zSt_fp (k : Int) : (zSt k).fp = [] := rfl
theorem dx_14 {W W2 : World} {base g : Nat} {p : Pg Loc} {cs : Array Value} {l : List Nat} {v : Value} (k0 : Int) (h : Prg W base p cs) (hb : Blk W g 35 cs) (hpl : p.plain = madeM l) (hlow : ∀ b ∈ p.fp, b ≠ g)
    (hrow : W2.ownsRow base 51 6 v (p.work.length + 1) (cellsS eT p.work ++ (zSt k0).cells eT)) (hg : W.grownBy W2 (Value.slice p.lw.A p.work.length p.lw.c).ownBlock) (hv : v.ownBlock = (Value.slice p.lw.A p.work.length p.lw.c).ownBlock ∨ v.ownBlock = some W.heap.size) :
    Blk W2 g 35 cs ∧ DX g (madeM l) (W2.setCell ⟨g, 14, none⟩ v) ∧ (∀ b, some b = (Value.slice p.lw.A p.work.length p.lw.c).ownBlock → b ∈ p.fp) := by
  have hs := made_sz hpl
  have hrb : ∀ b, some b = (Value.slice p.lw.A p.work.length p.lw.c).ownBlock → b ∈ p.lw.fp := fun b e => (own_fp p.lw p.work.length b).2 e.symm
  have hrf : ∀ b, some b = (Value.slice p.lw.A p.work.length p.lw.c).ownBlock → b ∈ p.fp := fun b e => by
    have := hrb b e
    simp only [Pg.fp, Lst.fp, List.mem_append]
    simp [this]
  have hb2 : Blk W2 g 35 cs := hb.grown hg (fun e => hlow g (hrf g e) rfl)
  have hcnt : ∀ y, p.fp.count y = ({ p with lw := ⟨none, 0⟩, work := [] } : Pg Loc).fp.count y + (Lst.fp p.lw p.work).count y := fun y => by
    have e0 : (Loc.mk none 0).fp = [] := rfl
    simp only [Pg.fp, Lst.fp, fpS, List.count_append, e0, List.count_nil]; omega
  obtain ⟨_, hnd, hdj⟩ := nodup_disj h.nd hcnt
  obtain ⟨A', c', rfl, hL, _⟩ := append_st (A := p.lw.A) (c := p.lw.c) h.own.work hnd (zSt_own k0) (by rw [zSt_fp]; simp) (by rw [zSt_fp]; simp) hrow hg hv
  have hz : ({ p with lw := ⟨none, 0⟩, work := [] } : Pg Loc).own W base := ⟨h.own.1, h.own.2, h.own.3, h.own.4, h.own.5, h.own.6, h.own.7, ⟨World.ownsRow_nil _ _ _ _, trivial⟩, h.own.9, h.own.10⟩
  have k := ((keep_pg base _).same hz (W' := W2) (fun b hb => hg.block b (hz.ge b hb).2 (fun e => hdj b hb (List.mem_append_left _ (hrb b e))))).ok
  refine ⟨hb2, ?_, hrf⟩
  have hlen : (p.work ++ [zSt k0]).length = p.work.length + 1 := by rw [List.length_append]; rfl
  have hdx := dx_put (p' := { p with lw := ⟨A', c'⟩, work := p.work ++ [zSt k0] }) (pl := madeM l) hb2 h.cs (set_14 p ⟨A', c'⟩ (p.work ++ [zSt k0])) ⟨k.1, k.2, k.3, k.4, k.5, k.6, k.7, hL.ok, k.9, k.10⟩ ?_ ?_ ?_
  · rw [hlen] at hdx
    exact hdx
  · intro b hb' e
    subst e
    have hn : b ∈ (Loc.mk A' c').fp → False := fun hm => by
      have h1 := (own_fp ⟨A', c'⟩ (p.work.length + 1) b).1 hm
      rcases hv with hv | hv
      · exact hlow b (hrf b (by rw [← hv, h1])) rfl
      · rw [h1] at hv
        injection hv with hv
        have := hb.lt
        omega
    have hq : ∀ b', b' ∈ ({ p with lw := ⟨A', c'⟩, work := p.work ++ [zSt k0] } : Pg Loc).fp → b' ∈ (Loc.mk A' c').fp ∨ b' ∈ p.fp := fun b' hm => by
      have e1 : fpS [zSt k0] = [] := rfl
      simp only [Pg.fp, Lst.fp, fpS_append, e1, List.append_nil, List.mem_append] at hm ⊢
      rcases hm with hm | hm | hm | hm | hm | hm | hm | (hm | hm) | (hm | hm) | hm <;> simp [hm]
    rcases hq b (Pg.blks_fp hb') with hm | hm
    · exact hn hm
    · exact hlow b hm rfl
  · simp only [Pg.sz, szS_append] at hs ⊢
    have e1 : szS [zSt k0] = 1 := rfl
    omega
  · intro e
    have := congrArg (fun q : Pg Unit => q.work.length) (e.trans hpl.symm)
    simp only [Pg.plain, plainS_map, List.length_map, hlen] at this
    omega
theorem dx_15 {W W2 : World} {base g : Nat} {p : Pg Loc} {cs : Array Value} {l : List Nat} {v : Value} (k0 : Int) (h : Prg W base p cs) (hb : Blk W g 35 cs) (hpl : p.plain = madeM l) (hlow : ∀ b ∈ p.fp, b ≠ g)
    (hrow : W2.ownsRow base 51 6 v (p.recov.length + 1) (cellsS eT p.recov ++ (zSt k0).cells eT)) (hg : W.grownBy W2 (Value.slice p.lr.A p.recov.length p.lr.c).ownBlock) (hv : v.ownBlock = (Value.slice p.lr.A p.recov.length p.lr.c).ownBlock ∨ v.ownBlock = some W.heap.size) :
    Blk W2 g 35 cs ∧ DX g (madeM l) (W2.setCell ⟨g, 15, none⟩ v) ∧ (∀ b, some b = (Value.slice p.lr.A p.recov.length p.lr.c).ownBlock → b ∈ p.fp) := by
  have hs := made_sz hpl
  have hrb : ∀ b, some b = (Value.slice p.lr.A p.recov.length p.lr.c).ownBlock → b ∈ p.lr.fp := fun b e => (own_fp p.lr p.recov.length b).2 e.symm
  have hrf : ∀ b, some b = (Value.slice p.lr.A p.recov.length p.lr.c).ownBlock → b ∈ p.fp := fun b e => by
    have := hrb b e
    simp only [Pg.fp, Lst.fp, List.mem_append]
    simp [this]
  have hb2 : Blk W2 g 35 cs := hb.grown hg (fun e => hlow g (hrf g e) rfl)
  have hcnt : ∀ y, p.fp.count y = ({ p with lr := ⟨none, 0⟩, recov := [] } : Pg Loc).fp.count y + (Lst.fp p.lr p.recov).count y := fun y => by
    have e0 : (Loc.mk none 0).fp = [] := rfl
    simp only [Pg.fp, Lst.fp, fpS, List.count_append, e0, List.count_nil]; omega
  obtain ⟨_, hnd, hdj⟩ := nodup_disj h.nd hcnt
  obtain ⟨A', c', rfl, hL, _⟩ := append_st (A := p.lr.A) (c := p.lr.c) h.own.recov hnd (zSt_own k0) (by rw [zSt_fp]; simp) (by rw [zSt_fp]; simp) hrow hg hv
  have hz : ({ p with lr := ⟨none, 0⟩, recov := [] } : Pg Loc).own W base := ⟨h.own.1, h.own.2, h.own.3, h.own.4, h.own.5, h.own.6, h.own.7, h.own.8, ⟨World.ownsRow_nil _ _ _ _, trivial⟩, h.own.10⟩
  have k := ((keep_pg base _).same hz (W' := W2) (fun b hb => hg.block b (hz.ge b hb).2 (fun e => hdj b hb (List.mem_append_left _ (hrb b e))))).ok
  refine ⟨hb2, ?_, hrf⟩
  have hlen : (p.recov ++ [zSt k0]).length = p.recov.length + 1 := by rw [List.length_append]; rfl
  have hdx := dx_put (p' := { p with lr := ⟨A', c'⟩, recov := p.recov ++ [zSt k0] }) (pl := madeM l) hb2 h.cs (set_15 p ⟨A', c'⟩ (p.recov ++ [zSt k0])) ⟨k.1, k.2, k.3, k.4, k.5, k.6, k.7, k.8, hL.ok, k.10⟩ ?_ ?_ ?_
  · rw [hlen] at hdx
    exact hdx
  · intro b hb' e
    subst e
    have hn : b ∈ (Loc.mk A' c').fp → False := fun hm => by
      have h1 := (own_fp ⟨A', c'⟩ (p.recov.length + 1) b).1 hm
      rcases hv with hv | hv
      · exact hlow b (hrf b (by rw [← hv, h1])) rfl
      · rw [h1] at hv
        injection hv with hv
        have := hb.lt
        omega
    have hq : ∀ b', b' ∈ ({ p with lr := ⟨A', c'⟩, recov := p.recov ++ [zSt k0] } : Pg Loc).fp → b' ∈ (Loc.mk A' c').fp ∨ b' ∈ p.fp := fun b' hm => by
      have e1 : fpS [zSt k0] = [] := rfl
      simp only [Pg.fp, Lst.fp, fpS_append, e1, List.append_nil, List.mem_append] at hm ⊢
      rcases hm with hm | hm | hm | hm | hm | hm | hm | (hm | hm) | (hm | hm) | hm <;> simp [hm]
    rcases hq b (Pg.blks_fp hb') with hm | hm
    · exact hn hm
    · exact hlow b hm rfl
  · simp only [Pg.sz, szS_append] at hs ⊢
    have e1 : szS [zSt k0] = 1 := rfl
    omega
  · intro e
    have := congrArg (fun q : Pg Unit => q.recov.length) (e.trans hpl.symm)
    simp only [Pg.plain, plainS_map, List.length_map, hlen] at this
    omega
def zDc : Dc := ⟨⟨#[107]⟩, 0, 0⟩
theorem dx_2 {W : World} {base b2 g : Nat} {p : Pg Loc} {cs : Array Value} {l : List Nat} {A' : Option Addr} {c' : Nat} (h : Prg W base p cs) (hb : Blk W g 35 cs) (hpl : p.plain = madeM l) (hlow : ∀ b ∈ p.fp, b ≠ g)
    (hrow : W.ownsRow b2 60 3 (.slice A' (p.ins.length + 1) c') (p.ins.length + 1) (cellsD p.ins ++ zDc.cells)) (hg : ∀ b, (Value.slice A' (p.ins.length + 1) c').ownBlock = some b → b ≠ g) : DX g (madeM l) (W.setCell ⟨g, 2, none⟩ (.slice A' (p.ins.length + 1) c')) := by
  have k := h.own.ok
  have hs := made_sz hpl
  have hlen : (p.ins ++ [zDc]).length = p.ins.length + 1 := by rw [List.length_append]; rfl
  have hr : RowIn W 3 ⟨A', c'⟩ (p.ins ++ [zDc]).length (cellsD (p.ins ++ [zDc])) := by
    rw [hlen, cellsD_append]
    have e : cellsD [zDc] = zDc.cells := by simp [cellsD]
    rw [e]
    exact own_row (l := ⟨A', c'⟩) hrow
  have hdx := dx_put (p' := { p with li := ⟨A', c'⟩, ins := p.ins ++ [zDc] }) (pl := madeM l) hb h.cs (set_2 p ⟨A', c'⟩ (p.ins ++ [zDc])) ⟨hr, k.2, k.3, k.4, k.5, k.6, k.7, k.8, k.9, k.10⟩ ?_ ?_ ?_
  · rw [hlen] at hdx
    exact hdx
  · intro b hb' e
    simp only [Pg.blks, List.mem_append] at hb'
    rcases hb' with hb' | hb'
    · exact hg b ((own_fp ⟨A', c'⟩ _ b).1 (blk_fp hb')) e
    · exact hlow b (Pg.blks_fp (by simp only [Pg.blks, List.mem_append]; exact .inr hb')) e
  · simp only [Pg.sz, hlen] at hs ⊢
    omega
  · intro e
    have := congrArg (fun q : Pg Unit => q.ins.length) (e.trans hpl.symm)
    simp only [Pg.plain, hlen] at this
    omega
def zPr : Pr Loc := ⟨⟨#[]⟩, ⟨none, 0⟩, [], ⟨none, 0⟩, []⟩
theorem dx_13 {W W2 : World} {base g : Nat} {p : Pg Loc} {cs : Array Value} {l : List Nat} {v : Value} (h : Prg W base p cs) (hb : Blk W g 35 cs) (hpl : p.plain = madeM l) (hlow : ∀ b ∈ p.fp, b ≠ g)
    (hrow : W2.ownsRow base 46 3 v (p.procs.length + 1) (cellsP p.procs ++ zPr.cells)) (hg : W.grownBy W2 (Value.slice p.lpr.A p.procs.length p.lpr.c).ownBlock) (hv : v.ownBlock = (Value.slice p.lpr.A p.procs.length p.lpr.c).ownBlock ∨ v.ownBlock = some W.heap.size) :
    Blk W2 g 35 cs ∧ DX g (madeM l) (W2.setCell ⟨g, 13, none⟩ v) ∧ (∀ b, some b = (Value.slice p.lpr.A p.procs.length p.lpr.c).ownBlock → b ∈ p.fp) := by
  have hs := made_sz hpl
  have hrb : ∀ b, some b = (Value.slice p.lpr.A p.procs.length p.lpr.c).ownBlock → b ∈ p.lpr.fp := fun b e => (own_fp p.lpr p.procs.length b).2 e.symm
  have hrf : ∀ b, some b = (Value.slice p.lpr.A p.procs.length p.lpr.c).ownBlock → b ∈ p.fp := fun b e => by
    have := hrb b e
    simp only [Pg.fp, Lpr.fp, List.mem_append]
    simp [this]
  have hb2 : Blk W2 g 35 cs := hb.grown hg (fun e => hlow g (hrf g e) rfl)
  have hcnt : ∀ y, p.fp.count y = ({ p with lpr := ⟨none, 0⟩, procs := [] } : Pg Loc).fp.count y + (Lpr.fp p.lpr p.procs).count y := fun y => by
    have e0 : (Loc.mk none 0).fp = [] := rfl
    simp only [Pg.fp, Lpr.fp, fpsP, List.flatMap_nil, List.count_append, e0, List.count_nil]; omega
  obtain ⟨_, hnd, hdj⟩ := nodup_disj h.nd hcnt
  have hnd2 := List.nodup_append.1 hnd
  obtain ⟨A', c', rfl⟩ := own_form hrow
  have hz : ({ p with lpr := ⟨none, 0⟩, procs := [] } : Pg Loc).own W base := ⟨h.own.1, h.own.2, h.own.3, h.own.4, h.own.5, h.own.6, ⟨World.ownsRow_nil _ _ _ _, fun x hx => by cases hx⟩, h.own.8, h.own.9, h.own.10⟩
  have k := ((keep_pg base _).same hz (W' := W2) (fun b hb => hg.block b (hz.ge b hb).2 (fun e => hdj b hb (List.mem_append_left _ (hrb b e))))).ok
  have hlen : (p.procs ++ [zPr]).length = p.procs.length + 1 := by rw [List.length_append]; rfl
  have hL : Lpr.ok eT W2 ⟨A', c'⟩ (p.procs ++ [zPr]) := by
    refine ⟨?_, fun x hx => ?_⟩
    · rw [hlen, cellsP_append]
      have e : cellsP [zPr] = zPr.cells := by simp [cellsP]
      rw [e]
      exact own_row (l := ⟨A', c'⟩) hrow
    · rcases List.mem_append.1 hx with hx | hx
      · have hxo := h.own.7.2 x hx
        exact ((keep_pr base x).same hxo (W' := W2) (fun b hb => hg.block b (hxo.ge b hb).2 (fun e => hnd2.2.2 b (hrb b e) b (List.mem_flatMap.2 ⟨x, hx, hb⟩) rfl))).ok
      · rw [List.mem_singleton] at hx
        subst hx
        exact ⟨own_row (e := 60) (l := ⟨none, 0⟩) (base := base) (World.ownsRow_nil _ _ _ _), (show Lst.own eT W2 base ⟨none, 0⟩ [] from ⟨World.ownsRow_nil _ _ _ _, trivial⟩).ok⟩
  refine ⟨hb2, ?_, hrf⟩
  have hdx := dx_put (p' := { p with lpr := ⟨A', c'⟩, procs := p.procs ++ [zPr] }) (pl := madeM l) hb2 h.cs (set_13 p ⟨A', c'⟩ (p.procs ++ [zPr])) ⟨k.1, k.2, k.3, k.4, k.5, k.6, hL, k.8, k.9, k.10⟩ ?_ ?_ ?_
  · rw [hlen] at hdx
    exact hdx
  · intro b hb' e
    subst e
    have hn : b ∈ (Loc.mk A' c').fp → False := fun hm => by
      have h1 := (own_fp ⟨A', c'⟩ (p.procs.length + 1) b).1 hm
      rcases hv with hv | hv
      · exact hlow b (hrf b (by rw [← hv, h1])) rfl
      · rw [h1] at hv
        injection hv with hv
        have := hb.lt
        omega
    have hq : ∀ b', b' ∈ ({ p with lpr := ⟨A', c'⟩, procs := p.procs ++ [zPr] } : Pg Loc).fp → b' ∈ (Loc.mk A' c').fp ∨ b' ∈ p.fp := fun b' hm => by
      have e1 : fpsP [zPr] = [] := rfl
      simp only [Pg.fp, Lpr.fp, fpsP_append, e1, List.append_nil, List.mem_append] at hm ⊢
      rcases hm with hm | hm | hm | hm | hm | hm | (hm | hm) | hm | hm | hm <;> simp [hm]
    rcases hq b (Pg.blks_fp hb') with hm | hm
    · exact hn hm
    · exact hlow b hm rfl
  · simp only [Pg.sz, szPr_append] at hs ⊢
    have e1 : szPr [zPr] = 1 := rfl
    omega
  · intro e
    have := congrArg (fun q : Pg Unit => q.procs.length) (e.trans hpl.symm)
    simp only [Pg.plain, List.length_map, hlen] at this
    omega
theorem str_ne (x : ByteArray) : x ++ ⟨#[120]⟩ ≠ x := fun h => by
  have := congrArg ByteArray.size h
  rw [ByteArray.size_append] at this
  have e : (⟨#[120]⟩ : ByteArray).size = 1 := rfl
  omega
theorem madeM_gh (l : List Nat) : ∃ w : Nat, w ≤ 3 ∧ (madeM l).gh = [⟨sG, (w : Int), 0⟩, ⟨sH, 1, 0⟩] := by
  have := nx_lt (n := 3) (by omega) (nx 3 (l.take 200)).2
  exact ⟨1 + (nx 3 (nx 3 (l.take 200)).2).1, by omega, rfl⟩
theorem leafM_nm (e : EvP) (he : ∀ wh, ∀ d ∈ alls e wh, d.nm.size ≤ 1) (width wh : Nat) (r : List Nat) : (leafM e width wh r).1.h.nm.size ≤ 1 := by
  unfold leafM
  split
  · simp only [nameE, Ex.h]
    cases hx : (namesOf (alls e wh) width)[(nx 8 r).1 % (namesOf (alls e wh) width).length]? with
    | none => show (⟨#[]⟩ : ByteArray).size ≤ 1; decide
    | some s =>
      have hm := List.mem_of_getElem? hx
      obtain ⟨d, hd, rfl⟩ := List.mem_map.1 hm
      exact he wh d (List.mem_filter.1 hd).1
  · exact Nat.zero_le _
theorem exprM_nm (e : EvP) (he : ∀ wh, ∀ d ∈ alls e wh, d.nm.size ≤ 1) : ∀ (d width wh : Nat) (r : List Nat), (exprM e d width wh r).1.h.nm.size ≤ 1
  | 0, width, wh, r => leafM_nm e he width wh r
  | d + 1, width, wh, r => by
    have z : (⟨#[]⟩ : ByteArray).size ≤ 1 := by decide
    have z1 : sA.size ≤ 1 := by decide
    simp only [exprM]
    split
    · exact leafM_nm e he width wh _
    · split
      · exact z
      · split
        · exact z
        · split
          · exact z
          · split
            · split
              · exact z
              · exact z
            · split
              · exact z
              · split
                · exact z1
                · exact leafM_nm e he width wh _
theorem madeM_nm (l : List Nat) : (madeM l).inv.h.nm.size ≤ 1 := by
  unfold madeM
  simp only
  refine exprM_nm _ (fun wh d hd => ?_) _ _ _ _
  simp only [alls, List.mem_append] at hd
  have hI : sI.size ≤ 1 := by decide
  have hJ : sJ.size ≤ 1 := by decide
  have hG : sG.size ≤ 1 := by decide
  have hH : sH.size ≤ 1 := by decide
  have hV : sV.size ≤ 1 := by decide
  have hC : sC.size ≤ 1 := by decide
  have hX : sX.size ≤ 1 := by decide
  rcases hd with hd | hd | hd
  · have := List.mem_of_mem_take hd
    simp only [List.mem_cons, List.not_mem_nil, or_false] at this
    rcases this with rfl | rfl
    · exact hI
    · exact hJ
  · split at hd
    · simp only [List.mem_cons, List.not_mem_nil, or_false] at hd
      rcases hd with rfl | rfl
      · exact hG
      · exact hH
    · cases hd
  · split at hd
    · simp only [List.mem_append, List.mem_cons, List.not_mem_nil, or_false] at hd
      rcases hd with (rfl | rfl) | hd
      · exact hV
      · exact hC
      · simp at hd
    · cases hd
theorem madeM_nm' {p : Pg Loc} {l : List Nat} (h : p.plain = madeM l) : p.inv.h.nm.size ≤ 1 := by
  have := madeM_nm l
  rw [← h] at this
  obtain ⟨bl, wd, li, ins, lg, gh, lv, va, la, ar, req, ln, inits, lpr, procs, lw, work, lr, recov, ⟨ih, il, is⟩⟩ := p
  exact this
theorem dx_rest {w W V : World} {row : Option Nat} {ga gb : Nat} {LA : Pg Loc} {ca : Array Value} (hy : Blk W ga 35 ca) (hA : Prg W w.heap.size LA ca) (hB : Below w.heap.size w W) (hg : W.grownBy V row) (hr : ∀ b, some b = row → b ∉ LA.fp ∧ b ≠ ga ∧ w.heap.size ≤ b) (hlowA : ∀ b ∈ LA.fp, b ≠ gb) (hgab : ga ≠ gb) (hwg : w.heap.size ≤ gb) (i : Nat) (v : Value) :
    Blk (V.setCell ⟨gb, i, none⟩ v) ga 35 ca ∧ Prg (V.setCell ⟨gb, i, none⟩ v) w.heap.size LA ca ∧ Below w.heap.size w (V.setCell ⟨gb, i, none⟩ v) := by
  have hO : Only [gb] V (V.setCell ⟨gb, i, none⟩ v) := (Only.refl [gb] V).setCell (.inl (by simp)) v
  have hA1 : Prg V w.heap.size LA ca := ⟨hA.cs, (keep_pg _ LA).same hA.own fun b hb => hg.block b (hA.own.ge b hb).2 (fun e => (hr b e).1 hb), hA.nd⟩
  have hy1 : Blk V ga 35 ca := hy.grown hg (fun e => (hr ga e).2.1 rfl)
  have hB1 : Below w.heap.size w V := hB.grown hg hB.size (fun b e => (hr b e.symm).2.2)
  exact ⟨hy1.only hO (by simpa using hgab), hA1.only hO (fun b hb hm => hlowA b hb (by simpa using hm)), hB1.trans (hO.below hB1.size (by simpa using hwg))⟩
theorem szw_len' (p : Pg Loc) : p.work.length ≤ p.sz := by have := szS_len p.work; simp only [Pg.sz]; omega
theorem szr_len' (p : Pg Loc) : p.recov.length ≤ p.sz := by have := szS_len p.recov; simp only [Pg.sz]; omega
theorem szp_len' (p : Pg Loc) : p.procs.length ≤ p.sz := by have := szPr_len p.procs; simp only [Pg.sz]; omega
/-- An If over some statements, on the one side or the other. -/
def ifT (l : Loc) (s : List (St Loc)) : St Loc := .mk ⟨6, ⟨#[]⟩, 0⟩ ⟨none, 0⟩ l ⟨none, 0⟩ [] s []
def ifE (l : Loc) (s : List (St Loc)) : St Loc := .mk ⟨6, ⟨#[]⟩, 0⟩ ⟨none, 0⟩ ⟨none, 0⟩ l [] [] s
theorem row_none {W : World} {sz : Nat} : RowIn W sz ⟨none, 0⟩ 0 [] := ⟨by simp, Nat.le_refl _, by simp, fun h => absurd h (by omega)⟩
theorem lst_one {W : World} {g : Nat} {x : St Loc} {cells : Array Value} (hb : Blk W g 51 cells) (hc : cells = (x.cells eT).toArray) (hx : x.ok eT W) : Lst.ok eT W ⟨some ⟨g, 0, none⟩, 1⟩ [x] := by
  subst hc
  refine ⟨⟨by simp [cellsS, St.cells_len], Nat.le_refl _, (show 1 ≤ 9223372036854775807 by omega), fun _ => ⟨_, rfl, fun j u hu => ?_⟩⟩, hx, trivial⟩
  rw [Addr.add_lit, Nat.zero_add, hb.cell j]
  simpa [cellsS] using hu
theorem if_same (l : Loc) (s : List (St Loc)) : sameS [ifT l s] [ifE l s] = decide (s.length = 0) := by
  have e : (⟨6, ⟨#[]⟩, 0⟩ : SHd).eq ⟨6, ⟨#[]⟩, 0⟩ = true := SHd.eq_iff.2 rfl
  cases s with
  | nil => simp [sameS, ifT, ifE, St.same, sames, e]
  | cons x s => simp [sameS, ifT, ifE, St.same, sames, e]
/-- What stays behind the comparison. -/
structure CD (w : World) (ga g1 g2 : Nat) (LA : Pg Loc) (ca : Array Value) (W : World) : Prop where
  ba : Blk W ga 35 ca
  o1 : Lst.ok eT W ⟨some ⟨g1, 0, none⟩, 1⟩ [ifT LA.lw LA.work]
  o2 : Lst.ok eT W ⟨some ⟨g2, 0, none⟩, 1⟩ [ifE LA.lw LA.work]
  be : Below w.heap.size w W
theorem CD.new {w : World} {ga g1 g2 : Nat} {LA : Pg Loc} {ca : Array Value} {W W' : World} (h : CD w ga g1 g2 LA ca W) (hb : Below W.heap.size W W') : CD w ga g1 g2 LA ca W' := ⟨h.ba.below hb h.ba.lt, h.o1.all (keeps_below hb), h.o2.all (keeps_below hb), below_and h.be hb⟩
set_option maxRecDepth 100000 in
theorem differs_ok (A1 : Option Addr) (n1 c1 : Nat) (bk : List Nat) (way : Nat) (hway : way < 256) (w : World) (h1 : Byt w A1 n1 c1 bk) :
    Calls Try.prog 5 #[.slice A1 n1 c1, .int .u8 way] w fun e w' => e = .returned (.bool true) ∧ Below w.heap.size w w' := by
  have h2 := h1
  have h1' := Lib.hid h1
  have h2' := Lib.hid h2
  have wy : (way : Int) < 256 := by omega
  have wy0 : 0 ≤ (way : Int) := by omega
  clear h1 h2
  go_enter Try.func5, Try.ntmps5
  go_wp2_with fail
  refine (awake_ok w).mono ?_
  rintro e W1 ⟨rfl, hB1⟩
  have hb1 := h1'.out.below hB1
  replace hB1 := Lib.hid hB1
  go_wp2_with fail
  refine (made_c hb1).mono ?_
  rintro e W2 ⟨LA, ca, rfl, pa, PA, hB2⟩
  have hB12 := below_and hB1.out hB2
  have hb2 := h2'.out.below hB12
  replace hB12 := Lib.hid hB12
  replace pa := Lib.hid pa
  replace PA := Lib.hid PA
  replace hB2 := Lib.hid hB2
  clear hb1
  go_wp2_with fail
  refine (made_c hb2).mono ?_
  rintro e W3 ⟨LB, cb, rfl, pb, PB, hB3⟩
  have hAB : ∀ b ∈ LA.fp, b ∉ LB.fp := fun b h1 h2 => by have := (PA.out.own.ge b h1).2; have := (PB.own.ge b h2).1; omega
  replace PA := Lib.hid ((PA.out.new hB3).base_le (base' := w.heap.size) hB1.out.size)
  replace PB := Lib.hid (PB.base_le (base' := w.heap.size) hB12.out.size)
  have hB13 := Lib.hid (below_and hB12.out hB3)
  replace pb := Lib.hid pb
  have sa := PA.out.size
  have sb := PB.out.size
  have oa := PA.out.one
  have ob := PB.out.one
  clear hb2 hB3
  obtain ⟨ga, hga⟩ : ∃ g, g = W3.heap.size := ⟨_, rfl⟩
  have hlowB : ∀ b ∈ LB.fp, b < ga := fun b hb => by rw [hga]; exact (PB.out.own.ge b hb).2
  have hlowA : ∀ b ∈ LA.fp, b < ga := fun b hb => by rw [hga]; exact (PA.out.own.ge b hb).2
  obtain ⟨W4, hW4⟩ : ∃ W, W = (W3.alloc (.cells #[.int .i64 0, .int .i64 0, .slice none 0 0, .slice none 0 0, .slice none 0 0, .slice none 0 0, .int .u8 0, .int .u8 0, .int .u32 0, .int .i64 0, .string ⟨#[]⟩, .slice none 0 0, .slice none 0 0, .slice none 0 0, .slice none 0 0, .slice none 0 0, .int .u8 0, .int .u8 0, .int .u32 0, .int .i64 0, .string ⟨#[]⟩, .slice none 0 0] 35)).alloc (.cells #[.int .i64 0, .int .i64 0, .slice none 0 0, .slice none 0 0, .slice none 0 0, .slice none 0 0, .int .u8 0, .int .u8 0, .int .u32 0, .int .i64 0, .string ⟨#[]⟩, .slice none 0 0, .slice none 0 0, .slice none 0 0, .slice none 0 0, .slice none 0 0, .int .u8 0, .int .u8 0, .int .u32 0, .int .i64 0, .string ⟨#[]⟩, .slice none 0 0] 35) := ⟨_, rfl⟩
  have hB4 : Below W3.heap.size W3 W4 := by rw [hW4]; exact ((Below.refl _ W3).alloc (Nat.le_refl _) _).alloc (by simp) _
  have xa : Blk W4 ga 35 #[.int .i64 0, .int .i64 0, .slice none 0 0, .slice none 0 0, .slice none 0 0, .slice none 0 0, .int .u8 0, .int .u8 0, .int .u32 0, .int .i64 0, .string ⟨#[]⟩, .slice none 0 0, .slice none 0 0, .slice none 0 0, .slice none 0 0, .slice none 0 0, .int .u8 0, .int .u8 0, .int .u32 0, .int .i64 0, .string ⟨#[]⟩, .slice none 0 0] := by rw [hW4, hga]; exact (Blk.new W3 35 #[.int .i64 0, .int .i64 0, .slice none 0 0, .slice none 0 0, .slice none 0 0, .slice none 0 0, .int .u8 0, .int .u8 0, .int .u32 0, .int .i64 0, .string ⟨#[]⟩, .slice none 0 0, .slice none 0 0, .slice none 0 0, .slice none 0 0, .slice none 0 0, .int .u8 0, .int .u8 0, .int .u32 0, .int .i64 0, .string ⟨#[]⟩, .slice none 0 0]).alloc _
  have xb : Blk W4 (ga + 1) 35 #[.int .i64 0, .int .i64 0, .slice none 0 0, .slice none 0 0, .slice none 0 0, .slice none 0 0, .int .u8 0, .int .u8 0, .int .u32 0, .int .i64 0, .string ⟨#[]⟩, .slice none 0 0, .slice none 0 0, .slice none 0 0, .slice none 0 0, .slice none 0 0, .int .u8 0, .int .u8 0, .int .u32 0, .int .i64 0, .string ⟨#[]⟩, .slice none 0 0] := by
    have := Blk.new (W3.alloc (.cells #[.int .i64 0, .int .i64 0, .slice none 0 0, .slice none 0 0, .slice none 0 0, .slice none 0 0, .int .u8 0, .int .u8 0, .int .u32 0, .int .i64 0, .string ⟨#[]⟩, .slice none 0 0, .slice none 0 0, .slice none 0 0, .slice none 0 0, .slice none 0 0, .int .u8 0, .int .u8 0, .int .u32 0, .int .i64 0, .string ⟨#[]⟩, .slice none 0 0] 35)) 35 #[.int .i64 0, .int .i64 0, .slice none 0 0, .slice none 0 0, .slice none 0 0, .slice none 0 0, .int .u8 0, .int .u8 0, .int .u32 0, .int .i64 0, .string ⟨#[]⟩, .slice none 0 0, .slice none 0 0, .slice none 0 0, .slice none 0 0, .slice none 0 0, .int .u8 0, .int .u8 0, .int .u32 0, .int .i64 0, .string ⟨#[]⟩, .slice none 0 0]
    rw [World.size_alloc] at this
    rw [hW4, hga]; exact this
  have hB5a := only_setCells (b := ga) ca.toList 0 W4
  have hB5b := only_setCells (b := ga + 1) cb.toList 0 (W4.setCells ga 0 ca.toList)
  have xb' := xb.only hB5a (by simp)
  have ya := (blk_put xa (by rw [sa]; rfl)).only hB5b (by simp)
  have yb := blk_put xb' (by rw [sb]; rfl)
  have hB5 : Below W3.heap.size W3 ((W4.setCells ga 0 ca.toList).setCells (ga + 1) 0 cb.toList) := hB4.trans ((hB5a.below (by have := hB4.size; omega) (by simp; omega)).trans (hB5b.below (by have := hB5a.size; have := hB4.size; omega) (by simp; omega)))
  have ta := there_blk_at xa (o := 0) (n := 22) (by decide)
  have tb := there_blk_at xb' (o := 0) (n := 22) (by decide)
  have hw5 := hB5.size
  replace hB5 := Lib.hid hB5
  replace ya := Lib.hid ya
  replace yb := Lib.hid yb
  clear xa xb xb' hB5a hB5b hB4
  have hga' := Lib.hid hga
  have hW4' := Lib.hid hW4
  clear hga hW4
  go_wp2_with (first
    | (refine wpList_store_at 35 (.tmp 5) (.tmp 12) W3.heap.size 0 ca rfl rfl (by rw [sa, ← hga'.out, ← hW4'.out]; exact ta) (by rw [sa]; kernel_rfl) oa ?_; refine Shut.out ?_))
  refine shut_mk ?_
  try simp only [Act.put, List.setIfInBounds_toArray, List.set_cons_zero, List.set_cons_succ]
  rw [← hW4'.out, ← hga'.out]
  refine wpList_store_at 35 (.tmp 6) (.tmp 14) (ga + 1) 0 cb rfl (by rfl) (by rw [sb]; exact tb) (by rw [sb]; kernel_rfl) ob ?_
  try simp only [Act.put, List.setIfInBounds_toArray, List.set_cons_zero, List.set_cons_succ]
  have hyp := And.intro ya.out (And.intro yb.out hB5.out)
  clear ya yb hB5 ta tb hw5
  generalize (W4.setCells ga 0 ca.toList).setCells (ga + 1) 0 cb.toList = W5 at *
  obtain ⟨ya, yb, hB5⟩ := hyp
  clear hW4'
  obtain ⟨gb, hgb⟩ : ∃ g, g = ga + 1 := ⟨_, rfl⟩
  rw [← hgb] at yb ⊢
  replace PA := Lib.hid (PA.out.new hB5)
  replace PB := Lib.hid (PB.out.new hB5)
  have hB05 := Lib.hid (below_and hB13.out hB5)
  have qa := made_sz pa.out
  have sza : LA.sz ≤ 20000 := by omega
  have qb := made_sz pb.out
  have szb : LB.sz ≤ 20000 := by omega
  have lga := ya.lt

  have hlow0 : ∀ b ∈ LB.fp, b ≠ gb := fun b hb => by have := hlowB b hb; have := hgb; omega
  replace hgb := Lib.hid hgb
  have hB03 : w.heap.size ≤ ga := by have := hB13.out.size; have := hga'.out; omega
  clear hB13 hB12 hB5 hB2 hB1
  go_upto_block 0 with (fail)
  have hm10 : (way : Int) % 10 = ((way % 10 : Nat) : Int) := by omega
  rw [hm10]
  obtain ⟨m, hm⟩ : ∃ m, m = way % 10 := ⟨_, rfl⟩
  rw [← hm]
  have hml : m < 10 := by omega
  replace hm := Lib.hid hm
  replace hlow0 := Lib.hid hlow0
  clear hm10
  obtain ⟨mI, hmI⟩ : ∃ mI : Int, mI = (m : Int) := ⟨_, rfl⟩
  rw [← hmI]
  have PBo := PB.out
  have PAo := PA.out
  obtain ⟨gw, hgw3, hgh⟩ := madeM_gh bk
  obtain ⟨_, _, ⟨vw, hva⟩, ⟨ab, aw, hbl, hbl3, hwd, hwd3⟩, _⟩ := madeM_sz bk
  have e1 : LB.bl = (ab : Int) := by have := congrArg Pg.bl pb.out; exact this.trans hbl
  have e2 : LB.wd = (aw : Int) := by have := congrArg Pg.wd pb.out; exact this.trans hwd
  have e3 : LB.gh = [⟨sG, (gw : Int), 0⟩, ⟨sH, 1, 0⟩] := by have := congrArg Pg.gh pb.out; exact this.trans hgh
  have e4 : LB.va = [⟨sV, vw, 0⟩, ⟨sC, 2, 0⟩] := by have := congrArg Pg.va pb.out; exact this.trans hva
  have e5 := madeM_wd' pb.out
  obtain ⟨q0, q1, q9, q20⟩ := cs_more PBo
  obtain ⟨k2, k3, k4, k5, k12, k13, k14, k15⟩ := cs_at PBo
  go_cut [] from 17 to 91 (fun wx => DX gb (madeM bk) wx ∧ Blk wx ga 35 ca ∧ Prg wx w.heap.size LA ca ∧ Below w.heap.size w wx)
  case first =>
    have hq : mI = 0 ∨ mI = 1 ∨ mI = 2 ∨ mI = 3 ∨ mI = 4 ∨ mI = 5 ∨ mI = 6 ∨ mI = 7 ∨ mI = 8 ∨ mI = 9 := by omega
    have lgb := yb.lt
    have hO0 : ∀ (i : Nat) (v : Value), Blk (W5.setCell ⟨gb, i, none⟩ v) ga 35 ca ∧ Prg (W5.setCell ⟨gb, i, none⟩ v) w.heap.size LA ca ∧ Below w.heap.size w (W5.setCell ⟨gb, i, none⟩ v) := fun i v => by
      have hO : Only [gb] W5 (W5.setCell ⟨gb, i, none⟩ v) := (Only.refl [gb] W5).setCell (.inl (by simp)) v
      have hgb' := hgb.out
      have hbw := hB05.out
      have hga3 := hga'.out
      exact ⟨ya.only hO (by simp; omega), PAo.only hO (fun b hb hm => by rw [List.mem_singleton] at hm; have := hlowA b hb; omega), hbw.trans (hO.below hbw.size (by simp; have := hB03; omega))⟩
    have g0 := (yb.cell 0).trans q0
    have g1 := (yb.cell 1).trans q1
    have g9 := (yb.cell 9).trans q9
    have g20 := (yb.cell 20).trans q20
    have g2 := (yb.cell 2).trans k2
    have g3 := (yb.cell 3).trans k3
    have g4 := (yb.cell 4).trans k4
    have g13 := (yb.cell 13).trans k13
    have g14 := (yb.cell 14).trans k14
    have g15 := (yb.cell 15).trans k15
    have fr := fun i => yb.frozen i
    clear q0 q1 q9 q20 k2 k3 k4 k5 k12 k13 k14 k15
    replace hO0 := Lib.hid hO0
    have yb' := Lib.hid yb
    have ya' := Lib.hid ya
    clear ya
    replace hmI := Lib.hid hmI
    replace PBo := Lib.hid PBo
    replace PAo := Lib.hid PAo
    rcases hq with rfl | rfl | rfl | rfl | rfl | rfl | rfl | rfl | rfl | rfl
    · skip
      have f0 := fr 0
      clear g1 g9 g20 g2 g3 g4 g13 g14 g15 fr yb
      rw [e1] at g0
      have a0 : (ab : Int) ≤ 3 := by omega
      have hst := dx_0 PBo.out yb'.out pb.out hlow0.out ((ab : Int) + 1) (by omega)
      obtain ⟨hs1, hs2, hs3⟩ := hO0.out 0 (.int .i64 ((ab : Int) + 1))
      replace hst := Lib.hid hst
      replace hs1 := Lib.hid hs1
      replace hs2 := Lib.hid hs2
      replace hs3 := Lib.hid hs3
      go_wp2_with fail
      go_meet
      exact ⟨hst.out, hs1.out, hs2.out, hs3.out⟩
    · skip
      have f1 := fr 1
      clear g0 g9 g20 g2 g3 g4 g13 g14 g15 fr yb
      rw [e2] at g1
      have a0 : (aw : Int) ≤ 3 := by omega
      have hst := dx_1 PBo.out yb'.out pb.out hlow0.out ((aw : Int) + 1) (by omega)
      obtain ⟨hs1, hs2, hs3⟩ := hO0.out 1 (.int .i64 ((aw : Int) + 1))
      replace hst := Lib.hid hst
      replace hs1 := Lib.hid hs1
      replace hs2 := Lib.hid hs2
      replace hs3 := Lib.hid hs3
      go_wp2_with fail
      go_meet
      exact ⟨hst.out, hs1.out, hs2.out, hs3.out⟩
    · skip
      clear g0 g1 g9 g20 g3 g4 g13 g14 g15
      have f0 := fr 2
      clear fr f0
      have hgb' := hgb.out
      have hgbA : ∀ b ∈ LA.fp, b ≠ gb := fun b hb => by have := hlowA b hb; omega
      have hwgb : w.heap.size ≤ gb := by omega
      have hgab : ga ≠ gb := by omega
      clear hgb'
      obtain ⟨i0, hi, hz0, hz1, hz2⟩ := info_parts infoDecl
      have hil : LB.ins.length ≤ 10000 := by have := made_sz pb.out; simp only [Pg.sz] at this; omega
      have hc := cloneDecl LB.li LB.ins.length (cellsD LB.ins) W5 PBo.out.own.ins.ok (cellsD_one _) (by omega)
      replace hc := Lib.hid hc
      replace hi := Lib.hid hi
      replace hz0 := Lib.hid hz0
      replace hz1 := Lib.hid hz1
      replace hz2 := Lib.hid hz2
      go_wp2_with fail
      refine hc.out.mono ?_
      rintro e V1 ⟨⟨B1, d1⟩, rfl, hown, hB1⟩
      have hBx := (Below.refl _ V1).alloc (Nat.le_refl _) (.cells #[.string ⟨#[107]⟩, .int .i64 0, .int .i64 0] 60)
      have hrd := Reads.of_own (World.ownsRow_lit (base := V1.heap.size) (e := 60) (size := 3) V1 #[.string ⟨#[107]⟩, .int .i64 0, .int .i64 0] 1 (Nat.le_refl _) (by simp [maxLen]) rfl)
      obtain ⟨V2, hV2⟩ : ∃ W, W = V1.alloc (.cells #[.string ⟨#[107]⟩, .int .i64 0, .int .i64 0] 60) := ⟨_, rfl⟩
      rw [← hV2] at hBx hrd
      have hown2 := own_only hown (only_of_below [] hBx) (by simp)
      have hB2 := below_and hB1 hBx
      have hw2 := hB2.size
      have hB02 := below_and hB05.out hB2
      have hown2' : V2.ownsRow W5.heap.size 60 3 (.slice B1 LB.ins.length d1) LB.ins.length (cellsD LB.ins) := hown2
      have hrl : ∀ b, some b = (Value.slice B1 LB.ins.length d1).ownBlock → W5.heap.size ≤ b := fun b e => (hown2'.lt b e.symm).1
      have hga5 := ya'.out.lt
      have hfin : ∀ (v3 : Value) (V3 : World), V3.ownsRow W5.heap.size 60 3 v3 (LB.ins.length + 1) (cellsD LB.ins ++ zDc.cells) → V2.grownBy V3 (Value.slice B1 LB.ins.length d1).ownBlock → (v3.ownBlock = (Value.slice B1 LB.ins.length d1).ownBlock ∨ v3.ownBlock = some V2.heap.size) →
          (V3.cell? ⟨gb, 2, none⟩ = some (.slice LB.li.A LB.ins.length LB.li.c) ∧ V3.frozen? ⟨gb, 2, none⟩ = false ∧ gb < V3.heap.size) ∧ DX gb (madeM bk) (V3.setCell ⟨gb, 2, none⟩ v3) ∧ Blk (V3.setCell ⟨gb, 2, none⟩ v3) ga 35 ca ∧ Prg (V3.setCell ⟨gb, 2, none⟩ v3) w.heap.size LA ca ∧ Below w.heap.size w (V3.setCell ⟨gb, 2, none⟩ v3) := fun v3 V3 q1 q2 q3 => by
        have hB53 : Below W5.heap.size W5 V3 := hB2.grown q2 hB2.size (fun b e => hrl b e.symm)
        have PB3 := PBo.out.new hB53
        have z1 := yb'.out.below hB53 lgb
        obtain ⟨A', c', rfl⟩ := own_form q1
        have z2 := dx_2 PB3 z1 pb.out hlow0.out q1 (fun b e e2 => by have := (q1.lt b e).1; omega)
        have z4 := dx_rest (ya'.out.below hB2 hga5) (PAo.out.new hB2) hB02 q2 (fun b e => ⟨fun hm => by have := hlowA b hm; have := hrl b e; omega, fun e2 => by have := hrl b e; omega, by have := hrl b e; have := hB05.out.size; omega⟩) hgbA hgab hwgb 2 (.slice A' (LB.ins.length + 1) c')
        exact ⟨⟨(z1.cell 2).trans ((yb'.out.cell 2).symm.trans g2), z1.frozen 2, z1.lt⟩, z2, z4.1, z4.2.1, z4.2.2⟩
      replace hfin := Lib.hid hfin
      replace hV2 := Lib.hid hV2
      replace hB02 := Lib.hid hB02
      clear hBx hown hB1 hown2 hc hB2 g2 yb hrl
      go_wp2_with (at_builtin; rw [← hV2.out]; refine wpList_append_any _ rfl (.tmp 39) (.tmp 41) 24 rfl W5.heap.size 60 i0 _ 3 32 Try.underlying24 hi.out hz0.out hz1.out hz2.out rfl (by omega) (.slice B1 LB.ins.length d1) LB.ins.length (cellsD LB.ins) rfl hown2' _ (some ⟨V1.heap.size, 0, none⟩) 1 1 (zDc.cells) rfl hrd (cellsD_one [zDc]) (by simp only [maxLen]; omega) (by omega) hw2 ?_; intro v3 V3 hown3 hg3 hb3; obtain ⟨A9, c9, rfl⟩ := own_form hown3; obtain ⟨⟨z1, z2, z3⟩, z4, z5, z6, z7⟩ := hfin.out _ V3 hown3 hg3 hb3; replace z4 := Lib.hid z4; replace z5 := Lib.hid z5; replace z6 := Lib.hid z6; replace z7 := Lib.hid z7; clear hown3 hg3 hb3)
      go_meet
      exact ⟨z4.out, z5.out, z6.out, z7.out⟩
    · skip
      clear g0 g1 g9 g20 g2 g3 g13 g14 g15
      have f4 := fr 4
      clear fr yb
      have hgb' := hgb.out
      have hgbA : ∀ b ∈ LA.fp, b ≠ gb := fun b hb => by have := hlowA b hb; omega
      have hwgb : w.heap.size ≤ gb := by omega
      have hgab : ga ≠ gb := by omega
      clear hgb'
      have hrow := PBo.out.own.va
      unfold Ldc.own at hrow
      obtain ⟨gv, cv, hvv, _, hgv⟩ := hrow.form (by rw [e4]; simp)
      obtain ⟨lv, hlv⟩ : ∃ l, l = LB.lv := ⟨_, rfl⟩
      rw [← hlv] at hvv g4
      obtain ⟨lvA, lvc⟩ := lv
      injection hvv with hvv _ hcc
      dsimp only at hvv hcc
      subst hvv
      have hcap := own_cap hrow
      rw [← hlv] at hcap
      dsimp only at hcap
      have hva2 : LB.va.length = 2 := by rw [e4]; rfl
      rw [hva2] at g4 hcap
      have c2' : 2 ≤ (lvc : Int) := by omega
      have c9' : (lvc : Int) ≤ 9223372036854775807 := by omega
      have hne1 : lvc ≠ 1 := by omega
      have hst := dx_4 PBo.out yb'.out pb.out hlow0.out hlv.symm
      obtain ⟨hs1, hs2, hs3⟩ := hO0.out 4 (.slice (some ⟨gv, 3, none⟩) 1 (lvc - 1))
      replace hst := Lib.hid hst
      replace hs1 := Lib.hid hs1
      replace hs2 := Lib.hid hs2
      replace hs3 := Lib.hid hs3
      replace hlv := Lib.hid hlv
      clear hrow hcap hcc
      go_wp2_with fail
      go_meet
      exact ⟨hst.out, hs1.out, hs2.out, hs3.out⟩
    · skip
      clear g0 g1 g9 g20 g2 g4 g13 g14 g15
      clear fr
      have hgb' := hgb.out
      have hgbA : ∀ b ∈ LA.fp, b ≠ gb := fun b hb => by have := hlowA b hb; omega
      have hwgb : w.heap.size ≤ gb := by omega
      have hgab : ga ≠ gb := by omega
      clear hgb'
      have hrow := PBo.out.own.gh
      unfold Ldc.own at hrow
      obtain ⟨gg, cg, hvv, _, hgg⟩ := hrow.form (by rw [e3]; simp)
      obtain ⟨lg, hlg⟩ : ∃ l, l = LB.lg := ⟨_, rfl⟩
      rw [← hlg] at hvv g3 hrow
      obtain ⟨lgA, lgc⟩ := lg
      injection hvv with hvv _ hcc
      dsimp only at hvv hcc
      subst hvv
      rw [e3] at hrow
      have hcell := own_at (pre := []) (l := [.string sG, .int .i64 gw, .int .i64 0]) (post := [.string sH, .int .i64 1, .int .i64 0]) hrow (i := 0) rfl 1 rfl
      rw [Nat.zero_add] at hcell
      obtain ⟨z1, z2, z3⟩ := hcell
      have hgh2 : LB.gh.length = 2 := by rw [e3]; rfl
      rw [hgh2] at g3
      have hst := dx_g PBo.out yb'.out pb.out hlow0.out hlg.symm (gw : Int) e3 ((gw : Int) + 1) (by omega)
      have hgf : gg ∈ LB.fp := by simp [Pg.fp, ← hlg, Loc.fp]
      have hO : Only [gg] W5 (W5.setCell ⟨gg, 1, none⟩ (.int .i64 ((gw : Int) + 1))) := (Only.refl [gg] W5).setCell (.inl (by simp)) _
      have hs1 := ya'.out.only hO (by simp; have := hlowB gg hgf; omega)
      have hs2 := PAo.out.only hO (fun b hb hm => by rw [List.mem_singleton] at hm; subst hm; exact hAB b hb hgf)
      have hs3 := hB05.out.trans (hO.below hB05.out.size (by simp; exact (PBo.out.own.ge gg hgf).1))
      have gw0 : (gw : Int) ≤ 3 := by omega
      replace hst := Lib.hid hst
      replace hs1 := Lib.hid hs1
      replace hs2 := Lib.hid hs2
      replace hs3 := Lib.hid hs3
      replace hlg := Lib.hid hlg
      replace hgf := Lib.hid hgf
      clear hrow hcc hO
      go_wp2_with fail
      go_meet
      exact ⟨hst.out, hs1.out, hs2.out, hs3.out⟩
    · skip
      have f9 := fr 9
      clear g0 g1 g20 g2 g3 g4 g13 g14 g15 fr yb
      obtain ⟨z0, z1⟩ := e5
      have hst := dx_9 PBo.out yb'.out pb.out hlow0.out (LB.req.h.wd + 20) (by omega)
      obtain ⟨hs1, hs2, hs3⟩ := hO0.out 9 (.int .i64 (LB.req.h.wd + 20))
      replace hst := Lib.hid hst
      replace hs1 := Lib.hid hs1
      replace hs2 := Lib.hid hs2
      replace hs3 := Lib.hid hs3
      go_wp2_with fail
      go_meet
      exact ⟨hst.out, hs1.out, hs2.out, hs3.out⟩
    · skip
      clear g0 g1 g9 g20 g2 g3 g4 g13 g15
      have f0 := fr 14
      clear fr
      have hgb' := hgb.out
      have hgbA : ∀ b ∈ LA.fp, b ≠ gb := fun b hb => by have := hlowA b hb; omega
      have hwgb : w.heap.size ≤ gb := by omega
      have hgab : ga ≠ gb := by omega
      clear hgb'
      obtain ⟨i0, hi, hz0, hz1, hz2⟩ := info_parts infoStmt
      have hfl : LB.work.length ≤ 10000 := by have := made_sz pb.out; have h1 := szw_len' LB; omega
      have hBx := (Below.refl _ W5).alloc (Nat.le_refl _) (.cells #[.int .u8 0, .string ⟨#[]⟩, .slice none 0 0, .int .i64 0, .slice none 0 0, .slice none 0 0] 51)
      have hrd := Reads.of_own (World.ownsRow_lit (base := W5.heap.size) (e := 51) (size := 6) W5 #[.int .u8 0, .string ⟨#[]⟩, .slice none 0 0, .int .i64 0, .slice none 0 0, .slice none 0 0] 1 (Nat.le_refl _) (by simp [maxLen]) rfl)
      obtain ⟨W6, hW6⟩ : ∃ W, W = W5.alloc (.cells #[.int .u8 0, .string ⟨#[]⟩, .slice none 0 0, .int .i64 0, .slice none 0 0, .slice none 0 0] 51) := ⟨_, rfl⟩
      rw [← hW6] at hBx hrd
      have PB6 := PBo.out.new hBx
      have hrow := PB6.own.work.1
      have yb6 := yb'.out.below hBx lgb
      have hB06 := below_and hB05.out hBx
      have hBs := hB06.size
      have hfin : ∀ (v3 : Value) (V3 : World), V3.ownsRow w.heap.size 51 6 v3 (LB.work.length + 1) (cellsS eT LB.work ++ (zSt 0).cells eT) → W6.grownBy V3 (Value.slice LB.lw.A LB.work.length LB.lw.c).ownBlock → (v3.ownBlock = (Value.slice LB.lw.A LB.work.length LB.lw.c).ownBlock ∨ v3.ownBlock = some W6.heap.size) →
          (V3.cell? ⟨gb, 14, none⟩ = some (.slice LB.lw.A LB.work.length LB.lw.c) ∧ V3.frozen? ⟨gb, 14, none⟩ = false ∧ gb < V3.heap.size) ∧ DX gb (madeM bk) (V3.setCell ⟨gb, 14, none⟩ v3) ∧ Blk (V3.setCell ⟨gb, 14, none⟩ v3) ga 35 ca ∧ Prg (V3.setCell ⟨gb, 14, none⟩ v3) w.heap.size LA ca ∧ Below w.heap.size w (V3.setCell ⟨gb, 14, none⟩ v3) := fun v3 V3 q1 q2 q3 => by
        obtain ⟨z1, z2, z3⟩ := dx_14 0 PB6 yb6 pb.out hlow0.out q1 q2 q3
        have z4 := dx_rest (ya'.out.below hBx ya'.out.lt) (PAo.out.new hBx) hB06 q2 (fun b e => ⟨fun hm => hAB b hm (z3 b e), fun e2 => by have := hlowB b (z3 b e); omega, (PB6.own.ge b (z3 b e)).1⟩) hgbA hgab hwgb 14 v3
        exact ⟨⟨(z1.cell 14).trans ((yb'.out.cell 14).symm.trans g14), z1.frozen 14, z1.lt⟩, z2, z4.1, z4.2.1, z4.2.2⟩
      have hrow' : W6.ownsRow w.heap.size 51 6 (.slice LB.lw.A LB.work.length LB.lw.c) LB.work.length (cellsS eT LB.work) := hrow
      replace hfin := Lib.hid hfin
      replace hi := Lib.hid hi
      replace hz0 := Lib.hid hz0
      replace hz1 := Lib.hid hz1
      replace hz2 := Lib.hid hz2
      replace PB6 := Lib.hid PB6
      replace hB06 := Lib.hid hB06
      replace hW6 := Lib.hid hW6
      clear hBx hrow yb6 yb f0
      go_wp2_with (at_builtin; rw [← hW6.out]; refine wpList_append_any _ rfl (.tmp 71) (.tmp 73) 33 rfl w.heap.size 51 i0 _ 6 104 Try.underlying33 hi.out hz0.out hz1.out hz2.out rfl (by omega) (.slice LB.lw.A LB.work.length LB.lw.c) LB.work.length (cellsS eT LB.work) rfl hrow' _ (some ⟨W5.heap.size, 0, none⟩) 1 1 ((zSt 0).cells eT) rfl hrd ((zSt 0).cells_one eT) (by simp only [maxLen]; omega) (by omega) hBs ?_; intro v3 V3 hown3 hg3 hb3; obtain ⟨A9, c9, rfl⟩ := own_form hown3; obtain ⟨⟨z1, z2, z3⟩, z4, z5, z6, z7⟩ := hfin.out _ V3 hown3 hg3 hb3; replace z4 := Lib.hid z4; replace z5 := Lib.hid z5; replace z6 := Lib.hid z6; replace z7 := Lib.hid z7; clear hown3 hg3 hb3)
      go_meet
      exact ⟨z4.out, z5.out, z6.out, z7.out⟩
    · skip
      clear g0 g1 g9 g20 g2 g3 g4 g13 g14
      have f0 := fr 15
      clear fr
      have hgb' := hgb.out
      have hgbA : ∀ b ∈ LA.fp, b ≠ gb := fun b hb => by have := hlowA b hb; omega
      have hwgb : w.heap.size ≤ gb := by omega
      have hgab : ga ≠ gb := by omega
      clear hgb'
      obtain ⟨i0, hi, hz0, hz1, hz2⟩ := info_parts infoStmt
      have hfl : LB.recov.length ≤ 10000 := by have := made_sz pb.out; have h1 := szr_len' LB; omega
      have hBx := (Below.refl _ W5).alloc (Nat.le_refl _) (.cells #[.int .u8 4, .string ⟨#[]⟩, .slice none 0 0, .int .i64 0, .slice none 0 0, .slice none 0 0] 51)
      have hrd := Reads.of_own (World.ownsRow_lit (base := W5.heap.size) (e := 51) (size := 6) W5 #[.int .u8 4, .string ⟨#[]⟩, .slice none 0 0, .int .i64 0, .slice none 0 0, .slice none 0 0] 1 (Nat.le_refl _) (by simp [maxLen]) rfl)
      obtain ⟨W6, hW6⟩ : ∃ W, W = W5.alloc (.cells #[.int .u8 4, .string ⟨#[]⟩, .slice none 0 0, .int .i64 0, .slice none 0 0, .slice none 0 0] 51) := ⟨_, rfl⟩
      rw [← hW6] at hBx hrd
      have PB6 := PBo.out.new hBx
      have hrow := PB6.own.recov.1
      have yb6 := yb'.out.below hBx lgb
      have hB06 := below_and hB05.out hBx
      have hBs := hB06.size
      have hfin : ∀ (v3 : Value) (V3 : World), V3.ownsRow w.heap.size 51 6 v3 (LB.recov.length + 1) (cellsS eT LB.recov ++ (zSt 4).cells eT) → W6.grownBy V3 (Value.slice LB.lr.A LB.recov.length LB.lr.c).ownBlock → (v3.ownBlock = (Value.slice LB.lr.A LB.recov.length LB.lr.c).ownBlock ∨ v3.ownBlock = some W6.heap.size) →
          (V3.cell? ⟨gb, 15, none⟩ = some (.slice LB.lr.A LB.recov.length LB.lr.c) ∧ V3.frozen? ⟨gb, 15, none⟩ = false ∧ gb < V3.heap.size) ∧ DX gb (madeM bk) (V3.setCell ⟨gb, 15, none⟩ v3) ∧ Blk (V3.setCell ⟨gb, 15, none⟩ v3) ga 35 ca ∧ Prg (V3.setCell ⟨gb, 15, none⟩ v3) w.heap.size LA ca ∧ Below w.heap.size w (V3.setCell ⟨gb, 15, none⟩ v3) := fun v3 V3 q1 q2 q3 => by
        obtain ⟨z1, z2, z3⟩ := dx_15 4 PB6 yb6 pb.out hlow0.out q1 q2 q3
        have z4 := dx_rest (ya'.out.below hBx ya'.out.lt) (PAo.out.new hBx) hB06 q2 (fun b e => ⟨fun hm => hAB b hm (z3 b e), fun e2 => by have := hlowB b (z3 b e); omega, (PB6.own.ge b (z3 b e)).1⟩) hgbA hgab hwgb 15 v3
        exact ⟨⟨(z1.cell 15).trans ((yb'.out.cell 15).symm.trans g15), z1.frozen 15, z1.lt⟩, z2, z4.1, z4.2.1, z4.2.2⟩
      have hrow' : W6.ownsRow w.heap.size 51 6 (.slice LB.lr.A LB.recov.length LB.lr.c) LB.recov.length (cellsS eT LB.recov) := hrow
      replace hfin := Lib.hid hfin
      replace hi := Lib.hid hi
      replace hz0 := Lib.hid hz0
      replace hz1 := Lib.hid hz1
      replace hz2 := Lib.hid hz2
      replace PB6 := Lib.hid PB6
      replace hB06 := Lib.hid hB06
      replace hW6 := Lib.hid hW6
      clear hBx hrow yb6 yb f0
      go_wp2_with (at_builtin; rw [← hW6.out]; refine wpList_append_any _ rfl (.tmp 79) (.tmp 81) 33 rfl w.heap.size 51 i0 _ 6 104 Try.underlying33 hi.out hz0.out hz1.out hz2.out rfl (by omega) (.slice LB.lr.A LB.recov.length LB.lr.c) LB.recov.length (cellsS eT LB.recov) rfl hrow' _ (some ⟨W5.heap.size, 0, none⟩) 1 1 ((zSt 4).cells eT) rfl hrd ((zSt 4).cells_one eT) (by simp only [maxLen]; omega) (by omega) hBs ?_; intro v3 V3 hown3 hg3 hb3; obtain ⟨A9, c9, rfl⟩ := own_form hown3; obtain ⟨⟨z1, z2, z3⟩, z4, z5, z6, z7⟩ := hfin.out _ V3 hown3 hg3 hb3; replace z4 := Lib.hid z4; replace z5 := Lib.hid z5; replace z6 := Lib.hid z6; replace z7 := Lib.hid z7; clear hown3 hg3 hb3)
      go_meet
      exact ⟨z4.out, z5.out, z6.out, z7.out⟩
    · skip
      have f20 := fr 20
      clear g0 g1 g9 g2 g3 g4 g13 g14 g15 fr yb
      have hnz := madeM_nm' pb.out
      obtain ⟨nm, hnm⟩ : ∃ nm, nm = LB.inv.h.nm := ⟨_, rfl⟩
      have hnz1 : (nm.size : Int) ≤ 8388608 := by rw [hnm]; omega
      have hnz2 : ((⟨#[120]⟩ : ByteArray).size : Int) ≤ 8388608 := by decide
      have hadd := fun w => run_string_add (P := Try.prog) w nm ⟨#[120]⟩ hnz1 hnz2
      rw [← hnm] at g20
      replace hnm := Lib.hid hnm
      clear hnz
      have hst := dx_20 PBo.out yb'.out pb.out hlow0.out (nm ++ ⟨#[120]⟩) (by rw [← hnm.out]; exact str_ne _)
      obtain ⟨hs1, hs2, hs3⟩ := hO0.out 20 (.string (nm ++ ⟨#[120]⟩))
      replace hst := Lib.hid hst
      replace hs1 := Lib.hid hs1
      replace hs2 := Lib.hid hs2
      replace hs3 := Lib.hid hs3
      go_wp2_with fail
      go_meet
      exact ⟨hst.out, hs1.out, hs2.out, hs3.out⟩
    · skip
      clear g0 g1 g9 g20 g2 g3 g4 g14 g15
      have f0 := fr 13
      clear fr
      have hgb' := hgb.out
      have hgbA : ∀ b ∈ LA.fp, b ≠ gb := fun b hb => by have := hlowA b hb; omega
      have hwgb : w.heap.size ≤ gb := by omega
      have hgab : ga ≠ gb := by omega
      clear hgb'
      obtain ⟨i0, hi, hz0, hz1, hz2⟩ := info_parts infoProc
      have hfl : LB.procs.length ≤ 10000 := by have := made_sz pb.out; have h1 := szp_len' LB; omega
      have hBx := (Below.refl _ W5).alloc (Nat.le_refl _) (.cells #[.string ⟨#[]⟩, .slice none 0 0, .slice none 0 0] 46)
      have hrd := Reads.of_own (World.ownsRow_lit (base := W5.heap.size) (e := 46) (size := 3) W5 #[.string ⟨#[]⟩, .slice none 0 0, .slice none 0 0] 1 (Nat.le_refl _) (by simp [maxLen]) rfl)
      obtain ⟨W6, hW6⟩ : ∃ W, W = W5.alloc (.cells #[.string ⟨#[]⟩, .slice none 0 0, .slice none 0 0] 46) := ⟨_, rfl⟩
      rw [← hW6] at hBx hrd
      have PB6 := PBo.out.new hBx
      have hrow := PB6.own.procs.1
      have yb6 := yb'.out.below hBx lgb
      have hB06 := below_and hB05.out hBx
      have hBs := hB06.size
      have hfin : ∀ (v3 : Value) (V3 : World), V3.ownsRow w.heap.size 46 3 v3 (LB.procs.length + 1) (cellsP LB.procs ++ zPr.cells) → W6.grownBy V3 (Value.slice LB.lpr.A LB.procs.length LB.lpr.c).ownBlock → (v3.ownBlock = (Value.slice LB.lpr.A LB.procs.length LB.lpr.c).ownBlock ∨ v3.ownBlock = some W6.heap.size) →
          (V3.cell? ⟨gb, 13, none⟩ = some (.slice LB.lpr.A LB.procs.length LB.lpr.c) ∧ V3.frozen? ⟨gb, 13, none⟩ = false ∧ gb < V3.heap.size) ∧ DX gb (madeM bk) (V3.setCell ⟨gb, 13, none⟩ v3) ∧ Blk (V3.setCell ⟨gb, 13, none⟩ v3) ga 35 ca ∧ Prg (V3.setCell ⟨gb, 13, none⟩ v3) w.heap.size LA ca ∧ Below w.heap.size w (V3.setCell ⟨gb, 13, none⟩ v3) := fun v3 V3 q1 q2 q3 => by
        obtain ⟨z1, z2, z3⟩ := dx_13 PB6 yb6 pb.out hlow0.out q1 q2 q3
        have z4 := dx_rest (ya'.out.below hBx ya'.out.lt) (PAo.out.new hBx) hB06 q2 (fun b e => ⟨fun hm => hAB b hm (z3 b e), fun e2 => by have := hlowB b (z3 b e); omega, (PB6.own.ge b (z3 b e)).1⟩) hgbA hgab hwgb 13 v3
        exact ⟨⟨(z1.cell 13).trans ((yb'.out.cell 13).symm.trans g13), z1.frozen 13, z1.lt⟩, z2, z4.1, z4.2.1, z4.2.2⟩
      have hrow' : W6.ownsRow w.heap.size 46 3 (.slice LB.lpr.A LB.procs.length LB.lpr.c) LB.procs.length (cellsP LB.procs) := hrow
      replace hfin := Lib.hid hfin
      replace hi := Lib.hid hi
      replace hz0 := Lib.hid hz0
      replace hz1 := Lib.hid hz1
      replace hz2 := Lib.hid hz2
      replace PB6 := Lib.hid PB6
      replace hB06 := Lib.hid hB06
      replace hW6 := Lib.hid hW6
      clear hBx hrow yb6 yb f0
      go_wp2_with (at_builtin; rw [← hW6.out]; refine wpList_append_any _ rfl (.tmp 18) (.tmp 20) 32 rfl w.heap.size 46 i0 _ 3 64 Try.underlying32 hi.out hz0.out hz1.out hz2.out rfl (by omega) (.slice LB.lpr.A LB.procs.length LB.lpr.c) LB.procs.length (cellsP LB.procs) rfl hrow' _ (some ⟨W5.heap.size, 0, none⟩) 1 1 (zPr.cells) rfl hrd (cellsP_one [zPr]) (by simp only [maxLen]; omega) (by omega) hBs ?_; intro v3 V3 hown3 hg3 hb3; obtain ⟨A9, c9, rfl⟩ := own_form hown3; obtain ⟨⟨z1, z2, z3⟩, z4, z5, z6, z7⟩ := hfin.out _ V3 hown3 hg3 hb3; replace z4 := Lib.hid z4; replace z5 := Lib.hid z5; replace z6 := Lib.hid z6; replace z7 := Lib.hid z7; clear hown3 hg3 hb3)
      go_meet
      exact ⟨z4.out, z5.out, z6.out, z7.out⟩
  case rest =>
  clear ya yb PBo PAo hB05 PA PB q0 q1 q9 q20 k2 k3 k4 k5 k12 k13 k14 k15
  obtain ⟨⟨LX, cx, xb, hcx, hokx, szx, hnex⟩, ya, PA, hB⟩ := hcut
  obtain ⟨W7, hW7⟩ : ∃ W, W = wc := ⟨_, rfl⟩
  rw [← hW7] at xb hokx ya PA hB ⊢
  clear hW7
  have sx : cx.size = 22 := by rw [hcx]; exact Pg.cells_len eT LX
  have f1 : LA.same LX = false := by
    rw [Bool.eq_false_iff]
    exact fun h => hnex ((Pg.same_iff.1 h).symm.trans pa.out)
  have f2 : LX.same LA = false := by rw [same_comm]; exact f1
  have f3 : LX.same LX = true := same_true rfl
  have hc1 : ∀ W, Below W7.heap.size W7 W → Calls Try.prog 12 #[.agg ca, .agg cx] W fun x w' => x = .returned (.bool false) ∧ Below W.heap.size W w' := fun W h => by
    have := same_o PA.cs hcx (PA.own.ok.below h) (hokx.below h) sza szx
    rw [f1] at this
    exact this
  have hc2 : ∀ W, Below W7.heap.size W7 W → Calls Try.prog 12 #[.agg cx, .agg ca] W fun x w' => x = .returned (.bool false) ∧ Below W.heap.size W w' := fun W h => by
    have := same_o hcx PA.cs (hokx.below h) (PA.own.ok.below h) szx sza
    rw [f2] at this
    exact this
  have hc3 : ∀ W, Below W7.heap.size W7 W → Calls Try.prog 12 #[.agg cx, .agg cx] W fun x w' => x = .returned (.bool true) ∧ Below W.heap.size W w' := fun W h => by
    have := same_o hcx hcx (hokx.below h) (hokx.below h) szx szx
    rw [f3] at this
    exact this
  replace hc1 := Lib.hid hc1
  replace hc2 := Lib.hid hc2
  replace hc3 := Lib.hid hc3
  replace f1 := Lib.hid f1
  replace f2 := Lib.hid f2
  replace f3 := Lib.hid f3
  replace hcx := Lib.hid hcx
  obtain ⟨_, _, _, _, _, _, k14, _⟩ := cs_at PA
  replace k14 := Lib.hid k14
  have PA' := Lib.hid PA
  clear PA hokx
  go_wp2_with (refine wpList_load_rowW 35 (.tmp 5) rfl (by rfl) ga rfl 35 ca (0, 0) _ ya Try.underlying35 rfl (by rw [sa]; kernel_rfl) ?_; refine Shut.out ?_)
  refine shut_mk ?_
  refine wpList_load_rowW 35 (.tmp 6) rfl (by rfl) gb rfl 35 cx (0, 0) _ xb Try.underlying35 rfl (by rw [sx]; kernel_rfl) ?_
  go_wp2_with fail
  refine (hc1.out W7 (Below.refl _ _)).mono ?_
  rintro e V1 ⟨rfl, hB1⟩
  have ya1 := ya.below hB1 ya.lt
  have xb1 := xb.below hB1 xb.lt
  replace hB1 := Lib.hid hB1
  go_wp2_with (refine wpList_load_rowW 35 (.tmp 6) rfl (by rfl) gb rfl 35 cx (0, 0) _ xb1 Try.underlying35 rfl (by rw [sx]; kernel_rfl) ?_; refine Shut.out ?_)
  refine shut_mk ?_
  refine wpList_load_rowW 35 (.tmp 5) rfl (by rfl) ga rfl 35 ca (0, 0) _ ya1 Try.underlying35 rfl (by rw [sa]; kernel_rfl) ?_
  go_wp2_with fail
  refine (hc2.out V1 hB1.out).mono ?_
  rintro e V2 ⟨rfl, hB2⟩
  have ya2 := ya1.below hB2 ya1.lt
  have xb2 := xb1.below hB2 xb1.lt
  have hB02 := below_and hB1.out hB2
  replace hB02 := Lib.hid hB02
  clear ya1 xb1 hB1 hB2
  go_wp2_with (refine wpList_load_rowW 35 (.tmp 6) rfl (by rfl) gb rfl 35 cx (0, 0) _ xb2 Try.underlying35 rfl (by rw [sx]; kernel_rfl) ?_; refine Shut.out ?_)
  refine shut_mk ?_
  try refine wpList_load_rowW 35 (.tmp 6) rfl (by rfl) gb rfl 35 cx (0, 0) _ xb2 Try.underlying35 rfl (by rw [sx]; kernel_rfl) ?_
  go_wp2_with fail
  refine (hc3.out V2 hB02.out).mono ?_
  rintro e V3 ⟨rfl, hB3⟩
  have ya3 := ya2.below hB3 ya2.lt
  have hB03' := below_and hB02.out hB3
  have hB73 := below_and hB hB03'
  have PA3 := PA'.out.new hB03'
  have hm14 := (ya3.cell 14).trans k14.out
  have lga3 := ya3.lt
  obtain ⟨g1, hg1⟩ : ∃ g, g = V3.heap.size := ⟨_, rfl⟩
  have hBx := ((Below.refl _ V3).alloc (Nat.le_refl _) (.cells #[.int .u8 6, .string ⟨#[]⟩, .slice none 0 0, .int .i64 0, .slice LA.lw.A LA.work.length LA.lw.c, .slice none 0 0] 51)).alloc (by simp) (.cells #[.int .u8 6, .string ⟨#[]⟩, .slice none 0 0, .int .i64 0, .slice none 0 0, .slice LA.lw.A LA.work.length LA.lw.c] 51)
  have x1 : Blk ((V3.alloc (.cells #[.int .u8 6, .string ⟨#[]⟩, .slice none 0 0, .int .i64 0, .slice LA.lw.A LA.work.length LA.lw.c, .slice none 0 0] 51)).alloc (.cells #[.int .u8 6, .string ⟨#[]⟩, .slice none 0 0, .int .i64 0, .slice none 0 0, .slice LA.lw.A LA.work.length LA.lw.c] 51)) g1 51 #[.int .u8 6, .string ⟨#[]⟩, .slice none 0 0, .int .i64 0, .slice LA.lw.A LA.work.length LA.lw.c, .slice none 0 0] := by rw [hg1]; exact (Blk.new V3 51 #[.int .u8 6, .string ⟨#[]⟩, .slice none 0 0, .int .i64 0, .slice LA.lw.A LA.work.length LA.lw.c, .slice none 0 0]).alloc _
  have x2 : Blk ((V3.alloc (.cells #[.int .u8 6, .string ⟨#[]⟩, .slice none 0 0, .int .i64 0, .slice LA.lw.A LA.work.length LA.lw.c, .slice none 0 0] 51)).alloc (.cells #[.int .u8 6, .string ⟨#[]⟩, .slice none 0 0, .int .i64 0, .slice none 0 0, .slice LA.lw.A LA.work.length LA.lw.c] 51)) (g1 + 1) 51 #[.int .u8 6, .string ⟨#[]⟩, .slice none 0 0, .int .i64 0, .slice none 0 0, .slice LA.lw.A LA.work.length LA.lw.c] := by
    have := Blk.new (V3.alloc (.cells #[.int .u8 6, .string ⟨#[]⟩, .slice none 0 0, .int .i64 0, .slice LA.lw.A LA.work.length LA.lw.c, .slice none 0 0] 51)) 51 #[.int .u8 6, .string ⟨#[]⟩, .slice none 0 0, .int .i64 0, .slice none 0 0, .slice LA.lw.A LA.work.length LA.lw.c]
    rw [World.size_alloc] at this
    rw [hg1]; exact this
  have hwk := PA3.own.work.ok.all (keeps_below hBx)
  have hS0 : CD w ga g1 (g1 + 1) LA ca ((V3.alloc (.cells #[.int .u8 6, .string ⟨#[]⟩, .slice none 0 0, .int .i64 0, .slice LA.lw.A LA.work.length LA.lw.c, .slice none 0 0] 51)).alloc (.cells #[.int .u8 6, .string ⟨#[]⟩, .slice none 0 0, .int .i64 0, .slice none 0 0, .slice LA.lw.A LA.work.length LA.lw.c] 51)) :=
    ⟨ya3.below hBx ya3.lt, lst_one x1 rfl ⟨row_none, trivial, hwk.1, hwk.2, row_none, trivial⟩, lst_one x2 rfl ⟨row_none, trivial, row_none, trivial, hwk.1, hwk.2⟩, below_and hB73 hBx⟩
  have szw : szS LA.work ≤ 10000 := by have := made_sz pa.out; simp only [Pg.sz] at this; omega
  have s1 : szS [ifT LA.lw LA.work] ≤ 20000 := by simp only [ifT, szS, St.sz, szs]; omega
  have s2 : szS [ifE LA.lw LA.work] ≤ 20000 := by simp only [ifE, szS, St.sz, szs]; omega
  have hd1 : ∀ W, CD w ga g1 (g1 + 1) LA ca W → Calls Try.prog 25 #[.slice (some ⟨g1, 0, none⟩) 1 1, .slice (some ⟨g1 + 1, 0, none⟩) 1 1] W fun x w' => x = .returned (.bool (decide (LA.work.length = 0))) ∧ Below W.heap.size W w' := fun W h => by
    have := sameStmts_yes ⟨some ⟨g1, 0, none⟩, 1⟩ ⟨some ⟨g1 + 1, 0, none⟩, 1⟩ _ _ W h.o1 h.o2 s1 s2
    rw [if_same] at this
    exact this
  have hd2 : ∀ W, CD w ga g1 (g1 + 1) LA ca W → Calls Try.prog 25 #[.slice (some ⟨g1, 0, none⟩) 1 1, .slice none 0 0] W fun x w' => x = .returned (.bool false) ∧ Below W.heap.size W w' := fun W h =>
    sameStmts_yes ⟨some ⟨g1, 0, none⟩, 1⟩ ⟨none, 0⟩ [ifT LA.lw LA.work] [] W h.o1 ⟨row_none, trivial⟩ s1 (by simp [szS])
  replace hd1 := Lib.hid hd1
  replace hd2 := Lib.hid hd2
  have hg1' := Lib.hid hg1
  replace hS0 := Lib.hid hS0
  clear hBx x1 x2 hwk hg1 PA3 hB03' hB73 hB3 ya2 xb2 hB02 ya xb hB szw s1 s2
  go_upto_region 28 with (fail)
  rw [← hg1'.out]
  have hS := hS0.out.new ((Below.refl _ _).drew)
  clear hS0
  generalize (V3.alloc (.cells #[.int .u8 6, .string ⟨#[]⟩, .slice none 0 0, .int .i64 0, .slice LA.lw.A LA.work.length LA.lw.c, .slice none 0 0] 51)).alloc (.cells #[.int .u8 6, .string ⟨#[]⟩, .slice none 0 0, .int .i64 0, .slice none 0 0, .slice LA.lw.A LA.work.length LA.lw.c] 51) = V4 at *
  obtain ⟨bq, hbq⟩ : ∃ b, b = decide (LA.work.length = 0) := ⟨_, rfl⟩
  rw [← hbq] at hd1
  have hni : ((LA.work.length : Int) == 0) = bq := by rw [hbq, Bool.eq_iff_iff, beq_iff_eq, decide_eq_true_iff]; omega
  replace hbq := Lib.hid hbq
  clear hm14 ya3 lga3
  refine wp_region_held (S := CD w ga g1 (g1 + 1) LA ca) (by kernel_rfl) ?_
  change wpAnyH _ _ _ _ _ _ _ _ (World.drew _)
  cases bq
  · skip
    refine takeH 0 (v := ?_) rfl (by kernel_rfl) (by kernel_rfl) (by kernel_rfl) (fun _ _ _ h => h) (by rfl) hS ?_ ?_
    rotate_left
    · (intro wz hSw; clear hSw; go_simp; try with_reducible rfl)
    try simp only [Act.put, List.setIfInBounds_toArray, List.set_cons_zero, List.set_cons_succ]
    refine takeH 1 (v := ?_) rfl (by kernel_rfl) (by kernel_rfl) (by kernel_rfl) (fun _ _ _ h => h) (by rfl) hS ?_ ?_
    rotate_left
    · (intro wz hSw; clear hSw; go_simp; try with_reducible rfl)
    try simp only [Act.put, List.setIfInBounds_toArray, List.set_cons_zero, List.set_cons_succ]
    refine takeH 3 (v := ?_) rfl (by kernel_rfl) (by kernel_rfl) (by kernel_rfl) (fun _ _ _ h => h) (by rfl) hS ?_ ?_
    rotate_left
    · (intro wz hSw; clear hSw; go_simp; try with_reducible rfl)
    try simp only [Act.put, List.setIfInBounds_toArray, List.set_cons_zero, List.set_cons_succ]
    refine takeH 4 (v := .slice LA.lw.A LA.work.length LA.lw.c) rfl (by kernel_rfl) (by kernel_rfl) (by kernel_rfl) (fun _ _ _ h => h) (by rfl) hS ?_ ?_
    · (intro wz hSw; have z := hSw.ba.cell 14; rw [k14.out] at z; clear hSw; go_simp)
    try simp only [Act.put, List.setIfInBounds_toArray, List.set_cons_zero, List.set_cons_succ]
    refine takeH 5 (v := ?_) rfl (by kernel_rfl) (by kernel_rfl) (by kernel_rfl) (fun _ _ _ h => h) (by rfl) hS ?_ ?_
    rotate_left
    · (intro wz hSw; clear hSw; go_simp; try with_reducible rfl)
    try simp only [Act.put, List.setIfInBounds_toArray, List.set_cons_zero, List.set_cons_succ]
    refine takeH 6 (v := .bool false) rfl (by kernel_rfl) (by kernel_rfl) (by kernel_rfl) (fun _ _ _ h => h) (by rfl) hS ?_ ?_
    · (intro wz hSw; clear hSw; go_simp)
    try simp only [Act.put, List.setIfInBounds_toArray, List.set_cons_zero, List.set_cons_succ]
    refine callH 2 rfl (by kernel_rfl) (fun K hK => ?_)
    go_simp
    go_wp2_with (go_at_call 25; refine (hd1.out _ hS).mono ?_; rintro e U1 ⟨rfl, hB⟩)
    refine hK.out _ _ (hS.new hB) (fun hSn => ?_)
    clear hK K hS
    have hS := hSn
    clear hSn
    refine takeH 7 (v := ?_) rfl (by kernel_rfl) (by kernel_rfl) (by kernel_rfl) (fun _ _ _ h => h) (by rfl) hS ?_ ?_
    rotate_left
    · (intro wz hSw; clear hSw; go_simp; try with_reducible rfl)
    try simp only [Act.put, List.setIfInBounds_toArray, List.set_cons_zero, List.set_cons_succ]
    refine takeH 8 (v := ?_) rfl (by kernel_rfl) (by kernel_rfl) (by kernel_rfl) (fun _ _ _ h => h) (by rfl) hS ?_ ?_
    rotate_left
    · (intro wz hSw; clear hSw; go_simp; try with_reducible rfl)
    try simp only [Act.put, List.setIfInBounds_toArray, List.set_cons_zero, List.set_cons_succ]
    refine takeH 9 (v := ?_) rfl (by kernel_rfl) (by kernel_rfl) (by kernel_rfl) (fun _ _ _ h => h) (by rfl) hS ?_ ?_
    rotate_left
    · (intro wz hSw; clear hSw; go_simp; try with_reducible rfl)
    try simp only [Act.put, List.setIfInBounds_toArray, List.set_cons_zero, List.set_cons_succ]
    refine callH 10 rfl (by kernel_rfl) (fun K hK => ?_)
    go_simp
    go_wp2_with (go_at_call 25; refine (hd2.out _ hS).mono ?_; rintro e U2 ⟨rfl, hB⟩)
    refine hK.out _ _ (hS.new hB) (fun hSn => ?_)
    clear hK K hS
    have hS := hSn
    clear hSn
    refine takeH 11 (v := ?_) rfl (by kernel_rfl) (by kernel_rfl) (by kernel_rfl) (fun _ _ _ h => h) (by rfl) hS ?_ ?_
    rotate_left
    · (intro wz hSw; clear hSw; go_simp; try with_reducible rfl)
    try simp only [Act.put, List.setIfInBounds_toArray, List.set_cons_zero, List.set_cons_succ]
    refine takeH 12 (v := ?_) rfl (by kernel_rfl) (by kernel_rfl) (by kernel_rfl) (fun _ _ _ h => h) (by rfl) hS ?_ ?_
    rotate_left
    · (intro wz hSw; clear hSw; go_simp; try with_reducible rfl)
    try simp only [Act.put, List.setIfInBounds_toArray, List.set_cons_zero, List.set_cons_succ]
    refine takeH 13 (v := ?_) rfl (by kernel_rfl) (by kernel_rfl) (by kernel_rfl) (fun _ _ _ h => h) (by rfl) hS ?_ ?_
    rotate_left
    · (intro wz hSw; clear hSw; go_simp; try with_reducible rfl)
    try simp only [Act.put, List.setIfInBounds_toArray, List.set_cons_zero, List.set_cons_succ]
    refine wpAnyH_done (by kernel_rfl) ?_ _
    replace hS := Lib.hid hS
    go_wp2_with fail
    go_ret
    exact ⟨rfl, hS.out.be⟩
  · skip
    refine takeH 0 (v := ?_) rfl (by kernel_rfl) (by kernel_rfl) (by kernel_rfl) (fun _ _ _ h => h) (by rfl) hS ?_ ?_
    rotate_left
    · (intro wz hSw; clear hSw; go_simp; try with_reducible rfl)
    try simp only [Act.put, List.setIfInBounds_toArray, List.set_cons_zero, List.set_cons_succ]
    refine takeH 1 (v := ?_) rfl (by kernel_rfl) (by kernel_rfl) (by kernel_rfl) (fun _ _ _ h => h) (by rfl) hS ?_ ?_
    rotate_left
    · (intro wz hSw; clear hSw; go_simp; try with_reducible rfl)
    try simp only [Act.put, List.setIfInBounds_toArray, List.set_cons_zero, List.set_cons_succ]
    refine takeH 3 (v := ?_) rfl (by kernel_rfl) (by kernel_rfl) (by kernel_rfl) (fun _ _ _ h => h) (by rfl) hS ?_ ?_
    rotate_left
    · (intro wz hSw; clear hSw; go_simp; try with_reducible rfl)
    try simp only [Act.put, List.setIfInBounds_toArray, List.set_cons_zero, List.set_cons_succ]
    refine takeH 4 (v := .slice LA.lw.A LA.work.length LA.lw.c) rfl (by kernel_rfl) (by kernel_rfl) (by kernel_rfl) (fun _ _ _ h => h) (by rfl) hS ?_ ?_
    · (intro wz hSw; have z := hSw.ba.cell 14; rw [k14.out] at z; clear hSw; go_simp)
    try simp only [Act.put, List.setIfInBounds_toArray, List.set_cons_zero, List.set_cons_succ]
    refine takeH 5 (v := ?_) rfl (by kernel_rfl) (by kernel_rfl) (by kernel_rfl) (fun _ _ _ h => h) (by rfl) hS ?_ ?_
    rotate_left
    · (intro wz hSw; clear hSw; go_simp; try with_reducible rfl)
    try simp only [Act.put, List.setIfInBounds_toArray, List.set_cons_zero, List.set_cons_succ]
    refine takeH 6 (v := .bool true) rfl (by kernel_rfl) (by kernel_rfl) (by kernel_rfl) (fun _ _ _ h => h) (by rfl) hS ?_ ?_
    · (intro wz hSw; clear hSw; go_simp)
    try simp only [Act.put, List.setIfInBounds_toArray, List.set_cons_zero, List.set_cons_succ]
    refine callH 2 rfl (by kernel_rfl) (fun K hK => ?_)
    go_simp
    go_wp2_with (go_at_call 25; refine (hd1.out _ hS).mono ?_; rintro e U3 ⟨rfl, hB⟩)
    refine hK.out _ _ (hS.new hB) (fun hSn => ?_)
    clear hK K hS
    have hS := hSn
    clear hSn
    refine takeH 7 (v := ?_) rfl (by kernel_rfl) (by kernel_rfl) (by kernel_rfl) (fun _ _ _ h => h) (by rfl) hS ?_ ?_
    rotate_left
    · (intro wz hSw; clear hSw; go_simp; try with_reducible rfl)
    try simp only [Act.put, List.setIfInBounds_toArray, List.set_cons_zero, List.set_cons_succ]
    refine takeH 8 (v := ?_) rfl (by kernel_rfl) (by kernel_rfl) (by kernel_rfl) (fun _ _ _ h => h) (by rfl) hS ?_ ?_
    rotate_left
    · (intro wz hSw; clear hSw; go_simp; try with_reducible rfl)
    try simp only [Act.put, List.setIfInBounds_toArray, List.set_cons_zero, List.set_cons_succ]
    refine takeH 9 (v := ?_) rfl (by kernel_rfl) (by kernel_rfl) (by kernel_rfl) (fun _ _ _ h => h) (by rfl) hS ?_ ?_
    rotate_left
    · (intro wz hSw; clear hSw; go_simp; try with_reducible rfl)
    try simp only [Act.put, List.setIfInBounds_toArray, List.set_cons_zero, List.set_cons_succ]
    refine callH 10 rfl (by kernel_rfl) (fun K hK => ?_)
    go_simp
    go_wp2_with (go_at_call 25; refine (hd2.out _ hS).mono ?_; rintro e U4 ⟨rfl, hB⟩)
    refine hK.out _ _ (hS.new hB) (fun hSn => ?_)
    clear hK K hS
    have hS := hSn
    clear hSn
    refine takeH 11 (v := ?_) rfl (by kernel_rfl) (by kernel_rfl) (by kernel_rfl) (fun _ _ _ h => h) (by rfl) hS ?_ ?_
    rotate_left
    · (intro wz hSw; clear hSw; go_simp; try with_reducible rfl)
    try simp only [Act.put, List.setIfInBounds_toArray, List.set_cons_zero, List.set_cons_succ]
    refine takeH 12 (v := ?_) rfl (by kernel_rfl) (by kernel_rfl) (by kernel_rfl) (fun _ _ _ h => h) (by rfl) hS ?_ ?_
    rotate_left
    · (intro wz hSw; clear hSw; go_simp; try with_reducible rfl)
    try simp only [Act.put, List.setIfInBounds_toArray, List.set_cons_zero, List.set_cons_succ]
    refine takeH 13 (v := ?_) rfl (by kernel_rfl) (by kernel_rfl) (by kernel_rfl) (fun _ _ _ h => h) (by rfl) hS ?_ ?_
    rotate_left
    · (intro wz hSw; clear hSw; go_simp; try with_reducible rfl)
    try simp only [Act.put, List.setIfInBounds_toArray, List.set_cons_zero, List.set_cons_succ]
    refine wpAnyH_done (by kernel_rfl) ?_ _
    replace hS := Lib.hid hS
    go_wp2_with fail
    go_ret
    exact ⟨rfl, hS.out.be⟩
end Go.Proofs.Ytnldbplphgfpeaa
