/- Lemmas for salvor/salvorlaw29.TreeSmall (part 10); no condition. -/
import Derived.Test.YtnldbplphgfpeaaGreatP09
namespace Go.Proofs.YtnldbplphgfpeaaGreat
open Go Go.RowKit Go.Shelf
set_option linter.unusedVariables false
set_option linter.unusedSimpArgs false
structure Keep (X : World → Prop) (bs : List Nat) : Prop where
 same : ∀ {W W' : World}, X W → (∀ b ∈ bs, W'.heap[b]? = W.heap[b]?) → X W'
 lt : ∀ {W : World}, X W → ∀ b ∈ bs, b < W.heap.size
section
variable {X Y : World → Prop} {bs cs fp : List Nat} {W W' : World}
theorem Keep.only (k : Keep X bs) (h : X W) (ho : Only fp W W') (hd : ∀ b ∈ bs, b ∉ fp) : X W' := k.same h fun b hb => ho.block b (k.lt h b hb) (hd b hb)
theorem Keep.new (k : Keep X bs) (h : X W) (hb : Below W.heap.size W W') : X W' := k.same h fun b hm => hb.block b (k.lt h b hm)
theorem Keep.and (k : Keep X bs) (k' : Keep Y cs) : Keep (fun W => X W ∧ Y W) (bs ++ cs) :=
 ⟨fun h hb => ⟨k.same h.1 fun b hm => hb b (List.mem_append_left _ hm), k'.same h.2 fun b hm => hb b (List.mem_append_right _ hm)⟩, fun h b hb => by
  rcases List.mem_append.1 hb with hb | hb
  ·exact k.lt h.1 b hb
  ·exact k'.lt h.2 b hb⟩
theorem keep_row (base : Nat) (e : TypeId) (sz n : Nat) (l : Loc) (xs : List Value) : Keep (fun W => W.ownsRow base e sz (.slice l.A n l.c) n xs) l.fp :=
 ⟨fun h hb => own_same h fun k hk => hb k ((own_fp l n k).2 hk), fun h b hb => (own_ge h b hb).2⟩
theorem keep_ex (E : Enc) (base : Nat) (e : Ex Loc) : Keep (fun W => e.own E W base) e.fp := ⟨fun h hb => h.same hb, fun h b hb => (h.ge b hb).2⟩
theorem keep_lst (E : Enc) (base : Nat) (l : Loc) (s : List (St Loc)) : Keep (fun W => Lst.own E W base l s) (Lst.fp l s) := ⟨fun h hb => h.same hb, fun h b hb => (h.ge b hb).2⟩
theorem keep_blk (g t : Nat) (cs : Array Value) : Keep (fun W => Blk W g t cs) [g] := ⟨fun h hb => (hb g (by simp)).trans h, fun h b hb => by simp at hb; rw [hb]; exact h.lt⟩
end
def Ldc.own (w : World) (base : Nat) (l : Loc) (s : List Dc) : Prop := w.ownsRow base 60 3 (.slice l.A s.length l.c) s.length (cellsD s)
def ownsI (w : World) (base : Nat) (s : List (In Loc)) : Prop := ∀ x ∈ s, x.val.own eT w base
def Pr.own (w : World) (base : Nat) (x : Pr Loc) : Prop := Ldc.own w base x.lp x.ps ∧ Lst.own eT w base x.lb x.body
def ownsP (w : World) (base : Nat) (s : List (Pr Loc)) : Prop := ∀ x ∈ s, x.own w base
def Lin.own (w : World) (base : Nat) (l : Loc) (s : List (In Loc)) : Prop := w.ownsRow base 62 7 (.slice l.A s.length l.c) s.length (cellsI eT s) ∧ ownsI w base s
def Lpr.own (w : World) (base : Nat) (l : Loc) (s : List (Pr Loc)) : Prop := w.ownsRow base 64 3 (.slice l.A s.length l.c) s.length (cellsP s) ∧ ownsP w base s
def fpsI (s : List (In Loc)) : List Nat := s.flatMap fun x => x.val.fp
def Pr.fp (x : Pr Loc) : List Nat := x.lp.fp ++ Lst.fp x.lb x.body
def fpsP (s : List (Pr Loc)) : List Nat := s.flatMap Pr.fp
def Lin.fp (l : Loc) (s : List (In Loc)) : List Nat := l.fp ++ fpsI s
def Lpr.fp (l : Loc) (s : List (Pr Loc)) : List Nat := l.fp ++ fpsP s
theorem fpsI_append (a b : List (In Loc)) : fpsI (a ++ b) = fpsI a ++ fpsI b := by simp [fpsI]
theorem fpsP_append (a b : List (Pr Loc)) : fpsP (a ++ b) = fpsP a ++ fpsP b := by simp [fpsP]
theorem cellsI_append (E : Enc) (a b : List (In Loc)) : cellsI E (a ++ b) = cellsI E a ++ cellsI E b := by simp [cellsI]
theorem cellsP_append (a b : List (Pr Loc)) : cellsP (a ++ b) = cellsP a ++ cellsP b := by simp [cellsP]
theorem cellsD_append (a b : List Dc) : cellsD (a ++ b) = cellsD a ++ cellsD b := by simp [cellsD]
structure Pg.own (w : World) (base : Nat) (p : Pg Loc) : Prop where
 ins : Ldc.own w base p.li p.ins
 gh : Ldc.own w base p.lg p.gh
 va : Ldc.own w base p.lv p.va
 ar : Ldc.own w base p.la p.ar
 req : p.req.own eT w base
 inits : Lin.own w base p.ln p.inits
 procs : Lpr.own w base p.lpr p.procs
 work : Lst.own eT w base p.lw p.work
 recov : Lst.own eT w base p.lr p.recov
 inv : p.inv.own eT w base
def Pg.fp (p : Pg Loc) : List Nat := p.li.fp ++ (p.lg.fp ++ (p.lv.fp ++ (p.la.fp ++ (p.req.fp ++ (Lin.fp p.ln p.inits ++ (Lpr.fp p.lpr p.procs ++ (Lst.fp p.lw p.work ++ (Lst.fp p.lr p.recov ++ p.inv.fp))))))))
section
variable {W W' : World} {base base' : Nat}
theorem keep_ldc (base : Nat) (l : Loc) (s : List Dc) : Keep (fun W => Ldc.own W base l s) l.fp := keep_row _ _ _ _ _ _
theorem keep_ownsI (base : Nat) (s : List (In Loc)) : Keep (fun W => ownsI W base s) (fpsI s) :=
 ⟨fun h hb x hx => (h x hx).same fun b hm => hb b (List.mem_flatMap.2 ⟨x, hx, hm⟩), fun h b hb => by
  obtain ⟨x, hx, hm⟩ := List.mem_flatMap.1 hb
  exact ((h x hx).ge b hm).2⟩
theorem keep_pr (base : Nat) (x : Pr Loc) : Keep (fun W => x.own W base) x.fp := (keep_ldc base x.lp x.ps).and (keep_lst eT base x.lb x.body)
theorem keep_ownsP (base : Nat) (s : List (Pr Loc)) : Keep (fun W => ownsP W base s) (fpsP s) :=
 ⟨fun h hb x hx => (keep_pr base x).same (h x hx) fun b hm => hb b (List.mem_flatMap.2 ⟨x, hx, hm⟩), fun h b hb => by
  obtain ⟨x, hx, hm⟩ := List.mem_flatMap.1 hb
  exact (keep_pr base x).lt (h x hx) b hm⟩
theorem keep_lin (base : Nat) (l : Loc) (s : List (In Loc)) : Keep (fun W => Lin.own W base l s) (Lin.fp l s) := (keep_row _ _ _ _ _ _).and (keep_ownsI base s)
theorem keep_lpr (base : Nat) (l : Loc) (s : List (Pr Loc)) : Keep (fun W => Lpr.own W base l s) (Lpr.fp l s) := (keep_row _ _ _ _ _ _).and (keep_ownsP base s)
theorem keep_pg (base : Nat) (p : Pg Loc) : Keep (fun W => p.own W base) p.fp := by
 have k := (keep_ldc base p.li p.ins).and ((keep_ldc base p.lg p.gh).and ((keep_ldc base p.lv p.va).and ((keep_ldc base p.la p.ar).and ((keep_ex eT base p.req).and ((keep_lin base p.ln p.inits).and ((keep_lpr base p.lpr p.procs).and ((keep_lst eT base p.lw p.work).and ((keep_lst eT base p.lr p.recov).and (keep_ex eT base p.inv)))))))))
 refine ⟨fun {W W'} h hb => ?_, fun {W} h b hb => k.lt ⟨h.1, h.2, h.3, h.4, h.5, h.6, h.7, h.8, h.9, h.10⟩ b hb⟩
 obtain ⟨h1, h2, h3, h4, h5, h6, h7, h8, h9, h10⟩ := k.same (W := W) (W' := W') ⟨h.1, h.2, h.3, h.4, h.5, h.6, h.7, h.8, h.9, h.10⟩ hb
 exact ⟨h1, h2, h3, h4, h5, h6, h7, h8, h9, h10⟩
theorem Ldc.own.base_le {l : Loc} {s : List Dc} (h : Ldc.own W base l s) (hb : base' ≤ base) : Ldc.own W base' l s := own_base h hb
theorem Pr.own.base_le {x : Pr Loc} (h : x.own W base) (hb : base' ≤ base) : x.own W base' := ⟨h.1.base_le hb, h.2.base_le hb⟩
theorem Lin.own.base_le {l : Loc} {s : List (In Loc)} (h : Lin.own W base l s) (hb : base' ≤ base) : Lin.own W base' l s := ⟨own_base h.1 hb, fun x hx => (h.2 x hx).base_le hb⟩
theorem Lpr.own.base_le {l : Loc} {s : List (Pr Loc)} (h : Lpr.own W base l s) (hb : base' ≤ base) : Lpr.own W base' l s := ⟨own_base h.1 hb, fun x hx => (h.2 x hx).base_le hb⟩
theorem Pg.own.base_le {p : Pg Loc} (h : p.own W base) (hb : base' ≤ base) : p.own W base' :=
 ⟨h.ins.base_le hb, h.gh.base_le hb, h.va.base_le hb, h.ar.base_le hb, h.req.base_le hb, h.inits.base_le hb, h.procs.base_le hb, h.work.base_le hb, h.recov.base_le hb, h.inv.base_le hb⟩
theorem Ldc.own.ok {l : Loc} {s : List Dc} (h : Ldc.own W base l s) : RowIn W 3 l s.length (cellsD s) := own_row h
theorem Pr.own.ok {x : Pr Loc} (h : x.own W base) : x.ok eT W := ⟨h.1.ok, h.2.ok⟩
theorem Lin.own.ok {l : Loc} {s : List (In Loc)} (h : Lin.own W base l s) : Lin.ok eT W l s := ⟨own_row h.1, fun x hx => (h.2 x hx).ok⟩
theorem Lpr.own.ok {l : Loc} {s : List (Pr Loc)} (h : Lpr.own W base l s) : Lpr.ok eT W l s := ⟨own_row h.1, fun x hx => (h.2 x hx).ok⟩
theorem Pg.own.ok {p : Pg Loc} (h : p.own W base) : p.ok eT W := ⟨h.ins.ok, h.gh.ok, h.va.ok, h.ar.ok, h.req.ok, h.inits.ok, h.procs.ok, h.work.ok, h.recov.ok, h.inv.ok⟩
theorem Ldc.own.ge {l : Loc} {s : List Dc} (h : Ldc.own W base l s) : ∀ b ∈ l.fp, base ≤ b ∧ b < W.heap.size := own_ge h
theorem ownsI_ge {s : List (In Loc)} (h : ownsI W base s) : ∀ b ∈ fpsI s, base ≤ b ∧ b < W.heap.size := fun b hb => by
 obtain ⟨x, hx, hm⟩ := List.mem_flatMap.1 hb
 exact (h x hx).ge b hm
theorem Pr.own.ge {x : Pr Loc} (h : x.own W base) : ∀ b ∈ x.fp, base ≤ b ∧ b < W.heap.size := fun b hb => by
 rcases List.mem_append.1 hb with hb | hb
 ·exact h.1.ge b hb
 ·exact h.2.ge b hb
theorem ownsP_ge {s : List (Pr Loc)} (h : ownsP W base s) : ∀ b ∈ fpsP s, base ≤ b ∧ b < W.heap.size := fun b hb => by
 obtain ⟨x, hx, hm⟩ := List.mem_flatMap.1 hb
 exact (h x hx).ge b hm
theorem Lin.own.ge {l : Loc} {s : List (In Loc)} (h : Lin.own W base l s) : ∀ b ∈ Lin.fp l s, base ≤ b ∧ b < W.heap.size := fun b hb => by
 rcases List.mem_append.1 hb with hb | hb
 ·exact own_ge h.1 b hb
 ·exact ownsI_ge h.2 b hb
theorem Lpr.own.ge {l : Loc} {s : List (Pr Loc)} (h : Lpr.own W base l s) : ∀ b ∈ Lpr.fp l s, base ≤ b ∧ b < W.heap.size := fun b hb => by
 rcases List.mem_append.1 hb with hb | hb
 ·exact own_ge h.1 b hb
 ·exact ownsP_ge h.2 b hb
theorem Pg.own.ge {p : Pg Loc} (h : p.own W base) : ∀ b ∈ p.fp, base ≤ b ∧ b < W.heap.size := fun b hb => by
 simp only [Pg.fp, List.mem_append] at hb
 rcases hb with hb | hb | hb | hb | hb | hb | hb | hb | hb | hb
 ·exact h.ins.ge b hb
 ·exact h.gh.ge b hb
 ·exact h.va.ge b hb
 ·exact h.ar.ge b hb
 ·exact h.req.ge b hb
 ·exact h.inits.ge b (by simpa [Lin.fp] using hb)
 ·exact h.procs.ge b (by simpa [Lpr.fp] using hb)
 ·exact h.work.ge b (by simpa [Lst.fp] using hb)
 ·exact h.recov.ge b (by simpa [Lst.fp] using hb)
 ·exact h.inv.ge b hb
end
structure Bun (g : Nat) (X : World → Prop) (bs : List Nat) (W : World) : Prop where
 k : Keep X bs
 h : X W
 nd : bs.Nodup
 gt : ∀ b ∈ bs, g < b
theorem Loc.fp_nodup (l : Loc) : l.fp.Nodup := by
 unfold Loc.fp
 cases l.A <;> simp
section
variable {X Y : World → Prop} {bs cs fp : List Nat} {W W' : World} {g : Nat}
theorem Bun.new (h : Bun g X bs W) (hb : Below W.heap.size W W') : Bun g X bs W' := ⟨h.k, h.k.new h.h hb, h.nd, h.gt⟩
theorem Bun.only (h : Bun g X bs W) (ho : Only fp W W') (hd : ∀ b ∈ bs, b ∉ fp) : Bun g X bs W' := ⟨h.k, h.k.only h.h ho hd, h.nd, h.gt⟩
theorem Bun.cell (h : Bun g X bs W) (ho : Only [g] W W') : Bun g X bs W' := h.only ho fun b hb hm => by
 rw [List.mem_singleton] at hm
 have := h.gt b hb
 omega
theorem Bun.lt (h : Bun g X bs W) : ∀ b ∈ bs, b < W.heap.size := h.k.lt h.h
theorem Bun.add (h : Bun g X bs W) (hW : Below W.heap.size W W') (kY : Keep Y cs) (hY : Y W') (hn : cs.Nodup) (hge : ∀ b ∈ cs, W.heap.size ≤ b) (hg : g < W.heap.size) :
  ∃ Z ds, Bun g Z ds W' ∧ ds = bs ++ cs ∧ ∀ V, Z V → X V ∧ Y V :=
 ⟨_, _, ⟨h.k.and kY, ⟨h.k.new h.h hW, hY⟩, nodup_at h.nd hn h.lt hge, fun b hb => by
  rcases List.mem_append.1 hb with hb | hb
  ·exact h.gt b hb
  ·exact Nat.lt_of_lt_of_le hg (hge b hb)⟩, rfl, fun _ h => h⟩
end
theorem nodup_perm {a b : List Nat} (h : a.Nodup) (hc : ∀ x, b.count x = a.count x) : b.Nodup := (List.perm_iff_count.2 hc).nodup_iff.2 h
mutual
theorem Ex.ren_id {α : Type} : ∀ e : Ex α, e.ren id = e.plain
 | .mk h l s => by simp only [Ex.ren, Ex.plain, rens_id s, Hd.ren, id]; split <;> rfl
theorem rens_id {α : Type} : ∀ l : List (Ex α), rens id l = plains l
 | [] => rfl
 | x :: r => by simp only [rens, plains, x.ren_id, rens_id r]
end
mutual
theorem St.ren_id {α : Type} : ∀ e : St α, e.ren id = e.plain
 | .mk h a b c ex th el => by simp only [St.ren, St.plain, rens_id ex, renS_id th, renS_id el, SHd.ren, id]; split <;> rfl
theorem renS_id {α : Type} : ∀ l : List (St α), renS id l = plainS l
 | [] => rfl
 | x :: r => by simp only [renS, plainS, x.ren_id, renS_id r]
end
end Go.Proofs.YtnldbplphgfpeaaGreat
