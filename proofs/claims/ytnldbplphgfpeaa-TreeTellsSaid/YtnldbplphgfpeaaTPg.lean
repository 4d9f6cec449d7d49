/- Programs: as plain data, and in memory. -/
import Derived.Test.YtnldbplphgfpeaaTRm
namespace Go.Proofs.Ytnldbplphgfpeaa
open Go Go.RowKit Go.Shelf
set_option linter.unusedVariables false
set_option linter.unusedSimpArgs false
structure Dc where
  nm : ByteArray
  wd : Int
  sz : Int
structure In (α : Type) where
  bk : Int
  val : Ex α
structure Pr (α : Type) where
  nm : ByteArray
  lp : α
  ps : List Dc
  lb : α
  body : List (St α)
structure Pg (α : Type) where
  bl : Int
  wd : Int
  li : α
  ins : List Dc
  lg : α
  gh : List Dc
  lv : α
  va : List Dc
  la : α
  ar : List Dc
  req : Ex α
  ln : α
  inits : List (In α)
  lpr : α
  procs : List (Pr α)
  lw : α
  work : List (St α)
  lr : α
  recov : List (St α)
  inv : Ex α
section
variable {α β : Type}
def In.plain (x : In α) : In Unit := ⟨x.bk, x.val.plain⟩
def Pr.plain (x : Pr α) : Pr Unit := ⟨x.nm, (), x.ps, (), plainS x.body⟩
def Pg.plain (p : Pg α) : Pg Unit := ⟨p.bl, p.wd, (), p.ins, (), p.gh, (), p.va, (), p.ar, p.req.plain, (), p.inits.map In.plain, (), p.procs.map Pr.plain, (), plainS p.work, (), plainS p.recov, p.inv.plain⟩
def szI (l : List (In α)) : Nat := (l.map fun x => 1 + x.val.sz).sum
def szPr (l : List (Pr α)) : Nat := (l.map fun x => 1 + x.ps.length + szS x.body).sum
/-- How many nodes a program has. -/
def Pg.sz (p : Pg α) : Nat := p.ins.length + p.gh.length + p.va.length + p.ar.length + 1 + p.req.sz + szI p.inits + szPr p.procs + szS p.work + szS p.recov + p.inv.sz
theorem szI_mem {l : List (In α)} {x : In α} (h : x ∈ l) : 1 + x.val.sz ≤ szI l := by
  induction l with
  | nil => cases h
  | cons y l ih =>
    simp only [szI, List.map_cons, List.sum_cons] at ih ⊢
    rcases List.mem_cons.1 h with e | h
    · rw [e]; omega
    · have := ih h; omega
theorem szPr_mem {l : List (Pr α)} {x : Pr α} (h : x ∈ l) : 1 + x.ps.length + szS x.body ≤ szPr l := by
  induction l with
  | nil => cases h
  | cons y l ih =>
    simp only [szPr, List.map_cons, List.sum_cons] at ih ⊢
    rcases List.mem_cons.1 h with e | h
    · rw [e]; omega
    · have := ih h; omega
theorem szI_len (l : List (In α)) : l.length ≤ szI l := by
  induction l with
  | nil => exact Nat.le_refl _
  | cons y l ih => simp only [szI, List.map_cons, List.sum_cons, List.length_cons] at ih ⊢; omega
theorem szPr_len (l : List (Pr α)) : l.length ≤ szPr l := by
  induction l with
  | nil => exact Nat.le_refl _
  | cons y l ih => simp only [szPr, List.map_cons, List.sum_cons, List.length_cons] at ih ⊢; omega
theorem szI_append (a b : List (In α)) : szI (a ++ b) = szI a + szI b := by simp [szI]
theorem szPr_append (a b : List (Pr α)) : szPr (a ++ b) = szPr a + szPr b := by simp [szPr]
theorem szI_plain (l : List (In α)) : szI (l.map In.plain) = szI l := by
  induction l with
  | nil => rfl
  | cons y l ih => simp only [szI, List.map_cons, List.sum_cons] at ih ⊢; rw [ih]; simp only [In.plain, Ex.sz_plain]
theorem szPr_plain (l : List (Pr α)) : szPr (l.map Pr.plain) = szPr l := by
  induction l with
  | nil => rfl
  | cons y l ih => simp only [szPr, List.map_cons, List.sum_cons] at ih ⊢; rw [ih]; simp only [Pr.plain, szS_plain]
theorem Pg.sz_plain (p : Pg α) : p.plain.sz = p.sz := by
  simp only [Pg.sz, Pg.plain, szI_plain, szPr_plain, szS_plain, Ex.sz_plain]
-- when two are the same
def Dc.eq (a b : Dc) : Bool := a.nm.toList == b.nm.toList && (a.wd == b.wd && a.sz == b.sz)
theorem Dc.eq_iff {a b : Dc} : a.eq b = true ↔ a = b := by
  cases a; cases b
  simp [Dc.eq, and_assoc, bl_iff]
def sameD : List Dc → List Dc → Bool
  | [], [] => true
  | x :: r, y :: r' => x.eq y && sameD r r'
  | [], _ :: _ => false
  | _ :: _, [] => false
theorem sameD_iff : ∀ {a b : List Dc}, sameD a b = true ↔ a = b
  | [], [] => by simp [sameD]
  | x :: r, y :: r' => by simp only [sameD, Bool.and_eq_true, Dc.eq_iff, sameD_iff (a := r), List.cons.injEq]
  | [], _ :: _ => by simp [sameD]
  | _ :: _, [] => by simp [sameD]
def In.same (a : In α) (b : In β) : Bool := a.bk == b.bk && a.val.same b.val
def Pr.same (a : Pr α) (b : Pr β) : Bool := a.nm.toList == b.nm.toList && (sameD a.ps b.ps && sameS a.body b.body)
def sameI : List (In α) → List (In β) → Bool
  | [], [] => true
  | x :: r, y :: r' => x.same y && sameI r r'
  | [], _ :: _ => false
  | _ :: _, [] => false
def samePr : List (Pr α) → List (Pr β) → Bool
  | [], [] => true
  | x :: r, y :: r' => x.same y && samePr r r'
  | [], _ :: _ => false
  | _ :: _, [] => false
theorem In.same_iff {a : In α} {b : In β} : a.same b = true ↔ a.plain = b.plain := by
  cases a; cases b
  simp only [In.same, In.plain, Bool.and_eq_true, beq_iff_eq, Ex.same_iff, In.mk.injEq]
theorem Pr.same_iff {a : Pr α} {b : Pr β} : a.same b = true ↔ a.plain = b.plain := by
  cases a; cases b
  simp only [Pr.same, Pr.plain, Bool.and_eq_true, beq_iff_eq, bl_iff, sameD_iff, sameS_iff, Pr.mk.injEq, true_and]
theorem sameI_iff : ∀ {a : List (In α)} {b : List (In β)}, sameI a b = true ↔ a.map In.plain = b.map In.plain
  | [], [] => by simp [sameI]
  | x :: r, y :: r' => by simp only [sameI, Bool.and_eq_true, In.same_iff, sameI_iff (a := r), List.map_cons, List.cons.injEq]
  | [], _ :: _ => by simp [sameI]
  | _ :: _, [] => by simp [sameI]
theorem samePr_iff : ∀ {a : List (Pr α)} {b : List (Pr β)}, samePr a b = true ↔ a.map Pr.plain = b.map Pr.plain
  | [], [] => by simp [samePr]
  | x :: r, y :: r' => by simp only [samePr, Bool.and_eq_true, Pr.same_iff, samePr_iff (a := r), List.map_cons, List.cons.injEq]
  | [], _ :: _ => by simp [samePr]
  | _ :: _, [] => by simp [samePr]
/-- What Same answers of light programs. -/
def Pg.same (a : Pg α) (b : Pg β) : Bool :=
  (a.bl == b.bl && a.wd == b.wd) && ((sameD a.ins b.ins && (sameD a.gh b.gh && (sameD a.va b.va && sameD a.ar b.ar))) && (a.req.same b.req && (sameI a.inits b.inits && (samePr a.procs b.procs && (sameS a.work b.work && (sameS a.recov b.recov && a.inv.same b.inv))))))
theorem Pg.same_iff {a : Pg α} {b : Pg β} : a.same b = true ↔ a.plain = b.plain := by
  cases a; cases b
  simp only [Pg.same, Pg.plain, Bool.and_eq_true, beq_iff_eq, sameD_iff, sameI_iff, samePr_iff, sameS_iff, Ex.same_iff, Pg.mk.injEq, true_and, and_assoc]
end
-- in memory
def Dc.cells (d : Dc) : List Value := [.string d.nm, .int .i64 d.wd, .int .i64 d.sz]
def cellsD (l : List Dc) : List Value := l.flatMap Dc.cells
def In.cells (E : Enc) (x : In Loc) : List Value := .int .i64 x.bk :: x.val.cells E
def cellsI (E : Enc) (l : List (In Loc)) : List Value := l.flatMap (In.cells E)
def Pr.cells (x : Pr Loc) : List Value := [.string x.nm, .slice x.lp.A x.ps.length x.lp.c, .slice x.lb.A x.body.length x.lb.c]
def cellsP (l : List (Pr Loc)) : List Value := l.flatMap Pr.cells
def Pg.cells (E : Enc) (p : Pg Loc) : List Value :=
  .int .i64 p.bl :: .int .i64 p.wd :: .slice p.li.A p.ins.length p.li.c :: .slice p.lg.A p.gh.length p.lg.c :: .slice p.lv.A p.va.length p.lv.c :: .slice p.la.A p.ar.length p.la.c ::
    (p.req.cells E ++ (.slice p.ln.A p.inits.length p.ln.c :: .slice p.lpr.A p.procs.length p.lpr.c :: .slice p.lw.A p.work.length p.lw.c :: .slice p.lr.A p.recov.length p.lr.c :: p.inv.cells E))
theorem In.cells_len (E : Enc) (x : In Loc) : (x.cells E).length = 7 := by simp [In.cells, Ex.cells_len]
theorem Dc.cells_len (d : Dc) : d.cells.length = 3 := rfl
theorem Pr.cells_len (x : Pr Loc) : x.cells.length = 3 := rfl
theorem cellsD_len (l : List Dc) : (cellsD l).length = l.length * 3 := by
  induction l with
  | nil => rfl
  | cons x s ih => simp only [cellsD, List.flatMap_cons, List.length_append, List.length_cons, Dc.cells_len] at ih ⊢; omega
theorem cellsI_len (E : Enc) (l : List (In Loc)) : (cellsI E l).length = l.length * 7 := by
  induction l with
  | nil => rfl
  | cons x s ih => simp only [cellsI, List.flatMap_cons, List.length_append, List.length_cons, In.cells_len] at ih ⊢; omega
theorem cellsP_len (l : List (Pr Loc)) : (cellsP l).length = l.length * 3 := by
  induction l with
  | nil => rfl
  | cons x s ih => simp only [cellsP, List.flatMap_cons, List.length_append, List.length_cons, Pr.cells_len] at ih ⊢; omega
theorem cellsD_one (s : List Dc) : ∀ u ∈ cellsD s, u.oneCell' = true := fun u hu => by
  obtain ⟨x, _, hx⟩ := List.mem_flatMap.1 hu
  simp only [Dc.cells, List.mem_cons, List.not_mem_nil, or_false] at hx
  rcases hx with rfl | rfl | rfl <;> rfl
theorem cellsI_one (E : Enc) (s : List (In Loc)) : ∀ u ∈ cellsI E s, u.oneCell' = true := fun u hu => by
  obtain ⟨x, _, hx⟩ := List.mem_flatMap.1 hu
  rcases List.mem_cons.1 hx with rfl | hx
  · rfl
  · exact x.val.cells_one E u hx
theorem cellsP_one (s : List (Pr Loc)) : ∀ u ∈ cellsP s, u.oneCell' = true := fun u hu => by
  obtain ⟨x, _, hx⟩ := List.mem_flatMap.1 hu
  simp only [Pr.cells, List.mem_cons, List.not_mem_nil, or_false] at hx
  rcases hx with rfl | rfl | rfl <;> rfl
def Lin.ok (E : Enc) (w : World) (l : Loc) (s : List (In Loc)) : Prop := RowIn w 7 l s.length (cellsI E s) ∧ ∀ x ∈ s, x.val.ok E w
def Pr.ok (E : Enc) (w : World) (x : Pr Loc) : Prop := RowIn w 3 x.lp x.ps.length (cellsD x.ps) ∧ Lst.ok E w x.lb x.body
def Lpr.ok (E : Enc) (w : World) (l : Loc) (s : List (Pr Loc)) : Prop := RowIn w 3 l s.length (cellsP s) ∧ ∀ x ∈ s, x.ok E w
/-- A program lies in memory (all but its own cells). -/
structure Pg.ok (E : Enc) (w : World) (p : Pg Loc) : Prop where
  ins : RowIn w 3 p.li p.ins.length (cellsD p.ins)
  gh : RowIn w 3 p.lg p.gh.length (cellsD p.gh)
  va : RowIn w 3 p.lv p.va.length (cellsD p.va)
  ar : RowIn w 3 p.la p.ar.length (cellsD p.ar)
  req : p.req.ok E w
  inits : Lin.ok E w p.ln p.inits
  procs : Lpr.ok E w p.lpr p.procs
  work : Lst.ok E w p.lw p.work
  recov : Lst.ok E w p.lr p.recov
  inv : p.inv.ok E w
def Lin.blks (l : Loc) (s : List (In Loc)) : List Nat := l.blk s.length ++ s.flatMap fun x => x.val.blks
def Pr.blks (x : Pr Loc) : List Nat := x.lp.blk x.ps.length ++ (x.lb.blk x.body.length ++ blkS x.body)
def Lpr.blks (l : Loc) (s : List (Pr Loc)) : List Nat := l.blk s.length ++ s.flatMap Pr.blks
def Pg.blks (p : Pg Loc) : List Nat := p.li.blk p.ins.length ++ (p.lg.blk p.gh.length ++ (p.lv.blk p.va.length ++ (p.la.blk p.ar.length ++ (p.req.blks ++ (Lin.blks p.ln p.inits ++ (Lpr.blks p.lpr p.procs ++ ((p.lw.blk p.work.length ++ blkS p.work) ++ ((p.lr.blk p.recov.length ++ blkS p.recov) ++ p.inv.blks))))))))
section
variable {E : Enc} {w w' : World} {S : Nat → Prop}
theorem Lin.ok.keep (k : KeepsOn S w w') {l : Loc} {s : List (In Loc)} (h : Lin.ok E w l s) (hb : ∀ b ∈ Lin.blks l s, S b) : Lin.ok E w' l s :=
  ⟨h.1.keep k fun b hm => hb b (List.mem_append_left _ hm), fun x hx => (h.2 x hx).keep k fun b hm => hb b (List.mem_append_right _ (List.mem_flatMap.2 ⟨x, hx, hm⟩))⟩
theorem Pr.ok.keep (k : KeepsOn S w w') {x : Pr Loc} (h : x.ok E w) (hb : ∀ b ∈ x.blks, S b) : x.ok E w' :=
  ⟨h.1.keep k fun b hm => hb b (List.mem_append_left _ hm), h.2.keep k fun b hm => hb b (List.mem_append_right _ hm)⟩
theorem Lpr.ok.keep (k : KeepsOn S w w') {l : Loc} {s : List (Pr Loc)} (h : Lpr.ok E w l s) (hb : ∀ b ∈ Lpr.blks l s, S b) : Lpr.ok E w' l s :=
  ⟨h.1.keep k fun b hm => hb b (List.mem_append_left _ hm), fun x hx => (h.2 x hx).keep k fun b hm => hb b (List.mem_append_right _ (List.mem_flatMap.2 ⟨x, hx, hm⟩))⟩
theorem Pg.ok.keep (k : KeepsOn S w w') {p : Pg Loc} (h : p.ok E w) (hb : ∀ b ∈ p.blks, S b) : p.ok E w' := by
  simp only [Pg.blks, List.mem_append] at hb
  exact ⟨h.ins.keep k fun b hm => hb b (.inl hm), h.gh.keep k fun b hm => hb b (.inr (.inl hm)), h.va.keep k fun b hm => hb b (.inr (.inr (.inl hm))), h.ar.keep k fun b hm => hb b (.inr (.inr (.inr (.inl hm)))),
    h.req.keep k fun b hm => hb b (.inr (.inr (.inr (.inr (.inl hm))))), h.inits.keep k fun b hm => hb b (.inr (.inr (.inr (.inr (.inr (.inl hm)))))),
    h.procs.keep k fun b hm => hb b (.inr (.inr (.inr (.inr (.inr (.inr (.inl hm))))))),
    h.work.keep k fun b hm => hb b (.inr (.inr (.inr (.inr (.inr (.inr (.inr (.inl (List.mem_append.1 hm))))))))),
    h.recov.keep k fun b hm => hb b (.inr (.inr (.inr (.inr (.inr (.inr (.inr (.inr (.inl (List.mem_append.1 hm)))))))))),
    h.inv.keep k fun b hm => hb b (.inr (.inr (.inr (.inr (.inr (.inr (.inr (.inr (.inr hm)))))))))⟩
theorem Pg.ok.all (k : KeepsOn (fun _ => True) w w') {p : Pg Loc} (h : p.ok E w) : p.ok E w' := h.keep k (fun _ _ => trivial)
theorem Pg.ok.below {p : Pg Loc} (h : p.ok E w) (hb : Below w.heap.size w w') : p.ok E w' := h.all (keeps_below hb)
theorem Lin.ok.at {l : Loc} {s : List (In Loc)} (h : Lin.ok E w l s) {k : Nat} {x : In Loc} (hx : s[k]? = some x) :
    ∃ ad, l.A = some ad ∧ k < s.length ∧ x.val.ok E w ∧ CellsAt w (ad.add (k * 7)) (x.cells E) := by
  obtain ⟨ad, h1, h2, h3, h4⟩ := RowIn.at (In.cells_len E) h.1 hx
  exact ⟨ad, h1, h3, h.2 x (List.mem_of_getElem? hx), h4⟩
theorem Lpr.ok.at {l : Loc} {s : List (Pr Loc)} (h : Lpr.ok E w l s) {k : Nat} {x : Pr Loc} (hx : s[k]? = some x) :
    ∃ ad, l.A = some ad ∧ k < s.length ∧ x.ok E w ∧ CellsAt w (ad.add (k * 3)) x.cells := by
  obtain ⟨ad, h1, h2, h3, h4⟩ := RowIn.at Pr.cells_len h.1 hx
  exact ⟨ad, h1, h3, h.2 x (List.mem_of_getElem? hx), h4⟩
theorem CellsAt.c7 {p : Addr} {z a b c d e f : Value} (h : CellsAt w p [z, a, b, c, d, e, f]) : w.cell? p = some z ∧ w.cell? ⟨p.block, p.off + 1, none⟩ = some a ∧ w.cell? ⟨p.block, p.off + 2, none⟩ = some b ∧
    w.cell? ⟨p.block, p.off + 3, none⟩ = some c ∧ w.cell? ⟨p.block, p.off + 4, none⟩ = some d ∧ w.cell? ⟨p.block, p.off + 5, none⟩ = some e ∧ w.cell? ⟨p.block, p.off + 6, none⟩ = some f :=
  ⟨h.one, h.nth (by omega) rfl, h.nth (by omega) rfl, h.nth (by omega) rfl, h.nth (by omega) rfl, h.nth (by omega) rfl, h.nth (by omega) rfl⟩
end
-- how many nodes, as the program counts
def cntI {α : Type} : List (In α) → Nat → Nat
  | [], n => n
  | x :: r, n => cntI r (capE (n + 1) x.val.sz)
def cntPr {α : Type} : List (Pr α) → Nat → Nat
  | [], n => n
  | x :: r, n => cntPr r (cntL (nodesS x.body) (n + 1 + x.ps.length))
def cntP {α : Type} (p : Pg α) : Nat :=
  capE (cntL (nodesS p.recov) (cntL (nodesS p.work) (cntPr p.procs (cntI p.inits (capE (p.ins.length + p.gh.length + p.va.length + p.ar.length + 1) p.req.sz))))) p.inv.sz
section
variable {α : Type}
theorem cntI_exact : ∀ (l : List (In α)) (n : Nat), n + szI l ≤ 20000 → cntI l n = n + szI l
  | [], n, _ => rfl
  | x :: l, n, h => by
    simp only [szI, List.map_cons, List.sum_cons] at h ⊢
    simp only [cntI]
    rw [capE_yes (by omega), cntI_exact l _ (by simp only [szI]; omega)]
    simp only [szI]; omega
theorem cntI_more : ∀ (l : List (In α)) (n : Nat), 20000 < n + szI l → 20000 < cntI l n
  | [], n, h => by simpa [cntI, szI] using h
  | x :: l, n, h => by
    simp only [szI, List.map_cons, List.sum_cons] at h
    simp only [cntI]
    refine cntI_more l _ ?_
    simp only [szI]
    by_cases h2 : n + 1 + x.val.sz ≤ 20000
    · rw [capE_yes h2]; omega
    · have := capE_no (b := n + 1) (s := x.val.sz) (by omega); omega
theorem cntI_le : ∀ (l : List (In α)) (n : Nat), cntI l n ≤ max n 20001 + 2 * l.length
  | [], n => by simp only [cntI]; omega
  | x :: l, n => by
    have := cntI_le l (capE (n + 1) x.val.sz)
    have h2 : capE (n + 1) x.val.sz ≤ max (n + 2) 20001 := by unfold capE; omega
    simp only [cntI, List.length_cons]; omega
theorem cntI_append : ∀ (a b : List (In α)) (n : Nat), cntI (a ++ b) n = cntI b (cntI a n)
  | [], b, n => rfl
  | x :: a, b, n => by simp only [List.cons_append, cntI, cntI_append a b]
theorem cntPr_append : ∀ (a b : List (Pr α)) (n : Nat), cntPr (a ++ b) n = cntPr b (cntPr a n)
  | [], b, n => rfl
  | x :: a, b, n => by simp only [List.cons_append, cntPr, cntPr_append a b]
theorem cntPr_exact : ∀ (l : List (Pr α)) (n : Nat), n + szPr l ≤ 20000 → cntPr l n = n + szPr l
  | [], n, _ => rfl
  | x :: l, n, h => by
    simp only [szPr, List.map_cons, List.sum_cons] at h ⊢
    simp only [cntPr]
    rw [cntL_exact _ _ (by rw [wt_nodesS]; omega), wt_nodesS, cntPr_exact l _ (by simp only [szPr]; omega)]
    simp only [szPr]; omega
theorem cntPr_more : ∀ (l : List (Pr α)) (n : Nat), 20000 < n + szPr l → 20000 < cntPr l n
  | [], n, h => by simpa [cntPr, szPr] using h
  | x :: l, n, h => by
    simp only [szPr, List.map_cons, List.sum_cons] at h
    simp only [cntPr]
    refine cntPr_more l _ ?_
    simp only [szPr]
    by_cases h2 : n + 1 + x.ps.length + szS x.body ≤ 20000
    · rw [cntL_exact _ _ (by rw [wt_nodesS]; omega), wt_nodesS]; omega
    · have := cntL_more (nodesS x.body) (n + 1 + x.ps.length) (by rw [wt_nodesS]; omega); omega
/-- Bounds that keep the numbers small: lists of at most 20000, everywhere. -/
structure Pg.Slim (p : Pg α) : Prop where
  ins : p.ins.length ≤ 20000
  gh : p.gh.length ≤ 20000
  va : p.va.length ≤ 20000
  ar : p.ar.length ≤ 20000
  inits : p.inits.length ≤ 20000
  procs : p.procs.length ≤ 20000
  ps : ∀ x ∈ p.procs, x.ps.length ≤ 20000 ∧ Thin x.body
  work : Thin p.work
  recov : Thin p.recov
theorem cntPr_le (l : List (Pr α)) (n : Nat) (h : ∀ x ∈ l, x.ps.length ≤ 20000 ∧ Thin x.body) (hb : n + 70000 * l.length ≤ 1000000000000) : cntPr l n ≤ max n 20001 + 70000 * l.length := by
  induction l generalizing n with
  | nil => simp only [cntPr]; omega
  | cons x l ih =>
    have hx := h x (by simp)
    simp only [List.length_cons] at hb ⊢
    have h1 := cntL_le (nodesS x.body) (n + 1 + x.ps.length) hx.2 (by omega)
    have := ih (cntL (nodesS x.body) (n + 1 + x.ps.length)) (fun y hy => h y (by simp [hy])) (by omega)
    simp only [cntPr]; omega
theorem slim_of {p : Pg α} (h : p.sz ≤ 20000) : p.Slim := by
  have h1 := szI_len p.inits
  have h2 := szPr_len p.procs
  unfold Pg.sz at h
  exact ⟨by omega, by omega, by omega, by omega, by omega, by omega, fun x hx => by
    have h3 := szPr_mem hx
    exact ⟨by omega, thin_of (by omega)⟩, thin_of (by omega), thin_of (by omega)⟩
theorem cntP_exact {p : Pg α} (h : p.sz ≤ 20000) : cntP p = p.sz := by
  unfold Pg.sz at h ⊢
  unfold cntP
  have e1 : capE (p.ins.length + p.gh.length + p.va.length + p.ar.length + 1) p.req.sz = p.ins.length + p.gh.length + p.va.length + p.ar.length + 1 + p.req.sz := capE_yes (by omega)
  rw [e1, cntI_exact _ _ (by omega), cntPr_exact _ _ (by omega)]
  have e2 : cntL (nodesS p.work) (p.ins.length + p.gh.length + p.va.length + p.ar.length + 1 + p.req.sz + szI p.inits + szPr p.procs) = p.ins.length + p.gh.length + p.va.length + p.ar.length + 1 + p.req.sz + szI p.inits + szPr p.procs + szS p.work := by
    rw [cntL_exact _ _ (by rw [wt_nodesS]; omega), wt_nodesS]
  rw [e2, cntL_exact _ _ (by rw [wt_nodesS]; omega), wt_nodesS, capE_yes (by omega)]
theorem cntP_more {p : Pg α} (h : 20000 < p.sz) : 20000 < cntP p := by
  unfold Pg.sz at h
  unfold cntP
  have hi := p.inv.sz_pos
  obtain ⟨b0, hb0⟩ : ∃ b, b = p.ins.length + p.gh.length + p.va.length + p.ar.length + 1 := ⟨_, rfl⟩
  rw [← hb0] at h ⊢
  have s1 : 20000 < capE b0 p.req.sz ∨ (capE b0 p.req.sz = b0 + p.req.sz) := by
    by_cases h2 : b0 + p.req.sz ≤ 20000
    · exact .inr (capE_yes h2)
    · exact .inl (capE_no (by omega))
  obtain ⟨n1, h1⟩ : ∃ n, n = capE b0 p.req.sz := ⟨_, rfl⟩
  rw [← h1] at s1 ⊢
  have s2 : 20000 < cntI p.inits n1 ∨ cntI p.inits n1 = n1 + szI p.inits := by
    by_cases h2 : n1 + szI p.inits ≤ 20000
    · exact .inr (cntI_exact _ _ h2)
    · exact .inl (cntI_more _ _ (by omega))
  obtain ⟨n2, h2⟩ : ∃ n, n = cntI p.inits n1 := ⟨_, rfl⟩
  rw [← h2] at s2 ⊢
  have s2' : n1 ≤ n2 ∨ 20000 < n2 := by omega
  have s3 : 20000 < cntPr p.procs n2 ∨ cntPr p.procs n2 = n2 + szPr p.procs := by
    by_cases h2 : n2 + szPr p.procs ≤ 20000
    · exact .inr (cntPr_exact _ _ h2)
    · exact .inl (cntPr_more _ _ (by omega))
  obtain ⟨n3, h3⟩ : ∃ n, n = cntPr p.procs n2 := ⟨_, rfl⟩
  rw [← h3] at s3 ⊢
  have s4 : 20000 < cntL (nodesS p.work) n3 ∨ cntL (nodesS p.work) n3 = n3 + szS p.work := by
    by_cases h2 : n3 + szS p.work ≤ 20000
    · exact .inr (by rw [cntL_exact _ _ (by rw [wt_nodesS]; omega), wt_nodesS])
    · exact .inl (cntL_more _ _ (by rw [wt_nodesS]; omega))
  obtain ⟨n4, h4⟩ : ∃ n, n = cntL (nodesS p.work) n3 := ⟨_, rfl⟩
  rw [← h4] at s4 ⊢
  have s5 : 20000 < cntL (nodesS p.recov) n4 ∨ cntL (nodesS p.recov) n4 = n4 + szS p.recov := by
    by_cases h2 : n4 + szS p.recov ≤ 20000
    · exact .inr (by rw [cntL_exact _ _ (by rw [wt_nodesS]; omega), wt_nodesS])
    · exact .inl (cntL_more _ _ (by rw [wt_nodesS]; omega))
  obtain ⟨n5, h5⟩ : ∃ n, n = cntL (nodesS p.recov) n4 := ⟨_, rfl⟩
  rw [← h5] at s5 ⊢
  have m1 : n2 ≥ n1 ∨ 20000 < n2 := by omega
  refine capE_no ?_
  omega
end
end Go.Proofs.Ytnldbplphgfpeaa
