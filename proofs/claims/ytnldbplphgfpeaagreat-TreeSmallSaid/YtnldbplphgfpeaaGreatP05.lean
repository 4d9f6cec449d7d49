/- Lemmas for salvor/salvorlaw29.TreeSmall (part 5); no condition. -/
import Derived.Deep.RegionHeld
import Derived.Deep.MidRow
import Derived.Test.YtnldbplphgfpeaaGreatP04
namespace Go.Proofs.YtnldbplphgfpeaaGreat
open Go Go.RowKit Go.Shelf
set_option linter.unusedVariables false
set_option linter.unusedSimpArgs false
set_option maxHeartbeats 4000000
mutual
def Ex.own (E : Enc) (w : World) (base : Nat) : Ex Loc → Prop
 | .mk _ l s => w.ownsRow base E.tE 6 (.slice l.A s.length l.c) s.length (cellsL E s) ∧ owns E w base s
def owns (E : Enc) (w : World) (base : Nat) : List (Ex Loc) → Prop
 | [] => True
 | x :: r => x.own E w base ∧ owns E w base r
end
mutual
def St.own (E : Enc) (w : World) (base : Nat) : St Loc → Prop
 | .mk _ lx lt le ex th el => (w.ownsRow base E.tE 6 (.slice lx.A ex.length lx.c) ex.length (cellsL E ex) ∧ owns E w base ex) ∧ (w.ownsRow base E.tS 6 (.slice lt.A th.length lt.c) th.length (cellsS E th) ∧ ownS E w base th) ∧
  (w.ownsRow base E.tS 6 (.slice le.A el.length le.c) el.length (cellsS E el) ∧ ownS E w base el)
def ownS (E : Enc) (w : World) (base : Nat) : List (St Loc) → Prop
 | [] => True
 | x :: r => x.own E w base ∧ ownS E w base r
end
def Lex.own (E : Enc) (w : World) (base : Nat) (l : Loc) (s : List (Ex Loc)) : Prop := w.ownsRow base E.tE 6 (.slice l.A s.length l.c) s.length (cellsL E s) ∧ owns E w base s
def Lst.own (E : Enc) (w : World) (base : Nat) (l : Loc) (s : List (St Loc)) : Prop := w.ownsRow base E.tS 6 (.slice l.A s.length l.c) s.length (cellsS E s) ∧ ownS E w base s
def Loc.fp (l : Loc) : List Nat := match l.A with | none => [] | some ad => [ad.block]
mutual
def Ex.fp : Ex Loc → List Nat
 | .mk _ l s => l.fp ++ fps s
def fps : List (Ex Loc) → List Nat
 | [] => []
 | x :: r => x.fp ++ fps r
end
mutual
def St.fp : St Loc → List Nat
 | .mk _ lx lt le ex th el => (lx.fp ++ fps ex) ++ ((lt.fp ++ fpS th) ++ (le.fp ++ fpS el))
def fpS : List (St Loc) → List Nat
 | [] => []
 | x :: r => x.fp ++ fpS r
end
def Lex.fp (l : Loc) (s : List (Ex Loc)) : List Nat := l.fp ++ fps s
def Lst.fp (l : Loc) (s : List (St Loc)) : List Nat := l.fp ++ fpS s
theorem blk_fp {l : Loc} {n b : Nat} (h : b ∈ l.blk n) : b ∈ l.fp := by
 unfold Loc.blk at h
 unfold Loc.fp
 split at h
 ·cases h
 ·exact h
mutual
theorem Ex.blks_fp : ∀ {e : Ex Loc} {b : Nat}, b ∈ e.blks → b ∈ e.fp
 | .mk _ l s, b, h => by
  simp only [Ex.blks, Ex.fp, List.mem_append] at h ⊢
  exact h.imp blk_fp blkss_fp
theorem blkss_fp : ∀ {l : List (Ex Loc)} {b : Nat}, b ∈ blkss l → b ∈ fps l
 | [], b, h => by cases h
 | x :: r, b, h => by
  simp only [blkss, fps, List.mem_append] at h ⊢
  exact h.imp Ex.blks_fp blkss_fp
end
mutual
theorem St.blks_fp : ∀ {e : St Loc} {b : Nat}, b ∈ e.blks → b ∈ e.fp
 | .mk _ lx lt le ex th el, b, h => by
  simp only [St.blks, St.fp, List.mem_append] at h ⊢
  exact h.imp (fun h => h.imp blk_fp blkss_fp) (fun h => h.imp (fun h => h.imp blk_fp blkS_fp) (fun h => h.imp blk_fp blkS_fp))
theorem blkS_fp : ∀ {l : List (St Loc)} {b : Nat}, b ∈ blkS l → b ∈ fpS l
 | [], b, h => by cases h
 | x :: r, b, h => by
  simp only [blkS, fpS, List.mem_append] at h ⊢
  exact h.imp St.blks_fp blkS_fp
end
theorem fps_append : ∀ (a b : List (Ex Loc)), fps (a ++ b) = fps a ++ fps b
 | [], b => rfl
 | x :: a, b => by simp only [List.cons_append, fps, fps_append a b, List.append_assoc]
theorem fpS_append : ∀ (a b : List (St Loc)), fpS (a ++ b) = fpS a ++ fpS b
 | [], b => rfl
 | x :: a, b => by simp only [List.cons_append, fpS, fpS_append a b, List.append_assoc]
theorem fps_iff : ∀ {l : List (Ex Loc)} {b : Nat}, b ∈ fps l ↔ ∃ x ∈ l, b ∈ x.fp
 | [], b => by simp [fps]
 | x :: r, b => by simp [fps, fps_iff (l := r)]
theorem fpS_iff : ∀ {l : List (St Loc)} {b : Nat}, b ∈ fpS l ↔ ∃ x ∈ l, b ∈ x.fp
 | [], b => by simp [fpS]
 | x :: r, b => by simp [fpS, fpS_iff (l := r)]
theorem own_fp (l : Loc) (n : Nat) (b : Nat) : b ∈ l.fp ↔ (Value.slice l.A n l.c).ownBlock = some b := by
 obtain ⟨A, c⟩ := l
 cases A with
 | none => simp [Loc.fp, Value.ownBlock]
 | some ad => simp [Loc.fp, Value.ownBlock, eq_comm]
section
variable {E : Enc} {w w' : World} {base : Nat}
theorem owns_iff : ∀ {l : List (Ex Loc)}, owns E w base l ↔ ∀ x ∈ l, x.own E w base
 | [] => by simp [owns]
 | x :: r => by simp [owns, owns_iff (l := r)]
theorem ownS_iff : ∀ {l : List (St Loc)}, ownS E w base l ↔ ∀ x ∈ l, x.own E w base
 | [] => by simp [ownS]
 | x :: r => by simp [ownS, ownS_iff (l := r)]
theorem own_row {e sz n : Nat} {l : Loc} {xs : List Value} (h : w.ownsRow base e sz (.slice l.A n l.c) n xs) : RowIn w sz l n xs := by
 obtain ⟨A, c⟩ := l
 have := own_cap h
 exact RowIn.of_own h this.1 this.2
theorem own_ge {e sz n : Nat} {l : Loc} {xs : List Value} (h : w.ownsRow base e sz (.slice l.A n l.c) n xs) : ∀ b ∈ l.fp, base ≤ b ∧ b < w.heap.size := fun b hb => h.lt b ((own_fp l n b).1 hb)
mutual
theorem Ex.own.ok : ∀ {e : Ex Loc}, e.own E w base → e.ok E w
 | .mk _ l s, h => ⟨own_row h.1, owns_ok h.2⟩
theorem owns_ok : ∀ {l : List (Ex Loc)}, owns E w base l → oks E w l
 | [], _ => trivial
 | x :: r, h => ⟨h.1.ok, owns_ok h.2⟩
end
mutual
theorem St.own.ok : ∀ {e : St Loc}, e.own E w base → e.ok E w
 | .mk _ lx lt le ex th el, h => ⟨own_row h.1.1, owns_ok h.1.2, own_row h.2.1.1, ownS_ok h.2.1.2, own_row h.2.2.1, ownS_ok h.2.2.2⟩
theorem ownS_ok : ∀ {l : List (St Loc)}, ownS E w base l → okS E w l
 | [], _ => trivial
 | x :: r, h => ⟨h.1.ok, ownS_ok h.2⟩
end
theorem Lst.own.ok {l : Loc} {s : List (St Loc)} (h : Lst.own E w base l s) : Lst.ok E w l s := ⟨own_row h.1, ownS_ok h.2⟩
mutual
theorem Ex.own.ge : ∀ {e : Ex Loc}, e.own E w base → ∀ b ∈ e.fp, base ≤ b ∧ b < w.heap.size
 | .mk _ l s, h, b, hb => by
  simp only [Ex.fp, List.mem_append] at hb
  rcases hb with hb | hb
  ·exact own_ge h.1 b hb
  ·exact owns_ge h.2 b hb
theorem owns_ge : ∀ {l : List (Ex Loc)}, owns E w base l → ∀ b ∈ fps l, base ≤ b ∧ b < w.heap.size
 | [], _, b, hb => by cases hb
 | x :: r, h, b, hb => by
  simp only [fps, List.mem_append] at hb
  rcases hb with hb | hb
  ·exact h.1.ge b hb
  ·exact owns_ge h.2 b hb
end
mutual
theorem St.own.ge : ∀ {e : St Loc}, e.own E w base → ∀ b ∈ e.fp, base ≤ b ∧ b < w.heap.size
 | .mk _ lx lt le ex th el, h, b, hb => by
  simp only [St.fp, List.mem_append] at hb
  rcases hb with (hb | hb) | (hb | hb) | hb | hb
  ·exact own_ge h.1.1 b hb
  ·exact owns_ge h.1.2 b hb
  ·exact own_ge h.2.1.1 b hb
  ·exact ownS_ge h.2.1.2 b hb
  ·exact own_ge h.2.2.1 b hb
  ·exact ownS_ge h.2.2.2 b hb
theorem ownS_ge : ∀ {l : List (St Loc)}, ownS E w base l → ∀ b ∈ fpS l, base ≤ b ∧ b < w.heap.size
 | [], _, b, hb => by cases hb
 | x :: r, h, b, hb => by
  simp only [fpS, List.mem_append] at hb
  rcases hb with hb | hb
  ·exact h.1.ge b hb
  ·exact ownS_ge h.2 b hb
end
theorem Lex.own.ge {l : Loc} {s : List (Ex Loc)} (h : Lex.own E w base l s) : ∀ b ∈ Lex.fp l s, base ≤ b ∧ b < w.heap.size := fun b hb => by
 rcases List.mem_append.1 hb with hb | hb
 ·exact own_ge h.1 b hb
 ·exact owns_ge h.2 b hb
theorem Lst.own.ge {l : Loc} {s : List (St Loc)} (h : Lst.own E w base l s) : ∀ b ∈ Lst.fp l s, base ≤ b ∧ b < w.heap.size := fun b hb => by
 rcases List.mem_append.1 hb with hb | hb
 ·exact own_ge h.1 b hb
 ·exact ownS_ge h.2 b hb
theorem own_same {e sz n : Nat} {v : Value} {xs : List Value} (h : w.ownsRow base e sz v n xs) (hs : ∀ k, v.ownBlock = some k → w'.heap[k]? = w.heap[k]?) : w'.ownsRow base e sz v n xs := by
 refine ⟨h.1, ?_⟩
 rcases h.2 with hn' | ⟨g, cap, cur, rfl, hb, hgg, rest⟩
 ·exact .inl hn'
 ·refine .inr ⟨g, cap, cur, rfl, hb, ?_, rest⟩
  rw [hs g rfl]; exact hgg
mutual
theorem Ex.own.same : ∀ {e : Ex Loc}, e.own E w base → (∀ b ∈ e.fp, w'.heap[b]? = w.heap[b]?) → e.own E w' base
 | .mk _ l s, h, hb => by
  simp only [Ex.fp, List.mem_append] at hb
  exact ⟨own_same h.1 (fun k hk => hb k (.inl ((own_fp l s.length k).2 hk))), owns_same h.2 (fun b hm => hb b (.inr hm))⟩
theorem owns_same : ∀ {l : List (Ex Loc)}, owns E w base l → (∀ b ∈ fps l, w'.heap[b]? = w.heap[b]?) → owns E w' base l
 | [], _, _ => trivial
 | x :: r, h, hb => by
  simp only [fps, List.mem_append] at hb
  exact ⟨h.1.same (fun b hm => hb b (.inl hm)), owns_same h.2 (fun b hm => hb b (.inr hm))⟩
end
theorem Lex.own.same {l : Loc} {s : List (Ex Loc)} (h : Lex.own E w base l s) (hb : ∀ b ∈ Lex.fp l s, w'.heap[b]? = w.heap[b]?) : Lex.own E w' base l s := by
 simp only [Lex.fp, List.mem_append] at hb
 exact ⟨own_same h.1 (fun k hk => hb k (.inl ((own_fp l s.length k).2 hk))), owns_same h.2 (fun b hm => hb b (.inr hm))⟩
mutual
theorem St.own.same : ∀ {e : St Loc}, e.own E w base → (∀ b ∈ e.fp, w'.heap[b]? = w.heap[b]?) → e.own E w' base
 | .mk _ lx lt le ex th el, h, hb => by
  simp only [St.fp, List.mem_append] at hb
  exact ⟨⟨own_same h.1.1 (fun k hk => hb k (.inl (.inl ((own_fp lx ex.length k).2 hk)))), owns_same h.1.2 (fun b hm => hb b (.inl (.inr hm)))⟩,
   ⟨own_same h.2.1.1 (fun k hk => hb k (.inr (.inl (.inl ((own_fp lt th.length k).2 hk))))), ownS_same h.2.1.2 (fun b hm => hb b (.inr (.inl (.inr hm))))⟩,
   ⟨own_same h.2.2.1 (fun k hk => hb k (.inr (.inr (.inl ((own_fp le el.length k).2 hk))))), ownS_same h.2.2.2 (fun b hm => hb b (.inr (.inr (.inr hm))))⟩⟩
theorem ownS_same : ∀ {l : List (St Loc)}, ownS E w base l → (∀ b ∈ fpS l, w'.heap[b]? = w.heap[b]?) → ownS E w' base l
 | [], _, _ => trivial
 | x :: r, h, hb => by
  simp only [fpS, List.mem_append] at hb
  exact ⟨h.1.same (fun b hm => hb b (.inl hm)), ownS_same h.2 (fun b hm => hb b (.inr hm))⟩
end
theorem Lst.own.same {l : Loc} {s : List (St Loc)} (h : Lst.own E w base l s) (hb : ∀ b ∈ Lst.fp l s, w'.heap[b]? = w.heap[b]?) : Lst.own E w' base l s := by
 simp only [Lst.fp, List.mem_append] at hb
 exact ⟨own_same h.1 (fun k hk => hb k (.inl ((own_fp l s.length k).2 hk))), ownS_same h.2 (fun b hm => hb b (.inr hm))⟩
theorem Ex.own.keep {fp : List Nat} (ho : Only fp w w') {e : Ex Loc} (h : e.own E w base) (hb : ∀ b ∈ e.fp, b ∉ fp) : e.own E w' base := h.same fun b hm => ho.block b (h.ge b hm).2 (hb b hm)
theorem owns_keep {fp : List Nat} (ho : Only fp w w') {l : List (Ex Loc)} (h : owns E w base l) (hb : ∀ b ∈ fps l, b ∉ fp) : owns E w' base l := owns_same h fun b hm => ho.block b (owns_ge h b hm).2 (hb b hm)
theorem Lex.own.keep {fp : List Nat} (ho : Only fp w w') {l : Loc} {s : List (Ex Loc)} (h : Lex.own E w base l s) (hb : ∀ b ∈ Lex.fp l s, b ∉ fp) : Lex.own E w' base l s := h.same fun b hm => ho.block b (h.ge b hm).2 (hb b hm)
theorem ownS_keep {fp : List Nat} (ho : Only fp w w') {l : List (St Loc)} (h : ownS E w base l) (hb : ∀ b ∈ fpS l, b ∉ fp) : ownS E w' base l := ownS_same h fun b hm => ho.block b (ownS_ge h b hm).2 (hb b hm)
theorem Lst.own.keep {fp : List Nat} (ho : Only fp w w') {l : Loc} {s : List (St Loc)} (h : Lst.own E w base l s) (hb : ∀ b ∈ Lst.fp l s, b ∉ fp) : Lst.own E w' base l s := h.same fun b hm => ho.block b (h.ge b hm).2 (hb b hm)
mutual
theorem Ex.own.base_le {base' : Nat} (hb : base' ≤ base) : ∀ {e : Ex Loc}, e.own E w base → e.own E w base'
 | .mk _ l s, h => ⟨own_base h.1 hb, owns_base hb h.2⟩
theorem owns_base {base' : Nat} (hb : base' ≤ base) : ∀ {l : List (Ex Loc)}, owns E w base l → owns E w base' l
 | [], _ => trivial
 | x :: r, h => ⟨h.1.base_le hb, owns_base hb h.2⟩
end
mutual
theorem St.own.base_le {base' : Nat} (hb : base' ≤ base) : ∀ {e : St Loc}, e.own E w base → e.own E w base'
 | .mk _ lx lt le ex th el, h => ⟨⟨own_base h.1.1 hb, owns_base hb h.1.2⟩, ⟨own_base h.2.1.1 hb, ownS_base hb h.2.1.2⟩, ⟨own_base h.2.2.1 hb, ownS_base hb h.2.2.2⟩⟩
theorem ownS_base {base' : Nat} (hb : base' ≤ base) : ∀ {l : List (St Loc)}, ownS E w base l → ownS E w base' l
 | [], _ => trivial
 | x :: r, h => ⟨h.1.base_le hb, ownS_base hb h.2⟩
end
theorem Lst.own.base_le {base' : Nat} (hb : base' ≤ base) {l : Loc} {s : List (St Loc)} (h : Lst.own E w base l s) : Lst.own E w base' l s := ⟨own_base h.1 hb, ownS_base hb h.2⟩
theorem Lex.own.base_le {base' : Nat} (hb : base' ≤ base) {l : Loc} {s : List (Ex Loc)} (h : Lex.own E w base l s) : Lex.own E w base' l s := ⟨own_base h.1 hb, owns_base hb h.2⟩
theorem own_setc {e sz n c g : Nat} {xs : List Value} (h : w.ownsRow base e sz (.slice (some ⟨g, 0, none⟩) n c) n xs) {j : Nat} (hj : j < n * sz) (u : Value) : (w.setCell ⟨g, j, none⟩ u).ownsRow base e sz (.slice (some ⟨g, 0, none⟩) n c) n (xs.set j u) := by
 rcases h.2 with ⟨h1, _⟩ | ⟨g', cap, cur, h1, hb, hg, h3, h4, h5, h6⟩
 ·cases h1
 ·injection h1 with h1 h2 h7
  injection h1 with h1
  injection h1 with h1
  subst h1
  subst h7
  have hB : Blk w g e cur := hg
  refine ⟨by rw [List.length_set]; exact h.1, .inr ⟨g, c, cur.setIfInBounds j u, rfl, hb, hB.set_ j u, h3, h4, by simpa using h5, ?_⟩⟩
  rw [Array.toList_setIfInBounds, List.take_set, h6]
theorem set_six {α : Type} (pre post : List α) (o0 o1 o2 o3 o4 o5 a b c d e f : α) (i : Nat) (hi : pre.length = i) :
  ((((((pre ++ o0 :: o1 :: o2 :: o3 :: o4 :: o5 :: post).set i a).set (i + 1) b).set (i + 2) c).set (i + 3) d).set (i + 4) e).set (i + 5) f = pre ++ a :: b :: c :: d :: e :: f :: post := by
 induction pre generalizing i with
 | nil => subst hi; rfl
 | cons p pre ih =>
  subst hi
  simp only [List.length_cons, List.cons_append, List.set_cons_succ, Nat.add_right_comm _ 1]
  rw [ih pre.length rfl]
theorem cellsL_append (E : Enc) (a b : List (Ex Loc)) : cellsL E (a ++ b) = cellsL E a ++ cellsL E b := by simp [cellsL]
theorem cellsS_append (E : Enc) (a b : List (St Loc)) : cellsS E (a ++ b) = cellsS E a ++ cellsS E b := by simp [cellsS]
theorem set_at {α : Type} (pre l post : List α) (i j : Nat) (hi : pre.length = i) (hj : j < l.length) (u : α) : (pre ++ (l ++ post)).set (i + j) u = pre ++ (l.set j u ++ post) := by
 rw [List.set_append_right _ _ (by omega), hi, Nat.add_sub_cancel_left, List.set_append_left _ _ hj]
theorem own_put_at {e sz c g n : Nat} {pre l post : List Value} (h : w.ownsRow base e sz (.slice (some ⟨g, 0, none⟩) n c) n (pre ++ (l ++ post))) {i : Nat} (hi : pre.length = i) (j : Nat) (hj : j < l.length) (u : Value) :
  (w.setCell ⟨g, i + j, none⟩ u).ownsRow base e sz (.slice (some ⟨g, 0, none⟩) n c) n (pre ++ (l.set j u ++ post)) := by
 have hl := h.1
 simp only [List.length_append] at hl
 rw [← set_at pre l post i j hi hj u]
 exact own_setc h (by omega) u
theorem own_at {e sz c g n : Nat} {pre l post : List Value} (h : w.ownsRow base e sz (.slice (some ⟨g, 0, none⟩) n c) n (pre ++ (l ++ post))) {i : Nat} (hi : pre.length = i) (j : Nat) {u : Value} (hu : l[j]? = some u) :
  w.cell? ⟨g, i + j, none⟩ = some u ∧ w.frozen? ⟨g, i + j, none⟩ = false ∧ g < w.heap.size := by
 have hj : j < l.length := (List.getElem?_eq_some_iff.1 hu).1
 have := h.cells (g := g) rfl (i + j) u (by rw [List.getElem?_append_right (by omega), hi, Nat.add_sub_cancel_left, List.getElem?_append_left hj]; exact hu)
 rw [Addr.add_lit, Nat.zero_add] at this
 refine ⟨this, ?_, (h.lt g rfl).2⟩
 rcases h.2 with ⟨h1, _⟩ | ⟨g', cap, cur, h1, _, hg, _⟩
 ·cases h1
 ·injection h1 with h1
  injection h1 with h1
  injection h1 with h1
  subst h1
  exact Blk.frozen (cs := cur) hg _
theorem own_put6 {e c g n : Nat} {pre post : List Value} {o0 o1 o2 o3 o4 o5 : Value} (h : w.ownsRow base e 6 (.slice (some ⟨g, 0, none⟩) n c) n (pre ++ o0 :: o1 :: o2 :: o3 :: o4 :: o5 :: post)) {i : Nat} (hi : pre.length = i) (u0 u1 u2 u3 u4 u5 : Value) :
  ((((((w.setCell ⟨g, i, none⟩ u0).setCell ⟨g, i + 1, none⟩ u1).setCell ⟨g, i + 2, none⟩ u2).setCell ⟨g, i + 3, none⟩ u3).setCell ⟨g, i + 4, none⟩ u4).setCell ⟨g, i + 5, none⟩ u5).ownsRow base e 6 (.slice (some ⟨g, 0, none⟩) n c) n (pre ++ u0 :: u1 :: u2 :: u3 :: u4 :: u5 :: post) := by
 have hl := h.1
 simp only [List.length_append, List.length_cons] at hl
 rw [← set_six pre post o0 o1 o2 o3 o4 o5 u0 u1 u2 u3 u4 u5 i hi]
 exact own_setc (own_setc (own_setc (own_setc (own_setc (own_setc h (by omega) u0) (by omega) u1) (by omega) u2) (by omega) u3) (by omega) u4) (by omega) u5
theorem own_six {e c g n k : Nat} {pre post : List Value} {o0 o1 o2 o3 o4 o5 : Value} (h : w.ownsRow base e 6 (.slice (some ⟨g, 0, none⟩) n c) n (pre ++ o0 :: o1 :: o2 :: o3 :: o4 :: o5 :: post)) (hi : pre.length = k) :
  (w.cell? ⟨g, k, none⟩ = some o0 ∧ w.cell? ⟨g, k + 1, none⟩ = some o1 ∧ w.cell? ⟨g, k + 2, none⟩ = some o2 ∧ w.cell? ⟨g, k + 3, none⟩ = some o3 ∧ w.cell? ⟨g, k + 4, none⟩ = some o4 ∧ w.cell? ⟨g, k + 5, none⟩ = some o5) ∧
   (∀ j, w.frozen? ⟨g, j, none⟩ = false) ∧ g < w.heap.size := by
 have hc := h.cells (g := g) rfl
 have e0 : ∀ j u, [o0, o1, o2, o3, o4, o5][j]? = some u → w.cell? ⟨g, k + j, none⟩ = some u := fun j u hu => by
  have hj : j < 6 := (List.getElem?_eq_some_iff.1 hu).1
  have := hc (k + j) u (by
   rw [List.getElem?_append_right (by omega), hi, Nat.add_sub_cancel_left]
   show ([o0, o1, o2, o3, o4, o5] ++ post)[j]? = _
   rw [List.getElem?_append_left hj]; exact hu)
  rwa [Addr.add_lit, Nat.zero_add] at this
 refine ⟨⟨e0 0 _ rfl, e0 1 _ rfl, e0 2 _ rfl, e0 3 _ rfl, e0 4 _ rfl, e0 5 _ rfl⟩, ?_, (h.lt g rfl).2⟩
 rcases h.2 with ⟨h1, _⟩ | ⟨g', cap, cur, h1, _, hg, _⟩
 ·cases h1
 ·injection h1 with h1
  injection h1 with h1
  injection h1 with h1
  subst h1
  exact fun j => Blk.frozen (cs := cur) hg j
theorem Only.six {fp : List Nat} {g i : Nat} (h : Only fp w w') (hg : g ∈ fp ∨ w.heap.size ≤ g) (u0 u1 u2 u3 u4 u5 : Value) :
  Only fp w ((((((w'.setCell ⟨g, i, none⟩ u0).setCell ⟨g, i + 1, none⟩ u1).setCell ⟨g, i + 2, none⟩ u2).setCell ⟨g, i + 3, none⟩ u3).setCell ⟨g, i + 4, none⟩ u4).setCell ⟨g, i + 5, none⟩ u5) :=
 (((((h.setCell hg _).setCell hg _).setCell hg _).setCell hg _).setCell hg _).setCell hg _
end
end Go.Proofs.YtnldbplphgfpeaaGreat
namespace Go.Proofs.YtnldbplphgfpeaaGreat
open Go Go.RowKit Go.Shelf
set_option linter.unusedVariables false
set_option linter.unusedSimpArgs false
set_option maxHeartbeats 4000000
theorem infoExpr : (Tryz.prog.info? 30).map (fun i => (i.zero, i.size, i.bytes)) = some (some (.agg #[.int .u8 0, .int .u8 0, .int .u32 0, .int .i64 0, .string ⟨#[]⟩, .slice none 0 0]), 6, 56) := by kernel_rfl
set_option maxRecDepth 100000 in
theorem cloneExpr (l : Loc) (n : Nat) (xs : List Value) (w : World) (h0 : RowIn w 6 l n xs) (h1 : ∀ u ∈ xs, u.oneCell' = true) (hn : n ≤ 1000000) :
  Calls Tryz.prog 109 #[.slice l.A n l.c] w fun e w' => ∃ l' : Loc, e = .returned (.slice l'.A n l'.c) ∧ w'.ownsRow w.heap.size 30 6 (.slice l'.A n l'.c) n xs ∧ Below w.heap.size w w' := by
 have h := h0.reads (by omega)
 clear h0
 obtain ⟨A, c⟩ := l
 dsimp only at h ⊢
 cases A with
 | none =>
  have hn0 : n = 0 := by
   rcases Nat.eq_zero_or_pos n with h0 | h0
   ·exact h0
   ·obtain ⟨ad, e, _⟩ := h.2 h0
    cases e
  have hx0 : xs = [] := List.eq_nil_of_length_eq_zero (by rw [h.1, hn0])
  subst hn0
  subst hx0
  have hq := fun wx => Lib.run_eql_slice_nil (P := Tryz.prog) wx 28 30 none 0 c 0 0 Tryz.underlying28
  go_enter Tryz.func109, Tryz.ntmps109
  go_wp2
  go_ret
  exact ⟨⟨none, 0⟩, rfl, World.ownsRow_nil _ _ _ _, Below.refl _ _⟩
 | some ad =>
  obtain ⟨i0, hi, hz0, hz1, hz2⟩ := info_parts infoExpr
  have hr0 : (w.alloc (.cells #[] 30)).ownsRow w.heap.size 30 6 (.slice (some ⟨w.heap.size, 0, none⟩) 0 0) 0 [] := World.ownsRow_made w #[] 0 (Nat.le_refl _) (by unfold maxLen; omega) rfl
  have hB0 := (Below.refl w.heap.size w).alloc (Nat.le_refl _) (.cells #[] 30)
  have hrd : Reads (w.alloc (.cells #[] 30)) w.heap.size 6 (some ad) n xs := ⟨h.1, fun hn => by
   obtain ⟨ad', e, hb, hc⟩ := h.2 hn
   exact ⟨ad', e, hb, fun j u hu => cell_later hB0 (hc j u hu)⟩⟩
  have hq := fun wx => Lib.run_eql_slice_nil (P := Tryz.prog) wx 28 30 (some ad) n c 0 0 Tryz.underlying28
  go_enter Tryz.func109, Tryz.ntmps109
  go_wp2_with (at_builtin; refine wpList_append_any _ rfl (.tmp 5) (.tmp 6) 28 rfl w.heap.size 30 i0 _ 6 56 Tryz.underlying28 hi hz0 hz1 hz2 rfl (by omega) (.slice (some ⟨w.heap.size, 0, none⟩) 0 0) 0 [] rfl hr0 w.heap.size (some ad) n c xs rfl hrd h1 (by simp only [maxLen]; omega) (by omega) hB0.size ?_; intro v1 w1 hown1 hg1 _; have hB1 := hB0.grown hg1 hB0.size (fun k hk => (hr0.lt k hk).1))
  go_ret
  rw [Nat.zero_add, List.nil_append] at hown1
  obtain ⟨A', c', rfl⟩ := own_form hown1
  exact ⟨⟨A', c'⟩, rfl, hown1, hB1⟩
theorem infoStmt : (Tryz.prog.info? 40).map (fun i => (i.zero, i.size, i.bytes)) = some (some (.agg #[.int .u8 0, .string ⟨#[]⟩, .slice none 0 0, .int .i64 0, .slice none 0 0, .slice none 0 0]), 6, 104) := by kernel_rfl
set_option maxRecDepth 100000 in
theorem cloneStmt (l : Loc) (n : Nat) (xs : List Value) (w : World) (h0 : RowIn w 6 l n xs) (h1 : ∀ u ∈ xs, u.oneCell' = true) (hn : n ≤ 1000000) :
  Calls Tryz.prog 111 #[.slice l.A n l.c] w fun e w' => ∃ l' : Loc, e = .returned (.slice l'.A n l'.c) ∧ w'.ownsRow w.heap.size 40 6 (.slice l'.A n l'.c) n xs ∧ Below w.heap.size w w' := by
 have h := h0.reads (by omega)
 clear h0
 obtain ⟨A, c⟩ := l
 dsimp only at h ⊢
 cases A with
 | none =>
  have hn0 : n = 0 := by
   rcases Nat.eq_zero_or_pos n with h0 | h0
   ·exact h0
   ·obtain ⟨ad, e, _⟩ := h.2 h0
    cases e
  have hx0 : xs = [] := List.eq_nil_of_length_eq_zero (by rw [h.1, hn0])
  subst hn0
  subst hx0
  have hq := fun wx => Lib.run_eql_slice_nil (P := Tryz.prog) wx 33 40 none 0 c 0 0 Tryz.underlying33
  go_enter Tryz.func111, Tryz.ntmps111
  go_wp2
  go_ret
  exact ⟨⟨none, 0⟩, rfl, World.ownsRow_nil _ _ _ _, Below.refl _ _⟩
 | some ad =>
  obtain ⟨i0, hi, hz0, hz1, hz2⟩ := info_parts infoStmt
  have hr0 : (w.alloc (.cells #[] 40)).ownsRow w.heap.size 40 6 (.slice (some ⟨w.heap.size, 0, none⟩) 0 0) 0 [] := World.ownsRow_made w #[] 0 (Nat.le_refl _) (by unfold maxLen; omega) rfl
  have hB0 := (Below.refl w.heap.size w).alloc (Nat.le_refl _) (.cells #[] 40)
  have hrd : Reads (w.alloc (.cells #[] 40)) w.heap.size 6 (some ad) n xs := ⟨h.1, fun hn => by
   obtain ⟨ad', e, hb, hc⟩ := h.2 hn
   exact ⟨ad', e, hb, fun j u hu => cell_later hB0 (hc j u hu)⟩⟩
  have hq := fun wx => Lib.run_eql_slice_nil (P := Tryz.prog) wx 33 40 (some ad) n c 0 0 Tryz.underlying33
  go_enter Tryz.func111, Tryz.ntmps111
  go_wp2_with (at_builtin; refine wpList_append_any _ rfl (.tmp 5) (.tmp 6) 33 rfl w.heap.size 40 i0 _ 6 104 Tryz.underlying33 hi hz0 hz1 hz2 rfl (by omega) (.slice (some ⟨w.heap.size, 0, none⟩) 0 0) 0 [] rfl hr0 w.heap.size (some ad) n c xs rfl hrd h1 (by simp only [maxLen]; omega) (by omega) hB0.size ?_; intro v1 w1 hown1 hg1 _; have hB1 := hB0.grown hg1 hB0.size (fun k hk => (hr0.lt k hk).1))
  go_ret
  rw [Nat.zero_add, List.nil_append] at hown1
  obtain ⟨A', c', rfl⟩ := own_form hown1
  exact ⟨⟨A', c'⟩, rfl, hown1, hB1⟩
theorem infoDecl : (Tryz.prog.info? 60).map (fun i => (i.zero, i.size, i.bytes)) = some (some (.agg #[.string ⟨#[]⟩, .int .i64 0, .int .i64 0]), 3, 32) := by kernel_rfl
set_option maxRecDepth 100000 in
theorem cloneDecl (l : Loc) (n : Nat) (xs : List Value) (w : World) (h0 : RowIn w 3 l n xs) (h1 : ∀ u ∈ xs, u.oneCell' = true) (hn : n ≤ 1000000) :
  Calls Tryz.prog 97 #[.slice l.A n l.c] w fun e w' => ∃ l' : Loc, e = .returned (.slice l'.A n l'.c) ∧ w'.ownsRow w.heap.size 60 3 (.slice l'.A n l'.c) n xs ∧ Below w.heap.size w w' := by
 have h := h0.reads (by omega)
 clear h0
 obtain ⟨A, c⟩ := l
 dsimp only at h ⊢
 cases A with
 | none =>
  have hn0 : n = 0 := by
   rcases Nat.eq_zero_or_pos n with h0 | h0
   ·exact h0
   ·obtain ⟨ad, e, _⟩ := h.2 h0
    cases e
  have hx0 : xs = [] := List.eq_nil_of_length_eq_zero (by rw [h.1, hn0])
  subst hn0
  subst hx0
  have hq := fun wx => Lib.run_eql_slice_nil (P := Tryz.prog) wx 24 60 none 0 c 0 0 Tryz.underlying24
  go_enter Tryz.func97, Tryz.ntmps97
  go_wp2
  go_ret
  exact ⟨⟨none, 0⟩, rfl, World.ownsRow_nil _ _ _ _, Below.refl _ _⟩
 | some ad =>
  obtain ⟨i0, hi, hz0, hz1, hz2⟩ := info_parts infoDecl
  have hr0 : (w.alloc (.cells #[] 60)).ownsRow w.heap.size 60 3 (.slice (some ⟨w.heap.size, 0, none⟩) 0 0) 0 [] := World.ownsRow_made w #[] 0 (Nat.le_refl _) (by unfold maxLen; omega) rfl
  have hB0 := (Below.refl w.heap.size w).alloc (Nat.le_refl _) (.cells #[] 60)
  have hrd : Reads (w.alloc (.cells #[] 60)) w.heap.size 3 (some ad) n xs := ⟨h.1, fun hn => by
   obtain ⟨ad', e, hb, hc⟩ := h.2 hn
   exact ⟨ad', e, hb, fun j u hu => cell_later hB0 (hc j u hu)⟩⟩
  have hq := fun wx => Lib.run_eql_slice_nil (P := Tryz.prog) wx 24 60 (some ad) n c 0 0 Tryz.underlying24
  go_enter Tryz.func97, Tryz.ntmps97
  go_wp2_with (at_builtin; refine wpList_append_any _ rfl (.tmp 5) (.tmp 6) 24 rfl w.heap.size 60 i0 _ 3 32 Tryz.underlying24 hi hz0 hz1 hz2 rfl (by omega) (.slice (some ⟨w.heap.size, 0, none⟩) 0 0) 0 [] rfl hr0 w.heap.size (some ad) n c xs rfl hrd h1 (by simp only [maxLen]; omega) (by omega) hB0.size ?_; intro v1 w1 hown1 hg1 _; have hB1 := hB0.grown hg1 hB0.size (fun k hk => (hr0.lt k hk).1))
  go_ret
  rw [Nat.zero_add, List.nil_append] at hown1
  obtain ⟨A', c', rfl⟩ := own_form hown1
  exact ⟨⟨A', c'⟩, rfl, hown1, hB1⟩
theorem infoInit : (Tryz.prog.info? 62).map (fun i => (i.zero, i.size, i.bytes)) = some (some (.agg #[.int .i64 0, .int .u8 0, .int .u8 0, .int .u32 0, .int .i64 0, .string ⟨#[]⟩, .slice none 0 0]), 7, 64) := by kernel_rfl
set_option maxRecDepth 100000 in
theorem cloneInit (l : Loc) (n : Nat) (xs : List Value) (w : World) (h0 : RowIn w 7 l n xs) (h1 : ∀ u ∈ xs, u.oneCell' = true) (hn : n ≤ 1000000) :
  Calls Tryz.prog 98 #[.slice l.A n l.c] w fun e w' => ∃ l' : Loc, e = .returned (.slice l'.A n l'.c) ∧ w'.ownsRow w.heap.size 62 7 (.slice l'.A n l'.c) n xs ∧ Below w.heap.size w w' := by
 have h := h0.reads (by omega)
 clear h0
 obtain ⟨A, c⟩ := l
 dsimp only at h ⊢
 cases A with
 | none =>
  have hn0 : n = 0 := by
   rcases Nat.eq_zero_or_pos n with h0 | h0
   ·exact h0
   ·obtain ⟨ad, e, _⟩ := h.2 h0
    cases e
  have hx0 : xs = [] := List.eq_nil_of_length_eq_zero (by rw [h.1, hn0])
  subst hn0
  subst hx0
  have hq := fun wx => Lib.run_eql_slice_nil (P := Tryz.prog) wx 31 62 none 0 c 0 0 Tryz.underlying31
  go_enter Tryz.func98, Tryz.ntmps98
  go_wp2
  go_ret
  exact ⟨⟨none, 0⟩, rfl, World.ownsRow_nil _ _ _ _, Below.refl _ _⟩
 | some ad =>
  obtain ⟨i0, hi, hz0, hz1, hz2⟩ := info_parts infoInit
  have hr0 : (w.alloc (.cells #[] 62)).ownsRow w.heap.size 62 7 (.slice (some ⟨w.heap.size, 0, none⟩) 0 0) 0 [] := World.ownsRow_made w #[] 0 (Nat.le_refl _) (by unfold maxLen; omega) rfl
  have hB0 := (Below.refl w.heap.size w).alloc (Nat.le_refl _) (.cells #[] 62)
  have hrd : Reads (w.alloc (.cells #[] 62)) w.heap.size 7 (some ad) n xs := ⟨h.1, fun hn => by
   obtain ⟨ad', e, hb, hc⟩ := h.2 hn
   exact ⟨ad', e, hb, fun j u hu => cell_later hB0 (hc j u hu)⟩⟩
  have hq := fun wx => Lib.run_eql_slice_nil (P := Tryz.prog) wx 31 62 (some ad) n c 0 0 Tryz.underlying31
  go_enter Tryz.func98, Tryz.ntmps98
  go_wp2_with (at_builtin; refine wpList_append_any _ rfl (.tmp 5) (.tmp 6) 31 rfl w.heap.size 62 i0 _ 7 64 Tryz.underlying31 hi hz0 hz1 hz2 rfl (by omega) (.slice (some ⟨w.heap.size, 0, none⟩) 0 0) 0 [] rfl hr0 w.heap.size (some ad) n c xs rfl hrd h1 (by simp only [maxLen]; omega) (by omega) hB0.size ?_; intro v1 w1 hown1 hg1 _; have hB1 := hB0.grown hg1 hB0.size (fun k hk => (hr0.lt k hk).1))
  go_ret
  rw [Nat.zero_add, List.nil_append] at hown1
  obtain ⟨A', c', rfl⟩ := own_form hown1
  exact ⟨⟨A', c'⟩, rfl, hown1, hB1⟩
theorem infoProc : (Tryz.prog.info? 64).map (fun i => (i.zero, i.size, i.bytes)) = some (some (.agg #[.string ⟨#[]⟩, .slice none 0 0, .slice none 0 0]), 3, 64) := by kernel_rfl
set_option maxRecDepth 100000 in
theorem cloneProc (l : Loc) (n : Nat) (xs : List Value) (w : World) (h0 : RowIn w 3 l n xs) (h1 : ∀ u ∈ xs, u.oneCell' = true) (hn : n ≤ 1000000) :
  Calls Tryz.prog 99 #[.slice l.A n l.c] w fun e w' => ∃ l' : Loc, e = .returned (.slice l'.A n l'.c) ∧ w'.ownsRow w.heap.size 64 3 (.slice l'.A n l'.c) n xs ∧ Below w.heap.size w w' := by
 have h := h0.reads (by omega)
 clear h0
 obtain ⟨A, c⟩ := l
 dsimp only at h ⊢
 cases A with
 | none =>
  have hn0 : n = 0 := by
   rcases Nat.eq_zero_or_pos n with h0 | h0
   ·exact h0
   ·obtain ⟨ad, e, _⟩ := h.2 h0
    cases e
  have hx0 : xs = [] := List.eq_nil_of_length_eq_zero (by rw [h.1, hn0])
  subst hn0
  subst hx0
  have hq := fun wx => Lib.run_eql_slice_nil (P := Tryz.prog) wx 32 64 none 0 c 0 0 Tryz.underlying32
  go_enter Tryz.func99, Tryz.ntmps99
  go_wp2
  go_ret
  exact ⟨⟨none, 0⟩, rfl, World.ownsRow_nil _ _ _ _, Below.refl _ _⟩
 | some ad =>
  obtain ⟨i0, hi, hz0, hz1, hz2⟩ := info_parts infoProc
  have hr0 : (w.alloc (.cells #[] 64)).ownsRow w.heap.size 64 3 (.slice (some ⟨w.heap.size, 0, none⟩) 0 0) 0 [] := World.ownsRow_made w #[] 0 (Nat.le_refl _) (by unfold maxLen; omega) rfl
  have hB0 := (Below.refl w.heap.size w).alloc (Nat.le_refl _) (.cells #[] 64)
  have hrd : Reads (w.alloc (.cells #[] 64)) w.heap.size 3 (some ad) n xs := ⟨h.1, fun hn => by
   obtain ⟨ad', e, hb, hc⟩ := h.2 hn
   exact ⟨ad', e, hb, fun j u hu => cell_later hB0 (hc j u hu)⟩⟩
  have hq := fun wx => Lib.run_eql_slice_nil (P := Tryz.prog) wx 32 64 (some ad) n c 0 0 Tryz.underlying32
  go_enter Tryz.func99, Tryz.ntmps99
  go_wp2_with (at_builtin; refine wpList_append_any _ rfl (.tmp 5) (.tmp 6) 32 rfl w.heap.size 64 i0 _ 3 64 Tryz.underlying32 hi hz0 hz1 hz2 rfl (by omega) (.slice (some ⟨w.heap.size, 0, none⟩) 0 0) 0 [] rfl hr0 w.heap.size (some ad) n c xs rfl hrd h1 (by simp only [maxLen]; omega) (by omega) hB0.size ?_; intro v1 w1 hown1 hg1 _; have hB1 := hB0.grown hg1 hB0.size (fun k hk => (hr0.lt k hk).1))
  go_ret
  rw [Nat.zero_add, List.nil_append] at hown1
  obtain ⟨A', c', rfl⟩ := own_form hown1
  exact ⟨⟨A', c'⟩, rfl, hown1, hB1⟩
end Go.Proofs.YtnldbplphgfpeaaGreat
namespace Go.Proofs.YtnldbplphgfpeaaGreat
open Go Go.RowKit Go.Shelf
set_option linter.unusedVariables false
set_option linter.unusedSimpArgs false
theorem takeH {P : Program} {md : Region.Mode} {L : List Oper} {Q : Exit → Act → World → Prop} {S : World → Prop} (i : Nat) {oi : Oper} {v : Value} {fuel : Nat} {listed : Array Bool} {a : Act} {w : World} (hi : L[i]? = some oi)
  (hs : Region.noSelect L.toArray = true) (hf : Region.free md L.toArray listed i = true) (hr : (Region.ready md L.toArray listed).contains i = true)
  (hQ : ∀ c a w, Q (.panic c) (a.put oi.dst v) w → Q (.panic c) a w) (hw : Region.wanted oi (yielded L.toArray a.tmps) = true) (hS : S w) (hv : ∀ w, S w → (execOp a.eval oi).run P w = .ok (.value v) w)
  (h : wpAnyH P md L.toArray Q S fuel (listed.setIfInBounds i true) (a.put oi.dst v) w) : wpAnyH P md L.toArray Q S (fuel + 1) listed a w :=
 wpAnyH_take (by simpa using hi) hs hf hr hQ (Or.inl ⟨hw, hv⟩) hS h
theorem callH {P : Program} {md : Region.Mode} {L : List Oper} {Q : Exit → Act → World → Prop} {S : World → Prop} (i : Nat) {oi : Oper} {fuel : Nat} {listed : Array Bool} {a : Act} {w : World} (hi : L[i]? = some oi)
  (hr : Region.ready md L.toArray listed = [i])
  (h : ∀ K' : Act → World → Prop, Shut (∀ a w, S w → (S w → wpAnyH P md L.toArray Q S fuel (listed.setIfInBounds i true) a w) → K' a w) → if Region.wanted oi (yielded L.toArray a.tmps) = true then Oper.wp P oi a w K' Q else K' (a.put oi.dst undef) w) : wpAnyH P md L.toArray Q S (fuel + 1) listed a w :=
 wpAnyH_ready hr (by simp) (AllReadyH.cons (by simpa using hi) h AllReadyH.nil)
theorem there_six {w : World} {base e c g n k : Nat} {pre post : List Value} {o0 o1 o2 o3 o4 o5 : Value} (h : w.ownsRow base e 6 (.slice (some ⟨g, 0, none⟩) n c) n (pre ++ o0 :: o1 :: o2 :: o3 :: o4 :: o5 :: post)) (hi : pre.length = k) : w.there g k 6 := by
 obtain ⟨⟨h0, h1, h2, h3, h4, h5⟩, hf, _⟩ := own_six h hi
 intro j hj
 refine ⟨?_, hf _⟩
 have : j = 0 ∨ j = 1 ∨ j = 2 ∨ j = 3 ∨ j = 4 ∨ j = 5 := by omega
 rcases this with rfl | rfl | rfl | rfl | rfl | rfl
 ·rw [Nat.add_zero, h0]; rfl
 ·rw [h1]; rfl
 ·rw [h2]; rfl
 ·rw [h3]; rfl
 ·rw [h4]; rfl
 ·rw [h5]; rfl
theorem wp_store_six {P : Program} {op : Oper} {a : Act} {w : World} {K : Act → World → Prop} {Q : Exit → Act → World → Prop} (ty : TypeId) (x y : Operand) (ho : op.op = .store ty x y) (g i : Nat) (u0 u1 u2 u3 u4 u5 : Value)
  (hx : a.eval x = .pointer (some ⟨g, i, none⟩)) (hy : a.eval y = .agg #[u0, u1, u2, u3, u4, u5]) (ht : w.there g i 6) (hi : (P.info? ty).map (·.size) = some 6)
  (h1 : #[u0, u1, u2, u3, u4, u5].all (·.oneCell') = true)
  (h : K (a.put op.dst undef) ((((((w.setCell ⟨g, i, none⟩ u0).setCell ⟨g, i + 1, none⟩ u1).setCell ⟨g, i + 2, none⟩ u2).setCell ⟨g, i + 3, none⟩ u3).setCell ⟨g, i + 4, none⟩ u4).setCell ⟨g, i + 5, none⟩ u5)) : op.wp P a w K Q :=
 wp_store_mid ty x y ho g i _ hx hy ht hi h1 h
end Go.Proofs.YtnldbplphgfpeaaGreat
