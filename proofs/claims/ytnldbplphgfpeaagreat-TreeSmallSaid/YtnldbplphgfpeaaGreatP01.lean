/- Lemmas for salvor/salvorlaw29.TreeSmall (part 1); no condition. -/
import Derived.Test.YtnldbplphgfpeaaGreatP00
namespace Go.Proofs.YtnldbplphgfpeaaGreat
open Go Go.RowKit Go.Shelf
set_option linter.unusedVariables false
set_option linter.unusedSimpArgs false
def KeepsOn (S : Nat → Prop) (w w' : World) : Prop := ∀ (p : Addr) u, S p.block → w.cell? p = some u → w'.cell? p = some u
theorem cell_lt {w : World} {p : Addr} {u : Value} (h : w.cell? p = some u) : p.block < w.heap.size := by
 obtain ⟨o, ho, _⟩ := cells_of_cell h
 exact (Array.getElem?_eq_some_iff.1 ho).1
section
variable {w w' w'' : World} {S T : Nat → Prop}
theorem keeps_below (h : Below w.heap.size w w') : KeepsOn (fun _ => True) w w' := fun p u _ hp => (h.cell (cell_lt hp)).trans hp
theorem keeps_only {fp : List Nat} (h : Only fp w w') : KeepsOn (fun b => b ∉ fp) w w' := fun p u hs hp => (h.cell (cell_lt hp) hs).trans hp
end
theorem below_and {w W W' : World} (h : Below w.heap.size w W) (k : Below W.heap.size W W') : Below w.heap.size w W' := h.trans (k.mono h.size)
def CellsAt (w : World) (p : Addr) (cs : List Value) : Prop := ∀ j u, cs[j]? = some u → w.cell? (p.add j) = some u
theorem CellsAt.keep {w w' : World} {S : Nat → Prop} {p : Addr} {cs : List Value} (h : CellsAt w p cs) (k : KeepsOn S w w') (hs : S p.block) : CellsAt w' p cs :=
 fun j u hu => k _ _ (by rw [block_of_add]; exact hs) (h j u hu)
theorem addr_add (p : Addr) (j : Nat) (hj : j ≠ 0) : p.add j = ⟨p.block, p.off + j, none⟩ := by unfold Addr.add; rw [if_neg hj]
theorem CellsAt.one {w : World} {p : Addr} {a : Value} {r : List Value} (h : CellsAt w p (a :: r)) : w.cell? p = some a := h 0 a rfl
theorem CellsAt.nth {w : World} {p : Addr} {cs : List Value} (h : CellsAt w p cs) {j : Nat} {u : Value} (hj : j ≠ 0) (hu : cs[j]? = some u) : w.cell? ⟨p.block, p.off + j, none⟩ = some u := by
 rw [← addr_add p j hj]; exact h j u hu
theorem CellsAt.c6 {w : World} {p : Addr} {a b c d e f : Value} (h : CellsAt w p [a, b, c, d, e, f]) : w.cell? p = some a ∧ w.cell? ⟨p.block, p.off + 1, none⟩ = some b ∧
  w.cell? ⟨p.block, p.off + 2, none⟩ = some c ∧ w.cell? ⟨p.block, p.off + 3, none⟩ = some d ∧ w.cell? ⟨p.block, p.off + 4, none⟩ = some e ∧ w.cell? ⟨p.block, p.off + 5, none⟩ = some f :=
 ⟨h.one, h.nth (by omega) rfl, h.nth (by omega) rfl, h.nth (by omega) rfl, h.nth (by omega) rfl, h.nth (by omega) rfl⟩
theorem CellsAt.c3 {w : World} {p : Addr} {a b c : Value} (h : CellsAt w p [a, b, c]) : w.cell? p = some a ∧ w.cell? ⟨p.block, p.off + 1, none⟩ = some b ∧ w.cell? ⟨p.block, p.off + 2, none⟩ = some c :=
 ⟨h.one, h.nth (by omega) rfl, h.nth (by omega) rfl⟩
def RowIn (w : World) (sz : Nat) (l : Loc) (n : Nat) (xs : List Value) : Prop :=
 xs.length = n * sz ∧ n ≤ l.c ∧ l.c ≤ 9223372036854775807 ∧ (0 < n → ∃ ad, l.A = some ad ∧ CellsAt w ad xs)
def Loc.blk (l : Loc) (n : Nat) : List Nat := if n = 0 then [] else match l.A with | none => [] | some ad => [ad.block]
theorem RowIn.blk {w : World} {sz n : Nat} {l : Loc} {xs : List Value} (h : RowIn w sz l n xs) (hn : 0 < n) : ∃ ad, l.A = some ad ∧ l.blk n = [ad.block] ∧ CellsAt w ad xs := by
 obtain ⟨ad, ha, hc⟩ := h.2.2.2 hn
 refine ⟨ad, ha, ?_, hc⟩
 unfold Loc.blk
 rw [if_neg (by omega), ha]
theorem RowIn.keep {w w' : World} {S : Nat → Prop} {sz n : Nat} {l : Loc} {xs : List Value} (h : RowIn w sz l n xs) (k : KeepsOn S w w') (hs : ∀ b ∈ l.blk n, S b) : RowIn w' sz l n xs := by
 refine ⟨h.1, h.2.1, h.2.2.1, fun hn => ?_⟩
 obtain ⟨ad, ha, hb, hc⟩ := h.blk hn
 exact ⟨ad, ha, hc.keep k (hs _ (by rw [hb]; simp))⟩
theorem RowIn.reads {w : World} {sz n : Nat} {l : Loc} {xs : List Value} (h : RowIn w sz l n xs) (hsz : 0 < sz) : Reads w w.heap.size sz l.A n xs := by
 refine ⟨h.1, fun hn => ?_⟩
 obtain ⟨ad, ha, hc⟩ := h.2.2.2 hn
 have h0 : 0 < xs.length := by rw [h.1]; exact Nat.mul_pos hn hsz
 exact ⟨ad, ha, cell_lt (hc 0 _ (List.getElem?_eq_getElem h0)), hc⟩
theorem RowIn.of_own {w : World} {base e sz n c : Nat} {A : Option Addr} {xs : List Value} (h : w.ownsRow base e sz (.slice A n c) n xs) (hc : n ≤ c) (hm : c ≤ 9223372036854775807) : RowIn w sz ⟨A, c⟩ n xs := by
 refine ⟨h.1, hc, hm, fun hn => ?_⟩
 obtain ⟨ad, ha, _, hcells⟩ := (Reads.of_own h).2 hn
 exact ⟨ad, ha, hcells⟩
theorem own_cap {w : World} {base e sz n c : Nat} {A : Option Addr} {xs : List Value} (h : w.ownsRow base e sz (.slice A n c) n xs) : n ≤ c ∧ c ≤ 9223372036854775807 := by
 have hml : maxLen ≤ 9223372036854775807 := by decide
 rcases h.2 with ⟨h1, rfl⟩ | ⟨g, cap, cur, h1, h2, h3, h4, h5, h6, h7⟩
 ·injection h1 with _ _ h1
  subst h1
  exact ⟨Nat.le_refl _, by omega⟩
 ·injection h1 with _ _ h1
  subst h1
  exact ⟨by omega, by omega⟩
theorem RowIn.at {α : Type} {w : World} {sz : Nat} {l : Loc} {f : α → List Value} (hf : ∀ x, (f x).length = sz) {xs : List α} (h : RowIn w sz l xs.length (xs.flatMap f)) {k : Nat} {x : α} (hx : xs[k]? = some x) :
  ∃ ad, l.A = some ad ∧ l.blk xs.length = [ad.block] ∧ k < xs.length ∧ CellsAt w (ad.add (k * sz)) (f x) := by
 have hk := (List.getElem?_eq_some_iff.1 hx).1
 obtain ⟨ad, ha, hb, hc⟩ := h.blk (by omega)
 refine ⟨ad, ha, hb, hk, fun j u hu => ?_⟩
 rw [add_of_add]
 refine hc _ u ?_
 clear h hc hb ha
 induction xs generalizing k with
 | nil => cases hx
 | cons y xs ih =>
  rw [List.flatMap_cons]
  cases k with
  | zero =>
   simp at hx
   subst hx
   rw [Nat.zero_mul, Nat.zero_add, List.getElem?_append_left (List.getElem?_eq_some_iff.1 hu).1]
   exact hu
  | succ k =>
   rw [List.getElem?_append_right (by rw [hf, Nat.succ_mul]; omega), hf, show (k + 1) * sz + j - sz = k * sz + j by rw [Nat.succ_mul]; omega]
   exact ih (by simpa using hx) (by simpa using hk)
structure Enc where
 k1 : IntKind
 k2 : IntKind
 k3 : IntKind
 tE : TypeId
 tS : TypeId
def eT : Enc := ⟨.u8, .u8, .u32, 30, 40⟩
def eR : Enc := ⟨.i64, .i64, .i64, 70, 131⟩
def Ex.cells (E : Enc) : Ex Loc → List Value
 | .mk h l s => [.int E.k1 h.kd, .int E.k2 h.op, .int E.k3 h.va, .int .i64 h.wd, .string h.nm, .slice l.A s.length l.c]
def cellsL (E : Enc) (s : List (Ex Loc)) : List Value := s.flatMap (Ex.cells E)
def St.cells (E : Enc) : St Loc → List Value
 | .mk h lx lt le ex th el => [.int E.k1 h.kd, .string h.nm, .slice lx.A ex.length lx.c, .int .i64 h.bd, .slice lt.A th.length lt.c, .slice le.A el.length le.c]
def cellsS (E : Enc) (s : List (St Loc)) : List Value := s.flatMap (St.cells E)
theorem Ex.cells_len (E : Enc) (x : Ex Loc) : (x.cells E).length = 6 := by cases x; rfl
theorem St.cells_len (E : Enc) (x : St Loc) : (x.cells E).length = 6 := by cases x; rfl
theorem cellsL_len (E : Enc) (s : List (Ex Loc)) : (cellsL E s).length = s.length * 6 := by
 induction s with
 | nil => rfl
 | cons x s ih => simp only [cellsL, List.flatMap_cons, List.length_append, List.length_cons, Ex.cells_len] at ih ⊢; omega
theorem cellsS_len (E : Enc) (s : List (St Loc)) : (cellsS E s).length = s.length * 6 := by
 induction s with
 | nil => rfl
 | cons x s ih => simp only [cellsS, List.flatMap_cons, List.length_append, List.length_cons, St.cells_len] at ih ⊢; omega
theorem Ex.cells_one (E : Enc) (x : Ex Loc) : ∀ u ∈ x.cells E, u.oneCell' = true := by
 cases x
 intro u hu
 simp only [Ex.cells, List.mem_cons, List.not_mem_nil, or_false] at hu
 rcases hu with rfl | rfl | rfl | rfl | rfl | rfl <;> rfl
theorem St.cells_one (E : Enc) (x : St Loc) : ∀ u ∈ x.cells E, u.oneCell' = true := by
 cases x
 intro u hu
 simp only [St.cells, List.mem_cons, List.not_mem_nil, or_false] at hu
 rcases hu with rfl | rfl | rfl | rfl | rfl | rfl <;> rfl
theorem cellsL_one (E : Enc) (s : List (Ex Loc)) : ∀ u ∈ cellsL E s, u.oneCell' = true := fun u hu => by
 obtain ⟨x, _, hx⟩ := List.mem_flatMap.1 hu
 exact x.cells_one E u hx
theorem cellsS_one (E : Enc) (s : List (St Loc)) : ∀ u ∈ cellsS E s, u.oneCell' = true := fun u hu => by
 obtain ⟨x, _, hx⟩ := List.mem_flatMap.1 hu
 exact x.cells_one E u hx
mutual
def Ex.ok (E : Enc) (w : World) : Ex Loc → Prop
 | .mk _ l s => RowIn w 6 l s.length (cellsL E s) ∧ oks E w s
def oks (E : Enc) (w : World) : List (Ex Loc) → Prop
 | [] => True
 | x :: r => x.ok E w ∧ oks E w r
end
mutual
def St.ok (E : Enc) (w : World) : St Loc → Prop
 | .mk _ lx lt le ex th el => RowIn w 6 lx ex.length (cellsL E ex) ∧ oks E w ex ∧ RowIn w 6 lt th.length (cellsS E th) ∧ okS E w th ∧ RowIn w 6 le el.length (cellsS E el) ∧ okS E w el
def okS (E : Enc) (w : World) : List (St Loc) → Prop
 | [] => True
 | x :: r => x.ok E w ∧ okS E w r
end
mutual
def Ex.blks : Ex Loc → List Nat
 | .mk _ l s => l.blk s.length ++ blkss s
def blkss : List (Ex Loc) → List Nat
 | [] => []
 | x :: r => x.blks ++ blkss r
end
mutual
def St.blks : St Loc → List Nat
 | .mk _ lx lt le ex th el => lx.blk ex.length ++ blkss ex ++ (lt.blk th.length ++ blkS th ++ (le.blk el.length ++ blkS el))
def blkS : List (St Loc) → List Nat
 | [] => []
 | x :: r => x.blks ++ blkS r
end
section
variable {E : Enc} {w w' : World} {S : Nat → Prop}
theorem oks_iff : ∀ {l : List (Ex Loc)}, oks E w l ↔ ∀ x ∈ l, x.ok E w
 | [] => by simp [oks]
 | x :: r => by simp [oks, oks_iff (l := r)]
theorem okS_iff : ∀ {l : List (St Loc)}, okS E w l ↔ ∀ x ∈ l, x.ok E w
 | [] => by simp [okS]
 | x :: r => by simp [okS, okS_iff (l := r)]
theorem blkss_iff : ∀ {l : List (Ex Loc)} {b : Nat}, b ∈ blkss l ↔ ∃ x ∈ l, b ∈ x.blks
 | [], b => by simp [blkss]
 | x :: r, b => by simp [blkss, blkss_iff (l := r)]
theorem blkS_iff : ∀ {l : List (St Loc)} {b : Nat}, b ∈ blkS l ↔ ∃ x ∈ l, b ∈ x.blks
 | [], b => by simp [blkS]
 | x :: r, b => by simp [blkS, blkS_iff (l := r)]
theorem oks_at {l : List (Ex Loc)} (h : oks E w l) {k : Nat} {x : Ex Loc} (hx : l[k]? = some x) : x.ok E w := oks_iff.1 h x (List.mem_of_getElem? hx)
theorem okS_at {l : List (St Loc)} (h : okS E w l) {k : Nat} {x : St Loc} (hx : l[k]? = some x) : x.ok E w := okS_iff.1 h x (List.mem_of_getElem? hx)
theorem Ex.ok.keep (k : KeepsOn S w w') : ∀ {e : Ex Loc}, e.ok E w → (∀ b ∈ e.blks, S b) → e.ok E w' := by
 intro e
 induction e using Ex.ind with
 | h hd l subs ih =>
  rintro ⟨h1, h2⟩ hb
  simp only [Ex.blks, List.mem_append] at hb
  refine ⟨h1.keep k (fun b hm => hb b (.inl hm)), oks_iff.2 fun x hx => ih x hx (oks_iff.1 h2 x hx) (fun b hm => hb b (.inr (blkss_iff.2 ⟨x, hx, hm⟩)))⟩
theorem oks_keep (k : KeepsOn S w w') {l : List (Ex Loc)} (h : oks E w l) (hb : ∀ b ∈ blkss l, S b) : oks E w' l :=
 oks_iff.2 fun x hx => (oks_iff.1 h x hx).keep k (fun b hm => hb b (blkss_iff.2 ⟨x, hx, hm⟩))
theorem St.ok.keep (k : KeepsOn S w w') : ∀ {e : St Loc}, e.ok E w → (∀ b ∈ e.blks, S b) → e.ok E w' := by
 intro e
 induction e using St.ind with
 | h hd lx lt le ex th el ih1 ih2 =>
  rintro ⟨h1, h2, h3, h4, h5, h6⟩ hb
  simp only [St.blks, List.mem_append] at hb
  refine ⟨h1.keep k (fun b hm => hb b (.inl (.inl hm))), oks_keep k h2 (fun b hm => hb b (.inl (.inr hm))), h3.keep k (fun b hm => hb b (.inr (.inl (.inl hm)))),
   okS_iff.2 fun x hx => ih1 x hx (okS_iff.1 h4 x hx) (fun b hm => hb b (.inr (.inl (.inr (blkS_iff.2 ⟨x, hx, hm⟩))))), h5.keep k (fun b hm => hb b (.inr (.inr (.inl hm)))),
   okS_iff.2 fun x hx => ih2 x hx (okS_iff.1 h6 x hx) (fun b hm => hb b (.inr (.inr (.inr (blkS_iff.2 ⟨x, hx, hm⟩)))))⟩
theorem okS_keep (k : KeepsOn S w w') {l : List (St Loc)} (h : okS E w l) (hb : ∀ b ∈ blkS l, S b) : okS E w' l :=
 okS_iff.2 fun x hx => (okS_iff.1 h x hx).keep k (fun b hm => hb b (blkS_iff.2 ⟨x, hx, hm⟩))
theorem Ex.ok.all (k : KeepsOn (fun _ => True) w w') {e : Ex Loc} (h : e.ok E w) : e.ok E w' := h.keep k (fun _ _ => trivial)
theorem St.ok.all (k : KeepsOn (fun _ => True) w w') {e : St Loc} (h : e.ok E w) : e.ok E w' := h.keep k (fun _ _ => trivial)
theorem oks_all (k : KeepsOn (fun _ => True) w w') {l : List (Ex Loc)} (h : oks E w l) : oks E w' l := oks_keep k h (fun _ _ => trivial)
theorem okS_all (k : KeepsOn (fun _ => True) w w') {l : List (St Loc)} (h : okS E w l) : okS E w' l := okS_keep k h (fun _ _ => trivial)
theorem RowIn.all (k : KeepsOn (fun _ => True) w w') {sz n : Nat} {l : Loc} {xs : List Value} (h : RowIn w sz l n xs) : RowIn w' sz l n xs := h.keep k (fun _ _ => trivial)
theorem Ex.ok.below {e : Ex Loc} (h : e.ok E w) (hb : Below w.heap.size w w') : e.ok E w' := h.all (keeps_below hb)
theorem St.ok.below {e : St Loc} (h : e.ok E w) (hb : Below w.heap.size w w') : e.ok E w' := h.all (keeps_below hb)
def Lst.ok (E : Enc) (w : World) (l : Loc) (s : List (St Loc)) : Prop := RowIn w 6 l s.length (cellsS E s) ∧ okS E w s
def Lex.ok (E : Enc) (w : World) (l : Loc) (s : List (Ex Loc)) : Prop := RowIn w 6 l s.length (cellsL E s) ∧ oks E w s
theorem Lst.ok.all (k : KeepsOn (fun _ => True) w w') {l : Loc} {s : List (St Loc)} (h : Lst.ok E w l s) : Lst.ok E w' l s := ⟨h.1.all k, okS_all k h.2⟩
theorem Lex.ok.all (k : KeepsOn (fun _ => True) w w') {l : Loc} {s : List (Ex Loc)} (h : Lex.ok E w l s) : Lex.ok E w' l s := ⟨h.1.all k, oks_all k h.2⟩
theorem Lst.ok.keep (k : KeepsOn S w w') {l : Loc} {s : List (St Loc)} (h : Lst.ok E w l s) (hb : ∀ b ∈ l.blk s.length ++ blkS s, S b) : Lst.ok E w' l s :=
 ⟨h.1.keep k fun b hm => hb b (List.mem_append_left _ hm), okS_keep k h.2 fun b hm => hb b (List.mem_append_right _ hm)⟩
theorem St.ok.parts {h : SHd} {lx lt le : Loc} {ex : List (Ex Loc)} {th el : List (St Loc)} (k : (St.mk h lx lt le ex th el).ok E w) : Lex.ok E w lx ex ∧ Lst.ok E w lt th ∧ Lst.ok E w le el :=
 ⟨⟨k.1, k.2.1⟩, ⟨k.2.2.1, k.2.2.2.1⟩, ⟨k.2.2.2.2.1, k.2.2.2.2.2⟩⟩
theorem Lex.ok.at {l : Loc} {s : List (Ex Loc)} (h : Lex.ok E w l s) {k : Nat} {x : Ex Loc} (hx : s[k]? = some x) :
  ∃ ad, l.A = some ad ∧ l.blk s.length = [ad.block] ∧ k < s.length ∧ x.ok E w ∧ CellsAt w (ad.add (k * 6)) (x.cells E) := by
 obtain ⟨ad, h1, h2, h3, h4⟩ := RowIn.at (Ex.cells_len E) h.1 hx
 exact ⟨ad, h1, h2, h3, oks_at h.2 hx, h4⟩
theorem Lst.ok.at {l : Loc} {s : List (St Loc)} (h : Lst.ok E w l s) {k : Nat} {x : St Loc} (hx : s[k]? = some x) :
  ∃ ad, l.A = some ad ∧ l.blk s.length = [ad.block] ∧ k < s.length ∧ x.ok E w ∧ CellsAt w (ad.add (k * 6)) (x.cells E) := by
 obtain ⟨ad, h1, h2, h3, h4⟩ := RowIn.at (St.cells_len E) h.1 hx
 exact ⟨ad, h1, h2, h3, okS_at h.2 hx, h4⟩
theorem RowIn.lt {sz n : Nat} {l : Loc} {xs : List Value} (h : RowIn w sz l n xs) (hsz : 0 < sz) : ∀ b ∈ l.blk n, b < w.heap.size := by
 intro b hb
 rcases Nat.eq_zero_or_pos n with h0 | h0
 ·unfold Loc.blk at hb; rw [if_pos h0] at hb; cases hb
 ·obtain ⟨ad, ha, hb', hc⟩ := h.blk h0
  rw [hb'] at hb
  simp at hb
  subst hb
  have h0 : 0 < xs.length := by rw [h.1]; exact Nat.mul_pos h0 hsz
  have := cell_lt (hc 0 _ (List.getElem?_eq_getElem h0))
  rwa [block_of_add] at this
theorem Ex.ok.lt : ∀ {e : Ex Loc}, e.ok E w → ∀ b ∈ e.blks, b < w.heap.size := by
 intro e
 induction e using Ex.ind with
 | h hd l subs ih =>
  rintro ⟨h1, h2⟩ b hb
  simp only [Ex.blks, List.mem_append] at hb
  rcases hb with hb | hb
  ·exact h1.lt (by omega) b hb
  ·obtain ⟨x, hx, hm⟩ := blkss_iff.1 hb
   exact ih x hx (oks_iff.1 h2 x hx) b hm
theorem oks_lt {l : List (Ex Loc)} (h : oks E w l) : ∀ b ∈ blkss l, b < w.heap.size := fun b hb => by
 obtain ⟨x, hx, hm⟩ := blkss_iff.1 hb
 exact (oks_iff.1 h x hx).lt b hm
theorem St.ok.lt : ∀ {e : St Loc}, e.ok E w → ∀ b ∈ e.blks, b < w.heap.size := by
 intro e
 induction e using St.ind with
 | h hd lx lt le ex th el ih1 ih2 =>
  rintro ⟨h1, h2, h3, h4, h5, h6⟩ b hb
  simp only [St.blks, List.mem_append] at hb
  rcases hb with (hb | hb) | (hb | hb) | hb | hb
  ·exact h1.lt (by omega) b hb
  ·exact oks_lt h2 b hb
  ·exact h3.lt (by omega) b hb
  ·obtain ⟨x, hx, hm⟩ := blkS_iff.1 hb
   exact ih1 x hx (okS_iff.1 h4 x hx) b hm
  ·exact h5.lt (by omega) b hb
  ·obtain ⟨x, hx, hm⟩ := blkS_iff.1 hb
   exact ih2 x hx (okS_iff.1 h6 x hx) b hm
theorem okS_lt {l : List (St Loc)} (h : okS E w l) : ∀ b ∈ blkS l, b < w.heap.size := fun b hb => by
 obtain ⟨x, hx, hm⟩ := blkS_iff.1 hb
 exact (okS_iff.1 h x hx).lt b hm
end
end Go.Proofs.YtnldbplphgfpeaaGreat
namespace Go.Proofs.YtnldbplphgfpeaaGreat
open Go Go.RowKit Go.Shelf
set_option linter.unusedVariables false
set_option linter.unusedSimpArgs false
def Seq3 {α : Type} (P : Program) (gf : Nat) (lb : Array Value) (encs : α → Array Value) (Rd : List α → World → Prop) (X : List α → World → α → Prop) (E : List α → World → Prop) : Prop :=
 ∀ (n l : Nat) (J : List Nat → List α → World → Prop) (Jx : List α → World → Prop) (W : World) (fp : List Nat),
  (∀ fp, OwnFrom W.heap.size (J fp)) → OwnFrom W.heap.size Jx → (∀ fp pre W1, J fp pre W1 → Rd pre W1) → (∀ fp pre W1, J fp pre W1 → ∀ k, k ∈ fp → k < W1.heap.size) →
  (∀ m fp pre x W1, J fp pre W1 → X pre W1 x → YieldAt Fence.wide m P l (encs x) W1 fun e W' =>
   (e = .returned (.bool true) ∧ (∃ fp', J fp' (pre ++ [x]) W' ∧ ∀ k, k ∈ fp' → k ∈ fp ∨ W1.heap.size ≤ k) ∧ Only fp W1 W') ∨ (e = .returned (.bool false) ∧ Jx (pre ++ [x]) W' ∧ ∃ fx, (∀ k, k ∈ fx → k < W.heap.size) ∧ Only (fx ++ fp) W1 W')) →
  J fp [] W →
  CallsIn Fence.wide n P gf (#[.func (.yield l) #[] #[]] ++ lb) W fun e W' => (∃ v, e = .returned v) ∧ ((∃ fp xs, E xs W' ∧ J fp xs W') ∨ (∃ pre, Jx pre W'))
def updB (T : Array Value) (p q : Nat) (v : Value) (N : Nat) : Act := { tmps := (T.setIfInBounds p v).setIfInBounds q (.pointer (some ⟨N, 0, none⟩)), defers := [] }
def AxB {α : Type} (t : TypeId) (cs : α → Array Value) (v : α → Value) (p q : Nat) (X : List α → α → Prop) (T : Array Value) (pre : List α) (x : α) (a' : Act) (W : World) : Prop :=
 ∃ N, a' = updB T p q (v x) N ∧ Blk W N t (cs x) ∧ X pre x
theorem own_axB {α : Type} {B : Nat} {t : TypeId} {cs : α → Array Value} {v : α → Value} {p q : Nat} {X : List α → α → Prop} {T : Array Value} (pre : List α) (x : α) (a' : Act) : OwnFrom B (fun (_ : Unit) W => AxB t cs v p q X T pre x a' W) :=
 ownFrom_of fun _ W W' k ⟨N, h1, h2, h3⟩ => ⟨N, h1, h2.ck k, h3⟩
theorem leaves_own {β : Type} {B : Nat} {I : β → World → Prop} (hO : OwnFrom B I) {s : β} {F : Fence} {n : Nat} {P : Program} {fn : Func} {tmps : Array Value} {R : Ending → World → Prop} : ∀ {ds : List Deferred} {W : World}, Marks B W ds → I s W →
  (∀ W', I s W' → LeavesInM F n P fn tmps R [] .returning W') → LeavesInM F n P fn tmps R ds .returning W
 | [], W, _, hi, h => h W hi
 | d :: ds, W, ⟨⟨D, e, hB, hD, hlt⟩, hr⟩, hi, h => by
  subst e
  refine ⟨by simp, .inl ⟨_, _, rfl, run_takeDeferred hD, ?_⟩⟩
  exact leaves_own hO (hr.keep (fun D' _ hm => World.putObj_heap_other (by have := hlt D' hm; omega))) (own_put hO _ hi hB hD rfl) h
section
variable {P : Program} {n : Nat}
theorem wpIn_range3 {α : Type} {g : Operand} {ps : Array Tmp} {assign body : Code} {Q : Exit → Act → World → Prop} {a : Act} {w : World}
  {gf : Nat} {lb : Array Value} (hg : a.eval g = .func (.func gf) #[] lb) (eg : ∀ args w, (callFunc gf args).run P w = .ok (.enter gf args) w)
  {encs : α → Array Value} {Rd : List α → World → Prop} {X : List α → World → α → Prop} {E : List α → World → Prop} (hseq : Seq3 P gf lb encs Rd X E) (hps : ∀ x, (encs x).size = ps.size)
  (I : List Nat → List α → World → Prop) (Ix : Code → List α → World → Prop) (hI : ∀ fp, OwnFrom w.heap.size (I fp)) (hIx : ∀ c, OwnFrom w.heap.size (Ix c)) (hRd : ∀ fp pre W, I fp pre W → Rd pre W)
  (hfp : ∀ fp pre W, I fp pre W → ∀ k, k ∈ fp → k < W.heap.size) (fp0 : List Nat) (h0 : I fp0 [] w) (Ax : Array Value → List α → α → Act → World → Prop) (hAx : ∀ pre x a', OwnFrom w.heap.size (fun (_ : Unit) W => Ax a.tmps pre x a' W))
  (hassign : ∀ (l m : Nat) (fp : List Nat) (pre : List α) (x : α) (W : World) (K : Act → World → Prop), I fp pre W → X pre W x → (∀ a' W', Only [] W W' → I fp pre W' → Ax a.tmps pre x a' W' → K a' W') →
   assign.wpIn (Fence.wide.inRound l) m P (Exit.then K (fun _ _ _ => False)) { tmps := (ps.zip (encs x)).foldl (fun t (p, v) => t.setIfInBounds p v) a.tmps, defers := [] } W)
  (hbody : ∀ (l m : Nat) (fp : List Nat) (pre : List α) (x : α) (a' : Act) (W : World), I fp pre W → Ax a.tmps pre x a' W → body.wpIn (Fence.wide.inRound l) m P (rpost w.heap.size fp I Ix (pre ++ [x]) W) a' W)
  (hdone : ∀ (D : Nat) (fp : List Nat) (xs : List α) (W : World), w.heap.size ≤ D → E xs W → I fp xs W → D ∉ fp → W.heap[D]? = some (.deferred (some [])) → Q .normal { a with defers := { target := .collected D, args := #[] } :: a.defers } W)
  (hE : ∀ xs (W : World) (l : Nat) (o o' : Obj), w.heap.size ≤ l → W.heap[l]? = some o → o.isCells = false → E xs W → E xs (W.putObj l o'))
  (hstop : ∀ (D : Nat) (c : Code) (pre : List α) (W : World), w.heap.size ≤ D → Ix c pre W → W.heap[D]? = some (.deferred (some [])) → c.wpIn Fence.wide n P Q { a with defers := { target := .collected D, args := #[] } :: a.defers } W) :
  (Code.rangeFunc g ps assign body).wpIn Fence.wide n P Q a w := by
 refine wpIn_rangeFunc ?_
 intro fn hfn
 rw [show Fence.wide.round = none from rfl]
 obtain ⟨rec, hrec⟩ : ∃ rec : LoopState → Option Code → Loop, rec = fun st pe => { state := st, pending := pe, fn, tmps := a.tmps, params := ps, assign, body, defers := w.heap.size } := ⟨_, rfl⟩
 have hs1 : ((w.alloc (.deferred (some []))).alloc (.loop (rec .ready none))).heap.size = w.heap.size + 2 := by simp
 have hL1 : ((w.alloc (.deferred (some []))).alloc (.loop (rec .ready none))).heap[w.heap.size + 1]? = some (.loop (rec .ready none)) := by
  have := World.alloc_heap_new (w.alloc (.deferred (some []))) (.loop (rec .ready none)); rwa [World.size_alloc] at this
 have hK1 : ((w.alloc (.deferred (some []))).alloc (.loop (rec .ready none))).heap[w.heap.size]? = some (.deferred (some [])) :=
  (Below.heap_alloc _ _ _ (by simp)).trans (World.alloc_heap_new w _)
 have hI1 : I fp0 [] ((w.alloc (.deferred (some []))).alloc (.loop (rec .ready none))) := (hI fp0).alloc _ ((hI fp0).alloc _ h0)
 generalize hW1 : (w.alloc (.deferred (some []))).alloc (.loop (rec .ready none)) = W1 at hs1 hL1 hK1 hI1
 refine ⟨w.heap.size + 1, [{ target := .collected w.heap.size, args := #[] }], W1, { target := .fn (.func gf) lb, args := #[.func (.yield (w.heap.size + 1)) #[] #[]] }, W1, gf,
  #[.func (.yield (w.heap.size + 1)) #[] #[]] ++ lb, W1, ?_, ?_, ?_, ?_, fun h => by simp [Fence.wide] at h, ?_⟩
 ·rw [← hW1, hrec]; exact run_enterLoop_outer _ _ _ _ _
 ·simp only [resolve, hg]
  simp [go_sem]
 ·intro f' hf'; simp [Target.leads] at hf'; subst hf'; trivial
 ·simp [invoke, go_sem, eg]
 ·clear hW1
  refine (hseq (n - 1) (w.heap.size + 1)
   (fun fp pre W => I fp pre W ∧ W.heap[w.heap.size + 1]? = some (.loop (rec .ready none)) ∧ W.heap[w.heap.size]? = some (.deferred (some [])) ∧ w.heap.size + 1 ∉ fp ∧ w.heap.size ∉ fp)
   (fun pre W => ∃ c, Ix c pre W ∧ W.heap[w.heap.size + 1]? = some (.loop (rec .done (some c))) ∧ W.heap[w.heap.size]? = some (.deferred (some [])))
   W1 fp0
   (fun fp s A B row hs hg' hr => ⟨hI fp s A B row hs.1 hg' (fun r e => ⟨by have := (hr r e).1; omega, (hr r e).2⟩),
    (hg'.block _ (Array.getElem?_eq_some_iff.1 hs.2.1).1 (fun e => by have := (hr _ e.symm).1; omega)).trans hs.2.1,
    (hg'.block _ (Array.getElem?_eq_some_iff.1 hs.2.2.1).1 (fun e => by have := (hr _ e.symm).1; omega)).trans hs.2.2.1, hs.2.2.2⟩)
   (fun s A B row hs hg' hr => by
    obtain ⟨c, hc, hl, hk⟩ := hs
    exact ⟨c, hIx c s A B row hc hg' (fun r e => ⟨by have := (hr r e).1; omega, (hr r e).2⟩),
     (hg'.block _ (Array.getElem?_eq_some_iff.1 hl).1 (fun e => by have := (hr _ e.symm).1; omega)).trans hl,
     (hg'.block _ (Array.getElem?_eq_some_iff.1 hk).1 (fun e => by have := (hr _ e.symm).1; omega)).trans hk⟩)
   (fun fp pre W h => hRd fp pre W h.1) (fun fp pre W h => hfp fp pre W h.1) ?_
   ⟨hI1, hL1, hK1, fun hm => by have := hfp _ _ _ h0 _ hm; omega, fun hm => by have := hfp _ _ _ h0 _ hm; omega⟩).mono ?_
  ·rintro m fp pre x W ⟨hi, hl, hk, hn1, hn2⟩ hX
   have hlt : w.heap.size + 1 < W.heap.size := (Array.getElem?_eq_some_iff.1 hl).1
   have hy := run_yield (P := P) (args := encs x) hl (by rw [hrec]; exact hps x)
   rw [hrec] at hy
   refine ⟨fn, _, assign, body, hy, roundIn_of_wpIn hfn (hassign _ _ fp pre x W _ hi hX ?_)⟩
   clear hy
   intro a' Wa hoa hia hax
   have hla : Wa.heap[w.heap.size + 1]? = some (.loop (rec .ready none)) := (hoa.block _ (by omega) (by simp)).trans hl
   have hka : Wa.heap[w.heap.size]? = some (.deferred (some [])) := (hoa.block _ (by omega) (by simp)).trans hk
   have hsa := hoa.size
   refine ⟨_, run_beginRound hla (by rw [hrec]), ?_⟩
   have hib := own_put (hI fp) (.loop { rec .ready none with state := .busy }) hia (by omega) hla rfl
   have haxb := own_put (hAx pre x a') (s := ()) (.loop { rec .ready none with state := .busy }) hax (by omega) hla rfl
   refine wpIn_mono (hbody _ _ fp pre x a' _ hib haxb) ?_
   have fin : ∀ (fq : List Nat), w.heap.size + 1 ∉ fq → w.heap.size ∉ fq → ∀ (jump : Option Code) (W3 : World), Only fq (Wa.putObj (w.heap.size + 1) (.loop { rec .ready none with state := .busy })) W3 →
     (Instr.endRound (w.heap.size + 1) jump).run P W3 = .ok (.bool jump.isNone) (W3.putObj (w.heap.size + 1) (.loop (rec (if jump.isNone then .ready else .done) jump))) ∧
     W3.heap[w.heap.size + 1]? = some (.loop { rec .ready none with state := .busy }) ∧
     (W3.putObj (w.heap.size + 1) (.loop (rec (if jump.isNone then .ready else .done) jump))).heap[w.heap.size + 1]? = some (.loop (rec (if jump.isNone then .ready else .done) jump)) ∧
     (W3.putObj (w.heap.size + 1) (.loop (rec (if jump.isNone then .ready else .done) jump))).heap[w.heap.size]? = some (.deferred (some [])) := fun fq hq1 hq2 jump W3 ho3 => by
    have hl3 : W3.heap[w.heap.size + 1]? = some (.loop { rec .ready none with state := .busy }) := by
     rw [ho3.block _ (by simp; omega) hq1]; exact World.putObj_heap_same (by omega)
    have hk3 : W3.heap[w.heap.size]? = some (.deferred (some [])) := by
     rw [ho3.block _ (by simp; omega) hq2, World.putObj_heap_other (by omega)]; exact hka
    have := run_endRound (P := P) jump hl3
    rw [hrec] at this ⊢
    exact ⟨this, by rw [hrec] at hl3; exact hl3, World.putObj_heap_same (Array.getElem?_eq_some_iff.1 hl3).1, (World.putObj_heap_other (by omega)).trans hk3⟩
   rintro e a3 W3 hp
   cases e with
   | normal =>
    obtain ⟨ho3, fp', hi3, hf3⟩ := hp
    obtain ⟨hr, hl3, hl4, hk4⟩ := fin _ hn1 hn2 none W3 ho3
    replace hf3 : ∀ k, k ∈ fp' → k ∈ fp ∨ Wa.heap.size ≤ k := fun k hk => by have := hf3 k hk; rwa [World.putObj_size] at this
    refine ⟨_, _, hr, .inl ⟨rfl, ⟨fp', ⟨own_put (hI fp') _ hi3 (by omega) hl3 rfl, hl4, hk4, fun hm => ?_, fun hm => ?_⟩, fun k hk' => ?_⟩, ?_⟩⟩
    ·rcases hf3 _ hm with h | h
     ·exact hn1 h
     ·omega
    ·rcases hf3 _ hm with h | h
     ·exact hn2 h
     ·omega
    ·rcases hf3 k hk' with h | h
     ·exact .inl h
     ·exact .inr (by omega)
    ·exact hoa.more (fq := fp) (by simp) |>.trans (only_round hla ho3)
   | ret =>
    obtain ⟨⟨fx, hfx, ho3⟩, hi3⟩ := hp
    have hx1 : w.heap.size + 1 ∉ fx ++ fp := fun hm => by
     rcases List.mem_append.1 hm with hm | hm
     ·have := hfx _ hm; omega
     ·exact hn1 hm
    have hx2 : w.heap.size ∉ fx ++ fp := fun hm => by
     rcases List.mem_append.1 hm with hm | hm
     ·have := hfx _ hm; omega
     ·exact hn2 hm
    obtain ⟨hr, hl3, hl4, hk4⟩ := fin _ hx1 hx2 (some .ret) W3 ho3
    refine ⟨_, _, hr, .inr ⟨rfl, ⟨.ret, own_put (hIx _) _ hi3 (by omega) hl3 rfl, hl4, hk4⟩, (w.heap.size + 1) :: fx, fun k hk => ?_, ?_⟩⟩
    ·rcases List.mem_cons.1 hk with rfl | hk
     ·omega
     ·have := hfx k hk; omega
    ·exact (hoa.more (fq := (w.heap.size + 1) :: fx ++ fp) (by simp)).trans (only_put ho3)
   | exit id =>
    obtain ⟨⟨fx, hfx, ho3⟩, hi3⟩ := hp
    have hx1 : w.heap.size + 1 ∉ fx ++ fp := fun hm => by
     rcases List.mem_append.1 hm with hm | hm
     ·have := hfx _ hm; omega
     ·exact hn1 hm
    have hx2 : w.heap.size ∉ fx ++ fp := fun hm => by
     rcases List.mem_append.1 hm with hm | hm
     ·have := hfx _ hm; omega
     ·exact hn2 hm
    obtain ⟨hr, hl3, hl4, hk4⟩ := fin _ hx1 hx2 (some (.exit id)) W3 ho3
    refine ⟨_, _, hr, .inr ⟨rfl, ⟨.exit id, own_put (hIx _) _ hi3 (by omega) hl3 rfl, hl4, hk4⟩, (w.heap.size + 1) :: fx, fun k hk => ?_, ?_⟩⟩
    ·rcases List.mem_cons.1 hk with rfl | hk
     ·omega
     ·have := hfx k hk; omega
    ·exact (hoa.more (fq := (w.heap.size + 1) :: fx ++ fp) (by simp)).trans (only_put ho3)
   | goto t =>
    obtain ⟨⟨fx, hfx, ho3⟩, hi3⟩ := hp
    have hx1 : w.heap.size + 1 ∉ fx ++ fp := fun hm => by
     rcases List.mem_append.1 hm with hm | hm
     ·have := hfx _ hm; omega
     ·exact hn1 hm
    have hx2 : w.heap.size ∉ fx ++ fp := fun hm => by
     rcases List.mem_append.1 hm with hm | hm
     ·have := hfx _ hm; omega
     ·exact hn2 hm
    obtain ⟨hr, hl3, hl4, hk4⟩ := fin _ hx1 hx2 (some (.goto t)) W3 ho3
    refine ⟨_, _, hr, .inr ⟨rfl, ⟨.goto t, own_put (hIx _) _ hi3 (by omega) hl3 rfl, hl4, hk4⟩, (w.heap.size + 1) :: fx, fun k hk => ?_, ?_⟩⟩
    ·rcases List.mem_cons.1 hk with rfl | hk
     ·omega
     ·have := hfx k hk; omega
    ·exact (hoa.more (fq := (w.heap.size + 1) :: fx ++ fp) (by simp)).trans (only_put ho3)
   | panic ch => exact hp.elim
   | outgrown => exact hp.elim
  ·rintro e W2 ⟨⟨v, rfl⟩, (⟨fp, xs, hE', hi, hl, hk, _, hnd⟩ | ⟨pre, c, hi, hl, hk⟩)⟩
   ·exact ⟨none, _, by have := run_endLoop (P := P) hl (by rw [hrec]; simp); rw [hrec] at this; exact this,
     hdone _ fp xs _ (Nat.le_refl _) (hE xs W2 _ _ _ (by omega) hl rfl hE') (own_put (hI fp) _ hi (by omega) hl rfl) hnd ((World.putObj_heap_other (by omega)).trans hk)⟩
   ·exact ⟨some c, _, by have := run_endLoop (P := P) hl (by rw [hrec]; simp); rw [hrec] at this; exact this,
     hstop _ c pre _ (Nat.le_refl _) (own_put (hIx c) _ hi (by omega) hl rfl) ((World.putObj_heap_other (by omega)).trans hk)⟩
theorem wpIn_range3_join {α : Type} {g : Operand} {ps : Array Tmp} {assign body : Code} {Q : Exit → Act → World → Prop} {a : Act} {w : World}
  {gf : Nat} {lb : Array Value} (hg : a.eval g = .func (.func gf) #[] lb) (eg : ∀ args w, (callFunc gf args).run P w = .ok (.enter gf args) w)
  {encs : α → Array Value} {Rd : List α → World → Prop} {X : List α → World → α → Prop} {E : List α → World → Prop} (hseq : Seq3 P gf lb encs Rd X E) (hps : ∀ x, (encs x).size = ps.size)
  (I : List Nat → List α → World → Prop) (Jx : List α → World → Prop) (hI : ∀ fp, OwnFrom w.heap.size (I fp)) (hJ : OwnFrom w.heap.size Jx) (hRd : ∀ fp pre W, I fp pre W → Rd pre W)
  (hfp : ∀ fp pre W, I fp pre W → ∀ k, k ∈ fp → k < W.heap.size) (fp0 : List Nat) (h0 : I fp0 [] w) (Ax : Array Value → List α → α → Act → World → Prop) (hAx : ∀ pre x a', OwnFrom w.heap.size (fun (_ : Unit) W => Ax a.tmps pre x a' W))
  (hassign : ∀ (l m : Nat) (fp : List Nat) (pre : List α) (x : α) (W : World) (K : Act → World → Prop), I fp pre W → X pre W x → (∀ a' W', Only [] W W' → I fp pre W' → Ax a.tmps pre x a' W' → K a' W') →
   assign.wpIn (Fence.wide.inRound l) m P (Exit.then K (fun _ _ _ => False)) { tmps := (ps.zip (encs x)).foldl (fun t (p, v) => t.setIfInBounds p v) a.tmps, defers := [] } W)
  (k : Nat) (hQ : ∀ a W, Q .normal a W → Q (.exit k) a W)
  (hbody : ∀ (l m : Nat) (fp : List Nat) (pre : List α) (x : α) (a' : Act) (W : World), I fp pre W → Ax a.tmps pre x a' W → body.wpIn (Fence.wide.inRound l) m P (rpost w.heap.size fp I (fun c xs W => c = .exit k ∧ Jx xs W) (pre ++ [x]) W) a' W)
  (Fin : World → Prop) (hdone : ∀ (fp : List Nat) (xs : List α) (W : World), E xs W → I fp xs W → Fin W)
  (hE : ∀ xs (W : World) (l : Nat) (o o' : Obj), w.heap.size ≤ l → W.heap[l]? = some o → o.isCells = false → E xs W → E xs (W.putObj l o'))
  (hstop : ∀ (xs : List α) (W : World), Jx xs W → Fin W)
  (hfin : ∀ (D : Nat) (W : World), w.heap.size ≤ D → Fin W → W.heap[D]? = some (.deferred (some [])) → Q .normal { a with defers := { target := .collected D, args := #[] } :: a.defers } W) :
  (Code.rangeFunc g ps assign body).wpIn Fence.wide n P Q a w :=
 wpIn_range3 hg eg hseq hps I (fun c xs W => c = .exit k ∧ Jx xs W) hI (fun _ s W W' row hs hgr hr => ⟨hs.1, hJ s W W' row hs.2 hgr hr⟩) hRd hfp fp0 h0 Ax hAx hassign hbody
  (fun D fp xs W hD hE' hI' _ hK => hfin D W hD (hdone fp xs W hE' hI') hK) hE
  (fun D c pre W hD h hK => by
   obtain ⟨rfl, hj⟩ := h
   exact wpIn_exit (hQ _ _ (hfin D W hD (hstop pre W hj) hK)))
end
end Go.Proofs.YtnldbplphgfpeaaGreat
