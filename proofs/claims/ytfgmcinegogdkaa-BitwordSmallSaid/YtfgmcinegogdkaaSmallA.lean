/- BitwordSmall: the walk. -/
import Derived.Test.YtfgmcinegogdkaaTells
import Derived.Test.YtfgmcinegogdkaaNames
namespace Go.Proofs.Ytfgmcinegogdkaa
open Go.RowKit
set_option linter.unusedVariables false
set_option linter.unusedSimpArgs false
set_option maxHeartbeats 4000000
/-- Cells of a row that are numbers between two bounds. -/
def RowI (kd : IntKind) (lo hi : Int) (W : World) (B n : Nat) : Prop := B < W.heap.size ∧ ∀ k, k < n → ∃ v, W.cell? ⟨B, k, none⟩ = some (.int kd v) ∧ lo ≤ v ∧ v ≤ hi
theorem RowI.keep {kd : IntKind} {lo hi : Int} {W W' : World} {B n : Nat} (h : RowI kd lo hi W B n) (hb : Below W.heap.size W W') : RowI kd lo hi W' B n := by
  refine ⟨Nat.lt_of_lt_of_le h.1 hb.size, fun k hk => ?_⟩
  obtain ⟨v, hv, b1, b2⟩ := h.2 k hk
  exact ⟨v, (hb.cell (p := ⟨B, k, none⟩) h.1).trans hv, b1, b2⟩
theorem rowI_alloc (kd : IntKind) (lo hi : Int) (w : World) (L : List Int) (t : TypeId) (h : ∀ v ∈ L, lo ≤ v ∧ v ≤ hi) : RowI kd lo hi (w.alloc (.cells (L.map (Value.int kd)).toArray t)) w.heap.size L.length := by
  refine ⟨by simp, fun k hk => ?_⟩
  rw [World.cell?_alloc_at _ _ _ _ rfl]
  refine ⟨L[k], ?_, h _ (List.getElem_mem hk)⟩
  simp [hk]
def RowS (W : World) (B n : Nat) : Prop := B < W.heap.size ∧ ∀ k, k < n → ∃ v, W.cell? ⟨B, k, none⟩ = some (.string v)
theorem RowS.keep {W W' : World} {B n : Nat} (h : RowS W B n) (hb : Below W.heap.size W W') : RowS W' B n := by
  refine ⟨Nat.lt_of_lt_of_le h.1 hb.size, fun k hk => ?_⟩
  obtain ⟨v, hv⟩ := h.2 k hk
  exact ⟨v, (hb.cell (p := ⟨B, k, none⟩) h.1).trans hv⟩
def RowB (W : World) (B n : Nat) : Prop := ∃ c : Array Value, W.heap[B]? = some (.cells c 4 (0, 0)) ∧ ∀ k, k < n → ∃ t, c[k]? = some (.bool t)
theorem RowB.lt {W : World} {B n : Nat} (h : RowB W B n) : B < W.heap.size := by
  obtain ⟨c, hc, _⟩ := h
  exact (Array.getElem?_eq_some_iff.1 hc).1
theorem RowB.keep {W W' : World} {B n : Nat} (h : RowB W B n) (hb : Below W.heap.size W W') : RowB W' B n := by
  have hl := h.lt
  obtain ⟨c, hc, h2⟩ := h
  exact ⟨c, (hb.block B hl).trans hc, h2⟩
theorem RowB.frozen {W : World} {B n k : Nat} (h : RowB W B n) : W.frozen? ⟨B, k, none⟩ = false := by
  obtain ⟨c, hc, h2⟩ := h
  exact frozen_block hc
theorem RowB.cell {W : World} {B n k : Nat} (h : RowB W B n) (hk : k < n) : ∃ t, W.cell? ⟨B, k, none⟩ = some (.bool t) := by
  obtain ⟨c, hc, h2⟩ := h
  rw [cell_block hc]; exact h2 k hk
theorem RowB.set {W : World} {B n k : Nat} (h : RowB W B n) (hk : k < n) (t : Bool) : RowB (W.setCell ⟨B, k, none⟩ (.bool t)) B n := by
  obtain ⟨c, hc, h2⟩ := h
  refine ⟨c.setIfInBounds k (.bool t), heap_setCell_same W B k c 4 _ hc, fun j hj => ?_⟩
  rw [Array.getElem?_setIfInBounds]
  obtain ⟨u, hu⟩ := h2 k hk
  have hsz : k < c.size := (Array.getElem?_eq_some_iff.1 hu).1
  by_cases e : k = j
  · subst e; rw [if_pos rfl, if_pos hsz]; exact ⟨_, rfl⟩
  · rw [if_neg e]; exact h2 j hj
theorem RowB.func {W : World} {B n : Nat} (h : RowB W B n) : ∃ f : Nat → Bool, ∀ j, j < n → W.cell? ⟨B, 0 + j, none⟩ = some (.bool (f j)) := by
  obtain ⟨c, hc, h2⟩ := h
  refine ⟨fun j => match c[j]? with | some (.bool t) => t | _ => false, fun j hj => ?_⟩
  obtain ⟨t, ht⟩ := h2 j hj
  rw [Nat.zero_add, cell_block hc, ht]
  simp only [ht]
theorem names_row (op : Int) (s : ByteArray) (two : Bool) (B n : Nat) (h0 : 0 ≤ op) (h1 : op ≤ 255) (hl : n ≤ 18) (w : World) (h : RowB w B n) :
    Calls Try.prog 17 #[.int .u8 op, .string s, .bool two, .slice (some ⟨B, 0, none⟩) n n] w fun e w' => e = .returned (.bool true) ∧ Below w.heap.size w w' := by
  refine names_gen op s two _ n n h0 h1 (by omega) w ?_
  by_cases hb : n < 1 ∨ 16 < n
  · exact .inl hb
  · obtain ⟨f, hf⟩ := h.func
    exact .inr ⟨by omega, by omega, B, 0, f, rfl, h.lt, hf⟩
end Go.Proofs.Ytfgmcinegogdkaa
