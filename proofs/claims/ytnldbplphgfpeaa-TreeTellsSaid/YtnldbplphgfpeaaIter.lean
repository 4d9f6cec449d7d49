/- Ranges over functions: what an invariant must bear; the marks of the loops that were left. -/
import Derived.RangeFuncNested
import Derived.RangeFuncBound
import Derived.RangeFuncCalls
import Derived.RangeFuncLeaves
import Derived.RangeFuncBox
import Derived.Shelf.Abstract
import Derived.Shelf.RegionOpen
import Derived.WalkKit
import Derived.OwnWalkIn
import Derived.TacticsInMore
import Derived.LoopNIn
import Derived.LoopIn
import Derived.Test.YtnldbplphgfpeaaMem
namespace Go.Proofs.Ytnldbplphgfpeaa
open Go Go.RowKit Go.Shelf
set_option linter.unusedVariables false
set_option linter.unusedSimpArgs false
/-- All cells, and all that lies below B, lie as they lay. -/
structure CellsKept (B : Nat) (W W' : World) : Prop where
  os : W'.os = W.os
  tape : W'.tape = W.tape
  output : W'.output = W.output
  size : W.heap.size ≤ W'.heap.size
  same : ∀ k o, W.heap[k]? = some o → (o.isCells = true ∨ k < B) → W'.heap[k]? = some o
section
variable {B : Nat} {W W' W'' : World}
theorem CellsKept.refl (B : Nat) (W : World) : CellsKept B W W := ⟨rfl, rfl, rfl, Nat.le_refl _, fun _ _ h _ => h⟩
theorem CellsKept.trans (h : CellsKept B W W') (k : CellsKept B W' W'') : CellsKept B W W'' :=
  ⟨k.os.trans h.os, k.tape.trans h.tape, k.output.trans h.output, Nat.le_trans h.size k.size, fun i o hi ho => k.same i o (h.same i o hi ho) ho⟩
theorem CellsKept.mono {B' : Nat} (h : CellsKept B W W') (hB : B' ≤ B) : CellsKept B' W W' :=
  ⟨h.os, h.tape, h.output, h.size, fun k o hk ho => h.same k o hk (ho.elim .inl (fun x => .inr (by omega)))⟩
theorem cellsKept_of_grown {row : Option Nat} (hg : W.grownBy W' row) (hr : ∀ r, row = some r → B ≤ r ∧ ∃ o : Obj, W.heap[r]? = some o ∧ o.isCells = false) : CellsKept B W W' := by
  refine ⟨hg.os, hg.tape, hg.output, hg.size, fun k o hk ho => ?_⟩
  refine (hg.block k (Array.getElem?_eq_some_iff.1 hk).1 (fun e => ?_)).trans hk
  obtain ⟨h1, o', h2, h3⟩ := hr k e.symm
  rw [hk] at h2
  cases h2
  rcases ho with ho | ho
  · rw [ho] at h3; cases h3
  · omega
theorem ownFrom_of {β : Type} {I : β → World → Prop} (h : ∀ s W W', CellsKept B W W' → I s W → I s W') : OwnFrom B I :=
  fun s W W' row hs hg hr => h s W W' (cellsKept_of_grown hg hr) hs
theorem CellsKept.putObj (W : World) {l : Nat} {o : Obj} (o' : Obj) (hl : W.heap[l]? = some o) (ho : o.isCells = false) (hB : B ≤ l) : CellsKept B W (W.putObj l o') :=
  cellsKept_of_grown (grownBy_putObj' W l o') (fun r e => by cases e; exact ⟨hB, o, hl, ho⟩)
theorem Blk.ck {g : Nat} {t : TypeId} {cs : Array Value} (h : Blk W g t cs) (k : CellsKept B W W') : Blk W' g t cs := k.same g _ h (.inl rfl)
theorem own_ck {base : Nat} {e : TypeId} {size : Nat} {v : Value} {n : Nat} {xs : List Value} (h : W.ownsRow base e size v n xs) (k : CellsKept B W W') : W'.ownsRow base e size v n xs := by
  refine ⟨h.1, ?_⟩
  rcases h.2 with hn' | ⟨g, cap, cur, rfl, hb, hgg, rest⟩
  · exact .inl hn'
  · exact .inr ⟨g, cap, cur, rfl, hb, k.same g _ hgg (.inl rfl), rest⟩
theorem below_ck {n₀ : Nat} {w₀ : World} (h : Below n₀ w₀ W) (hn : n₀ ≤ w₀.heap.size) (k : CellsKept B W W') (hB : n₀ ≤ B) : Below n₀ w₀ W' := by
  refine ⟨k.os.trans h.os, k.tape.trans h.tape, k.output.trans h.output, Nat.le_trans h.size k.size, fun i hi => ?_⟩
  have h1 : i < W.heap.size := by have := h.size; omega
  have h2 : W.heap[i]? = some W.heap[i] := Array.getElem?_eq_getElem h1
  rw [k.same i _ h2 (.inr (by omega)), ← h2]
  exact h.block i hi
theorem cell_ck {a : Addr} {v : Value} (h : W.cell? a = some v) (k : CellsKept B W W') : W'.cell? a = some v := by
  obtain ⟨o, ho, hc⟩ := cells_of_cell h
  rw [World.cell?_of_block (w := W) ((k.same _ _ ho (.inl hc)).trans ho.symm)]; exact h
theorem Reads.ck {C size n : Nat} {A : Option Addr} {xs : List Value} (h : Reads W C size A n xs) (k : CellsKept B W W') : Reads W' C size A n xs :=
  ⟨h.1, fun hn => by
    obtain ⟨ad, e, hb, hc⟩ := h.2 hn
    exact ⟨ad, e, hb, fun j u hu => cell_ck (hc j u hu) k⟩⟩
theorem KeepsFrom.of_only {fp : List Nat} (h : Only fp W W') (hf : ∀ k o, k ∈ fp → W.heap[k]? = some o → o.isCells = true) : KeepsFrom B W W' := by
  refine ⟨h.size, fun k o hB hk ho => (h.block k (Array.getElem?_eq_some_iff.1 hk).1 (fun hm => ?_)).trans hk⟩
  rw [hf k o hm hk] at ho
  cases ho
theorem KeepsFrom.of_below (h : Below W.heap.size W W') : KeepsFrom B W W' :=
  ⟨h.size, fun k o hB hk ho => (h.block k (Array.getElem?_eq_some_iff.1 hk).1).trans hk⟩
theorem blk_cells {g : Nat} {t : TypeId} {cs : Array Value} {o : Obj} (h : Blk W g t cs) (ho : W.heap[g]? = some o) : o.isCells = true := by
  unfold Blk at h
  rw [h] at ho
  cases ho
  rfl
theorem own_cells {base : Nat} {e : TypeId} {size : Nat} {v : Value} {n k : Nat} {xs : List Value} {o : Obj} (h : W.ownsRow base e size v n xs) (hk : v.ownBlock = some k) (ho : W.heap[k]? = some o) : o.isCells = true := by
  rcases h.2 with ⟨rfl, _⟩ | ⟨g, cap, cur, rfl, hb, hgg, rest⟩
  · simp [Value.ownBlock] at hk
  · obtain rfl : g = k := by simpa [Value.ownBlock] using hk
    rw [hgg] at ho
    cases ho
    rfl
theorem own_form {base : Nat} {e : TypeId} {size : Nat} {v : Value} {n : Nat} {xs : List Value} (h : W.ownsRow base e size v n xs) : ∃ A c, v = .slice A n c := by
  rcases h.2 with ⟨rfl, rfl⟩ | ⟨g, cap, cur, rfl, _⟩
  · exact ⟨_, _, rfl⟩
  · exact ⟨_, _, rfl⟩
/-- The marks of loops over functions that were left, each with its block. -/
def Marks (B : Nat) (W : World) : List Deferred → Prop
  | [] => True
  | d :: ds => (∃ D, d = { target := .collected D, args := #[] } ∧ B ≤ D ∧ W.heap[D]? = some (.deferred (some [])) ∧ ∀ D', ({ target := .collected D', args := #[] } : Deferred) ∈ ds → D' < D) ∧ Marks B W ds
theorem Marks.keep : ∀ {ds : List Deferred}, Marks B W ds → (∀ D, B ≤ D → ({ target := .collected D, args := #[] } : Deferred) ∈ ds → W'.heap[D]? = W.heap[D]?) → Marks B W' ds
  | [], _, _ => trivial
  | d :: ds, ⟨⟨D, e, hB, hD, hlt⟩, hr⟩, hk => ⟨⟨D, e, hB, (hk D hB (by rw [e]; simp)).trans hD, hlt⟩, Marks.keep hr (fun D' hB' hm => hk D' hB' (by simp [hm]))⟩
theorem Marks.lt : ∀ {ds : List Deferred} {D : Nat}, Marks B W ds → ({ target := .collected D, args := #[] } : Deferred) ∈ ds → D < W.heap.size ∧ B ≤ D ∧ W.heap[D]? = some (.deferred (some []))
  | [], _, _, h => by cases h
  | d :: ds, D, ⟨⟨D', e, hB, hD, hlt⟩, hr⟩, hm => by
    rcases List.mem_cons.1 hm with h | h
    · rw [e] at h
      cases h
      exact ⟨(Array.getElem?_eq_some_iff.1 hD).1, hB, hD⟩
    · exact Marks.lt hr h
theorem Marks.ck {ds : List Deferred} (h : Marks B W ds) {C : Nat} (k : CellsKept C W W') (hC : W.heap.size ≤ C) : Marks B W' ds :=
  h.keep (fun D _ hm => by
    obtain ⟨h1, _, h3⟩ := h.lt hm
    rw [h3]
    exact k.same D _ h3 (.inr (by omega)))
theorem Marks.only {ds : List Deferred} (h : Marks B W ds) {fp : List Nat} (ho : Only fp W W') (hf : ∀ k o, k ∈ fp → W.heap[k]? = some o → o.isCells = true) : Marks B W' ds :=
  h.keep (fun D _ hm => by
    obtain ⟨h1, _, h3⟩ := h.lt hm
    refine ho.block D h1 (fun hm' => ?_)
    have := hf D _ hm' h3
    cases this)
theorem Marks.push {ds : List Deferred} (h : Marks B W ds) {D : Nat} (hB : B ≤ D) (hD : W.heap[D]? = some (.deferred (some []))) (hlt : ∀ D', ({ target := .collected D', args := #[] } : Deferred) ∈ ds → D' < D) :
    Marks B W ({ target := .collected D, args := #[] } :: ds) := ⟨⟨D, rfl, hB, hD, hlt⟩, h⟩
/-- At a function's end: the marks are taken over, one by one. -/
theorem leaves_marks {F : Fence} {n : Nat} {P : Program} {fn : Func} {tmps : Array Value} {R : Ending → World → Prop} : ∀ {ds : List Deferred} {W : World}, Marks B W ds →
    (∀ W', CellsKept B W W' → LeavesInM F n P fn tmps R [] .returning W') → LeavesInM F n P fn tmps R ds .returning W
  | [], W, _, h => h W (CellsKept.refl _ _)
  | d :: ds, W, ⟨⟨D, e, hB, hD, hlt⟩, hr⟩, h => by
    subst e
    refine ⟨by simp, .inl ⟨_, _, rfl, run_takeDeferred hD, ?_⟩⟩
    have hk : CellsKept B W (W.putObj D (.deferred none)) := CellsKept.putObj W _ hD rfl hB
    refine leaves_marks (hr.keep (fun D' _ hm => World.putObj_heap_other (by have := hlt D' hm; omega))) (fun W' hk' => h W' (hk.trans hk'))
end
end Go.Proofs.Ytnldbplphgfpeaa
