/- Bits: the iterator over the bits of a word; the list of them. -/
import Derived.RangeFuncNested
import Derived.RangeFuncBound
import Derived.RangeFuncCalls
import Derived.RangeFuncLeaves
import Derived.RangeFuncBox
import Derived.Shelf.Abstract
import Derived.Shelf.RegionOpen
import Derived.WalkKit
import Derived.OwnWalkIn
import Derived.TacticsInMore
import Derived.LoopNIn
import Derived.LoopIn
import Derived.Deep.OwnRows
import Derived.Test.YtfgmcinegogdkaaFind
namespace Go.Proofs.Ytfgmcinegogdkaa
open Go.RowKit Go.Shelf
set_option linter.unusedVariables false
attribute [local go_sem] Oper.semAt_some

theorem bits_in (n : Nat) (x m : Int) (w : World) : CallsIn Fence.wide n Try.prog 40 #[.int .u32 x, .int .i64 m] w fun e w' =>
    e = .returned (.func (.func 60) #[] #[.pointer (some ⟨w.heap.size + 1, 0, none⟩), .pointer (some ⟨w.heap.size, 0, none⟩)]) ∧ (w.alloc (.cells #[.int .u32 x] 24)).alloc (.cells #[.int .i64 m] 3) = w' := by
  refine callsIn_of_wp Try.func40 rfl trivial ?_ rfl
  simp only [Try.ntmps40, List.size_toArray, List.length_cons, List.length_nil, Nat.reduceAdd, Nat.reduceSub, Array.replicate_succ, Array.replicate_zero, List.push_toArray, List.append_toArray, List.nil_append, List.cons_append]
  gi_wp2
  go_ret
  exact ⟨rfl, rfl⟩

/-- What a round keeps for the iterator: the listed blocks lie as they lay. -/
def KeepB (bs : List Nat) (A B : World) : Prop := ∀ b, b ∈ bs → B.heap[b]? = A.heap[b]?
theorem KeepB.refl (bs : List Nat) (A : World) : KeepB bs A A := fun _ _ => rfl
theorem KeepB.trans {bs : List Nat} {A B C : World} (h : KeepB bs A B) (k : KeepB bs B C) : KeepB bs A C := fun b hb => (k b hb).trans (h b hb)
theorem keepB_b {bs : List Nat} {w : World} (hbs : ∀ b, b ∈ bs → b < w.heap.size) (W : World) (l : Nat) (o o' : Obj) (hl : w.heap.size ≤ l) (_ : W.heap[l]? = some o) (_ : o.isCells = false) (_ : o.isWalk = false) : KeepB bs W (W.putObj l o') :=
  fun b hb => World.putObj_heap_other (fun e => by have := hbs b hb; omega)
theorem KeepB.cell {bs : List Nat} {A B : World} (h : KeepB bs A B) {b j : Nat} (hb : b ∈ bs) : B.cell? ⟨b, j, none⟩ = A.cell? ⟨b, j, none⟩ := World.cell?_of_block (w := A) (h b hb)
theorem keepB_of_below {n : Nat} {A B : World} (h : Below n A B) {bs : List Nat} (hb : ∀ b, b ∈ bs → b < n) : KeepB bs A B := fun b hm => h.block b (hb b hm)
set_option maxRecDepth 100000 in
set_option maxHeartbeats 2000000 in
theorem bits1_in (n : Nat) (hn : 1 ≤ n) (l Bx Bm : Nat) (x : Int) (m : Nat) (hx : 0 ≤ x) (hx' : x ≤ 4294967295) (hm : m ≤ 16) (J Jx : List { j : Nat // j < m } → World → Prop)
    (hY : ∀ pre (y : { j : Nat // j < m }) W, J pre W → pre.length < m → YieldAt Fence.wide (n - 1) Try.prog l #[.int .i64 (y.1 : Int), .bool (bitW x y.1)] W fun e W' =>
      (e = .returned (.bool true) ∧ J (pre ++ [y]) W' ∧ KeepB [Bx] W W') ∨ (e = .returned (.bool false) ∧ Jx (pre ++ [y]) W'))
    (W : World) (hBm : W.cell? ⟨Bm, 0, none⟩ = some (.int .i64 m)) (hBx : W.cell? ⟨Bx, 0, none⟩ = some (.int .u32 x)) (h0 : J [] W) :
    CallsIn Fence.wide n Try.prog 60 #[.func (.yield l) #[] #[], .pointer (some ⟨Bm, 0, none⟩), .pointer (some ⟨Bx, 0, none⟩)] W fun e W' => (∃ v, e = .returned v) ∧
      ((∃ ys, ys.map (·.1) = List.range m ∧ J ys W') ∨ (∃ pre, True ∧ Jx pre W')) := by
  refine callsIn_of_wp Try.func60 rfl trivial ?_ rfl
  simp only [Try.ntmps60, List.size_toArray, List.length_cons, List.length_nil, Nat.reduceAdd, Nat.reduceSub, Array.replicate_succ, Array.replicate_zero, List.push_toArray, List.append_toArray, List.nil_append, List.cons_append]
  gi_wp2
  gi_loopw [6] (fun i wr => ∃ (k : Nat) (pre : List { j : Nat // j < m }), k ≤ m ∧ i = .int .i64 k ∧ pre.map (·.1) = List.range k ∧ J pre wr ∧ KeepB [Bx] W wr)
    (fun i _ => m - (intOf i).toNat)
  case atStart => exact ⟨0, [], Nat.zero_le _, rfl, rfl, h0, KeepB.refl _ _⟩
  case round =>
    obtain ⟨k, pre, hk, rfl, hpre, hJs, hnx⟩ := hrel
    have hpre := Lib.hid hpre
    have hcx : wr.cell? ⟨Bx, 0, none⟩ = some (.int .u32 x) := (hnx.cell (List.mem_singleton.2 rfl)).trans hBx
    by_cases hlt : k < m
    · obtain ⟨fn, tmps, assign, body, hy, hR⟩ := hY pre ⟨k, hlt⟩ wr hJs (by have := congrArg List.length hpre.out; simp at this; omega)
      dsimp only at hy
      gi_wp2_with (refine ⟨trivial, ?_⟩; gi_at_call 36; refine (callsIn_wide.2 (bit_any _ _ hx hx' (by omega) (by omega) _)).mono ?_; rintro e w' ⟨rfl, rfl⟩)
      refine hR.mono ?_
      rintro e W3 (⟨rfl, hJ3, hk3⟩ | ⟨rfl, hJx3⟩)
      · gi_wp2
        go_roundw
        case rel => exact ⟨k + 1, _, by omega, by simp, by rw [List.range_succ, List.map_append, hpre.out]; rfl, hJ3, hnx.trans hk3⟩
        case measure => simp [intOf]; omega
      · gi_wp2
        refine bodyPost_ret (results_none rfl _ _ _) rfl ?_
        exact ⟨⟨_, rfl⟩, .inr ⟨_, trivial, hJx3⟩⟩
    · obtain rfl : k = m := by omega
      gi_wp2
      go_end0
      exact ⟨⟨_, rfl⟩, .inl ⟨_, hpre.out, hJs⟩⟩

theorem bits_stops (n : Nat) (hn : 1 ≤ n) (Bx Bm : Nat) (x : Int) (m : Nat) (hx : 0 ≤ x) (hx' : x ≤ 4294967295) (hm : m ≤ 16) (w : World) (hBx : Bx < w.heap.size) (hBm : Bm < w.heap.size)
    (hc : w.cell? ⟨Bx, 0, none⟩ = some (.int .u32 x)) (hc2 : w.cell? ⟨Bm, 0, none⟩ = some (.int .i64 m)) :
    SeqStopsK Fence.wide n Try.prog 60 #[.pointer (some ⟨Bm, 0, none⟩), .pointer (some ⟨Bx, 0, none⟩)] (fun y : { j : Nat // j < m } => #[Value.int .i64 (y.1 : Int), Value.bool (bitW x y.1)]) (KeepB [Bx]) (fun ys => ys.map (·.1) = List.range m)
      (fun _ => True) m w := fun l J Jx W hW _ _ hY h0 =>
  bits1_in n hn l Bx Bm x m hx hx' hm J Jx hY W ((hW.cell (p := ⟨Bm, 0, none⟩) hBm).trans hc2) ((hW.cell (p := ⟨Bx, 0, none⟩) hBx).trans hc) h0

theorem block_kept {A B : World} {row : Option Nat} {b : Nat} {c : Array Value} {t : TypeId} {f : Nat × Nat} (h : A.heap[b]? = some (.cells c t f)) (hg : A.grownBy B row) (hr : ∀ r, row = some r → ∃ o : Obj, A.heap[r]? = some o ∧ o.isCells = false) : B.heap[b]? = some (.cells c t f) := by
  refine (hg.block b (Array.getElem?_eq_some_iff.1 h).1 (fun e => ?_)).trans h
  obtain ⟨o, ho, hc⟩ := hr b e.symm
  rw [h] at ho; cases ho; cases hc
theorem cell_block {A : World} {b j : Nat} {c : Array Value} {t : TypeId} {f : Nat × Nat} (h : A.heap[b]? = some (.cells c t f)) : A.cell? ⟨b, j, none⟩ = c[j]? := by
  simp [World.cell?, h]
theorem frozen_block {A : World} {b j : Nat} {c : Array Value} {t : TypeId} (h : A.heap[b]? = some (.cells c t (0, 0))) : A.frozen? ⟨b, j, none⟩ = false := by
  simp [World.frozen?, h]
theorem Try.info4 : (Try.prog.info? 4).map (fun i => (i.zero, i.size, i.bytes)) = some (some (.bool false), 1, 1) := by kernel_rfl

set_option maxRecDepth 100000 in
set_option maxHeartbeats 2000000 in
theorem bitsL_in (n : Nat) (hn : 3 ≤ n) (x : Int) (m : Nat) (hx : 0 ≤ x) (hx' : x ≤ 4294967295) (hm1 : 1 ≤ m) (hm : m ≤ 16) (w : World) :
    CallsIn Fence.wide n Try.prog 26 #[.int .u32 x, .int .i64 m] w fun e w' => ∃ g, e = .returned (.tuple #[.slice (some ⟨g, 0, none⟩) m m, .int .i64 0]) ∧ w.heap.size ≤ g ∧ g < w'.heap.size ∧
      (∀ j, j < m → w'.cell? ⟨g, j, none⟩ = some (.bool (bitW x j))) ∧ Below w.heap.size w w' := by
  have h1 : 1 ≤ n := by omega
  have hmk := run_make_row' (P := Try.prog) 35 4 (.bool false) 1 Try.underlying35 Try.info4 rfl .i64 .i64 m (by omega) (by omega)
  refine callsIn_of_wp_marks Try.func26 rfl trivial ?_ rfl
  simp only [Try.ntmps26, List.size_toArray, List.length_cons, List.length_nil, Nat.reduceAdd, Nat.reduceSub, Array.replicate_succ, Array.replicate_zero, List.push_toArray, List.append_toArray, List.nil_append, List.cons_append]
  gi_wp2_with (first | (refine ⟨trivial, ?_⟩; gi_at_call 13; refine (callsIn_wide.2 (most_ok _ _ (by omega) (by omega))).mono ?_; rintro e w' ⟨rfl, rfl⟩) | (refine ⟨trivial, ?_⟩; gi_at_call 40; refine (bits_in _ _ _ _).mono ?_; rintro e w' ⟨rfl, rfl⟩))
  obtain ⟨W4, hW4⟩ : ∃ W4, ((((w.alloc (Obj.cells (madeCells #[Value.bool false] m) 4)).alloc (Obj.cells #[Value.slice (some { block := w.heap.size, off := 0 }) m m] 35)).alloc (Obj.cells #[Value.int IntKind.u32 x] 24)).alloc (Obj.cells #[Value.int IntKind.i64 m] 3)) = W4 := ⟨_, rfl⟩
  have hsz : W4.heap.size = w.heap.size + 4 := by rw [← hW4]; simp
  have b0 : W4.heap[w.heap.size]? = some (.cells (madeCells #[Value.bool false] m) 4 (0, 0)) := by
    rw [← hW4]
    rw [Below.heap_alloc _ _ _ (by simp; omega), Below.heap_alloc _ _ _ (by simp; omega), Below.heap_alloc _ _ _ (by simp)]
    exact World.alloc_heap_new w _
  have b1 : W4.heap[w.heap.size + 1]? = some (.cells #[Value.slice (some { block := w.heap.size, off := 0 }) m m] 35 (0, 0)) := by
    rw [← hW4]
    rw [Below.heap_alloc _ _ _ (by simp), Below.heap_alloc _ _ _ (by simp)]
    have := World.alloc_heap_new (w.alloc (Obj.cells (madeCells #[Value.bool false] m) 4)) (Obj.cells #[Value.slice (some { block := w.heap.size, off := 0 }) m m] 35)
    rwa [World.size_alloc] at this
  have b2 : W4.cell? ⟨w.heap.size + 1 + 1, 0, none⟩ = some (.int .u32 x) := by rw [← hW4]; simp [go_sem]
  have b3 : W4.cell? ⟨w.heap.size + 1 + 1 + 1, 0, none⟩ = some (.int .i64 m) := by rw [← hW4]; simp [go_sem]
  have hB0 : Below w.heap.size w W4 := by rw [← hW4]; exact ((((Below.refl _ w).alloc (Nat.le_refl _) _).alloc (by simp) _).alloc (by simp; omega) _).alloc (by simp; omega) _
  rw [hW4]
  clear hW4
  refine wpIn_rangeFunc_ownG rfl h1 (gf := 60) (lb := #[.pointer (some ⟨w.heap.size + 1 + 1 + 1, 0, none⟩), .pointer (some ⟨w.heap.size + 1 + 1, 0, none⟩)]) rfl trivial (enters_of Try.func60 (by kernel_rfl) rfl)
    (bits_stops (n - 1) (by omega) (w.heap.size + 1 + 1) (w.heap.size + 1 + 1 + 1) x m hx hx' hm W4 (by omega) (by omega) b2 b3) KeepB.trans (keepB_b (by simp; omega)) (Below.refl _ _) (fun _ => rfl)
    (fun pre W => (W.heap[w.heap.size + 1]? = some (.cells #[Value.slice (some { block := w.heap.size, off := 0 }) m m] 35 (0, 0)) ∧ ∃ cs : Array Value, W.heap[w.heap.size]? = some (.cells cs 4 (0, 0)) ∧ cs.size = m ∧ ∀ j, j ∈ pre.map (·.1) → cs[j]? = some (.bool (bitW x j))) ∧ Below w.heap.size w W)
    (fun _ _ _ => False)
    (OwnFrom.and (Own.from (fun s A B row hs hg hr => ⟨block_kept hs.1 hg hr, by obtain ⟨cs, c1, c2⟩ := hs.2; exact ⟨cs, block_kept c1 hg hr, c2⟩⟩) _) (ownFrom_below (Nat.le_refl _) (by omega)))
    (fun _ _ _ _ _ hs _ _ => hs)
    ⟨⟨b1, _, b0, by simp [size_madeCells], by simp⟩, hB0⟩
    (fun y => { tmps := #[Value.int IntKind.u32 x, Value.int IntKind.i64 ↑m, undef, undef, Value.slice none 0 0,
          Value.int IntKind.i64 0, Value.int IntKind.u32 (mostW ↑m), Value.int IntKind.i64 0,
          Value.pointer (some { block := w.heap.size + 1, off := 0 }), .int .i64 (y.1 : Int), .bool (bitW x y.1),
          Value.tuple #[Value.int IntKind.u32 (mostW ↑m), Value.int IntKind.i64 0], Value.int IntKind.i64 ↑m,
          Value.tuple #[Value.int IntKind.u32 (mostW ↑m), Value.int IntKind.i64 0], Value.int IntKind.u32 (mostW ↑m),
          Value.int IntKind.i64 0, Value.int IntKind.i64 0, Value.bool false, undef, Value.int IntKind.i64 ↑m,
          Value.slice (some { block := w.heap.size, off := 0 }) m m, Value.int IntKind.u32 x, Value.int IntKind.i64 ↑m,
          Value.func (Fn.func 60) #[]
            #[Value.pointer (some { block := w.heap.size + 1 + 1 + 1, off := 0 }),
              Value.pointer (some { block := w.heap.size + 1 + 1, off := 0 })],
          .int .i64 (y.1 : Int), .bool (bitW x y.1), undef, undef, undef, undef, undef], defers := [] }) ?assign ?body ?done ?stop
  case assign =>
    intro l y W K hK
    gi_wp2
    exact hK
  case body =>
    rintro l pre ⟨y, hy⟩ W ⟨⟨hb1, cs, hc, hcs, hpre⟩, hB⟩ _
    have hpre := Lib.hid hpre
    have hcell := cell_block (j := 0) hb1
    have hcell2 : W.cell? ⟨w.heap.size, y, none⟩ = some cs[y] := by rw [cell_block hc]; simp
    have hfr := frozen_block (j := y) hc
    have hcs := Lib.hid hcs
    gi_wp2
    refine ⟨(KeepsOthers.setCell _ _ _).from _, ?_, ⟨?_, cs.setIfInBounds y (.bool (bitW x y)), heap_setCell_same W w.heap.size y cs 4 _ hc, by rw [Array.size_setIfInBounds]; exact hcs.out, ?_⟩, hB.setCell (p := ⟨w.heap.size, y, none⟩) (Nat.le_refl _) _⟩
    · intro b hb
      rw [List.mem_singleton] at hb
      subst hb
      exact heap_setCell_other W _ _ _ (by simp; omega)
    · rw [heap_setCell_other W _ _ _ (by simp)]; exact hb1
    · intro j hj
      rw [Array.getElem?_setIfInBounds]
      by_cases e : y = j
      · subst e
        have := hcs.out
        rw [if_pos rfl, if_pos (by omega)]
      · rw [if_neg e]
        refine hpre.out j ?_
        rw [List.map_append, List.mem_append] at hj
        rcases hj with hj | hj
        · exact hj
        · simp at hj; exact absurd hj.symm e
  case done =>
    rintro D ys W hD hS ⟨⟨hb1, cs, hc, hcs, hpre⟩, hB⟩ hK
    have hpre := Lib.hid hpre
    have hS := Lib.hid hS
    have hcs := Lib.hid hcs
    have hcell := cell_block (j := 0) hb1
    gi_wp2
    refine ⟨by simp, .inl ⟨_, _, rfl, run_takeDeferred hK, ?_⟩⟩
    have hp : ∀ b, b < W4.heap.size → (W.putObj D (.deferred none)).heap[b]? = W.heap[b]? := fun b hb => World.putObj_heap_other (by omega)
    refine ⟨_, results_tmp2 rfl _ _ _, w.heap.size, rfl, Nat.le_refl _, ?_, fun j hj => ?_, hB.trans (belowK_b (w := w) (Nat.le_refl _) W D _ _ (by omega) hK rfl rfl)⟩
    · have := hB.size
      have h2 : w.heap.size < W.heap.size := (Array.getElem?_eq_some_iff.1 hc).1
      simpa using h2
    · rw [World.cell?_of_block (w := W) (hp w.heap.size (by omega)), cell_block hc]
      exact hpre.out j (by rw [hS.out]; exact List.mem_range.2 hj)
  case stop =>
    rintro D c pre W _ _ h _
    exact h.elim
end Go.Proofs.Ytfgmcinegogdkaa
